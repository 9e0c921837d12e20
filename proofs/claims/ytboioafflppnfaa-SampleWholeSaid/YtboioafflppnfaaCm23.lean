/- The canonical machine: a call without addresses, known on no memory, is known on every memory. Conditions: none. -/
import Derived.Test.YtboioafflppnfaaCm22
namespace Go.Cm
open Go.RowKit
set_option linter.unusedVariables false
set_option linter.unusedSimpArgs false

/-- a result without addresses -/
def flatR : Value → Bool
  | .tuple vs => vs.toList.all flat
  | v => flat v
theorem flatR_eq {φ : Emb} {u v : Value} (h : RelV φ u v) (hf : flatR u = true) : v = u := by
  cases h with
  | @tuple a b hs hh =>
    simp only [flatR] at hf
    rw [List.all_eq_true] at hf
    congr 1
    refine Array.ext hs.symm fun i h1 h2 => ?_
    exact flat_eq (hh i a[i] b[i] (Array.getElem?_eq_getElem h2) (Array.getElem?_eq_getElem h1)) (hf _ (by simp))
  | top v => simp [flatR, flat, flat1, unk] at hf
  | @agg a b ho hs hh => exact flat_eq (.agg ho hs hh) hf
  | _ => first | rfl | (simp [flatR, flat, flat1] at hf)
theorem RelV.sameR {φ : Emb} {u : Value} (hf : flatR u = true) : RelV φ u u := by
  cases u with
  | tuple a =>
    simp only [flatR] at hf
    rw [List.all_eq_true] at hf
    exact .tuple rfl fun i v v' p q => by rw [p] at q; cases q; exact RelV.same (hf v (by simpa using Array.mem_of_getElem? p))
  | _ => exact RelV.same hf

theorem pure_call {P : Program} {M : Prg} {g : FuncId} {args : List Value} {v : Value} {h1 : Heap} (hmix : P.follows .mixedOrders = true) (hM : Knows P 0 M) (hev : Ev M (.call g args ⟨0, []⟩ v h1)) (hargs : args.all flat = true) (hv : flatR v = true)
    (B : Nat) (W0 : World) (h : Heap) : GoodCall P 0 B W0 g args h v h := by
  have hs := fun B W0 => (sound (B := B) (W0 := W0) hmix hM.fn (hM.orac B W0) hev).2
  refine ⟨(hs B W0).1, fun φ W args' s gl hr free => ?_⟩
  refine ((hs W.heap.size W).2 (fun _ => none) W args' (Sim.nothing W 0) (Glob.none _) (relL_flat hr hargs) (fun _ _ _ => rfl)).mono ?_
  rintro e W' ⟨φ', v', rfl, hv', s', x'⟩
  have := flatR_eq hv' hv
  subst this
  exact ⟨φ, v', rfl, RelV.sameR hv, s.below' s'.below, .below s'.below⟩

theorem Ev.mono {M M' : Prg} (hf : M'.fn = M.fn) (ho : ∀ g args h v h', M.orac g args h v h' → M'.orac g args h v h') {j : Jd} (H : Ev M j) : Ev M' j := by
  induction H with
  | prim hc => exact .prim hc
  | opcall _ ih => exact .opcall ih
  | opcallV hx _ ih => exact .opcallV hx ih
  | nil => exact .nil
  | run hw _ _ ih1 ih2 => exact .run hw ih1 ih2
  | pass hw _ ih => exact .pass hw ih
  | skip => exact .skip
  | region _ hx ih => exact .region ih hx
  | seqN _ _ ih1 ih2 => exact .seqN ih1 ih2
  | seqX _ hne ih => exact .seqX ih hne
  | condT hc _ ih => exact .condT hc ih
  | condF hc _ ih => exact .condF hc ih
  | blockX _ ih => exact .blockX ih
  | blockO _ hne ih => exact .blockO ih hne
  | loop _ ih => exact .loop ih
  | again _ _ ih1 ih2 => exact .again ih1 ih2
  | out _ hne ih => exact .out ih hne
  | exit => exact .exit
  | ret => exact .ret
  | fcall hF hl _ he hv ih => exact .fcall (by rw [hf]; exact hF) hl ih he hv
  | known h => exact .known (ho _ _ _ _ _ h)

end Go.Cm
