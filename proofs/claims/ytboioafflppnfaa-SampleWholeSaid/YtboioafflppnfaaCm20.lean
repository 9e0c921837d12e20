/- The canonical machine: a law of which the canonical machine says that it is true for all arguments: its row's contract. Conditions: none. -/
import Derived.Test.YtboioafflppnfaaCm19
namespace Go.Cm
open Go.RowKit Go.ChangeShapes Go.WideShapes
set_option linter.unusedVariables false

section
variable {H : Type} {enc : TypeId × Value → H} {P : Program}

/-- what is known of the program: its functions' table, and what is known of others -/
structure Knows (P : Program) (G : Nat) (M : Prg) : Prop where
  fn : ∀ g F, M.fn g = some F → InProg P G g F
  orac : ∀ (B : Nat) (W0 : World) g args h v h', M.orac g args h v h' → h.n ≤ h'.n ∧ GoodCall P G B W0 g args h v h'

theorem Knows.bare {G : Nat} {tab : List (Nat × MFun)} (h : AllIn P G tab) : Knows P G (bare tab) := ⟨lookF_ok h, fun _ _ _ _ _ _ _ h => h.elim⟩

/-- the call, whatever the arguments -/
theorem law_calls {M : Prg} {g : FuncId} {ts : List TypeId} {shs : List (Bool × List Sh)} {W : World} {base : Nat} {args : Array Value} {ds : List (DataW H)} {p : List MemPlace} (hmix : P.follows .mixedOrders = true) (hM : Knows P 0 M)
    (hsh : shArgs P ts = some shs) (law : ∀ h us, IsArgs h shs us → ∃ h', Ev M (.call g us h (.bool true) h'))
    (hval : ∀ (j : Nat) t v, ts[j]? = some t → args[j]? = some v → Value.okWide P W .any base t v) (hd : DataW.TrodAll enc P W 0 (fun _ => true) true ts args.toList ds p) :
    Calls P g args W fun e W' => e = .returned (.bool true) ∧ Below W.heap.size W W' := by
  obtain ⟨φ, h, us, r, g1, e1, i1⟩ := open_args hsh (fun j t v p q => hval j t v p (by simpa using q)) hd _ _ (RO.start W)
  obtain ⟨h', hev⟩ := law h us i1
  refine door hmix hM.fn (hM.orac _ _) hev r.sim (Glob.none _) e1 fun c h1 _ => ?_
  cases hc : φ c with
  | none => rfl
  | some l => have := r.dom c l hc; omega

theorem law_contract {M : Prg} {g : FuncId} {fn : Func} {s : ChangeSpec} {tb : TypeId} {shs : List (Bool × List Sh)} {W : World} {base : Nat} {args : Array Value} {ds gs : List (DataW H)} {before : List MemPlace}
    (hmix : P.follows .mixedOrders = true) (hM : Knows P 0 M) (hl : laidOutB P = true) (hts : fn.params.toList.all (fun t => P.readableRec t && decide (t < P.types.size)) = true) (hsh : shArgs P fn.params.toList = some shs)
    (hv : s.vars = []) (hr : fn.resultTypes = #[tb]) (ht : P.underlying tb = some .bool) (hfn : ∀ ds : List (DataW H), ds.length = fn.params.toList.length → s.fn H ds = { results := [.lit (.bool true)], args := ds })
    (law : ∀ h us, IsArgs h shs us → ∃ h', Ev M (.call g us h (.bool true) h'))
    (hval : ∀ (j : Nat) t v, fn.params[j]? = some t → args[j]? = some v → Value.okWide P W .any base t v) (hW : DataW.Whole enc P fn.params.toList s.vars false W args.toList ds gs before) :
    Calls P g args W fun e W' => ∃ v, e = .returned v ∧ s.post enc P fn false true false false W args v W' := by
  have hW' := hW
  obtain ⟨p, q, hA, hV, rfl, hz, hn⟩ := hW
  refine (law_calls hmix hM hsh law (fun j t v p q => hval j t v (by simpa using p) q) hA).mono ?_
  rintro e W' ⟨rfl, hb⟩
  exact ⟨_, rfl, post_true hl hts hv hr ht hfn hW' hb⟩


/-- a value without addresses -/
def flat1 : Value → Bool
  | .bool _ | .int .. | .string _ => true
  | _ => false
def flat : Value → Bool
  | .agg cs => cs.toList.all flat1
  | v => flat1 v
theorem flat1_eq {φ : Emb} {u v : Value} (h : RelV φ u v) (hf : flat1 u = true) : v = u := by
  cases h <;> first | rfl | (simp [flat1, unk] at hf)
theorem flat_eq {φ : Emb} {u v : Value} (h : RelV φ u v) (hf : flat u = true) : v = u := by
  cases h with
  | @agg a b ho hs hh =>
    simp only [flat] at hf
    rw [List.all_eq_true] at hf
    congr 1
    refine Array.ext hs.symm fun i h1 h2 => ?_
    exact flat1_eq (hh i a[i] b[i] (Array.getElem?_eq_getElem h2) (Array.getElem?_eq_getElem h1)) (hf _ (by simp))
  | top v => simp [flat, flat1, unk] at hf
  | _ => first | rfl | (simp [flat, flat1] at hf)
theorem RelV.same {φ : Emb} {u : Value} (hf : flat u = true) : RelV φ u u := by
  cases u with
  | bool b => exact .bool b
  | int k n => exact .int k n
  | string s => exact .str s
  | agg a =>
    simp only [flat] at hf
    rw [List.all_eq_true] at hf
    refine .agg ?_ rfl fun i v v' p q => ?_
    · rw [List.all_eq_true]
      intro x hx
      have := hf x hx
      cases x with
      | bool b => rfl
      | int k n => rfl
      | string s => rfl
      | _ => simp [flat1] at this
    · rw [p] at q; cases q
      have := hf v (by simpa using Array.mem_of_getElem? p)
      cases v with
      | bool b => exact .bool b
      | int k n => exact .int k n
      | string s => exact .str s
      | _ => simp [flat1] at this
  | _ => simp [flat, flat1] at hf

end
end Go.Cm
