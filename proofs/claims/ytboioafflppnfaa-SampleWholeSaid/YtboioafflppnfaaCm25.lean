/- The canonical machine: a program closed under its calls without addresses. Conditions: none. -/
import Derived.Test.YtboioafflppnfaaCm24
namespace Go.Cm
open Go.RowKit
set_option linter.unusedVariables false
set_option linter.unusedSimpArgs false

/-- the program, with its calls without addresses -/
def Prg.pure (M : Prg) : Prg := ⟨M.fn, fun g args h v h' => M.orac g args h v h' ∨ (args.all flat = true ∧ flatR v = true ∧ h' = h ∧ ∃ h1, Ev M (.call g args ⟨0, []⟩ v h1)) ∨
  (args.all flat = true ∧ ∃ v1 h1, Ev M (.call g args ⟨0, []⟩ v1 h1) ∧ madeOnly h1 = true ∧ v = shR h.n v1 ∧ h' = h.add h1)⟩
def Prg.pureN (M : Prg) : Nat → Prg
  | 0 => M
  | n + 1 => (M.pureN n).pure
def Prg.inf (M : Prg) : Prg := ⟨M.fn, fun g args h v h' => ∃ n, (M.pureN n).orac g args h v h'⟩

theorem Prg.pureN_fn {M : Prg} : ∀ n, (M.pureN n).fn = M.fn
  | 0 => rfl
  | n + 1 => Prg.pureN_fn n
theorem Prg.pureN_up {M : Prg} {g : FuncId} {args : List Value} {h h' : Heap} {v : Value} {n : Nat} (H : (M.pureN n).orac g args h v h') : ∀ d, (M.pureN (n + d)).orac g args h v h'
  | 0 => H
  | d + 1 => .inl (Prg.pureN_up H d)
theorem Prg.pureN_mono {M : Prg} {n m : Nat} (h : n ≤ m) {j : Jd} (H : Ev (M.pureN n) j) : Ev (M.pureN m) j :=
  H.mono ((Prg.pureN_fn m).trans (Prg.pureN_fn n).symm) fun g args h v h' ho => by
    have := Prg.pureN_up ho (m - n)
    rwa [show n + (m - n) = m from by omega] at this

theorem Ev.level {M : Prg} {j : Jd} (H : Ev M.inf j) : ∃ n, Ev (M.pureN n) j := by
  induction H with
  | prim hc => exact ⟨0, .prim hc⟩
  | opcall _ ih => obtain ⟨n, ih⟩ := ih; exact ⟨n, .opcall ih⟩
  | opcallV hx _ ih => obtain ⟨n, ih⟩ := ih; exact ⟨n, .opcallV hx ih⟩
  | nil => exact ⟨0, .nil⟩
  | run hw _ _ ih1 ih2 =>
    obtain ⟨n, ih1⟩ := ih1; obtain ⟨m, ih2⟩ := ih2
    exact ⟨n + m, .run hw (Prg.pureN_mono (by omega) ih1) (Prg.pureN_mono (by omega) ih2)⟩
  | pass hw _ ih => obtain ⟨n, ih⟩ := ih; exact ⟨n, .pass hw ih⟩
  | skip => exact ⟨0, .skip⟩
  | region _ hx ih => obtain ⟨n, ih⟩ := ih; exact ⟨n, .region ih hx⟩
  | seqN _ _ ih1 ih2 =>
    obtain ⟨n, ih1⟩ := ih1; obtain ⟨m, ih2⟩ := ih2
    exact ⟨n + m, .seqN (Prg.pureN_mono (by omega) ih1) (Prg.pureN_mono (by omega) ih2)⟩
  | seqX _ hne ih => obtain ⟨n, ih⟩ := ih; exact ⟨n, .seqX ih hne⟩
  | condT hc _ ih => obtain ⟨n, ih⟩ := ih; exact ⟨n, .condT hc ih⟩
  | condF hc _ ih => obtain ⟨n, ih⟩ := ih; exact ⟨n, .condF hc ih⟩
  | blockX _ ih => obtain ⟨n, ih⟩ := ih; exact ⟨n, .blockX ih⟩
  | blockO _ hne ih => obtain ⟨n, ih⟩ := ih; exact ⟨n, .blockO ih hne⟩
  | loop _ ih => obtain ⟨n, ih⟩ := ih; exact ⟨n, .loop ih⟩
  | again _ _ ih1 ih2 =>
    obtain ⟨n, ih1⟩ := ih1; obtain ⟨m, ih2⟩ := ih2
    exact ⟨n + m, .again (Prg.pureN_mono (by omega) ih1) (Prg.pureN_mono (by omega) ih2)⟩
  | out _ hne ih => obtain ⟨n, ih⟩ := ih; exact ⟨n, .out ih hne⟩
  | exit => exact ⟨0, .exit⟩
  | ret => exact ⟨0, .ret⟩
  | fcall hF hl _ he hv ih => obtain ⟨n, ih⟩ := ih; exact ⟨n, .fcall (by rw [Prg.pureN_fn]; exact hF) hl ih he hv⟩
  | known h => obtain ⟨n, h⟩ := h; exact ⟨n, .known h⟩

/-- a call without addresses may be made on no memory -/
structure PureClosed (M : Prg) : Prop where
  pure : ∀ {g args v h1}, Ev M (.call g args ⟨0, []⟩ v h1) → args.all flat = true → flatR v = true → ∀ h, Ev M (.call g args h v h)
  made : ∀ {g args v h1}, Ev M (.call g args ⟨0, []⟩ v h1) → args.all flat = true → madeOnly h1 = true → ∀ h, Ev M (.call g args h (shR h.n v) (h.add h1))
theorem Prg.inf_pure (M : Prg) : PureClosed M.inf where
  pure := fun H ha hv h => by
    obtain ⟨n, H⟩ := H.level
    exact .known ⟨n + 1, .inr (.inl ⟨ha, hv, rfl, _, H⟩)⟩
  made := fun H ha hm h => by
    obtain ⟨n, H⟩ := H.level
    exact .known ⟨n + 1, .inr (.inr ⟨ha, _, _, H, hm, rfl, rfl⟩)⟩

theorem Knows.pureN {P : Program} {M : Prg} (hmix : P.follows .mixedOrders = true) (hM : Knows P 0 M) : ∀ n, Knows P 0 (M.pureN n)
  | 0 => hM
  | n + 1 => by
    have ih := hM.pureN hmix n
    refine ⟨ih.fn, fun B W0 g args h v h' ho => ?_⟩
    rcases ho with ho | ⟨h1, h2, rfl, k, h3⟩ | ⟨h1, v1, k, h2, h3, rfl, rfl⟩
    · exact ih.orac B W0 g args h v h' ho
    · exact ⟨Nat.le_refl _, pure_call hmix ih h3 h1 h2 B W0 _⟩
    · exact ⟨by simp [Heap.add], made_call hmix ih h2 h1 h3 B W0 _⟩
theorem Knows.inf {P : Program} {M : Prg} (hmix : P.follows .mixedOrders = true) (hM : Knows P 0 M) : Knows P 0 M.inf :=
  ⟨hM.fn, fun B W0 g args h v h' ⟨n, ho⟩ => (hM.pureN hmix n).orac B W0 g args h v h' ho⟩

/-- such a call, as a walk uses it -/
theorem Cl.pure {M : Prg} (hp : PureClosed M) {g : FuncId} {args : List Value} {K : Value → Prop} (ha : args.all flat = true) (H : Cl M g args ⟨0, []⟩ fun v _ => flatR v = true ∧ K v) (h : Heap) : Cl M g args h fun v h' => K v ∧ h' = h := by
  obtain ⟨v, h1, he, hv, hk⟩ := H
  exact ⟨v, h, hp.pure he ha hv h, hk, rfl⟩
/-- such a call, reckoned -/
theorem Cl.run {M : Prg} (hp : PureClosed M) {tab : List (Nat × MFun)} (hf : M.fn = lookF tab) {g : FuncId} {args : List Value} {K : Value → Prop} (n : Nat) (h : Heap) {r : Option (Value × Heap)} (hr : evalCall (lookF tab) n g args ⟨0, []⟩ = r)
    (ha : args.all flat = true) (hk : ∃ v h1, r = some (v, h1) ∧ flatR v = true ∧ K v) : Cl M g args h fun v h' => K v ∧ h' = h := by
  obtain ⟨v, h1, rfl, hv, hk⟩ := hk
  rw [← hf] at hr
  exact Cl.pure hp ha ⟨v, h1, call_ev n hr, hv, hk⟩ h

/-- such a call that has made memory -/
theorem Cl.made {M : Prg} (hp : PureClosed M) {g : FuncId} {args : List Value} {K : Value → Heap → Prop} (ha : args.all flat = true) (H : Cl M g args ⟨0, []⟩ fun v h1 => madeOnly h1 = true ∧ K v h1) (h : Heap) :
    Cl M g args h fun v h' => ∃ v1 h1, madeOnly h1 = true ∧ K v1 h1 ∧ v = shR h.n v1 ∧ h' = h.add h1 := by
  obtain ⟨v, h1, he, hv, hk⟩ := H
  exact ⟨_, _, hp.made he ha hv h, v, h1, hv, hk, rfl, rfl⟩

theorem Le.add {h h1 : Heap} (hl : h1.l.length = h1.n) : Le h (h.add h1) := ⟨by simp [Heap.add], fun c hc => by rw [get_add hl, if_pos hc]⟩
theorem madeOnly_len {h : Heap} (hm : madeOnly h = true) : h.l.length = h.n := by
  unfold madeOnly at hm
  rw [Bool.and_eq_true] at hm
  exact Nat.eq_of_beq_eq_true hm.1

end Go.Cm
