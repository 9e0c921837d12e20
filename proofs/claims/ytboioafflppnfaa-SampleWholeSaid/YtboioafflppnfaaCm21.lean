/- The canonical machine: oracles: calls that are known by themselves; an evaluator that asks them. Conditions: none. -/
import Derived.Test.YtboioafflppnfaaCm20
namespace Go.Cm
open Go.RowKit Go.ChangeShapes Go.WideShapes
set_option linter.unusedVariables false
set_option linter.unusedSimpArgs false

/-- the evaluator, with answers that are known ahead -/
def evalX (fn : FuncId → Option MFun) (orc : CallF) : Nat → CallF
  | 0, _, _, _ => none
  | k + 1, g, args, h => match orc g args h with
    | some r => some r
    | none => match fn g with
      | none => none
      | some F => if args.length = F.nargs then
          (match evalCode (evalX fn orc k) k F.body (initF 0 args) h with
          | some (.exit _, _, _) => none
          | some (_, f', h') => (match resC F.res f' h' with | some v => some (v, h') | none => none)
          | none => none)
        else none

/-- the program with such answers -/
def Prg.of (tab : List (Nat × MFun)) (orc : CallF) : Prg := ⟨lookF tab, fun g args h v h' => orc g args h = some (v, h')⟩

theorem evalX_ev {tab : List (Nat × MFun)} {orc : CallF} : ∀ (k : Nat) {g : FuncId} {args : List Value} {h : Heap} {v : Value} {h' : Heap}, evalX (lookF tab) orc k g args h = some (v, h') → Ev (Prg.of tab orc) (.call g args h v h')
  | 0, g, args, h, v, h', hr => by cases hr
  | k + 1, g, args, h, v, h', hr => by
    simp only [evalX] at hr
    split at hr
    · rename_i r ho
      cases hr
      exact .known ho
    split at hr
    · cases hr
    rename_i F hF
    split at hr
    rotate_left
    · cases hr
    rename_i hlen
    split at hr
    · cases hr
    · rename_i e f1 h1 hne hb
      split at hr
      rotate_left
      · cases hr
      rename_i v1 hv
      simp only [Option.some.injEq, Prod.mk.injEq] at hr
      obtain ⟨rfl, rfl⟩ := hr
      refine .fcall hF hlen (code_ev (M := Prg.of tab orc) (fun g args h v h' hc => evalX_ev k hc) hb) ?_ hv
      cases e with
      | norm => exact .inl rfl
      | ret => exact .inr rfl
      | exit i => exact absurd rfl (hne i)
    · cases hr

/-- what an answer that is known ahead must be -/
def OrcOK (P : Program) (G : Nat) (orc : CallF) : Prop := ∀ (B : Nat) (W0 : World) g args h v h', orc g args h = some (v, h') → h.n ≤ h'.n ∧ GoodCall P G B W0 g args h v h'
theorem Knows.of {P : Program} {G : Nat} {tab : List (Nat × MFun)} {orc : CallF} (h : AllIn P G tab) (ho : OrcOK P G orc) : Knows P G (Prg.of tab orc) := ⟨lookF_ok h, ho⟩

theorem Sim.below' {B : Nat} {W0 : World} {φ : Emb} {H : HF} {W W' : World} (s : Sim B W0 φ H W) (b : Below W.heap.size W W') : Sim B W0 φ H W' where
  below := s.below.trans (b.mono s.inB)
  inB := Nat.le_trans s.inB b.size
  lt := fun c l h => Nat.lt_of_lt_of_le (s.lt c l h) b.size
  obj := fun c l o h1 h2 => (s.obj c l o h1 h2).keep (fun _ _ h => h) (b.block l.b (s.lt c l h1))
  inj := s.inj
theorem Ext.below {φ : Emb} {H : Heap} {W W' : World} (b : Below W.heap.size W W') : Ext φ φ H H W W' where
  sub := fun _ _ h => h
  dom := fun c l h h' => by rw [h] at h'; cases h'
  img := fun c l h h' => by rw [h] at h'; cases h'
  keepW := fun k hk _ => b.block k hk
  keepH := fun _ _ _ => rfl
  excl := fun c o' _ h e => ⟨o', h, e⟩
  size := b.size
  le := Nat.le_refl _

theorem relL_flat {φ ψ : Emb} : ∀ {us vs : List Value}, RelL φ us vs → us.all flat = true → RelL ψ us vs
  | us, vs, h, hf => by
    refine ⟨h.1, fun i u v p q => ?_⟩
    have := h.2 i u v p q
    rw [List.all_eq_true] at hf
    have hu := hf u (List.mem_of_getElem? p)
    rw [flat_eq this hu]
    exact RelV.same hu

/-- a call without memory that came in: known on every memory -/
theorem closed_call {P : Program} {M : Prg} {g : FuncId} {args : List Value} {v : Value} {h1 : Heap} (hmix : P.follows .mixedOrders = true) (hM : Knows P 0 M) (hev : Ev M (.call g args ⟨0, []⟩ v h1)) (hargs : args.all flat = true) (hv : flat v = true)
    (B : Nat) (W0 : World) (h : Heap) : GoodCall P 0 B W0 g args h v h := by
  have hs := fun B W0 => (sound (B := B) (W0 := W0) hmix hM.fn (hM.orac B W0) hev).2
  refine ⟨(hs B W0).1, fun φ W args' s gl hr free => ?_⟩
  refine ((hs W.heap.size W).2 (fun _ => none) W args' (Sim.nothing W 0) (Glob.none _) (relL_flat hr hargs) (fun _ _ _ => rfl)).mono ?_
  rintro e W' ⟨φ', v', rfl, hv', s', x'⟩
  have := flat_eq hv' hv
  subst this
  exact ⟨φ, v', rfl, RelV.same hv, s.below' s'.below, .below s'.below⟩

/-- such calls, each with its answer -/
def orcOf : List (Nat × Value) → CallF
  | [], _, _, _ => none
  | (k, v) :: r, g, args, h => match Nat.beq k g && args.isEmpty with
    | true => some (v, h)
    | false => orcOf r g args h
theorem orcOf_ok {P : Program} {G : Nat} : ∀ {l : List (Nat × Value)}, (∀ p ∈ l, ∀ B W0 h, GoodCall P G B W0 p.1 [] h p.2 h) → OrcOK P G (orcOf l)
  | [], _ => fun B W0 g args h v h' ho => by cases ho
  | (k, u) :: r, hp => fun B W0 g args h v h' ho => by
    simp only [orcOf] at ho
    cases hk : (Nat.beq k g && args.isEmpty) with
    | true =>
      rw [hk] at ho
      simp only [Option.some.injEq, Prod.mk.injEq] at ho
      obtain ⟨rfl, rfl⟩ := ho
      rw [Bool.and_eq_true] at hk
      obtain ⟨h1, h2⟩ := hk
      have := Nat.eq_of_beq_eq_true h1
      subst this
      cases args with
      | nil => exact ⟨Nat.le_refl _, hp (k, u) (by simp) B W0 h⟩
      | cons _ _ => cases h2
    | false =>
      rw [hk] at ho
      exact orcOf_ok (fun p hm => hp p (by simp [hm])) B W0 g args h v h' ho

/-- one answer or the other -/
def orcOr (a b : CallF) : CallF := fun g args h => match a g args h with | some r => some r | none => b g args h
theorem orcOr_ok {P : Program} {G : Nat} {a b : CallF} (ha : OrcOK P G a) (hb : OrcOK P G b) : OrcOK P G (orcOr a b) := fun B W0 g args h v h' ho => by
  unfold orcOr at ho
  split at ho
  · rename_i r hr; cases ho; exact ha B W0 g args h v h' hr
  · exact hb B W0 g args h v h' ho
def orcNone : CallF := fun _ _ _ => none
theorem orcNone_ok {P : Program} {G : Nat} : OrcOK P G orcNone := fun B W0 g args h v h' ho => by cases ho

end Go.Cm
