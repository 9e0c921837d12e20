/- The canonical machine: calls and single operations aS steps of the model's; regions in the order of the text. Conditions: none. -/
import Derived.Test.YtboioafflppnfaaCm12
namespace Go.Cm
open Go.RowKit
set_option linter.unusedVariables false
set_option linter.unusedSimpArgs false

section
variable (P : Program) (G B : Nat) (W0 : World)

/-- a function that the model enters when it is called -/
def Callable (g : FuncId) : Prop := ∃ fn, P.funcs[g]? = some fn ∧ (fn.name == "runtime.NumGoroutine") = false ∧ fn.body.isSome = true

def GoodCall (g : FuncId) (args : List Value) (h : Heap) (v : Value) (h' : Heap) : Prop :=
  Callable P g ∧ ∀ (φ : Emb) (W : World) (args' : Array Value), Sim B W0 φ h.get? W → Glob G φ → RelL φ args args'.toList → Free φ h h' →
    Calls P g args' W fun e W' => ∃ φ' v', e = .returned v' ∧ RelV φ' v v' ∧ Sim B W0 φ' h'.get? W' ∧ Ext φ φ' h h' W W'

def isCall : MOp → Bool
  | .call .. | .callV .. => true
  | _ => false

def GoodOp (o : MOp) (f : Fr) (h : Heap) (v : Value) (h' : Heap) : Prop :=
  o ≠ .bad ∧ (isCall o = false → cop f.ev h o = some (v, h')) ∧ ∀ (op : Oper), resOp P G op.op = o → ∀ (φ : Emb) (W : World) (a : Act), Sim B W0 φ h.get? W → Glob G φ → (∀ x ∈ op.op.operands.toList, RelV φ (f.ev x) (a.eval x)) → Free φ h h' →
    ∀ (next : Act → World → Prop) (Q : Exit → Act → World → Prop), (∀ φ' v' W', RelV φ' v v' → Sim B W0 φ' h'.get? W' → Ext φ φ' h h' W W' → next (a.put op.dst v') W') → op.wp P a W next Q

variable {P G B W0}

theorem goodOp_prim {o : MOp} {f : Fr} {h h' : Heap} {v : Value} (hc : cop f.ev h o = some (v, h')) : GoodOp P G B W0 o f h v h' := by
  refine ⟨fun e => by subst e; simp [cop] at hc, fun _ => hc, fun op hres φ W a s gl hx free next Q hn => ?_⟩
  obtain ⟨φ', v', W', hr, hv, s', x'⟩ := prim_sound (P := P) (G := G) (o := op) (ρ := f.ev) (ρ' := a.eval) s hx (by rw [hres]; exact hc) free
  unfold Oper.wp
  rcases hr with hr | ⟨hr, rfl⟩
  · rw [hr]; exact hn φ' v' W' hv s' x'
  · rw [hr]; exact hn φ' undef W' hv s' x'

theorem resEq_noCall {neg : Bool} {op : BinOp} {t : TypeId} {x y : Operand} : isCall (resEq P neg op t x y) = false := by
  unfold resEq
  repeat' split
  all_goals rfl
theorem resBuiltin_noCall {b : Builtin} {ts : Array TypeId} {args : List Operand} : isCall (resBuiltin P b ts args) = false := by
  unfold resBuiltin
  repeat' split
  all_goals rfl
theorem resO_call {op : Op} (h : isCall (resO P op) = true) : ∃ x args ts, op = .call ⟨.value x, args, ts⟩ := by
  cases op with
  | call c =>
    obtain ⟨callee, args, ts⟩ := c
    cases callee with
    | value x => exact ⟨x, args, ts, rfl⟩
    | invoke r m => simp [resO, isCall] at h
    | builtin b => simp only [resO] at h; rw [resBuiltin_noCall] at h; cases h
  | binOp op t x y yt =>
    simp only [resO] at h
    split at h
    · rw [resEq_noCall] at h; cases h
    · rw [resEq_noCall] at h; cases h
    · cases h
  | makeFunc fn a b => cases fn <;> cases h
  | makeMap t r => cases r <;> cases h
  | _ =>
    exfalso
    revert h
    simp only [resO]
    repeat' split
    all_goals simp [isCall]

theorem run_callFunc {g : FuncId} (hc : Callable P g) (args : Array Value) (W : World) : (callFunc g args).run P W = .ok (.enter g args) W := by
  obtain ⟨fn, h1, h2, h3⟩ := hc
  have h4 : fn.body.isNone = false := by cases hb : fn.body <;> simp_all
  simp only [callFunc, Sem.run_bind, run_program, Result.andThen_ok, h1, h2, h4, Bool.false_eq_true, if_false, Sem.run_pure]

theorem relL_map {φ : Emb} {f : Fr} {a : Act} {l : Array Operand} (h : ∀ x ∈ l, RelV φ (f.ev x) (a.eval x)) : RelL φ (l.toList.map f.ev) (l.map a.eval).toList := by
  refine ⟨by simp, fun i u w p q => ?_⟩
  simp only [List.getElem?_map, Array.toList_map] at p q
  cases hi : l.toList[i]? with
  | none => rw [hi] at p; cases p
  | some x =>
    rw [hi] at p q
    cases p; cases q
    exact h x (by have := List.mem_of_getElem? hi; simpa using this)

theorem goodOp_enter {op : Oper} {g : FuncId} {f : Fr} {h h' : Heap} {v : Value} {args : List Value} {args' : Array Value} {φ : Emb} {W : World} {a : Act} (hg : GoodCall P G B W0 g args h v h')
    (s : Sim B W0 φ h.get? W) (gl : Glob G φ) (hr : RelL φ args args'.toList) (free : Free φ h h') (hrun : (execOp a.eval op).run P W = .ok (.enter g args') W)
    {next : Act → World → Prop} {Q : Exit → Act → World → Prop} (hn : ∀ φ' v' W', RelV φ' v v' → Sim B W0 φ' h'.get? W' → Ext φ φ' h h' W W' → next (a.put op.dst v') W') : op.wp P a W next Q := by
  unfold Oper.wp
  rw [hrun, Oper.upon_enter]
  refine (hg.2 φ W args' s gl hr free).mono ?_
  rintro e W' ⟨φ', v', rfl, hv, s', x'⟩
  exact hn φ' v' W' hv s' x'

theorem goodOp_call {g : FuncId} {args : List Operand} {f : Fr} {h h' : Heap} {v : Value} (hg : GoodCall P G B W0 g (args.map f.ev) h v h') : GoodOp P G B W0 (.call g args) f h v h' := by
  refine ⟨by simp, fun e => (by cases e), fun op hres φ W a s gl hx free next Q hn => ?_⟩
  unfold resOp at hres
  split at hres
  rotate_left
  · cases hres
  obtain ⟨x, aS, ts, ho⟩ := resO_call (P := P) (op := op.op) (by rw [hres]; rfl)
  rw [ho] at hres hx
  cases x with
  | func k =>
    simp only [resO, MOp.call.injEq] at hres
    obtain ⟨rfl, rfl⟩ := hres
    refine goodOp_enter (f := f) hg s gl (relL_map (f := f) (a := a) fun x hxm => hx x (by simp [Op.operands, Call.operands]; exact .inr hxm)) free ?_ hn
    obtain ⟨dst, opo, type, pos, after, guard⟩ := op
    simp only at ho
    subst ho
    simp [execOp, resolve, Deferred.ofValue, invoke, Act.eval, run_callFunc hg.1]
  | tmp t => simp [resO] at hres
  | const c => simp [resO] at hres
  | global c => simp [resO] at hres

theorem goodOp_callV {x : Operand} {g : FuncId} {args : List Operand} {first caps : Array Value} {f : Fr} {h h' : Heap} {v : Value} (hxv : f.ev x = .func (.func g) first caps)
    (hg : GoodCall P G B W0 g (first.toList ++ args.map f.ev ++ caps.toList) h v h') : GoodOp P G B W0 (.callV x args) f h v h' := by
  refine ⟨by simp, fun e => (by cases e), fun op hres φ W a s gl hx free next Q hn => ?_⟩
  unfold resOp at hres
  split at hres
  rotate_left
  · cases hres
  obtain ⟨y, aS, ts, ho⟩ := resO_call (P := P) (op := op.op) (by rw [hres]; rfl)
  rw [ho] at hres hx
  have hy : y = x ∧ aS.toList = args := by
    cases y <;> simp only [resO, MOp.callV.injEq] at hres <;> first | exact hres | cases hres
  obtain ⟨rfl, rfl⟩ := hy
  have hv := hx y (by simp [Op.operands, Call.operands])
  rw [hxv] at hv
  obtain ⟨b, d, he, h1, h2⟩ := relV_func hv
  refine goodOp_enter (f := f) (args' := b ++ aS.map a.eval ++ d) hg s gl ?_ free ?_ hn
  · simp only [Array.toList_append]
    exact (h1.append (relL_map (f := f) (a := a) fun x hxm => hx x (by simp [Op.operands, Call.operands]; exact .inr hxm))).append h2
  · obtain ⟨dst, opo, type, pos, after, guard⟩ := op
    simp only at ho
    subst ho
    simp [execOp, resolve, Deferred.ofValue, invoke, he, run_callFunc hg.1]

/-! ### a region's operations -/

/-- what is known of a region's run, operation by operation -/
def Chain (P : Program) (G B : Nat) (W0 : World) : List MO → Fr → Heap → List Tr → Fr → Heap → Prop
  | [], f, h, [], f', h' => f' = f ∧ h' = h
  | o :: r, f, h, t :: trs, f', h' => t.f = f ∧ t.h = h ∧ ((t.ran = true ∧ wantedC f o.guard = some true ∧ GoodOp P G B W0 o.op f h t.v t.h') ∨ (t.ran = false ∧ wantedC f o.guard = some false ∧ t.h' = h ∧ t.v = undef)) ∧
      h.n ≤ t.h'.n ∧ Chain P G B W0 r (f.put o.dst t.v) t.h' trs f' h'
  | _, _, _, _, _, _ => False

theorem wanted_ok {nt : Nat} {ops : Array Oper} {o : Oper} {φ : Emb} {f : Fr} {tmps : Array Value} {g : Option (Nat × Bool)} {b : Bool} (hg : resGuard ops o.guard = some g)
    (hr : ∀ t want, g = some (t, want) → RelV φ (f.get t) (tmps.getD t undef)) (hw : wantedC f g = some b) : Region.wanted o (yielded ops tmps) = b := by
  unfold resGuard at hg
  split at hg
  · rename_i hn
    cases hg
    simp only [wantedC, Option.some.injEq] at hw
    subst hw
    simp [Region.wanted, hn]
  · rename_i j want hn
    split at hg
    · rename_i t ht
      cases hg
      have hrel := hr t want rfl
      simp only [wantedC] at hw
      simp only [Region.wanted, hn, yielded, ht, Option.bind_some]
      split at hw
      · rename_i c hc
        rw [hc] at hrel
        have := relV_bool hrel
        cases hw
        have hget : tmps[t]? = some (.bool c) := by
          cases hq : tmps[t]? with
          | none => simp [Array.getD_eq_getD_getElem?, hq, undef] at this
          | some w => simp [Array.getD_eq_getD_getElem?, hq] at this; rw [this]
        rw [hget]
        cases c <;> cases want <;> rfl
      · rename_i vs hc
        split at hw
        rotate_left
        · cases hw
        rename_i hsz
        have hvs : vs = #[] := Array.size_eq_zero_iff.1 hsz
        subst hvs
        rw [hc] at hrel
        have := relV_undef' hrel
        cases hw
        cases hq : tmps[t]? with
        | none => simp
        | some w => simp [Array.getD_eq_getD_getElem?, hq] at this; rw [this]; simp [undef]
      · cases hw
    · cases hg

theorem RelF.put {φ : Emb} {f : Fr} {a : Act} {d : Option Nat} {v v' : Value} (r : RelF φ f a.tmps) (hv : RelV φ v v') (hd : ∀ t, d = some t → t < a.tmps.size) : RelF φ (f.put d v) (a.put d v').tmps := by
  cases d with
  | none => exact r
  | some t =>
    intro s
    have ht := hd t rfl
    simp only [Fr.put, Fr.get, Act.put]
    by_cases hs : s = t
    · subst hs
      simp [Array.getD_eq_getD_getElem?, ht, hv]
    · rw [if_neg hs]
      have := r s
      simpa [Array.getD_eq_getD_getElem?, Array.getElem?_setIfInBounds_ne (Ne.symm hs)] using this
theorem put_size {a : Act} {d : Option Nat} {v : Value} : (a.put d v).tmps.size = a.tmps.size := by cases d <;> simp [Act.put]
theorem put_defers {a : Act} {d : Option Nat} {v : Value} : (a.put d v).defers = a.defers := by cases d <;> rfl

theorem resMO_inv {nt : Nat} {ops : Array Oper} {o : Oper} (h : (resMO P G nt ops o).op ≠ .bad ∨ (resMO P G nt ops o).guard ≠ none) : ∃ g, resGuard ops o.guard = some g ∧ (∀ t, o.dst = some t → t < nt) ∧ resMO P G nt ops o = ⟨o.dst, resOp P G o.op, g⟩ := by
  unfold resMO at h ⊢
  cases hg : resGuard ops o.guard with
  | none => rw [hg] at h; simp at h
  | some g =>
    rw [hg] at h
    simp only at h ⊢
    by_cases hd : dstOK nt o.dst = true
    · rw [if_pos hd]
      refine ⟨g, rfl, fun t ht => ?_, rfl⟩
      rw [ht] at hd
      simpa [dstOK] using hd
    · rw [if_neg hd] at h; simp at h

theorem resOp_ok {op : Op} (h : resOp P G op ≠ .bad) : ∀ x ∈ op.operands.toList, okX G x = true := by
  unfold resOp at h
  split at h
  · rename_i hk; rwa [List.all_eq_true] at hk
  · simp at h

/-- the state's relation -/
structure St (B : Nat) (W0 : World) (G nt : Nat) (φ : Emb) (f : Fr) (h : Heap) (a : Act) (W : World) : Prop where
  sim : Sim B W0 φ h.get? W
  glob : Glob G φ
  rel : RelF φ f a.tmps
  size : a.tmps.size = nt

theorem chain_text {nt : Nat} {ops : Array Oper} {Q : Exit → Act → World → Prop} : ∀ {l : List MO} {f : Fr} {h : Heap} {trs : List Tr} {f' : Fr} {h' : Heap} {i : Nat} {φ : Emb} {a : Act} {W : World},
    Chain P G B W0 l f h trs f' h' → l = (ops.toList.drop i).map (resMO P G nt ops) → St B W0 G nt φ f h a W → Free φ h h' →
    (∀ φ' a' W', St B W0 G nt φ' f' h' a' W' → Ext φ φ' h h' W W' → a'.defers = a.defers → Q .normal a' W') → wpOps P ops Q (List.range' i (ops.size - i)) a W
  | [], f, h, [], f', h', i, φ, a, W, hc, hl, st, free, hq => by
    obtain ⟨rfl, rfl⟩ := hc
    have hlen : ops.size - i = 0 := by
      have := congrArg List.length hl
      simp at this; omega
    rw [hlen]
    exact hq φ a W st .refl rfl
  | [], _, _, _ :: _, _, _, _, _, _, _, hc, _, _, _, _ => hc.elim
  | _ :: _, _, _, [], _, _, _, _, _, _, hc, _, _, _, _ => hc.elim
  | o :: r, f, h, t :: trs, f', h', i, φ, a, W, hc, hl, st, free, hq => by
    obtain ⟨h1, h2, h3, hle, h4⟩ := hc
    have hi : i < ops.size := by
      rcases Nat.lt_or_ge i ops.size with g | g
      · exact g
      · rw [List.drop_eq_nil_of_le (by simpa using g)] at hl; cases hl
    have hdrop : ops.toList.drop i = ops[i] :: ops.toList.drop (i + 1) := by
      rw [List.drop_eq_getElem_cons (by simpa using hi)]; simp
    rw [hdrop, List.map_cons, List.cons.injEq] at hl
    obtain ⟨ho, hr⟩ := hl
    have hrange : List.range' i (ops.size - i) = i :: List.range' (i + 1) (ops.size - (i + 1)) := by
      rw [show ops.size - i = (ops.size - (i + 1)) + 1 from by omega, List.range'_succ]
    have hget : ops[i]? = some ops[i] := Array.getElem?_eq_getElem hi
    have hchainle : t.h'.n ≤ h'.n := by
      have : ∀ {l : List MO} {f : Fr} {h : Heap} {trs : List Tr} {f' : Fr} {h' : Heap}, Chain P G B W0 l f h trs f' h' → h.n ≤ h'.n := by
        intro l
        induction l with
        | nil => intro f h trs f' h' hc; cases trs with
          | nil => obtain ⟨_, rfl⟩ := hc; exact Nat.le_refl _
          | cons _ _ => exact hc.elim
        | cons o r ih => intro f h trs f' h' hc; cases trs with
          | nil => exact hc.elim
          | cons t trs => obtain ⟨_, _, _, q, hc⟩ := hc; exact Nat.le_trans q (ih hc)
      exact this h4
    rw [hrange]
    simp only [wpOps, hget]
    have hinv : ∃ g, resGuard ops ops[i].guard = some g ∧ (∀ t, ops[i].dst = some t → t < nt) ∧ o = ⟨ops[i].dst, resOp P G ops[i].op, g⟩ := by
      rw [ho]
      refine resMO_inv ?_
      rcases h3 with ⟨_, _, hg⟩ | ⟨_, hw, _⟩
      · left; rw [← ho]; exact hg.1
      · right; rw [← ho]; intro e; rw [e] at hw; simp [wantedC] at hw
    obtain ⟨g, hg1, hg2, rfl⟩ := hinv
    have hdst : ∀ t, ops[i].dst = some t → t < a.tmps.size := fun t ht => by rw [st.size]; exact hg2 t ht
    rcases h3 with ⟨e1, hw, hgood⟩ | ⟨e1, hw, e3, e4⟩
    · rw [if_pos (wanted_ok (nt := nt) hg1 (fun t _ _ => st.rel t) hw)]
      left
      refine hgood.2.2 ops[i] rfl φ W a st.sim st.glob (fun x hx => st.rel.ev st.glob (resOp_ok hgood.1 x hx)) (free.left hchainle) _ Q ?_
      intro φ' v' W' hv s' x'
      refine chain_text h4 hr ⟨s', st.glob.mono x'.sub, (st.rel.mono x'.sub).put hv hdst, put_size.trans st.size⟩ (free.right x') ?_
      intro φ2 a2 W2 st2 x2 hd2
      exact hq φ2 a2 W2 st2 (x'.trans x2 free) (hd2.trans put_defers)
    · rw [if_neg (by rw [wanted_ok (nt := nt) hg1 (fun t _ _ => st.rel t) hw]; simp)]
      rw [e4, e3] at h4
      refine chain_text h4 hr ⟨st.sim, st.glob, st.rel.put relV_undef hdst, put_size.trans st.size⟩ free ?_
      intro φ2 a2 W2 st2 x2 hd2
      exact hq φ2 a2 W2 st2 x2 (hd2.trans put_defers)

end
end Go.Cm
