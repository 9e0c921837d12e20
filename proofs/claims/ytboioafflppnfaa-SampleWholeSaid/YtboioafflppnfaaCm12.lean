/- The canonical machine's primitive operations: every one that is resolved and succeeds is a step of the model's. Conditions: none. -/
import Derived.Test.YtboioafflppnfaaCm11
namespace Go.Cm
open Go.RowKit
set_option linter.unusedVariables false
set_option linter.unusedSimpArgs false

section
variable {B : Nat} {W0 : World} {φ : Emb} {H H' : Heap} {W : World} {v v' : Value} {P : Program} {G : Nat} {ρ ρ' : Operand → Value}

theorem run_builtin {b : Builtin} {c : Call} {o : Oper} (hc : c.callee = .builtin b) : (do let d ← resolve ρ' c o.type; invoke d.target d.args : Sem Next).run P W =
    (builtin b c.argTypes o.type (c.args.map fun | .const _ => true | _ => false) (c.args.map ρ')).run P W := by
  simp [resolve, hc, invoke]
  rfl

theorem binOp_eq_run {t : TypeId} {b : Bool} : ∀ (x y : Value), (Op.equal t x y).run P W = .ok b W → (∀ k n, x ≠ .int k n) → (∀ q, x ≠ .string q) → (∀ k n, x ≠ .float k n) → (∀ k n m, x ≠ .complex k n m) →
    (binOp .eql t x y).run P W = .ok (.bool b) W ∧ (binOp .neq t x y).run P W = .ok (.bool !b) W
  | .int k n, _, _, h, _, _, _ => absurd rfl (h k n)
  | .string q, _, _, _, h, _, _ => absurd rfl (h q)
  | .float k n, _, _, _, _, h, _ => absurd rfl (h k n)
  | .complex k n m, _, _, _, _, _, h => absurd rfl (h k n m)
  | .bool a, y, h, _, _, _, _ => by cases y <;> simp [binOp, h]
  | .pointer a, y, h, _, _, _, _ => by cases y <;> simp [binOp, h]
  | .slice a i j, y, h, _, _, _, _ => by cases y <;> simp [binOp, h]
  | .map a, y, h, _, _, _, _ => by cases y <;> simp [binOp, h]
  | .chan a, y, h, _, _, _, _ => by cases y <;> simp [binOp, h]
  | .func a i j, y, h, _, _, _, _ => by cases y <;> simp [binOp, h]
  | .nilFunc, y, h, _, _, _, _ => by cases y <;> simp [binOp, h]
  | .iface a i, y, h, _, _, _, _ => by cases y <;> simp [binOp, h]
  | .nilIface, y, h, _, _, _, _ => by cases y <;> simp [binOp, h]
  | .agg a, y, h, _, _, _, _ => by cases y <;> simp [binOp, h]
  | .tuple a, y, h, _, _, _, _ => by cases y <;> simp [binOp, h]

theorem optRel {x : Option Operand} (hρ : ∀ x, okX G x = true → RelV φ (ρ x) (ρ' x)) (h : ∀ y, x = some y → okX G y = true) : ∀ y, x = some y → RelV φ (ρ y) (ρ' y) := fun y hy => hρ y (h y hy)

set_option maxHeartbeats 1000000 in
theorem prim_sound {o : Oper} (s : Sim B W0 φ H.get? W) (hρ : ∀ x ∈ o.op.operands.toList, RelV φ (ρ x) (ρ' x)) (hc : cop ρ H (resOp P G o.op) = some (v, H')) (free : Free φ H H') :
    Prim B W0 φ H W ((execOp ρ' o).run P W) v H' := by
  unfold resOp at hc
  split at hc
  rotate_left
  · simp [cop] at hc
  rename_i hok
  rw [List.all_eq_true] at hok
  obtain ⟨dst, op, type, pos, after, guard⟩ := o
  cases op with
  | move x =>
    have hx := hρ x (by simp [Op.operands])
    simp only [resO, cop, Option.some.injEq, Prod.mk.injEq] at hc
    obtain ⟨rfl, rfl⟩ := hc
    exact Prim.pure s rfl hx
  | assign x =>
    have hx := hρ x (by simp [Op.operands])
    simp only [resO, cop, Option.some.injEq, Prod.mk.injEq] at hc
    obtain ⟨rfl, rfl⟩ := hc
    exact Prim.pure s rfl hx
  | pick c a b =>
    have h1 := hρ c (by simp [Op.operands])
    have h2 := hρ a (by simp [Op.operands])
    have h3 := hρ b (by simp [Op.operands])
    simp only [resO, cop] at hc
    split at hc
    · rename_i t ht
      simp only [Option.some.injEq, Prod.mk.injEq] at hc
      obtain ⟨rfl, rfl⟩ := hc
      rw [ht] at h1
      have hb := relV_bool h1
      refine Prim.pure (v' := if t then ρ' a else ρ' b) s ?_ (by cases t; exact h3; exact h2)
      simp [execOp, hb, asBool]
    · cases hc
  | alloc e =>
    simp only [resO] at hc
    split at hc
    · rename_i z hz
      simp only [cop, Option.some.injEq, Prod.mk.injEq] at hc
      obtain ⟨rfl, rfl⟩ := hc
      exact prim_new s free hz
    · simp [cop] at hc
  | box e x =>
    have hx := hρ x (by simp [Op.operands])
    simp only [resO, cop] at hc
    split at hc
    · rename_i cs hcs
      simp only [Option.some.injEq, Prod.mk.injEq] at hc
      obtain ⟨rfl, rfl⟩ := hc
      exact prim_box s free hx hcs
    · cases hc
  | build t ps =>
    have hps : ∀ p ∈ ps.toList, RelV φ (ρ p.2) (ρ' p.2) := fun p hp => hρ _ (by simp [Op.operands]; exact ⟨_, by simpa using hp⟩)
    simp only [resO] at hc
    split at hc
    · rename_i fs z ht hz
      split at hc
      · simp [cop] at hc
      rename_i ha
      split at hc
      · rename_i l hl
        simp only [cop] at hc
        split at hc
        · rename_i cs hcs
          simp only [Option.some.injEq, Prod.mk.injEq] at hc
          obtain ⟨rfl, rfl⟩ := hc
          exact prim_buildSt s ht hz (by simpa using ha) hl hps hcs
        · cases hc
      · simp [cop] at hc
    · rename_i n e z ht hz
      split at hc
      · rename_i sz hs
        simp only [cop] at hc
        split at hc
        · rename_i cs hcs
          simp only [Option.some.injEq, Prod.mk.injEq] at hc
          obtain ⟨rfl, rfl⟩ := hc
          exact prim_buildAr s ht hz hs hps hcs
        · cases hc
      · simp [cop] at hc
    · simp [cop] at hc
  | buildSlice t len ps =>
    have hps : ∀ p ∈ ps.toList, RelV φ (ρ p.2) (ρ' p.2) := fun p hp => hρ _ (by simp [Op.operands]; exact ⟨_, by simpa using hp⟩)
    simp only [resO] at hc
    split at hc
    · rename_i e ht
      split at hc
      · rename_i sz z hs hz
        split at hc
        · rename_i hcond
          simp only [cop] at hc
          split at hc
          · rename_i cs hcs
            simp only [Option.some.injEq, Prod.mk.injEq] at hc
            obtain ⟨rfl, rfl⟩ := hc
            exact prim_buildSlice s free ht hz hs hcond.1 hcond.2.1 hcond.2.2 hps hcs
          · cases hc
        · simp [cop] at hc
      · simp [cop] at hc
    · simp [cop] at hc
  | load t x =>
    have hx := hρ x (by simp [Op.operands])
    simp only [resO] at hc
    split at hc
    · rename_i n ha hn
      simp only [cop] at hc
      split at hc
      · rename_i a hxa
        rw [hxa] at hx
        split at hc
        · rename_i vs hvs
          simp only [Option.some.injEq, Prod.mk.injEq] at hc
          obtain ⟨rfl, rfl⟩ := hc
          exact prim_loadN s hx ha hn hvs
        · cases hc
      · cases hc
    · rename_i n ha hn
      simp only [cop] at hc
      split at hc
      · rename_i a hxa
        rw [hxa] at hx
        split at hc
        · rename_i vs hvs
          simp only [Option.some.injEq, Prod.mk.injEq] at hc
          obtain ⟨rfl, rfl⟩ := hc
          exact prim_load1 s hx ha hvs
        · cases hc
      · cases hc
    · simp [cop] at hc
  | store t x u =>
    have hx := hρ x (by simp [Op.operands])
    have hu := hρ u (by simp [Op.operands])
    simp only [resO] at hc
    split at hc
    · rename_i n hn
      simp only [cop] at hc
      split at hc
      · rename_i a vs hxa hvs
        rw [hxa] at hx
        split at hc
        · rename_i hlen
          split at hc
          · rename_i H2 hw
            simp only [Option.some.injEq, Prod.mk.injEq] at hc
            obtain ⟨rfl, rfl⟩ := hc
            exact prim_store s hx hu hn hvs hlen hw
          · cases hc
        · cases hc
      · cases hc
    · simp [cop] at hc
  | nilCheck x =>
    have hx := hρ x (by simp [Op.operands])
    simp only [resO, cop] at hc
    split at hc
    · rename_i a hxa
      simp only [Option.some.injEq, Prod.mk.injEq] at hc
      obtain ⟨rfl, rfl⟩ := hc
      rw [hxa] at hx
      obtain ⟨c, o, l, rfl, hl, he⟩ := relV_ptr hx
      exact Prim.pure (v' := ρ' x) s (by simp [execOp, he]) hx
    · rename_i f a b hxa
      simp only [Option.some.injEq, Prod.mk.injEq] at hc
      obtain ⟨rfl, rfl⟩ := hc
      rw [hxa] at hx
      obtain ⟨b', d', he, _, _⟩ := relV_func hx
      exact Prim.pure (v' := ρ' x) s (by simp [execOp, he]) hx
    · cases hc
  | binOp op t x y yt =>
    have hx := hρ x (by simp [Op.operands])
    have hy := hρ y (by simp [Op.operands])
    have har : ∀ {w : Value} {H2 : Heap}, cop ρ H (.ar op x y) = some (w, H2) → Prim B W0 φ H W ((execOp ρ' ⟨dst, .binOp op t x y yt, type, pos, after, guard⟩).run P W) w H2 := by
      intro w H2 h
      simp only [cop] at h
      split at h
      · rename_i u hu
        simp only [Option.some.injEq, Prod.mk.injEq] at h
        obtain ⟨rfl, rfl⟩ := h
        exact prim_ar s hx hy hu
      · cases h
    have heq : ∀ (neg : Bool), op = (if neg then .neq else .eql) → cop ρ H (resEq P neg op t x y) = some (v, H') → Prim B W0 φ H W ((execOp ρ' ⟨dst, .binOp op t x y yt, type, pos, after, guard⟩).run P W) v H' := by
      intro neg hop h
      have fin : ∀ {b : Bool}, (eqGuard op t x y (ρ' x) (ρ' y)).run P W = .ok () W → (Op.equal t (ρ' x) (ρ' y)).run P W = .ok b W → (∀ k n, ρ' x ≠ .int k n) → (∀ q, ρ' x ≠ .string q) → (∀ k n, ρ' x ≠ .float k n) → (∀ k n m, ρ' x ≠ .complex k n m) →
          (some (Value.bool (if neg then !b else b), H) = some (v, H')) → Prim B W0 φ H W ((execOp ρ' ⟨dst, .binOp op t x y yt, type, pos, after, guard⟩).run P W) v H' := by
        intro b g1 g2 g3 g4 g5 g6 g7
        simp only [Option.some.injEq, Prod.mk.injEq] at g7
        obtain ⟨rfl, rfl⟩ := g7
        refine Prim.pure s ?_ (.bool _)
        obtain ⟨e1, e2⟩ := binOp_eq_run _ _ g2 g3 g4 g5 g6
        subst hop
        cases neg with
        | true =>
          simp only [if_true] at g1 ⊢
          simp [execOp, g1, e2]
        | false =>
          simp only [Bool.false_eq_true, if_false] at g1 ⊢
          simp [execOp, g1, e1]
      have plain : cop ρ H (.ar op x y) = some (v, H') → Prim B W0 φ H W ((execOp ρ' ⟨dst, .binOp op t x y yt, type, pos, after, guard⟩).run P W) v H' := har
      have viaEq : ∀ (et : EqT), EqTy P t x y et → cop ρ H (.eq neg et x y) = some (v, H') → Prim B W0 φ H W ((execOp ρ' ⟨dst, .binOp op t x y yt, type, pos, after, guard⟩).run P W) v H' := by
        intro et hty h
        simp only [cop] at h
        split at h
        · rename_i b hb
          obtain ⟨q1, q2, q3, q4, q5, q6⟩ := eqVal_sound (P := P) (W := W) (ty := t) (op := op) (ox := x) (oy := y) hx hy hb hty
          exact fin q1 q2 q3 q4 q5 q6 h
        · cases h
      unfold resEq at h
      split at h
      · exact har h
      · exact har h
      · rename_i hu; exact viaEq .bool hu h
      · rename_i e hu; exact viaEq .ptr ⟨e, hu⟩ h
      · rename_i e hu; exact viaEq .slice ⟨e, hu⟩ h
      · rename_i k e hu; exact viaEq .map ⟨k, e, hu⟩ h
      · rename_i a b c hu; exact viaEq .func ⟨a, b, c, hu⟩ h
      · rename_i ms hu
        by_cases hn : (nilC x || nilC y) = true
        · rw [if_pos hn] at h; exact viaEq .ifaceC ⟨⟨ms, hu⟩, hn⟩ h
        · rw [if_neg hn] at h; exact viaEq .iface ⟨ms, hu⟩ h
      · rename_i fs hu
        split at h
        · simp [cop] at h
        rename_i hgt
        split at h
        · rename_i p hp
          simp only [cop] at h
          split at h
          · rename_i b hb
            have hb' : eqPT p (ρ x) (ρ y) = some b := hb
            have hs := eqPT_sound (P := P) (W := W) 20 10000 (by omega) hp hb' hx hy
            obtain ⟨u, hu2, hk⟩ := ptOf_kind hp
            rw [hu] at hu2
            cases hu2
            have hst : ∃ l, p = .st l := by
              rcases hk with ⟨_, _, g⟩ | ⟨_, g⟩ | ⟨_, g⟩ | ⟨g, _⟩ <;> first | (cases g; done) | exact g
            obtain ⟨l, rfl⟩ := hst
            cases hX : ρ x with
            | agg xs =>
              cases hY : ρ y with
              | agg ys =>
                rw [hX] at hx; rw [hY] at hy
                obtain ⟨xs', e1, _, _⟩ := relV_agg_left hx
                obtain ⟨ys', e2, _, _⟩ := relV_agg_left hy
                refine fin ?_ hs (by rw [e1]; simp) (by rw [e1]; simp) (by rw [e1]; simp) (by rw [e1]; simp) h
                rw [e1, e2]
                exact run_eqGuard_agg W op t x y xs' ys' (by simpa using hgt)
              | _ => rw [hX, hY] at hb'; simp [eqPT] at hb'
            | _ => rw [hX] at hb'; simp [eqPT] at hb'
          · cases h
        · simp [cop] at h
      · simp [cop] at h
    simp only [resO] at hc
    split at hc
    · exact heq false rfl hc
    · exact heq true rfl hc
    · exact har hc
  | unOp op t x =>
    have hx := hρ x (by simp [Op.operands])
    simp only [resO, cop] at hc
    split at hc
    · rename_i u hu
      simp only [Option.some.injEq, Prod.mk.injEq] at hc
      obtain ⟨rfl, rfl⟩ := hc
      exact prim_un s hx hu
    · cases hc
  | convert sr ds x =>
    have hx := hρ x (by simp [Op.operands])
    simp only [resO] at hc
    split at hc
    · rename_i k0 k h1 h2
      simp only [cop] at hc
      split at hc
      · rename_i kk n hxn
        rw [hxn] at hx
        simp only [Option.some.injEq, Prod.mk.injEq] at hc
        obtain ⟨rfl, rfl⟩ := hc
        exact prim_conv s h1 h2 hx
      · cases hc
    · rename_i e h1 h2
      split at hc
      · rename_i h3
        simp only [cop] at hc
        split at hc
        · rename_i len cap hxn
          rw [hxn] at hx
          simp only [Option.some.injEq, Prod.mk.injEq] at hc
          obtain ⟨rfl, rfl⟩ := hc
          exact prim_convBS (a := none) (cs := []) (l := []) s h1 h2 h3 hx rfl rfl
        · rename_i a len cap hxn
          rw [hxn] at hx
          split at hc
          · rename_i cs hcs
            split at hc
            · rename_i l hl
              simp only [Option.some.injEq, Prod.mk.injEq] at hc
              obtain ⟨rfl, rfl⟩ := hc
              exact prim_convBS (a := some a) s h1 h2 h3 hx hcs hl
            · cases hc
          · cases hc
        · cases hc
      · simp [cop] at hc
    · rename_i e h1 h2
      split at hc
      · rename_i h3
        simp only [cop] at hc
        split at hc
        · rename_i sv hxn
          rw [hxn] at hx
          simp only [Option.some.injEq, Prod.mk.injEq] at hc
          obtain ⟨rfl, rfl⟩ := hc
          exact prim_convSB s free h1 h2 h3 hx
        · cases hc
      · simp [cop] at hc
    · simp [cop] at hc
  | makeInterface t x =>
    have hx := hρ x (by simp [Op.operands])
    simp only [resO] at hc
    split at hc
    · simp [cop] at hc
    · rename_i d hni hd
      simp only [cop] at hc
      split at hc
      · cases hc
      · rename_i u hu
        simp only [Option.some.injEq, Prod.mk.injEq] at hc
        obtain ⟨rfl, rfl⟩ := hc
        refine Prim.pure (v' := .iface t (ρ' x)) s ?_ (.iface hx)
        cases d with
        | interface ms => exact absurd rfl (hni ms)
        | _ => simp [execOp, Instr.makeInterface, run_un hd]
    · simp [cop] at hc
  | makeFunc fn first caps =>
    cases fn with
    | func f =>
      simp only [resO, cop, Option.some.injEq, Prod.mk.injEq] at hc
      obtain ⟨rfl, rfl⟩ := hc
      have rel : ∀ (l : Array Operand), (∀ x ∈ l, RelV φ (ρ x) (ρ' x)) → RelL φ (l.toList.map ρ).toArray.toList (l.map ρ').toList := by
        intro l hl
        refine ⟨by simp, fun i a b p q => ?_⟩
        simp only [List.getElem?_map, Array.toList_map] at p q
        cases hi : l.toList[i]? with
        | none => rw [hi] at p; cases p
        | some x =>
          rw [hi] at p q
          cases p; cases q
          exact hl x (by have := List.mem_of_getElem? hi; simpa using this)
      refine Prim.pure (v' := .func (.func f) (first.map ρ') (caps.map ρ')) s rfl (relV_func_mk (rel first ?_) (rel caps ?_))
      · intro x hx; exact hρ x (by simp [Op.operands, hx])
      · intro x hx; exact hρ x (by simp [Op.operands, hx])
    | _ => simp [resO, cop] at hc
  | makeMap t r =>
    cases r with
    | none =>
      simp only [resO, cop, Option.some.injEq, Prod.mk.injEq] at hc
      obtain ⟨rfl, rfl⟩ := hc
      exact prim_mkMap s free
    | some r => simp [resO, cop] at hc
  | makeSlice t l c =>
    have hl := hρ l (by simp [Op.operands])
    have hcc := hρ c (by simp [Op.operands])
    simp only [resO] at hc
    split at hc
    · rename_i e ht
      split at hc
      · rename_i sz z b hs hz hb
        split at hc
        · rename_i hcond
          simp only [cop] at hc
          split at hc
          · rename_i kl nl kc nc h1 h2
            rw [h1] at hl; rw [h2] at hcc
            split at hc
            · rename_i hcond2
              simp only [Option.some.injEq, Prod.mk.injEq] at hc
              obtain ⟨rfl, rfl⟩ := hc
              have e1 := relV_int hl
              have e2 := relV_int hcc
              simp only [execOp, e1, e2]
              exact prim_mkSl s free ht hz hs hb hcond.1 hcond.2 hcond2.1 hcond2.2.1 hcond2.2.2.1 hcond2.2.2.2
            · cases hc
          · cases hc
        · simp [cop] at hc
      · simp [cop] at hc
    · simp [cop] at hc
  | slice t x lo hi mx =>
    have hx := hρ x (by simp [Op.operands])
    have hlo : ∀ y, lo = some y → RelV φ (ρ y) (ρ' y) := fun y hy => hρ y (by simp [Op.operands, hy])
    have hhi : ∀ y, hi = some y → RelV φ (ρ y) (ρ' y) := fun y hy => hρ y (by simp [Op.operands, hy])
    have hmx : ∀ y, mx = some y → RelV φ (ρ y) (ρ' y) := fun y hy => hρ y (by simp [Op.operands, hy])
    simp only [resO] at hc
    split at hc
    · rename_i ht
      split at hc
      · simp [cop] at hc
      rename_i hmn
      have hmn : mx = none := by cases mx <;> simp_all
      subst hmn
      simp only [cop] at hc
      split at hc
      · rename_i sv hsv
        rw [hsv] at hx
        split at hc
        · rename_i l e m hb
          simp only [Option.some.injEq, Prod.mk.injEq] at hc
          obtain ⟨rfl, rfl⟩ := hc
          exact prim_slS s ht hx hlo hhi hb
        · cases hc
      · cases hc
    · rename_i el ht
      split at hc
      · rename_i sz hs
        simp only [cop] at hc
        split at hc
        · rename_i a len cap ha
          rw [ha] at hx
          split at hc
          · rename_i l e m hb
            exact prim_slV s ht hs hx hlo hhi hmx hb hc
          · cases hc
        · cases hc
      · simp [cop] at hc
    · rename_i n el ht
      split at hc
      · rename_i sz hs
        split at hc
        · simp [cop] at hc
        rename_i hmn
        have hmn : mx = none := by cases mx <;> simp_all
        subst hmn
        simp only [cop] at hc
        split at hc
        · rename_i a ha
          rw [ha] at hx
          split at hc
          · rename_i l e m hb
            simp only [Option.some.injEq, Prod.mk.injEq] at hc
            obtain ⟨rfl, rfl⟩ := hc
            exact prim_slA s ht hs hx hlo hhi hb
          · cases hc
        · cases hc
      · simp [cop] at hc
    · simp [cop] at hc
  | fieldAddr st x f =>
    have hx := hρ x (by simp [Op.operands])
    simp only [resO] at hc
    split at hc
    · rename_i fs ht
      split at hc
      · rename_i fd hf
        split at hc
        · rename_i n hn
          split at hc
          · simp [cop] at hc
          rename_i hn0
          simp only [cop] at hc
          split at hc
          · rename_i a ha
            rw [ha] at hx
            simp only [Option.some.injEq, Prod.mk.injEq] at hc
            obtain ⟨rfl, rfl⟩ := hc
            exact prim_fld s hx ht hf hn hn0
          · cases hc
        · simp [cop] at hc
      · simp [cop] at hc
    · simp [cop] at hc
  | indexAddr t x ix =>
    have hx := hρ x (by simp [Op.operands])
    have hi := hρ ix (by simp [Op.operands])
    simp only [resO] at hc
    split at hc
    · rename_i e ht
      split at hc
      · rename_i sz hs
        simp only [cop] at hc
        split at hc
        · rename_i a len cap k n h1 h2
          rw [h1] at hx; rw [h2] at hi
          split at hc
          · rename_i hcond
            simp only [Option.some.injEq, Prod.mk.injEq] at hc
            obtain ⟨rfl, rfl⟩ := hc
            have e1 := relV_int hi
            simp only [execOp, e1]
            exact prim_ixV s hx ht hs hcond.1 hcond.2
          · cases hc
        · cases hc
      · simp [cop] at hc
    · rename_i n e ht
      split at hc
      · rename_i sz hs
        simp only [cop] at hc
        split at hc
        · rename_i a k n h1 h2
          rw [h1] at hx; rw [h2] at hi
          split at hc
          · rename_i hcond
            simp only [Option.some.injEq, Prod.mk.injEq] at hc
            obtain ⟨rfl, rfl⟩ := hc
            have e1 := relV_int hi
            simp only [execOp, e1]
            exact prim_ixA s hx ht hs hcond.1 hcond.2
          · cases hc
        · cases hc
      · simp [cop] at hc
    · simp [cop] at hc
  | index t x ix =>
    have hx := hρ x (by simp [Op.operands])
    have hi := hρ ix (by simp [Op.operands])
    simp only [resO] at hc
    split at hc
    · rename_i ht
      simp only [cop] at hc
      split at hc
      · rename_i sv k n h1 h2
        rw [h1] at hx; rw [h2] at hi
        split at hc
        · rename_i h0
          split at hc
          · rename_i b hb
            simp only [Option.some.injEq, Prod.mk.injEq] at hc
            obtain ⟨rfl, rfl⟩ := hc
            have e1 := relV_int hi
            simp only [execOp, e1]
            exact prim_ixS s ht hx h0 hb
          · cases hc
        · cases hc
      · cases hc
    · rename_i n e ht
      split at hc
      · rename_i sz ag hs ha
        simp only [cop] at hc
        split at hc
        · rename_i cs k n h1 h2
          rw [h1] at hx; rw [h2] at hi
          have e1 := relV_int hi
          split at hc
          · rename_i hcond
            split at hc
            · rename_i hag
              simp only [Option.some.injEq, Prod.mk.injEq] at hc
              obtain ⟨rfl, rfl⟩ := hc
              simp only [execOp, e1]
              exact prim_ixG s ht hs ha hx hcond.1 hcond.2 (by rw [if_pos hag])
            · rename_i hag
              split at hc
              · rename_i u hu
                simp only [Option.some.injEq, Prod.mk.injEq] at hc
                obtain ⟨rfl, rfl⟩ := hc
                simp only [execOp, e1]
                exact prim_ixG s ht hs ha hx hcond.1 hcond.2 (by rw [if_neg hag]; exact hu)
              · cases hc
          · cases hc
        · cases hc
      · simp [cop] at hc
    · simp [cop] at hc
  | lookup t x k ok =>
    have hx := hρ x (by simp [Op.operands])
    have hk := hρ k (by simp [Op.operands])
    simp only [resO] at hc
    split at hc
    · rename_i kt e ht
      split at hc
      · rename_i p z hp hz
        simp only [cop] at hc
        split at hc
        · cases hc
        rename_i hks
        refine prim_look s ht hp hz hx hk (by cases hq : eqPT p (ρ k) (ρ k) <;> simp_all) ?_
        exact hc
      · simp [cop] at hc
    · simp [cop] at hc
  | mapUpdate t m k u =>
    have hm := hρ m (by simp [Op.operands])
    have hk := hρ k (by simp [Op.operands])
    have hu := hρ u (by simp [Op.operands])
    simp only [resO] at hc
    split at hc
    · rename_i kt e ht
      split at hc
      · rename_i p hp
        simp only [cop] at hc
        split at hc
        · cases hc
        rename_i hks
        split at hc
        · rename_i c hmc
          rw [hmc] at hm
          split at hc
          · rename_i es ck hg
            split at hc
            · exact prim_mset s ht hp hm hk hu (by cases hq : eqPT p (ρ k) (ρ k) <;> simp_all) hg hc
            · cases hc
          · cases hc
        · cases hc
      · simp [cop] at hc
    · simp [cop] at hc
  | typeAssert x xt t ok =>
    have hx := hρ x (by simp [Op.operands])
    simp only [resO] at hc
    split at hc
    · simp [cop] at hc
    · rename_i d z hni hd hz
      refine prim_tyA s hd (fun ms e => hni ms e) hz hx ?_
      simp only [cop] at hc
      exact hc
    · simp [cop] at hc
  | extract x i =>
    have hx := hρ x (by simp [Op.operands])
    simp only [resO, cop] at hc
    split at hc
    · rename_i vs hvs
      rw [hvs] at hx
      split at hc
      · rename_i u hu
        simp only [Option.some.injEq, Prod.mk.injEq] at hc
        obtain ⟨rfl, rfl⟩ := hc
        exact prim_ext s hx hu
      · cases hc
    · cases hc
  | call c =>
    obtain ⟨callee, args, argTypes⟩ := c
    cases callee with
    | value f => cases f <;> simp [resO, cop] at hc
    | invoke r m => simp [resO, cop] at hc
    | builtin b =>
      have hargs : ∀ x ∈ args.toList, RelV φ (ρ x) (ρ' x) := fun x hx => hρ x (by simp [Op.operands, Call.operands]; simpa using hx)
      have key : ∀ {r : Result Next}, (builtin b argTypes type (args.map fun | .const _ => true | _ => false) (args.map ρ')).run P W = r → Prim B W0 φ H W r v H' →
          Prim B W0 φ H W ((execOp ρ' ⟨dst, .call ⟨.builtin b, args, argTypes⟩, type, pos, after, guard⟩).run P W) v H' := by
        intro r h1 h2
        have : (execOp ρ' ⟨dst, .call ⟨.builtin b, args, argTypes⟩, type, pos, after, guard⟩).run P W = r := by
          rw [← h1]
          exact run_builtin (P := P) (W := W) (ρ' := ρ') (b := b) (c := ⟨.builtin b, args, argTypes⟩) (o := ⟨dst, .call ⟨.builtin b, args, argTypes⟩, type, pos, after, guard⟩) rfl
        rw [this]; exact h2
      simp only [resO] at hc
      unfold resBuiltin at hc
      have hm2 : ∀ {x y : Operand}, (#[x, y] : Array Operand).map ρ' = #[ρ' x, ρ' y] := by simp
      have one_ : ∀ {x : Operand} {t : TypeId}, argTypes.toList = [t] → args.toList = [x] → argTypes = #[t] ∧ args = #[x] ∧ RelV φ (ρ x) (ρ' x) := by
        intro x t h1 h2
        exact ⟨Array.ext' h1, Array.ext' h2, hargs x (by rw [h2]; simp)⟩
      have two_ : ∀ {x y : Operand} {t u : TypeId}, argTypes.toList = [t, u] → args.toList = [x, y] → argTypes = #[t, u] ∧ args = #[x, y] ∧ RelV φ (ρ x) (ρ' x) ∧ RelV φ (ρ y) (ρ' y) := by
        intro x y t u h1 h2
        exact ⟨Array.ext' h1, Array.ext' h2, hargs x (by rw [h2]; simp), hargs y (by rw [h2]; simp)⟩
      split at hc
      · rename_i t x h1 h2
        obtain ⟨rfl, rfl, hx⟩ := one_ h1 h2
        split at hc
        · rename_i ht
          simp only [cop] at hc
          split at hc
          · rename_i sv hsv
            rw [hsv] at hx
            simp only [Option.some.injEq, Prod.mk.injEq] at hc
            obtain ⟨rfl, rfl⟩ := hc
            have e := relV_str hx
            exact key rfl (Prim.pure s (by simp [builtin, Builtin.len_, run_un ht, e, goInt]) (.int _ _))
          · cases hc
        · rename_i el ht
          simp only [cop] at hc
          split at hc
          · rename_i a n k hsv
            rw [hsv] at hx
            simp only [Option.some.injEq, Prod.mk.injEq] at hc
            obtain ⟨rfl, rfl⟩ := hc
            have e : ∃ a' k', ρ' x = .slice a' n k' := by
              cases a with
              | none => obtain ⟨rfl, rfl, e⟩ := relV_nils hx; exact ⟨_, _, e⟩
              | some a => rcases relV_sl hx with ⟨_, _, _, k', _, _, _, _, e⟩ | ⟨_, _, a', k', _, rfl, _, e⟩ <;> exact ⟨_, _, e⟩
            obtain ⟨a', k', e⟩ := e
            exact key rfl (Prim.pure s (by simp [builtin, Builtin.len_, run_un ht, e, goInt]) (.int _ _))
          · cases hc
        · rename_i kt el ht
          simp only [cop] at hc
          split at hc
          · rename_i hsv
            rw [hsv] at hx
            simp only [Option.some.injEq, Prod.mk.injEq] at hc
            obtain ⟨rfl, rfl⟩ := hc
            have e := relV_nilm hx
            exact key rfl (Prim.pure s (by simp [builtin, Builtin.len_, run_un ht, e, goInt]) (.int _ _))
          · rename_i c hsv
            rw [hsv] at hx
            split at hc
            · rename_i es ck hg
              simp only [Option.some.injEq, Prod.mk.injEq] at hc
              obtain ⟨rfl, rfl⟩ := hc
              obtain ⟨l, hl, hb, e⟩ := relV_map hx
              obtain ⟨es', h4, h5, h6⟩ := getMap (P := P) s hl hg
              refine key rfl (Prim.pure (v' := .int .i64 es'.size) s (by simp [builtin, Builtin.len_, run_un ht, e, goInt, h6]) ?_)
              rw [h5.length, Array.length_toList]
              exact .int _ _
            · cases hc
          · cases hc
        · rename_i n el ht
          simp only [cop, Option.some.injEq, Prod.mk.injEq] at hc
          obtain ⟨rfl, rfl⟩ := hc
          exact key rfl (Prim.pure s (by simp [builtin, Builtin.len_, run_un ht, goInt]) (.int _ _))
        · simp [cop] at hc
      · rename_i t x h1 h2
        obtain ⟨rfl, rfl, hx⟩ := one_ h1 h2
        split at hc
        · rename_i el ht
          simp only [cop] at hc
          split at hc
          · rename_i n k hsv
            rw [hsv] at hx
            simp only [Option.some.injEq, Prod.mk.injEq] at hc
            obtain ⟨rfl, rfl⟩ := hc
            obtain ⟨rfl, rfl, e⟩ := relV_nils hx
            exact key rfl (Prim.pure s (by simp [builtin, Builtin.cap_, run_un ht, e, goInt]) (.int _ _))
          · rename_i a n k hsv
            rw [hsv] at hx
            have tight_ : a.spot = none → ((∃ cs, H.get? a.block = some (.ro cs)) ∨ (∃ cs, H.get? a.block = some (.rw cs))) → some (Value.int .i64 k, H) = some (v, H') →
                Prim B W0 φ H W ((execOp ρ' ⟨dst, .call ⟨.builtin .cap, #[x], #[t]⟩, type, pos, after, guard⟩).run P W) v H' := by
              intro hsp hg hc
              simp only [Option.some.injEq, Prod.mk.injEq] at hc
              obtain ⟨rfl, rfl⟩ := hc
              rcases relV_sl hx with ⟨c, o, l, k', rfl, hl, hk, _, e⟩ | ⟨c, o, a', k', rfl, rfl, rfl, e⟩
              · have := s.tight hl hg hk
                subst this
                exact key rfl (Prim.pure s (by simp [builtin, Builtin.cap_, run_un ht, e, goInt]) (.int _ _))
              · cases hsp
            split at hc
            · cases hc
            rename_i hsp
            split at hc
            · rename_i cs hg; exact tight_ (by simpa using hsp) (.inr ⟨cs, hg⟩) hc
            · rename_i cs hg; exact tight_ (by simpa using hsp) (.inl ⟨cs, hg⟩) hc
            · cases hc
          · cases hc
        · simp [cop] at hc
      · rename_i t u x y h1 h2
        obtain ⟨rfl, rfl, hx, hy⟩ := two_ h1 h2
        split at hc
        · rename_i e e2 ht hu
          split at hc
          · rename_i sz b z hs hb hz
            split at hc
            · rename_i hcond
              simp only [cop] at hc
              split at hc
              · rename_i a len cap hya
                rw [hya] at hy
                split at hc
                · rename_i vs hvs
                  exact key rfl (by rw [hm2]; exact prim_app s free ht hu hs hb hz hcond.2.2 hcond.1 hcond.2.1 hx hy hvs hc)
                · cases hc
              · cases hc
            · simp [cop] at hc
          · simp [cop] at hc
        · rename_i e ht hu
          split at hc
          · rename_i sz b z hs hb hz
            split at hc
            · rename_i hcond
              obtain ⟨rfl, rfl, hzs⟩ := hcond
              simp only [cop] at hc
              split at hc
              · rename_i sv hya
                rw [hya] at hy
                exact key rfl (by rw [hm2]; exact prim_appS s free ht hu hs hb hz hzs hx hy hc)
              · cases hc
            · simp [cop] at hc
          · simp [cop] at hc
        · simp [cop] at hc
      · rename_i t u x y h1 h2
        obtain ⟨rfl, rfl, hx, hy⟩ := two_ h1 h2
        split at hc
        · rename_i e e2 ht hu
          split at hc
          · rename_i sz hs
            simp only [cop] at hc
            split at hc
            · rename_i d dl dc a sl c hxa hya
              rw [hxa] at hx; rw [hya] at hy
              exact key rfl (by rw [hm2]; exact prim_copyV s ht hs hx hy hc)
            · cases hc
          · simp [cop] at hc
        · rename_i e ht hu
          split at hc
          · rename_i sz hs
            split at hc
            · rename_i h1s
              subst h1s
              simp only [cop] at hc
              split at hc
              · rename_i d dl dc sv hxa hya
                rw [hxa] at hx; rw [hya] at hy
                exact key rfl (by rw [hm2]; exact prim_copyS s ht hs hx hy hc)
              · cases hc
            · simp [cop] at hc
          · simp [cop] at hc
        · simp [cop] at hc
      · rename_i t u x y h1 h2
        obtain ⟨rfl, rfl, hx, hy⟩ := two_ h1 h2
        simp only [cop] at hc
        split at hc
        · rename_i k a k2 b hxa hya
          rw [hxa] at hx; rw [hya] at hy
          have e1 := relV_int hx
          have e2 := relV_int hy
          simp only [if_true, Option.some.injEq, Prod.mk.injEq] at hc
          obtain ⟨rfl, rfl⟩ := hc
          exact key rfl (Prim.pure s (by simp [builtin, Builtin.max_, Builtin.max2, e1, e2]) (.int _ _))
        · cases hc
      · rename_i t u x y h1 h2
        obtain ⟨rfl, rfl, hx, hy⟩ := two_ h1 h2
        simp only [cop] at hc
        split at hc
        · rename_i k a k2 b hxa hya
          rw [hxa] at hx; rw [hya] at hy
          have e1 := relV_int hx
          have e2 := relV_int hy
          simp only [Bool.false_eq_true, if_false, Option.some.injEq, Prod.mk.injEq] at hc
          obtain ⟨rfl, rfl⟩ := hc
          exact key rfl (Prim.pure s (by simp [builtin, Builtin.min_, Builtin.min2, e1, e2]) (.int _ _))
        · cases hc
      · simp [cop] at hc
  | entryStore => simp [resO, cop] at hc
  | _ => simp [resO, cop] at hc

end
end Go.Cm
