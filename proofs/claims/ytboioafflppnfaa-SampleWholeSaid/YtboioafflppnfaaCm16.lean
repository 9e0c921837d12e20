/- The canonical machine: what it comes to, the model comes to. Conditions: none. -/
import Derived.Test.YtboioafflppnfaaCm15
import Derived.LoopN
namespace Go.Cm
open Go.RowKit
set_option linter.unusedVariables false
set_option linter.unusedSimpArgs false

theorem wr_n {h h' : Heap} {a : Addr} {vs : List Value} (hw : h.wr a vs = some h') : h'.n = h.n := by
  unfold Heap.wr at hw
  repeat' (split at hw)
  all_goals first
    | (cases hw; done)
    | (cases hw; rfl)

theorem appendTo_le {h h' : Heap} {esz bytes n : Nat} {x v : Value} {vs : List Value} (hc : appendTo h esz bytes x n vs = some (v, h')) : h.n ≤ h'.n := by
  unfold appendTo at hc
  repeat' (split at hc)
  all_goals first
    | (cases hc; done)
    | (simp only [Option.some.injEq, Prod.mk.injEq] at hc; obtain ⟨-, rfl⟩ := hc; first | exact Nat.le_refl _ | (simp [Heap.push, Heap.set]; done) | (rename_i hw; rw [wr_n hw]; exact Nat.le_refl _))

theorem cop_le {ρ : Operand → Value} {h h' : Heap} {o : MOp} {v : Value} (hc : cop ρ h o = some (v, h')) : h.n ≤ h'.n := by
  have hlt : kindOf o = 0 ∨ kindOf o = 1 ∨ kindOf o = 2 ∨ kindOf o = 3 ∨ kindOf o = 4 := by
    have : kindOf o ≤ 4 := by cases o <;> simp [kindOf]
    omega
  rcases hlt with h0 | h1 | h2 | h3 | h4
  · rw [(kind0 h0 hc).1]; exact Nat.le_refl _
  · obtain ⟨ob, q, _⟩ := kind1 h1 hc; rw [q]; simp [Heap.push]
  · rw [(kind2 h2 hc).1]; exact Nat.le_refl _
  · rw [kind3 h3 hc]; exact Nat.le_refl _
  · cases o <;> simp only [kindOf] at h4 <;> first
      | (exact absurd h4 (by decide))
      | skip
    all_goals
      simp only [cop] at hc
      repeat' (split at hc)
      all_goals first
        | (cases hc; done)
        | exact appendTo_le hc
        | (simp only [Option.some.injEq, Prod.mk.injEq] at hc; obtain ⟨-, rfl⟩ := hc; first | exact Nat.le_refl _ | (simp [Heap.push, Heap.set]; done) | (rename_i hw; rw [wr_n hw]; exact Nat.le_refl _))

def exOf : Ex → Exit
  | .norm => .normal
  | .exit i => .exit i
  | .ret => .ret

/-- what a judgement says of the model -/
def Good (P : Program) (G B : Nat) (W0 : World) : Jd → Prop
  | .op o f h v h' => h.n ≤ h'.n ∧ GoodOp P G B W0 o f h v h'
  | .ops l f h trs f' h' => h.n ≤ h'.n ∧ Chain P G B W0 l f h trs f' h'
  | .code c f h e f' h' => h.n ≤ h'.n ∧ ∀ (nt : Nat) (code : Code) (lives rest : List (List Nat)), resCode P G nt code lives = (c, rest) → ∀ (φ : Emb) (a : Act) (W : World), St B W0 G nt φ f h a W → Free φ h h' →
      ∀ (Q : Exit → Act → World → Prop), (∀ φ' a' W', St B W0 G nt φ' f' h' a' W' → Ext φ φ' h h' W W' → a'.defers = a.defers → Q (exOf e) a' W') → code.wp P Q a W
  | .rounds live b f h e f' h' => h.n ≤ h'.n ∧ e ≠ .norm ∧ ∃ k, ∀ (nt : Nat) (code : Code) (lives rest : List (List Nat)), resCode P G nt code lives = (b, rest) → ∀ (φ : Emb) (a : Act) (W : World), St B W0 G nt φ f h a W → Free φ h h' →
      ∀ (Q : Exit → Act → World → Prop), (∀ φ' a' W', St B W0 G nt φ' f' h' a' W' → Ext φ φ' h h' W W' → a'.defers = a.defers → Q (exOf e) a' W') → Code.rounds P code Q k a W
  | .call g args h v h' => h.n ≤ h'.n ∧ GoodCall P G B W0 g args h v h'

section
variable {P : Program} {G B : Nat} {W0 : World}

theorem St.keep {nt : Nat} {φ : Emb} {f : Fr} {h : Heap} {a : Act} {W : World} (st : St B W0 G nt φ f h a W) (live : List Nat) : St B W0 G nt φ (f.keep live) h a W := by
  refine ⟨st.sim, st.glob, fun t => ?_, st.size⟩
  have : ∀ l : List Nat, (f.keep l).get t = f.get t ∨ (f.keep l).get t = unk := by
    intro l
    induction l with
    | nil => exact .inr rfl
    | cons s l ih =>
      simp only [Fr.keep, Fr.get]
      by_cases hs : t = s
      · rw [if_pos hs, hs]; exact .inl rfl
      · rw [if_neg hs]; exact ih
  rcases this live with h | h
  · rw [h]; exact st.rel t
  · rw [h]; exact .top _

theorem res_one {φ : Emb} {f : Fr} {h : Heap} {W : World} {tmps : Array Value} {r : ResultVar} {m : MRes} {v : Value} (s : Sim B W0 φ h.get? W) (hr : RelF φ f tmps) (hm : resRes P [r] = some [m]) (hv : resOne f h m = some v) :
    ∃ v', (match r with | .tmp t => pure (tmps.getD t undef) | .cell a t => do loadVar t (← asAddr (tmps.getD a undef)) : Sem Value).run P W = .ok v' W ∧ RelV φ v v' := by
  cases r with
  | tmp t =>
    simp only [resRes, Option.some.injEq, List.cons.injEq, and_true] at hm
    subst hm
    simp only [resOne, Option.some.injEq] at hv
    subst hv
    exact ⟨_, by simp, hr t⟩
  | cell a t =>
    simp only [resRes] at hm
    split at hm
    · rename_i n l h1 h2 h3
      cases h3
      simp only [Option.some.injEq, List.cons.injEq, and_true] at hm
      subst hm
      simp only [resOne] at hv
      split at hv
      · rename_i ad ha
        split at hv
        · rename_i vs hvs
          cases hv
          have hrel := hr a
          rw [ha] at hrel
          obtain ⟨c, o, l, rfl, hl, he⟩ := relV_ptr hrel
          obtain ⟨hlen, ho, vs', hrr, hc⟩ := s.rdN hl hvs
          refine ⟨.agg vs'.toArray, ?_, relV_agg.2 ⟨ho, hrr⟩⟩
          simp [he, asAddr, loadVar, run_ag h1, run_sz h2, run_loadCells_at (P := P) (hrr.1.symm.trans hlen) hc]
        · cases hv
      · cases hv
    · rename_i n l h1 h2 h3
      cases h3
      simp only [Option.some.injEq, List.cons.injEq, and_true] at hm
      subst hm
      simp only [resOne] at hv
      split at hv
      · rename_i ad ha
        have hrel := hr a
        rw [ha] at hrel
        obtain ⟨c, o, l, rfl, hl, he⟩ := relV_ptr hrel
        obtain ⟨ho, v', hc, hrr⟩ := s.rd1 hl hv
        refine ⟨v', ?_, hrr⟩
        simp [he, asAddr, loadVar, run_ag h1, hc]
      · cases hv
    · cases hm

theorem resRes_cons {r : ResultVar} {rs : List ResultVar} {ms : List MRes} (h : resRes P (r :: rs) = some ms) : ∃ m ms', ms = m :: ms' ∧ resRes P [r] = some [m] ∧ resRes P rs = some ms' := by
  cases r with
  | tmp t =>
    simp only [resRes] at h ⊢
    split at h
    · rename_i l hl; cases h; exact ⟨_, _, rfl, rfl, hl⟩
    · cases h
  | cell a t =>
    simp only [resRes] at h ⊢
    split at h
    · rename_i h1 h2 h3; cases h; exact ⟨_, _, rfl, by rw [h1, h2], h3⟩
    · rename_i h1 h2 h3; cases h; exact ⟨_, _, rfl, by rw [h1, h2], h3⟩
    · cases h

theorem res_all {φ : Emb} {f : Fr} {h : Heap} {W : World} {tmps : Array Value} (s : Sim B W0 φ h.get? W) (hr : RelF φ f tmps) : ∀ (rs : List ResultVar) (ms : List MRes) (vs : List Value), resRes P rs = some ms → resAll f h ms = some vs →
    ∃ vs', (rs.mapM (fun r : ResultVar => (match r with | .tmp t => pure (tmps.getD t undef) | .cell a t => do loadVar t (← asAddr (tmps.getD a undef)) : Sem Value))).run P W = .ok vs' W ∧ RelL φ vs vs'
  | [], ms, vs, h1, h2 => by
    cases h1; cases h2
    exact ⟨[], by simp, .nil⟩
  | r :: rs, ms, vs, h1, h2 => by
    obtain ⟨m, ms', rfl, h3, h4⟩ := resRes_cons h1
    simp only [resAll] at h2
    split at h2
    · rename_i v vs' g1 g2
      cases h2
      obtain ⟨v', k1, k2⟩ := res_one (P := P) s hr h3 g1
      obtain ⟨w, k3, k4⟩ := res_all s hr rs ms' vs' h4 g2
      refine ⟨v' :: w, ?_, .cons k2 k4⟩
      rw [List.mapM_cons, Sem.run_bind, k1, Result.andThen_ok, Sem.run_bind, k3, Result.andThen_ok]
      rfl
    · cases h2

theorem results_ok {φ : Emb} {f : Fr} {h : Heap} {W : World} {tmps : Array Value} {fn : Func} {ms : List MRes} {v : Value} (s : Sim B W0 φ h.get? W) (hr : RelF φ f tmps) (h1 : resRes P fn.results.toList = some ms)
    (h2 : resC ms f h = some v) : ∃ v', (results fn tmps).run P W = .ok v' W ∧ RelV φ v v' := by
  unfold resC at h2
  have hrun : ∀ vs', (fn.results.toList.mapM (fun r : ResultVar => (match r with | .tmp t => pure (tmps.getD t undef) | .cell a t => do loadVar t (← asAddr (tmps.getD a undef)) : Sem Value))).run P W = .ok vs' W →
      (results fn tmps).run P W = .ok (if h : vs'.toArray.size = 1 then vs'.toArray[0] else .tuple vs'.toArray) W := by
    intro vs' h
    unfold results
    rw [Sem.run_bind, Array.mapM_eq_mapM_toList]
    simp only [map_eq_pure_bind, Sem.run_bind]
    erw [h]
    rfl
  split at h2
  · rename_i u hu
    cases h2
    obtain ⟨vs', k1, k2⟩ := res_all (P := P) s hr _ _ _ h1 hu
    cases vs' with
    | nil => exact absurd k2.1 (by simp)
    | cons v' r =>
      cases r with
      | cons _ _ => exact absurd k2.1 (by simp)
      | nil => exact ⟨v', hrun _ k1, k2.2 0 _ _ rfl rfl⟩
  · rename_i vs hne hu
    cases h2
    obtain ⟨vs', k1, k2⟩ := res_all (P := P) s hr _ _ _ h1 hu
    refine ⟨.tuple vs'.toArray, ?_, relV_tuple_mk (by simpa using k2)⟩
    rw [hrun _ k1, dif_neg]
    intro h
    have h' : vs.length = 1 := by rw [k2.1]; simpa using h
    cases vs with
    | nil => cases h'
    | cons a r => cases r with
      | nil => exact hne a rfl
      | cons _ _ => simp at h'
  · cases h2

theorem initF_get : ∀ (args : List Value) (i t : Nat), (initF i args).get t = if i ≤ t then (args[t - i]?).getD unk else unk
  | [], i, t => by simp [initF, Fr.get]
  | v :: vs, i, t => by
    simp only [initF, Fr.get]
    by_cases h : t = i
    · subst h; simp
    · rw [if_neg h, initF_get vs (i + 1) t]
      by_cases hi : i + 1 ≤ t
      · rw [if_pos hi, if_pos (by omega), show t - i = (t - (i + 1)) + 1 from by omega, List.getElem?_cons_succ]
      · rw [if_neg hi, if_neg (by omega)]


theorem code_of {nt : Nat} {code : Code} {lives rest : List (List Nat)} {c : MCode} (h : resCode P G nt code lives = (c, rest)) :
    match (generalizing := false) c with
    | .skip => code = .skip
    | .region l x => ∃ id ops d, code = .region id ops d ∧ l = ops.toList.map (resMO P G nt ops) ∧
        ((d = true ∧ edgesOK ops = true ∧ drawOK ops (ops.toList.map (resOp P G ·.op)) (Region.before ops) = true ∧ x = crossesOf ops (ops.toList.map (resOp P G ·.op)) (Region.before ops)) ∨ d = false)
    | .seq a b => ∃ x y l1, code = .seq x y ∧ resCode P G nt x lives = (a, l1) ∧ resCode P G nt y l1 = (b, rest)
    | .cond o a b => ∃ x y l1, code = .cond o x y ∧ okX G o = true ∧ resCode P G nt x lives = (a, l1) ∧ resCode P G nt y l1 = (b, rest)
    | .block i b => ∃ x, code = .block i x ∧ resCode P G nt x lives = (b, rest)
    | .loop v b => ∃ x l1, code = .loop x ∧ resCode P G nt x l1 = (b, rest)
    | .exit i => code = .exit i
    | .ret => code = .ret
    | .bad => True := by
  cases code with
  | skip => simp only [resCode, Prod.mk.injEq] at h; obtain ⟨rfl, _⟩ := h; trivial
  | region id ops d =>
    simp only [resCode, Prod.mk.injEq, resRegion] at h
    obtain ⟨rfl, _⟩ := h
    cases d with
    | true =>
      simp only [if_true]
      by_cases hc : (edgesOK ops && drawOK ops (ops.toList.map (resOp P G ·.op)) (Region.before ops)) = true
      · rw [if_pos hc]
        rw [Bool.and_eq_true] at hc
        exact ⟨id, ops, true, rfl, rfl, .inl ⟨rfl, hc.1, hc.2, rfl⟩⟩
      · rw [if_neg hc]; trivial
    | false => exact ⟨id, ops, false, rfl, rfl, .inr rfl⟩
  | seq a b =>
    simp only [resCode, Prod.mk.injEq] at h
    obtain ⟨rfl, rfl⟩ := h
    exact ⟨a, b, _, rfl, rfl, rfl⟩
  | cond o a b =>
    simp only [resCode, Prod.mk.injEq] at h
    obtain ⟨rfl, rfl⟩ := h
    by_cases ho : okX G o = true
    · rw [if_pos ho]; exact ⟨a, b, _, rfl, ho, rfl, rfl⟩
    · rw [if_neg ho]; trivial
  | block i b =>
    simp only [resCode, Prod.mk.injEq] at h
    obtain ⟨rfl, rfl⟩ := h
    exact ⟨b, rfl, rfl⟩
  | loop b =>
    cases lives with
    | nil => simp only [resCode, Prod.mk.injEq] at h; obtain ⟨rfl, _⟩ := h; trivial
    | cons v l1 =>
      simp only [resCode, Prod.mk.injEq] at h
      obtain ⟨rfl, rfl⟩ := h
      exact ⟨b, l1, rfl, rfl⟩
  | exit i => simp only [resCode, Prod.mk.injEq] at h; obtain ⟨rfl, _⟩ := h; trivial
  | ret => simp only [resCode, Prod.mk.injEq] at h; obtain ⟨rfl, _⟩ := h; trivial
  | _ => simp only [resCode, Prod.mk.injEq] at h; obtain ⟨rfl, _⟩ := h; trivial

variable {M : Prg}

theorem sound (hmix : P.follows .mixedOrders = true) (hM : ∀ g F, M.fn g = some F → ∃ fn lives, P.funcs[g]? = some fn ∧ resFun P G lives fn = some F)
    (hO : ∀ g args h v h', M.orac g args h v h' → h.n ≤ h'.n ∧ GoodCall P G B W0 g args h v h') {j : Jd} (hev : Ev M j) : Good P G B W0 j := by
  induction hev with
  | prim hc => exact ⟨cop_le hc, goodOp_prim hc⟩
  | opcall _ ih => exact ⟨ih.1, goodOp_call ih.2⟩
  | opcallV hx _ ih => exact ⟨ih.1, goodOp_callV hx ih.2⟩
  | nil => exact ⟨Nat.le_refl _, rfl, rfl⟩
  | run hw _ _ ih1 ih2 => exact ⟨Nat.le_trans ih1.1 ih2.1, rfl, rfl, .inl ⟨rfl, hw, ih1.2⟩, ih1.1, ih2.2⟩
  | pass hw _ ih => exact ⟨ih.1, rfl, rfl, .inr ⟨rfl, hw, rfl, rfl⟩, Nat.le_refl _, ih.2⟩
  | skip =>
    refine ⟨Nat.le_refl _, fun nt code lives rest hres φ a W st free Q hq => ?_⟩
    obtain rfl : code = .skip := code_of hres
    exact wp_skip (hq φ a W st .refl rfl)
  | region _ hx ih =>
    refine ⟨ih.1, fun nt code lives rest hres φ a W st free Q hq => ?_⟩
    obtain ⟨id, ops, d, rfl, rfl, hd⟩ := code_of hres
    rcases hd with ⟨rfl, h1, h2, rfl⟩ | rfl
    · exact draw_ok hmix ih.2 h1 h2 hx st free hq
    · refine wp_region ?_
      rw [List.range_eq_range']
      exact chain_text (i := 0) ih.2 (by simp) st free hq
  | seqN _ _ ih1 ih2 =>
    refine ⟨Nat.le_trans ih1.1 ih2.1, fun nt code lives rest hres φ a W st free Q hq => ?_⟩
    obtain ⟨x, y, l1, rfl, h1, h2⟩ := code_of hres
    refine wp_seq (ih1.2 nt x lives l1 h1 φ a W st (free.left ih2.1) _ fun φ1 a1 W1 st1 x1 d1 => ?_)
    exact ih2.2 nt y l1 rest h2 φ1 a1 W1 st1 (free.right x1) Q fun φ2 a2 W2 st2 x2 d2 => hq φ2 a2 W2 st2 (x1.trans x2 free) (d2.trans d1)
  | @seqX a0 b0 f0 h0 e0 f1 h1' _ hne ih =>
    refine ⟨ih.1, fun nt code lives rest hres φ a W st free Q hq => ?_⟩
    obtain ⟨x, y, l1, rfl, h1, h2⟩ := code_of hres
    refine wp_seq (ih.2 nt x lives l1 h1 φ a W st free _ fun φ1 a1 W1 st1 x1 d1 => ?_)
    have := hq φ1 a1 W1 st1 x1 d1
    cases e0 with
    | norm => exact absurd rfl hne
    | exit i => exact this
    | ret => exact this
  | condT hc _ ih =>
    refine ⟨ih.1, fun nt code lives rest hres φ a W st free Q hq => ?_⟩
    obtain ⟨x, y, l1, rfl, ho, h1, h2⟩ := code_of hres
    have := st.rel.ev st.glob ho
    rw [hc] at this
    exact wp_cond_true (relV_bool this) (ih.2 nt x lives l1 h1 φ a W st free Q hq)
  | condF hc _ ih =>
    refine ⟨ih.1, fun nt code lives rest hres φ a W st free Q hq => ?_⟩
    obtain ⟨x, y, l1, rfl, ho, h1, h2⟩ := code_of hres
    have := st.rel.ev st.glob ho
    rw [hc] at this
    exact wp_cond_false (relV_bool this) (ih.2 nt y l1 rest h2 φ a W st free Q hq)
  | blockX _ ih =>
    refine ⟨ih.1, fun nt code lives rest hres φ a W st free Q hq => ?_⟩
    obtain ⟨x, rfl, h1⟩ := code_of hres
    refine wp_block (ih.2 nt x lives rest h1 φ a W st free _ fun φ1 a1 W1 st1 x1 d1 => ?_)
    simp only [exOf, Exit.inBlock, if_true]
    exact hq φ1 a1 W1 st1 x1 d1
  | @blockO i0 b0 f0 h0 e0 f1 h1' _ hne ih =>
    refine ⟨ih.1, fun nt code lives rest hres φ a W st free Q hq => ?_⟩
    obtain ⟨x, rfl, h1⟩ := code_of hres
    refine wp_block (ih.2 nt x lives rest h1 φ a W st free _ fun φ1 a1 W1 st1 x1 d1 => ?_)
    have := hq φ1 a1 W1 st1 x1 d1
    cases e0 with
    | norm => exact this
    | ret => exact this
    | exit i =>
      simp only [exOf, Exit.inBlock]
      rw [if_neg (fun e => hne (by rw [e]))]
      exact this
  | @loop live0 b0 f0 h0 e0 f1 h1' _ ih =>
    obtain ⟨hle, hne, k, ih⟩ := ih
    refine ⟨hle, fun nt code lives rest hres φ a W st free Q hq => ?_⟩
    obtain ⟨x, l1, rfl, h1⟩ := code_of hres
    exact wp_loop_rounds k (ih nt x l1 rest h1 φ a W (st.keep _) free Q hq)
  | again _ _ ih1 ih2 =>
    obtain ⟨hle, hne, k, ih2⟩ := ih2
    refine ⟨Nat.le_trans ih1.1 hle, hne, k + 1, fun nt code lives rest hres φ a W st free Q hq => ?_⟩
    rw [rounds_succ]
    refine ih1.2 nt code lives rest hres φ a W st (free.left hle) _ fun φ1 a1 W1 st1 x1 d1 => ?_
    exact ih2 nt code lives rest hres φ1 a1 W1 (st1.keep _) (free.right x1) Q fun φ2 a2 W2 st2 x2 d2 => hq φ2 a2 W2 st2 (x1.trans x2 free) (d2.trans d1)
  | @out live0 b0 f0 h0 e0 f1 h1' _ hne ih =>
    refine ⟨ih.1, hne, 1, fun nt code lives rest hres φ a W st free Q hq => ?_⟩
    rw [rounds_succ]
    refine ih.2 nt code lives rest hres φ a W st free _ fun φ1 a1 W1 st1 x1 d1 => ?_
    have := hq φ1 a1 W1 st1 x1 d1
    cases e0 with
    | norm => exact absurd rfl hne
    | exit i => exact this
    | ret => exact this
  | exit =>
    refine ⟨Nat.le_refl _, fun nt code lives rest hres φ a W st free Q hq => ?_⟩
    obtain rfl : code = .exit _ := code_of hres
    exact wp_exit (hq φ a W st .refl rfl)
  | ret =>
    refine ⟨Nat.le_refl _, fun nt code lives rest hres φ a W st free Q hq => ?_⟩
    obtain rfl : code = .ret := code_of hres
    exact wp_ret (hq φ a W st .refl rfl)
  | @fcall g F args h0 e0 f1 h1 v0 hfn hlen _ he hv ih =>
    obtain ⟨fn, lives, h1, h2⟩ := hM _ _ hfn
    unfold resFun at h2
    split at h2
    · cases h2
    rename_i hname
    split at h2
    · cases h2
    rename_i hnt
    split at h2
    rotate_left
    · cases h2
    rename_i c r hb hr
    cases h2
    refine ⟨ih.1, ⟨fn, h1, by simpa using hname, by rw [hb]; rfl⟩, fun φ W args' s gl hrel free => ?_⟩
    have hsz : args'.size = fn.params.size + fn.nfree := by
      have := hrel.1
      simp only at hlen
      simp at this; omega
    have hst : St B W0 G fn.ntmps φ (initF 0 args) h0 { tmps := args' ++ Array.replicate (fn.ntmps - args'.size) undef, defers := [] } W := by
      refine ⟨s, gl, fun t => ?_, by simp; omega⟩
      rw [initF_get, if_pos (Nat.zero_le _), Nat.sub_zero]
      cases ht : args[t]? with
      | none => exact .top _
      | some v =>
        obtain ⟨v', p, q⟩ := hrel.get ht
        have : (args' ++ Array.replicate (fn.ntmps - args'.size) undef).getD t undef = v' := by
          have hlt : t < args'.size := by
            rcases Nat.lt_or_ge t args'.size with g | g
            · exact g
            · rw [List.getElem?_eq_none (by simpa using g)] at p; cases p
          have p' : args'[t]? = some v' := by simpa using p
          rw [Array.getD_eq_getD_getElem?, Array.getElem?_append_left hlt, p']; rfl
        rw [Option.getD_some]
        simp only
        rw [this]; exact q
    refine calls_of_wp h1 hb (ih.2 fn.ntmps c lives _ rfl φ _ W hst free _ fun φ1 a1 W1 st1 x1 d1 => ?_)
    obtain ⟨v', k1, k2⟩ := results_ok st1.sim st1.rel hr hv
    have hd : a1.defers = [] := d1
    rcases he with rfl | rfl
    · exact ⟨hd, v', k1, φ1, v', rfl, k2, st1.sim, x1⟩
    · exact ⟨hd, v', k1, φ1, v', rfl, k2, st1.sim, x1⟩
  | known ho => exact hO _ _ _ _ _ ho

end
end Go.Cm
