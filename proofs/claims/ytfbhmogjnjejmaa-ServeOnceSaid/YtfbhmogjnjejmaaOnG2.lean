/- Texts of the proof, joined by program: Cm14, Cm15, Cm16, Cm17, Cm18, Cm19, Cm20, Cm21. Conditions: none. -/
import Derived.Test.YtfbhmogjnjejmaaOnG1
import Derived.LoopN
import Derived.Carry
import Derived.ProofKit
import Derived.OpenShut
import Derived.JoinedCond
/- The canonical machine: regions whose order is drawn. Conditions: none. -/
namespace Go.Cm
open Go.RowKit
set_option linter.unusedVariables false
set_option linter.unusedSimpArgs false

/-! ### what an operation does to memory, by its kind -/
section
variable {ρ : Operand → Value} {h h' h2 : Heap} {o : MOp} {v : Value}

theorem kind0 (hk : kindOf o = 0) (hc : cop ρ h o = some (v, h')) : h' = h ∧ ∀ h2, cop ρ h2 o = some (v, h2) := by
  cases o <;> simp only [kindOf] at hk <;> first
    | (exact absurd hk (by decide))
    | skip
  all_goals
    simp only [cop] at hc ⊢
    repeat' (split at hc)
    all_goals first
      | (cases hc; done)
      | (simp only [Option.some.injEq, Prod.mk.injEq] at hc; obtain ⟨rfl, rfl⟩ := hc; refine ⟨rfl, fun h2 => ?_⟩; simp_all <;> omega)
      | (simp only [Option.some.injEq, Prod.mk.injEq] at hc; obtain ⟨rfl, rfl⟩ := hc; refine ⟨rfl, fun h2 => ?_⟩; simp_all; done)

theorem kind1 (hk : kindOf o = 1) (hc : cop ρ h o = some (v, h')) : ∃ ob, h' = h.push ob ∧ ob.excl = true ∧ ∀ h2 : Heap, h2.n = h.n → cop ρ h2 o = some (v, h2.push ob) := by
  cases o <;> simp only [kindOf] at hk <;> first
    | (exact absurd hk (by decide))
    | skip
  all_goals
    simp only [cop] at hc ⊢
    repeat' (split at hc)
    all_goals first
      | (cases hc; done)
      | (simp only [Option.some.injEq, Prod.mk.injEq] at hc; obtain ⟨rfl, rfl⟩ := hc; refine ⟨_, rfl, rfl, fun h2 h2n => ?_⟩; simp_all)

theorem kind2 (hk : kindOf o = 2) (hc : cop ρ h o = some (v, h')) : h' = h ∧ reread ρ h o = some v := by
  have hh : h' = h := by
    cases o <;> simp only [kindOf] at hk <;> first
      | (exact absurd hk (by decide))
      | skip
    all_goals
      simp only [cop] at hc
      repeat' (split at hc)
      all_goals first
        | (cases hc; done)
        | (simp only [Option.some.injEq, Prod.mk.injEq] at hc; exact hc.2.symm)
  refine ⟨hh, ?_⟩
  cases o <;> simp only [kindOf] at hk <;> first
    | (exact absurd hk (by decide))
    | (simp only [reread, hc])

theorem reread_cop (hk : kindOf o = 2) (hr : reread ρ h o = some v) : cop ρ h o = some (v, h) := by
  have : ∃ h', cop ρ h o = some (v, h') := by
    cases o <;> simp only [kindOf] at hk <;> first
      | (exact absurd hk (by decide))
      | skip
    all_goals
      simp only [reread] at hr
      split at hr
      · rename_i w h2 hc
        simp only [Option.some.injEq] at hr
        subst hr
        exact ⟨_, hc⟩
      · cases hr
  obtain ⟨h', hc⟩ := this
  rw [hc, (kind2 hk hc).1]

theorem kind3 (hk : kindOf o = 3) (hc : cop ρ h o = some (v, h')) : h' = h := by
  cases o <;> simp only [kindOf] at hk <;> first
    | (exact absurd hk (by decide))
    | skip
  all_goals
    simp only [cop] at hc
    repeat' (split at hc)
    all_goals first
      | (cases hc; done)
      | (simp only [Option.some.injEq, Prod.mk.injEq] at hc; exact hc.2.symm)

theorem cells_ext {c : Nat} {cs : List Value} (he : ∀ c, c < h.n → h2.get? c = h.get? c) (hc : h.cells c = some cs) : h2.cells c = some cs := by
  have hlt : c < h.n := by
    unfold Heap.cells at hc
    cases hg : h.get? c with
    | none => rw [hg] at hc; cases hc
    | some o => exact Heap.get?_lt hg
  unfold Heap.cells at hc ⊢
  rw [he c hlt]; exact hc
theorem rd1_ext {a : Addr} {v : Value} (he : ∀ c, c < h.n → h2.get? c = h.get? c) (hr : h.rd1 a = some v) : h2.rd1 a = some v := by
  unfold Heap.rd1 at hr ⊢
  split at hr
  · cases hr
  rename_i hs
  rw [if_neg hs]
  split at hr
  · rename_i cs hc; rw [cells_ext he hc]; exact hr
  · cases hr
theorem rdN_ext {a : Addr} {n : Nat} {vs : List Value} (he : ∀ c, c < h.n → h2.get? c = h.get? c) (hr : h.rdN a n = some vs) : h2.rdN a n = some vs := by
  unfold Heap.rdN at hr ⊢
  split at hr
  · cases hr
  rename_i hs
  rw [if_neg hs]
  split at hr
  · rename_i cs hc; rw [cells_ext he hc]; exact hr
  · cases hr
theorem sliceCells_ext {e n : Nat} {x : Value} {vs : List Value} (he : ∀ c, c < h.n → h2.get? c = h.get? c) (hr : sliceCells h e n x = some vs) : sliceCells h2 e n x = some vs := by
  cases x <;> simp only [sliceCells] at hr ⊢ <;> first
    | (cases hr; done)
    | skip
  rename_i a len cap
  by_cases h0 : n = 0
  · rw [if_pos h0] at hr ⊢; exact hr
  · rw [if_neg h0] at hr ⊢
    cases a with
    | none => cases hr
    | some a =>
      simp only at hr ⊢
      split at hr
      · rename_i hn; rw [if_pos hn]; exact rdN_ext he hr
      · cases hr

theorem read_ext (hk : kindOf o = 2) (he : ∀ c, c < h.n → h2.get? c = h.get? c) (hc : cop ρ h o = some (v, h)) : cop ρ h2 o = some (v, h2) := by
  cases o <;> simp only [kindOf] at hk <;> first
    | (exact absurd hk (by decide))
    | skip
  · simp only [cop] at hc ⊢
    split at hc
    · split at hc
      · rename_i a ha u hu
        rw [rd1_ext he hu]
        (cases hc; first | rfl | simp_all)
      · cases hc
    · cases hc
  · simp only [cop] at hc ⊢
    split at hc
    · split at hc
      · rename_i a ha u hu
        rw [rdN_ext he hu]
        (cases hc; first | rfl | simp_all)
      · cases hc
    · cases hc
  · simp only [cop] at hc ⊢
    split at hc
    · (cases hc; first | rfl | simp_all)
    · split at hc
      · rename_i cs hcs
        rw [sliceCells_ext he hcs]
        split at hc
        · rename_i l hl
          (cases hc; first | rfl | simp_all)
        · cases hc
      · cases hc
    · cases hc
  · simp only [cop] at hc ⊢
    split at hc
    · rename_i a len cap hx
      split at hc
      · rename_i l e m hb
        cases a with
        | none =>
          (cases hc; first | rfl | simp_all)
        | some a =>
          simp only at hc ⊢
          split at hc
          · (cases hc; first | rfl | simp_all)
          · cases hg : h.get? a.block with
            | none => rw [hg] at hc; cases hc
            | some ob =>
              rw [he _ (Heap.get?_lt hg), hg]
              rw [hg] at hc
              cases ob with
              | ro cs => (cases hc; first | rfl | simp_all)
              | rw cs => (cases hc; first | rfl | simp_all)
              | loose k cs =>
                simp only at hc ⊢
                split at hc
                · (cases hc; first | rfl | simp_all)
                · split at hc
                  · (cases hc; first | rfl | simp_all)
                  · cases hc
              | dead =>
                simp only at hc ⊢
                split at hc
                · (cases hc; first | rfl | simp_all)
                · cases hc
              | map es k => cases hc
      · cases hc
    · cases hc
end

/-! ### the order -/

theorem before_go (o : Oper) (acc : Array Nat) (i : Nat) : ∀ (es : List Edge) (s : Nat), (es.foldl (fun s e => if Region.binds .any e then s ||| 2 ^ e.on ||| acc.getD e.on 0 else s) s).testBit i = true →
    s.testBit i = true ∨ ∃ e ∈ es, Region.binds .any e = true ∧ (e.on = i ∨ (acc.getD e.on 0).testBit i = true)
  | [], s, h => .inl h
  | e :: es, s, h => by
    simp only [List.foldl_cons] at h
    rcases before_go o acc i es _ h with h | ⟨e', he, hb, h⟩
    · split at h
      · rename_i hb
        rw [Nat.testBit_or, Nat.testBit_or, Bool.or_eq_true, Bool.or_eq_true] at h
        rcases h with (h | h) | h
        · exact .inl h
        · refine .inr ⟨e, by simp, hb, .inl ?_⟩
          rw [Nat.testBit_two_pow] at h
          simpa using h
        · exact .inr ⟨e, by simp, hb, .inr h⟩
      · exact .inl h
    · exact .inr ⟨e', by simp [he], hb, h⟩

theorem before_get : ∀ (l : List Oper) (j i : Nat), (((l.foldl (init := #[]) fun (acc : Array Nat) o => acc.push (o.after.foldl (fun s e => if Region.binds .any e then s ||| 2 ^ e.on ||| acc.getD e.on 0 else s) 0)).getD j 0).testBit i = true) →
    ∃ o, l[j]? = some o ∧ ∃ e ∈ o.after.toList, Region.binds .any e = true ∧ (e.on = i ∨ ((l.foldl (init := #[]) fun (acc : Array Nat) o => acc.push (o.after.foldl (fun s e => if Region.binds .any e then s ||| 2 ^ e.on ||| acc.getD e.on 0 else s) 0)).getD e.on 0).testBit i = true) := by
  intro l
  generalize hF : (fun (acc : Array Nat) (o : Oper) => acc.push (o.after.foldl (fun s e => if Region.binds .any e then s ||| 2 ^ e.on ||| acc.getD e.on 0 else s) 0)) = F
  have hsize : ∀ (l : List Oper) (acc : Array Nat), (l.foldl F acc).size = acc.size + l.length := by
    intro l
    induction l with
    | nil => intro acc; simp
    | cons o l ih => intro acc; rw [List.foldl_cons, ih]; subst hF; simp; omega
  have hpre : ∀ (l : List Oper) (acc : Array Nat) (j : Nat), j < acc.size → (l.foldl F acc).getD j 0 = acc.getD j 0 := by
    intro l
    induction l with
    | nil => intro acc j _; rfl
    | cons o l ih =>
      intro acc j hj
      rw [List.foldl_cons, ih _ _ (by subst hF; simp; omega)]
      subst hF
      simp [Array.getD_eq_getD_getElem?, Array.getElem?_push, show j ≠ acc.size from by omega]
  have key : ∀ (l : List Oper) (acc : Array Nat) (j i : Nat), acc.size ≤ j → ((l.foldl F acc).getD j 0).testBit i = true →
      ∃ o, l[j - acc.size]? = some o ∧ ∃ e ∈ o.after.toList, Region.binds .any e = true ∧ (e.on = i ∨ ((l.foldl F acc).getD e.on 0).testBit i = true) := by
    intro l
    induction l with
    | nil => intro acc j i hj h; simp [Array.getD_eq_getD_getElem?, hj] at h
    | cons o l ih =>
      intro acc j i hj h
      rw [List.foldl_cons] at h
      by_cases he : j = acc.size
      · subst he
        rw [hpre _ _ _ (by subst hF; simp)] at h
        have hv : (F acc o).getD acc.size 0 = o.after.foldl (fun s e => if Region.binds .any e then s ||| 2 ^ e.on ||| acc.getD e.on 0 else s) 0 := by
          subst hF; simp [Array.getD_eq_getD_getElem?]
        rw [hv, ← Array.foldl_toList] at h
        rcases before_go o acc i _ _ h with h | ⟨e, he, hb, h⟩
        · simp at h
        · refine ⟨o, by simp, e, he, hb, ?_⟩
          rcases h with h | h
          · exact .inl h
          · right
            have hlt : e.on < acc.size := by
              rcases Nat.lt_or_ge e.on acc.size with g | g
              · exact g
              · simp [Array.getD_eq_getD_getElem?, g] at h
            rw [List.foldl_cons, hpre _ _ _ (by subst hF; simp; omega)]
            subst hF
            simp only [Array.getD_eq_getD_getElem?, Array.getElem?_push, show e.on ≠ acc.size from by omega, if_false]
            simpa [Array.getD_eq_getD_getElem?] using h
      · obtain ⟨o', h1, e, h2, h3, h4⟩ := ih (F acc o) j i (by subst hF; simp; omega) h
        refine ⟨o', ?_, e, h2, h3, by rw [List.foldl_cons]; exact h4⟩
        have hs : (F acc o).size = acc.size + 1 := by subst hF; simp
        rw [hs] at h1
        rw [show j - acc.size = (j - (acc.size + 1)) + 1 from by omega, List.getElem?_cons_succ]
        exact h1
  intro j i h
  have := key l #[] j i (by simp) h
  simpa using this

theorem before_ok {ops : Array Oper} {i j : Nat} (h : ((Region.before ops).getD j 0).testBit i = true) : ∃ o, ops[j]? = some o ∧ ∃ e ∈ o.after.toList, Region.binds .any e = true ∧ (e.on = i ∨ ((Region.before ops).getD e.on 0).testBit i = true) := by
  unfold Region.before at h ⊢
  rw [← Array.foldl_toList] at h ⊢
  obtain ⟨o, h1, h2⟩ := before_get ops.toList j i h
  exact ⟨o, by simpa using h1, h2⟩

/-- what comes before an operation of a closed set is in the set -/
theorem closed_before {ops : Array Oper} {S : Nat → Bool} (he : edgesOK ops = true) (hS : ∀ j o, ops[j]? = some o → S j = true → ∀ e ∈ o.after.toList, Region.binds .any e = true → S e.on = true) :
    ∀ (j i : Nat), S j = true → ((Region.before ops).getD j 0).testBit i = true → S i = true := by
  intro j
  induction j using Nat.strongRecOn with
  | _ j ih =>
    intro i hj hb
    obtain ⟨o, ho, e, hm, hbind, h⟩ := before_ok hb
    have hlt : e.on < j := by
      unfold edgesOK at he
      rw [List.all_eq_true] at he
      have hjn : j < ops.size := by
        rcases Nat.lt_or_ge j ops.size with g | g
        · exact g
        · rw [Array.getElem?_eq_none g] at ho; cases ho
      have := he j (by simpa using hjn)
      rw [List.all_eq_true] at this
      have hd : ops.getD j default = o := by simp [Array.getD_eq_getD_getElem?, ho]
      rw [hd] at this
      have := this e hm
      simpa [hbind] using this
    have hSe := hS j o ho hj e hm hbind
    rcases h with h | h
    · rw [← h]; exact hSe
    · exact ih e.on hlt i hSe h

/-- what comes before an operation that is ready is in the set -/
theorem ready_before {ops : Array Oper} {S : Nat → Bool} (he : edgesOK ops = true) (hS : ∀ j o, ops[j]? = some o → S j = true → ∀ e ∈ o.after.toList, Region.binds .any e = true → S e.on = true) {j i : Nat} {o : Oper}
    (ho : ops[j]? = some o) (hr : ∀ e ∈ o.after.toList, Region.binds .any e = true → S e.on = true) (hb : ((Region.before ops).getD j 0).testBit i = true) : S i = true := by
  obtain ⟨o', ho', e, hm, hbind, h⟩ := before_ok hb
  rw [ho] at ho'
  cases ho'
  rcases h with h | h
  · rw [← h]; exact hr e hm hbind
  · exact closed_before he hS e.on i (hr e hm hbind) h

end Go.Cm

/- The canonical machine: a region in any order comes to what it comes to in the order of the text. Conditions: none. -/
namespace Go.Cm
open Go.RowKit
set_option linter.unusedVariables false
set_option linter.unusedSimpArgs false

section
variable {P : Program} {G B : Nat} {W0 : World}

/-- a chain, by its places -/
structure Steps' (P : Program) (G B : Nat) (W0 : World) (l : List MO) (trs : List Tr) (fs : Nat → Fr) (hs : Nat → Heap) (vs : Nat → Value) (rn : Nat → Bool) : Prop where
  tr : ∀ i o, l[i]? = some o → trs[i]? = some (Tr.mk (rn i) (fs i) (hs i) (hs (i + 1)) (vs i))
  fr : ∀ i o, l[i]? = some o → fs (i + 1) = (fs i).put o.dst (vs i)
  le : ∀ i o, l[i]? = some o → (hs i).n ≤ (hs (i + 1)).n
  ran : ∀ i o, l[i]? = some o → rn i = true → wantedC (fs i) o.guard = some true ∧ GoodOp P G B W0 o.op (fs i) (hs i) (vs i) (hs (i + 1))
  not : ∀ i o, l[i]? = some o → rn i = false → wantedC (fs i) o.guard = some false ∧ hs (i + 1) = hs i ∧ vs i = undef

theorem chain_fns : ∀ {l : List MO} {f : Fr} {h : Heap} {trs : List Tr} {f' : Fr} {h' : Heap}, Chain P G B W0 l f h trs f' h' →
    ∃ fs hs vs rn, fs 0 = f ∧ hs 0 = h ∧ fs l.length = f' ∧ hs l.length = h' ∧ Steps' P G B W0 l trs fs hs vs rn
  | [], f, h, [], f', h', hc => by
    obtain ⟨rfl, rfl⟩ := hc
    exact ⟨fun _ => f', fun _ => h', fun _ => undef, fun _ => false, rfl, rfl, rfl, rfl, ⟨by simp, by simp, by simp, by simp, by simp⟩⟩
  | [], _, _, _ :: _, _, _, hc => hc.elim
  | _ :: _, _, _, [], _, _, hc => hc.elim
  | o :: r, f, h, t :: trs, f', h', hc => by
    obtain ⟨h1, h2, h3, hle, h4⟩ := hc
    obtain ⟨fs, hs, vs, rn, e1, e2, e3, e4, st⟩ := chain_fns h4
    refine ⟨fun i => match i with | 0 => f | i + 1 => fs i, fun i => match i with | 0 => h | i + 1 => hs i, fun i => match i with | 0 => t.v | i + 1 => vs i, fun i => match i with | 0 => t.ran | i + 1 => rn i, rfl, rfl, e3, e4, ⟨?_, ?_, ?_, ?_, ?_⟩⟩
    · intro i o' ho
      cases i with
      | zero =>
        obtain ⟨tr, tf, th, th', tv⟩ := t
        simp only at h1 h2 e2
        simp only [List.getElem?_cons_zero, h1, h2, e2]
      | succ i => simp only [List.getElem?_cons_succ] at ho ⊢; exact st.tr i o' ho
    · intro i o' ho
      cases i with
      | zero => simp only [List.getElem?_cons_zero, Option.some.injEq] at ho; subst ho; exact e1
      | succ i => simp only [List.getElem?_cons_succ] at ho ⊢; exact st.fr i o' ho
    · intro i o' ho
      cases i with
      | zero => show h.n ≤ (hs 0).n; rw [e2]; exact hle
      | succ i => simp only [List.getElem?_cons_succ] at ho ⊢; exact st.le i o' ho
    · intro i o' ho hr
      cases i with
      | zero =>
        simp only [List.getElem?_cons_zero, Option.some.injEq] at ho; subst ho
        rcases h3 with ⟨g1, g2, g3⟩ | ⟨g1, _⟩
        · refine ⟨g2, ?_⟩
          show GoodOp P G B W0 o.op f h t.v (hs 0)
          rw [e2]; exact g3
        · simp only at hr; rw [g1] at hr; cases hr
      | succ i => simp only [List.getElem?_cons_succ] at ho ⊢; exact st.ran i o' ho hr
    · intro i o' ho hr
      cases i with
      | zero =>
        simp only [List.getElem?_cons_zero, Option.some.injEq] at ho; subst ho
        rcases h3 with ⟨g1, _⟩ | ⟨g1, g2, g3, g4⟩
        · simp only at hr; rw [g1] at hr; cases hr
        · refine ⟨g2, ?_, g4⟩
          show hs 0 = h
          rw [e2]; exact g3
      | succ i => simp only [List.getElem?_cons_succ] at ho ⊢; exact st.not i o' ho hr

/-- the frame of those operations that have been done -/
def frS (f0 : Fr) (dst : Nat → Option Nat) (vs : Nat → Value) (S : Nat → Bool) : Nat → Fr
  | 0 => f0
  | m + 1 => if S m then (frS f0 dst vs S m).put (dst m) (vs m) else frS f0 dst vs S m

theorem get_put {f : Fr} {d : Option Nat} {v : Value} {t : Nat} : (f.put d v).get t = if d = some t then v else f.get t := by
  cases d with
  | none => simp [Fr.put]
  | some s =>
    simp only [Fr.put, Fr.get, Option.some.injEq]
    by_cases h : s = t
    · subst h; simp
    · rw [if_neg (Ne.symm h), if_neg h]

theorem frS_agree {f0 : Fr} {dst : Nat → Option Nat} {vs : Nat → Value} {S S' : Nat → Bool} {t : Nat} : ∀ (m : Nat), (∀ j, j < m → dst j = some t → S j = S' j) → (frS f0 dst vs S m).get t = (frS f0 dst vs S' m).get t
  | 0, _ => rfl
  | m + 1, h => by
    have ih := frS_agree (f0 := f0) (vs := vs) m (fun j hj => h j (by omega))
    simp only [frS]
    by_cases hd : dst m = some t
    · have hS := h m (by omega) hd
      rw [hS]
      split
      · rw [get_put, get_put, if_pos hd, if_pos hd]
      · exact ih
    · split <;> split <;> (try rw [get_put, if_neg hd]) <;> (try rw [get_put, if_neg hd]) <;> exact ih
theorem frS_none {f0 : Fr} {dst : Nat → Option Nat} {vs : Nat → Value} {S : Nat → Bool} {t i : Nat} : ∀ (m : Nat), i ≤ m → (∀ j, i ≤ j → j < m → dst j = some t → S j = false) → (frS f0 dst vs S m).get t = (frS f0 dst vs S i).get t
  | 0, hi, _ => by
    have h0 : i = 0 := by omega
    rw [h0]
  | m + 1, hi, h => by
    by_cases he : i = m + 1
    · subst he; rfl
    · have ih := frS_none (f0 := f0) (vs := vs) (S := S) m (by omega) (fun j h1 h2 => h j h1 (by omega))
      simp only [frS]
      split
      · rename_i hS
        rw [get_put, if_neg (fun hd => by have := h m (by omega) (by omega) hd; rw [this] at hS; cases hS)]
        exact ih
      · exact ih

/-- an object, as it was when it was made -/
def bth (hs : Nat → Heap) : Nat → Nat → Option CObj
  | 0, c => (hs 0).get? c
  | m + 1, c => if c < (hs m).n then bth hs m c else (hs (m + 1)).get? c

theorem bth_at {hs : Nat → Heap} {n : Nat} (hle : ∀ i, i < n → (hs i).n ≤ (hs (i + 1)).n) {i c : Nat} (h1 : (hs i).n ≤ c) (h2 : c < (hs (i + 1)).n) : ∀ (m : Nat), i < m → m ≤ n → bth hs m c = (hs (i + 1)).get? c := by
  intro m
  induction m with
  | zero => intro h; omega
  | succ m ih =>
    intro hi hm
    by_cases he : i = m
    · subst he; simp only [bth]; rw [if_neg (by omega)]
    · simp only [bth]
      have hmono : ∀ d, i + 1 + d ≤ m → (hs (i + 1)).n ≤ (hs (i + 1 + d)).n := by
        intro d
        induction d with
        | zero => intro _; exact Nat.le_refl _
        | succ d ihd => intro hd; exact Nat.le_trans (ihd (by omega)) (hle _ (by omega))
      have := hmono (m - (i + 1)) (by omega)
      rw [show i + 1 + (m - (i + 1)) = m from by omega] at this
      rw [if_pos (by omega)]
      exact ih (by omega) (by omega)

/-- memory, as the model's stands: the effects up to place N done, later blocks as they were made -/
def gf (hs : Nat → Heap) (n N : Nat) : HF := fun c => if c < (hs N).n then (hs N).get? c else bth hs n c

/-- the generic step: an operation that was run over memory Hx -/
theorem step_sim {φ φ' : Emb} {Gm Gm' : HF} {Hx Hx' : Heap} {W W' : World} (s : Sim B W0 φ Gm W) (s' : Sim B W0 φ' Hx'.get? W') (x' : Ext φ φ' Hx Hx' W W') (free : Free φ Hx Hx')
    (h1 : ∀ c l o, φ c = some l → Hx.get? c = some o → Gm c = some o)
    (h2 : ∀ c l o, φ' c = some l → Gm' c = some o → Hx'.get? c = some o ∨ (φ c = some l ∧ Gm c = some o ∧ Hx.get? c = none ∧ Hx'.get? c = none)) :
    Sim B W0 φ' Gm' W' := by
  have keepObj : ∀ c l o, φ c = some l → Gm c = some o → Hx.get? c = none → ObjRel B φ' W' l o := by
    intro c l o g1 g2 g3
    have old := s.obj c l o g1 g2
    have hblk : o.excl = true ∨ l.b < B → W'.heap[l.b]? = W.heap[l.b]? := by
      intro hor
      refine x'.keepW l.b (s.lt c l g1) ?_
      intro c1 l1 o1 k1 k2 k3 e
      have k4 := h1 c1 l1 o1 k1 k2
      rcases hor with he | hB
      · have := s.inj c1 c l1 l o1 o k1 g1 k4 g2 k3 he e
        subst this
        rw [k2] at g3; cases g3
      · have := s.obj c1 l1 o1 k1 k4
        cases o1 with
        | ro _ => cases k3
        | dead => cases k3
        | rw _ => have := this.1; omega
        | loose _ _ => have := this.1; omega
        | map _ _ => have := this.1; omega
    cases o with
    | dead => trivial
    | ro cs => exact old.keep x'.sub (hblk (.inr old.1))
    | rw cs => exact old.keep x'.sub (hblk (.inl rfl))
    | loose e cs => exact old.keep x'.sub (hblk (.inl rfl))
    | map es k => exact old.keep x'.sub (hblk (.inl rfl))
  refine ⟨s'.below, s'.inB, s'.lt, ?_, ?_⟩
  · intro c l o g1 g2
    rcases h2 c l o g1 g2 with g | ⟨g3, g4, g5, _⟩
    · exact s'.obj c l o g1 g
    · exact keepObj c l o g3 g4 g5
  · intro c1 c2 l1 l2 o1 o2 g1 g2 p1 p2 e1 e2 e
    have mixed : ∀ c1 c2 l1 l2 o1 o2, φ' c1 = some l1 → Hx'.get? c1 = some o1 → o1.excl = true → φ c2 = some l2 → Gm c2 = some o2 → o2.excl = true → Hx.get? c2 = none → l1.b ≠ l2.b := by
      intro c1 c2 l1 l2 o1 o2 a1 a2 a3 b1 b2 b3 b4 e
      rcases x'.old free a1 a2 a3 with g | ⟨c0, l0, o0, k1, k2, k3, k4⟩
      · have := s.lt c2 l2 b1; omega
      · have := s.inj c0 c2 l0 l2 o0 o2 k1 b1 (h1 c0 l0 o0 k1 k2) b2 k3 b3 (by omega)
        subst this
        rw [k2] at b4; cases b4
    rcases h2 c1 l1 o1 g1 p1 with q1 | ⟨q1, q2, q3, q4⟩ <;> rcases h2 c2 l2 o2 g2 p2 with r1 | ⟨r1, r2, r3, r4⟩
    · exact s'.inj c1 c2 l1 l2 o1 o2 g1 g2 q1 r1 e1 e2 e
    · exact absurd e (mixed c1 c2 l1 l2 o1 o2 g1 q1 e1 r1 r2 e2 r3)
    · exact absurd e.symm (mixed c2 c1 l2 l1 o2 o1 g2 r1 e2 q1 q2 e1 q3)
    · exact s.inj c1 c2 l1 l2 o1 o2 q1 r1 q2 r2 e1 e2 e


structure DInv (B : Nat) (W0 : World) (G nt n : Nat) (K : Nat → Nat) (dst : Nat → Option Nat) (fs : Nat → Fr) (hs : Nat → Heap) (vs : Nat → Value) (φ0 : Emb) (a0 : Act) (Wz : World)
    (S : Nat → Bool) (N : Nat) (φ : Emb) (a : Act) (W : World) : Prop where
  rel : RelF φ (frS (fs 0) dst vs S n) a.tmps
  size : a.tmps.size = nt
  defers : a.defers = a0.defers
  glob : Glob G φ
  sim : Sim B W0 φ (gf hs n N) W
  sub : Sub φ0 φ
  dom : ∀ c l, φ c = some l → φ0 c = some l ∨ ∃ i, i < n ∧ S i = true ∧ (hs i).n ≤ c ∧ c < (hs (i + 1)).n
  keep : ∀ i, i < n → S i = true → ∀ c, c < (hs i).n → φ c = none → (hs (i + 1)).get? c = (hs i).get? c
  excl : ∀ i, i < n → S i = true → ∀ c o', c < (hs i).n → (hs (i + 1)).get? c = some o' → o'.excl = true → ∃ o, (hs i).get? c = some o ∧ o.excl = true
  keepW : ∀ b, b < Wz.heap.size → (∀ c l o, φ0 c = some l → (hs 0).get? c = some o → o.excl = true → l.b ≠ b) → W.heap[b]? = Wz.heap[b]?
  img : ∀ c l, φ0 c = none → φ c = some l → Wz.heap.size ≤ l.b ∨ ∃ c0 l0 o0, φ0 c0 = some l0 ∧ (hs 0).get? c0 = some o0 ∧ o0.excl = true ∧ l0.b = l.b
  old : ∀ c l o, φ c = some l → gf hs n N c = some o → o.excl = true → Wz.heap.size ≤ l.b ∨ ∃ c0 l0 o0, φ0 c0 = some l0 ∧ (hs 0).get? c0 = some o0 ∧ o0.excl = true ∧ l0.b = l.b
  wsize : Wz.heap.size ≤ W.heap.size
  Nle : N ≤ n
  n1 : ∀ j, j < N → K j = 4 → S j = true
  n2 : N < n → K N = 4 ∧ S N = false

theorem dinv_step {nt n : Nat} {K : Nat → Nat} {dst : Nat → Option Nat} {fs : Nat → Fr} {hs : Nat → Heap} {vs : Nat → Value} {φ0 : Emb} {a0 : Act} {Wz : World}
    {S S' : Nat → Bool} {N N' : Nat} {φ φ' : Emb} {a : Act} {W W' : World} {i : Nat} {Hx Hx' : Heap} {v' : Value} (d : DInv B W0 G nt n K dst fs hs vs φ0 a0 Wz S N φ a W)
    (hi : i < n) (hSi : S i = false) (hS' : ∀ j, S' j = if j = i then true else S j) (hdst : ∀ t, dst i = some t → t < nt)
    (s' : Sim B W0 φ' Hx'.get? W') (x' : Ext φ φ' Hx Hx' W W') (free : Free φ Hx Hx') (hv : RelV φ' (vs i) v')
    (h1 : ∀ c l o, φ c = some l → Hx.get? c = some o → gf hs n N c = some o)
    (h2 : ∀ c l o, φ' c = some l → gf hs n N' c = some o → Hx'.get? c = some o ∨ (φ c = some l ∧ gf hs n N c = some o ∧ Hx.get? c = none ∧ Hx'.get? c = none))
    (hdom : ∀ c, Hx.n ≤ c → c < Hx'.n → (hs i).n ≤ c ∧ c < (hs (i + 1)).n)
    (hkeep : ∀ c, c < (hs i).n → φ' c = none → (hs (i + 1)).get? c = (hs i).get? c)
    (hexcl : ∀ c o', c < (hs i).n → (hs (i + 1)).get? c = some o' → o'.excl = true → ∃ o, (hs i).get? c = some o ∧ o.excl = true)
    (hw : ∀ j t, j < n → j ≠ i → dst j = some t → dst i = some t → S j = decide (j < i))
    (hN : N' ≤ n) (m1 : ∀ j, j < N' → K j = 4 → S' j = true) (m2 : N' < n → K N' = 4 ∧ S' N' = false) :
    DInv B W0 G nt n K dst fs hs vs φ0 a0 Wz S' N' φ' (a.put (dst i) v') W' := by
  have hblocks : ∀ b, b < Wz.heap.size → (∀ c l o, φ0 c = some l → (hs 0).get? c = some o → o.excl = true → l.b ≠ b) → W'.heap[b]? = W.heap[b]? := by
    intro b hb hno
    refine x'.keepW b (Nat.lt_of_lt_of_le hb d.wsize) ?_
    intro c l o g1 g2 g3 e
    rcases d.old c l o g1 (h1 c l o g1 g2) g3 with g | ⟨c0, l0, o0, k1, k2, k3, k4⟩
    · omega
    · exact hno c0 l0 o0 k1 k2 k3 (k4.trans e)
  refine ⟨?_, put_size.trans d.size, put_defers.trans d.defers, d.glob.mono x'.sub, step_sim d.sim s' x' free h1 h2, fun c l h => x'.sub c l (d.sub c l h), ?_, ?_, ?_, ?_, ?_, ?_, Nat.le_trans d.wsize x'.size, hN, m1, m2⟩
  · intro t
    have hput : (a.put (dst i) v').tmps.getD t undef = if dst i = some t then v' else a.tmps.getD t undef := by
      cases hdi : dst i with
      | none => simp [Act.put]
      | some u =>
        have hu := hdst u hdi
        rw [← d.size] at hu
        simp only [Act.put, Option.some.injEq]
        by_cases hut : u = t
        · subst hut; simp [Array.getD_eq_getD_getElem?, hu]
        · rw [if_neg hut]; simp [Array.getD_eq_getD_getElem?, Array.getElem?_setIfInBounds_ne hut]
    rw [hput]
    by_cases hdt : dst i = some t
    · rw [if_pos hdt]
      have : (frS (fs 0) dst vs S' n).get t = vs i := by
        have e1 := frS_none (f0 := fs 0) (dst := dst) (vs := vs) (S := S') (t := t) (i := i + 1) n (by omega) (fun j g1 g2 g3 => by
          rw [hS', if_neg (by omega), hw j t g2 (by omega) g3 hdt]; simp; omega)
        rw [e1]
        simp only [frS]
        rw [if_pos (by rw [hS', if_pos rfl]), get_put, if_pos hdt]
      rw [this]; exact hv
    · rw [if_neg hdt]
      have : (frS (fs 0) dst vs S' n).get t = (frS (fs 0) dst vs S n).get t := frS_agree n (fun j g1 g2 => by
        rw [hS']
        by_cases hj : j = i
        · subst hj; exact absurd g2 hdt
        · rw [if_neg hj])
      rw [this]; exact (d.rel t).mono x'.sub
  · intro c l h
    cases hc : φ c with
    | some l' =>
      have := x'.sub c l' hc
      rw [h] at this; cases this
      rcases d.dom c l hc with g | ⟨j, g1, g2, g3, g4⟩
      · exact .inl g
      · exact .inr ⟨j, g1, by rw [hS']; split <;> first | rfl | exact g2, g3, g4⟩
    | none =>
      obtain ⟨g1, g2⟩ := x'.dom c l hc h
      obtain ⟨g3, g4⟩ := hdom c g1 g2
      exact .inr ⟨i, hi, by rw [hS', if_pos rfl], g3, g4⟩
  · intro j hj hSj c hc hn
    by_cases hji : j = i
    · subst hji; exact hkeep c hc hn
    · rw [hS', if_neg hji] at hSj
      refine d.keep j hj hSj c hc ?_
      cases hcc : φ c with
      | none => rfl
      | some l => rw [x'.sub c l hcc] at hn; cases hn
  · intro j hj hSj c o' hc g e
    by_cases hji : j = i
    · subst hji; exact hexcl c o' hc g e
    · rw [hS', if_neg hji] at hSj
      exact d.excl j hj hSj c o' hc g e
  · intro b hb hno
    rw [hblocks b hb hno, d.keepW b hb hno]
  · intro c l g1 g2
    cases hc : φ c with
    | some l' =>
      have := x'.sub c l' hc
      rw [g2] at this; cases this
      exact d.img c l g1 hc
    | none =>
      rcases x'.img c l hc g2 with g | ⟨c0, l0, o0, k1, k2, k3, k4⟩
      · exact .inl (Nat.le_trans d.wsize g)
      · rw [← k4]
        exact d.old c0 l0 o0 k1 (h1 c0 l0 o0 k1 k2) k3
  · intro c l o g1 g2 g3
    rcases h2 c l o g1 g2 with q | ⟨q1, q2, q3, q4⟩
    · rcases x'.old free g1 q g3 with g | ⟨c0, l0, o0, k1, k2, k3, k4⟩
      · exact .inl (Nat.le_trans d.wsize g)
      · rw [← k4]
        exact d.old c0 l0 o0 k1 (h1 c0 l0 o0 k1 k2) k3
    · exact d.old c l o q1 q2 g3

/-- memory between two effects: made longer, nothing else -/
theorem gf_quiet {hs : Nat → Heap} {n N k : Nat} (hle : ∀ i, i < n → (hs i).n ≤ (hs (i + 1)).n) (hk : N ≤ k) (hkn : k ≤ n)
    (hq : ∀ j, N ≤ j → j < k → ∀ c, c < (hs j).n → (hs (j + 1)).get? c = (hs j).get? c) : ∀ c, c < (hs k).n → gf hs n N c = (hs k).get? c := by
  have hmono : ∀ d, N + d ≤ n → (hs N).n ≤ (hs (N + d)).n := by
    intro d
    induction d with
    | zero => intro _; exact Nat.le_refl _
    | succ d ih => intro h; exact Nat.le_trans (ih (by omega)) (hle _ (by omega))
  have key : ∀ d, N + d ≤ k → ∀ c, c < (hs (N + d)).n → gf hs n N c = (hs (N + d)).get? c := by
    intro d
    induction d with
    | zero =>
      intro _ c hc
      have hc' : c < (hs N).n := hc
      show (if c < (hs N).n then (hs N).get? c else bth hs n c) = _
      rw [if_pos hc']; rfl
    | succ d ih =>
      intro hd c hc
      by_cases hc' : c < (hs (N + d)).n
      · rw [ih (by omega) c hc', ← hq (N + d) (by omega) (by omega) c hc']; rfl
      · have h0 := hmono d (by omega)
        show (if c < (hs N).n then (hs N).get? c else bth hs n c) = _
        rw [if_neg (by omega), bth_at (n := n) hle (i := N + d) (by omega) hc n (by omega) (Nat.le_refl _)]; rfl
  have := key (k - N) (by omega)
  rw [show N + (k - N) = k from by omega] at this
  exact this

theorem gf_same {hs : Nat → Heap} {n N k : Nat} (hle : ∀ i, i < n → (hs i).n ≤ (hs (i + 1)).n) (hk : N ≤ k) (hkn : k ≤ n)
    (hq : ∀ j, N ≤ j → j < k → ∀ c, c < (hs j).n → (hs (j + 1)).get? c = (hs j).get? c) (c : Nat) : gf hs n k c = gf hs n N c := by
  by_cases hc : c < (hs k).n
  · rw [gf_quiet hle hk hkn hq c hc]
    show (if c < (hs k).n then (hs k).get? c else bth hs n c) = _
    rw [if_pos hc]
  · have hm : ∀ d, N + d ≤ n → (hs N).n ≤ (hs (N + d)).n := by
      intro d
      induction d with
      | zero => intro _; exact Nat.le_refl _
      | succ d ih => intro h; exact Nat.le_trans (ih (by omega)) (hle _ (by omega))
    have h1 := hm (k - N) (by omega)
    rw [show N + (k - N) = k from by omega] at h1
    show (if c < (hs k).n then (hs k).get? c else bth hs n c) = (if c < (hs N).n then (hs N).get? c else bth hs n c)
    rw [if_neg hc, if_neg (by omega)]

theorem bth_lt {hs : Nat → Heap} {n : Nat} (hle : ∀ i, i < n → (hs i).n ≤ (hs (i + 1)).n) {c : Nat} {o : CObj} : ∀ (m : Nat), m ≤ n → bth hs m c = some o → c < (hs m).n
  | 0, _, h => Heap.get?_lt h
  | m + 1, hm, h => by
    simp only [bth] at h
    split at h
    · exact Nat.lt_of_lt_of_le (by assumption) (hle m (by omega))
    · exact Heap.get?_lt h

theorem sim_less {B : Nat} {W0 : World} {φ : Emb} {H1 H2 : HF} {W : World} (s : Sim B W0 φ H1 W) (h : ∀ c l o, φ c = some l → H2 c = some o → H1 c = some o) : Sim B W0 φ H2 W :=
  ⟨s.below, s.inB, s.lt, fun c l o g1 g2 => s.obj c l o g1 (h c l o g1 g2), fun c1 c2 l1 l2 o1 o2 g1 g2 p1 p2 => s.inj c1 c2 l1 l2 o1 o2 g1 g2 (h _ _ _ g1 p1) (h _ _ _ g2 p2)⟩

theorem countP_less {p q : Nat → Bool} {i : Nat} (hpq : ∀ j, q j = true → p j = true) (hp : p i = true) (hq : q i = false) : ∀ (l : List Nat), i ∈ l → l.countP q < l.countP p
  | [], h => by cases h
  | x :: l, h => by
    have hle : l.countP q ≤ l.countP p := List.countP_mono_left fun j _ => hpq j
    simp only [List.countP_cons]
    rcases List.mem_cons.1 h with rfl | h
    · rw [hp, hq]; simp; omega
    · have := countP_less hpq hp hq l h
      cases hqx : q x with
      | true => rw [hpq x hqx]; simp; omega
      | false => simp; split <;> omega

theorem first_effect {K : Nat → Nat} {S : Nat → Bool} {n : Nat} : ∀ (d m : Nat), m + d = n → (∀ j, j < m → K j = 4 → S j = true) → ∃ N, m ≤ N ∧ N ≤ n ∧ (∀ j, j < N → K j = 4 → S j = true) ∧ (N < n → K N = 4 ∧ S N = false) ∧ (∀ j, m ≤ j → j < N → K j = 4 → S j = true)
  | 0, m, hm, h => ⟨m, Nat.le_refl _, by omega, h, fun h1 => absurd h1 (by omega), fun j h1 h2 => absurd h1 (by omega)⟩
  | d + 1, m, hm, h => by
    by_cases hk : K m = 4 ∧ S m = false
    · exact ⟨m, Nat.le_refl _, by omega, h, fun _ => hk, fun j h1 h2 => absurd h1 (by omega)⟩
    · have hm' : ∀ j, j < m + 1 → K j = 4 → S j = true := by
        intro j hj hKj
        by_cases hjm : j = m
        · subst hjm
          cases hS : S j with
          | true => rfl
          | false => exact absurd ⟨hKj, hS⟩ hk
        · exact h j (by omega) hKj
      have he : m + 1 + d = n := by omega
      obtain ⟨N, g1, g2, g3, g4, _⟩ := first_effect d (m + 1) he hm'
      exact ⟨N, Nat.le_of_succ_le g1, g2, g3, g4, fun j _ hj hK => g3 j hj hK⟩


theorem crosses_mem {ops : Array Oper} {ms : List MOp} {b : Array Nat} {i j : Nat} (hj : j < ops.size) (hij : i < j) (hb : (b.getD j 0).testBit i = false) :
    (kindOf (ms.getD i .bad) = 2 → kindOf (ms.getD j .bad) = 4 → (i, j) ∈ crossesOf ops ms b) ∧ (kindOf (ms.getD i .bad) = 4 → kindOf (ms.getD j .bad) = 2 → (j, i) ∈ crossesOf ops ms b) := by
  constructor
  · intro h1 h2
    unfold crossesOf
    rw [List.mem_flatMap]
    refine ⟨j, by simpa using hj, ?_⟩
    rw [List.mem_filterMap]
    refine ⟨i, by simpa using hij, ?_⟩
    rw [if_neg (by rw [hb]; simp), if_pos ⟨h1, h2⟩]
  · intro h1 h2
    unfold crossesOf
    rw [List.mem_flatMap]
    refine ⟨j, by simpa using hj, ?_⟩
    rw [List.mem_filterMap]
    refine ⟨i, by simpa using hij, ?_⟩
    rw [if_neg (by rw [hb]; simp), if_neg (by rw [h1]; simp), if_pos ⟨h1, h2⟩]

theorem draw_pairs {ops : Array Oper} {ms : List MOp} {b : Array Nat} (hd : drawOK ops ms b = true) {i j : Nat} (hj : j < ops.size) (hij : i < j) (hb : (b.getD j 0).testBit i = false) :
    freePair ops (kindOf (ms.getD i .bad)) (kindOf (ms.getD j .bad)) (ops.getD i default) (ops.getD j default) = true := by
  unfold drawOK at hd
  rw [List.all_eq_true] at hd
  have h1 := hd j (by simpa using hj)
  rw [List.all_eq_true] at h1
  have h2 := h1 i (by simpa using hij)
  rw [hb] at h2
  simpa using h2

theorem free_spec {ops : Array Oper} {ki kj : Nat} {oi oj : Oper} (h : freePair ops ki kj oi oj = true) : (∀ d, oi.dst = some d → d ∉ looks ops oj ∧ oj.dst ≠ some d) ∧ (∀ d, oj.dst = some d → d ∉ looks ops oi) ∧
    ¬ (ki = 4 ∧ kj = 4) ∧ ¬ (ki = 4 ∧ kj = 3) ∧ ¬ (ki = 3 ∧ kj = 4) := by
  unfold freePair at h
  simp only [Bool.and_eq_true, Bool.not_eq_true', Bool.and_eq_false_iff, beq_eq_false_iff_ne] at h
  obtain ⟨⟨⟨⟨h1, h2⟩, h3⟩, h4⟩, h5⟩ := h
  refine ⟨fun d hd => ?_, fun d hd => ?_, by omega, by omega, by omega⟩
  · rw [hd] at h1; simp at h1; exact ⟨h1.1, h1.2⟩
  · rw [hd] at h2; simpa using h2

theorem looks_operand {ops : Array Oper} {o : Oper} {t : Nat} (h : Operand.tmp t ∈ o.op.operands.toList) : t ∈ looks ops o := by
  unfold looks
  exact List.mem_append_left _ (by unfold tmpsOf; rw [List.mem_filterMap]; exact ⟨_, h, rfl⟩)
theorem looks_guard {ops : Array Oper} {o : Oper} {t : Nat} {want : Bool} (h : resGuard ops o.guard = some (some (t, want))) : t ∈ looks ops o := by
  unfold looks
  refine List.mem_append_right _ ?_
  unfold resGuard at h
  split at h
  · cases h
  · rename_i j w hg
    split at h
    · rename_i u hu
      cases h
      simp only [hg, hu]; simp
    · cases h

/-- a region whose order is drawn -/
theorem draw_ok {nt id : Nat} {ops : Array Oper} {f f' : Fr} {h h' : Heap} {trs : List Tr} {φ0 : Emb} {a0 : Act} {Wz : World} {Q : Exit → Act → World → Prop} (hmix : P.follows .mixedOrders = true)
    (hchain : Chain P G B W0 (ops.toList.map (resMO P G nt ops)) f h trs f' h') (hed : edgesOK ops = true) (hdr : drawOK ops (ops.toList.map (resOp P G ·.op)) (Region.before ops) = true)
    (hcr : ∀ ij ∈ crossesOf ops (ops.toList.map (resOp P G ·.op)) (Region.before ops), CrossOK (ops.toList.map (resMO P G nt ops)) trs ij) (st : St B W0 G nt φ0 f h a0 Wz) (free : Free φ0 h h')
    (hq : ∀ φ' a' W', St B W0 G nt φ' f' h' a' W' → Ext φ0 φ' h h' Wz W' → a'.defers = a0.defers → Q .normal a' W') : (Code.region id ops true).wp P Q a0 Wz := by
  obtain ⟨fs, hs, vs, rn, e1, e2, e3, e4, sp⟩ := chain_fns hchain
  subst e1 e2 e3 e4
  have hlen : (ops.toList.map (resMO P G nt ops)).length = ops.size := by simp
  rw [hlen] at free hq
  -- the operations
  have hl : ∀ i (hi : i < ops.size), (ops.toList.map (resMO P G nt ops))[i]? = some (resMO P G nt ops ops[i]) := fun i hi => by simp [hi]
  have hle : ∀ i, i < ops.size → (hs i).n ≤ (hs (i + 1)).n := fun i hi => sp.le i _ (hl i hi)
  have hmono : ∀ i j, i ≤ j → j ≤ ops.size → (hs i).n ≤ (hs j).n := by
    intro i j hij hj
    induction j with
    | zero => obtain rfl : i = 0 := by omega
              exact Nat.le_refl _
    | succ j ih =>
      by_cases he : i = j + 1
      · subst he; exact Nat.le_refl _
      · exact Nat.le_trans (ih (by omega) (by omega)) (hle j (by omega))
  have hinv : ∀ i (hi : i < ops.size), ∃ g, resGuard ops ops[i].guard = some g ∧ (∀ t, ops[i].dst = some t → t < nt) ∧ resMO P G nt ops ops[i] = ⟨ops[i].dst, resOp P G ops[i].op, g⟩ := by
    intro i hi
    refine resMO_inv ?_
    cases hr : rn i with
    | true => left; exact (sp.ran i _ (hl i hi) hr).2.1
    | false => right; intro e; have := (sp.not i _ (hl i hi) hr).1; rw [e] at this; simp [wantedC] at this
  -- kinds
  let K : Nat → Nat := fun i => kindOf ((ops.toList.map (resOp P G ·.op)).getD i .bad)
  let dst : Nat → Option Nat := fun i => (ops.getD i default).dst
  have hK : ∀ i (hi : i < ops.size), K i = kindOf (resOp P G ops[i].op) := fun i hi => by simp [K, hi]
  have hD : ∀ i (hi : i < ops.size), dst i = ops[i].dst := fun i hi => by simp [dst, hi]
  have hfs : ∀ i, i ≤ ops.size → fs i = frS (fs 0) dst vs (fun _ => true) i := by
    intro i
    induction i with
    | zero => intro _; rfl
    | succ i ih =>
      intro hi
      obtain ⟨g, _, _, hmo⟩ := hinv i (by omega)
      have := sp.fr i _ (hl i (by omega))
      rw [hmo] at this
      simp only [frS, if_true]
      rw [← ih (by omega), this, hD i (by omega)]
  -- a non-effect that ran: memory is made longer at most
  have hcop : ∀ i (hi : i < ops.size), rn i = true → K i ≠ 4 → cop (fs i).ev (hs i) (resOp P G ops[i].op) = some (vs i, hs (i + 1)) := by
    intro i hi hr hk
    obtain ⟨g, _, _, hmo⟩ := hinv i hi
    have := (sp.ran i _ (hl i hi) hr).2
    rw [hmo] at this
    refine this.2.1 ?_
    cases hc : isCall (resOp P G ops[i].op) with
    | false => rfl
    | true =>
      exfalso
      apply hk
      rw [hK i hi]
      generalize resOp P G ops[i].op = o at hc ⊢
      cases o <;> simp [isCall] at hc <;> rfl
  have hgrow : ∀ i (hi : i < ops.size), (K i ≠ 4 ∨ rn i = false) → hs (i + 1) = hs i ∨ (rn i = true ∧ K i = 1 ∧ ∃ ob, hs (i + 1) = (hs i).push ob ∧ ob.excl = true) := by
    intro i hi hor
    cases hr : rn i with
    | false => exact .inl (sp.not i _ (hl i hi) hr).2.1
    | true =>
      have hk : K i ≠ 4 := by rcases hor with g | g; exact g; rw [hr] at g; cases g
      have hc := hcop i hi hr hk
      have hk' := hK i hi
      have hlt : kindOf (resOp P G ops[i].op) = 0 ∨ kindOf (resOp P G ops[i].op) = 1 ∨ kindOf (resOp P G ops[i].op) = 2 ∨ kindOf (resOp P G ops[i].op) = 3 := by
        have : kindOf (resOp P G ops[i].op) ≤ 4 := by generalize resOp P G ops[i].op = o; cases o <;> simp [kindOf]
        omega
      rcases hlt with h0 | h1 | h2 | h3
      · exact .inl (kind0 h0 hc).1
      · obtain ⟨ob, q1, q2, _⟩ := kind1 h1 hc; exact .inr ⟨rfl, by omega, ob, q1, q2⟩
      · exact .inl (kind2 h2 hc).1
      · exact .inl (kind3 h3 hc)
  have hquiet : ∀ i (hi : i < ops.size), (K i ≠ 4 ∨ rn i = false) → ∀ c, c < (hs i).n → (hs (i + 1)).get? c = (hs i).get? c := by
    intro i hi hor c hc
    rcases hgrow i hi hor with g | ⟨_, _, ob, g, _⟩
    · rw [g]
    · rw [g, Heap.get?_push_old hc]
  have hpair : ∀ i j (hi : i < ops.size) (hj : j < ops.size), i < j → ((Region.before ops).getD j 0).testBit i = false →
      (∀ d, ops[i].dst = some d → d ∉ looks ops ops[j] ∧ ops[j].dst ≠ some d) ∧ (∀ d, ops[j].dst = some d → d ∉ looks ops ops[i]) ∧ ¬ (K i = 4 ∧ K j = 4) ∧ ¬ (K i = 4 ∧ K j = 3) ∧ ¬ (K i = 3 ∧ K j = 4) := by
    intro i j hi hj hij hb
    have := free_spec (draw_pairs hdr hj hij hb)
    rw [show ops.getD i default = ops[i] from by simp [hi], show ops.getD j default = ops[j] from by simp [hj]] at this
    exact this
  have hnone : ∀ m c, Heap.get? ⟨m, []⟩ c = none := by
    intro m c; unfold Heap.get?; split <;> simp
  have hrel : ∀ i (hi : i < ops.size), rn i = true → (ops.toList.map (resMO P G nt ops))[i]? = some ⟨ops[i].dst, resOp P G ops[i].op, (resMO P G nt ops ops[i]).guard⟩ := by
    intro i hi _
    obtain ⟨g, _, _, hmo⟩ := hinv i hi
    rw [hl i hi, hmo]
  -- a step
  have hstep : ∀ (S : Nat → Bool) (N : Nat) (φ : Emb) (a : Act) (W : World) (i : Nat) (hi : i < ops.size), DInv B W0 G nt ops.size K dst fs hs vs φ0 a0 Wz S N φ a W →
      (∀ j o, ops[j]? = some o → S j = true → ∀ e ∈ o.after.toList, Region.binds .any e = true → S e.on = true) → S i = false → (∀ e ∈ ops[i].after.toList, Region.binds .any e = true → S e.on = true) →
      ∀ (K' : Act → World → Prop), (∀ N' φ' a' W', DInv B W0 G nt ops.size K dst fs hs vs φ0 a0 Wz (fun j => if j = i then true else S j) N' φ' a' W' → K' a' W') → wpOp P ops Q i K' a W := by
    intro S N φ a W i hi d hclo hSi hrdy K' hK'
    have later : ∀ j, i < j → j < ops.size → S j = true → ((Region.before ops).getD j 0).testBit i = false := by
      intro j _ hj hSj
      cases hb : ((Region.before ops).getD j 0).testBit i with
      | false => rfl
      | true => have := closed_before hed hclo j i hSj hb; rw [hSi] at this; cases this
    have earlier : ∀ j, j < i → S j = false → ((Region.before ops).getD i 0).testBit j = false := by
      intro j _ hSj
      cases hb : ((Region.before ops).getD i 0).testBit j with
      | false => rfl
      | true => have := ready_before hed hclo (Array.getElem?_eq_getElem hi) hrdy hb; rw [hSj] at this; cases this
    have hlook : ∀ t, t ∈ looks ops ops[i] → (frS (fs 0) dst vs S ops.size).get t = (fs i).get t := by
      intro t ht
      rw [hfs i (by omega), frS_none (i := i) ops.size (by omega) (fun j g1 g2 g3 => ?_)]
      · refine frS_agree i fun j g1 g2 => ?_
        cases hSj : S j with
        | true => rfl
        | false => exact absurd ht ((hpair j i (by omega) hi g1 (earlier j g1 hSj)).1 t (by rw [← hD j (by omega)]; exact g2)).1
      · by_cases hji : j = i
        · subst hji; exact hSi
        · cases hSj : S j with
          | false => rfl
          | true => exact absurd ht ((hpair i j hi g2 (by omega) (later j (by omega) g2 hSj)).2.1 t (by rw [← hD j g2]; exact g3))
    have hevx : ∀ x ∈ ops[i].op.operands.toList, okX G x = true → RelV φ ((fs i).ev x) (a.eval x) := by
      intro x hx hok
      have h1 := d.rel.ev d.glob hok
      have h2 : (frS (fs 0) dst vs S ops.size).ev x = (fs i).ev x := by
        cases x with
        | tmp t => exact hlook t (looks_operand hx)
        | _ => rfl
      rwa [h2] at h1
    have hwr : ∀ j t, j < ops.size → j ≠ i → dst j = some t → dst i = some t → S j = decide (j < i) := by
      intro j t hj hne h1 h2
      rw [hD j hj] at h1; rw [hD i hi] at h2
      rcases Nat.lt_or_ge j i with hji | hji
      · rw [decide_eq_true hji]
        cases hSj : S j with
        | true => rfl
        | false => exact absurd h2 ((hpair j i hj hi hji (earlier j hji hSj)).1 t h1).2
      · rw [decide_eq_false (by omega)]
        cases hSj : S j with
        | false => rfl
        | true => exact absurd h1 ((hpair i j hi hj (by omega) (later j (by omega) hj hSj)).1 t h2).2
    have hafter : ∀ j, N < j → j < ops.size → K j = 4 → S j = false := by
      intro j h1 h2 h3
      cases hSj : S j with
      | false => rfl
      | true =>
        obtain ⟨k1, k2⟩ := d.n2 (by omega)
        exfalso
        cases hb : ((Region.before ops).getD j 0).testBit N with
        | true => have := closed_before hed hclo j N hSj hb; rw [k2] at this; cases this
        | false => exact (hpair N j (by omega) h2 h1 hb).2.2.1 ⟨k1, h3⟩
    have hiN : K i = 4 → i = N := by
      intro h4
      rcases Nat.lt_trichotomy i N with h | h | h
      · have := d.n1 i h h4; rw [hSi] at this; cases this
      · exact h
      · obtain ⟨k1, k2⟩ := d.n2 (by omega)
        exact absurd ⟨k1, h4⟩ (hpair N i (by omega) hi h (earlier N h k2)).2.2.1
    obtain ⟨g, hg1, hg2, hmo⟩ := hinv i hi
    have hfree : ∀ c, (hs i).n ≤ c → c < (hs (i + 1)).n → φ c = none := by
      intro c h1 h2
      cases hc : φ c with
      | none => rfl
      | some l =>
        exfalso
        rcases d.dom c l hc with h | ⟨j, k1, k2, k3, k4⟩
        · have := free c (Nat.le_trans (hmono 0 i (by omega) (by omega)) h1) (Nat.lt_of_lt_of_le h2 (hmono (i + 1) _ (by omega) (by omega)))
          rw [h] at this; cases this
        · rcases Nat.lt_trichotomy j i with q | q | q
          · have := hmono (j + 1) i (by omega) (by omega); omega
          · subst q; rw [hSi] at k2; cases k2
          · have := hmono (i + 1) j (by omega) (by omega); omega
    -- the next effect
    have hnext : ∃ N', N ≤ N' ∧ N' ≤ ops.size ∧ (∀ j, j < N' → K j = 4 → (if j = i then true else S j) = true) ∧ (N' < ops.size → K N' = 4 ∧ (if N' = i then true else S N') = false) ∧
        (K i ≠ 4 → N' = N) ∧ (K i = 4 → N + 1 ≤ N' ∧ ∀ j, N + 1 ≤ j → j < N' → K j ≠ 4) := by
      by_cases h4 : K i = 4
      · have hi' := hiN h4
        obtain ⟨N', p1, p2, p3, p4, p5⟩ := first_effect (K := K) (S := fun j => if j = i then true else S j) (n := ops.size) (ops.size - (N + 1)) (N + 1) (by omega) (by
          intro j hj hKj
          by_cases hji : j = i
          · simp [hji]
          · simp only [hji, if_false]; exact d.n1 j (by omega) hKj)
        refine ⟨N', by omega, p2, p3, p4, fun h => absurd h4 h, fun _ => ⟨p1, fun j q1 q2 q3 => ?_⟩⟩
        have := p5 j q1 q2 q3
        simp only [show j ≠ i from by omega, if_false] at this
        rw [hafter j (by omega) (by omega) q3] at this; cases this
      · refine ⟨N, Nat.le_refl _, d.Nle, fun j hj hKj => ?_, fun hN => ?_, fun _ => rfl, fun h => absurd h h4⟩
        · split
          · rfl
          · exact d.n1 j hj hKj
        · obtain ⟨k1, k2⟩ := d.n2 hN
          refine ⟨k1, ?_⟩
          rw [if_neg (fun e => by rw [e] at k1; exact h4 k1)]; exact k2
    obtain ⟨N', p1, p2, p3, p4, p5, p6⟩ := hnext
    have hwant : ∀ b, wantedC (fs i) g = some b → Region.wanted ops[i] (yielded ops a.tmps) = b := fun b hb =>
      wanted_ok (nt := nt) hg1 (fun t want e => by rw [← hlook t (looks_guard (by rw [hg1, e]))]; exact d.rel t) hb
    unfold wpOp
    rw [Array.getElem?_eq_getElem hi]
    simp only
    cases hr : rn i with
    | false =>
      obtain ⟨w1, w2, w3⟩ := sp.not i _ (hl i hi) hr
      rw [hmo] at w1
      rw [if_neg (by rw [hwant _ w1]; simp)]
      have hgf : ∀ c, gf hs ops.size N' c = gf hs ops.size N c := by
        refine gf_same hle p1 p2 fun j q1 q2 c hc => ?_
        by_cases h4 : K i = 4
        · by_cases hji : j = N
          · subst hji; rw [← hiN h4]; rw [w2]
          · exact hquiet j (by omega) (.inl ((p6 h4).2 j (by omega) q2)) c hc
        · rw [p5 h4] at q2; omega
      have key := dinv_step (S' := fun j => if j = i then true else S j) (N' := N') (φ' := φ) (W' := W) (Hx := ⟨(hs i).n, []⟩) (Hx' := ⟨(hs i).n, []⟩) (v' := undef) d hi hSi (fun _ => rfl)
        (by rw [hD i hi]; exact hg2) (sim_less d.sim (fun c l o _ h => by rw [hnone] at h; cases h)) Ext.refl (fun c h1 h2 => absurd h1 (by simp only; omega)) (by rw [w3]; exact relV_undef)
        (fun c l o _ h => by rw [hnone] at h; cases h) (fun c l o h1 h2 => .inr ⟨h1, by rw [← hgf]; exact h2, hnone _ _, hnone _ _⟩) (fun c h1 h2 => absurd h1 (by simp only at h2; simp only; omega))
        (fun c _ _ => by rw [w2]) (fun c o' _ h e => ⟨o', by rw [← w2]; exact h, e⟩) hwr p2 p3 p4
      rw [hD i hi] at key
      exact hK' _ _ _ _ key
    | true =>
      obtain ⟨w1, w2⟩ := sp.ran i _ (hl i hi) hr
      rw [hmo] at w1 w2
      simp only at w1 w2
      rw [if_pos (hwant _ w1)]
      left
      -- the memory that it is run over
      have hmem : ∃ Hx Hx', GoodOp P G B W0 (resOp P G ops[i].op) (fs i) Hx (vs i) Hx' ∧ Free φ Hx Hx' ∧ (∀ c l o, φ c = some l → Hx.get? c = some o → gf hs ops.size N c = some o) ∧
          (∀ φ', (∀ c l, φ c = none → φ' c = some l → Hx.n ≤ c ∧ c < Hx'.n) → Sub φ φ' → ∀ c l o, φ' c = some l → gf hs ops.size N' c = some o → Hx'.get? c = some o ∨ (φ c = some l ∧ gf hs ops.size N c = some o ∧ Hx.get? c = none ∧ Hx'.get? c = none)) ∧
          (∀ c, Hx.n ≤ c → c < Hx'.n → (hs i).n ≤ c ∧ c < (hs (i + 1)).n) ∧ (K i = 4 → Hx = hs i ∧ Hx' = hs (i + 1)) := by
        have same : ∀ Hx, K i ≠ 4 → cop (fs i).ev Hx (resOp P G ops[i].op) = some (vs i, Hx) → (∀ c l o, φ c = some l → Hx.get? c = some o → gf hs ops.size N c = some o) →
            ∃ Hx Hx', GoodOp P G B W0 (resOp P G ops[i].op) (fs i) Hx (vs i) Hx' ∧ Free φ Hx Hx' ∧ (∀ c l o, φ c = some l → Hx.get? c = some o → gf hs ops.size N c = some o) ∧
            (∀ φ', (∀ c l, φ c = none → φ' c = some l → Hx.n ≤ c ∧ c < Hx'.n) → Sub φ φ' → ∀ c l o, φ' c = some l → gf hs ops.size N' c = some o → Hx'.get? c = some o ∨ (φ c = some l ∧ gf hs ops.size N c = some o ∧ Hx.get? c = none ∧ Hx'.get? c = none)) ∧
            (∀ c, Hx.n ≤ c → c < Hx'.n → (hs i).n ≤ c ∧ c < (hs (i + 1)).n) ∧ (K i = 4 → Hx = hs i ∧ Hx' = hs (i + 1)) := by
          intro Hx h4 hc h3
          refine ⟨Hx, Hx, goodOp_prim hc, fun c q1 q2 => by omega, h3, ?_, fun c q1 q2 => by omega, fun h => absurd h h4⟩
          intro φ' hdom hsub c l o q1 q2
          rw [p5 h4] at q2
          have hc : φ c = some l := by
            cases hcc : φ c with
            | none => have := hdom c l hcc q1; omega
            | some l' => have := hsub c l' hcc; rw [q1] at this; cases this; rfl
          cases hx : Hx.get? c with
          | none => exact .inr ⟨hc, q2, rfl, rfl⟩
          | some o' => have := h3 c l o' hc hx; rw [q2] at this; cases this; exact .inl rfl
        have atk : ∀ k, k ≤ ops.size → K i ≠ 4 → cop (fs i).ev (hs k) (resOp P G ops[i].op) = some (vs i, hs k) → N ≤ k → (∀ j, N ≤ j → j < k → K j ≠ 4 ∨ rn j = false) → _ := fun k hk h4 hc hNk hq =>
          same (hs k) h4 hc fun c l o _ h => by
            rw [gf_quiet hle hNk hk (fun j q1 q2 c hc => hquiet j (by omega) (hq j q1 q2) c hc) c (Heap.get?_lt h)]; exact h
        have hkk := hK i hi
        have hlt : K i = 0 ∨ K i = 1 ∨ K i = 2 ∨ K i = 3 ∨ K i = 4 := by
          have : kindOf (resOp P G ops[i].op) ≤ 4 := by generalize resOp P G ops[i].op = o; cases o <;> simp [kindOf]
          omega
        rcases hlt with h0 | h1 | h2 | h3 | h4
        · exact same ⟨0, []⟩ (by omega) ((kind0 (by omega) (hcop i hi hr (by omega))).2 _) (fun c l o _ h => by rw [hnone] at h; cases h)
        · obtain ⟨ob, q1, q2, q3⟩ := kind1 (by omega) (hcop i hi hr (by omega))
          have hpn : (hs (i + 1)).n = (hs i).n + 1 := by rw [q1]; rfl
          have hpg : (hs (i + 1)).get? (hs i).n = some ob := by rw [q1]; exact Heap.get?_push_new
          have hgfN : φ (hs i).n = none → gf hs ops.size N (hs i).n = some ob := by
            intro hnn
            by_cases hc : (hs i).n < (hs N).n
            · have hiN' : i < N := by
                rcases Nat.lt_or_ge i N with q | q
                · exact q
                · have := hmono N i q (by omega); omega
              have walk : ∀ e, i + 1 + e ≤ N → (hs (i + 1 + e)).get? (hs i).n = some ob := by
                intro e
                induction e with
                | zero => intro _; exact hpg
                | succ e ih =>
                  intro he
                  have := ih (by omega)
                  have hltc : (hs i).n < (hs (i + 1 + e)).n := Heap.get?_lt this
                  have hNle := d.Nle
                  show (hs (i + 1 + e + 1)).get? _ = _
                  by_cases h4 : K (i + 1 + e) = 4
                  · rw [d.keep _ (by omega) (d.n1 _ (by omega) h4) _ hltc hnn]; exact this
                  · rw [hquiet _ (by omega) (.inl h4) _ hltc]; exact this
              have := walk (N - (i + 1)) (by omega)
              rw [show i + 1 + (N - (i + 1)) = N from by omega] at this
              show (if (hs i).n < (hs N).n then (hs N).get? (hs i).n else bth hs ops.size (hs i).n) = _
              rw [if_pos hc]; exact this
            · show (if (hs i).n < (hs N).n then (hs N).get? (hs i).n else bth hs ops.size (hs i).n) = _
              rw [if_neg hc, bth_at hle (i := i) (Nat.le_refl _) (by omega) ops.size (by omega) (Nat.le_refl _)]; exact hpg
          refine ⟨⟨(hs i).n, []⟩, Heap.push ⟨(hs i).n, []⟩ ob, goodOp_prim (q3 _ rfl), fun c k1 k2 => hfree c k1 (by rw [hpn]; exact k2), fun c l o _ h => (by rw [hnone] at h; cases h), ?_, fun c k1 k2 => ⟨k1, by rw [hpn]; exact k2⟩, fun h => by omega⟩
          intro φ' hdom hsub c l o k1 k2
          rw [p5 (by omega)] at k2
          cases hcc : φ c with
          | none =>
            have := hdom c l hcc k1
            have hce : c = (hs i).n := by have h1 := this.1; have h2 := this.2; simp only [Heap.push] at h1 h2; omega
            subst hce
            left
            rw [hgfN hcc] at k2
            rw [← k2]; exact Heap.get?_push_new
          | some l' =>
            have := hsub c l' hcc
            rw [k1] at this; cases this
            right
            refine ⟨rfl, k2, hnone _ _, ?_⟩
            by_cases hce : c < (hs i).n
            · rw [Heap.get?_push_old (H := ⟨(hs i).n, []⟩) hce]; exact hnone _ _
            · by_cases hce2 : c = (hs i).n
              · subst hce2; rw [hfree _ (Nat.le_refl _) (by omega)] at hcc; cases hcc
              · cases hg : (Heap.push ⟨(hs i).n, []⟩ ob).get? c with
                | none => rfl
                | some o' => have h9 := Heap.get?_lt hg; simp only [Heap.push] at h9; omega
        · have hci := hcop i hi hr (by omega)
          obtain ⟨hsame, hre⟩ := kind2 (by omega) hci
          rw [hsame] at hci
          have hNle := d.Nle
          rcases Nat.lt_or_ge i N with hlo | hge
          · -- forward, over the effects that have been done
            have walk : ∀ e, i + 1 + e ≤ N → cop (fs i).ev (hs (i + 1 + e)) (resOp P G ops[i].op) = some (vs i, hs (i + 1 + e)) := by
              intro e
              induction e with
              | zero => intro _; show cop (fs i).ev (hs (i + 1)) _ = some (vs i, hs (i + 1)); rw [hsame]; exact hci
              | succ e ih =>
                intro he
                have ih := ih (by omega)
                show cop (fs i).ev (hs (i + 1 + e + 1)) _ = some (vs i, hs (i + 1 + e + 1))
                by_cases hor : K (i + 1 + e) ≠ 4 ∨ rn (i + 1 + e) = false
                · exact read_ext (by omega) (hquiet _ (by omega) hor) ih
                · have hj4 : K (i + 1 + e) = 4 := by
                    by_cases q : K (i + 1 + e) = 4
                    · exact q
                    · exact absurd (.inl q) hor
                  have hjr : rn (i + 1 + e) = true := by
                    cases q : rn (i + 1 + e) with
                    | true => rfl
                    | false => exact absurd (.inr q) hor
                  have hje : i + 1 + e < ops.size := by omega
                  have hSj := d.n1 (i + 1 + e) (by omega) hj4
                  have hmem := (crosses_mem (ms := ops.toList.map (resOp P G ·.op)) (i := i) (j := i + 1 + e) hje (by omega) (later (i + 1 + e) (by omega) hje hSj)).1 h2 hj4
                  have hx := hcr _ hmem _ _ _ (hrel i hi hr) (sp.tr i _ (hl i hi)) (sp.tr (i + 1 + e) _ (hl (i + 1 + e) hje)) hr hjr
                  simp only at hx
                  rw [if_pos (by omega)] at hx
                  exact reread_cop (by omega) hx
            have hw := walk (N - (i + 1)) (by omega)
            rw [show i + 1 + (N - (i + 1)) = N from by omega] at hw
            exact atk N d.Nle (by omega) hw (Nat.le_refl _) (fun j q1 q2 => by omega)
          · by_cases hex : ∃ j, N ≤ j ∧ j < i ∧ K j = 4 ∧ rn j = true
            · -- back, over an effect that has not been done
              have hfirst : ∃ j, (N ≤ j ∧ j < i ∧ K j = 4 ∧ rn j = true) ∧ ∀ k, N ≤ k → k < j → K k ≠ 4 ∨ rn k = false := by
                obtain ⟨j, hj⟩ := hex
                induction j using Nat.strongRecOn with
                | _ j ih =>
                  by_cases hk : ∃ k, N ≤ k ∧ k < j ∧ K k = 4 ∧ rn k = true
                  · obtain ⟨k, k1, k2, k3, k4⟩ := hk
                    exact ih k k2 ⟨k1, by omega, k3, k4⟩
                  · refine ⟨j, hj, fun k k1 k2 => ?_⟩
                    by_cases q : K k = 4
                    · cases q2 : rn k with
                      | false => exact .inr rfl
                      | true => exact absurd ⟨k, k1, k2, q, q2⟩ hk
                    · exact .inl q
              obtain ⟨j, ⟨j1, j2, j3, j4⟩, j5⟩ := hfirst
              have hSj : S j = false := by
                by_cases hjN : j = N
                · rw [hjN]; exact (d.n2 (by omega)).2
                · exact hafter j (by omega) (by omega) j3
              have hmem := (crosses_mem (ms := ops.toList.map (resOp P G ·.op)) hi j2 (earlier j j2 hSj)).2 j3 h2
              have hx := hcr _ hmem _ _ _ (hrel i hi hr) (sp.tr i _ (hl i hi)) (sp.tr j _ (hl j (by omega))) hr j4
              simp only at hx
              rw [if_neg (by omega)] at hx
              exact atk j (by omega) (by omega) (reread_cop (by omega) hx) j1 j5
            · refine atk i (by omega) (by omega) hci hge fun j q1 q2 => ?_
              by_cases q : K j = 4
              · cases q3 : rn j with
                | false => exact .inr rfl
                | true => exact absurd ⟨j, q1, q2, q, q3⟩ hex
              · exact .inl q
        · have hci := hcop i hi hr (by omega)
          have hsame := kind3 (by omega) hci
          rw [hsame] at hci
          have hNle := d.Nle
          have hlo : i < N := by
            rcases Nat.lt_or_ge i N with q | q
            · exact q
            · obtain ⟨k1, k2⟩ := d.n2 (by omega)
              by_cases hiN' : i = N
              · rw [hiN'] at h3; omega
              · exact absurd ⟨k1, h3⟩ (hpair N i (by omega) hi (by omega) (earlier N (by omega) k2)).2.2.2.1
          refine same (hs i) (by omega) hci fun c l o _ h => ?_
          have hnoeff : ∀ j, i ≤ j → j < N → K j ≠ 4 := by
            intro j q1 q2 q3
            by_cases hji : j = i
            · subst hji; omega
            · exact (hpair i j hi (by omega) (by omega) (later j (by omega) (by omega) (d.n1 j q2 q3))).2.2.2.2 ⟨h3, q3⟩
          have hgs := gf_same hle (Nat.le_of_lt hlo) hNle (fun j q1 q2 c hc => hquiet j (by omega) (.inl (hnoeff j q1 q2)) c hc) c
          rw [hgs]
          show (if c < (hs i).n then (hs i).get? c else bth hs ops.size c) = _
          rw [if_pos (Heap.get?_lt h)]; exact h
        · have hiN' := hiN h4
          have hNle := d.Nle
          refine ⟨hs i, hs (i + 1), w2, hfree, fun c l o _ h => ?_, ?_, fun c q1 q2 => ⟨q1, q2⟩, fun _ => ⟨rfl, rfl⟩⟩
          · show (if c < (hs N).n then (hs N).get? c else bth hs ops.size c) = _
            rw [← hiN', if_pos (Heap.get?_lt h)]; exact h
          · intro φ' hdom hsub c l o q1 q2
            have hgs := gf_same hle (p6 h4).1 p2 (fun j k1 k2 c hc => hquiet j (by omega) (.inl ((p6 h4).2 j k1 k2)) c hc) c
            rw [hgs, ← hiN'] at q2
            have q2' : (if c < (hs (i + 1)).n then (hs (i + 1)).get? c else bth hs ops.size c) = some o := q2
            by_cases hc : c < (hs (i + 1)).n
            · rw [if_pos hc] at q2'; exact .inl q2'
            · rw [if_neg hc] at q2'
              have hle' := hle i hi
              have hcc : φ c = some l := by
                cases hcc : φ c with
                | none => have := hdom c l hcc q1; omega
                | some l' => have := hsub c l' hcc; rw [q1] at this; cases this; rfl
              refine .inr ⟨hcc, ?_, ?_, ?_⟩
              · show (if c < (hs N).n then (hs N).get? c else bth hs ops.size c) = _
                rw [← hiN', if_neg (by omega)]; exact q2'
              · cases hg : (hs i).get? c with
                | none => rfl
                | some o' => have := Heap.get?_lt hg; omega
              · cases hg : (hs (i + 1)).get? c with
                | none => rfl
                | some o' => have := Heap.get?_lt hg; omega
      obtain ⟨Hx, Hx', m1, m2, m3, m4, m5, m6⟩ := hmem
      refine m1.2.2 ops[i] rfl φ W a ?_ d.glob (fun x hx => hevx x hx (resOp_ok w2.1 x hx)) m2 _ Q ?_
      · exact sim_less d.sim m3
      intro φ' v' W' hv s' x'
      have key := dinv_step (S' := fun j => if j = i then true else S j) (N' := N') (φ' := φ') (W' := W') (Hx := Hx) (Hx' := Hx') (v' := v') d hi hSi (fun _ => rfl)
        (by rw [hD i hi]; exact hg2) s' x' m2 hv m3 (m4 φ' x'.dom x'.sub) m5
        (fun c hc hn => by
          by_cases h4 : K i = 4
          · obtain ⟨q1, q2⟩ := m6 h4
            rw [q1, q2] at x'
            refine x'.keepH c hc ?_
            cases hcc : φ c with
            | none => rfl
            | some l => rw [x'.sub c l hcc] at hn; cases hn
          · exact hquiet i hi (.inl h4) c hc)
        (fun c o' hc h e => by
          by_cases h4 : K i = 4
          · obtain ⟨q1, q2⟩ := m6 h4
            rw [q1, q2] at x'
            exact x'.excl c o' hc h e
          · rw [hquiet i hi (.inl h4) c hc] at h; exact ⟨o', h, e⟩) hwr p2 p3 p4
      rw [hD i hi] at key
      exact hK' _ _ _ _ key
  -- the whole
  have hall : ∀ (fuel : Nat) (listed : Array Bool) (N : Nat) (φ : Emb) (a : Act) (W : World), listed.size = ops.size →
      (∀ j o, ops[j]? = some o → listed.getD j false = true → ∀ e ∈ o.after.toList, Region.binds .any e = true → listed.getD e.on false = true) →
      (List.range ops.size).countP (fun j => !listed.getD j false) ≤ fuel →
      DInv B W0 G nt ops.size K dst fs hs vs φ0 a0 Wz (fun j => listed.getD j false) N φ a W → wpAny P .any ops Q fuel listed a W := by
    intro fuel
    have hdone : ∀ (listed : Array Bool) (N : Nat) (φ : Emb) (a : Act) (W : World), (∀ j, j < ops.size → listed.getD j false = true) →
        DInv B W0 G nt ops.size K dst fs hs vs φ0 a0 Wz (fun j => listed.getD j false) N φ a W → Q .normal a W := by
      intro listed N φ a W hS d
      have hN : N = ops.size := by
        have := d.Nle
        by_cases h : N < ops.size
        · obtain ⟨_, k⟩ := d.n2 h
          rw [hS N h] at k; cases k
        · omega
      have hgn : ∀ c o, (hs ops.size).get? c = some o → gf hs ops.size N c = some o := by
        intro c o h
        show (if c < (hs N).n then (hs N).get? c else bth hs ops.size c) = _
        rw [hN, if_pos (Heap.get?_lt h)]; exact h
      refine hq φ a W ⟨sim_less d.sim (fun c l o _ h => hgn c o h), d.glob, ?_, d.size⟩ ?_ d.defers
      · intro t
        have := d.rel t
        rwa [frS_agree (S' := fun _ => true) ops.size (fun j hj _ => hS j hj), ← hfs ops.size (Nat.le_refl _)] at this
      · refine ⟨d.sub, ?_, d.img, d.keepW, ?_, ?_, d.wsize, hmono 0 ops.size (by omega) (Nat.le_refl _)⟩
        · intro c l h1 h2
          rcases d.dom c l h2 with g | ⟨i, g1, g2, g3, g4⟩
          · rw [h1] at g; cases g
          · exact ⟨Nat.le_trans (hmono 0 i (by omega) (by omega)) g3, Nat.lt_of_lt_of_le g4 (hmono (i + 1) _ (by omega) (Nat.le_refl _))⟩
        · intro c hc hn
          have hφ : φ c = none := by
            cases hcc : φ c with
            | none => rfl
            | some l =>
              rcases d.dom c l hcc with g | ⟨i, g1, g2, g3, g4⟩
              · rw [hn] at g; cases g
              · have := hmono 0 i (by omega) (by omega); omega
          have walk : ∀ m, m ≤ ops.size → (hs m).get? c = (hs 0).get? c := by
            intro m
            induction m with
            | zero => intro _; rfl
            | succ m ih =>
              intro hm
              have := hmono 0 m (by omega) (by omega)
              rw [d.keep m (by omega) (hS m (by omega)) c (by omega) hφ]; exact ih (by omega)
          exact walk _ (Nat.le_refl _)
        · intro c o' hc
          have walk : ∀ m, m ≤ ops.size → ∀ o', (hs m).get? c = some o' → o'.excl = true → ∃ o, (hs 0).get? c = some o ∧ o.excl = true := by
            intro m
            induction m with
            | zero => intro _ o' h e; exact ⟨o', h, e⟩
            | succ m ih =>
              intro hm o' h e
              have := hmono 0 m (by omega) (by omega)
              obtain ⟨o1, k1, k2⟩ := d.excl m (by omega) (hS m (by omega)) c o' (by omega) h e
              exact ih (by omega) o1 k1 k2
          exact walk _ (Nat.le_refl _) o'
    induction fuel with
    | zero =>
      intro listed N φ a W hsz hclo hcnt d
      have hS : ∀ j, j < ops.size → listed.getD j false = true := by
        intro j hj
        have h0 : (List.range ops.size).countP (fun j => !listed.getD j false) = 0 := by omega
        rw [List.countP_eq_zero] at h0
        have := h0 j (by simpa using hj)
        simpa using this
      refine ⟨?_, hdone listed N φ a W hS d⟩
      unfold Region.ready
      rw [List.filter_eq_nil_iff]
      intro j hj
      have hj' : j < ops.size := by simpa using hj
      have := hS j hj'
      have h1 : listed.getD j true = true := by
        have hjl : j < listed.size := by omega
        simp only [Array.getD_eq_getD_getElem?, Array.getElem?_eq_getElem hjl, Option.getD_some] at this ⊢
        exact this
      simp [h1]
    | succ fuel ih =>
      intro listed N φ a W hsz hclo hcnt d
      have hgetD : ∀ j, j < ops.size → listed.getD j true = listed.getD j false := by
        intro j hj
        have hjl : j < listed.size := by omega
        simp [Array.getD_eq_getD_getElem?, Array.getElem?_eq_getElem hjl]
      have hready : ∀ i, i ∈ Region.ready .any ops listed ↔ (i < ops.size ∧ listed.getD i false = false ∧ ∀ o, ops[i]? = some o → ∀ e ∈ o.after.toList, Region.binds .any e = true → listed.getD e.on false = true) := by
        intro i
        unfold Region.ready
        rw [List.mem_filter]
        constructor
        · rintro ⟨h1, h2⟩
          have hi : i < ops.size := by simpa using h1
          simp only [Bool.and_eq_true, Bool.not_eq_true', Array.getElem?_eq_getElem hi, Option.map_some, Option.getD_some] at h2
          refine ⟨hi, by rw [← hgetD i hi]; exact h2.1, fun o ho e he hb => ?_⟩
          rw [Array.getElem?_eq_getElem hi] at ho
          cases ho
          have := h2.2
          rw [← Array.all_toList, List.all_eq_true] at this
          have := this e he
          simpa [hb] using this
        · rintro ⟨hi, h1, h2⟩
          refine ⟨by simpa using hi, ?_⟩
          simp only [Bool.and_eq_true, Bool.not_eq_true', Array.getElem?_eq_getElem hi, Option.map_some, Option.getD_some]
          refine ⟨by rw [hgetD i hi]; exact h1, ?_⟩
          rw [← Array.all_toList, List.all_eq_true]
          intro e he
          cases hb : Region.binds .any e with
          | false => rfl
          | true => simpa using h2 _ (Array.getElem?_eq_getElem hi) e he hb
      refine ⟨fun hnil => hdone listed N φ a W (fun j hj => ?_) d, fun i hi => ?_⟩
      · induction j using Nat.strongRecOn with
        | _ j ihj =>
          cases hjl : listed.getD j false with
          | true => rfl
          | false =>
            have : j ∈ Region.ready .any ops listed := (hready j).2 ⟨hj, hjl, fun o ho e he hb => by
              have hlt : e.on < j := by
                unfold edgesOK at hed
                rw [List.all_eq_true] at hed
                have := hed j (by simpa using hj)
                rw [List.all_eq_true] at this
                have hd : ops.getD j default = o := by simp [Array.getD_eq_getD_getElem?, ho]
                rw [hd] at this
                have := this e he
                simpa [hb] using this
              exact ihj e.on hlt (by omega)⟩
            rw [hnil] at this; cases this
      · obtain ⟨h1, h2, h3⟩ := (hready i).1 hi
        refine hstep (fun j => listed.getD j false) N φ a W i h1 d hclo h2 (fun e he hb => h3 _ (Array.getElem?_eq_getElem h1) e he hb) _ fun N' φ' a' W' d' => ?_
        have hset : ∀ j, (listed.setIfInBounds i true).getD j false = if j = i then true else listed.getD j false := by
          intro j
          by_cases hji : j = i
          · subst hji
            have hjl : j < listed.size := by omega
            simp [Array.getD_eq_getD_getElem?, hjl]
          · simp [Array.getD_eq_getD_getElem?, Array.getElem?_setIfInBounds_ne (Ne.symm hji), hji]
        have hsf : (fun j => (listed.setIfInBounds i true).getD j false) = fun j => if j = i then true else listed.getD j false := funext hset
        refine ih _ N' φ' a' W' (by simpa using hsz) ?_ ?_ (by rw [hsf]; exact d')
        · intro j o ho hj e he hb
          rw [hset] at hj ⊢
          by_cases heo : e.on = i
          · rw [if_pos heo]
          · rw [if_neg heo]
            by_cases hji : j = i
            · subst hji; exact h3 o ho e he hb
            · rw [if_neg hji] at hj; exact hclo j o ho hj e he hb
        · have := countP_less (p := fun j => !listed.getD j false) (q := fun j => !(listed.setIfInBounds i true).getD j false) (i := i) (fun j hj => by
            simp only [Bool.not_eq_true'] at hj ⊢
            rw [hset] at hj
            split at hj
            · cases hj
            · exact hj) (by simp only [Bool.not_eq_true']; exact h2) (by simp only [Bool.not_eq_false']; rw [hset, if_pos rfl]) (List.range ops.size) (by simpa using h1)
          omega
  -- the beginning
  refine wp_region_any hmix ?_
  have hrep : ∀ j, (Array.replicate ops.size false).getD j false = false := by
    intro j
    by_cases hj : j < ops.size <;> simp [Array.getD_eq_getD_getElem?, hj]
  obtain ⟨N, p1, p2, p3, p4, p5⟩ := first_effect (K := K) (S := fun j => (Array.replicate ops.size false).getD j false) (n := ops.size) ops.size 0 (by omega) (fun j hj => by omega)
  have hnoeff : ∀ j, j < N → K j ≠ 4 := by
    intro j hj h4
    have := p3 j hj h4
    simp only [hrep] at this; cases this
  have hgf : ∀ c l o, φ0 c = some l → gf hs ops.size N c = some o → (hs 0).get? c = some o := by
    intro c l o h1 h2
    rw [gf_same hle (Nat.zero_le N) p2 (fun j _ k2 c hc => hquiet j (by omega) (.inl (hnoeff j k2)) c hc) c] at h2
    have h2' : (if c < (hs 0).n then (hs 0).get? c else bth hs ops.size c) = some o := h2
    by_cases hc : c < (hs 0).n
    · rw [if_pos hc] at h2'; exact h2'
    · rw [if_neg hc] at h2'
      have := bth_lt hle ops.size (Nat.le_refl _) h2'
      have := free c (by omega) this
      rw [h1] at this; cases this
  refine hall ops.size _ N φ0 a0 _ (by simp) ?_ ?_ ?_
  · intro j o _ h; rw [hrep] at h; cases h
  · exact Nat.le_trans List.countP_le_length (by simp)
  · refine ⟨?_, st.size, rfl, st.glob, sim_less st.sim.drew hgf, fun _ _ h => h, fun c l h => .inl h, ?_, ?_, fun b _ _ => rfl, fun c l h1 h2 => (by rw [h1] at h2; cases h2),
      fun c l o h1 h2 h3 => .inr ⟨c, l, o, h1, hgf c l o h1 h2, h3, rfl⟩, Nat.le_refl _, p2, p3, p4⟩
    · intro t
      rw [frS_none (i := 0) ops.size (Nat.zero_le _) (fun j _ _ _ => hrep j)]
      exact st.rel t
    · intro i _ h; simp only [hrep] at h; cases h
    · intro i _ h; simp only [hrep] at h; cases h

end
end Go.Cm

/- The canonical machine: what it comes to, the model comes to. Conditions: none. -/
namespace Go.Cm
open Go.RowKit
set_option linter.unusedVariables false
set_option linter.unusedSimpArgs false

theorem wr_n {h h' : Heap} {a : Addr} {vs : List Value} (hw : h.wr a vs = some h') : h'.n = h.n := by
  unfold Heap.wr at hw
  repeat' (split at hw)
  all_goals first
    | (cases hw; done)
    | (cases hw; rfl)

theorem appendTo_le {h h' : Heap} {esz bytes n : Nat} {x v : Value} {vs : List Value} (hc : appendTo h esz bytes x n vs = some (v, h')) : h.n ≤ h'.n := by
  unfold appendTo at hc
  repeat' (split at hc)
  all_goals first
    | (cases hc; done)
    | (simp only [Option.some.injEq, Prod.mk.injEq] at hc; obtain ⟨-, rfl⟩ := hc; first | exact Nat.le_refl _ | (simp [Heap.push, Heap.set]; done) | (rename_i hw; rw [wr_n hw]; exact Nat.le_refl _))

theorem cop_le {ρ : Operand → Value} {h h' : Heap} {o : MOp} {v : Value} (hc : cop ρ h o = some (v, h')) : h.n ≤ h'.n := by
  have hlt : kindOf o = 0 ∨ kindOf o = 1 ∨ kindOf o = 2 ∨ kindOf o = 3 ∨ kindOf o = 4 := by
    have : kindOf o ≤ 4 := by cases o <;> simp [kindOf]
    omega
  rcases hlt with h0 | h1 | h2 | h3 | h4
  · rw [(kind0 h0 hc).1]; exact Nat.le_refl _
  · obtain ⟨ob, q, _⟩ := kind1 h1 hc; rw [q]; simp [Heap.push]
  · rw [(kind2 h2 hc).1]; exact Nat.le_refl _
  · rw [kind3 h3 hc]; exact Nat.le_refl _
  · cases o <;> simp only [kindOf] at h4 <;> first
      | (exact absurd h4 (by decide))
      | skip
    all_goals
      simp only [cop] at hc
      repeat' (split at hc)
      all_goals first
        | (cases hc; done)
        | exact appendTo_le hc
        | (simp only [Option.some.injEq, Prod.mk.injEq] at hc; obtain ⟨-, rfl⟩ := hc; first | exact Nat.le_refl _ | (simp [Heap.push, Heap.set]; done) | (rename_i hw; rw [wr_n hw]; exact Nat.le_refl _))

def exOf : Ex → Exit
  | .norm => .normal
  | .exit i => .exit i
  | .ret => .ret

/-- what a judgement says of the model -/
def Good (P : Program) (G B : Nat) (W0 : World) : Jd → Prop
  | .op o f h v h' => h.n ≤ h'.n ∧ GoodOp P G B W0 o f h v h'
  | .ops l f h trs f' h' => h.n ≤ h'.n ∧ Chain P G B W0 l f h trs f' h'
  | .code c f h e f' h' => h.n ≤ h'.n ∧ ∀ (nt : Nat) (code : Code) (lives rest : List (List Nat)), resCode P G nt code lives = (c, rest) → ∀ (φ : Emb) (a : Act) (W : World), St B W0 G nt φ f h a W → Free φ h h' →
      ∀ (Q : Exit → Act → World → Prop), (∀ φ' a' W', St B W0 G nt φ' f' h' a' W' → Ext φ φ' h h' W W' → a'.defers = a.defers → Q (exOf e) a' W') → code.wp P Q a W
  | .rounds live b f h e f' h' => h.n ≤ h'.n ∧ e ≠ .norm ∧ ∃ k, ∀ (nt : Nat) (code : Code) (lives rest : List (List Nat)), resCode P G nt code lives = (b, rest) → ∀ (φ : Emb) (a : Act) (W : World), St B W0 G nt φ f h a W → Free φ h h' →
      ∀ (Q : Exit → Act → World → Prop), (∀ φ' a' W', St B W0 G nt φ' f' h' a' W' → Ext φ φ' h h' W W' → a'.defers = a.defers → Q (exOf e) a' W') → Code.rounds P code Q k a W
  | .call g args h v h' => h.n ≤ h'.n ∧ GoodCall P G B W0 g args h v h'

section
variable {P : Program} {G B : Nat} {W0 : World}

theorem St.keep {nt : Nat} {φ : Emb} {f : Fr} {h : Heap} {a : Act} {W : World} (st : St B W0 G nt φ f h a W) (live : List Nat) : St B W0 G nt φ (f.keep live) h a W := by
  refine ⟨st.sim, st.glob, fun t => ?_, st.size⟩
  have : ∀ l : List Nat, (f.keep l).get t = f.get t ∨ (f.keep l).get t = unk := by
    intro l
    induction l with
    | nil => exact .inr rfl
    | cons s l ih =>
      simp only [Fr.keep, Fr.get]
      by_cases hs : t = s
      · rw [if_pos hs, hs]; exact .inl rfl
      · rw [if_neg hs]; exact ih
  rcases this live with h | h
  · rw [h]; exact st.rel t
  · rw [h]; exact .top _

theorem res_one {φ : Emb} {f : Fr} {h : Heap} {W : World} {tmps : Array Value} {r : ResultVar} {m : MRes} {v : Value} (s : Sim B W0 φ h.get? W) (hr : RelF φ f tmps) (hm : resRes P [r] = some [m]) (hv : resOne f h m = some v) :
    ∃ v', (match r with | .tmp t => pure (tmps.getD t undef) | .cell a t => do loadVar t (← asAddr (tmps.getD a undef)) : Sem Value).run P W = .ok v' W ∧ RelV φ v v' := by
  cases r with
  | tmp t =>
    simp only [resRes, Option.some.injEq, List.cons.injEq, and_true] at hm
    subst hm
    simp only [resOne, Option.some.injEq] at hv
    subst hv
    exact ⟨_, by simp, hr t⟩
  | cell a t =>
    simp only [resRes] at hm
    split at hm
    · rename_i n l h1 h2 h3
      cases h3
      simp only [Option.some.injEq, List.cons.injEq, and_true] at hm
      subst hm
      simp only [resOne] at hv
      split at hv
      · rename_i ad ha
        split at hv
        · rename_i vs hvs
          cases hv
          have hrel := hr a
          rw [ha] at hrel
          obtain ⟨c, o, l, rfl, hl, he⟩ := relV_ptr hrel
          obtain ⟨hlen, ho, vs', hrr, hc⟩ := s.rdN hl hvs
          refine ⟨.agg vs'.toArray, ?_, relV_agg.2 ⟨ho, hrr⟩⟩
          simp [he, asAddr, loadVar, run_ag h1, run_sz h2, run_loadCells_at (P := P) (hrr.1.symm.trans hlen) hc]
        · cases hv
      · cases hv
    · rename_i n l h1 h2 h3
      cases h3
      simp only [Option.some.injEq, List.cons.injEq, and_true] at hm
      subst hm
      simp only [resOne] at hv
      split at hv
      · rename_i ad ha
        have hrel := hr a
        rw [ha] at hrel
        obtain ⟨c, o, l, rfl, hl, he⟩ := relV_ptr hrel
        obtain ⟨ho, v', hc, hrr⟩ := s.rd1 hl hv
        refine ⟨v', ?_, hrr⟩
        simp [he, asAddr, loadVar, run_ag h1, hc]
      · cases hv
    · cases hm

theorem resRes_cons {r : ResultVar} {rs : List ResultVar} {ms : List MRes} (h : resRes P (r :: rs) = some ms) : ∃ m ms', ms = m :: ms' ∧ resRes P [r] = some [m] ∧ resRes P rs = some ms' := by
  cases r with
  | tmp t =>
    simp only [resRes] at h ⊢
    split at h
    · rename_i l hl; cases h; exact ⟨_, _, rfl, rfl, hl⟩
    · cases h
  | cell a t =>
    simp only [resRes] at h ⊢
    split at h
    · rename_i h1 h2 h3; cases h; exact ⟨_, _, rfl, by rw [h1, h2], h3⟩
    · rename_i h1 h2 h3; cases h; exact ⟨_, _, rfl, by rw [h1, h2], h3⟩
    · cases h

theorem res_all {φ : Emb} {f : Fr} {h : Heap} {W : World} {tmps : Array Value} (s : Sim B W0 φ h.get? W) (hr : RelF φ f tmps) : ∀ (rs : List ResultVar) (ms : List MRes) (vs : List Value), resRes P rs = some ms → resAll f h ms = some vs →
    ∃ vs', (rs.mapM (fun r : ResultVar => (match r with | .tmp t => pure (tmps.getD t undef) | .cell a t => do loadVar t (← asAddr (tmps.getD a undef)) : Sem Value))).run P W = .ok vs' W ∧ RelL φ vs vs'
  | [], ms, vs, h1, h2 => by
    cases h1; cases h2
    exact ⟨[], by simp, .nil⟩
  | r :: rs, ms, vs, h1, h2 => by
    obtain ⟨m, ms', rfl, h3, h4⟩ := resRes_cons h1
    simp only [resAll] at h2
    split at h2
    · rename_i v vs' g1 g2
      cases h2
      obtain ⟨v', k1, k2⟩ := res_one (P := P) s hr h3 g1
      obtain ⟨w, k3, k4⟩ := res_all s hr rs ms' vs' h4 g2
      refine ⟨v' :: w, ?_, .cons k2 k4⟩
      rw [List.mapM_cons, Sem.run_bind, k1, Result.andThen_ok, Sem.run_bind, k3, Result.andThen_ok]
      rfl
    · cases h2

theorem results_ok {φ : Emb} {f : Fr} {h : Heap} {W : World} {tmps : Array Value} {fn : Func} {ms : List MRes} {v : Value} (s : Sim B W0 φ h.get? W) (hr : RelF φ f tmps) (h1 : resRes P fn.results.toList = some ms)
    (h2 : resC ms f h = some v) : ∃ v', (results fn tmps).run P W = .ok v' W ∧ RelV φ v v' := by
  unfold resC at h2
  have hrun : ∀ vs', (fn.results.toList.mapM (fun r : ResultVar => (match r with | .tmp t => pure (tmps.getD t undef) | .cell a t => do loadVar t (← asAddr (tmps.getD a undef)) : Sem Value))).run P W = .ok vs' W →
      (results fn tmps).run P W = .ok (if h : vs'.toArray.size = 1 then vs'.toArray[0] else .tuple vs'.toArray) W := by
    intro vs' h
    unfold results
    rw [Sem.run_bind, Array.mapM_eq_mapM_toList]
    simp only [map_eq_pure_bind, Sem.run_bind]
    erw [h]
    rfl
  split at h2
  · rename_i u hu
    cases h2
    obtain ⟨vs', k1, k2⟩ := res_all (P := P) s hr _ _ _ h1 hu
    cases vs' with
    | nil => exact absurd k2.1 (by simp)
    | cons v' r =>
      cases r with
      | cons _ _ => exact absurd k2.1 (by simp)
      | nil => exact ⟨v', hrun _ k1, k2.2 0 _ _ rfl rfl⟩
  · rename_i vs hne hu
    cases h2
    obtain ⟨vs', k1, k2⟩ := res_all (P := P) s hr _ _ _ h1 hu
    refine ⟨.tuple vs'.toArray, ?_, relV_tuple_mk (by simpa using k2)⟩
    rw [hrun _ k1, dif_neg]
    intro h
    have h' : vs.length = 1 := by rw [k2.1]; simpa using h
    cases vs with
    | nil => cases h'
    | cons a r => cases r with
      | nil => exact hne a rfl
      | cons _ _ => simp at h'
  · cases h2

theorem initF_get : ∀ (args : List Value) (i t : Nat), (initF i args).get t = if i ≤ t then (args[t - i]?).getD unk else unk
  | [], i, t => by simp [initF, Fr.get]
  | v :: vs, i, t => by
    simp only [initF, Fr.get]
    by_cases h : t = i
    · subst h; simp
    · rw [if_neg h, initF_get vs (i + 1) t]
      by_cases hi : i + 1 ≤ t
      · rw [if_pos hi, if_pos (by omega), show t - i = (t - (i + 1)) + 1 from by omega, List.getElem?_cons_succ]
      · rw [if_neg hi, if_neg (by omega)]


theorem code_of {nt : Nat} {code : Code} {lives rest : List (List Nat)} {c : MCode} (h : resCode P G nt code lives = (c, rest)) :
    match (generalizing := false) c with
    | .skip => code = .skip
    | .region l x => ∃ id ops d, code = .region id ops d ∧ l = ops.toList.map (resMO P G nt ops) ∧
        ((d = true ∧ edgesOK ops = true ∧ drawOK ops (ops.toList.map (resOp P G ·.op)) (Region.before ops) = true ∧ x = crossesOf ops (ops.toList.map (resOp P G ·.op)) (Region.before ops)) ∨ d = false)
    | .seq a b => ∃ x y l1, code = .seq x y ∧ resCode P G nt x lives = (a, l1) ∧ resCode P G nt y l1 = (b, rest)
    | .cond o a b => ∃ x y l1, code = .cond o x y ∧ okX G o = true ∧ resCode P G nt x lives = (a, l1) ∧ resCode P G nt y l1 = (b, rest)
    | .block i b => ∃ x, code = .block i x ∧ resCode P G nt x lives = (b, rest)
    | .loop v b => ∃ x l1, code = .loop x ∧ resCode P G nt x l1 = (b, rest)
    | .exit i => code = .exit i
    | .ret => code = .ret
    | .bad => True := by
  cases code with
  | skip => simp only [resCode, Prod.mk.injEq] at h; obtain ⟨rfl, _⟩ := h; trivial
  | region id ops d =>
    simp only [resCode, Prod.mk.injEq, resRegion] at h
    obtain ⟨rfl, _⟩ := h
    cases d with
    | true =>
      simp only [if_true]
      by_cases hc : (edgesOK ops && drawOK ops (ops.toList.map (resOp P G ·.op)) (Region.before ops)) = true
      · rw [if_pos hc]
        rw [Bool.and_eq_true] at hc
        exact ⟨id, ops, true, rfl, rfl, .inl ⟨rfl, hc.1, hc.2, rfl⟩⟩
      · rw [if_neg hc]; trivial
    | false => exact ⟨id, ops, false, rfl, rfl, .inr rfl⟩
  | seq a b =>
    simp only [resCode, Prod.mk.injEq] at h
    obtain ⟨rfl, rfl⟩ := h
    exact ⟨a, b, _, rfl, rfl, rfl⟩
  | cond o a b =>
    simp only [resCode, Prod.mk.injEq] at h
    obtain ⟨rfl, rfl⟩ := h
    by_cases ho : okX G o = true
    · rw [if_pos ho]; exact ⟨a, b, _, rfl, ho, rfl, rfl⟩
    · rw [if_neg ho]; trivial
  | block i b =>
    simp only [resCode, Prod.mk.injEq] at h
    obtain ⟨rfl, rfl⟩ := h
    exact ⟨b, rfl, rfl⟩
  | loop b =>
    cases lives with
    | nil => simp only [resCode, Prod.mk.injEq] at h; obtain ⟨rfl, _⟩ := h; trivial
    | cons v l1 =>
      simp only [resCode, Prod.mk.injEq] at h
      obtain ⟨rfl, rfl⟩ := h
      exact ⟨b, l1, rfl, rfl⟩
  | exit i => simp only [resCode, Prod.mk.injEq] at h; obtain ⟨rfl, _⟩ := h; trivial
  | ret => simp only [resCode, Prod.mk.injEq] at h; obtain ⟨rfl, _⟩ := h; trivial
  | _ => simp only [resCode, Prod.mk.injEq] at h; obtain ⟨rfl, _⟩ := h; trivial

variable {M : Prg}

theorem sound (hmix : P.follows .mixedOrders = true) (hM : ∀ g F, M.fn g = some F → ∃ fn lives, P.funcs[g]? = some fn ∧ resFun P G lives fn = some F)
    (hO : ∀ g args h v h', M.orac g args h v h' → h.n ≤ h'.n ∧ GoodCall P G B W0 g args h v h') {j : Jd} (hev : Ev M j) : Good P G B W0 j := by
  induction hev with
  | prim hc => exact ⟨cop_le hc, goodOp_prim hc⟩
  | opcall _ ih => exact ⟨ih.1, goodOp_call ih.2⟩
  | opcallV hx _ ih => exact ⟨ih.1, goodOp_callV hx ih.2⟩
  | nil => exact ⟨Nat.le_refl _, rfl, rfl⟩
  | run hw _ _ ih1 ih2 => exact ⟨Nat.le_trans ih1.1 ih2.1, rfl, rfl, .inl ⟨rfl, hw, ih1.2⟩, ih1.1, ih2.2⟩
  | pass hw _ ih => exact ⟨ih.1, rfl, rfl, .inr ⟨rfl, hw, rfl, rfl⟩, Nat.le_refl _, ih.2⟩
  | skip =>
    refine ⟨Nat.le_refl _, fun nt code lives rest hres φ a W st free Q hq => ?_⟩
    obtain rfl : code = .skip := code_of hres
    exact wp_skip (hq φ a W st .refl rfl)
  | region _ hx ih =>
    refine ⟨ih.1, fun nt code lives rest hres φ a W st free Q hq => ?_⟩
    obtain ⟨id, ops, d, rfl, rfl, hd⟩ := code_of hres
    rcases hd with ⟨rfl, h1, h2, rfl⟩ | rfl
    · exact draw_ok hmix ih.2 h1 h2 hx st free hq
    · refine wp_region ?_
      rw [List.range_eq_range']
      exact chain_text (i := 0) ih.2 (by simp) st free hq
  | seqN _ _ ih1 ih2 =>
    refine ⟨Nat.le_trans ih1.1 ih2.1, fun nt code lives rest hres φ a W st free Q hq => ?_⟩
    obtain ⟨x, y, l1, rfl, h1, h2⟩ := code_of hres
    refine wp_seq (ih1.2 nt x lives l1 h1 φ a W st (free.left ih2.1) _ fun φ1 a1 W1 st1 x1 d1 => ?_)
    exact ih2.2 nt y l1 rest h2 φ1 a1 W1 st1 (free.right x1) Q fun φ2 a2 W2 st2 x2 d2 => hq φ2 a2 W2 st2 (x1.trans x2 free) (d2.trans d1)
  | @seqX a0 b0 f0 h0 e0 f1 h1' _ hne ih =>
    refine ⟨ih.1, fun nt code lives rest hres φ a W st free Q hq => ?_⟩
    obtain ⟨x, y, l1, rfl, h1, h2⟩ := code_of hres
    refine wp_seq (ih.2 nt x lives l1 h1 φ a W st free _ fun φ1 a1 W1 st1 x1 d1 => ?_)
    have := hq φ1 a1 W1 st1 x1 d1
    cases e0 with
    | norm => exact absurd rfl hne
    | exit i => exact this
    | ret => exact this
  | condT hc _ ih =>
    refine ⟨ih.1, fun nt code lives rest hres φ a W st free Q hq => ?_⟩
    obtain ⟨x, y, l1, rfl, ho, h1, h2⟩ := code_of hres
    have := st.rel.ev st.glob ho
    rw [hc] at this
    exact wp_cond_true (relV_bool this) (ih.2 nt x lives l1 h1 φ a W st free Q hq)
  | condF hc _ ih =>
    refine ⟨ih.1, fun nt code lives rest hres φ a W st free Q hq => ?_⟩
    obtain ⟨x, y, l1, rfl, ho, h1, h2⟩ := code_of hres
    have := st.rel.ev st.glob ho
    rw [hc] at this
    exact wp_cond_false (relV_bool this) (ih.2 nt y l1 rest h2 φ a W st free Q hq)
  | blockX _ ih =>
    refine ⟨ih.1, fun nt code lives rest hres φ a W st free Q hq => ?_⟩
    obtain ⟨x, rfl, h1⟩ := code_of hres
    refine wp_block (ih.2 nt x lives rest h1 φ a W st free _ fun φ1 a1 W1 st1 x1 d1 => ?_)
    simp only [exOf, Exit.inBlock, if_true]
    exact hq φ1 a1 W1 st1 x1 d1
  | @blockO i0 b0 f0 h0 e0 f1 h1' _ hne ih =>
    refine ⟨ih.1, fun nt code lives rest hres φ a W st free Q hq => ?_⟩
    obtain ⟨x, rfl, h1⟩ := code_of hres
    refine wp_block (ih.2 nt x lives rest h1 φ a W st free _ fun φ1 a1 W1 st1 x1 d1 => ?_)
    have := hq φ1 a1 W1 st1 x1 d1
    cases e0 with
    | norm => exact this
    | ret => exact this
    | exit i =>
      simp only [exOf, Exit.inBlock]
      rw [if_neg (fun e => hne (by rw [e]))]
      exact this
  | @loop live0 b0 f0 h0 e0 f1 h1' _ ih =>
    obtain ⟨hle, hne, k, ih⟩ := ih
    refine ⟨hle, fun nt code lives rest hres φ a W st free Q hq => ?_⟩
    obtain ⟨x, l1, rfl, h1⟩ := code_of hres
    exact wp_loop_rounds k (ih nt x l1 rest h1 φ a W (st.keep _) free Q hq)
  | again _ _ ih1 ih2 =>
    obtain ⟨hle, hne, k, ih2⟩ := ih2
    refine ⟨Nat.le_trans ih1.1 hle, hne, k + 1, fun nt code lives rest hres φ a W st free Q hq => ?_⟩
    rw [rounds_succ]
    refine ih1.2 nt code lives rest hres φ a W st (free.left hle) _ fun φ1 a1 W1 st1 x1 d1 => ?_
    exact ih2 nt code lives rest hres φ1 a1 W1 (st1.keep _) (free.right x1) Q fun φ2 a2 W2 st2 x2 d2 => hq φ2 a2 W2 st2 (x1.trans x2 free) (d2.trans d1)
  | @out live0 b0 f0 h0 e0 f1 h1' _ hne ih =>
    refine ⟨ih.1, hne, 1, fun nt code lives rest hres φ a W st free Q hq => ?_⟩
    rw [rounds_succ]
    refine ih.2 nt code lives rest hres φ a W st free _ fun φ1 a1 W1 st1 x1 d1 => ?_
    have := hq φ1 a1 W1 st1 x1 d1
    cases e0 with
    | norm => exact absurd rfl hne
    | exit i => exact this
    | ret => exact this
  | exit =>
    refine ⟨Nat.le_refl _, fun nt code lives rest hres φ a W st free Q hq => ?_⟩
    obtain rfl : code = .exit _ := code_of hres
    exact wp_exit (hq φ a W st .refl rfl)
  | ret =>
    refine ⟨Nat.le_refl _, fun nt code lives rest hres φ a W st free Q hq => ?_⟩
    obtain rfl : code = .ret := code_of hres
    exact wp_ret (hq φ a W st .refl rfl)
  | @fcall g F args h0 e0 f1 h1 v0 hfn hlen _ he hv ih =>
    obtain ⟨fn, lives, h1, h2⟩ := hM _ _ hfn
    unfold resFun at h2
    split at h2
    · cases h2
    rename_i hname
    split at h2
    · cases h2
    rename_i hnt
    split at h2
    rotate_left
    · cases h2
    rename_i c r hb hr
    cases h2
    refine ⟨ih.1, ⟨fn, h1, by simpa using hname, by rw [hb]; rfl⟩, fun φ W args' s gl hrel free => ?_⟩
    have hsz : args'.size = fn.params.size + fn.nfree := by
      have := hrel.1
      simp only at hlen
      simp at this; omega
    have hst : St B W0 G fn.ntmps φ (initF 0 args) h0 { tmps := args' ++ Array.replicate (fn.ntmps - args'.size) undef, defers := [] } W := by
      refine ⟨s, gl, fun t => ?_, by simp; omega⟩
      rw [initF_get, if_pos (Nat.zero_le _), Nat.sub_zero]
      cases ht : args[t]? with
      | none => exact .top _
      | some v =>
        obtain ⟨v', p, q⟩ := hrel.get ht
        have : (args' ++ Array.replicate (fn.ntmps - args'.size) undef).getD t undef = v' := by
          have hlt : t < args'.size := by
            rcases Nat.lt_or_ge t args'.size with g | g
            · exact g
            · rw [List.getElem?_eq_none (by simpa using g)] at p; cases p
          have p' : args'[t]? = some v' := by simpa using p
          rw [Array.getD_eq_getD_getElem?, Array.getElem?_append_left hlt, p']; rfl
        rw [Option.getD_some]
        simp only
        rw [this]; exact q
    refine calls_of_wp h1 hb (ih.2 fn.ntmps c lives _ rfl φ _ W hst free _ fun φ1 a1 W1 st1 x1 d1 => ?_)
    obtain ⟨v', k1, k2⟩ := results_ok st1.sim st1.rel hr hv
    have hd : a1.defers = [] := d1
    rcases he with rfl | rfl
    · exact ⟨hd, v', k1, φ1, v', rfl, k2, st1.sim, x1⟩
    · exact ⟨hd, v', k1, φ1, v', rfl, k2, st1.sim, x1⟩
  | known ho => exact hO _ _ _ _ _ ho

end
end Go.Cm

/- The canonical machine: the evaluator's answers are answers; the door from an answer to the model's call. Conditions: none. -/
namespace Go.Cm
open Go.RowKit
set_option linter.unusedVariables false
set_option linter.unusedSimpArgs false

section
variable {M : Prg}

theorem opC_ev {call : CallF} (hcall : ∀ g args h v h', call g args h = some (v, h') → Ev M (.call g args h v h')) {f : Fr} {h h' : Heap} {o : MOp} {v : Value} (hc : opC call f h o = some (v, h')) : Ev M (.op o f h v h') := by
  cases o <;> first
    | exact .opcall (hcall _ _ _ _ _ hc)
    | exact .prim hc
    | skip
  rename_i x args
  simp only [opC] at hc
  split at hc
  · rename_i g first caps hx
    exact .opcallV hx (hcall _ _ _ _ _ hc)
  · cases hc

theorem runOps_ev {call : CallF} (hcall : ∀ g args h v h', call g args h = some (v, h') → Ev M (.call g args h v h')) : ∀ {l : List MO} {f : Fr} {h : Heap} {f' : Fr} {h' : Heap}, runOps call l f h = some (f', h') → ∃ trs, Ev M (.ops l f h trs f' h')
  | [], f, h, f', h', hr => by simp only [runOps, Option.some.injEq, Prod.mk.injEq] at hr; obtain ⟨rfl, rfl⟩ := hr; exact ⟨[], .nil⟩
  | o :: r, f, h, f', h', hr => by
    simp only [runOps] at hr
    split at hr
    · rename_i hw
      split at hr
      · rename_i v h1 ho
        obtain ⟨trs, ht⟩ := runOps_ev hcall hr
        exact ⟨_, .run hw (opC_ev hcall ho) ht⟩
      · cases hr
    · rename_i hw
      obtain ⟨trs, ht⟩ := runOps_ev hcall hr
      exact ⟨_, .pass hw ht⟩
    · cases hr

theorem runT_ev {call : CallF} (hcall : ∀ g args h v h', call g args h = some (v, h') → Ev M (.call g args h v h')) : ∀ {l : List MO} {f : Fr} {h : Heap} {trs : List Tr} {f' : Fr} {h' : Heap}, runT call l f h = some (trs, f', h') → Ev M (.ops l f h trs f' h')
  | [], f, h, trs, f', h', hr => by simp only [runT, Option.some.injEq, Prod.mk.injEq] at hr; obtain ⟨rfl, rfl, rfl⟩ := hr; exact .nil
  | o :: r, f, h, trs, f', h', hr => by
    simp only [runT] at hr
    split at hr
    · rename_i hw
      split at hr
      · rename_i v h1 ho
        split at hr
        · rename_i t2 f2 h2 hr2
          simp only [Option.some.injEq, Prod.mk.injEq] at hr
          obtain ⟨rfl, rfl, rfl⟩ := hr
          exact .run hw (opC_ev hcall ho) (runT_ev hcall hr2)
        · cases hr
      · cases hr
    · rename_i hw
      split at hr
      · rename_i t2 f2 h2 hr2
        simp only [Option.some.injEq, Prod.mk.injEq] at hr
        obtain ⟨rfl, rfl, rfl⟩ := hr
        exact .pass hw (runT_ev hcall hr2)
      · cases hr
    · cases hr

theorem crossB_ok {l : List MO} {trs : List Tr} {ij : Nat × Nat} (h : crossB l trs ij = true) : CrossOK l trs ij := by
  intro o ti tj h1 h2 h3 r1 r2
  unfold crossB at h
  rw [h1, h2, h3] at h
  simp only [r1, r2, Bool.and_self, if_true] at h
  split at h
  · rename_i v hv
    rw [hv, beqV_sound _ _ _ h]
  · cases h

theorem iter_ev {b : MCode} {body : Fr → Heap → Option (Ex × Fr × Heap)} {live : List Nat} (hb : ∀ f h e f' h', body f h = some (e, f', h') → Ev M (.code b f h e f' h')) :
    ∀ (k : Nat) {f : Fr} {h : Heap} {e : Ex} {f' : Fr} {h' : Heap}, iter body live k f h = some (e, f', h') → Ev M (.rounds live b f h e f' h')
  | 0, f, h, e, f', h', hi => by cases hi
  | k + 1, f, h, e, f', h', hi => by
    simp only [iter] at hi
    split at hi
    · rename_i f1 h1 hb1
      exact .again (hb _ _ _ _ _ hb1) (iter_ev hb k hi)
    · rename_i hne
      refine .out (hb _ _ _ _ _ hi) fun e1 => ?_
      subst e1
      exact hne _ _ hi

theorem code_ev {call : CallF} (hcall : ∀ g args h v h', call g args h = some (v, h') → Ev M (.call g args h v h')) {n : Nat} : ∀ {c : MCode} {f : Fr} {h : Heap} {e : Ex} {f' : Fr} {h' : Heap}, evalCode call n c f h = some (e, f', h') → Ev M (.code c f h e f' h')
  | .skip, f, h, e, f', h', hr => by simp only [evalCode, Option.some.injEq, Prod.mk.injEq] at hr; obtain ⟨rfl, rfl, rfl⟩ := hr; exact .skip
  | .region l [], f, h, e, f', h', hr => by
    simp only [evalCode] at hr
    split at hr
    · rename_i f2 h2 hr2
      simp only [Option.some.injEq, Prod.mk.injEq] at hr
      obtain ⟨rfl, rfl, rfl⟩ := hr
      obtain ⟨trs, ht⟩ := runOps_ev hcall hr2
      exact .region ht (fun ij hij => by cases hij)
    · cases hr
  | .region l (x :: xs), f, h, e, f', h', hr => by
    simp only [evalCode] at hr
    split at hr
    · rename_i trs f2 h2 hr2
      split at hr
      · rename_i hx
        simp only [Option.some.injEq, Prod.mk.injEq] at hr
        obtain ⟨rfl, rfl, rfl⟩ := hr
        refine .region (runT_ev hcall hr2) fun ij hij => crossB_ok ?_
        rw [List.all_eq_true] at hx
        exact hx ij hij
      · cases hr
    · cases hr
  | .seq a b, f, h, e, f', h', hr => by
    simp only [evalCode] at hr
    split at hr
    · rename_i f1 h1 ha
      exact .seqN (code_ev hcall ha) (code_ev hcall hr)
    · rename_i hne
      refine .seqX (code_ev hcall hr) fun e1 => ?_
      subst e1
      exact hne _ _ hr
  | .cond c a b, f, h, e, f', h', hr => by
    simp only [evalCode] at hr
    split at hr
    · rename_i hc; exact .condT hc (code_ev hcall hr)
    · rename_i hc; exact .condF hc (code_ev hcall hr)
    · cases hr
  | .block i b, f, h, e, f', h', hr => by
    simp only [evalCode] at hr
    split at hr
    · rename_i j f1 h1 hb
      split at hr
      · rename_i hj
        subst hj
        simp only [Option.some.injEq, Prod.mk.injEq] at hr
        obtain ⟨rfl, rfl, rfl⟩ := hr
        exact .blockX (code_ev hcall hb)
      · rename_i hj
        simp only [Option.some.injEq, Prod.mk.injEq] at hr
        obtain ⟨rfl, rfl, rfl⟩ := hr
        exact .blockO (code_ev hcall hb) (fun e => hj (by cases e; rfl))
    · rename_i hne
      refine .blockO (code_ev hcall hr) fun e1 => ?_
      subst e1
      exact hne _ _ _ hr
  | .loop live b, f, h, e, f', h', hr => by
    simp only [evalCode] at hr
    exact .loop (iter_ev (fun f h e f' h' hb => code_ev hcall hb) n hr)
  | .exit i, f, h, e, f', h', hr => by simp only [evalCode, Option.some.injEq, Prod.mk.injEq] at hr; obtain ⟨rfl, rfl, rfl⟩ := hr; exact .exit
  | .ret, f, h, e, f', h', hr => by simp only [evalCode, Option.some.injEq, Prod.mk.injEq] at hr; obtain ⟨rfl, rfl, rfl⟩ := hr; exact .ret
  | .bad, f, h, e, f', h', hr => by cases hr

theorem call_ev : ∀ (k : Nat) {g : FuncId} {args : List Value} {h : Heap} {v : Value} {h' : Heap}, evalCall M.fn k g args h = some (v, h') → Ev M (.call g args h v h')
  | 0, g, args, h, v, h', hr => by cases hr
  | k + 1, g, args, h, v, h', hr => by
    simp only [evalCall] at hr
    split at hr
    · cases hr
    rename_i F hF
    split at hr
    rotate_left
    · cases hr
    rename_i hlen
    split at hr
    · cases hr
    · rename_i e f1 h1 hne hb
      split at hr
      rotate_left
      · cases hr
      rename_i v1 hv
      simp only [Option.some.injEq, Prod.mk.injEq] at hr
      obtain ⟨rfl, rfl⟩ := hr
      refine .fcall hF hlen (code_ev (fun g args h v h' hc => call_ev k hc) hb) ?_ hv
      cases e with
      | norm => exact .inl rfl
      | ret => exact .inr rfl
      | exit i => exact absurd rfl (hne i)
    · cases hr
end

/-! ### the door -/

/-- nothing is known of memory -/
theorem Sim.nothing (W : World) (n : Nat) : Sim W.heap.size W (fun _ => none) (Heap.get? ⟨n, []⟩) W :=
  { below := Below.refl _ _
    inB := Nat.le_refl _
    lt := fun c l h => (by cases h)
    obj := fun c l o h => (by cases h)
    inj := fun c1 c2 l1 l2 o1 o2 h => (by cases h) }

theorem Glob.none (φ : Emb) : Glob 0 φ := fun g h => absurd h (Nat.not_lt_zero g)

/-- a law's call, of which the canonical machine says that it is true -/
theorem door {P : Program} {G : Nat} {M : Prg} {g : FuncId} {args : List Value} {h h' : Heap} {φ : Emb} {args' : Array Value} {W : World}
    (hmix : P.follows .mixedOrders = true) (hM : ∀ g F, M.fn g = some F → ∃ fn lives, P.funcs[g]? = some fn ∧ resFun P G lives fn = some F)
    (hO : ∀ g args h v h', M.orac g args h v h' → h.n ≤ h'.n ∧ GoodCall P G W.heap.size W g args h v h') (hev : Ev M (.call g args h (.bool true) h'))
    (s : Sim W.heap.size W φ h.get? W) (gl : Glob G φ) (hr : RelL φ args args'.toList) (free : Free φ h h') :
    Calls P g args' W fun e W' => e = .returned (.bool true) ∧ Below W.heap.size W W' := by
  refine ((sound hmix hM hO hev).2.2 φ W args' s gl hr free).mono ?_
  rintro e W' ⟨φ', v', rfl, hv, s', x'⟩
  rw [relV_bool hv]
  exact ⟨rfl, s'.below⟩

/-- a table of functions -/
def lookF : List (Nat × MFun) → FuncId → Option MFun
  | [], _ => none
  | (k, F) :: r, g => match Nat.beq k g with | true => some F | false => lookF r g

def InProg (P : Program) (G : Nat) (k : Nat) (F : MFun) : Prop := ∃ fn lives, P.funcs[k]? = some fn ∧ resFun P G lives fn = some F
def AllIn (P : Program) (G : Nat) : List (Nat × MFun) → Prop
  | [] => True
  | (k, F) :: r => InProg P G k F ∧ AllIn P G r
theorem lookF_ok {P : Program} {G : Nat} : ∀ {tab : List (Nat × MFun)}, AllIn P G tab → ∀ g F, lookF tab g = some F → InProg P G g F
  | [], _, g, F, h => by cases h
  | (k, E) :: r, ha, g, F, h => by
    simp only [lookF] at h
    split at h
    · rename_i hk
      have := Nat.eq_of_beq_eq_true hk
      subst this
      cases h
      exact ha.1
    · exact lookF_ok ha.2 g F h

/-- no oracle -/
def bare (tab : List (Nat × MFun)) : Prg := ⟨lookF tab, fun _ _ _ _ _ => False⟩

/-- a law's call whose canonical run is reckoned, with nothing known of memory -/
theorem door_run {P : Program} {G : Nat} {tab : List (Nat × MFun)} {g : FuncId} {args : List Value} {args' : Array Value} {k : Nat} (W : World)
    (hmix : P.follows .mixedOrders = true) (hG : G = 0) (hM : AllIn P G tab) (hev : (evalCall (lookF tab) k g args ⟨0, []⟩).map (·.1) = some (.bool true)) (hr : RelL (fun _ => none) args args'.toList) :
    Calls P g args' W fun e W' => e = .returned (.bool true) ∧ Below W.heap.size W W' := by
  cases he : evalCall (lookF tab) k g args ⟨0, []⟩ with
  | none => rw [he] at hev; cases hev
  | some r =>
    obtain ⟨v, h'⟩ := r
    rw [he] at hev
    simp only [Option.map_some, Option.some.injEq] at hev
    subst hev
    subst hG
    exact door (M := bare tab) hmix (lookF_ok hM) (fun _ _ _ _ _ h => h.elim) (call_ev (M := bare tab) k he) (Sim.nothing W 0) (Glob.none _) hr (fun _ _ _ => rfl)

end Go.Cm

/- The canonical machine: from a law's call to its row. Conditions: none. -/
namespace Go.Cm
open Go.RowKit Go.ChangeShapes Go.WideShapes
set_option linter.unusedVariables false
set_option linter.unusedSimpArgs false

section
variable {H : Type} {enc : TypeId × Value → H} {P : Program}

theorem trodAll_below (hl : laidOutB P = true) {W W' : World} (hb : Below W.heap.size W W') : ∀ {ts : List TypeId} {vs : List Value} {ds : List (DataW H)} {ps : List MemPlace},
    ts.all (fun t => P.readableRec t && decide (t < P.types.size)) = true → DataW.TrodAll enc P W 0 (fun _ => true) true ts vs ds ps → (∀ x ∈ ps, x.block < W.heap.size) →
    DataW.TrodAll enc P W' 0 (fun b => decide (b < W.heap.size)) true ts vs ds ps
  | [], vs, ds, ps, _, h, _ => by
    obtain ⟨rfl, rfl, rfl⟩ := trodAll_nil h
    exact trodAll_mk0
  | t :: ts, vs, ds, ps, ht, h, hlt => by
    obtain ⟨v, vs1, d, ds1, p, q, rfl, rfl, rfl, h1, h2⟩ := trodAll_cons h
    simp only [List.all_cons, Bool.and_eq_true, decide_eq_true_eq] at ht
    exact trodAll_cons_mk (Below.trod hl ht.1.1 ht.1.2 h1 hb fun x hx => hlt x (by simp [hx])) (trodAll_below hl hb ht.2 h2 fun x hx => hlt x (by simp [hx]))

theorem trodAll_len {w : World} {base : Nat} {sp : Nat → Bool} {hd : Bool} : ∀ {ts : List TypeId} {vs : List Value} {ds : List (DataW H)} {ps : List MemPlace}, DataW.TrodAll enc P w base sp hd ts vs ds ps → vs.length = ts.length ∧ ds.length = ts.length
  | [], vs, ds, ps, h => by obtain ⟨rfl, rfl, rfl⟩ := trodAll_nil h; exact ⟨rfl, rfl⟩
  | t :: ts, vs, ds, ps, h => by
    obtain ⟨v, vs1, d, ds1, p, q, rfl, rfl, rfl, h1, h2⟩ := trodAll_cons h
    have := trodAll_len h2
    simp [this.1, this.2]

/-- the law's call has turned nothing and answers true: its row's 'post' -/
theorem post_true {f : Func} {s : ChangeSpec} {tb : TypeId} {W W' : World} {args : Array Value} {ds gs : List (DataW H)} {before : List MemPlace} (hl : laidOutB P = true)
    (hts : f.params.toList.all (fun t => P.readableRec t && decide (t < P.types.size)) = true) (hv : s.vars = []) (hr : f.resultTypes = #[tb]) (ht : P.underlying tb = some .bool)
    (hfn : ∀ ds : List (DataW H), ds.length = f.params.toList.length → s.fn H ds = { results := [.lit (.bool true)], args := ds })
    (hW : DataW.Whole enc P f.params.toList s.vars false W args.toList ds gs before) (hb : Below W.heap.size W W') : s.post enc P f false true false false W args (.bool true) W' := by
  have hW' := hW
  obtain ⟨p, q, hA, hV, rfl, hz, hn⟩ := hW
  rw [hv] at hV
  obtain ⟨rfl, rfl⟩ := trodVars_none hV
  have hlen := (trodAll_len hA).2
  have hfn' := hfn ds hlen
  refine ⟨ds, [], _, [], p, [], hW', ?_, ?_, ?_, ?_, fun h => by cases h⟩
  · rw [List.append_nil, hfn', hr]
    exact trodAll_mk1 (shut_bool ht _)
  · rw [List.append_nil, hfn']
    exact trodAll_below hl hb hts hA fun x hx => hW'.lt x (by simp [hx])
  · rw [hv, List.append_nil, hfn']; exact rfl
  · exact hb.frame _

end
end Go.Cm

/- The canonical machine: a law's arguments, opened: numbers, truths, texts, and structs, arrays and slices of these. Conditions: none. -/
namespace Go.Cm
open Go.RowKit Go.ChangeShapes Go.WideShapes
set_option linter.unusedVariables false
set_option linter.unusedSimpArgs false

/-- what a cell of an argument is -/
inductive Sh where
  | int (k : IntKind)
  | bool
  | str
  | sl (e : List Sh)

mutual
/-- a canonical value of that shape, over memory that is only read -/
def Is (h : Heap) : Sh → Value → Prop
  | .int k, v => ∃ n, v = .int k n ∧ (Lit.int k n).wf = true
  | .bool, v => ∃ b, v = .bool b
  | .str, v => ∃ s : ByteArray, v = .string s ∧ s.size ≤ maxLen
  | .sl e, v => v = .slice none 0 0 ∨ (∃ c, v = .slice (some ⟨c, 0, some 0⟩) 0 0) ∨
      ∃ c len cap cs, v = .slice (some ⟨c, 0, none⟩) len cap ∧ 0 < len ∧ len ≤ cap ∧ cap ≤ maxLen ∧ h.get? c = some (.ro cs) ∧ cs.length = len * e.length ∧ ∀ i, i < len → IsAll h e ((cs.drop (i * e.length)).take e.length)
def IsAll (h : Heap) : List Sh → List Value → Prop
  | [], [] => True
  | s :: ss, v :: vs => Is h s v ∧ IsAll h ss vs
  | _, _ => False
end

def shFields (P : Program) (rec : TypeId → Option (List Sh)) : List Field → Nat → Option (List Sh)
  | [], _ => some []
  | f :: fs, o => if f.offset = o then (match rec f.type with
    | some l => if l.length = P.cellsOf f.type then (match shFields P rec fs (o + l.length) with | some r => some (l ++ r) | none => none) else none
    | none => none) else none
def shTimes (l : List Sh) : Nat → List Sh
  | 0 => []
  | n + 1 => l ++ shTimes l n
def shOf (P : Program) : Nat → TypeId → Option (List Sh)
  | 0, _ => none
  | n + 1, t => match P.underlying t with
    | some .bool => some [.bool]
    | some (.int k) => some [.int k]
    | some .string => some [.str]
    | some (.slice e) => (match shOf P n e with | some l => if l.length = P.cellsOf e ∧ 0 < l.length then some [.sl l] else none | none => none)
    | some (.struct fs) => (match shFields P (shOf P n) fs.toList 0 with | some r => if r.length = P.cellsOf t then some r else none | none => none)
    | some (.array m e) => (match shOf P n e with | some l => if l.length = P.cellsOf e ∧ (shTimes l m).length = P.cellsOf t then some (shTimes l m) else none | none => none)
    | _ => none

/-- memory has grown -/
structure Gr (φ φ' : Emb) (h h' : Heap) : Prop where
  sub : Sub φ φ'
  le : h.n ≤ h'.n
  get : ∀ c, c < h.n → h'.get? c = h.get? c
theorem Gr.refl {φ : Emb} {h : Heap} : Gr φ φ h h := ⟨fun _ _ h => h, Nat.le_refl _, fun _ _ => rfl⟩
theorem Gr.trans {φ φ1 φ2 : Emb} {h h1 h2 : Heap} (a : Gr φ φ1 h h1) (b : Gr φ1 φ2 h1 h2) : Gr φ φ2 h h2 :=
  ⟨fun c l g => b.sub c l (a.sub c l g), Nat.le_trans a.le b.le, fun c g => (b.get c (Nat.lt_of_lt_of_le g a.le)).trans (a.get c g)⟩
theorem Gr.some {φ φ' : Emb} {h h' : Heap} (g : Gr φ φ' h h') {c : Nat} {o : CObj} (ho : h.get? c = some o) : h'.get? c = some o := by rw [g.get c (Heap.get?_lt ho)]; exact ho

mutual
theorem Is.mono {h h' : Heap} (g : ∀ c o, h.get? c = some o → h'.get? c = some o) : ∀ (s : Sh) (v : Value), Is h s v → Is h' s v
  | .int k, v, H => by unfold Is at H ⊢; exact H
  | .bool, v, H => by unfold Is at H ⊢; exact H
  | .str, v, H => by unfold Is at H ⊢; exact H
  | .sl e, v, H => by
    unfold Is at H ⊢
    rcases H with H | H | ⟨c, len, cap, cs, h1, h2, h3, h4, h5, h6, h7⟩
    · exact .inl H
    · exact .inr (.inl H)
    · exact .inr (.inr ⟨c, len, cap, cs, h1, h2, h3, h4, g _ _ h5, h6, fun i hi => IsAll.mono g e _ (h7 i hi)⟩)
theorem IsAll.mono {h h' : Heap} (g : ∀ c o, h.get? c = some o → h'.get? c = some o) : ∀ (ss : List Sh) (vs : List Value), IsAll h ss vs → IsAll h' ss vs
  | [], [], _ => by unfold IsAll; trivial
  | [], _ :: _, H => by unfold IsAll at H; exact H.elim
  | _ :: _, [], H => by unfold IsAll at H; exact H.elim
  | s :: ss, v :: vs, H => by unfold IsAll at H ⊢; exact ⟨Is.mono g s v H.1, IsAll.mono g ss vs H.2⟩
end

theorem IsAll.length {h : Heap} : ∀ {ss : List Sh} {vs : List Value}, IsAll h ss vs → vs.length = ss.length
  | [], [], _ => rfl
  | [], _ :: _, H => by unfold IsAll at H; exact H.elim
  | _ :: _, [], H => by unfold IsAll at H; exact H.elim
  | s :: ss, v :: vs, H => by unfold IsAll at H; simp [IsAll.length H.2]
theorem IsAll.append {h : Heap} : ∀ {ss ts : List Sh} {us vs : List Value}, IsAll h ss us → IsAll h ts vs → IsAll h (ss ++ ts) (us ++ vs)
  | [], ts, [], vs, _, H => H
  | [], _, _ :: _, _, H, _ => by unfold IsAll at H; exact H.elim
  | _ :: _, _, [], _, H, _ => by unfold IsAll at H; exact H.elim
  | s :: ss, ts, u :: us, vs, H, H2 => by
    unfold IsAll at H
    show IsAll h (s :: (ss ++ ts)) (u :: (us ++ vs))
    unfold IsAll
    exact ⟨H.1, IsAll.append H.2 H2⟩
theorem Is.one {h : Heap} : ∀ {s : Sh} {v : Value}, Is h s v → Cm.one v = true
  | .int k, v, H => by unfold Is at H; obtain ⟨n, rfl, _⟩ := H; rfl
  | .bool, v, H => by unfold Is at H; obtain ⟨n, rfl⟩ := H; rfl
  | .str, v, H => by unfold Is at H; obtain ⟨n, rfl, _⟩ := H; rfl
  | .sl e, v, H => by
    unfold Is at H
    rcases H with rfl | ⟨c, rfl⟩ | ⟨c, len, cap, cs, rfl, _⟩ <;> rfl
theorem IsAll.one {h : Heap} : ∀ {ss : List Sh} {vs : List Value}, IsAll h ss vs → vs.all Cm.one = true
  | [], [], _ => rfl
  | [], _ :: _, H => by unfold IsAll at H; exact H.elim
  | _ :: _, [], H => by unfold IsAll at H; exact H.elim
  | s :: ss, v :: vs, H => by unfold IsAll at H; simp [H.1.one, IsAll.one H.2]

/-- the arguments' memory: blocks that are read -/
structure RO (W : World) (φ : Emb) (h : Heap) : Prop where
  sim : Sim W.heap.size W φ h.get? W
  dom : ∀ c l, φ c = some l → c < h.n
  ro : ∀ c o, h.get? c = some o → ∃ cs, o = .ro cs

theorem RO.start (W : World) : RO W (fun _ => none) ⟨0, []⟩ := ⟨Sim.nothing W 0, fun c l h => (by cases h), fun c o h => (by simp [Heap.get?] at h)⟩

theorem RO.push {W : World} {φ : Emb} {h : Heap} (r : RO W φ h) {l : Loc} {cs : List Value} (hb : l.b < W.heap.size) (hlo : l.lo = none) (hc : CellsRel φ W l cs) :
    RO W (fun c => if c = h.n then some l else φ c) (h.push (.ro cs)) ∧ Gr φ (fun c => if c = h.n then some l else φ c) h (h.push (.ro cs)) := by
  have hnew : φ h.n = none := by
    cases hh : φ h.n with
    | none => rfl
    | some l' => have := r.dom _ _ hh; omega
  have hsub : Sub φ (fun c => if c = h.n then some l else φ c) := by
    intro c l' hc'
    by_cases he : c = h.n
    · subst he; rw [hnew] at hc'; cases hc'
    · simp only [if_neg he]; exact hc'
  have hro : ∀ c o, (h.push (.ro cs)).get? c = some o → ∃ cs, o = .ro cs := by
    intro c o ho
    by_cases he : c = h.n
    · subst he; rw [Heap.get?_push_new] at ho; cases ho; exact ⟨_, rfl⟩
    · have := Heap.get?_lt ho
      rw [Heap.get?_push_old (by simp [Heap.push] at this; omega)] at ho
      exact r.ro c o ho
  refine ⟨⟨⟨r.sim.below, r.sim.inB, ?_, ?_, ?_⟩, ?_, hro⟩, ⟨hsub, by simp [Heap.push], fun c hc => Heap.get?_push_old hc⟩⟩
  · intro c l' hc'
    by_cases he : c = h.n
    · rw [if_pos he] at hc'; cases hc'; exact hb
    · rw [if_neg he] at hc'; exact r.sim.lt c l' hc'
  · intro c l' o hc' ho
    by_cases he : c = h.n
    · subst he
      rw [if_pos rfl] at hc'; cases hc'
      rw [Heap.get?_push_new] at ho; cases ho
      exact ⟨hb, hlo, fun i v hv => (hc i v hv).imp_right fun ⟨v', p, q⟩ => ⟨v', p, q.mono hsub⟩⟩
    · rw [if_neg he] at hc'
      have := r.dom c l' hc'
      rw [Heap.get?_push_old this] at ho
      exact (r.sim.obj c l' o hc' ho).keep hsub rfl
  · intro c1 c2 l1 l2 o1 o2 _ _ h1 _ e1
    obtain ⟨cs', rfl⟩ := hro c1 o1 h1
    cases e1
  · intro c l' hc'
    by_cases he : c = h.n
    · subst he; simp [Heap.push]
    · rw [if_neg he] at hc'
      have := r.dom c l' hc'
      simp [Heap.push]; omega

theorem RelL.append' {φ : Emb} {a b c d : List Value} (h1 : RelL φ a b) (h2 : RelL φ c d) : RelL φ (a ++ c) (b ++ d) := h1.append h2

section
variable {H : Type} {enc : TypeId × Value → H} {P : Program}


def Opens (enc : TypeId × Value → H) (P : Program) (W : World) (t : TypeId) (shs : List Sh) : Prop :=
  ∀ (fuel : Nat) (cs : List Value) (x : DataW H × List MemPlace), DataW.trod enc P W 0 (fun _ => true) true fuel t cs = some x → ∀ φ h, RO W φ h → ∃ φ' h' us, RO W φ' h' ∧ Gr φ φ' h h' ∧ RelL φ' us cs ∧ IsAll h' shs us

theorem isAll_nil {h : Heap} : IsAll h [] [] := by unfold IsAll; trivial
theorem isAll_one {h : Heap} {s : Sh} {v : Value} (hs : Is h s v) : IsAll h [s] [v] := by unfold IsAll; exact ⟨hs, isAll_nil⟩

theorem open_fields {W : World} {rec : TypeId → Option (List Sh)} (hrec : ∀ t l, rec t = some l → Opens enc P W t l) {m : Nat} {cs : List Value} : ∀ (fs : List Field) (o : Nat) (shs : List Sh), shFields P rec fs o = some shs →
    (∀ f ∈ fs, ∃ x, DataW.trod enc P W 0 (fun _ => true) true m f.type ((cs.drop f.offset).take (P.cellsOf f.type)) = some x) → ∀ φ h, RO W φ h →
    ∃ φ' h' us, RO W φ' h' ∧ Gr φ φ' h h' ∧ RelL φ' us ((cs.drop o).take shs.length) ∧ IsAll h' shs us
  | [], o, shs, hs, _, φ, h, r => by
    cases hs
    exact ⟨φ, h, [], r, .refl, by simpa using RelL.nil, isAll_nil⟩
  | f :: fs, o, shs, hs, hx, φ, h, r => by
    simp only [shFields] at hs
    split at hs
    rotate_left
    · cases hs
    rename_i ho
    split at hs
    rotate_left
    · cases hs
    rename_i l hl
    split at hs
    rotate_left
    · cases hs
    rename_i hlen
    split at hs
    rotate_left
    · cases hs
    rename_i r2 hr2
    cases hs
    obtain ⟨x, hx1⟩ := hx f (by simp)
    obtain ⟨φ1, h1, us, r1, g1, e1, i1⟩ := hrec _ _ hl _ _ _ hx1 φ h r
    obtain ⟨φ2, h2, vs, r2', g2, e2, i2⟩ := open_fields hrec fs (o + l.length) r2 hr2 (fun q hq => hx q (by simp [hq])) φ1 h1 r1
    refine ⟨φ2, h2, us ++ vs, r2', g1.trans g2, ?_, (IsAll.mono (fun c o h => g2.some h) _ _ i1).append i2⟩
    rw [List.length_append, List.take_add, List.drop_drop]
    rw [ho, ← hlen] at e1
    exact (e1.mono g2.sub).append e2

theorem open_times {W : World} {e : TypeId} {l : List Sh} (hrec : Opens enc P W e l) (hl : l.length = P.cellsOf e) {m : Nat} {cs : List Value} : ∀ (n o : Nat),
    (∀ i, i < n → ∃ x, DataW.trod enc P W 0 (fun _ => true) true m e ((cs.drop ((o + i) * P.cellsOf e)).take (P.cellsOf e)) = some x) → ∀ φ h, RO W φ h →
    ∃ φ' h' us, RO W φ' h' ∧ Gr φ φ' h h' ∧ RelL φ' us ((cs.drop (o * P.cellsOf e)).take (shTimes l n).length) ∧ IsAll h' (shTimes l n) us
  | 0, o, _, φ, h, r => ⟨φ, h, [], r, .refl, by simpa [shTimes] using RelL.nil, isAll_nil⟩
  | n + 1, o, hx, φ, h, r => by
    obtain ⟨x, hx1⟩ := hx 0 (by omega)
    obtain ⟨φ1, h1, us, r1, g1, e1, i1⟩ := hrec _ _ _ hx1 φ h r
    obtain ⟨φ2, h2, vs, r2', g2, e2, i2⟩ := open_times hrec hl n (o + 1) (fun i hi => by have := hx (i + 1) (by omega); rwa [show o + (i + 1) = o + 1 + i from by omega] at this) φ1 h1 r1
    refine ⟨φ2, h2, us ++ vs, r2', g1.trans g2, ?_, (IsAll.mono (fun c o h => g2.some h) _ _ i1).append i2⟩
    simp only [shTimes]
    rw [List.length_append, List.take_add, List.drop_drop]
    rw [Nat.add_zero, ← hl] at e1
    rw [← hl] at e2 ⊢
    rw [show o * l.length + l.length = (o + 1) * l.length from by rw [Nat.add_mul]; omega]
    exact (e1.mono g2.sub).append e2

theorem open_row {W : World} {e : TypeId} {l : List Sh} (hrec : Opens enc P W e l) (hl : l.length = P.cellsOf e) (hpos : 0 < l.length) {m : Nat} {a : Addr} (hspot : a.spot = none) : ∀ (n : Nat),
    (∀ i, i < n → ∃ x, (W.cells? 0 (a.add (i * P.cellsOf e)) (P.cellsOf e)).bind (DataW.trod enc P W 0 (fun _ => true) true m e) = some x) → ∀ φ h, RO W φ h →
    ∃ φ' h' us, RO W φ' h' ∧ Gr φ φ' h h' ∧ us.length = n * l.length ∧ CellsRel φ' W ⟨a.block, a.off, none⟩ us ∧ ∀ i, i < n → IsAll h' l ((us.drop (i * l.length)).take l.length)
  | 0, _, φ, h, r => ⟨φ, h, [], r, .refl, by simp, fun i v hv => by simp at hv, fun i hi => by omega⟩
  | n + 1, hx, φ, h, r => by
    obtain ⟨φ1, h1, us, r1, g1, len1, e1, i1⟩ := open_row hrec hl hpos hspot n (fun i hi => hx i (by omega)) φ h r
    obtain ⟨x, hx1⟩ := hx n (by omega)
    cases hc : W.cells? 0 (a.add (n * P.cellsOf e)) (P.cellsOf e) with
    | none => rw [hc] at hx1; cases hx1
    | some cs =>
      rw [hc] at hx1
      obtain ⟨_, hcl, hat⟩ := World.cells?_some hc
      obtain ⟨φ2, h2, vs, r2, g2, e2, i2⟩ := hrec _ _ _ hx1 φ1 h1 r1
      have hvl : vs.length = l.length := i2.length
      have haddr : ∀ k : Nat, (a.add k) = ⟨a.block, a.off + k, none⟩ := fun k => by
        obtain ⟨b, o, sp⟩ := a
        simp only at hspot
        subst hspot
        exact Addr.add_at _ _ _
      refine ⟨φ2, h2, us ++ vs, r2, g1.trans g2, by rw [List.length_append, len1, hvl, Nat.add_mul]; omega, ?_, ?_⟩
      · intro i v hv
        by_cases hi : i < us.length
        · rw [List.getElem?_append_left hi] at hv
          obtain ⟨p, v', q, rr⟩ := e1 i v hv
          exact ⟨p, v', q, rr.mono g2.sub⟩
        · rw [List.getElem?_append_right (by omega)] at hv
          obtain ⟨v', p, q⟩ := e2.get hv
          have hk : i - us.length < P.cellsOf e := by
            rcases Nat.lt_or_ge (i - us.length) vs.length with g | g
            · omega
            · rw [List.getElem?_eq_none g] at hv; cases hv
          have := hat (i - us.length) hk
          rw [p, haddr, Addr.add_at, len1, ← hl] at this
          rw [show a.off + n * l.length + (i - n * l.length) = a.off + i from by omega] at this
          refine ⟨?_, v', this, q⟩
          have := IsAll.one i2
          rw [List.all_eq_true] at this
          exact this v (List.mem_of_getElem? hv)
      · intro i hi
        by_cases hin : i = n
        · subst hin
          rw [← len1, List.drop_left, List.take_of_length_le (by omega)]
          exact i2
        · have hmul : i * l.length + l.length ≤ n * l.length := by
            have : (i + 1) * l.length ≤ n * l.length := Nat.mul_le_mul_right _ (by omega)
            rw [Nat.add_mul] at this; omega
          rw [List.drop_append_of_le_length (by omega), List.take_append_of_le_length (by rw [List.length_drop]; omega)]
          exact IsAll.mono (fun c o h => g2.some h) _ _ (i1 i (by omega))

theorem open_cells {W : World} : ∀ (n : Nat) (t : TypeId) (shs : List Sh), shOf P n t = some shs → Opens enc P W t shs
  | 0, t, shs, hs => by cases hs
  | n + 1, t, shs, hs => by
    intro fuel cs x hx φ h r
    simp only [shOf] at hs
    split at hs
    · rename_i ht
      cases hs
      obtain ⟨b, rfl, _⟩ := DataW.trod_bool ht hx
      exact ⟨φ, h, [.bool b], r, .refl, .cons (.bool b) .nil, isAll_one (by unfold Is; exact ⟨b, rfl⟩)⟩
    · rename_i k ht
      cases hs
      obtain ⟨b, rfl, _, hw⟩ := DataW.trod_int ht hx
      exact ⟨φ, h, [.int k b], r, .refl, .cons (.int k b) .nil, isAll_one (by unfold Is; exact ⟨b, rfl, hw⟩)⟩
    · rename_i ht
      cases hs
      obtain ⟨b, rfl, _, hw⟩ := DataW.trod_string ht hx
      exact ⟨φ, h, [.string b], r, .refl, .cons (.str b) .nil, isAll_one (by unfold Is; exact ⟨b, rfl, hw⟩)⟩
    · rename_i e ht
      split at hs
      rotate_left
      · cases hs
      rename_i l hl
      split at hs
      rotate_left
      · cases hs
      rename_i hlen
      cases hs
      rcases DataW.trod_slice ht hx with ⟨rfl, _⟩ | ⟨a, len, cap, elems, rest, m, _, rfl, _, _, hle, hcap, hel, hget, _⟩
      · exact ⟨φ, h, [.slice none 0 0], r, .refl, .cons .nils .nil, isAll_one (by unfold Is; exact .inl rfl)⟩
      · by_cases hz : len = 0
        · subst hz
          exact ⟨φ, h, [.slice (some ⟨0, 0, some 0⟩) 0 0], r, .refl, .cons .slz .nil, isAll_one (by unfold Is; exact .inr (.inl ⟨0, rfl⟩))⟩
        · have hex : ∀ i, i < len → ∃ x, (W.cells? 0 (a.add (i * P.cellsOf e)) (P.cellsOf e)).bind (DataW.trod enc P W 0 (fun _ => true) true m e) = some x := by
            intro i hi
            rw [hget i hi, List.getElem?_eq_getElem (by omega)]
            exact ⟨_, rfl⟩
          have hspot : a.spot = none := by
            obtain ⟨x, hx0⟩ := hex 0 (by omega)
            cases hc : W.cells? 0 (a.add (0 * P.cellsOf e)) (P.cellsOf e) with
            | none => rw [hc] at hx0; cases hx0
            | some cs =>
              obtain ⟨_, hcl, hat⟩ := World.cells?_some hc
              have := hat 0 (by omega)
              rw [List.getElem?_eq_getElem (by omega)] at this
              have := World.cell?_spot this
              obtain ⟨b, o, sp⟩ := a
              cases sp with
              | none => rfl
              | some q =>
                exfalso
                revert this
                unfold Addr.add
                repeat' split
                all_goals simp_all
          obtain ⟨φ1, h1, us, r1, g1, len1, e1, i1⟩ := open_row (open_cells n e l hl) hlen.1 hlen.2 hspot len hex φ h r
          have hb : a.block < W.heap.size := by
            obtain ⟨_, v', hv', _⟩ := e1 0 (us[0]'(by rw [len1]; exact Nat.mul_pos (by omega) hlen.2)) (List.getElem?_eq_getElem _)
            have hv2 : W.cell? ⟨a.block, a.off, none⟩ = some v' := hv'
            rcases Nat.lt_or_ge a.block W.heap.size with g | g
            · exact g
            · exfalso
              unfold World.cell? at hv2
              rw [Array.getElem?_eq_none (by exact g)] at hv2
              simp at hv2
          obtain ⟨r2, g2⟩ := r1.push (l := ⟨a.block, a.off, none⟩) (cs := us) hb rfl e1
          refine ⟨_, _, [.slice (some ⟨h1.n, 0, none⟩) len cap], r2, g1.trans g2, .cons ?_ .nil, isAll_one ?_⟩
          · have : a = ⟨a.block, a.off + 0, none⟩ := by obtain ⟨b, o, sp⟩ := a; simp only at hspot; subst hspot; rfl
            have hv := RelV.sl (φ := fun c => if c = h1.n then some ⟨a.block, a.off, none⟩ else φ1 c) (c := h1.n) (o := 0) (n := len) (k := cap) (k' := cap) (l := ⟨a.block, a.off, none⟩) (by simp) (.inl rfl) hle
            simp only at hv
            rwa [← this] at hv
          · unfold Is
            refine .inr (.inr ⟨h1.n, len, cap, us, rfl, by omega, hle, hcap, Heap.get?_push_new, len1, fun i hi => ?_⟩)
            exact IsAll.mono (fun c o h => g2.some h) _ _ (i1 i hi)
    · rename_i fs ht
      split at hs
      rotate_left
      · cases hs
      rename_i r0 hr0
      split at hs
      rotate_left
      · cases hs
      rename_i hlen
      cases hs
      obtain ⟨xs, m, _, _, hcl, hxl, hf⟩ := DataW.trod_struct ht hx
      obtain ⟨φ1, h1, us, r1, g1, e1, i1⟩ := open_fields (cs := cs) (m := m) (fun t l ht => open_cells n t l ht) fs.toList 0 _ hr0 (fun f hf' => by
        obtain ⟨i, hi⟩ := List.getElem?_of_mem hf'
        have hi' : fs[i]? = some f := by simpa using hi
        have hlt : i < xs.length := by
          rw [hxl]
          rcases Nat.lt_or_ge i fs.size with g | g
          · exact g
          · rw [Array.getElem?_eq_none g] at hi'; cases hi'
        rw [hf i f hi', List.getElem?_eq_getElem hlt]
        exact ⟨_, rfl⟩) φ h r
      refine ⟨φ1, h1, us, r1, g1, ?_, i1⟩
      rw [List.drop_zero, hlen, ← hcl, List.take_length] at e1
      exact e1
    · rename_i k e ht
      split at hs
      rotate_left
      · cases hs
      rename_i l hl
      split at hs
      rotate_left
      · cases hs
      rename_i hlen
      cases hs
      obtain ⟨xs, m, _, _, hcl, hxl, hf⟩ := DataW.trod_array ht hx
      obtain ⟨φ1, h1, us, r1, g1, e1, i1⟩ := open_times (cs := cs) (m := m) (open_cells n e l hl) hlen.1 k 0 (fun i hi => by
        rw [Nat.zero_add, hf i hi, List.getElem?_eq_getElem (by omega)]
        exact ⟨_, rfl⟩) φ h r
      refine ⟨φ1, h1, us, r1, g1, ?_, i1⟩
      rw [Nat.zero_mul, List.drop_zero, hlen.2, ← hcl, List.take_length] at e1
      exact e1
    · cases hs

/-- an argument's shape: is it a row of cells? which? -/
def shArg (P : Program) (t : TypeId) : Option (Bool × List Sh) :=
  match P.underlying t, shOf P 9 t with
  | some (.struct _), some l => some (true, l)
  | some (.array _ _), some l => some (true, l)
  | some _, some l => some (false, l)
  | _, _ => none
def shArgs (P : Program) : List TypeId → Option (List (Bool × List Sh))
  | [] => some []
  | t :: ts => match shArg P t, shArgs P ts with | some a, some l => some (a :: l) | _, _ => none
def IsArg (h : Heap) (a : Bool × List Sh) (v : Value) : Prop := if a.1 then ∃ us, v = .agg us ∧ IsAll h a.2 us.toList else IsAll h a.2 [v]
def IsArgs (h : Heap) : List (Bool × List Sh) → List Value → Prop
  | [], [] => True
  | a :: r, v :: vs => IsArg h a v ∧ IsArgs h r vs
  | _, _ => False
theorem IsArg.mono {h h' : Heap} (g : ∀ c o, h.get? c = some o → h'.get? c = some o) {a : Bool × List Sh} {v : Value} (H : IsArg h a v) : IsArg h' a v := by
  unfold IsArg at H ⊢
  split
  · rename_i hc; rw [if_pos hc] at H; obtain ⟨us, e, i⟩ := H; exact ⟨us, e, IsAll.mono g _ _ i⟩
  · rename_i hc; rw [if_neg hc] at H; exact IsAll.mono g _ _ H

theorem cells_one {v : Value} (h : ∀ cs, v ≠ .agg cs) : v.cells = #[v] := by
  cases v <;> simp_all [Value.cells]

theorem open_arg {W : World} {r0 : Reach} {b0 : Nat} {t : TypeId} {a : Bool × List Sh} {v : Value} {d : DataW H} {p : List MemPlace} (ha : shArg P t = some a) (hok : Value.okWide P W r0 b0 t v) (hd : DataW.Trod enc P W 0 (fun _ => true) true t v d p) :
    ∀ φ h, RO W φ h → ∃ φ' h' u, RO W φ' h' ∧ Gr φ φ' h h' ∧ RelV φ' u v ∧ IsArg h' a u := by
  intro φ h r
  obtain ⟨fuel, hf⟩ := hd
  have agg : ∀ l, shOf P 9 t = some l → a = (true, l) → (∃ cs, v = .agg cs) → ∃ φ' h' u, RO W φ' h' ∧ Gr φ φ' h h' ∧ RelV φ' u v ∧ IsArg h' a u := by
    rintro l hl rfl ⟨cs, rfl⟩
    obtain ⟨φ1, h1, us, r1, g1, e1, i1⟩ := open_cells 9 t l hl _ _ _ hf φ h r
    simp only [Value.cells] at e1
    refine ⟨φ1, h1, .agg us.toArray, r1, g1, relV_agg.2 ⟨by simpa using IsAll.one i1, by simpa using e1⟩, ?_⟩
    unfold IsArg
    rw [if_pos rfl]
    exact ⟨us.toArray, rfl, by simpa using i1⟩
  have one : ∀ l, shOf P 9 t = some l → a = (false, l) → (∀ cs, v ≠ .agg cs) → ∃ φ' h' u, RO W φ' h' ∧ Gr φ φ' h h' ∧ RelV φ' u v ∧ IsArg h' a u := by
    rintro l hl rfl hne
    obtain ⟨φ1, h1, us, r1, g1, e1, i1⟩ := open_cells 9 t l hl _ _ _ hf φ h r
    rw [cells_one hne] at e1
    have hlen := e1.1
    match us, hlen with
    | [u], _ =>
      refine ⟨φ1, h1, u, r1, g1, e1.2 0 u v rfl rfl, ?_⟩
      unfold IsArg
      rw [if_neg (by simp)]
      exact i1
  unfold shArg at ha
  split at ha
  · rename_i fs l ht hl
    cases ha
    obtain ⟨cs, rfl, _⟩ := okWide_struct ht hok
    exact agg l hl rfl ⟨cs, rfl⟩
  · rename_i n e l ht hl
    cases ha
    simp only [Value.okWide, ht] at hok
    obtain ⟨cs, rfl, _⟩ := hok
    exact agg l hl rfl ⟨cs, rfl⟩
  · rename_i d l hn1 hn2 ht hl
    cases ha
    refine one l hl rfl ?_
    rintro cs rfl
    cases hd : d with
    | bool => subst hd; obtain ⟨b, e⟩ := okWide_bool ht hok; cases e
    | int k => subst hd; obtain ⟨b, e⟩ := okWide_int ht hok; cases e
    | string => subst hd; obtain ⟨b, e⟩ := okWide_string ht hok; cases e
    | slice q => subst hd; obtain ⟨b, c, d, e⟩ := okWide_slice ht hok; cases e
    | struct fs => exact hn1 _ hd
    | array n e => exact hn2 _ _ hd
    | _ =>
      subst hd
      simp only [shOf, ht] at hl
      cases hl
  · cases ha

theorem open_args {W : World} {r0 : Reach} {b0 : Nat} : ∀ {ts : List TypeId} {shs : List (Bool × List Sh)} {vs : List Value} {ds : List (DataW H)} {p : List MemPlace}, shArgs P ts = some shs →
    (∀ (j : Nat) (t : TypeId) (v : Value), ts[j]? = some t → vs[j]? = some v → Value.okWide P W r0 b0 t v) → DataW.TrodAll enc P W 0 (fun _ => true) true ts vs ds p →
    ∀ φ h, RO W φ h → ∃ φ' h' us, RO W φ' h' ∧ Gr φ φ' h h' ∧ RelL φ' us vs ∧ IsArgs h' shs us
  | [], shs, vs, ds, p, ha, hok, hd, φ, h, r => by
    cases ha
    obtain ⟨rfl, rfl, rfl⟩ := trodAll_nil hd
    exact ⟨φ, h, [], r, .refl, .nil, trivial⟩
  | t :: ts, shs, vs, ds, p, ha, hok, hd, φ, h, r => by
    simp only [shArgs] at ha
    split at ha
    · rename_i a l h1 h2
      cases ha
      obtain ⟨v, vs1, d, ds1, p1, q1, rfl, rfl, rfl, hd1, hd2⟩ := trodAll_cons hd
      obtain ⟨φ1, g1, u, r1, gr1, e1, i1⟩ := open_arg h1 (hok 0 t v rfl rfl) hd1 φ h r
      obtain ⟨φ2, g2, us, r2, gr2, e2, i2⟩ := open_args h2 (fun j t v p q => hok (j + 1) t v p q) hd2 φ1 g1 r1
      exact ⟨φ2, g2, u :: us, r2, gr1.trans gr2, .cons (e1.mono gr2.sub) e2, i1.mono (fun c o h => gr2.some h), i2⟩
    · cases ha

end
end Go.Cm

/- The canonical machine: a law of which the canonical machine says that it is true for all arguments: its row's contract. Conditions: none. -/
namespace Go.Cm
open Go.RowKit Go.ChangeShapes Go.WideShapes
set_option linter.unusedVariables false

section
variable {H : Type} {enc : TypeId × Value → H} {P : Program}

/-- what is known of the program: its functions' table, and what is known of others -/
structure Knows (P : Program) (G : Nat) (M : Prg) : Prop where
  fn : ∀ g F, M.fn g = some F → InProg P G g F
  orac : ∀ (B : Nat) (W0 : World) g args h v h', M.orac g args h v h' → h.n ≤ h'.n ∧ GoodCall P G B W0 g args h v h'

theorem Knows.bare {G : Nat} {tab : List (Nat × MFun)} (h : AllIn P G tab) : Knows P G (bare tab) := ⟨lookF_ok h, fun _ _ _ _ _ _ _ h => h.elim⟩

/-- the call, whatever the arguments -/
theorem law_calls {M : Prg} {g : FuncId} {ts : List TypeId} {shs : List (Bool × List Sh)} {W : World} {base : Nat} {args : Array Value} {ds : List (DataW H)} {p : List MemPlace} (hmix : P.follows .mixedOrders = true) (hM : Knows P 0 M)
    (hsh : shArgs P ts = some shs) (law : ∀ h us, IsArgs h shs us → ∃ h', Ev M (.call g us h (.bool true) h'))
    (hval : ∀ (j : Nat) t v, ts[j]? = some t → args[j]? = some v → Value.okWide P W .any base t v) (hd : DataW.TrodAll enc P W 0 (fun _ => true) true ts args.toList ds p) :
    Calls P g args W fun e W' => e = .returned (.bool true) ∧ Below W.heap.size W W' := by
  obtain ⟨φ, h, us, r, g1, e1, i1⟩ := open_args hsh (fun j t v p q => hval j t v p (by simpa using q)) hd _ _ (RO.start W)
  obtain ⟨h', hev⟩ := law h us i1
  refine door hmix hM.fn (hM.orac _ _) hev r.sim (Glob.none _) e1 fun c h1 _ => ?_
  cases hc : φ c with
  | none => rfl
  | some l => have := r.dom c l hc; omega

theorem law_contract {M : Prg} {g : FuncId} {fn : Func} {s : ChangeSpec} {tb : TypeId} {shs : List (Bool × List Sh)} {W : World} {base : Nat} {args : Array Value} {ds gs : List (DataW H)} {before : List MemPlace}
    (hmix : P.follows .mixedOrders = true) (hM : Knows P 0 M) (hl : laidOutB P = true) (hts : fn.params.toList.all (fun t => P.readableRec t && decide (t < P.types.size)) = true) (hsh : shArgs P fn.params.toList = some shs)
    (hv : s.vars = []) (hr : fn.resultTypes = #[tb]) (ht : P.underlying tb = some .bool) (hfn : ∀ ds : List (DataW H), ds.length = fn.params.toList.length → s.fn H ds = { results := [.lit (.bool true)], args := ds })
    (law : ∀ h us, IsArgs h shs us → ∃ h', Ev M (.call g us h (.bool true) h'))
    (hval : ∀ (j : Nat) t v, fn.params[j]? = some t → args[j]? = some v → Value.okWide P W .any base t v) (hW : DataW.Whole enc P fn.params.toList s.vars false W args.toList ds gs before) :
    Calls P g args W fun e W' => ∃ v, e = .returned v ∧ s.post enc P fn false true false false W args v W' := by
  have hW' := hW
  obtain ⟨p, q, hA, hV, rfl, hz, hn⟩ := hW
  refine (law_calls hmix hM hsh law (fun j t v p q => hval j t v (by simpa using p) q) hA).mono ?_
  rintro e W' ⟨rfl, hb⟩
  exact ⟨_, rfl, post_true hl hts hv hr ht hfn hW' hb⟩


/-- a value without addresses -/
def flat1 : Value → Bool
  | .bool _ | .int .. | .string _ => true
  | _ => false
def flat : Value → Bool
  | .agg cs => cs.toList.all flat1
  | v => flat1 v
theorem flat1_eq {φ : Emb} {u v : Value} (h : RelV φ u v) (hf : flat1 u = true) : v = u := by
  cases h <;> first | rfl | (simp [flat1, unk] at hf)
theorem flat_eq {φ : Emb} {u v : Value} (h : RelV φ u v) (hf : flat u = true) : v = u := by
  cases h with
  | @agg a b ho hs hh =>
    simp only [flat] at hf
    rw [List.all_eq_true] at hf
    congr 1
    refine Array.ext hs.symm fun i h1 h2 => ?_
    exact flat1_eq (hh i a[i] b[i] (Array.getElem?_eq_getElem h2) (Array.getElem?_eq_getElem h1)) (hf _ (by simp))
  | top v => simp [flat, flat1, unk] at hf
  | _ => first | rfl | (simp [flat, flat1] at hf)
theorem RelV.same {φ : Emb} {u : Value} (hf : flat u = true) : RelV φ u u := by
  cases u with
  | bool b => exact .bool b
  | int k n => exact .int k n
  | string s => exact .str s
  | agg a =>
    simp only [flat] at hf
    rw [List.all_eq_true] at hf
    refine .agg ?_ rfl fun i v v' p q => ?_
    · rw [List.all_eq_true]
      intro x hx
      have := hf x hx
      cases x with
      | bool b => rfl
      | int k n => rfl
      | string s => rfl
      | _ => simp [flat1] at this
    · rw [p] at q; cases q
      have := hf v (by simpa using Array.mem_of_getElem? p)
      cases v with
      | bool b => exact .bool b
      | int k n => exact .int k n
      | string s => exact .str s
      | _ => simp [flat1] at this
  | _ => simp [flat, flat1] at hf

end
end Go.Cm

/- The canonical machine: oracles: calls that are known by themselves; an evaluator that asks them. Conditions: none. -/
namespace Go.Cm
open Go.RowKit Go.ChangeShapes Go.WideShapes
set_option linter.unusedVariables false
set_option linter.unusedSimpArgs false

/-- the evaluator, with answers that are known ahead -/
def evalX (fn : FuncId → Option MFun) (orc : CallF) : Nat → CallF
  | 0, _, _, _ => none
  | k + 1, g, args, h => match orc g args h with
    | some r => some r
    | none => match fn g with
      | none => none
      | some F => if args.length = F.nargs then
          (match evalCode (evalX fn orc k) k F.body (initF 0 args) h with
          | some (.exit _, _, _) => none
          | some (_, f', h') => (match resC F.res f' h' with | some v => some (v, h') | none => none)
          | none => none)
        else none

/-- the program with such answers -/
def Prg.of (tab : List (Nat × MFun)) (orc : CallF) : Prg := ⟨lookF tab, fun g args h v h' => orc g args h = some (v, h')⟩

theorem evalX_ev {tab : List (Nat × MFun)} {orc : CallF} : ∀ (k : Nat) {g : FuncId} {args : List Value} {h : Heap} {v : Value} {h' : Heap}, evalX (lookF tab) orc k g args h = some (v, h') → Ev (Prg.of tab orc) (.call g args h v h')
  | 0, g, args, h, v, h', hr => by cases hr
  | k + 1, g, args, h, v, h', hr => by
    simp only [evalX] at hr
    split at hr
    · rename_i r ho
      cases hr
      exact .known ho
    split at hr
    · cases hr
    rename_i F hF
    split at hr
    rotate_left
    · cases hr
    rename_i hlen
    split at hr
    · cases hr
    · rename_i e f1 h1 hne hb
      split at hr
      rotate_left
      · cases hr
      rename_i v1 hv
      simp only [Option.some.injEq, Prod.mk.injEq] at hr
      obtain ⟨rfl, rfl⟩ := hr
      refine .fcall hF hlen (code_ev (M := Prg.of tab orc) (fun g args h v h' hc => evalX_ev k hc) hb) ?_ hv
      cases e with
      | norm => exact .inl rfl
      | ret => exact .inr rfl
      | exit i => exact absurd rfl (hne i)
    · cases hr

/-- what an answer that is known ahead must be -/
def OrcOK (P : Program) (G : Nat) (orc : CallF) : Prop := ∀ (B : Nat) (W0 : World) g args h v h', orc g args h = some (v, h') → h.n ≤ h'.n ∧ GoodCall P G B W0 g args h v h'
theorem Knows.of {P : Program} {G : Nat} {tab : List (Nat × MFun)} {orc : CallF} (h : AllIn P G tab) (ho : OrcOK P G orc) : Knows P G (Prg.of tab orc) := ⟨lookF_ok h, ho⟩

theorem Sim.below' {B : Nat} {W0 : World} {φ : Emb} {H : HF} {W W' : World} (s : Sim B W0 φ H W) (b : Below W.heap.size W W') : Sim B W0 φ H W' where
  below := s.below.trans (b.mono s.inB)
  inB := Nat.le_trans s.inB b.size
  lt := fun c l h => Nat.lt_of_lt_of_le (s.lt c l h) b.size
  obj := fun c l o h1 h2 => (s.obj c l o h1 h2).keep (fun _ _ h => h) (b.block l.b (s.lt c l h1))
  inj := s.inj
theorem Ext.below {φ : Emb} {H : Heap} {W W' : World} (b : Below W.heap.size W W') : Ext φ φ H H W W' where
  sub := fun _ _ h => h
  dom := fun c l h h' => by rw [h] at h'; cases h'
  img := fun c l h h' => by rw [h] at h'; cases h'
  keepW := fun k hk _ => b.block k hk
  keepH := fun _ _ _ => rfl
  excl := fun c o' _ h e => ⟨o', h, e⟩
  size := b.size
  le := Nat.le_refl _

theorem relL_flat {φ ψ : Emb} : ∀ {us vs : List Value}, RelL φ us vs → us.all flat = true → RelL ψ us vs
  | us, vs, h, hf => by
    refine ⟨h.1, fun i u v p q => ?_⟩
    have := h.2 i u v p q
    rw [List.all_eq_true] at hf
    have hu := hf u (List.mem_of_getElem? p)
    rw [flat_eq this hu]
    exact RelV.same hu

/-- a call without memory that came in: known on every memory -/
theorem closed_call {P : Program} {M : Prg} {g : FuncId} {args : List Value} {v : Value} {h1 : Heap} (hmix : P.follows .mixedOrders = true) (hM : Knows P 0 M) (hev : Ev M (.call g args ⟨0, []⟩ v h1)) (hargs : args.all flat = true) (hv : flat v = true)
    (B : Nat) (W0 : World) (h : Heap) : GoodCall P 0 B W0 g args h v h := by
  have hs := fun B W0 => (sound (B := B) (W0 := W0) hmix hM.fn (hM.orac B W0) hev).2
  refine ⟨(hs B W0).1, fun φ W args' s gl hr free => ?_⟩
  refine ((hs W.heap.size W).2 (fun _ => none) W args' (Sim.nothing W 0) (Glob.none _) (relL_flat hr hargs) (fun _ _ _ => rfl)).mono ?_
  rintro e W' ⟨φ', v', rfl, hv', s', x'⟩
  have := flat_eq hv' hv
  subst this
  exact ⟨φ, v', rfl, RelV.same hv, s.below' s'.below, .below s'.below⟩

/-- such calls, each with its answer -/
def orcOf : List (Nat × Value) → CallF
  | [], _, _, _ => none
  | (k, v) :: r, g, args, h => match Nat.beq k g && args.isEmpty with
    | true => some (v, h)
    | false => orcOf r g args h
theorem orcOf_ok {P : Program} {G : Nat} : ∀ {l : List (Nat × Value)}, (∀ p ∈ l, ∀ B W0 h, GoodCall P G B W0 p.1 [] h p.2 h) → OrcOK P G (orcOf l)
  | [], _ => fun B W0 g args h v h' ho => by cases ho
  | (k, u) :: r, hp => fun B W0 g args h v h' ho => by
    simp only [orcOf] at ho
    cases hk : (Nat.beq k g && args.isEmpty) with
    | true =>
      rw [hk] at ho
      simp only [Option.some.injEq, Prod.mk.injEq] at ho
      obtain ⟨rfl, rfl⟩ := ho
      rw [Bool.and_eq_true] at hk
      obtain ⟨h1, h2⟩ := hk
      have := Nat.eq_of_beq_eq_true h1
      subst this
      cases args with
      | nil => exact ⟨Nat.le_refl _, hp (k, u) (by simp) B W0 h⟩
      | cons _ _ => cases h2
    | false =>
      rw [hk] at ho
      exact orcOf_ok (fun p hm => hp p (by simp [hm])) B W0 g args h v h' ho

/-- one answer or the other -/
def orcOr (a b : CallF) : CallF := fun g args h => match a g args h with | some r => some r | none => b g args h
theorem orcOr_ok {P : Program} {G : Nat} {a b : CallF} (ha : OrcOK P G a) (hb : OrcOK P G b) : OrcOK P G (orcOr a b) := fun B W0 g args h v h' ho => by
  unfold orcOr at ho
  split at ho
  · rename_i r hr; cases ho; exact ha B W0 g args h v h' hr
  · exact hb B W0 g args h v h' ho
def orcNone : CallF := fun _ _ _ => none
theorem orcNone_ok {P : Program} {G : Nat} : OrcOK P G orcNone := fun B W0 g args h v h' ho => by cases ho

end Go.Cm
