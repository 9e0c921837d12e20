/- The canonical machine: regions whose order is drawn. Conditions: none. -/
import Derived.Test.YtboioafflppnfaaCm13
namespace Go.Cm
open Go.RowKit
set_option linter.unusedVariables false
set_option linter.unusedSimpArgs false

/-! ### what an operation does to memory, by its kind -/
section
variable {ρ : Operand → Value} {h h' h2 : Heap} {o : MOp} {v : Value}

theorem kind0 (hk : kindOf o = 0) (hc : cop ρ h o = some (v, h')) : h' = h ∧ ∀ h2, cop ρ h2 o = some (v, h2) := by
  cases o <;> simp only [kindOf] at hk <;> first
    | (exact absurd hk (by decide))
    | skip
  all_goals
    simp only [cop] at hc ⊢
    repeat' (split at hc)
    all_goals first
      | (cases hc; done)
      | (simp only [Option.some.injEq, Prod.mk.injEq] at hc; obtain ⟨rfl, rfl⟩ := hc; refine ⟨rfl, fun h2 => ?_⟩; simp_all <;> omega)
      | (simp only [Option.some.injEq, Prod.mk.injEq] at hc; obtain ⟨rfl, rfl⟩ := hc; refine ⟨rfl, fun h2 => ?_⟩; simp_all; done)

theorem kind1 (hk : kindOf o = 1) (hc : cop ρ h o = some (v, h')) : ∃ ob, h' = h.push ob ∧ ob.excl = true ∧ ∀ h2 : Heap, h2.n = h.n → cop ρ h2 o = some (v, h2.push ob) := by
  cases o <;> simp only [kindOf] at hk <;> first
    | (exact absurd hk (by decide))
    | skip
  all_goals
    simp only [cop] at hc ⊢
    repeat' (split at hc)
    all_goals first
      | (cases hc; done)
      | (simp only [Option.some.injEq, Prod.mk.injEq] at hc; obtain ⟨rfl, rfl⟩ := hc; refine ⟨_, rfl, rfl, fun h2 h2n => ?_⟩; simp_all)

theorem kind2 (hk : kindOf o = 2) (hc : cop ρ h o = some (v, h')) : h' = h ∧ reread ρ h o = some v := by
  have hh : h' = h := by
    cases o <;> simp only [kindOf] at hk <;> first
      | (exact absurd hk (by decide))
      | skip
    all_goals
      simp only [cop] at hc
      repeat' (split at hc)
      all_goals first
        | (cases hc; done)
        | (simp only [Option.some.injEq, Prod.mk.injEq] at hc; exact hc.2.symm)
  refine ⟨hh, ?_⟩
  cases o <;> simp only [kindOf] at hk <;> first
    | (exact absurd hk (by decide))
    | (simp only [reread, hc])

theorem reread_cop (hk : kindOf o = 2) (hr : reread ρ h o = some v) : cop ρ h o = some (v, h) := by
  have : ∃ h', cop ρ h o = some (v, h') := by
    cases o <;> simp only [kindOf] at hk <;> first
      | (exact absurd hk (by decide))
      | skip
    all_goals
      simp only [reread] at hr
      split at hr
      · rename_i w h2 hc
        simp only [Option.some.injEq] at hr
        subst hr
        exact ⟨_, hc⟩
      · cases hr
  obtain ⟨h', hc⟩ := this
  rw [hc, (kind2 hk hc).1]

theorem kind3 (hk : kindOf o = 3) (hc : cop ρ h o = some (v, h')) : h' = h := by
  cases o <;> simp only [kindOf] at hk <;> first
    | (exact absurd hk (by decide))
    | skip
  all_goals
    simp only [cop] at hc
    repeat' (split at hc)
    all_goals first
      | (cases hc; done)
      | (simp only [Option.some.injEq, Prod.mk.injEq] at hc; exact hc.2.symm)

theorem cells_ext {c : Nat} {cs : List Value} (he : ∀ c, c < h.n → h2.get? c = h.get? c) (hc : h.cells c = some cs) : h2.cells c = some cs := by
  have hlt : c < h.n := by
    unfold Heap.cells at hc
    cases hg : h.get? c with
    | none => rw [hg] at hc; cases hc
    | some o => exact Heap.get?_lt hg
  unfold Heap.cells at hc ⊢
  rw [he c hlt]; exact hc
theorem rd1_ext {a : Addr} {v : Value} (he : ∀ c, c < h.n → h2.get? c = h.get? c) (hr : h.rd1 a = some v) : h2.rd1 a = some v := by
  unfold Heap.rd1 at hr ⊢
  split at hr
  · cases hr
  rename_i hs
  rw [if_neg hs]
  split at hr
  · rename_i cs hc; rw [cells_ext he hc]; exact hr
  · cases hr
theorem rdN_ext {a : Addr} {n : Nat} {vs : List Value} (he : ∀ c, c < h.n → h2.get? c = h.get? c) (hr : h.rdN a n = some vs) : h2.rdN a n = some vs := by
  unfold Heap.rdN at hr ⊢
  split at hr
  · cases hr
  rename_i hs
  rw [if_neg hs]
  split at hr
  · rename_i cs hc; rw [cells_ext he hc]; exact hr
  · cases hr
theorem sliceCells_ext {e n : Nat} {x : Value} {vs : List Value} (he : ∀ c, c < h.n → h2.get? c = h.get? c) (hr : sliceCells h e n x = some vs) : sliceCells h2 e n x = some vs := by
  cases x <;> simp only [sliceCells] at hr ⊢ <;> first
    | (cases hr; done)
    | skip
  rename_i a len cap
  by_cases h0 : n = 0
  · rw [if_pos h0] at hr ⊢; exact hr
  · rw [if_neg h0] at hr ⊢
    cases a with
    | none => cases hr
    | some a =>
      simp only at hr ⊢
      split at hr
      · rename_i hn; rw [if_pos hn]; exact rdN_ext he hr
      · cases hr

theorem read_ext (hk : kindOf o = 2) (he : ∀ c, c < h.n → h2.get? c = h.get? c) (hc : cop ρ h o = some (v, h)) : cop ρ h2 o = some (v, h2) := by
  cases o <;> simp only [kindOf] at hk <;> first
    | (exact absurd hk (by decide))
    | skip
  · simp only [cop] at hc ⊢
    split at hc
    · split at hc
      · rename_i a ha u hu
        rw [rd1_ext he hu]
        (cases hc; first | rfl | simp_all)
      · cases hc
    · cases hc
  · simp only [cop] at hc ⊢
    split at hc
    · split at hc
      · rename_i a ha u hu
        rw [rdN_ext he hu]
        (cases hc; first | rfl | simp_all)
      · cases hc
    · cases hc
  · simp only [cop] at hc ⊢
    split at hc
    · (cases hc; first | rfl | simp_all)
    · split at hc
      · rename_i cs hcs
        rw [sliceCells_ext he hcs]
        split at hc
        · rename_i l hl
          (cases hc; first | rfl | simp_all)
        · cases hc
      · cases hc
    · cases hc
  · simp only [cop] at hc ⊢
    split at hc
    · rename_i a len cap hx
      split at hc
      · rename_i l e m hb
        cases a with
        | none =>
          (cases hc; first | rfl | simp_all)
        | some a =>
          simp only at hc ⊢
          split at hc
          · (cases hc; first | rfl | simp_all)
          · cases hg : h.get? a.block with
            | none => rw [hg] at hc; cases hc
            | some ob =>
              rw [he _ (Heap.get?_lt hg), hg]
              rw [hg] at hc
              cases ob with
              | ro cs => (cases hc; first | rfl | simp_all)
              | rw cs => (cases hc; first | rfl | simp_all)
              | loose k cs =>
                simp only at hc ⊢
                split at hc
                · (cases hc; first | rfl | simp_all)
                · split at hc
                  · (cases hc; first | rfl | simp_all)
                  · cases hc
              | dead =>
                simp only at hc ⊢
                split at hc
                · (cases hc; first | rfl | simp_all)
                · cases hc
              | map es k => cases hc
      · cases hc
    · cases hc
end

/-! ### the order -/

theorem before_go (o : Oper) (acc : Array Nat) (i : Nat) : ∀ (es : List Edge) (s : Nat), (es.foldl (fun s e => if Region.binds .any e then s ||| 2 ^ e.on ||| acc.getD e.on 0 else s) s).testBit i = true →
    s.testBit i = true ∨ ∃ e ∈ es, Region.binds .any e = true ∧ (e.on = i ∨ (acc.getD e.on 0).testBit i = true)
  | [], s, h => .inl h
  | e :: es, s, h => by
    simp only [List.foldl_cons] at h
    rcases before_go o acc i es _ h with h | ⟨e', he, hb, h⟩
    · split at h
      · rename_i hb
        rw [Nat.testBit_or, Nat.testBit_or, Bool.or_eq_true, Bool.or_eq_true] at h
        rcases h with (h | h) | h
        · exact .inl h
        · refine .inr ⟨e, by simp, hb, .inl ?_⟩
          rw [Nat.testBit_two_pow] at h
          simpa using h
        · exact .inr ⟨e, by simp, hb, .inr h⟩
      · exact .inl h
    · exact .inr ⟨e', by simp [he], hb, h⟩

theorem before_get : ∀ (l : List Oper) (j i : Nat), (((l.foldl (init := #[]) fun (acc : Array Nat) o => acc.push (o.after.foldl (fun s e => if Region.binds .any e then s ||| 2 ^ e.on ||| acc.getD e.on 0 else s) 0)).getD j 0).testBit i = true) →
    ∃ o, l[j]? = some o ∧ ∃ e ∈ o.after.toList, Region.binds .any e = true ∧ (e.on = i ∨ ((l.foldl (init := #[]) fun (acc : Array Nat) o => acc.push (o.after.foldl (fun s e => if Region.binds .any e then s ||| 2 ^ e.on ||| acc.getD e.on 0 else s) 0)).getD e.on 0).testBit i = true) := by
  intro l
  generalize hF : (fun (acc : Array Nat) (o : Oper) => acc.push (o.after.foldl (fun s e => if Region.binds .any e then s ||| 2 ^ e.on ||| acc.getD e.on 0 else s) 0)) = F
  have hsize : ∀ (l : List Oper) (acc : Array Nat), (l.foldl F acc).size = acc.size + l.length := by
    intro l
    induction l with
    | nil => intro acc; simp
    | cons o l ih => intro acc; rw [List.foldl_cons, ih]; subst hF; simp; omega
  have hpre : ∀ (l : List Oper) (acc : Array Nat) (j : Nat), j < acc.size → (l.foldl F acc).getD j 0 = acc.getD j 0 := by
    intro l
    induction l with
    | nil => intro acc j _; rfl
    | cons o l ih =>
      intro acc j hj
      rw [List.foldl_cons, ih _ _ (by subst hF; simp; omega)]
      subst hF
      simp [Array.getD_eq_getD_getElem?, Array.getElem?_push, show j ≠ acc.size from by omega]
  have key : ∀ (l : List Oper) (acc : Array Nat) (j i : Nat), acc.size ≤ j → ((l.foldl F acc).getD j 0).testBit i = true →
      ∃ o, l[j - acc.size]? = some o ∧ ∃ e ∈ o.after.toList, Region.binds .any e = true ∧ (e.on = i ∨ ((l.foldl F acc).getD e.on 0).testBit i = true) := by
    intro l
    induction l with
    | nil => intro acc j i hj h; simp [Array.getD_eq_getD_getElem?, hj] at h
    | cons o l ih =>
      intro acc j i hj h
      rw [List.foldl_cons] at h
      by_cases he : j = acc.size
      · subst he
        rw [hpre _ _ _ (by subst hF; simp)] at h
        have hv : (F acc o).getD acc.size 0 = o.after.foldl (fun s e => if Region.binds .any e then s ||| 2 ^ e.on ||| acc.getD e.on 0 else s) 0 := by
          subst hF; simp [Array.getD_eq_getD_getElem?]
        rw [hv, ← Array.foldl_toList] at h
        rcases before_go o acc i _ _ h with h | ⟨e, he, hb, h⟩
        · simp at h
        · refine ⟨o, by simp, e, he, hb, ?_⟩
          rcases h with h | h
          · exact .inl h
          · right
            have hlt : e.on < acc.size := by
              rcases Nat.lt_or_ge e.on acc.size with g | g
              · exact g
              · simp [Array.getD_eq_getD_getElem?, g] at h
            rw [List.foldl_cons, hpre _ _ _ (by subst hF; simp; omega)]
            subst hF
            simp only [Array.getD_eq_getD_getElem?, Array.getElem?_push, show e.on ≠ acc.size from by omega, if_false]
            simpa [Array.getD_eq_getD_getElem?] using h
      · obtain ⟨o', h1, e, h2, h3, h4⟩ := ih (F acc o) j i (by subst hF; simp; omega) h
        refine ⟨o', ?_, e, h2, h3, by rw [List.foldl_cons]; exact h4⟩
        have hs : (F acc o).size = acc.size + 1 := by subst hF; simp
        rw [hs] at h1
        rw [show j - acc.size = (j - (acc.size + 1)) + 1 from by omega, List.getElem?_cons_succ]
        exact h1
  intro j i h
  have := key l #[] j i (by simp) h
  simpa using this

theorem before_ok {ops : Array Oper} {i j : Nat} (h : ((Region.before ops).getD j 0).testBit i = true) : ∃ o, ops[j]? = some o ∧ ∃ e ∈ o.after.toList, Region.binds .any e = true ∧ (e.on = i ∨ ((Region.before ops).getD e.on 0).testBit i = true) := by
  unfold Region.before at h ⊢
  rw [← Array.foldl_toList] at h ⊢
  obtain ⟨o, h1, h2⟩ := before_get ops.toList j i h
  exact ⟨o, by simpa using h1, h2⟩

/-- what comes before an operation of a closed set is in the set -/
theorem closed_before {ops : Array Oper} {S : Nat → Bool} (he : edgesOK ops = true) (hS : ∀ j o, ops[j]? = some o → S j = true → ∀ e ∈ o.after.toList, Region.binds .any e = true → S e.on = true) :
    ∀ (j i : Nat), S j = true → ((Region.before ops).getD j 0).testBit i = true → S i = true := by
  intro j
  induction j using Nat.strongRecOn with
  | _ j ih =>
    intro i hj hb
    obtain ⟨o, ho, e, hm, hbind, h⟩ := before_ok hb
    have hlt : e.on < j := by
      unfold edgesOK at he
      rw [List.all_eq_true] at he
      have hjn : j < ops.size := by
        rcases Nat.lt_or_ge j ops.size with g | g
        · exact g
        · rw [Array.getElem?_eq_none g] at ho; cases ho
      have := he j (by simpa using hjn)
      rw [List.all_eq_true] at this
      have hd : ops.getD j default = o := by simp [Array.getD_eq_getD_getElem?, ho]
      rw [hd] at this
      have := this e hm
      simpa [hbind] using this
    have hSe := hS j o ho hj e hm hbind
    rcases h with h | h
    · rw [← h]; exact hSe
    · exact ih e.on hlt i hSe h

/-- what comes before an operation that is ready is in the set -/
theorem ready_before {ops : Array Oper} {S : Nat → Bool} (he : edgesOK ops = true) (hS : ∀ j o, ops[j]? = some o → S j = true → ∀ e ∈ o.after.toList, Region.binds .any e = true → S e.on = true) {j i : Nat} {o : Oper}
    (ho : ops[j]? = some o) (hr : ∀ e ∈ o.after.toList, Region.binds .any e = true → S e.on = true) (hb : ((Region.before ops).getD j 0).testBit i = true) : S i = true := by
  obtain ⟨o', ho', e, hm, hbind, h⟩ := before_ok hb
  rw [ho] at ho'
  cases ho'
  rcases h with h | h
  · rw [← h]; exact hr e hm hbind
  · exact closed_before he hS e.on i (hr e hm hbind) h

end Go.Cm
