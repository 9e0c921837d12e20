/- What is picked, and what isn't: plain lists. Conditions: none. -/
import Derived.Test.YtboioafflppnfaaA9
namespace Go.Proofs.Ytboioafflppnfaa
open Go.Cm
set_option linter.unusedVariables false
set_option linter.unusedSimpArgs false

theorem swapL_perm {l : List Int} {i j : Nat} (hi : i < l.length) (hj : j < l.length) : (swapL l i j).Perm l := by
  rw [List.perm_iff_count]
  intro b
  unfold swapL
  have ei : l.getD i 0 = l[i] := by simp [hi]
  have ej : l.getD j 0 = l[j] := by simp [hj]
  rw [ei, ej, List.count_set (by simpa using hj), List.count_set hi, List.getElem_set]
  have hc : l[i] = b → 0 < l.count b := fun e => List.count_pos_iff.2 (e ▸ List.getElem_mem hi)
  have hd : l[j] = b → 0 < l.count b := fun e => List.count_pos_iff.2 (e ▸ List.getElem_mem hj)
  by_cases hij : i = j
  · subst hij
    simp only [if_true, beq_iff_eq]
    split <;> omega
  · rw [if_neg hij]
    simp only [beq_iff_eq]
    by_cases h1 : l[i] = b <;> by_cases h2 : l[j] = b
    · have := hc h1; simp only [h1, h2, if_true]; omega
    · have := hc h1; simp only [h1, h2, if_true, if_false]; omega
    · have := hd h2; simp only [h1, h2, if_true, if_false]; omega
    · simp only [h1, h2, if_false]; omega
theorem shufN_perm (w : Nat → Nat) : ∀ (i : Nat) (l : List Int) (a : Nat) (l' : List Int), i < l.length ∨ i = 0 → shufN w i l a = some l' → l'.Perm l
  | 0, l, a, l', _, h => by simp only [shufN, Option.some.injEq] at h; rw [h]
  | i + 1, l, a, l', hi, h => by
    simp only [shufN] at h
    split at h
    · rename_i j a' hr
      have hb := belowN_lt w ((i + 2 : Nat) : Int) (by omega) 64 a j (by rw [hr])
      have hj : j.toNat < l.length := by omega
      exact (shufN_perm w i _ _ l' (.inl (by rw [swapL_length]; omega)) h).trans (swapL_perm (by omega) hj)
    · cases h
theorem iota_nodup (n : Nat) : (iota n).Nodup := by
  unfold iota
  exact List.Pairwise.map _ (fun a b hab e => hab (by omega)) List.nodup_range
theorem mem_iota {n : Nat} {x : Int} : x ∈ iota n ↔ 0 ≤ x ∧ x < n := by
  simp only [iota, List.mem_map, List.mem_range]
  constructor
  · rintro ⟨y, hy, rfl⟩; omega
  · rintro ⟨h1, h2⟩; exact ⟨x.toNat, by omega, by omega⟩
theorem isort_strict {l : List Int} (h : l.Nodup) : (isort l).Pairwise (· < ·) := by
  have h1 := isort_sorted l
  have h2 : (isort l).Nodup := (isort_perm l).nodup_iff.2 h
  exact (h1.and h2).imp (fun ⟨a, b⟩ => by omega)

theorem restG_perm : ∀ (d : Nat) (i : Int) (p : List Int), p.Pairwise (· < ·) → (∀ x ∈ p, i ≤ x ∧ x < i + d) → (restG d i p).2 = [] ∧ ((restG d i p).1 ++ p).Perm ((List.range d).map fun k : Nat => i + (k : Int))
  | 0, i, p, hp, hm => by
    have : p = [] := by
      cases p with
      | nil => rfl
      | cons x q => have := hm x (by simp); omega
    subst this
    simp [restG]
  | d + 1, i, [], hp, hm => by
    obtain ⟨h1, h2⟩ := restG_perm d (i + 1) [] .nil (by simp)
    refine ⟨h1, ?_⟩
    simp only [restG, List.append_nil] at h2 ⊢
    rw [List.range_succ_eq_map, List.map_cons, List.map_map]
    refine (List.Perm.cons _ h2).trans ?_
    have : (List.range d).map (fun k : Nat => i + 1 + (k : Int)) = (List.range d).map ((fun k : Nat => i + (k : Int)) ∘ Nat.succ) := List.map_congr_left fun k _ => by simp; omega
    rw [this]
    simp
  | d + 1, i, x :: q, hp, hm => by
    obtain ⟨hx1, hx2⟩ := hm x (by simp)
    obtain ⟨p1, p2⟩ := List.pairwise_cons.1 hp
    rw [List.range_succ_eq_map, List.map_cons, List.map_map]
    have hmap : (List.range d).map (fun k : Nat => i + 1 + (k : Int)) = (List.range d).map ((fun k : Nat => i + (k : Int)) ∘ Nat.succ) := List.map_congr_left fun k _ => by simp; omega
    simp only [restG]
    by_cases hxi : x = i
    · rw [if_pos hxi]
      obtain ⟨h1, h2⟩ := restG_perm d (i + 1) q p2 (fun y hy => by have := p1 y hy; have := (hm y (by simp [hy])).2; omega)
      refine ⟨h1, ?_⟩
      rw [← hmap, hxi]
      refine List.perm_middle.trans ?_
      simpa using h2
    · rw [if_neg hxi]
      obtain ⟨h1, h2⟩ := restG_perm d (i + 1) (x :: q) hp (fun y hy => by
        have h3 := hm y hy
        rcases List.mem_cons.1 hy with rfl | hy'
        · omega
        · have := p1 y hy'; omega)
      refine ⟨h1, ?_⟩
      rw [← hmap]
      simpa using h2

/-- how often each number is on a list -/
def cnt (L : List Int) : List Value := (List.range 25).map fun x : Nat => .int .i64 ((L.count (x : Int) : Nat) : Int)
theorem cnt_length (L : List Int) : (cnt L).length = 25 := by simp [cnt]
theorem cnt_get (L : List Int) (y : Int) (hy : 0 ≤ y ∧ y < 25) : (cnt L)[y.toNat]? = some (.int .i64 ((L.count y : Nat) : Int)) := by
  simp only [cnt, List.getElem?_map]
  rw [List.getElem?_range (by omega)]
  simp only [Option.map_some]
  rw [show ((y.toNat : Nat) : Int) = y by omega]
theorem cnt_set (L : List Int) (y : Int) (hy : 0 ≤ y ∧ y < 25) : splice (cnt L) y.toNat [.int .i64 ((L.count y : Nat) + 1 : Int)] = cnt (L ++ [y]) := by
  rw [splice_set _ _ _ (by rw [cnt_length]; omega)]
  apply List.ext_getElem?
  intro i
  by_cases hi : i < 25
  · rw [List.getElem?_set]
    have hg := cnt_get (L ++ [y]) i (by omega)
    have hg' := cnt_get L i (by omega)
    simp only [Int.toNat_natCast] at hg hg'
    rw [hg]
    by_cases he : y.toNat = i
    · rw [if_pos he, if_pos (by rw [cnt_length]; omega)]
      have : (i : Int) = y := by omega
      rw [this]
      simp [List.count_append]
    · rw [if_neg he, hg']
      have : y ≠ (i : Int) := by omega
      simp [List.count_append, this]
  · rw [List.getElem?_eq_none (by rw [List.length_set, cnt_length]; omega), List.getElem?_eq_none (by rw [cnt_length]; omega)]
theorem cnt_nil : cnt [] = [.int .i64 0, .int .i64 0, .int .i64 0, .int .i64 0, .int .i64 0, .int .i64 0, .int .i64 0, .int .i64 0, .int .i64 0, .int .i64 0, .int .i64 0, .int .i64 0, .int .i64 0, .int .i64 0, .int .i64 0, .int .i64 0, .int .i64 0, .int .i64 0, .int .i64 0, .int .i64 0, .int .i64 0, .int .i64 0, .int .i64 0, .int .i64 0, .int .i64 0] := by
  simp [cnt, List.range, List.range.loop]
end Go.Proofs.Ytboioafflppnfaa
