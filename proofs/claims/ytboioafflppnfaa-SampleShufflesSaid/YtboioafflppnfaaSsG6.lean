/- Texts of the proof, joined by program: A24, A14, A11, A12, A25, ASh, A13, A26. Conditions: none. -/
import Derived.Test.YtboioafflppnfaaSsG5
import Derived.Shelf.SortM.Plain
import Derived.Shelf.SortM.SortNone
import Derived.Ground.SlgmProg
import Derived.Test.YtboioafflppnfaaProg
/- The reference's some of many. Conditions: none. -/
namespace Go.Proofs.Ytboioafflppnfaa
open Go.Cm
set_option linter.unusedVariables false
set_option linter.unusedSimpArgs false
set_option linter.unusedSectionVars false
set_option maxRecDepth 100000
set_option maxHeartbeats 1000000

/-- those of a list that are a number -/
def those (L : List Int) (i : Int) : List Int := L.filter (· == i)
def pickAll (L : List Int) : Nat → List Int
  | 0 => []
  | n + 1 => pickAll L n ++ those L n
theorem those_mem {L : List Int} {i x : Int} (h : x ∈ those L i) : x = i := by
  simp [those] at h; exact h.2
theorem pickAll_lt (L : List Int) : ∀ n x, x ∈ pickAll L n → x < n
  | 0, x, h => by simp [pickAll] at h
  | n + 1, x, h => by
    simp only [pickAll, List.mem_append] at h
    rcases h with h | h
    · have := pickAll_lt L n x h; omega
    · have := those_mem h; omega
theorem pickAll_sorted (L : List Int) : ∀ n, (pickAll L n).Pairwise (· ≤ ·)
  | 0 => .nil
  | n + 1 => by
    rw [pickAll, List.pairwise_append]
    refine ⟨pickAll_sorted L n, ?_, fun x hx y hy => ?_⟩
    · refine List.pairwise_of_forall_mem_list fun x hx y hy => ?_
      rw [those_mem hx, those_mem hy]; exact Int.le_refl _
    · have := pickAll_lt L n x hx
      have := those_mem hy
      omega
theorem those_count (L : List Int) (i x : Int) : (those L i).count x = if x = i then L.count x else 0 := by
  unfold those
  by_cases h : x = i
  · rw [if_pos h, List.count_filter (by simpa using h)]
  · rw [if_neg h, List.count_eq_zero]
    intro hm
    simp at hm
    exact h hm.2
theorem pickAll_count (L : List Int) (x : Int) : ∀ n : Nat, (pickAll L n).count x = if 0 ≤ x ∧ x < n then L.count x else 0
  | 0 => by rw [if_neg (by omega)]; rfl
  | n + 1 => by
    rw [pickAll, List.count_append, pickAll_count L x n, those_count]
    by_cases h1 : 0 ≤ x ∧ x < n
    · rw [if_pos h1, if_neg (by omega), if_pos (by omega)]; rfl
    · rw [if_neg h1]
      by_cases h2 : x = (n : Int)
      · rw [if_pos h2, if_pos (by omega)]; omega
      · rw [if_neg h2, if_neg (by omega)]
theorem pickAll_isort {L : List Int} {n : Nat} (h : ∀ x ∈ L, 0 ≤ x ∧ x < n) : pickAll L n = isort L := by
  refine List.Perm.eq_of_pairwise (le := fun a b : Int => a ≤ b) (fun a b _ _ h1 h2 => Int.le_antisymm h1 h2) (pickAll_sorted L n) (isort_sorted L) ?_
  rw [List.perm_iff_count]
  intro x
  rw [pickAll_count, (isort_perm L).count_eq]
  by_cases hx : x ∈ L
  · rw [if_pos (h x hx)]
  · split
    · rfl
    · rw [List.count_eq_zero.2 hx]
theorem pickAll_length (L : List Int) (n : Nat) : (pickAll L n).length ≤ n * L.length := by
  induction n with
  | zero => simp [pickAll]
  | succ n ih =>
    rw [pickAll, List.length_append]
    have : (those L n).length ≤ L.length := List.length_filter_le _ _
    rw [Nat.add_mul]; omega

section
variable {M : Prg} (hp : PureClosed M) (hf : M.fn = lookF tab)
include hp hf

theorem refPickIn (n q : Nat) (la : Value) (l : List Int) (hq : q ≤ l.length) (hl24 : l.length ≤ 24) (i : Nat) (h0 : Heap) (hla : Sl h0 1 la l.length (l.map (.int .i64))) (base : List Int) (hbl : base.length ≤ 600) (Q : Ex → Fr → Heap → Prop) : ∀ (d j : Nat) (vo : Value) (h : Heap), j + d = q → Le h0 h → Own h 1 vo ((base ++ those (l.take j) i).map (.int .i64)) → (∀ c m k, vo = .slice (some ⟨c, 0, none⟩) m k → h0.n ≤ c) →
    (∀ h' vo' u1 u2 u3, Le h0 h' → Own h' 1 vo' ((base ++ those (l.take q) i).map (.int .i64)) → (∀ c m k, vo' = .slice (some ⟨c, 0, none⟩) m k → h0.n ≤ c) → Q (.exit 2) [(36, u1), (35, u2), (34, u3), (1, .int .i64 n), (2, .int .i64 q), (8, la), (10, vo'), (11, .int .i64 i), (12, .int .i64 q)] h') →
    wpR M [1, 2, 8, 10, 11, 12] c_ref29_Pick_23 Q [(1, .int .i64 n), (2, .int .i64 q), (8, la), (10, vo), (11, .int .i64 i), (12, .int .i64 j)] h
  | 0, j, vo, h, hj, hle, how, hb, hQ => by
    have : j = q := by omega
    subst this
    refine w_round ?_
    repeat (first |((with_reducible show wpO _ _ _ _ _); first |refine o_mv rfl rfl ?_ |refine o_lenV rfl rfl ?_ |refine o_ext rfl rfl rfl ?_ |refine o_nil ?_ |(refine gG ?_; first|refine o_gdY rfl (by first|rfl|assumption|exact y1 (by omega)|exact y2 (by omega)|exact y3 (by omega)|exact y4 (by omega)|exact y5 (by omega)|exact y6 (by omega)) ?_|refine o_gdN rfl (by first|rfl|assumption|exact y1 (by omega)|exact y2 (by omega)|exact y3 (by omega)|exact y4 (by omega)|exact y5 (by omega)|exact y6 (by omega)) ?_|refine o_pass rfl ?_|refine o_passN rfl ?_) |(refine gP ?_; first|refine o_pickY rfl rfl (by first|rfl|assumption|exact y1 (by omega)|exact y3 (by omega)|exact y5 (by omega)) rfl ?_|refine o_pickN rfl rfl (by first|rfl|assumption|exact y2 (by omega)|exact y4 (by omega)|exact y6 (by omega)) rfl ?_) |(refine gA ?_; first|refine o_add rfl rfl rfl (wrapAny (by simp only [inKind]; omega)) ?_|refine o_sub rfl rfl rfl (wrapAny (by simp only [inKind]; omega)) ?_|refine o_mul rfl rfl rfl (wrapAny (by simp only [inKind]; omega)) ?_|refine o_quo rfl rfl rfl (by omega) (by omega) (wrapAny (by simp only [inKind]; omega)) ?_|refine o_rem rfl rfl rfl (by omega) (by omega) ?_|refine o_any rfl rfl ?_) |(refine gV ?_; refine o_conv rfl rfl (wrapAny (by simp only [inKind]; omega)) ?_) |(refine gL ?_; refine o_load1R rfl rfl (by assumption) rfl rfl ?_) |(refine gN ?_; refine o_loadNR rfl rfl (by assumption) rfl (by first|exact Nat.le_of_ble_eq_true rfl|(simp; done)|omega) rfl ?_) |(refine gS ?_; refine o_storeR rfl rfl rfl rfl rfl (by assumption) (by first|exact Nat.le_of_ble_eq_true rfl|(simp; done)|omega) ?_) |refine o_anyX rfl rfl rfl ?_ |refine o_anyN rfl rfl ?_) |(show wp _ _ _ _ _; first |refine w_opsS ?_ |refine w_ops ?_ |(refine gW ?_; first|refine w_condY rfl (by first|rfl|assumption|exact y1 (by omega)|exact y3 (by omega)|exact y5 (by omega)) ?_|refine w_condN rfl (by first|rfl|assumption|exact y2 (by omega)|exact y4 (by omega)|exact y6 (by omega)) ?_) |refine w_seq ?_ |refine w_opsX ?_ |refine w_block ?_ |refine w_exit ?_ |refine w_ret ?_ |refine w_skip ?_))
    exact hQ h _ _ _ _ hle how hb
  | d + 1, j, vo, h, hj, hle, how, hb, hQ => by
    have ih := fun j vo h => refPickIn n q la l hq hl24 i h0 hla base hbl Q d j vo h
    have hjl : j < l.length := by omega
    obtain ⟨a0, cap0, rfl, _, hrd⟩ := (hla.le hle).at1 (i := j) (u := .int .i64 l[j]) (by rw [List.getElem?_map, List.getElem?_eq_getElem hjl]; rfl)
    have htl : (those (l.take j) i).length ≤ 24 := by
      have h1 : (those (l.take j) i).length ≤ (l.take j).length := List.length_filter_le _ _
      rw [List.length_take] at h1; omega
    have hth : those (l.take (j + 1)) i = those (l.take j) i ++ (if l[j] = (i : Int) then [(i : Int)] else []) := by
      rw [← List.take_append_getElem hjl]
      unfold those
      rw [List.filter_append]
      congr 1
      by_cases he : l[j] = (i : Int)
      · rw [if_pos he, he]; simp
      · rw [if_neg he]; simp [he]
    refine w_round ?_
    repeat (first |((with_reducible show wpO _ _ _ _ _); first |refine o_mv rfl rfl ?_ |refine o_lenV rfl rfl ?_ |refine o_ext rfl rfl rfl ?_ |refine o_nil ?_ |(refine gG ?_; first|refine o_gdY rfl (by first|rfl|assumption|exact y1 (by omega)|exact y2 (by omega)|exact y3 (by omega)|exact y4 (by omega)|exact y5 (by omega)|exact y6 (by omega)) ?_|refine o_gdN rfl (by first|rfl|assumption|exact y1 (by omega)|exact y2 (by omega)|exact y3 (by omega)|exact y4 (by omega)|exact y5 (by omega)|exact y6 (by omega)) ?_|refine o_pass rfl ?_|refine o_passN rfl ?_) |(refine gP ?_; first|refine o_pickY rfl rfl (by first|rfl|assumption|exact y1 (by omega)|exact y3 (by omega)|exact y5 (by omega)) rfl ?_|refine o_pickN rfl rfl (by first|rfl|assumption|exact y2 (by omega)|exact y4 (by omega)|exact y6 (by omega)) rfl ?_) |(refine gA ?_; first|refine o_add rfl rfl rfl (wrapAny (by simp only [inKind]; omega)) ?_|refine o_sub rfl rfl rfl (wrapAny (by simp only [inKind]; omega)) ?_|refine o_mul rfl rfl rfl (wrapAny (by simp only [inKind]; omega)) ?_|refine o_quo rfl rfl rfl (by omega) (by omega) (wrapAny (by simp only [inKind]; omega)) ?_|refine o_rem rfl rfl rfl (by omega) (by omega) ?_|refine o_any rfl rfl ?_) |(refine gV ?_; refine o_conv rfl rfl (wrapAny (by simp only [inKind]; omega)) ?_) |(refine gL ?_; refine o_load1R rfl rfl (by assumption) rfl rfl ?_) |(refine gN ?_; refine o_loadNR rfl rfl (by assumption) rfl (by first|exact Nat.le_of_ble_eq_true rfl|(simp; done)|omega) rfl ?_) |(refine gS ?_; refine o_storeR rfl rfl rfl rfl rfl (by assumption) (by first|exact Nat.le_of_ble_eq_true rfl|(simp; done)|omega) ?_) |refine o_anyX rfl rfl rfl ?_ |refine o_anyN rfl rfl ?_) |(show wp _ _ _ _ _; first |refine w_opsS ?_ |refine w_ops ?_ |(refine gW ?_; first|refine w_condY rfl (by first|rfl|assumption|exact y1 (by omega)|exact y3 (by omega)|exact y5 (by omega)) ?_|refine w_condN rfl (by first|rfl|assumption|exact y2 (by omega)|exact y4 (by omega)|exact y6 (by omega)) ?_) |refine w_seq ?_ |refine w_opsX ?_ |refine w_block ?_ |refine w_exit ?_ |refine w_ret ?_ |refine w_skip ?_))
    refine o_ixV rfl rfl rfl ⟨by omega, by omega⟩ ?_
    refine o_load1 rfl rfl (by rw [Int.toNat_natCast]; exact hrd) ?_
    by_cases he : l[j] = (i : Int)
    · rw [if_pos he] at hth
      rw [he]
      repeat (first |((with_reducible show wpO _ _ _ _ _); first |refine o_mv rfl rfl ?_ |refine o_lenV rfl rfl ?_ |refine o_ext rfl rfl rfl ?_ |refine o_nil ?_ |(refine gG ?_; first|refine o_gdY rfl (by first|rfl|assumption|exact y1 (by omega)|exact y2 (by omega)|exact y3 (by omega)|exact y4 (by omega)|exact y5 (by omega)|exact y6 (by omega)) ?_|refine o_gdN rfl (by first|rfl|assumption|exact y1 (by omega)|exact y2 (by omega)|exact y3 (by omega)|exact y4 (by omega)|exact y5 (by omega)|exact y6 (by omega)) ?_|refine o_pass rfl ?_|refine o_passN rfl ?_) |(refine gP ?_; first|refine o_pickY rfl rfl (by first|rfl|assumption|exact y1 (by omega)|exact y3 (by omega)|exact y5 (by omega)) rfl ?_|refine o_pickN rfl rfl (by first|rfl|assumption|exact y2 (by omega)|exact y4 (by omega)|exact y6 (by omega)) rfl ?_) |(refine gA ?_; first|refine o_add rfl rfl rfl (wrapAny (by simp only [inKind]; omega)) ?_|refine o_sub rfl rfl rfl (wrapAny (by simp only [inKind]; omega)) ?_|refine o_mul rfl rfl rfl (wrapAny (by simp only [inKind]; omega)) ?_|refine o_quo rfl rfl rfl (by omega) (by omega) (wrapAny (by simp only [inKind]; omega)) ?_|refine o_rem rfl rfl rfl (by omega) (by omega) ?_|refine o_any rfl rfl ?_) |(refine gV ?_; refine o_conv rfl rfl (wrapAny (by simp only [inKind]; omega)) ?_) |(refine gL ?_; refine o_load1R rfl rfl (by assumption) rfl rfl ?_) |(refine gN ?_; refine o_loadNR rfl rfl (by assumption) rfl (by first|exact Nat.le_of_ble_eq_true rfl|(simp; done)|omega) rfl ?_) |(refine gS ?_; refine o_storeR rfl rfl rfl rfl rfl (by assumption) (by first|exact Nat.le_of_ble_eq_true rfl|(simp; done)|omega) ?_) |refine o_anyX rfl rfl rfl ?_ |refine o_anyN rfl rfl ?_) |(show wp _ _ _ _ _; first |refine w_opsS ?_ |refine w_ops ?_ |(refine gW ?_; first|refine w_condY rfl (by first|rfl|assumption|exact y1 (by omega)|exact y3 (by omega)|exact y5 (by omega)) ?_|refine w_condN rfl (by first|rfl|assumption|exact y2 (by omega)|exact y4 (by omega)|exact y6 (by omega)) ?_) |refine w_seq ?_ |refine w_opsX ?_ |refine w_block ?_ |refine w_exit ?_ |refine w_ret ?_ |refine w_skip ?_))
      refine o_app1 (esz := 1) (bytes := 8) (ys := [.int .i64 i]) (cs := (base ++ those (l.take j) i).map (.int .i64)) (vx := vo) rfl rfl Heap.get?_push_new rfl Nat.one_pos (how.le Le.push) (fun m hm => by rw [List.length_map, List.length_append] at hm; omega) ?_
      intro m h2 how2 hn2 hrel
      have hn3 : h2.n = h.n + 2 := hn2
      have hle2 : Le h0 h2 := ⟨by have := hle.1; omega, fun c hc => (hrel.2 c (by have := hle.1; simp [Heap.push]; omega) (fun m k e => by have := hb c m k e; omega)).trans ((Heap.get?_push_old (by have := hle.1; omega)).trans (hle.2 c hc))⟩
      repeat (first |((with_reducible show wpO _ _ _ _ _); first |refine o_mv rfl rfl ?_ |refine o_lenV rfl rfl ?_ |refine o_ext rfl rfl rfl ?_ |refine o_nil ?_ |(refine gG ?_; first|refine o_gdY rfl (by first|rfl|assumption|exact y1 (by omega)|exact y2 (by omega)|exact y3 (by omega)|exact y4 (by omega)|exact y5 (by omega)|exact y6 (by omega)) ?_|refine o_gdN rfl (by first|rfl|assumption|exact y1 (by omega)|exact y2 (by omega)|exact y3 (by omega)|exact y4 (by omega)|exact y5 (by omega)|exact y6 (by omega)) ?_|refine o_pass rfl ?_|refine o_passN rfl ?_) |(refine gP ?_; first|refine o_pickY rfl rfl (by first|rfl|assumption|exact y1 (by omega)|exact y3 (by omega)|exact y5 (by omega)) rfl ?_|refine o_pickN rfl rfl (by first|rfl|assumption|exact y2 (by omega)|exact y4 (by omega)|exact y6 (by omega)) rfl ?_) |(refine gA ?_; first|refine o_add rfl rfl rfl (wrapAny (by simp only [inKind]; omega)) ?_|refine o_sub rfl rfl rfl (wrapAny (by simp only [inKind]; omega)) ?_|refine o_mul rfl rfl rfl (wrapAny (by simp only [inKind]; omega)) ?_|refine o_quo rfl rfl rfl (by omega) (by omega) (wrapAny (by simp only [inKind]; omega)) ?_|refine o_rem rfl rfl rfl (by omega) (by omega) ?_|refine o_any rfl rfl ?_) |(refine gV ?_; refine o_conv rfl rfl (wrapAny (by simp only [inKind]; omega)) ?_) |(refine gL ?_; refine o_load1R rfl rfl (by assumption) rfl rfl ?_) |(refine gN ?_; refine o_loadNR rfl rfl (by assumption) rfl (by first|exact Nat.le_of_ble_eq_true rfl|(simp; done)|omega) rfl ?_) |(refine gS ?_; refine o_storeR rfl rfl rfl rfl rfl (by assumption) (by first|exact Nat.le_of_ble_eq_true rfl|(simp; done)|omega) ?_) |refine o_anyX rfl rfl rfl ?_ |refine o_anyN rfl rfl ?_) |(show wp _ _ _ _ _; first |refine w_opsS ?_ |refine w_ops ?_ |(refine gW ?_; first|refine w_condY rfl (by first|rfl|assumption|exact y1 (by omega)|exact y3 (by omega)|exact y5 (by omega)) ?_|refine w_condN rfl (by first|rfl|assumption|exact y2 (by omega)|exact y4 (by omega)|exact y6 (by omega)) ?_) |refine w_seq ?_ |refine w_opsX ?_ |refine w_block ?_ |refine w_exit ?_ |refine w_ret ?_ |refine w_skip ?_))
      refine rnd_again rfl ?_
      exact ih (j + 1) _ h2 (by omega) hle2 (by rw [hth]; simpa using how2) (fun c m k e => by cases e; have := hle.1; simp [Heap.push]; omega) hQ
    · rw [if_neg he, List.append_nil] at hth
      repeat (first |((with_reducible show wpO _ _ _ _ _); first |refine o_mv rfl rfl ?_ |refine o_lenV rfl rfl ?_ |refine o_ext rfl rfl rfl ?_ |refine o_nil ?_ |(refine gG ?_; first|refine o_gdY rfl (by first|rfl|assumption|exact y1 (by omega)|exact y2 (by omega)|exact y3 (by omega)|exact y4 (by omega)|exact y5 (by omega)|exact y6 (by omega)) ?_|refine o_gdN rfl (by first|rfl|assumption|exact y1 (by omega)|exact y2 (by omega)|exact y3 (by omega)|exact y4 (by omega)|exact y5 (by omega)|exact y6 (by omega)) ?_|refine o_pass rfl ?_|refine o_passN rfl ?_) |(refine gP ?_; first|refine o_pickY rfl rfl (by first|rfl|assumption|exact y1 (by omega)|exact y3 (by omega)|exact y5 (by omega)) rfl ?_|refine o_pickN rfl rfl (by first|rfl|assumption|exact y2 (by omega)|exact y4 (by omega)|exact y6 (by omega)) rfl ?_) |(refine gA ?_; first|refine o_add rfl rfl rfl (wrapAny (by simp only [inKind]; omega)) ?_|refine o_sub rfl rfl rfl (wrapAny (by simp only [inKind]; omega)) ?_|refine o_mul rfl rfl rfl (wrapAny (by simp only [inKind]; omega)) ?_|refine o_quo rfl rfl rfl (by omega) (by omega) (wrapAny (by simp only [inKind]; omega)) ?_|refine o_rem rfl rfl rfl (by omega) (by omega) ?_|refine o_any rfl rfl ?_) |(refine gV ?_; refine o_conv rfl rfl (wrapAny (by simp only [inKind]; omega)) ?_) |(refine gL ?_; refine o_load1R rfl rfl (by assumption) rfl rfl ?_) |(refine gN ?_; refine o_loadNR rfl rfl (by assumption) rfl (by first|exact Nat.le_of_ble_eq_true rfl|(simp; done)|omega) rfl ?_) |(refine gS ?_; refine o_storeR rfl rfl rfl rfl rfl (by assumption) (by first|exact Nat.le_of_ble_eq_true rfl|(simp; done)|omega) ?_) |refine o_anyX rfl rfl rfl ?_ |refine o_anyN rfl rfl ?_) |(show wp _ _ _ _ _; first |refine w_opsS ?_ |refine w_ops ?_ |(refine gW ?_; first|refine w_condY rfl (by first|rfl|assumption|exact y1 (by omega)|exact y3 (by omega)|exact y5 (by omega)) ?_|refine w_condN rfl (by first|rfl|assumption|exact y2 (by omega)|exact y4 (by omega)|exact y6 (by omega)) ?_) |refine w_seq ?_ |refine w_opsX ?_ |refine w_block ?_ |refine w_exit ?_ |refine w_ret ?_ |refine w_skip ?_))
      refine rnd_again rfl ?_
      exact ih (j + 1) _ h (by omega) hle (by rw [hth]; exact how) hb hQ

theorem refPickOut (n q : Nat) (hn : n ≤ 24) (la : Value) (l : List Int) (hq : q ≤ l.length) (hl24 : l.length ≤ 24) (h0 : Heap) (hla : Sl h0 1 la l.length (l.map (.int .i64))) (Q : Ex → Fr → Heap → Prop) : ∀ (d i : Nat) (vo : Value) (h : Heap), i + d = n → Le h0 h → Own h 1 vo ((pickAll (l.take q) i).map (.int .i64)) → (∀ c m k, vo = .slice (some ⟨c, 0, none⟩) m k → h0.n ≤ c) →
    (∀ h' vo' u1 u2 u3, Le h0 h' → Own h' 1 vo' ((pickAll (l.take q) n).map (.int .i64)) → Q (.exit 0) [(31, u1), (30, u2), (29, u3), (1, .int .i64 n), (2, .int .i64 q), (8, la), (10, vo'), (11, .int .i64 n)] h') →
    wpR M [1, 2, 8, 10, 11] c_ref29_Pick_15 Q [(1, .int .i64 n), (2, .int .i64 q), (8, la), (10, vo), (11, .int .i64 i)] h
  | 0, i, vo, h, hi, hle, how, hb, hQ => by
    have : i = n := by omega
    subst this
    refine w_round ?_
    repeat (first |((with_reducible show wpO _ _ _ _ _); first |refine o_mv rfl rfl ?_ |refine o_lenV rfl rfl ?_ |refine o_ext rfl rfl rfl ?_ |refine o_nil ?_ |(refine gG ?_; first|refine o_gdY rfl (by first|rfl|assumption|exact y1 (by omega)|exact y2 (by omega)|exact y3 (by omega)|exact y4 (by omega)|exact y5 (by omega)|exact y6 (by omega)) ?_|refine o_gdN rfl (by first|rfl|assumption|exact y1 (by omega)|exact y2 (by omega)|exact y3 (by omega)|exact y4 (by omega)|exact y5 (by omega)|exact y6 (by omega)) ?_|refine o_pass rfl ?_|refine o_passN rfl ?_) |(refine gP ?_; first|refine o_pickY rfl rfl (by first|rfl|assumption|exact y1 (by omega)|exact y3 (by omega)|exact y5 (by omega)) rfl ?_|refine o_pickN rfl rfl (by first|rfl|assumption|exact y2 (by omega)|exact y4 (by omega)|exact y6 (by omega)) rfl ?_) |(refine gA ?_; first|refine o_add rfl rfl rfl (wrapAny (by simp only [inKind]; omega)) ?_|refine o_sub rfl rfl rfl (wrapAny (by simp only [inKind]; omega)) ?_|refine o_mul rfl rfl rfl (wrapAny (by simp only [inKind]; omega)) ?_|refine o_quo rfl rfl rfl (by omega) (by omega) (wrapAny (by simp only [inKind]; omega)) ?_|refine o_rem rfl rfl rfl (by omega) (by omega) ?_|refine o_any rfl rfl ?_) |(refine gV ?_; refine o_conv rfl rfl (wrapAny (by simp only [inKind]; omega)) ?_) |(refine gL ?_; refine o_load1R rfl rfl (by assumption) rfl rfl ?_) |(refine gN ?_; refine o_loadNR rfl rfl (by assumption) rfl (by first|exact Nat.le_of_ble_eq_true rfl|(simp; done)|omega) rfl ?_) |(refine gS ?_; refine o_storeR rfl rfl rfl rfl rfl (by assumption) (by first|exact Nat.le_of_ble_eq_true rfl|(simp; done)|omega) ?_) |refine o_anyX rfl rfl rfl ?_ |refine o_anyN rfl rfl ?_) |(show wp _ _ _ _ _; first |refine w_opsS ?_ |refine w_ops ?_ |(refine gW ?_; first|refine w_condY rfl (by first|rfl|assumption|exact y1 (by omega)|exact y3 (by omega)|exact y5 (by omega)) ?_|refine w_condN rfl (by first|rfl|assumption|exact y2 (by omega)|exact y4 (by omega)|exact y6 (by omega)) ?_) |refine w_seq ?_ |refine w_opsX ?_ |refine w_block ?_ |refine w_exit ?_ |refine w_ret ?_ |refine w_skip ?_))
    exact hQ h _ _ _ _ hle how
  | d + 1, i, vo, h, hi, hle, how, hb, hQ => by
    have hpl : (pickAll (l.take q) i).length ≤ 600 := by
      have h1 := pickAll_length (l.take q) i
      have h2 : (l.take q).length ≤ 24 := by rw [List.length_take]; omega
      have h3 : i * (l.take q).length ≤ 24 * 24 := Nat.mul_le_mul (by omega) h2
      omega
    refine w_round ?_
    repeat (first |((with_reducible show wpO _ _ _ _ _); first |refine o_mv rfl rfl ?_ |refine o_lenV rfl rfl ?_ |refine o_ext rfl rfl rfl ?_ |refine o_nil ?_ |(refine gG ?_; first|refine o_gdY rfl (by first|rfl|assumption|exact y1 (by omega)|exact y2 (by omega)|exact y3 (by omega)|exact y4 (by omega)|exact y5 (by omega)|exact y6 (by omega)) ?_|refine o_gdN rfl (by first|rfl|assumption|exact y1 (by omega)|exact y2 (by omega)|exact y3 (by omega)|exact y4 (by omega)|exact y5 (by omega)|exact y6 (by omega)) ?_|refine o_pass rfl ?_|refine o_passN rfl ?_) |(refine gP ?_; first|refine o_pickY rfl rfl (by first|rfl|assumption|exact y1 (by omega)|exact y3 (by omega)|exact y5 (by omega)) rfl ?_|refine o_pickN rfl rfl (by first|rfl|assumption|exact y2 (by omega)|exact y4 (by omega)|exact y6 (by omega)) rfl ?_) |(refine gA ?_; first|refine o_add rfl rfl rfl (wrapAny (by simp only [inKind]; omega)) ?_|refine o_sub rfl rfl rfl (wrapAny (by simp only [inKind]; omega)) ?_|refine o_mul rfl rfl rfl (wrapAny (by simp only [inKind]; omega)) ?_|refine o_quo rfl rfl rfl (by omega) (by omega) (wrapAny (by simp only [inKind]; omega)) ?_|refine o_rem rfl rfl rfl (by omega) (by omega) ?_|refine o_any rfl rfl ?_) |(refine gV ?_; refine o_conv rfl rfl (wrapAny (by simp only [inKind]; omega)) ?_) |(refine gL ?_; refine o_load1R rfl rfl (by assumption) rfl rfl ?_) |(refine gN ?_; refine o_loadNR rfl rfl (by assumption) rfl (by first|exact Nat.le_of_ble_eq_true rfl|(simp; done)|omega) rfl ?_) |(refine gS ?_; refine o_storeR rfl rfl rfl rfl rfl (by assumption) (by first|exact Nat.le_of_ble_eq_true rfl|(simp; done)|omega) ?_) |refine o_anyX rfl rfl rfl ?_ |refine o_anyN rfl rfl ?_) |(show wp _ _ _ _ _; first |refine w_opsS ?_ |refine w_ops ?_ |(refine gW ?_; first|refine w_condY rfl (by first|rfl|assumption|exact y1 (by omega)|exact y3 (by omega)|exact y5 (by omega)) ?_|refine w_condN rfl (by first|rfl|assumption|exact y2 (by omega)|exact y4 (by omega)|exact y6 (by omega)) ?_) |refine w_seq ?_ |refine w_opsX ?_ |refine w_block ?_ |refine w_exit ?_ |refine w_ret ?_ |refine w_skip ?_))
    refine w_loop rfl ?_
    refine refPickIn hp hf n q la l hq hl24 i h0 hla (pickAll (l.take q) i) hpl _ q 0 vo h (by omega) hle (by simpa [those] using how) hb ?_
    intro h1 vo1 u1 u2 u3 hle1 how1 hb1
    repeat (first |((with_reducible show wpO _ _ _ _ _); first |refine o_mv rfl rfl ?_ |refine o_lenV rfl rfl ?_ |refine o_ext rfl rfl rfl ?_ |refine o_nil ?_ |(refine gG ?_; first|refine o_gdY rfl (by first|rfl|assumption|exact y1 (by omega)|exact y2 (by omega)|exact y3 (by omega)|exact y4 (by omega)|exact y5 (by omega)|exact y6 (by omega)) ?_|refine o_gdN rfl (by first|rfl|assumption|exact y1 (by omega)|exact y2 (by omega)|exact y3 (by omega)|exact y4 (by omega)|exact y5 (by omega)|exact y6 (by omega)) ?_|refine o_pass rfl ?_|refine o_passN rfl ?_) |(refine gP ?_; first|refine o_pickY rfl rfl (by first|rfl|assumption|exact y1 (by omega)|exact y3 (by omega)|exact y5 (by omega)) rfl ?_|refine o_pickN rfl rfl (by first|rfl|assumption|exact y2 (by omega)|exact y4 (by omega)|exact y6 (by omega)) rfl ?_) |(refine gA ?_; first|refine o_add rfl rfl rfl (wrapAny (by simp only [inKind]; omega)) ?_|refine o_sub rfl rfl rfl (wrapAny (by simp only [inKind]; omega)) ?_|refine o_mul rfl rfl rfl (wrapAny (by simp only [inKind]; omega)) ?_|refine o_quo rfl rfl rfl (by omega) (by omega) (wrapAny (by simp only [inKind]; omega)) ?_|refine o_rem rfl rfl rfl (by omega) (by omega) ?_|refine o_any rfl rfl ?_) |(refine gV ?_; refine o_conv rfl rfl (wrapAny (by simp only [inKind]; omega)) ?_) |(refine gL ?_; refine o_load1R rfl rfl (by assumption) rfl rfl ?_) |(refine gN ?_; refine o_loadNR rfl rfl (by assumption) rfl (by first|exact Nat.le_of_ble_eq_true rfl|(simp; done)|omega) rfl ?_) |(refine gS ?_; refine o_storeR rfl rfl rfl rfl rfl (by assumption) (by first|exact Nat.le_of_ble_eq_true rfl|(simp; done)|omega) ?_) |refine o_anyX rfl rfl rfl ?_ |refine o_anyN rfl rfl ?_) |(show wp _ _ _ _ _; first |refine w_opsS ?_ |refine w_ops ?_ |(refine gW ?_; first|refine w_condY rfl (by first|rfl|assumption|exact y1 (by omega)|exact y3 (by omega)|exact y5 (by omega)) ?_|refine w_condN rfl (by first|rfl|assumption|exact y2 (by omega)|exact y4 (by omega)|exact y6 (by omega)) ?_) |refine w_seq ?_ |refine w_opsX ?_ |refine w_block ?_ |refine w_exit ?_ |refine w_ret ?_ |refine w_skip ?_))
    refine rnd_again rfl ?_
    exact refPickOut n q hn la l hq hl24 h0 hla Q d (i + 1) vo1 h1 (by omega) hle1 how1 hb1 hQ

theorem refPickBad (k : Nat → Int) (n q : Int) (hq : q < 0 ∨ n < q) (h : Heap) : Cl M F_ref29_Pick [.agg (keyL k).toArray, .int .i64 n, .int .i64 q] h fun v h' => v = .tuple #[.slice none 0 0, .int .i64 1] ∧ Le h h' := by
  refine w_call (F := M_ref29_Pick) (by rw [hf]; rfl) rfl ?_
  by_cases h0 : q < 0
  · repeat (first |((with_reducible show wpO _ _ _ _ _); first |refine o_mv rfl rfl ?_ |refine o_lenV rfl rfl ?_ |refine o_ext rfl rfl rfl ?_ |refine o_nil ?_ |(refine gG ?_; first|refine o_gdY rfl (by first|rfl|assumption|exact y1 (by omega)|exact y2 (by omega)|exact y3 (by omega)|exact y4 (by omega)|exact y5 (by omega)|exact y6 (by omega)) ?_|refine o_gdN rfl (by first|rfl|assumption|exact y1 (by omega)|exact y2 (by omega)|exact y3 (by omega)|exact y4 (by omega)|exact y5 (by omega)|exact y6 (by omega)) ?_|refine o_pass rfl ?_|refine o_passN rfl ?_) |(refine gP ?_; first|refine o_pickY rfl rfl (by first|rfl|assumption|exact y1 (by omega)|exact y3 (by omega)|exact y5 (by omega)) rfl ?_|refine o_pickN rfl rfl (by first|rfl|assumption|exact y2 (by omega)|exact y4 (by omega)|exact y6 (by omega)) rfl ?_) |(refine gA ?_; first|refine o_add rfl rfl rfl (wrapAny (by simp only [inKind]; omega)) ?_|refine o_sub rfl rfl rfl (wrapAny (by simp only [inKind]; omega)) ?_|refine o_mul rfl rfl rfl (wrapAny (by simp only [inKind]; omega)) ?_|refine o_quo rfl rfl rfl (by omega) (by omega) (wrapAny (by simp only [inKind]; omega)) ?_|refine o_rem rfl rfl rfl (by omega) (by omega) ?_|refine o_any rfl rfl ?_) |(refine gV ?_; refine o_conv rfl rfl (wrapAny (by simp only [inKind]; omega)) ?_) |(refine gL ?_; refine o_load1R rfl rfl (by assumption) rfl rfl ?_) |(refine gN ?_; refine o_loadNR rfl rfl (by assumption) rfl (by first|exact Nat.le_of_ble_eq_true rfl|(simp; done)|omega) rfl ?_) |(refine gS ?_; refine o_storeR rfl rfl rfl rfl rfl (by assumption) (by first|exact Nat.le_of_ble_eq_true rfl|(simp; done)|omega) ?_) |refine o_anyX rfl rfl rfl ?_ |refine o_anyN rfl rfl ?_) |(show wp _ _ _ _ _; first |refine w_opsS ?_ |refine w_ops ?_ |(refine gW ?_; first|refine w_condY rfl (by first|rfl|assumption|exact y1 (by omega)|exact y3 (by omega)|exact y5 (by omega)) ?_|refine w_condN rfl (by first|rfl|assumption|exact y2 (by omega)|exact y4 (by omega)|exact y6 (by omega)) ?_) |refine w_seq ?_ |refine w_opsX ?_ |refine w_block ?_ |refine w_exit ?_ |refine w_ret ?_ |refine w_skip ?_))
    exact ⟨.inr rfl, _, rfl, rfl, Le.push⟩
  · have h1 : n < q := by omega
    repeat (first |((with_reducible show wpO _ _ _ _ _); first |refine o_mv rfl rfl ?_ |refine o_lenV rfl rfl ?_ |refine o_ext rfl rfl rfl ?_ |refine o_nil ?_ |(refine gG ?_; first|refine o_gdY rfl (by first|rfl|assumption|exact y1 (by omega)|exact y2 (by omega)|exact y3 (by omega)|exact y4 (by omega)|exact y5 (by omega)|exact y6 (by omega)) ?_|refine o_gdN rfl (by first|rfl|assumption|exact y1 (by omega)|exact y2 (by omega)|exact y3 (by omega)|exact y4 (by omega)|exact y5 (by omega)|exact y6 (by omega)) ?_|refine o_pass rfl ?_|refine o_passN rfl ?_) |(refine gP ?_; first|refine o_pickY rfl rfl (by first|rfl|assumption|exact y1 (by omega)|exact y3 (by omega)|exact y5 (by omega)) rfl ?_|refine o_pickN rfl rfl (by first|rfl|assumption|exact y2 (by omega)|exact y4 (by omega)|exact y6 (by omega)) rfl ?_) |(refine gA ?_; first|refine o_add rfl rfl rfl (wrapAny (by simp only [inKind]; omega)) ?_|refine o_sub rfl rfl rfl (wrapAny (by simp only [inKind]; omega)) ?_|refine o_mul rfl rfl rfl (wrapAny (by simp only [inKind]; omega)) ?_|refine o_quo rfl rfl rfl (by omega) (by omega) (wrapAny (by simp only [inKind]; omega)) ?_|refine o_rem rfl rfl rfl (by omega) (by omega) ?_|refine o_any rfl rfl ?_) |(refine gV ?_; refine o_conv rfl rfl (wrapAny (by simp only [inKind]; omega)) ?_) |(refine gL ?_; refine o_load1R rfl rfl (by assumption) rfl rfl ?_) |(refine gN ?_; refine o_loadNR rfl rfl (by assumption) rfl (by first|exact Nat.le_of_ble_eq_true rfl|(simp; done)|omega) rfl ?_) |(refine gS ?_; refine o_storeR rfl rfl rfl rfl rfl (by assumption) (by first|exact Nat.le_of_ble_eq_true rfl|(simp; done)|omega) ?_) |refine o_anyX rfl rfl rfl ?_ |refine o_anyN rfl rfl ?_) |(show wp _ _ _ _ _; first |refine w_opsS ?_ |refine w_ops ?_ |(refine gW ?_; first|refine w_condY rfl (by first|rfl|assumption|exact y1 (by omega)|exact y3 (by omega)|exact y5 (by omega)) ?_|refine w_condN rfl (by first|rfl|assumption|exact y2 (by omega)|exact y4 (by omega)|exact y6 (by omega)) ?_) |refine w_seq ?_ |refine w_opsX ?_ |refine w_block ?_ |refine w_exit ?_ |refine w_ret ?_ |refine w_skip ?_))
    exact ⟨.inr rfl, _, rfl, rfl, Le.push⟩
theorem refPickLimit (k : Nat → Int) (n q : Int) (hn : 24 < n) (hq : 0 ≤ q ∧ q ≤ n) (h : Heap) : Cl M F_ref29_Pick [.agg (keyL k).toArray, .int .i64 n, .int .i64 q] h fun v h' => v = .tuple #[.slice none 0 0, .int .i64 2] ∧ Le h h' := by
  refine w_call (F := M_ref29_Pick) (by rw [hf]; rfl) rfl ?_
  have hg : (h.push (.rw (keyL k))).get? h.n = some (.rw (keyL k)) := Heap.get?_push_new
  repeat (first |((with_reducible show wpO _ _ _ _ _); first |refine o_mv rfl rfl ?_ |refine o_lenV rfl rfl ?_ |refine o_ext rfl rfl rfl ?_ |refine o_nil ?_ |(refine gG ?_; first|refine o_gdY rfl (by first|rfl|assumption|exact y1 (by omega)|exact y2 (by omega)|exact y3 (by omega)|exact y4 (by omega)|exact y5 (by omega)|exact y6 (by omega)) ?_|refine o_gdN rfl (by first|rfl|assumption|exact y1 (by omega)|exact y2 (by omega)|exact y3 (by omega)|exact y4 (by omega)|exact y5 (by omega)|exact y6 (by omega)) ?_|refine o_pass rfl ?_|refine o_passN rfl ?_) |(refine gP ?_; first|refine o_pickY rfl rfl (by first|rfl|assumption|exact y1 (by omega)|exact y3 (by omega)|exact y5 (by omega)) rfl ?_|refine o_pickN rfl rfl (by first|rfl|assumption|exact y2 (by omega)|exact y4 (by omega)|exact y6 (by omega)) rfl ?_) |(refine gA ?_; first|refine o_add rfl rfl rfl (wrapAny (by simp only [inKind]; omega)) ?_|refine o_sub rfl rfl rfl (wrapAny (by simp only [inKind]; omega)) ?_|refine o_mul rfl rfl rfl (wrapAny (by simp only [inKind]; omega)) ?_|refine o_quo rfl rfl rfl (by omega) (by omega) (wrapAny (by simp only [inKind]; omega)) ?_|refine o_rem rfl rfl rfl (by omega) (by omega) ?_|refine o_any rfl rfl ?_) |(refine gV ?_; refine o_conv rfl rfl (wrapAny (by simp only [inKind]; omega)) ?_) |(refine gL ?_; refine o_load1R rfl rfl (by assumption) rfl rfl ?_) |(refine gN ?_; refine o_loadNR rfl rfl (by assumption) rfl (by first|exact Nat.le_of_ble_eq_true rfl|(simp; done)|omega) rfl ?_) |(refine gS ?_; refine o_storeR rfl rfl rfl rfl rfl (by assumption) (by first|exact Nat.le_of_ble_eq_true rfl|(simp; done)|omega) ?_) |refine o_anyX rfl rfl rfl ?_ |refine o_anyN rfl rfl ?_) |(show wp _ _ _ _ _; first |refine w_opsS ?_ |refine w_ops ?_ |(refine gW ?_; first|refine w_condY rfl (by first|rfl|assumption|exact y1 (by omega)|exact y3 (by omega)|exact y5 (by omega)) ?_|refine w_condN rfl (by first|rfl|assumption|exact y2 (by omega)|exact y4 (by omega)|exact y6 (by omega)) ?_) |refine w_seq ?_ |refine w_opsX ?_ |refine w_block ?_ |refine w_exit ?_ |refine w_ret ?_ |refine w_skip ?_))
  refine o_call rfl rfl (refShuffleBad hp hf k n (.inr hn) _) ?_
  rintro v h' ⟨rfl, hle⟩
  repeat (first |((with_reducible show wpO _ _ _ _ _); first |refine o_mv rfl rfl ?_ |refine o_lenV rfl rfl ?_ |refine o_ext rfl rfl rfl ?_ |refine o_nil ?_ |(refine gG ?_; first|refine o_gdY rfl (by first|rfl|assumption|exact y1 (by omega)|exact y2 (by omega)|exact y3 (by omega)|exact y4 (by omega)|exact y5 (by omega)|exact y6 (by omega)) ?_|refine o_gdN rfl (by first|rfl|assumption|exact y1 (by omega)|exact y2 (by omega)|exact y3 (by omega)|exact y4 (by omega)|exact y5 (by omega)|exact y6 (by omega)) ?_|refine o_pass rfl ?_|refine o_passN rfl ?_) |(refine gP ?_; first|refine o_pickY rfl rfl (by first|rfl|assumption|exact y1 (by omega)|exact y3 (by omega)|exact y5 (by omega)) rfl ?_|refine o_pickN rfl rfl (by first|rfl|assumption|exact y2 (by omega)|exact y4 (by omega)|exact y6 (by omega)) rfl ?_) |(refine gA ?_; first|refine o_add rfl rfl rfl (wrapAny (by simp only [inKind]; omega)) ?_|refine o_sub rfl rfl rfl (wrapAny (by simp only [inKind]; omega)) ?_|refine o_mul rfl rfl rfl (wrapAny (by simp only [inKind]; omega)) ?_|refine o_quo rfl rfl rfl (by omega) (by omega) (wrapAny (by simp only [inKind]; omega)) ?_|refine o_rem rfl rfl rfl (by omega) (by omega) ?_|refine o_any rfl rfl ?_) |(refine gV ?_; refine o_conv rfl rfl (wrapAny (by simp only [inKind]; omega)) ?_) |(refine gL ?_; refine o_load1R rfl rfl (by assumption) rfl rfl ?_) |(refine gN ?_; refine o_loadNR rfl rfl (by assumption) rfl (by first|exact Nat.le_of_ble_eq_true rfl|(simp; done)|omega) rfl ?_) |(refine gS ?_; refine o_storeR rfl rfl rfl rfl rfl (by assumption) (by first|exact Nat.le_of_ble_eq_true rfl|(simp; done)|omega) ?_) |refine o_anyX rfl rfl rfl ?_ |refine o_anyN rfl rfl ?_) |(show wp _ _ _ _ _; first |refine w_opsS ?_ |refine w_ops ?_ |(refine gW ?_; first|refine w_condY rfl (by first|rfl|assumption|exact y1 (by omega)|exact y3 (by omega)|exact y5 (by omega)) ?_|refine w_condN rfl (by first|rfl|assumption|exact y2 (by omega)|exact y4 (by omega)|exact y6 (by omega)) ?_) |refine w_seq ?_ |refine w_opsX ?_ |refine w_block ?_ |refine w_exit ?_ |refine w_ret ?_ |refine w_skip ?_))
  exact ⟨.inr rfl, _, rfl, rfl, Le.push.trans hle⟩
theorem refPickC (k : Nat → Int) (n q : Nat) (hn : n ≤ 24) (hq : q ≤ n) (h : Heap) : Cl M F_ref29_Pick [.agg (keyL k).toArray, .int .i64 n, .int .i64 q] h fun v h' => Le h h' ∧
      ((shufN (WT k) (n - 1) (iota n) 0 = none ∧ v = .tuple #[.slice none 0 0, .int .i64 24]) ∨ ∃ l va, shufN (WT k) (n - 1) (iota n) 0 = some l ∧ v = .tuple #[va, .int .i64 0] ∧ Sl h' 1 va q ((isort (l.take q)).map (.int .i64))) := by
  refine w_call (F := M_ref29_Pick) (by rw [hf]; rfl) rfl ?_
  have hg : (h.push (.rw (keyL k))).get? h.n = some (.rw (keyL k)) := Heap.get?_push_new
  repeat (first |((with_reducible show wpO _ _ _ _ _); first |refine o_mv rfl rfl ?_ |refine o_lenV rfl rfl ?_ |refine o_ext rfl rfl rfl ?_ |refine o_nil ?_ |(refine gG ?_; first|refine o_gdY rfl (by first|rfl|assumption|exact y1 (by omega)|exact y2 (by omega)|exact y3 (by omega)|exact y4 (by omega)|exact y5 (by omega)|exact y6 (by omega)) ?_|refine o_gdN rfl (by first|rfl|assumption|exact y1 (by omega)|exact y2 (by omega)|exact y3 (by omega)|exact y4 (by omega)|exact y5 (by omega)|exact y6 (by omega)) ?_|refine o_pass rfl ?_|refine o_passN rfl ?_) |(refine gP ?_; first|refine o_pickY rfl rfl (by first|rfl|assumption|exact y1 (by omega)|exact y3 (by omega)|exact y5 (by omega)) rfl ?_|refine o_pickN rfl rfl (by first|rfl|assumption|exact y2 (by omega)|exact y4 (by omega)|exact y6 (by omega)) rfl ?_) |(refine gA ?_; first|refine o_add rfl rfl rfl (wrapAny (by simp only [inKind]; omega)) ?_|refine o_sub rfl rfl rfl (wrapAny (by simp only [inKind]; omega)) ?_|refine o_mul rfl rfl rfl (wrapAny (by simp only [inKind]; omega)) ?_|refine o_quo rfl rfl rfl (by omega) (by omega) (wrapAny (by simp only [inKind]; omega)) ?_|refine o_rem rfl rfl rfl (by omega) (by omega) ?_|refine o_any rfl rfl ?_) |(refine gV ?_; refine o_conv rfl rfl (wrapAny (by simp only [inKind]; omega)) ?_) |(refine gL ?_; refine o_load1R rfl rfl (by assumption) rfl rfl ?_) |(refine gN ?_; refine o_loadNR rfl rfl (by assumption) rfl (by first|exact Nat.le_of_ble_eq_true rfl|(simp; done)|omega) rfl ?_) |(refine gS ?_; refine o_storeR rfl rfl rfl rfl rfl (by assumption) (by first|exact Nat.le_of_ble_eq_true rfl|(simp; done)|omega) ?_) |refine o_anyX rfl rfl rfl ?_ |refine o_anyN rfl rfl ?_) |(show wp _ _ _ _ _; first |refine w_opsS ?_ |refine w_ops ?_ |(refine gW ?_; first|refine w_condY rfl (by first|rfl|assumption|exact y1 (by omega)|exact y3 (by omega)|exact y5 (by omega)) ?_|refine w_condN rfl (by first|rfl|assumption|exact y2 (by omega)|exact y4 (by omega)|exact y6 (by omega)) ?_) |refine w_seq ?_ |refine w_opsX ?_ |refine w_block ?_ |refine w_exit ?_ |refine w_ret ?_ |refine w_skip ?_))
  refine o_call rfl rfl (refShuffleC hp hf k n hn _) ?_
  rintro v h1 ⟨hle, H⟩
  rcases H with ⟨hn0, rfl⟩ | ⟨l, la, hl, rfl, hla⟩
  · repeat (first |((with_reducible show wpO _ _ _ _ _); first |refine o_mv rfl rfl ?_ |refine o_lenV rfl rfl ?_ |refine o_ext rfl rfl rfl ?_ |refine o_nil ?_ |(refine gG ?_; first|refine o_gdY rfl (by first|rfl|assumption|exact y1 (by omega)|exact y2 (by omega)|exact y3 (by omega)|exact y4 (by omega)|exact y5 (by omega)|exact y6 (by omega)) ?_|refine o_gdN rfl (by first|rfl|assumption|exact y1 (by omega)|exact y2 (by omega)|exact y3 (by omega)|exact y4 (by omega)|exact y5 (by omega)|exact y6 (by omega)) ?_|refine o_pass rfl ?_|refine o_passN rfl ?_) |(refine gP ?_; first|refine o_pickY rfl rfl (by first|rfl|assumption|exact y1 (by omega)|exact y3 (by omega)|exact y5 (by omega)) rfl ?_|refine o_pickN rfl rfl (by first|rfl|assumption|exact y2 (by omega)|exact y4 (by omega)|exact y6 (by omega)) rfl ?_) |(refine gA ?_; first|refine o_add rfl rfl rfl (wrapAny (by simp only [inKind]; omega)) ?_|refine o_sub rfl rfl rfl (wrapAny (by simp only [inKind]; omega)) ?_|refine o_mul rfl rfl rfl (wrapAny (by simp only [inKind]; omega)) ?_|refine o_quo rfl rfl rfl (by omega) (by omega) (wrapAny (by simp only [inKind]; omega)) ?_|refine o_rem rfl rfl rfl (by omega) (by omega) ?_|refine o_any rfl rfl ?_) |(refine gV ?_; refine o_conv rfl rfl (wrapAny (by simp only [inKind]; omega)) ?_) |(refine gL ?_; refine o_load1R rfl rfl (by assumption) rfl rfl ?_) |(refine gN ?_; refine o_loadNR rfl rfl (by assumption) rfl (by first|exact Nat.le_of_ble_eq_true rfl|(simp; done)|omega) rfl ?_) |(refine gS ?_; refine o_storeR rfl rfl rfl rfl rfl (by assumption) (by first|exact Nat.le_of_ble_eq_true rfl|(simp; done)|omega) ?_) |refine o_anyX rfl rfl rfl ?_ |refine o_anyN rfl rfl ?_) |(show wp _ _ _ _ _; first |refine w_opsS ?_ |refine w_ops ?_ |(refine gW ?_; first|refine w_condY rfl (by first|rfl|assumption|exact y1 (by omega)|exact y3 (by omega)|exact y5 (by omega)) ?_|refine w_condN rfl (by first|rfl|assumption|exact y2 (by omega)|exact y4 (by omega)|exact y6 (by omega)) ?_) |refine w_seq ?_ |refine w_opsX ?_ |refine w_block ?_ |refine w_exit ?_ |refine w_ret ?_ |refine w_skip ?_))
    exact ⟨.inr rfl, _, rfl, Le.push.trans hle, .inl ⟨hn0, rfl⟩⟩
  · have hll : l.length = n := by rw [shufN_length _ _ _ _ _ hl, iota_length]
    have hper : l.Perm (iota n) := shufN_perm _ _ _ _ _ (by rw [iota_length]; omega) hl
    have hin : ∀ x ∈ l.take q, 0 ≤ x ∧ x < n := fun x hx => mem_iota.1 (hper.mem_iff.1 (List.mem_of_mem_take hx))
    rw [← hll] at hla
    repeat (first |((with_reducible show wpO _ _ _ _ _); first |refine o_mv rfl rfl ?_ |refine o_lenV rfl rfl ?_ |refine o_ext rfl rfl rfl ?_ |refine o_nil ?_ |(refine gG ?_; first|refine o_gdY rfl (by first|rfl|assumption|exact y1 (by omega)|exact y2 (by omega)|exact y3 (by omega)|exact y4 (by omega)|exact y5 (by omega)|exact y6 (by omega)) ?_|refine o_gdN rfl (by first|rfl|assumption|exact y1 (by omega)|exact y2 (by omega)|exact y3 (by omega)|exact y4 (by omega)|exact y5 (by omega)|exact y6 (by omega)) ?_|refine o_pass rfl ?_|refine o_passN rfl ?_) |(refine gP ?_; first|refine o_pickY rfl rfl (by first|rfl|assumption|exact y1 (by omega)|exact y3 (by omega)|exact y5 (by omega)) rfl ?_|refine o_pickN rfl rfl (by first|rfl|assumption|exact y2 (by omega)|exact y4 (by omega)|exact y6 (by omega)) rfl ?_) |(refine gA ?_; first|refine o_add rfl rfl rfl (wrapAny (by simp only [inKind]; omega)) ?_|refine o_sub rfl rfl rfl (wrapAny (by simp only [inKind]; omega)) ?_|refine o_mul rfl rfl rfl (wrapAny (by simp only [inKind]; omega)) ?_|refine o_quo rfl rfl rfl (by omega) (by omega) (wrapAny (by simp only [inKind]; omega)) ?_|refine o_rem rfl rfl rfl (by omega) (by omega) ?_|refine o_any rfl rfl ?_) |(refine gV ?_; refine o_conv rfl rfl (wrapAny (by simp only [inKind]; omega)) ?_) |(refine gL ?_; refine o_load1R rfl rfl (by assumption) rfl rfl ?_) |(refine gN ?_; refine o_loadNR rfl rfl (by assumption) rfl (by first|exact Nat.le_of_ble_eq_true rfl|(simp; done)|omega) rfl ?_) |(refine gS ?_; refine o_storeR rfl rfl rfl rfl rfl (by assumption) (by first|exact Nat.le_of_ble_eq_true rfl|(simp; done)|omega) ?_) |refine o_anyX rfl rfl rfl ?_ |refine o_anyN rfl rfl ?_) |(show wp _ _ _ _ _; first |refine w_opsS ?_ |refine w_ops ?_ |(refine gW ?_; first|refine w_condY rfl (by first|rfl|assumption|exact y1 (by omega)|exact y3 (by omega)|exact y5 (by omega)) ?_|refine w_condN rfl (by first|rfl|assumption|exact y2 (by omega)|exact y4 (by omega)|exact y6 (by omega)) ?_) |refine w_seq ?_ |refine w_opsX ?_ |refine w_block ?_ |refine w_exit ?_ |refine w_ret ?_ |refine w_skip ?_))
    refine w_loop rfl ?_
    refine refPickOut hp hf n q hn la l (by omega) (by omega) h1 hla _ n 0 _ h1 (by omega) Le.refl Own.nil (fun c m k e => by cases e) ?_
    intro h2 vo u1 u2 u3 hle2 how
    repeat (first |((with_reducible show wpO _ _ _ _ _); first |refine o_mv rfl rfl ?_ |refine o_lenV rfl rfl ?_ |refine o_ext rfl rfl rfl ?_ |refine o_nil ?_ |(refine gG ?_; first|refine o_gdY rfl (by first|rfl|assumption|exact y1 (by omega)|exact y2 (by omega)|exact y3 (by omega)|exact y4 (by omega)|exact y5 (by omega)|exact y6 (by omega)) ?_|refine o_gdN rfl (by first|rfl|assumption|exact y1 (by omega)|exact y2 (by omega)|exact y3 (by omega)|exact y4 (by omega)|exact y5 (by omega)|exact y6 (by omega)) ?_|refine o_pass rfl ?_|refine o_passN rfl ?_) |(refine gP ?_; first|refine o_pickY rfl rfl (by first|rfl|assumption|exact y1 (by omega)|exact y3 (by omega)|exact y5 (by omega)) rfl ?_|refine o_pickN rfl rfl (by first|rfl|assumption|exact y2 (by omega)|exact y4 (by omega)|exact y6 (by omega)) rfl ?_) |(refine gA ?_; first|refine o_add rfl rfl rfl (wrapAny (by simp only [inKind]; omega)) ?_|refine o_sub rfl rfl rfl (wrapAny (by simp only [inKind]; omega)) ?_|refine o_mul rfl rfl rfl (wrapAny (by simp only [inKind]; omega)) ?_|refine o_quo rfl rfl rfl (by omega) (by omega) (wrapAny (by simp only [inKind]; omega)) ?_|refine o_rem rfl rfl rfl (by omega) (by omega) ?_|refine o_any rfl rfl ?_) |(refine gV ?_; refine o_conv rfl rfl (wrapAny (by simp only [inKind]; omega)) ?_) |(refine gL ?_; refine o_load1R rfl rfl (by assumption) rfl rfl ?_) |(refine gN ?_; refine o_loadNR rfl rfl (by assumption) rfl (by first|exact Nat.le_of_ble_eq_true rfl|(simp; done)|omega) rfl ?_) |(refine gS ?_; refine o_storeR rfl rfl rfl rfl rfl (by assumption) (by first|exact Nat.le_of_ble_eq_true rfl|(simp; done)|omega) ?_) |refine o_anyX rfl rfl rfl ?_ |refine o_anyN rfl rfl ?_) |(show wp _ _ _ _ _; first |refine w_opsS ?_ |refine w_ops ?_ |(refine gW ?_; first|refine w_condY rfl (by first|rfl|assumption|exact y1 (by omega)|exact y3 (by omega)|exact y5 (by omega)) ?_|refine w_condN rfl (by first|rfl|assumption|exact y2 (by omega)|exact y4 (by omega)|exact y6 (by omega)) ?_) |refine w_seq ?_ |refine w_opsX ?_ |refine w_block ?_ |refine w_exit ?_ |refine w_ret ?_ |refine w_skip ?_))
    refine ⟨.inr rfl, _, rfl, (Le.push.trans hle).trans hle2, .inr ⟨l, vo, hl, rfl, ?_⟩⟩
    rw [pickAll_isort hin] at how
    obtain ⟨m, hm, hsl⟩ := how.sl
    have : m = q := by
      rw [List.length_map, (isort_perm _).length_eq, List.length_take] at hm; omega
    subst this
    exact hsl
end
end Go.Proofs.Ytboioafflppnfaa

/- Lists of numbers, the same? Conditions: none. -/
namespace Go.Proofs.Ytboioafflppnfaa
open Go.Cm
set_option linter.unusedVariables false
set_option linter.unusedSimpArgs false
set_option linter.unusedSectionVars false
set_option maxRecDepth 100000
set_option maxHeartbeats 10000000

section
variable {M : Prg} (hf : M.fn = lookF tab)
include hf

theorem intsLoop {h : Heap} {Q : Ex → Fr → Heap → Prop} (va vb : Value) (la lb : List Int) (hl : la.length = lb.length) (hn : la.length < 4611686018427387904) (ha : Sl h 1 va la.length (la.map (.int .i64))) (hb : Sl h 1 vb lb.length (lb.map (.int .i64)))
    (ht : la = lb → ∀ u1 u2 u3 u4, Q (.exit 0) [(14, u1), (13, u2), (12, u3), (11, u4), (0, va), (1, vb), (5, .int .i64 la.length)] h) (hff : la ≠ lb → ∀ f, f.look 4 = some (.bool false) → Q .ret f h) : ∀ (d i : Nat), i + d = la.length → (∀ j, j < i → la[j]? = lb[j]?) →
    wpR M [0, 1, 5] c_ref01_Ints_9 Q [(0, va), (1, vb), (5, .int .i64 i)] h
  | 0, i, hi, hj => by
    have : i = la.length := by omega
    subst this
    obtain ⟨a, ca, rfl⟩ := ha.val
    obtain ⟨b, cb, rfl⟩ := hb.val
    refine w_round ?_
    repeat (first |((with_reducible show wpO _ _ _ _ _); first |refine o_mv rfl rfl ?_ |refine o_lenV rfl rfl ?_ |refine o_ext rfl rfl rfl ?_ |refine o_nil ?_ |(refine gG ?_; first|refine o_gdY rfl (by first|rfl|assumption|exact y1 (by omega)|exact y2 (by omega)|exact y3 (by omega)|exact y4 (by omega)|exact y5 (by omega)|exact y6 (by omega)) ?_|refine o_gdN rfl (by first|rfl|assumption|exact y1 (by omega)|exact y2 (by omega)|exact y3 (by omega)|exact y4 (by omega)|exact y5 (by omega)|exact y6 (by omega)) ?_|refine o_pass rfl ?_|refine o_passN rfl ?_) |(refine gP ?_; first|refine o_pickY rfl rfl (by first|rfl|assumption|exact y1 (by omega)|exact y3 (by omega)|exact y5 (by omega)) rfl ?_|refine o_pickN rfl rfl (by first|rfl|assumption|exact y2 (by omega)|exact y4 (by omega)|exact y6 (by omega)) rfl ?_) |(refine gA ?_; first|refine o_add rfl rfl rfl (wrapAny (by simp only [inKind]; omega)) ?_|refine o_sub rfl rfl rfl (wrapAny (by simp only [inKind]; omega)) ?_|refine o_mul rfl rfl rfl (wrapAny (by simp only [inKind]; omega)) ?_|refine o_quo rfl rfl rfl (by omega) (by omega) (wrapAny (by simp only [inKind]; omega)) ?_|refine o_rem rfl rfl rfl (by omega) (by omega) ?_|refine o_any rfl rfl ?_) |(refine gV ?_; refine o_conv rfl rfl (wrapAny (by simp only [inKind]; omega)) ?_) |(refine gL ?_; refine o_load1R rfl rfl (by assumption) rfl rfl ?_) |(refine gN ?_; refine o_loadNR rfl rfl (by assumption) rfl (by first|exact Nat.le_of_ble_eq_true rfl|(simp; done)|omega) rfl ?_) |(refine gS ?_; refine o_storeR rfl rfl rfl rfl rfl (by assumption) (by first|exact Nat.le_of_ble_eq_true rfl|(simp; done)|omega) ?_) |refine o_anyX rfl rfl rfl ?_ |refine o_anyN rfl rfl ?_) |(show wp _ _ _ _ _; first |refine w_opsS ?_ |refine w_ops ?_ |(refine gW ?_; first|refine w_condY rfl (by first|rfl|assumption|exact y1 (by omega)|exact y3 (by omega)|exact y5 (by omega)) ?_|refine w_condN rfl (by first|rfl|assumption|exact y2 (by omega)|exact y4 (by omega)|exact y6 (by omega)) ?_) |refine w_seq ?_ |refine w_opsX ?_ |refine w_block ?_ |refine w_exit ?_ |refine w_ret ?_ |refine w_skip ?_))
    refine ht ?_ _ _ _ _
    apply List.ext_getElem?
    intro j
    by_cases hj' : j < la.length
    · exact hj j hj'
    · rw [List.getElem?_eq_none (by omega), List.getElem?_eq_none (by omega)]
  | d + 1, i, hi, hj => by
    have h1 : i < la.length := by omega
    have h2 : i < lb.length := by omega
    obtain ⟨a, ca, rfl, _, hx⟩ := ha.at1 (i := i) (u := .int .i64 la[i]) (by rw [List.getElem?_map, List.getElem?_eq_getElem h1]; rfl)
    obtain ⟨b, cb, rfl, _, hy⟩ := hb.at1 (i := i) (u := .int .i64 lb[i]) (by rw [List.getElem?_map, List.getElem?_eq_getElem h2]; rfl)
    refine w_round ?_
    repeat (first |((with_reducible show wpO _ _ _ _ _); first |refine o_mv rfl rfl ?_ |refine o_lenV rfl rfl ?_ |refine o_ext rfl rfl rfl ?_ |refine o_nil ?_ |(refine gG ?_; first|refine o_gdY rfl (by first|rfl|assumption|exact y1 (by omega)|exact y2 (by omega)|exact y3 (by omega)|exact y4 (by omega)|exact y5 (by omega)|exact y6 (by omega)) ?_|refine o_gdN rfl (by first|rfl|assumption|exact y1 (by omega)|exact y2 (by omega)|exact y3 (by omega)|exact y4 (by omega)|exact y5 (by omega)|exact y6 (by omega)) ?_|refine o_pass rfl ?_|refine o_passN rfl ?_) |(refine gP ?_; first|refine o_pickY rfl rfl (by first|rfl|assumption|exact y1 (by omega)|exact y3 (by omega)|exact y5 (by omega)) rfl ?_|refine o_pickN rfl rfl (by first|rfl|assumption|exact y2 (by omega)|exact y4 (by omega)|exact y6 (by omega)) rfl ?_) |(refine gA ?_; first|refine o_add rfl rfl rfl (wrapAny (by simp only [inKind]; omega)) ?_|refine o_sub rfl rfl rfl (wrapAny (by simp only [inKind]; omega)) ?_|refine o_mul rfl rfl rfl (wrapAny (by simp only [inKind]; omega)) ?_|refine o_quo rfl rfl rfl (by omega) (by omega) (wrapAny (by simp only [inKind]; omega)) ?_|refine o_rem rfl rfl rfl (by omega) (by omega) ?_|refine o_any rfl rfl ?_) |(refine gV ?_; refine o_conv rfl rfl (wrapAny (by simp only [inKind]; omega)) ?_) |(refine gL ?_; refine o_load1R rfl rfl (by assumption) rfl rfl ?_) |(refine gN ?_; refine o_loadNR rfl rfl (by assumption) rfl (by first|exact Nat.le_of_ble_eq_true rfl|(simp; done)|omega) rfl ?_) |(refine gS ?_; refine o_storeR rfl rfl rfl rfl rfl (by assumption) (by first|exact Nat.le_of_ble_eq_true rfl|(simp; done)|omega) ?_) |refine o_anyX rfl rfl rfl ?_ |refine o_anyN rfl rfl ?_) |(show wp _ _ _ _ _; first |refine w_opsS ?_ |refine w_ops ?_ |(refine gW ?_; first|refine w_condY rfl (by first|rfl|assumption|exact y1 (by omega)|exact y3 (by omega)|exact y5 (by omega)) ?_|refine w_condN rfl (by first|rfl|assumption|exact y2 (by omega)|exact y4 (by omega)|exact y6 (by omega)) ?_) |refine w_seq ?_ |refine w_opsX ?_ |refine w_block ?_ |refine w_exit ?_ |refine w_ret ?_ |refine w_skip ?_))
    refine o_ixV rfl rfl rfl ⟨by omega, by omega⟩ ?_
    refine o_load1 rfl rfl (by rw [Int.toNat_natCast]; exact hx) ?_
    repeat (first |((with_reducible show wpO _ _ _ _ _); first |refine o_mv rfl rfl ?_ |refine o_lenV rfl rfl ?_ |refine o_ext rfl rfl rfl ?_ |refine o_nil ?_ |(refine gG ?_; first|refine o_gdY rfl (by first|rfl|assumption|exact y1 (by omega)|exact y2 (by omega)|exact y3 (by omega)|exact y4 (by omega)|exact y5 (by omega)|exact y6 (by omega)) ?_|refine o_gdN rfl (by first|rfl|assumption|exact y1 (by omega)|exact y2 (by omega)|exact y3 (by omega)|exact y4 (by omega)|exact y5 (by omega)|exact y6 (by omega)) ?_|refine o_pass rfl ?_|refine o_passN rfl ?_) |(refine gP ?_; first|refine o_pickY rfl rfl (by first|rfl|assumption|exact y1 (by omega)|exact y3 (by omega)|exact y5 (by omega)) rfl ?_|refine o_pickN rfl rfl (by first|rfl|assumption|exact y2 (by omega)|exact y4 (by omega)|exact y6 (by omega)) rfl ?_) |(refine gA ?_; first|refine o_add rfl rfl rfl (wrapAny (by simp only [inKind]; omega)) ?_|refine o_sub rfl rfl rfl (wrapAny (by simp only [inKind]; omega)) ?_|refine o_mul rfl rfl rfl (wrapAny (by simp only [inKind]; omega)) ?_|refine o_quo rfl rfl rfl (by omega) (by omega) (wrapAny (by simp only [inKind]; omega)) ?_|refine o_rem rfl rfl rfl (by omega) (by omega) ?_|refine o_any rfl rfl ?_) |(refine gV ?_; refine o_conv rfl rfl (wrapAny (by simp only [inKind]; omega)) ?_) |(refine gL ?_; refine o_load1R rfl rfl (by assumption) rfl rfl ?_) |(refine gN ?_; refine o_loadNR rfl rfl (by assumption) rfl (by first|exact Nat.le_of_ble_eq_true rfl|(simp; done)|omega) rfl ?_) |(refine gS ?_; refine o_storeR rfl rfl rfl rfl rfl (by assumption) (by first|exact Nat.le_of_ble_eq_true rfl|(simp; done)|omega) ?_) |refine o_anyX rfl rfl rfl ?_ |refine o_anyN rfl rfl ?_) |(show wp _ _ _ _ _; first |refine w_opsS ?_ |refine w_ops ?_ |(refine gW ?_; first|refine w_condY rfl (by first|rfl|assumption|exact y1 (by omega)|exact y3 (by omega)|exact y5 (by omega)) ?_|refine w_condN rfl (by first|rfl|assumption|exact y2 (by omega)|exact y4 (by omega)|exact y6 (by omega)) ?_) |refine w_seq ?_ |refine w_opsX ?_ |refine w_block ?_ |refine w_exit ?_ |refine w_ret ?_ |refine w_skip ?_))
    refine o_ixV rfl rfl rfl ⟨by omega, by omega⟩ ?_
    refine o_load1 rfl rfl (by rw [Int.toNat_natCast]; exact hy) ?_
    by_cases he : la[i] = lb[i]
    · repeat (first |((with_reducible show wpO _ _ _ _ _); first |refine o_mv rfl rfl ?_ |refine o_lenV rfl rfl ?_ |refine o_ext rfl rfl rfl ?_ |refine o_nil ?_ |(refine gG ?_; first|refine o_gdY rfl (by first|rfl|assumption|exact y1 (by omega)|exact y2 (by omega)|exact y3 (by omega)|exact y4 (by omega)|exact y5 (by omega)|exact y6 (by omega)) ?_|refine o_gdN rfl (by first|rfl|assumption|exact y1 (by omega)|exact y2 (by omega)|exact y3 (by omega)|exact y4 (by omega)|exact y5 (by omega)|exact y6 (by omega)) ?_|refine o_pass rfl ?_|refine o_passN rfl ?_) |(refine gP ?_; first|refine o_pickY rfl rfl (by first|rfl|assumption|exact y1 (by omega)|exact y3 (by omega)|exact y5 (by omega)) rfl ?_|refine o_pickN rfl rfl (by first|rfl|assumption|exact y2 (by omega)|exact y4 (by omega)|exact y6 (by omega)) rfl ?_) |(refine gA ?_; first|refine o_add rfl rfl rfl (wrapAny (by simp only [inKind]; omega)) ?_|refine o_sub rfl rfl rfl (wrapAny (by simp only [inKind]; omega)) ?_|refine o_mul rfl rfl rfl (wrapAny (by simp only [inKind]; omega)) ?_|refine o_quo rfl rfl rfl (by omega) (by omega) (wrapAny (by simp only [inKind]; omega)) ?_|refine o_rem rfl rfl rfl (by omega) (by omega) ?_|refine o_any rfl rfl ?_) |(refine gV ?_; refine o_conv rfl rfl (wrapAny (by simp only [inKind]; omega)) ?_) |(refine gL ?_; refine o_load1R rfl rfl (by assumption) rfl rfl ?_) |(refine gN ?_; refine o_loadNR rfl rfl (by assumption) rfl (by first|exact Nat.le_of_ble_eq_true rfl|(simp; done)|omega) rfl ?_) |(refine gS ?_; refine o_storeR rfl rfl rfl rfl rfl (by assumption) (by first|exact Nat.le_of_ble_eq_true rfl|(simp; done)|omega) ?_) |refine o_anyX rfl rfl rfl ?_ |refine o_anyN rfl rfl ?_) |(show wp _ _ _ _ _; first |refine w_opsS ?_ |refine w_ops ?_ |(refine gW ?_; first|refine w_condY rfl (by first|rfl|assumption|exact y1 (by omega)|exact y3 (by omega)|exact y5 (by omega)) ?_|refine w_condN rfl (by first|rfl|assumption|exact y2 (by omega)|exact y4 (by omega)|exact y6 (by omega)) ?_) |refine w_seq ?_ |refine w_opsX ?_ |refine w_block ?_ |refine w_exit ?_ |refine w_ret ?_ |refine w_skip ?_))
      refine rnd_again rfl ?_
      refine intsLoop _ _ la lb hl hn ha hb ht hff d (i + 1) (by omega) ?_
      intro j hj'
      by_cases hji : j = i
      · subst hji; rw [List.getElem?_eq_getElem h1, List.getElem?_eq_getElem h2, he]
      · exact hj j (by omega)
    · repeat (first |((with_reducible show wpO _ _ _ _ _); first |refine o_mv rfl rfl ?_ |refine o_lenV rfl rfl ?_ |refine o_ext rfl rfl rfl ?_ |refine o_nil ?_ |(refine gG ?_; first|refine o_gdY rfl (by first|rfl|assumption|exact y1 (by omega)|exact y2 (by omega)|exact y3 (by omega)|exact y4 (by omega)|exact y5 (by omega)|exact y6 (by omega)) ?_|refine o_gdN rfl (by first|rfl|assumption|exact y1 (by omega)|exact y2 (by omega)|exact y3 (by omega)|exact y4 (by omega)|exact y5 (by omega)|exact y6 (by omega)) ?_|refine o_pass rfl ?_|refine o_passN rfl ?_) |(refine gP ?_; first|refine o_pickY rfl rfl (by first|rfl|assumption|exact y1 (by omega)|exact y3 (by omega)|exact y5 (by omega)) rfl ?_|refine o_pickN rfl rfl (by first|rfl|assumption|exact y2 (by omega)|exact y4 (by omega)|exact y6 (by omega)) rfl ?_) |(refine gA ?_; first|refine o_add rfl rfl rfl (wrapAny (by simp only [inKind]; omega)) ?_|refine o_sub rfl rfl rfl (wrapAny (by simp only [inKind]; omega)) ?_|refine o_mul rfl rfl rfl (wrapAny (by simp only [inKind]; omega)) ?_|refine o_quo rfl rfl rfl (by omega) (by omega) (wrapAny (by simp only [inKind]; omega)) ?_|refine o_rem rfl rfl rfl (by omega) (by omega) ?_|refine o_any rfl rfl ?_) |(refine gV ?_; refine o_conv rfl rfl (wrapAny (by simp only [inKind]; omega)) ?_) |(refine gL ?_; refine o_load1R rfl rfl (by assumption) rfl rfl ?_) |(refine gN ?_; refine o_loadNR rfl rfl (by assumption) rfl (by first|exact Nat.le_of_ble_eq_true rfl|(simp; done)|omega) rfl ?_) |(refine gS ?_; refine o_storeR rfl rfl rfl rfl rfl (by assumption) (by first|exact Nat.le_of_ble_eq_true rfl|(simp; done)|omega) ?_) |refine o_anyX rfl rfl rfl ?_ |refine o_anyN rfl rfl ?_) |(show wp _ _ _ _ _; first |refine w_opsS ?_ |refine w_ops ?_ |(refine gW ?_; first|refine w_condY rfl (by first|rfl|assumption|exact y1 (by omega)|exact y3 (by omega)|exact y5 (by omega)) ?_|refine w_condN rfl (by first|rfl|assumption|exact y2 (by omega)|exact y4 (by omega)|exact y6 (by omega)) ?_) |refine w_seq ?_ |refine w_opsX ?_ |refine w_block ?_ |refine w_exit ?_ |refine w_ret ?_ |refine w_skip ?_))
      refine hff ?_ _ rfl
      intro hab
      subst hab
      exact he rfl

theorem intsC {h : Heap} {va vb : Value} {na nb : Nat} {la lb : List Int} (ha : Sl h 1 va na (la.map (.int .i64))) (hb : Sl h 1 vb nb (lb.map (.int .i64))) (hn : la.length < 4611686018427387904) :
    Cl M F_ref01_Ints [va, vb] h fun v h' => v = .bool (decide (la = lb)) ∧ h' = h := by
  have hna : la.length = na := by have := ha.length; simpa using this
  have hnb : lb.length = nb := by have := hb.length; simpa using this
  subst hna hnb
  refine w_call (F := M_ref01_Ints) (by rw [hf]; rfl) rfl ?_
  obtain ⟨a, ca, rfl⟩ := ha.val
  obtain ⟨b, cb, rfl⟩ := hb.val
  by_cases hl : la.length = lb.length
  · repeat (first |((with_reducible show wpO _ _ _ _ _); first |refine o_mv rfl rfl ?_ |refine o_lenV rfl rfl ?_ |refine o_ext rfl rfl rfl ?_ |refine o_nil ?_ |(refine gG ?_; first|refine o_gdY rfl (by first|rfl|assumption|exact y1 (by omega)|exact y2 (by omega)|exact y3 (by omega)|exact y4 (by omega)|exact y5 (by omega)|exact y6 (by omega)) ?_|refine o_gdN rfl (by first|rfl|assumption|exact y1 (by omega)|exact y2 (by omega)|exact y3 (by omega)|exact y4 (by omega)|exact y5 (by omega)|exact y6 (by omega)) ?_|refine o_pass rfl ?_|refine o_passN rfl ?_) |(refine gP ?_; first|refine o_pickY rfl rfl (by first|rfl|assumption|exact y1 (by omega)|exact y3 (by omega)|exact y5 (by omega)) rfl ?_|refine o_pickN rfl rfl (by first|rfl|assumption|exact y2 (by omega)|exact y4 (by omega)|exact y6 (by omega)) rfl ?_) |(refine gA ?_; first|refine o_add rfl rfl rfl (wrapAny (by simp only [inKind]; omega)) ?_|refine o_sub rfl rfl rfl (wrapAny (by simp only [inKind]; omega)) ?_|refine o_mul rfl rfl rfl (wrapAny (by simp only [inKind]; omega)) ?_|refine o_quo rfl rfl rfl (by omega) (by omega) (wrapAny (by simp only [inKind]; omega)) ?_|refine o_rem rfl rfl rfl (by omega) (by omega) ?_|refine o_any rfl rfl ?_) |(refine gV ?_; refine o_conv rfl rfl (wrapAny (by simp only [inKind]; omega)) ?_) |(refine gL ?_; refine o_load1R rfl rfl (by assumption) rfl rfl ?_) |(refine gN ?_; refine o_loadNR rfl rfl (by assumption) rfl (by first|exact Nat.le_of_ble_eq_true rfl|(simp; done)|omega) rfl ?_) |(refine gS ?_; refine o_storeR rfl rfl rfl rfl rfl (by assumption) (by first|exact Nat.le_of_ble_eq_true rfl|(simp; done)|omega) ?_) |refine o_anyX rfl rfl rfl ?_ |refine o_anyN rfl rfl ?_) |(show wp _ _ _ _ _; first |refine w_opsS ?_ |refine w_ops ?_ |(refine gW ?_; first|refine w_condY rfl (by first|rfl|assumption|exact y1 (by omega)|exact y3 (by omega)|exact y5 (by omega)) ?_|refine w_condN rfl (by first|rfl|assumption|exact y2 (by omega)|exact y4 (by omega)|exact y6 (by omega)) ?_) |refine w_seq ?_ |refine w_opsX ?_ |refine w_block ?_ |refine w_exit ?_ |refine w_ret ?_ |refine w_skip ?_))
    refine w_loop rfl ?_
    refine intsLoop hf _ _ la lb hl hn ha hb (fun he u1 u2 u3 u4 => ?_) (fun he f hf4 => ?_) la.length 0 (by omega) (fun j hj => by omega)
    · repeat (first |((with_reducible show wpO _ _ _ _ _); first |refine o_mv rfl rfl ?_ |refine o_lenV rfl rfl ?_ |refine o_ext rfl rfl rfl ?_ |refine o_nil ?_ |(refine gG ?_; first|refine o_gdY rfl (by first|rfl|assumption|exact y1 (by omega)|exact y2 (by omega)|exact y3 (by omega)|exact y4 (by omega)|exact y5 (by omega)|exact y6 (by omega)) ?_|refine o_gdN rfl (by first|rfl|assumption|exact y1 (by omega)|exact y2 (by omega)|exact y3 (by omega)|exact y4 (by omega)|exact y5 (by omega)|exact y6 (by omega)) ?_|refine o_pass rfl ?_|refine o_passN rfl ?_) |(refine gP ?_; first|refine o_pickY rfl rfl (by first|rfl|assumption|exact y1 (by omega)|exact y3 (by omega)|exact y5 (by omega)) rfl ?_|refine o_pickN rfl rfl (by first|rfl|assumption|exact y2 (by omega)|exact y4 (by omega)|exact y6 (by omega)) rfl ?_) |(refine gA ?_; first|refine o_add rfl rfl rfl (wrapAny (by simp only [inKind]; omega)) ?_|refine o_sub rfl rfl rfl (wrapAny (by simp only [inKind]; omega)) ?_|refine o_mul rfl rfl rfl (wrapAny (by simp only [inKind]; omega)) ?_|refine o_quo rfl rfl rfl (by omega) (by omega) (wrapAny (by simp only [inKind]; omega)) ?_|refine o_rem rfl rfl rfl (by omega) (by omega) ?_|refine o_any rfl rfl ?_) |(refine gV ?_; refine o_conv rfl rfl (wrapAny (by simp only [inKind]; omega)) ?_) |(refine gL ?_; refine o_load1R rfl rfl (by assumption) rfl rfl ?_) |(refine gN ?_; refine o_loadNR rfl rfl (by assumption) rfl (by first|exact Nat.le_of_ble_eq_true rfl|(simp; done)|omega) rfl ?_) |(refine gS ?_; refine o_storeR rfl rfl rfl rfl rfl (by assumption) (by first|exact Nat.le_of_ble_eq_true rfl|(simp; done)|omega) ?_) |refine o_anyX rfl rfl rfl ?_ |refine o_anyN rfl rfl ?_) |(show wp _ _ _ _ _; first |refine w_opsS ?_ |refine w_ops ?_ |(refine gW ?_; first|refine w_condY rfl (by first|rfl|assumption|exact y1 (by omega)|exact y3 (by omega)|exact y5 (by omega)) ?_|refine w_condN rfl (by first|rfl|assumption|exact y2 (by omega)|exact y4 (by omega)|exact y6 (by omega)) ?_) |refine w_seq ?_ |refine w_opsX ?_ |refine w_block ?_ |refine w_exit ?_ |refine w_ret ?_ |refine w_skip ?_))
      exact ⟨.inr rfl, _, rfl, by simp [he], rfl⟩
    · exact ⟨.inr rfl, .bool false, by simp [resL, resAllL, resOneL, M_ref01_Ints, hf4], by simp [he], rfl⟩
  · repeat (first |((with_reducible show wpO _ _ _ _ _); first |refine o_mv rfl rfl ?_ |refine o_lenV rfl rfl ?_ |refine o_ext rfl rfl rfl ?_ |refine o_nil ?_ |(refine gG ?_; first|refine o_gdY rfl (by first|rfl|assumption|exact y1 (by omega)|exact y2 (by omega)|exact y3 (by omega)|exact y4 (by omega)|exact y5 (by omega)|exact y6 (by omega)) ?_|refine o_gdN rfl (by first|rfl|assumption|exact y1 (by omega)|exact y2 (by omega)|exact y3 (by omega)|exact y4 (by omega)|exact y5 (by omega)|exact y6 (by omega)) ?_|refine o_pass rfl ?_|refine o_passN rfl ?_) |(refine gP ?_; first|refine o_pickY rfl rfl (by first|rfl|assumption|exact y1 (by omega)|exact y3 (by omega)|exact y5 (by omega)) rfl ?_|refine o_pickN rfl rfl (by first|rfl|assumption|exact y2 (by omega)|exact y4 (by omega)|exact y6 (by omega)) rfl ?_) |(refine gA ?_; first|refine o_add rfl rfl rfl (wrapAny (by simp only [inKind]; omega)) ?_|refine o_sub rfl rfl rfl (wrapAny (by simp only [inKind]; omega)) ?_|refine o_mul rfl rfl rfl (wrapAny (by simp only [inKind]; omega)) ?_|refine o_quo rfl rfl rfl (by omega) (by omega) (wrapAny (by simp only [inKind]; omega)) ?_|refine o_rem rfl rfl rfl (by omega) (by omega) ?_|refine o_any rfl rfl ?_) |(refine gV ?_; refine o_conv rfl rfl (wrapAny (by simp only [inKind]; omega)) ?_) |(refine gL ?_; refine o_load1R rfl rfl (by assumption) rfl rfl ?_) |(refine gN ?_; refine o_loadNR rfl rfl (by assumption) rfl (by first|exact Nat.le_of_ble_eq_true rfl|(simp; done)|omega) rfl ?_) |(refine gS ?_; refine o_storeR rfl rfl rfl rfl rfl (by assumption) (by first|exact Nat.le_of_ble_eq_true rfl|(simp; done)|omega) ?_) |refine o_anyX rfl rfl rfl ?_ |refine o_anyN rfl rfl ?_) |(show wp _ _ _ _ _; first |refine w_opsS ?_ |refine w_ops ?_ |(refine gW ?_; first|refine w_condY rfl (by first|rfl|assumption|exact y1 (by omega)|exact y3 (by omega)|exact y5 (by omega)) ?_|refine w_condN rfl (by first|rfl|assumption|exact y2 (by omega)|exact y4 (by omega)|exact y6 (by omega)) ?_) |refine w_seq ?_ |refine w_opsX ?_ |refine w_block ?_ |refine w_exit ?_ |refine w_ret ?_ |refine w_skip ?_))
    exact ⟨.inr rfl, _, rfl, by simp; intro e; exact hl (by rw [e]), rfl⟩
end
end Go.Proofs.Ytboioafflppnfaa

/- What is picked, and what isn't, is all, each once: the walk. Conditions: none. -/
namespace Go.Proofs.Ytboioafflppnfaa
open Go.Cm
set_option linter.unusedVariables false
set_option linter.unusedSimpArgs false
set_option linter.unusedSectionVars false
set_option maxRecDepth 100000
set_option maxHeartbeats 10000000

section
variable {M : Prg} (hp : PureClosed M) (hf : M.fn = lookF tab) (hso : ∀ g args h v h', SortAns F_sort g args h v h' → Ev M (.call g args h v h'))
include hp hf

theorem whole1 (m s : Nat) (hm : m ≤ 24) (va vb : Value) (P : List Int) (hr : ∀ x ∈ P, 0 ≤ x ∧ x < m) (hst : P.Pairwise (· < ·)) (h0 : Heap) (hva : Sl h0 1 va P.length (P.map (.int .i64))) (hne : ∀ c off n k, va = .slice (some ⟨c, off, none⟩) n k → 0 < P.length → c ≠ s) (hpl : P.length ≤ 1000)
    (Q : Ex → Fr → Heap → Prop) : ∀ (d i : Nat) (h : Heap), i + d = P.length → Only h0 h s → h.get? s = some (.rw (cnt (P.take i))) →
    (∀ h' u1 u2 u3 u4, Only h0 h' s → h'.get? s = some (.rw (cnt P)) → Q (.exit 0) [(70, u1), (69, u2), (68, u3), (67, u4), (7, .int .i64 m), (9, va), (11, vb), (13, .pointer (some ⟨s, 0, none⟩)), (14, .int .i64 P.length)] h') →
    wpR M [7, 9, 11, 13, 14] c_law29_SampleWhole_18 Q [(7, .int .i64 m), (9, va), (11, vb), (13, .pointer (some ⟨s, 0, none⟩)), (14, .int .i64 i)] h
  | 0, i, h, hi, ho, hg, hQ => by
    have : i = P.length := by omega
    subst this
    obtain ⟨aa, cap, rfl⟩ := hva.val
    refine w_round ?_
    repeat (first |((with_reducible show wpO _ _ _ _ _); first |refine o_mv rfl rfl ?_ |refine o_lenV rfl rfl ?_ |refine o_ext rfl rfl rfl ?_ |refine o_nil ?_ |(refine gG ?_; first|refine o_gdY rfl (by first|rfl|assumption|exact y1 (by omega)|exact y2 (by omega)|exact y3 (by omega)|exact y4 (by omega)|exact y5 (by omega)|exact y6 (by omega)) ?_|refine o_gdN rfl (by first|rfl|assumption|exact y1 (by omega)|exact y2 (by omega)|exact y3 (by omega)|exact y4 (by omega)|exact y5 (by omega)|exact y6 (by omega)) ?_|refine o_pass rfl ?_|refine o_passN rfl ?_) |(refine gP ?_; first|refine o_pickY rfl rfl (by first|rfl|assumption|exact y1 (by omega)|exact y3 (by omega)|exact y5 (by omega)) rfl ?_|refine o_pickN rfl rfl (by first|rfl|assumption|exact y2 (by omega)|exact y4 (by omega)|exact y6 (by omega)) rfl ?_) |(refine gA ?_; first|refine o_add rfl rfl rfl (wrapAny (by simp only [inKind]; omega)) ?_|refine o_sub rfl rfl rfl (wrapAny (by simp only [inKind]; omega)) ?_|refine o_mul rfl rfl rfl (wrapAny (by simp only [inKind]; omega)) ?_|refine o_quo rfl rfl rfl (by omega) (by omega) (wrapAny (by simp only [inKind]; omega)) ?_|refine o_rem rfl rfl rfl (by omega) (by omega) ?_|refine o_any rfl rfl ?_) |(refine gV ?_; refine o_conv rfl rfl (wrapAny (by simp only [inKind]; omega)) ?_) |(refine gL ?_; refine o_load1R rfl rfl (by assumption) rfl rfl ?_) |(refine gN ?_; refine o_loadNR rfl rfl (by assumption) rfl (by first|exact Nat.le_of_ble_eq_true rfl|(simp; done)|omega) rfl ?_) |(refine gS ?_; refine o_storeR rfl rfl rfl rfl rfl (by assumption) (by first|exact Nat.le_of_ble_eq_true rfl|(simp; done)|omega) ?_) |refine o_anyX rfl rfl rfl ?_ |refine o_anyN rfl rfl ?_) |(show wp _ _ _ _ _; first |refine w_opsS ?_ |refine w_ops ?_ |(refine gW ?_; first|refine w_condY rfl (by first|rfl|assumption|exact y1 (by omega)|exact y3 (by omega)|exact y5 (by omega)) ?_|refine w_condN rfl (by first|rfl|assumption|exact y2 (by omega)|exact y4 (by omega)|exact y6 (by omega)) ?_) |refine w_seq ?_ |refine w_opsX ?_ |refine w_block ?_ |refine w_exit ?_ |refine w_ret ?_ |refine w_skip ?_))
    exact hQ h _ _ _ _ ho (by rw [List.take_length] at hg; exact hg)
  | d + 1, i, h, hi, ho, hg, hQ => by
    have ih := fun i h => whole1 m s hm va vb P hr hst h0 hva hne hpl Q d i h
    have hip : i < P.length := by omega
    have hvh : Sl h 1 va P.length (P.map (.int .i64)) := by
      rcases hva with H | ⟨c, off, cap, o, all, rfl, q1, q2, q3, q4, q5⟩
      · exact .inl H
      · exact .inr ⟨c, off, cap, o, all, rfl, ho.get (hne _ _ _ _ rfl (by omega)) q1, q2, q3, q4, q5⟩
    obtain ⟨a0, cap0, rfl, _, hrd⟩ := hvh.at1 (i := i) (u := .int .i64 P[i]) (by rw [List.getElem?_map, List.getElem?_eq_getElem hip]; rfl)
    have hrng := hr P[i] (List.getElem_mem hip)
    have hrd1 : h.rd1 (addOff a0 ((i : Int).toNat * 1)) = some (.int .i64 P[i]) := by rw [Int.toNat_natCast]; exact hrd
    refine w_round ?_
    repeat (first |((with_reducible show wpO _ _ _ _ _); first |refine o_mv rfl rfl ?_ |refine o_lenV rfl rfl ?_ |refine o_ext rfl rfl rfl ?_ |refine o_nil ?_ |(refine gG ?_; first|refine o_gdY rfl (by first|rfl|assumption|exact y1 (by omega)|exact y2 (by omega)|exact y3 (by omega)|exact y4 (by omega)|exact y5 (by omega)|exact y6 (by omega)) ?_|refine o_gdN rfl (by first|rfl|assumption|exact y1 (by omega)|exact y2 (by omega)|exact y3 (by omega)|exact y4 (by omega)|exact y5 (by omega)|exact y6 (by omega)) ?_|refine o_pass rfl ?_|refine o_passN rfl ?_) |(refine gP ?_; first|refine o_pickY rfl rfl (by first|rfl|assumption|exact y1 (by omega)|exact y3 (by omega)|exact y5 (by omega)) rfl ?_|refine o_pickN rfl rfl (by first|rfl|assumption|exact y2 (by omega)|exact y4 (by omega)|exact y6 (by omega)) rfl ?_) |(refine gA ?_; first|refine o_add rfl rfl rfl (wrapAny (by simp only [inKind]; omega)) ?_|refine o_sub rfl rfl rfl (wrapAny (by simp only [inKind]; omega)) ?_|refine o_mul rfl rfl rfl (wrapAny (by simp only [inKind]; omega)) ?_|refine o_quo rfl rfl rfl (by omega) (by omega) (wrapAny (by simp only [inKind]; omega)) ?_|refine o_rem rfl rfl rfl (by omega) (by omega) ?_|refine o_any rfl rfl ?_) |(refine gV ?_; refine o_conv rfl rfl (wrapAny (by simp only [inKind]; omega)) ?_) |(refine gL ?_; refine o_load1R rfl rfl (by assumption) rfl rfl ?_) |(refine gN ?_; refine o_loadNR rfl rfl (by assumption) rfl (by first|exact Nat.le_of_ble_eq_true rfl|(simp; done)|omega) rfl ?_) |(refine gS ?_; refine o_storeR rfl rfl rfl rfl rfl (by assumption) (by first|exact Nat.le_of_ble_eq_true rfl|(simp; done)|omega) ?_) |refine o_anyX rfl rfl rfl ?_ |refine o_anyN rfl rfl ?_) |(show wp _ _ _ _ _; first |refine w_opsS ?_ |refine w_ops ?_ |(refine gW ?_; first|refine w_condY rfl (by first|rfl|assumption|exact y1 (by omega)|exact y3 (by omega)|exact y5 (by omega)) ?_|refine w_condN rfl (by first|rfl|assumption|exact y2 (by omega)|exact y4 (by omega)|exact y6 (by omega)) ?_) |refine w_seq ?_ |refine w_opsX ?_ |refine w_block ?_ |refine w_exit ?_ |refine w_ret ?_ |refine w_skip ?_))
    refine o_ixV rfl rfl rfl ⟨by omega, by omega⟩ ?_
    refine o_load1 rfl rfl hrd1 ?_
    repeat (first |((with_reducible show wpO _ _ _ _ _); first |refine o_mv rfl rfl ?_ |refine o_lenV rfl rfl ?_ |refine o_ext rfl rfl rfl ?_ |refine o_nil ?_ |(refine gG ?_; first|refine o_gdY rfl (by first|rfl|assumption|exact y1 (by omega)|exact y2 (by omega)|exact y3 (by omega)|exact y4 (by omega)|exact y5 (by omega)|exact y6 (by omega)) ?_|refine o_gdN rfl (by first|rfl|assumption|exact y1 (by omega)|exact y2 (by omega)|exact y3 (by omega)|exact y4 (by omega)|exact y5 (by omega)|exact y6 (by omega)) ?_|refine o_pass rfl ?_|refine o_passN rfl ?_) |(refine gP ?_; first|refine o_pickY rfl rfl (by first|rfl|assumption|exact y1 (by omega)|exact y3 (by omega)|exact y5 (by omega)) rfl ?_|refine o_pickN rfl rfl (by first|rfl|assumption|exact y2 (by omega)|exact y4 (by omega)|exact y6 (by omega)) rfl ?_) |(refine gA ?_; first|refine o_add rfl rfl rfl (wrapAny (by simp only [inKind]; omega)) ?_|refine o_sub rfl rfl rfl (wrapAny (by simp only [inKind]; omega)) ?_|refine o_mul rfl rfl rfl (wrapAny (by simp only [inKind]; omega)) ?_|refine o_quo rfl rfl rfl (by omega) (by omega) (wrapAny (by simp only [inKind]; omega)) ?_|refine o_rem rfl rfl rfl (by omega) (by omega) ?_|refine o_any rfl rfl ?_) |(refine gV ?_; refine o_conv rfl rfl (wrapAny (by simp only [inKind]; omega)) ?_) |(refine gL ?_; refine o_load1R rfl rfl (by assumption) rfl rfl ?_) |(refine gN ?_; refine o_loadNR rfl rfl (by assumption) rfl (by first|exact Nat.le_of_ble_eq_true rfl|(simp; done)|omega) rfl ?_) |(refine gS ?_; refine o_storeR rfl rfl rfl rfl rfl (by assumption) (by first|exact Nat.le_of_ble_eq_true rfl|(simp; done)|omega) ?_) |refine o_anyX rfl rfl rfl ?_ |refine o_anyN rfl rfl ?_) |(show wp _ _ _ _ _; first |refine w_opsS ?_ |refine w_ops ?_ |(refine gW ?_; first|refine w_condY rfl (by first|rfl|assumption|exact y1 (by omega)|exact y3 (by omega)|exact y5 (by omega)) ?_|refine w_condN rfl (by first|rfl|assumption|exact y2 (by omega)|exact y4 (by omega)|exact y6 (by omega)) ?_) |refine w_seq ?_ |refine w_opsX ?_ |refine w_block ?_ |refine w_exit ?_ |refine w_ret ?_ |refine w_skip ?_))
    refine o_ixV rfl rfl rfl ⟨by omega, by omega⟩ ?_
    refine o_gdY rfl (by simp; omega) ?_
    refine o_load1 rfl rfl hrd1 ?_
    have hcl : (P.take i).count P[i] ≤ 1000 := by
      have := List.count_le_length (a := P[i]) (l := P.take i)
      rw [List.length_take] at this; omega
    by_cases hi0 : i = 0
    · have hi1 : ((i : Nat) : Int) = 0 := by omega
      repeat (first |((with_reducible show wpO _ _ _ _ _); first |refine o_mv rfl rfl ?_ |refine o_lenV rfl rfl ?_ |refine o_ext rfl rfl rfl ?_ |refine o_nil ?_ |(refine gG ?_; first|refine o_gdY rfl (by first|rfl|assumption|exact y1 (by omega)|exact y2 (by omega)|exact y3 (by omega)|exact y4 (by omega)|exact y5 (by omega)|exact y6 (by omega)) ?_|refine o_gdN rfl (by first|rfl|assumption|exact y1 (by omega)|exact y2 (by omega)|exact y3 (by omega)|exact y4 (by omega)|exact y5 (by omega)|exact y6 (by omega)) ?_|refine o_pass rfl ?_|refine o_passN rfl ?_) |(refine gP ?_; first|refine o_pickY rfl rfl (by first|rfl|assumption|exact y1 (by omega)|exact y3 (by omega)|exact y5 (by omega)) rfl ?_|refine o_pickN rfl rfl (by first|rfl|assumption|exact y2 (by omega)|exact y4 (by omega)|exact y6 (by omega)) rfl ?_) |(refine gA ?_; first|refine o_add rfl rfl rfl (wrapAny (by simp only [inKind]; omega)) ?_|refine o_sub rfl rfl rfl (wrapAny (by simp only [inKind]; omega)) ?_|refine o_mul rfl rfl rfl (wrapAny (by simp only [inKind]; omega)) ?_|refine o_quo rfl rfl rfl (by omega) (by omega) (wrapAny (by simp only [inKind]; omega)) ?_|refine o_rem rfl rfl rfl (by omega) (by omega) ?_|refine o_any rfl rfl ?_) |(refine gV ?_; refine o_conv rfl rfl (wrapAny (by simp only [inKind]; omega)) ?_) |(refine gL ?_; refine o_load1R rfl rfl (by assumption) rfl rfl ?_) |(refine gN ?_; refine o_loadNR rfl rfl (by assumption) rfl (by first|exact Nat.le_of_ble_eq_true rfl|(simp; done)|omega) rfl ?_) |(refine gS ?_; refine o_storeR rfl rfl rfl rfl rfl (by assumption) (by first|exact Nat.le_of_ble_eq_true rfl|(simp; done)|omega) ?_) |refine o_anyX rfl rfl rfl ?_ |refine o_anyN rfl rfl ?_) |(show wp _ _ _ _ _; first |refine w_opsS ?_ |refine w_ops ?_ |(refine gW ?_; first|refine w_condY rfl (by first|rfl|assumption|exact y1 (by omega)|exact y3 (by omega)|exact y5 (by omega)) ?_|refine w_condN rfl (by first|rfl|assumption|exact y2 (by omega)|exact y4 (by omega)|exact y6 (by omega)) ?_) |refine w_seq ?_ |refine w_opsX ?_ |refine w_block ?_ |refine w_exit ?_ |refine w_ret ?_ |refine w_skip ?_))
      refine o_ixV rfl rfl rfl ⟨by omega, by omega⟩ ?_
      refine o_load1 rfl rfl hrd1 ?_
      refine o_ixA rfl rfl rfl ⟨by omega, by omega⟩ ?_
      refine o_load1R rfl rfl hg rfl (v := .int .i64 (((P.take i).count P[i] : Nat) : Int)) (by simpa using cnt_get (P.take i) P[i] (by omega)) ?_
      repeat (first |((with_reducible show wpO _ _ _ _ _); first |refine o_mv rfl rfl ?_ |refine o_lenV rfl rfl ?_ |refine o_ext rfl rfl rfl ?_ |refine o_nil ?_ |(refine gG ?_; first|refine o_gdY rfl (by first|rfl|assumption|exact y1 (by omega)|exact y2 (by omega)|exact y3 (by omega)|exact y4 (by omega)|exact y5 (by omega)|exact y6 (by omega)) ?_|refine o_gdN rfl (by first|rfl|assumption|exact y1 (by omega)|exact y2 (by omega)|exact y3 (by omega)|exact y4 (by omega)|exact y5 (by omega)|exact y6 (by omega)) ?_|refine o_pass rfl ?_|refine o_passN rfl ?_) |(refine gP ?_; first|refine o_pickY rfl rfl (by first|rfl|assumption|exact y1 (by omega)|exact y3 (by omega)|exact y5 (by omega)) rfl ?_|refine o_pickN rfl rfl (by first|rfl|assumption|exact y2 (by omega)|exact y4 (by omega)|exact y6 (by omega)) rfl ?_) |(refine gA ?_; first|refine o_add rfl rfl rfl (wrapAny (by simp only [inKind]; omega)) ?_|refine o_sub rfl rfl rfl (wrapAny (by simp only [inKind]; omega)) ?_|refine o_mul rfl rfl rfl (wrapAny (by simp only [inKind]; omega)) ?_|refine o_quo rfl rfl rfl (by omega) (by omega) (wrapAny (by simp only [inKind]; omega)) ?_|refine o_rem rfl rfl rfl (by omega) (by omega) ?_|refine o_any rfl rfl ?_) |(refine gV ?_; refine o_conv rfl rfl (wrapAny (by simp only [inKind]; omega)) ?_) |(refine gL ?_; refine o_load1R rfl rfl (by assumption) rfl rfl ?_) |(refine gN ?_; refine o_loadNR rfl rfl (by assumption) rfl (by first|exact Nat.le_of_ble_eq_true rfl|(simp; done)|omega) rfl ?_) |(refine gS ?_; refine o_storeR rfl rfl rfl rfl rfl (by assumption) (by first|exact Nat.le_of_ble_eq_true rfl|(simp; done)|omega) ?_) |refine o_anyX rfl rfl rfl ?_ |refine o_anyN rfl rfl ?_) |(show wp _ _ _ _ _; first |refine w_opsS ?_ |refine w_ops ?_ |(refine gW ?_; first|refine w_condY rfl (by first|rfl|assumption|exact y1 (by omega)|exact y3 (by omega)|exact y5 (by omega)) ?_|refine w_condN rfl (by first|rfl|assumption|exact y2 (by omega)|exact y4 (by omega)|exact y6 (by omega)) ?_) |refine w_seq ?_ |refine w_opsX ?_ |refine w_block ?_ |refine w_exit ?_ |refine w_ret ?_ |refine w_skip ?_))
      refine o_ixA rfl rfl rfl ⟨by omega, by omega⟩ ?_
      refine o_storeR rfl rfl rfl rfl rfl hg (by simp [cnt_length]; omega) ?_
      have hset := cnt_set (P.take i) P[i] (by omega)
      have hoff : ({ block := s, off := 0 } : Addr).off + P[i].toNat * 1 = P[i].toNat := by simp
      rw [hoff, hset, List.take_append_getElem]
      have hg2 := Heap.get?_set_same (o := .rw (cnt (P.take (i + 1)))) hg
      have ho2 := ho.trans (Only.set (o := .rw (cnt (P.take (i + 1)))) hg)
      generalize h.set s (.rw (cnt (P.take (i + 1)))) = h2 at hg2 ho2 ⊢
      repeat (first |((with_reducible show wpO _ _ _ _ _); first |refine o_mv rfl rfl ?_ |refine o_lenV rfl rfl ?_ |refine o_ext rfl rfl rfl ?_ |refine o_nil ?_ |(refine gG ?_; first|refine o_gdY rfl (by first|rfl|assumption|exact y1 (by omega)|exact y2 (by omega)|exact y3 (by omega)|exact y4 (by omega)|exact y5 (by omega)|exact y6 (by omega)) ?_|refine o_gdN rfl (by first|rfl|assumption|exact y1 (by omega)|exact y2 (by omega)|exact y3 (by omega)|exact y4 (by omega)|exact y5 (by omega)|exact y6 (by omega)) ?_|refine o_pass rfl ?_|refine o_passN rfl ?_) |(refine gP ?_; first|refine o_pickY rfl rfl (by first|rfl|assumption|exact y1 (by omega)|exact y3 (by omega)|exact y5 (by omega)) rfl ?_|refine o_pickN rfl rfl (by first|rfl|assumption|exact y2 (by omega)|exact y4 (by omega)|exact y6 (by omega)) rfl ?_) |(refine gA ?_; first|refine o_add rfl rfl rfl (wrapAny (by simp only [inKind]; omega)) ?_|refine o_sub rfl rfl rfl (wrapAny (by simp only [inKind]; omega)) ?_|refine o_mul rfl rfl rfl (wrapAny (by simp only [inKind]; omega)) ?_|refine o_quo rfl rfl rfl (by omega) (by omega) (wrapAny (by simp only [inKind]; omega)) ?_|refine o_rem rfl rfl rfl (by omega) (by omega) ?_|refine o_any rfl rfl ?_) |(refine gV ?_; refine o_conv rfl rfl (wrapAny (by simp only [inKind]; omega)) ?_) |(refine gL ?_; refine o_load1R rfl rfl (by assumption) rfl rfl ?_) |(refine gN ?_; refine o_loadNR rfl rfl (by assumption) rfl (by first|exact Nat.le_of_ble_eq_true rfl|(simp; done)|omega) rfl ?_) |(refine gS ?_; refine o_storeR rfl rfl rfl rfl rfl (by assumption) (by first|exact Nat.le_of_ble_eq_true rfl|(simp; done)|omega) ?_) |refine o_anyX rfl rfl rfl ?_ |refine o_anyN rfl rfl ?_) |(show wp _ _ _ _ _; first |refine w_opsS ?_ |refine w_ops ?_ |(refine gW ?_; first|refine w_condY rfl (by first|rfl|assumption|exact y1 (by omega)|exact y3 (by omega)|exact y5 (by omega)) ?_|refine w_condN rfl (by first|rfl|assumption|exact y2 (by omega)|exact y4 (by omega)|exact y6 (by omega)) ?_) |refine w_seq ?_ |refine w_opsX ?_ |refine w_block ?_ |refine w_exit ?_ |refine w_ret ?_ |refine w_skip ?_))
      refine rnd_again rfl ?_
      exact ih (i + 1) h2 (by omega) ho2 hg2 hQ
    · have hlt1 : P[i - 1] < P[i] := List.pairwise_iff_getElem.1 hst (i - 1) i (by omega) hip (by omega)
      have hrd2 : h.rd1 (addOff a0 (((i : Int) - 1).toNat * 1)) = some (.int .i64 P[i - 1]) := by
        obtain ⟨a1, cap1, e1, _, hrd'⟩ := hvh.at1 (i := i - 1) (u := .int .i64 P[i - 1]) (by rw [List.getElem?_map, List.getElem?_eq_getElem (by omega)]; rfl)
        cases e1
        rw [show ((i : Int) - 1).toNat = i - 1 by omega]; exact hrd'
      repeat (first |((with_reducible show wpO _ _ _ _ _); first |refine o_mv rfl rfl ?_ |refine o_lenV rfl rfl ?_ |refine o_ext rfl rfl rfl ?_ |refine o_nil ?_ |(refine gG ?_; first|refine o_gdY rfl (by first|rfl|assumption|exact y1 (by omega)|exact y2 (by omega)|exact y3 (by omega)|exact y4 (by omega)|exact y5 (by omega)|exact y6 (by omega)) ?_|refine o_gdN rfl (by first|rfl|assumption|exact y1 (by omega)|exact y2 (by omega)|exact y3 (by omega)|exact y4 (by omega)|exact y5 (by omega)|exact y6 (by omega)) ?_|refine o_pass rfl ?_|refine o_passN rfl ?_) |(refine gP ?_; first|refine o_pickY rfl rfl (by first|rfl|assumption|exact y1 (by omega)|exact y3 (by omega)|exact y5 (by omega)) rfl ?_|refine o_pickN rfl rfl (by first|rfl|assumption|exact y2 (by omega)|exact y4 (by omega)|exact y6 (by omega)) rfl ?_) |(refine gA ?_; first|refine o_add rfl rfl rfl (wrapAny (by simp only [inKind]; omega)) ?_|refine o_sub rfl rfl rfl (wrapAny (by simp only [inKind]; omega)) ?_|refine o_mul rfl rfl rfl (wrapAny (by simp only [inKind]; omega)) ?_|refine o_quo rfl rfl rfl (by omega) (by omega) (wrapAny (by simp only [inKind]; omega)) ?_|refine o_rem rfl rfl rfl (by omega) (by omega) ?_|refine o_any rfl rfl ?_) |(refine gV ?_; refine o_conv rfl rfl (wrapAny (by simp only [inKind]; omega)) ?_) |(refine gL ?_; refine o_load1R rfl rfl (by assumption) rfl rfl ?_) |(refine gN ?_; refine o_loadNR rfl rfl (by assumption) rfl (by first|exact Nat.le_of_ble_eq_true rfl|(simp; done)|omega) rfl ?_) |(refine gS ?_; refine o_storeR rfl rfl rfl rfl rfl (by assumption) (by first|exact Nat.le_of_ble_eq_true rfl|(simp; done)|omega) ?_) |refine o_anyX rfl rfl rfl ?_ |refine o_anyN rfl rfl ?_) |(show wp _ _ _ _ _; first |refine w_opsS ?_ |refine w_ops ?_ |(refine gW ?_; first|refine w_condY rfl (by first|rfl|assumption|exact y1 (by omega)|exact y3 (by omega)|exact y5 (by omega)) ?_|refine w_condN rfl (by first|rfl|assumption|exact y2 (by omega)|exact y4 (by omega)|exact y6 (by omega)) ?_) |refine w_seq ?_ |refine w_opsX ?_ |refine w_block ?_ |refine w_exit ?_ |refine w_ret ?_ |refine w_skip ?_))
      refine o_ixV rfl rfl rfl ⟨by omega, by omega⟩ ?_
      refine o_gdY rfl (by simp; omega) ?_
      refine o_load1 rfl rfl hrd1 ?_
      repeat (first |((with_reducible show wpO _ _ _ _ _); first |refine o_mv rfl rfl ?_ |refine o_lenV rfl rfl ?_ |refine o_ext rfl rfl rfl ?_ |refine o_nil ?_ |(refine gG ?_; first|refine o_gdY rfl (by first|rfl|assumption|exact y1 (by omega)|exact y2 (by omega)|exact y3 (by omega)|exact y4 (by omega)|exact y5 (by omega)|exact y6 (by omega)) ?_|refine o_gdN rfl (by first|rfl|assumption|exact y1 (by omega)|exact y2 (by omega)|exact y3 (by omega)|exact y4 (by omega)|exact y5 (by omega)|exact y6 (by omega)) ?_|refine o_pass rfl ?_|refine o_passN rfl ?_) |(refine gP ?_; first|refine o_pickY rfl rfl (by first|rfl|assumption|exact y1 (by omega)|exact y3 (by omega)|exact y5 (by omega)) rfl ?_|refine o_pickN rfl rfl (by first|rfl|assumption|exact y2 (by omega)|exact y4 (by omega)|exact y6 (by omega)) rfl ?_) |(refine gA ?_; first|refine o_add rfl rfl rfl (wrapAny (by simp only [inKind]; omega)) ?_|refine o_sub rfl rfl rfl (wrapAny (by simp only [inKind]; omega)) ?_|refine o_mul rfl rfl rfl (wrapAny (by simp only [inKind]; omega)) ?_|refine o_quo rfl rfl rfl (by omega) (by omega) (wrapAny (by simp only [inKind]; omega)) ?_|refine o_rem rfl rfl rfl (by omega) (by omega) ?_|refine o_any rfl rfl ?_) |(refine gV ?_; refine o_conv rfl rfl (wrapAny (by simp only [inKind]; omega)) ?_) |(refine gL ?_; refine o_load1R rfl rfl (by assumption) rfl rfl ?_) |(refine gN ?_; refine o_loadNR rfl rfl (by assumption) rfl (by first|exact Nat.le_of_ble_eq_true rfl|(simp; done)|omega) rfl ?_) |(refine gS ?_; refine o_storeR rfl rfl rfl rfl rfl (by assumption) (by first|exact Nat.le_of_ble_eq_true rfl|(simp; done)|omega) ?_) |refine o_anyX rfl rfl rfl ?_ |refine o_anyN rfl rfl ?_) |(show wp _ _ _ _ _; first |refine w_opsS ?_ |refine w_ops ?_ |(refine gW ?_; first|refine w_condY rfl (by first|rfl|assumption|exact y1 (by omega)|exact y3 (by omega)|exact y5 (by omega)) ?_|refine w_condN rfl (by first|rfl|assumption|exact y2 (by omega)|exact y4 (by omega)|exact y6 (by omega)) ?_) |refine w_seq ?_ |refine w_opsX ?_ |refine w_block ?_ |refine w_exit ?_ |refine w_ret ?_ |refine w_skip ?_))
      refine o_ixV rfl rfl rfl ⟨by omega, by omega⟩ ?_
      refine o_gdY rfl (by simp; omega) ?_
      refine o_load1 rfl rfl hrd2 ?_
      repeat (first |((with_reducible show wpO _ _ _ _ _); first |refine o_mv rfl rfl ?_ |refine o_lenV rfl rfl ?_ |refine o_ext rfl rfl rfl ?_ |refine o_nil ?_ |(refine gG ?_; first|refine o_gdY rfl (by first|rfl|assumption|exact y1 (by omega)|exact y2 (by omega)|exact y3 (by omega)|exact y4 (by omega)|exact y5 (by omega)|exact y6 (by omega)) ?_|refine o_gdN rfl (by first|rfl|assumption|exact y1 (by omega)|exact y2 (by omega)|exact y3 (by omega)|exact y4 (by omega)|exact y5 (by omega)|exact y6 (by omega)) ?_|refine o_pass rfl ?_|refine o_passN rfl ?_) |(refine gP ?_; first|refine o_pickY rfl rfl (by first|rfl|assumption|exact y1 (by omega)|exact y3 (by omega)|exact y5 (by omega)) rfl ?_|refine o_pickN rfl rfl (by first|rfl|assumption|exact y2 (by omega)|exact y4 (by omega)|exact y6 (by omega)) rfl ?_) |(refine gA ?_; first|refine o_add rfl rfl rfl (wrapAny (by simp only [inKind]; omega)) ?_|refine o_sub rfl rfl rfl (wrapAny (by simp only [inKind]; omega)) ?_|refine o_mul rfl rfl rfl (wrapAny (by simp only [inKind]; omega)) ?_|refine o_quo rfl rfl rfl (by omega) (by omega) (wrapAny (by simp only [inKind]; omega)) ?_|refine o_rem rfl rfl rfl (by omega) (by omega) ?_|refine o_any rfl rfl ?_) |(refine gV ?_; refine o_conv rfl rfl (wrapAny (by simp only [inKind]; omega)) ?_) |(refine gL ?_; refine o_load1R rfl rfl (by assumption) rfl rfl ?_) |(refine gN ?_; refine o_loadNR rfl rfl (by assumption) rfl (by first|exact Nat.le_of_ble_eq_true rfl|(simp; done)|omega) rfl ?_) |(refine gS ?_; refine o_storeR rfl rfl rfl rfl rfl (by assumption) (by first|exact Nat.le_of_ble_eq_true rfl|(simp; done)|omega) ?_) |refine o_anyX rfl rfl rfl ?_ |refine o_anyN rfl rfl ?_) |(show wp _ _ _ _ _; first |refine w_opsS ?_ |refine w_ops ?_ |(refine gW ?_; first|refine w_condY rfl (by first|rfl|assumption|exact y1 (by omega)|exact y3 (by omega)|exact y5 (by omega)) ?_|refine w_condN rfl (by first|rfl|assumption|exact y2 (by omega)|exact y4 (by omega)|exact y6 (by omega)) ?_) |refine w_seq ?_ |refine w_opsX ?_ |refine w_block ?_ |refine w_exit ?_ |refine w_ret ?_ |refine w_skip ?_))
      refine o_ixV rfl rfl rfl ⟨by omega, by omega⟩ ?_
      refine o_load1 rfl rfl hrd1 ?_
      refine o_ixA rfl rfl rfl ⟨by omega, by omega⟩ ?_
      refine o_load1R rfl rfl hg rfl (v := .int .i64 (((P.take i).count P[i] : Nat) : Int)) (by simpa using cnt_get (P.take i) P[i] (by omega)) ?_
      repeat (first |((with_reducible show wpO _ _ _ _ _); first |refine o_mv rfl rfl ?_ |refine o_lenV rfl rfl ?_ |refine o_ext rfl rfl rfl ?_ |refine o_nil ?_ |(refine gG ?_; first|refine o_gdY rfl (by first|rfl|assumption|exact y1 (by omega)|exact y2 (by omega)|exact y3 (by omega)|exact y4 (by omega)|exact y5 (by omega)|exact y6 (by omega)) ?_|refine o_gdN rfl (by first|rfl|assumption|exact y1 (by omega)|exact y2 (by omega)|exact y3 (by omega)|exact y4 (by omega)|exact y5 (by omega)|exact y6 (by omega)) ?_|refine o_pass rfl ?_|refine o_passN rfl ?_) |(refine gP ?_; first|refine o_pickY rfl rfl (by first|rfl|assumption|exact y1 (by omega)|exact y3 (by omega)|exact y5 (by omega)) rfl ?_|refine o_pickN rfl rfl (by first|rfl|assumption|exact y2 (by omega)|exact y4 (by omega)|exact y6 (by omega)) rfl ?_) |(refine gA ?_; first|refine o_add rfl rfl rfl (wrapAny (by simp only [inKind]; omega)) ?_|refine o_sub rfl rfl rfl (wrapAny (by simp only [inKind]; omega)) ?_|refine o_mul rfl rfl rfl (wrapAny (by simp only [inKind]; omega)) ?_|refine o_quo rfl rfl rfl (by omega) (by omega) (wrapAny (by simp only [inKind]; omega)) ?_|refine o_rem rfl rfl rfl (by omega) (by omega) ?_|refine o_any rfl rfl ?_) |(refine gV ?_; refine o_conv rfl rfl (wrapAny (by simp only [inKind]; omega)) ?_) |(refine gL ?_; refine o_load1R rfl rfl (by assumption) rfl rfl ?_) |(refine gN ?_; refine o_loadNR rfl rfl (by assumption) rfl (by first|exact Nat.le_of_ble_eq_true rfl|(simp; done)|omega) rfl ?_) |(refine gS ?_; refine o_storeR rfl rfl rfl rfl rfl (by assumption) (by first|exact Nat.le_of_ble_eq_true rfl|(simp; done)|omega) ?_) |refine o_anyX rfl rfl rfl ?_ |refine o_anyN rfl rfl ?_) |(show wp _ _ _ _ _; first |refine w_opsS ?_ |refine w_ops ?_ |(refine gW ?_; first|refine w_condY rfl (by first|rfl|assumption|exact y1 (by omega)|exact y3 (by omega)|exact y5 (by omega)) ?_|refine w_condN rfl (by first|rfl|assumption|exact y2 (by omega)|exact y4 (by omega)|exact y6 (by omega)) ?_) |refine w_seq ?_ |refine w_opsX ?_ |refine w_block ?_ |refine w_exit ?_ |refine w_ret ?_ |refine w_skip ?_))
      refine o_ixA rfl rfl rfl ⟨by omega, by omega⟩ ?_
      refine o_storeR rfl rfl rfl rfl rfl hg (by simp [cnt_length]; omega) ?_
      have hset := cnt_set (P.take i) P[i] (by omega)
      have hoff : ({ block := s, off := 0 } : Addr).off + P[i].toNat * 1 = P[i].toNat := by simp
      rw [hoff, hset, List.take_append_getElem]
      have hg2 := Heap.get?_set_same (o := .rw (cnt (P.take (i + 1)))) hg
      have ho2 := ho.trans (Only.set (o := .rw (cnt (P.take (i + 1)))) hg)
      generalize h.set s (.rw (cnt (P.take (i + 1)))) = h2 at hg2 ho2 ⊢
      repeat (first |((with_reducible show wpO _ _ _ _ _); first |refine o_mv rfl rfl ?_ |refine o_lenV rfl rfl ?_ |refine o_ext rfl rfl rfl ?_ |refine o_nil ?_ |(refine gG ?_; first|refine o_gdY rfl (by first|rfl|assumption|exact y1 (by omega)|exact y2 (by omega)|exact y3 (by omega)|exact y4 (by omega)|exact y5 (by omega)|exact y6 (by omega)) ?_|refine o_gdN rfl (by first|rfl|assumption|exact y1 (by omega)|exact y2 (by omega)|exact y3 (by omega)|exact y4 (by omega)|exact y5 (by omega)|exact y6 (by omega)) ?_|refine o_pass rfl ?_|refine o_passN rfl ?_) |(refine gP ?_; first|refine o_pickY rfl rfl (by first|rfl|assumption|exact y1 (by omega)|exact y3 (by omega)|exact y5 (by omega)) rfl ?_|refine o_pickN rfl rfl (by first|rfl|assumption|exact y2 (by omega)|exact y4 (by omega)|exact y6 (by omega)) rfl ?_) |(refine gA ?_; first|refine o_add rfl rfl rfl (wrapAny (by simp only [inKind]; omega)) ?_|refine o_sub rfl rfl rfl (wrapAny (by simp only [inKind]; omega)) ?_|refine o_mul rfl rfl rfl (wrapAny (by simp only [inKind]; omega)) ?_|refine o_quo rfl rfl rfl (by omega) (by omega) (wrapAny (by simp only [inKind]; omega)) ?_|refine o_rem rfl rfl rfl (by omega) (by omega) ?_|refine o_any rfl rfl ?_) |(refine gV ?_; refine o_conv rfl rfl (wrapAny (by simp only [inKind]; omega)) ?_) |(refine gL ?_; refine o_load1R rfl rfl (by assumption) rfl rfl ?_) |(refine gN ?_; refine o_loadNR rfl rfl (by assumption) rfl (by first|exact Nat.le_of_ble_eq_true rfl|(simp; done)|omega) rfl ?_) |(refine gS ?_; refine o_storeR rfl rfl rfl rfl rfl (by assumption) (by first|exact Nat.le_of_ble_eq_true rfl|(simp; done)|omega) ?_) |refine o_anyX rfl rfl rfl ?_ |refine o_anyN rfl rfl ?_) |(show wp _ _ _ _ _; first |refine w_opsS ?_ |refine w_ops ?_ |(refine gW ?_; first|refine w_condY rfl (by first|rfl|assumption|exact y1 (by omega)|exact y3 (by omega)|exact y5 (by omega)) ?_|refine w_condN rfl (by first|rfl|assumption|exact y2 (by omega)|exact y4 (by omega)|exact y6 (by omega)) ?_) |refine w_seq ?_ |refine w_opsX ?_ |refine w_block ?_ |refine w_exit ?_ |refine w_ret ?_ |refine w_skip ?_))
      refine rnd_again rfl ?_
      exact ih (i + 1) h2 (by omega) ho2 hg2 hQ

theorem whole2 (m s : Nat) (hm : m ≤ 24) (vb : Value) (P O : List Int) (hr : ∀ x ∈ O, 0 ≤ x ∧ x < m) (h0 : Heap) (hva : Sl h0 1 vb O.length (O.map (.int .i64))) (hne : ∀ c off n k, vb = .slice (some ⟨c, off, none⟩) n k → 0 < O.length → c ≠ s) (hpl : O.length ≤ 1000) (hpl2 : P.length ≤ 1000)
    (Q : Ex → Fr → Heap → Prop) : ∀ (d i : Nat) (h : Heap), i + d = O.length → Only h0 h s → h.get? s = some (.rw (cnt (P ++ O.take i))) →
    (∀ h' u1 u2 u3 u4, Only h0 h' s → h'.get? s = some (.rw (cnt (P ++ O))) → Q (.exit 2) [(113, u1), (112, u2), (111, u3), (110, u4), (7, .int .i64 m), (11, vb), (13, .pointer (some ⟨s, 0, none⟩)), (15, .int .i64 O.length)] h') →
    wpR M [7, 11, 13, 15] c_law29_SampleWhole_33 Q [(7, .int .i64 m), (11, vb), (13, .pointer (some ⟨s, 0, none⟩)), (15, .int .i64 i)] h
  | 0, i, h, hi, ho, hg, hQ => by
    have : i = O.length := by omega
    subst this
    obtain ⟨aa, cap, rfl⟩ := hva.val
    refine w_round ?_
    repeat (first |((with_reducible show wpO _ _ _ _ _); first |refine o_mv rfl rfl ?_ |refine o_lenV rfl rfl ?_ |refine o_ext rfl rfl rfl ?_ |refine o_nil ?_ |(refine gG ?_; first|refine o_gdY rfl (by first|rfl|assumption|exact y1 (by omega)|exact y2 (by omega)|exact y3 (by omega)|exact y4 (by omega)|exact y5 (by omega)|exact y6 (by omega)) ?_|refine o_gdN rfl (by first|rfl|assumption|exact y1 (by omega)|exact y2 (by omega)|exact y3 (by omega)|exact y4 (by omega)|exact y5 (by omega)|exact y6 (by omega)) ?_|refine o_pass rfl ?_|refine o_passN rfl ?_) |(refine gP ?_; first|refine o_pickY rfl rfl (by first|rfl|assumption|exact y1 (by omega)|exact y3 (by omega)|exact y5 (by omega)) rfl ?_|refine o_pickN rfl rfl (by first|rfl|assumption|exact y2 (by omega)|exact y4 (by omega)|exact y6 (by omega)) rfl ?_) |(refine gA ?_; first|refine o_add rfl rfl rfl (wrapAny (by simp only [inKind]; omega)) ?_|refine o_sub rfl rfl rfl (wrapAny (by simp only [inKind]; omega)) ?_|refine o_mul rfl rfl rfl (wrapAny (by simp only [inKind]; omega)) ?_|refine o_quo rfl rfl rfl (by omega) (by omega) (wrapAny (by simp only [inKind]; omega)) ?_|refine o_rem rfl rfl rfl (by omega) (by omega) ?_|refine o_any rfl rfl ?_) |(refine gV ?_; refine o_conv rfl rfl (wrapAny (by simp only [inKind]; omega)) ?_) |(refine gL ?_; refine o_load1R rfl rfl (by assumption) rfl rfl ?_) |(refine gN ?_; refine o_loadNR rfl rfl (by assumption) rfl (by first|exact Nat.le_of_ble_eq_true rfl|(simp; done)|omega) rfl ?_) |(refine gS ?_; refine o_storeR rfl rfl rfl rfl rfl (by assumption) (by first|exact Nat.le_of_ble_eq_true rfl|(simp; done)|omega) ?_) |refine o_anyX rfl rfl rfl ?_ |refine o_anyN rfl rfl ?_) |(show wp _ _ _ _ _; first |refine w_opsS ?_ |refine w_ops ?_ |(refine gW ?_; first|refine w_condY rfl (by first|rfl|assumption|exact y1 (by omega)|exact y3 (by omega)|exact y5 (by omega)) ?_|refine w_condN rfl (by first|rfl|assumption|exact y2 (by omega)|exact y4 (by omega)|exact y6 (by omega)) ?_) |refine w_seq ?_ |refine w_opsX ?_ |refine w_block ?_ |refine w_exit ?_ |refine w_ret ?_ |refine w_skip ?_))
    exact hQ h _ _ _ _ ho (by rw [List.take_length] at hg; exact hg)
  | d + 1, i, h, hi, ho, hg, hQ => by
    have ih := fun i h => whole2 m s hm vb P O hr h0 hva hne hpl hpl2 Q d i h
    have hip : i < O.length := by omega
    have hvh : Sl h 1 vb O.length (O.map (.int .i64)) := by
      rcases hva with H | ⟨c, off, cap, o, all, rfl, q1, q2, q3, q4, q5⟩
      · exact .inl H
      · exact .inr ⟨c, off, cap, o, all, rfl, ho.get (hne _ _ _ _ rfl (by omega)) q1, q2, q3, q4, q5⟩
    obtain ⟨a0, cap0, rfl, _, hrd⟩ := hvh.at1 (i := i) (u := .int .i64 O[i]) (by rw [List.getElem?_map, List.getElem?_eq_getElem hip]; rfl)
    have hrng := hr O[i] (List.getElem_mem hip)
    have hrd1 : h.rd1 (addOff a0 ((i : Int).toNat * 1)) = some (.int .i64 O[i]) := by rw [Int.toNat_natCast]; exact hrd
    have hcl : (P ++ O.take i).count O[i] ≤ 2000 := by
      have := List.count_le_length (a := O[i]) (l := P ++ O.take i)
      rw [List.length_append, List.length_take] at this; omega
    refine w_round ?_
    repeat (first |((with_reducible show wpO _ _ _ _ _); first |refine o_mv rfl rfl ?_ |refine o_lenV rfl rfl ?_ |refine o_ext rfl rfl rfl ?_ |refine o_nil ?_ |(refine gG ?_; first|refine o_gdY rfl (by first|rfl|assumption|exact y1 (by omega)|exact y2 (by omega)|exact y3 (by omega)|exact y4 (by omega)|exact y5 (by omega)|exact y6 (by omega)) ?_|refine o_gdN rfl (by first|rfl|assumption|exact y1 (by omega)|exact y2 (by omega)|exact y3 (by omega)|exact y4 (by omega)|exact y5 (by omega)|exact y6 (by omega)) ?_|refine o_pass rfl ?_|refine o_passN rfl ?_) |(refine gP ?_; first|refine o_pickY rfl rfl (by first|rfl|assumption|exact y1 (by omega)|exact y3 (by omega)|exact y5 (by omega)) rfl ?_|refine o_pickN rfl rfl (by first|rfl|assumption|exact y2 (by omega)|exact y4 (by omega)|exact y6 (by omega)) rfl ?_) |(refine gA ?_; first|refine o_add rfl rfl rfl (wrapAny (by simp only [inKind]; omega)) ?_|refine o_sub rfl rfl rfl (wrapAny (by simp only [inKind]; omega)) ?_|refine o_mul rfl rfl rfl (wrapAny (by simp only [inKind]; omega)) ?_|refine o_quo rfl rfl rfl (by omega) (by omega) (wrapAny (by simp only [inKind]; omega)) ?_|refine o_rem rfl rfl rfl (by omega) (by omega) ?_|refine o_any rfl rfl ?_) |(refine gV ?_; refine o_conv rfl rfl (wrapAny (by simp only [inKind]; omega)) ?_) |(refine gL ?_; refine o_load1R rfl rfl (by assumption) rfl rfl ?_) |(refine gN ?_; refine o_loadNR rfl rfl (by assumption) rfl (by first|exact Nat.le_of_ble_eq_true rfl|(simp; done)|omega) rfl ?_) |(refine gS ?_; refine o_storeR rfl rfl rfl rfl rfl (by assumption) (by first|exact Nat.le_of_ble_eq_true rfl|(simp; done)|omega) ?_) |refine o_anyX rfl rfl rfl ?_ |refine o_anyN rfl rfl ?_) |(show wp _ _ _ _ _; first |refine w_opsS ?_ |refine w_ops ?_ |(refine gW ?_; first|refine w_condY rfl (by first|rfl|assumption|exact y1 (by omega)|exact y3 (by omega)|exact y5 (by omega)) ?_|refine w_condN rfl (by first|rfl|assumption|exact y2 (by omega)|exact y4 (by omega)|exact y6 (by omega)) ?_) |refine w_seq ?_ |refine w_opsX ?_ |refine w_block ?_ |refine w_exit ?_ |refine w_ret ?_ |refine w_skip ?_))
    refine o_ixV rfl rfl rfl ⟨by omega, by omega⟩ ?_
    refine o_load1 rfl rfl hrd1 ?_
    repeat (first |((with_reducible show wpO _ _ _ _ _); first |refine o_mv rfl rfl ?_ |refine o_lenV rfl rfl ?_ |refine o_ext rfl rfl rfl ?_ |refine o_nil ?_ |(refine gG ?_; first|refine o_gdY rfl (by first|rfl|assumption|exact y1 (by omega)|exact y2 (by omega)|exact y3 (by omega)|exact y4 (by omega)|exact y5 (by omega)|exact y6 (by omega)) ?_|refine o_gdN rfl (by first|rfl|assumption|exact y1 (by omega)|exact y2 (by omega)|exact y3 (by omega)|exact y4 (by omega)|exact y5 (by omega)|exact y6 (by omega)) ?_|refine o_pass rfl ?_|refine o_passN rfl ?_) |(refine gP ?_; first|refine o_pickY rfl rfl (by first|rfl|assumption|exact y1 (by omega)|exact y3 (by omega)|exact y5 (by omega)) rfl ?_|refine o_pickN rfl rfl (by first|rfl|assumption|exact y2 (by omega)|exact y4 (by omega)|exact y6 (by omega)) rfl ?_) |(refine gA ?_; first|refine o_add rfl rfl rfl (wrapAny (by simp only [inKind]; omega)) ?_|refine o_sub rfl rfl rfl (wrapAny (by simp only [inKind]; omega)) ?_|refine o_mul rfl rfl rfl (wrapAny (by simp only [inKind]; omega)) ?_|refine o_quo rfl rfl rfl (by omega) (by omega) (wrapAny (by simp only [inKind]; omega)) ?_|refine o_rem rfl rfl rfl (by omega) (by omega) ?_|refine o_any rfl rfl ?_) |(refine gV ?_; refine o_conv rfl rfl (wrapAny (by simp only [inKind]; omega)) ?_) |(refine gL ?_; refine o_load1R rfl rfl (by assumption) rfl rfl ?_) |(refine gN ?_; refine o_loadNR rfl rfl (by assumption) rfl (by first|exact Nat.le_of_ble_eq_true rfl|(simp; done)|omega) rfl ?_) |(refine gS ?_; refine o_storeR rfl rfl rfl rfl rfl (by assumption) (by first|exact Nat.le_of_ble_eq_true rfl|(simp; done)|omega) ?_) |refine o_anyX rfl rfl rfl ?_ |refine o_anyN rfl rfl ?_) |(show wp _ _ _ _ _; first |refine w_opsS ?_ |refine w_ops ?_ |(refine gW ?_; first|refine w_condY rfl (by first|rfl|assumption|exact y1 (by omega)|exact y3 (by omega)|exact y5 (by omega)) ?_|refine w_condN rfl (by first|rfl|assumption|exact y2 (by omega)|exact y4 (by omega)|exact y6 (by omega)) ?_) |refine w_seq ?_ |refine w_opsX ?_ |refine w_block ?_ |refine w_exit ?_ |refine w_ret ?_ |refine w_skip ?_))
    refine o_ixV rfl rfl rfl ⟨by omega, by omega⟩ ?_
    refine o_gdY rfl (by simp; omega) ?_
    refine o_load1 rfl rfl hrd1 ?_
    repeat (first |((with_reducible show wpO _ _ _ _ _); first |refine o_mv rfl rfl ?_ |refine o_lenV rfl rfl ?_ |refine o_ext rfl rfl rfl ?_ |refine o_nil ?_ |(refine gG ?_; first|refine o_gdY rfl (by first|rfl|assumption|exact y1 (by omega)|exact y2 (by omega)|exact y3 (by omega)|exact y4 (by omega)|exact y5 (by omega)|exact y6 (by omega)) ?_|refine o_gdN rfl (by first|rfl|assumption|exact y1 (by omega)|exact y2 (by omega)|exact y3 (by omega)|exact y4 (by omega)|exact y5 (by omega)|exact y6 (by omega)) ?_|refine o_pass rfl ?_|refine o_passN rfl ?_) |(refine gP ?_; first|refine o_pickY rfl rfl (by first|rfl|assumption|exact y1 (by omega)|exact y3 (by omega)|exact y5 (by omega)) rfl ?_|refine o_pickN rfl rfl (by first|rfl|assumption|exact y2 (by omega)|exact y4 (by omega)|exact y6 (by omega)) rfl ?_) |(refine gA ?_; first|refine o_add rfl rfl rfl (wrapAny (by simp only [inKind]; omega)) ?_|refine o_sub rfl rfl rfl (wrapAny (by simp only [inKind]; omega)) ?_|refine o_mul rfl rfl rfl (wrapAny (by simp only [inKind]; omega)) ?_|refine o_quo rfl rfl rfl (by omega) (by omega) (wrapAny (by simp only [inKind]; omega)) ?_|refine o_rem rfl rfl rfl (by omega) (by omega) ?_|refine o_any rfl rfl ?_) |(refine gV ?_; refine o_conv rfl rfl (wrapAny (by simp only [inKind]; omega)) ?_) |(refine gL ?_; refine o_load1R rfl rfl (by assumption) rfl rfl ?_) |(refine gN ?_; refine o_loadNR rfl rfl (by assumption) rfl (by first|exact Nat.le_of_ble_eq_true rfl|(simp; done)|omega) rfl ?_) |(refine gS ?_; refine o_storeR rfl rfl rfl rfl rfl (by assumption) (by first|exact Nat.le_of_ble_eq_true rfl|(simp; done)|omega) ?_) |refine o_anyX rfl rfl rfl ?_ |refine o_anyN rfl rfl ?_) |(show wp _ _ _ _ _; first |refine w_opsS ?_ |refine w_ops ?_ |(refine gW ?_; first|refine w_condY rfl (by first|rfl|assumption|exact y1 (by omega)|exact y3 (by omega)|exact y5 (by omega)) ?_|refine w_condN rfl (by first|rfl|assumption|exact y2 (by omega)|exact y4 (by omega)|exact y6 (by omega)) ?_) |refine w_seq ?_ |refine w_opsX ?_ |refine w_block ?_ |refine w_exit ?_ |refine w_ret ?_ |refine w_skip ?_))
    refine o_ixV rfl rfl rfl ⟨by omega, by omega⟩ ?_
    refine o_load1 rfl rfl hrd1 ?_
    refine o_ixA rfl rfl rfl ⟨by omega, by omega⟩ ?_
    refine o_load1R rfl rfl hg rfl (v := .int .i64 (((P ++ O.take i).count O[i] : Nat) : Int)) (by simpa using cnt_get (P ++ O.take i) O[i] (by omega)) ?_
    repeat (first |((with_reducible show wpO _ _ _ _ _); first |refine o_mv rfl rfl ?_ |refine o_lenV rfl rfl ?_ |refine o_ext rfl rfl rfl ?_ |refine o_nil ?_ |(refine gG ?_; first|refine o_gdY rfl (by first|rfl|assumption|exact y1 (by omega)|exact y2 (by omega)|exact y3 (by omega)|exact y4 (by omega)|exact y5 (by omega)|exact y6 (by omega)) ?_|refine o_gdN rfl (by first|rfl|assumption|exact y1 (by omega)|exact y2 (by omega)|exact y3 (by omega)|exact y4 (by omega)|exact y5 (by omega)|exact y6 (by omega)) ?_|refine o_pass rfl ?_|refine o_passN rfl ?_) |(refine gP ?_; first|refine o_pickY rfl rfl (by first|rfl|assumption|exact y1 (by omega)|exact y3 (by omega)|exact y5 (by omega)) rfl ?_|refine o_pickN rfl rfl (by first|rfl|assumption|exact y2 (by omega)|exact y4 (by omega)|exact y6 (by omega)) rfl ?_) |(refine gA ?_; first|refine o_add rfl rfl rfl (wrapAny (by simp only [inKind]; omega)) ?_|refine o_sub rfl rfl rfl (wrapAny (by simp only [inKind]; omega)) ?_|refine o_mul rfl rfl rfl (wrapAny (by simp only [inKind]; omega)) ?_|refine o_quo rfl rfl rfl (by omega) (by omega) (wrapAny (by simp only [inKind]; omega)) ?_|refine o_rem rfl rfl rfl (by omega) (by omega) ?_|refine o_any rfl rfl ?_) |(refine gV ?_; refine o_conv rfl rfl (wrapAny (by simp only [inKind]; omega)) ?_) |(refine gL ?_; refine o_load1R rfl rfl (by assumption) rfl rfl ?_) |(refine gN ?_; refine o_loadNR rfl rfl (by assumption) rfl (by first|exact Nat.le_of_ble_eq_true rfl|(simp; done)|omega) rfl ?_) |(refine gS ?_; refine o_storeR rfl rfl rfl rfl rfl (by assumption) (by first|exact Nat.le_of_ble_eq_true rfl|(simp; done)|omega) ?_) |refine o_anyX rfl rfl rfl ?_ |refine o_anyN rfl rfl ?_) |(show wp _ _ _ _ _; first |refine w_opsS ?_ |refine w_ops ?_ |(refine gW ?_; first|refine w_condY rfl (by first|rfl|assumption|exact y1 (by omega)|exact y3 (by omega)|exact y5 (by omega)) ?_|refine w_condN rfl (by first|rfl|assumption|exact y2 (by omega)|exact y4 (by omega)|exact y6 (by omega)) ?_) |refine w_seq ?_ |refine w_opsX ?_ |refine w_block ?_ |refine w_exit ?_ |refine w_ret ?_ |refine w_skip ?_))
    refine o_ixA rfl rfl rfl ⟨by omega, by omega⟩ ?_
    refine o_storeR rfl rfl rfl rfl rfl hg (by simp [cnt_length]; omega) ?_
    have hset := cnt_set (P ++ O.take i) O[i] (by omega)
    have hoff : ({ block := s, off := 0 } : Addr).off + O[i].toNat * 1 = O[i].toNat := by simp
    rw [hoff, hset, List.append_assoc, List.take_append_getElem]
    have hg2 := Heap.get?_set_same (o := .rw (cnt (P ++ O.take (i + 1)))) hg
    have ho2 := ho.trans (Only.set (o := .rw (cnt (P ++ O.take (i + 1)))) hg)
    generalize h.set s (.rw (cnt (P ++ O.take (i + 1)))) = h2 at hg2 ho2 ⊢
    repeat (first |((with_reducible show wpO _ _ _ _ _); first |refine o_mv rfl rfl ?_ |refine o_lenV rfl rfl ?_ |refine o_ext rfl rfl rfl ?_ |refine o_nil ?_ |(refine gG ?_; first|refine o_gdY rfl (by first|rfl|assumption|exact y1 (by omega)|exact y2 (by omega)|exact y3 (by omega)|exact y4 (by omega)|exact y5 (by omega)|exact y6 (by omega)) ?_|refine o_gdN rfl (by first|rfl|assumption|exact y1 (by omega)|exact y2 (by omega)|exact y3 (by omega)|exact y4 (by omega)|exact y5 (by omega)|exact y6 (by omega)) ?_|refine o_pass rfl ?_|refine o_passN rfl ?_) |(refine gP ?_; first|refine o_pickY rfl rfl (by first|rfl|assumption|exact y1 (by omega)|exact y3 (by omega)|exact y5 (by omega)) rfl ?_|refine o_pickN rfl rfl (by first|rfl|assumption|exact y2 (by omega)|exact y4 (by omega)|exact y6 (by omega)) rfl ?_) |(refine gA ?_; first|refine o_add rfl rfl rfl (wrapAny (by simp only [inKind]; omega)) ?_|refine o_sub rfl rfl rfl (wrapAny (by simp only [inKind]; omega)) ?_|refine o_mul rfl rfl rfl (wrapAny (by simp only [inKind]; omega)) ?_|refine o_quo rfl rfl rfl (by omega) (by omega) (wrapAny (by simp only [inKind]; omega)) ?_|refine o_rem rfl rfl rfl (by omega) (by omega) ?_|refine o_any rfl rfl ?_) |(refine gV ?_; refine o_conv rfl rfl (wrapAny (by simp only [inKind]; omega)) ?_) |(refine gL ?_; refine o_load1R rfl rfl (by assumption) rfl rfl ?_) |(refine gN ?_; refine o_loadNR rfl rfl (by assumption) rfl (by first|exact Nat.le_of_ble_eq_true rfl|(simp; done)|omega) rfl ?_) |(refine gS ?_; refine o_storeR rfl rfl rfl rfl rfl (by assumption) (by first|exact Nat.le_of_ble_eq_true rfl|(simp; done)|omega) ?_) |refine o_anyX rfl rfl rfl ?_ |refine o_anyN rfl rfl ?_) |(show wp _ _ _ _ _; first |refine w_opsS ?_ |refine w_ops ?_ |(refine gW ?_; first|refine w_condY rfl (by first|rfl|assumption|exact y1 (by omega)|exact y3 (by omega)|exact y5 (by omega)) ?_|refine w_condN rfl (by first|rfl|assumption|exact y2 (by omega)|exact y4 (by omega)|exact y6 (by omega)) ?_) |refine w_seq ?_ |refine w_opsX ?_ |refine w_block ?_ |refine w_exit ?_ |refine w_ret ?_ |refine w_skip ?_))
    refine rnd_again rfl ?_
    exact ih (i + 1) h2 (by omega) ho2 hg2 hQ

theorem whole3 (m s : Nat) (hm : m ≤ 24) (L : List Int) (hL : ∀ x : Nat, x < m → L.count (x : Int) = 1) (h : Heap) (hg : h.get? s = some (.rw (cnt L))) (Q : Ex → Fr → Heap → Prop) 
    (hQ : ∀ u1 u2 u3, Q (.exit 4) [(139, u1), (138, u2), (137, u3), (7, .int .i64 m), (13, .pointer (some ⟨s, 0, none⟩)), (16, .int .i64 m)] h) : ∀ (d i : Nat), i + d = m →
    wpR M [7, 13, 16] c_law29_SampleWhole_48 Q [(7, .int .i64 m), (13, .pointer (some ⟨s, 0, none⟩)), (16, .int .i64 i)] h
  | 0, i, hi => by
    have : i = m := by omega
    subst this
    refine w_round ?_
    repeat (first |((with_reducible show wpO _ _ _ _ _); first |refine o_mv rfl rfl ?_ |refine o_lenV rfl rfl ?_ |refine o_ext rfl rfl rfl ?_ |refine o_nil ?_ |(refine gG ?_; first|refine o_gdY rfl (by first|rfl|assumption|exact y1 (by omega)|exact y2 (by omega)|exact y3 (by omega)|exact y4 (by omega)|exact y5 (by omega)|exact y6 (by omega)) ?_|refine o_gdN rfl (by first|rfl|assumption|exact y1 (by omega)|exact y2 (by omega)|exact y3 (by omega)|exact y4 (by omega)|exact y5 (by omega)|exact y6 (by omega)) ?_|refine o_pass rfl ?_|refine o_passN rfl ?_) |(refine gP ?_; first|refine o_pickY rfl rfl (by first|rfl|assumption|exact y1 (by omega)|exact y3 (by omega)|exact y5 (by omega)) rfl ?_|refine o_pickN rfl rfl (by first|rfl|assumption|exact y2 (by omega)|exact y4 (by omega)|exact y6 (by omega)) rfl ?_) |(refine gA ?_; first|refine o_add rfl rfl rfl (wrapAny (by simp only [inKind]; omega)) ?_|refine o_sub rfl rfl rfl (wrapAny (by simp only [inKind]; omega)) ?_|refine o_mul rfl rfl rfl (wrapAny (by simp only [inKind]; omega)) ?_|refine o_quo rfl rfl rfl (by omega) (by omega) (wrapAny (by simp only [inKind]; omega)) ?_|refine o_rem rfl rfl rfl (by omega) (by omega) ?_|refine o_any rfl rfl ?_) |(refine gV ?_; refine o_conv rfl rfl (wrapAny (by simp only [inKind]; omega)) ?_) |(refine gL ?_; refine o_load1R rfl rfl (by assumption) rfl rfl ?_) |(refine gN ?_; refine o_loadNR rfl rfl (by assumption) rfl (by first|exact Nat.le_of_ble_eq_true rfl|(simp; done)|omega) rfl ?_) |(refine gS ?_; refine o_storeR rfl rfl rfl rfl rfl (by assumption) (by first|exact Nat.le_of_ble_eq_true rfl|(simp; done)|omega) ?_) |refine o_anyX rfl rfl rfl ?_ |refine o_anyN rfl rfl ?_) |(show wp _ _ _ _ _; first |refine w_opsS ?_ |refine w_ops ?_ |(refine gW ?_; first|refine w_condY rfl (by first|rfl|assumption|exact y1 (by omega)|exact y3 (by omega)|exact y5 (by omega)) ?_|refine w_condN rfl (by first|rfl|assumption|exact y2 (by omega)|exact y4 (by omega)|exact y6 (by omega)) ?_) |refine w_seq ?_ |refine w_opsX ?_ |refine w_block ?_ |refine w_exit ?_ |refine w_ret ?_ |refine w_skip ?_))
    exact hQ _ _ _
  | d + 1, i, hi => by
    have hone := hL i (by omega)
    have hcg := cnt_get L i (by omega)
    rw [hone] at hcg
    refine w_round ?_
    repeat (first |((with_reducible show wpO _ _ _ _ _); first |refine o_mv rfl rfl ?_ |refine o_lenV rfl rfl ?_ |refine o_ext rfl rfl rfl ?_ |refine o_nil ?_ |(refine gG ?_; first|refine o_gdY rfl (by first|rfl|assumption|exact y1 (by omega)|exact y2 (by omega)|exact y3 (by omega)|exact y4 (by omega)|exact y5 (by omega)|exact y6 (by omega)) ?_|refine o_gdN rfl (by first|rfl|assumption|exact y1 (by omega)|exact y2 (by omega)|exact y3 (by omega)|exact y4 (by omega)|exact y5 (by omega)|exact y6 (by omega)) ?_|refine o_pass rfl ?_|refine o_passN rfl ?_) |(refine gP ?_; first|refine o_pickY rfl rfl (by first|rfl|assumption|exact y1 (by omega)|exact y3 (by omega)|exact y5 (by omega)) rfl ?_|refine o_pickN rfl rfl (by first|rfl|assumption|exact y2 (by omega)|exact y4 (by omega)|exact y6 (by omega)) rfl ?_) |(refine gA ?_; first|refine o_add rfl rfl rfl (wrapAny (by simp only [inKind]; omega)) ?_|refine o_sub rfl rfl rfl (wrapAny (by simp only [inKind]; omega)) ?_|refine o_mul rfl rfl rfl (wrapAny (by simp only [inKind]; omega)) ?_|refine o_quo rfl rfl rfl (by omega) (by omega) (wrapAny (by simp only [inKind]; omega)) ?_|refine o_rem rfl rfl rfl (by omega) (by omega) ?_|refine o_any rfl rfl ?_) |(refine gV ?_; refine o_conv rfl rfl (wrapAny (by simp only [inKind]; omega)) ?_) |(refine gL ?_; refine o_load1R rfl rfl (by assumption) rfl rfl ?_) |(refine gN ?_; refine o_loadNR rfl rfl (by assumption) rfl (by first|exact Nat.le_of_ble_eq_true rfl|(simp; done)|omega) rfl ?_) |(refine gS ?_; refine o_storeR rfl rfl rfl rfl rfl (by assumption) (by first|exact Nat.le_of_ble_eq_true rfl|(simp; done)|omega) ?_) |refine o_anyX rfl rfl rfl ?_ |refine o_anyN rfl rfl ?_) |(show wp _ _ _ _ _; first |refine w_opsS ?_ |refine w_ops ?_ |(refine gW ?_; first|refine w_condY rfl (by first|rfl|assumption|exact y1 (by omega)|exact y3 (by omega)|exact y5 (by omega)) ?_|refine w_condN rfl (by first|rfl|assumption|exact y2 (by omega)|exact y4 (by omega)|exact y6 (by omega)) ?_) |refine w_seq ?_ |refine w_opsX ?_ |refine w_block ?_ |refine w_exit ?_ |refine w_ret ?_ |refine w_skip ?_))
    refine o_ixA rfl rfl rfl ⟨by omega, by omega⟩ ?_
    refine o_load1R rfl rfl hg rfl (v := .int .i64 ((1 : Nat) : Int)) (by simpa using hcg) ?_
    repeat (first |((with_reducible show wpO _ _ _ _ _); first |refine o_mv rfl rfl ?_ |refine o_lenV rfl rfl ?_ |refine o_ext rfl rfl rfl ?_ |refine o_nil ?_ |(refine gG ?_; first|refine o_gdY rfl (by first|rfl|assumption|exact y1 (by omega)|exact y2 (by omega)|exact y3 (by omega)|exact y4 (by omega)|exact y5 (by omega)|exact y6 (by omega)) ?_|refine o_gdN rfl (by first|rfl|assumption|exact y1 (by omega)|exact y2 (by omega)|exact y3 (by omega)|exact y4 (by omega)|exact y5 (by omega)|exact y6 (by omega)) ?_|refine o_pass rfl ?_|refine o_passN rfl ?_) |(refine gP ?_; first|refine o_pickY rfl rfl (by first|rfl|assumption|exact y1 (by omega)|exact y3 (by omega)|exact y5 (by omega)) rfl ?_|refine o_pickN rfl rfl (by first|rfl|assumption|exact y2 (by omega)|exact y4 (by omega)|exact y6 (by omega)) rfl ?_) |(refine gA ?_; first|refine o_add rfl rfl rfl (wrapAny (by simp only [inKind]; omega)) ?_|refine o_sub rfl rfl rfl (wrapAny (by simp only [inKind]; omega)) ?_|refine o_mul rfl rfl rfl (wrapAny (by simp only [inKind]; omega)) ?_|refine o_quo rfl rfl rfl (by omega) (by omega) (wrapAny (by simp only [inKind]; omega)) ?_|refine o_rem rfl rfl rfl (by omega) (by omega) ?_|refine o_any rfl rfl ?_) |(refine gV ?_; refine o_conv rfl rfl (wrapAny (by simp only [inKind]; omega)) ?_) |(refine gL ?_; refine o_load1R rfl rfl (by assumption) rfl rfl ?_) |(refine gN ?_; refine o_loadNR rfl rfl (by assumption) rfl (by first|exact Nat.le_of_ble_eq_true rfl|(simp; done)|omega) rfl ?_) |(refine gS ?_; refine o_storeR rfl rfl rfl rfl rfl (by assumption) (by first|exact Nat.le_of_ble_eq_true rfl|(simp; done)|omega) ?_) |refine o_anyX rfl rfl rfl ?_ |refine o_anyN rfl rfl ?_) |(show wp _ _ _ _ _; first |refine w_opsS ?_ |refine w_ops ?_ |(refine gW ?_; first|refine w_condY rfl (by first|rfl|assumption|exact y1 (by omega)|exact y3 (by omega)|exact y5 (by omega)) ?_|refine w_condN rfl (by first|rfl|assumption|exact y2 (by omega)|exact y4 (by omega)|exact y6 (by omega)) ?_) |refine w_seq ?_ |refine w_opsX ?_ |refine w_block ?_ |refine w_exit ?_ |refine w_ret ?_ |refine w_skip ?_))
    refine rnd_again rfl ?_
    exact whole3 m s hm L hL h hg Q hQ d (i + 1) (by omega)
end
end Go.Proofs.Ytboioafflppnfaa

/- What is picked, and what isn't, is all, each once: the call. Conditions: none. -/
namespace Go.Proofs.Ytboioafflppnfaa
open Go.Cm
set_option linter.unusedVariables false
set_option linter.unusedSimpArgs false
set_option linter.unusedSectionVars false
set_option maxRecDepth 100000
set_option maxHeartbeats 10000000

def isBlock (r : Value × Heap) : Bool := match r.1 with
  | .tuple vs => (match vs.toList with | [.string s, .int .i64 0] => s.size == 64 | _ => false)
  | _ => false
def textOf (r : Option (Value × Heap)) : ByteArray := match r with
  | some (.tuple vs, _) => (match vs.toList with | [.string s, _] => s | _ => .empty)
  | _ => .empty
/-- the text that chacha.Block makes -/
def blkS (k : Nat → Int) (c : Nat) : ByteArray := textOf (evalCall (lookF tab) 60 F_chacha_Block [.agg (keyL k).toArray, .string nonce3, .int .u32 c] ⟨0, []⟩)
theorem block_run (k : Nat → Int) (c : Int) : (evalCall (lookF tab) 60 F_chacha_Block [.agg (keyL k).toArray, .string nonce3, .int .u32 c] ⟨0, []⟩).map isBlock = some true := by kernel_rfl
theorem block_is (k : Nat → Int) (c : Nat) : ∃ h1, evalCall (lookF tab) 60 F_chacha_Block [.agg (keyL k).toArray, .string nonce3, .int .u32 c] ⟨0, []⟩ = some (.tuple #[.string (blkS k c), .int .i64 0], h1) ∧ (blkS k c).size = 64 := by
  have H := block_run k c
  unfold blkS
  generalize evalCall (lookF tab) 60 F_chacha_Block [.agg (keyL k).toArray, .string nonce3, .int .u32 c] ⟨0, []⟩ = r at H ⊢
  cases r with
  | none => cases H
  | some p =>
    obtain ⟨v, h1⟩ := p
    simp only [Option.map_some, Option.some.injEq, isBlock] at H
    split at H
    · rename_i vs
      split at H
      · rename_i s e
        obtain ⟨vs⟩ := vs
        simp only at e
        subst e
        exact ⟨h1, rfl, by simpa [textOf] using H⟩
      · cases H
    · cases H
theorem awake_run : (evalCall (lookF tab) 100 F_law29_awake [] ⟨0, []⟩).map (·.1) = some (.bool true) := by kernel_rfl

section
variable {M : Prg} (hp : PureClosed M) (hf : M.fn = lookF tab) (hso : ∀ g args h v h', SortAns F_sort g args h v h' → Ev M (.call g args h v h'))
include hp hf

theorem blockC (k : Nat → Int) (c : Nat) (h : Heap) : Cl M F_chacha_Block [.agg (keyL k).toArray, .string nonce3, .int .u32 c] h fun v h' => v = .tuple #[.string (blkS k c), .int .i64 0] ∧ h' = h := by
  obtain ⟨h1, e, _⟩ := block_is k c
  exact Cl.run hp hf 60 h e rfl ⟨_, _, rfl, rfl, rfl⟩
theorem awakeC (h : Heap) : Cl M F_law29_awake [] h fun v h' => v = .bool true ∧ h' = h := by
  refine Cl.run hp hf 100 h rfl rfl ?_
  have H := awake_run
  generalize evalCall (lookF tab) 100 F_law29_awake [] ⟨0, []⟩ = r at H ⊢
  cases r with
  | none => cases H
  | some p =>
    obtain ⟨v, h1⟩ := p
    simp only [Option.map_some, Option.some.injEq] at H
    subst H
    exact ⟨_, _, rfl, rfl, rfl⟩

include hso
theorem wholeC (k : Nat → Int) (n q : Int) (hn : 0 ≤ n ∧ n < 256) (hq : 0 ≤ q ∧ q < 256) (h : Heap) : Cl M F_law29_SampleWhole [.agg (keyL k).toArray, .int .u8 n, .int .u8 q] h fun v h' => v = .bool true := by
  refine w_call (F := M_law29_SampleWhole) (by rw [hf]; rfl) rfl ?_
  have hg : (h.push (.rw (keyL k))).get? h.n = some (.rw (keyL k)) := Heap.get?_push_new
  obtain ⟨m, hm, hm24⟩ : ∃ m : Nat, n % 25 = m ∧ m ≤ 24 := ⟨(n % 25).toNat, by omega, by omega⟩
  obtain ⟨j, hj, hjm⟩ : ∃ j : Nat, q % ((m : Int) + 1) = j ∧ j ≤ m := ⟨(q % ((m : Int) + 1)).toNat, by have := Int.emod_nonneg q (show (m : Int) + 1 ≠ 0 by omega); omega, by have := Int.emod_lt_of_pos q (show 0 < (m : Int) + 1 by omega); have := Int.emod_nonneg q (show (m : Int) + 1 ≠ 0 by omega); omega⟩
  repeat (first |((with_reducible show wpO _ _ _ _ _); first |refine o_mv rfl rfl ?_ |refine o_lenV rfl rfl ?_ |refine o_ext rfl rfl rfl ?_ |refine o_nil ?_ |(refine gG ?_; first|refine o_gdY rfl (by first|rfl|assumption|exact y1 (by omega)|exact y2 (by omega)|exact y3 (by omega)|exact y4 (by omega)|exact y5 (by omega)|exact y6 (by omega)) ?_|refine o_gdN rfl (by first|rfl|assumption|exact y1 (by omega)|exact y2 (by omega)|exact y3 (by omega)|exact y4 (by omega)|exact y5 (by omega)|exact y6 (by omega)) ?_|refine o_pass rfl ?_|refine o_passN rfl ?_) |(refine gP ?_; first|refine o_pickY rfl rfl (by first|rfl|assumption|exact y1 (by omega)|exact y3 (by omega)|exact y5 (by omega)) rfl ?_|refine o_pickN rfl rfl (by first|rfl|assumption|exact y2 (by omega)|exact y4 (by omega)|exact y6 (by omega)) rfl ?_) |(refine gA ?_; first|refine o_add rfl rfl rfl (wrapAny (by simp only [inKind]; omega)) ?_|refine o_sub rfl rfl rfl (wrapAny (by simp only [inKind]; omega)) ?_|refine o_mul rfl rfl rfl (wrapAny (by simp only [inKind]; omega)) ?_|refine o_quo rfl rfl rfl (by omega) (by omega) (wrapAny (by simp only [inKind]; omega)) ?_|refine o_rem rfl rfl rfl (by omega) (by omega) ?_|refine o_any rfl rfl ?_) |(refine gV ?_; refine o_conv rfl rfl (wrapAny (by simp only [inKind]; omega)) ?_) |(refine gL ?_; refine o_load1R rfl rfl (by assumption) rfl rfl ?_) |(refine gN ?_; refine o_loadNR rfl rfl (by assumption) rfl (by first|exact Nat.le_of_ble_eq_true rfl|(simp; done)|omega) rfl ?_) |(refine gS ?_; refine o_storeR rfl rfl rfl rfl rfl (by assumption) (by first|exact Nat.le_of_ble_eq_true rfl|(simp; done)|omega) ?_) |refine o_anyX rfl rfl rfl ?_ |refine o_anyN rfl rfl ?_) |(show wp _ _ _ _ _; first |refine w_opsS ?_ |refine w_ops ?_ |(refine gW ?_; first|refine w_condY rfl (by first|rfl|assumption|exact y1 (by omega)|exact y3 (by omega)|exact y5 (by omega)) ?_|refine w_condN rfl (by first|rfl|assumption|exact y2 (by omega)|exact y4 (by omega)|exact y6 (by omega)) ?_) |refine w_seq ?_ |refine w_opsX ?_ |refine w_block ?_ |refine w_exit ?_ |refine w_ret ?_ |refine w_skip ?_))
  rw [hm, hj]
  refine o_call rfl rfl (pickC hp hf hso k (blkS k) (fun c => by obtain ⟨_, _, e⟩ := block_is k c; exact e) (fun c _ h => blockC hp hf k c h) m j hm24 hjm _) ?_
  rintro v h1 ⟨hle, H⟩
  rcases H with ⟨hn0, rfl⟩ | ⟨l, va, hl, rfl, hva⟩
  · repeat (first |((with_reducible show wpO _ _ _ _ _); first |refine o_mv rfl rfl ?_ |refine o_lenV rfl rfl ?_ |refine o_ext rfl rfl rfl ?_ |refine o_nil ?_ |(refine gG ?_; first|refine o_gdY rfl (by first|rfl|assumption|exact y1 (by omega)|exact y2 (by omega)|exact y3 (by omega)|exact y4 (by omega)|exact y5 (by omega)|exact y6 (by omega)) ?_|refine o_gdN rfl (by first|rfl|assumption|exact y1 (by omega)|exact y2 (by omega)|exact y3 (by omega)|exact y4 (by omega)|exact y5 (by omega)|exact y6 (by omega)) ?_|refine o_pass rfl ?_|refine o_passN rfl ?_) |(refine gP ?_; first|refine o_pickY rfl rfl (by first|rfl|assumption|exact y1 (by omega)|exact y3 (by omega)|exact y5 (by omega)) rfl ?_|refine o_pickN rfl rfl (by first|rfl|assumption|exact y2 (by omega)|exact y4 (by omega)|exact y6 (by omega)) rfl ?_) |(refine gC ?_; refine o_call rfl rfl (awakeC hp hf _) ?_; rintro v h' ⟨rfl, rfl⟩) |(refine gA ?_; first|refine o_add rfl rfl rfl (wrapAny (by simp only [inKind]; omega)) ?_|refine o_sub rfl rfl rfl (wrapAny (by simp only [inKind]; omega)) ?_|refine o_mul rfl rfl rfl (wrapAny (by simp only [inKind]; omega)) ?_|refine o_quo rfl rfl rfl (by omega) (by omega) (wrapAny (by simp only [inKind]; omega)) ?_|refine o_rem rfl rfl rfl (by omega) (by omega) ?_|refine o_any rfl rfl ?_) |(refine gV ?_; refine o_conv rfl rfl (wrapAny (by simp only [inKind]; omega)) ?_) |(refine gL ?_; refine o_load1R rfl rfl (by assumption) rfl rfl ?_) |(refine gN ?_; refine o_loadNR rfl rfl (by assumption) rfl (by first|exact Nat.le_of_ble_eq_true rfl|(simp; done)|omega) rfl ?_) |(refine gS ?_; refine o_storeR rfl rfl rfl rfl rfl (by assumption) (by first|exact Nat.le_of_ble_eq_true rfl|(simp; done)|omega) ?_) |refine o_anyX rfl rfl rfl ?_ |refine o_anyN rfl rfl ?_) |(show wp _ _ _ _ _; first |refine w_opsS ?_ |refine w_ops ?_ |(refine gW ?_; first|refine w_condY rfl (by first|rfl|assumption|exact y1 (by omega)|exact y3 (by omega)|exact y5 (by omega)) ?_|refine w_condN rfl (by first|rfl|assumption|exact y2 (by omega)|exact y4 (by omega)|exact y6 (by omega)) ?_) |refine w_seq ?_ |refine w_opsX ?_ |refine w_block ?_ |refine w_exit ?_ |refine w_ret ?_ |refine w_skip ?_))
    exact ⟨.inr rfl, _, rfl, rfl⟩
  · have hll : l.length = m := by rw [shufN_length _ _ _ _ _ hl, iota_length]
    have hper : l.Perm (iota m) := shufN_perm _ _ _ _ _ (by rw [iota_length]; omega) hl
    have hnod : l.Nodup := hper.nodup_iff.2 (iota_nodup m)
    have htk : (l.take j).Nodup := hnod.sublist (List.take_sublist _ _)
    have hst := isort_strict htk
    have hin : ∀ x ∈ isort (l.take j), 0 ≤ x ∧ x < m := fun x hx => mem_iota.1 (hper.mem_iff.1 (List.mem_of_mem_take ((isort_perm _).mem_iff.1 hx)))
    have hil : (isort (l.take j)).length = j := by rw [(isort_perm _).length_eq, List.length_take]; omega
    generalize isort (l.take j) = P at hva hst hin hil
    subst hil
    obtain ⟨hr1, hr2⟩ := restG_perm m 0 P hst (fun x hx => by have := hin x hx; omega)
    have hr3 : ((restG m 0 P).1 ++ P).Perm (iota m) := by
      refine hr2.trans ?_
      have : (List.range m).map (fun k : Nat => (0 : Int) + (k : Int)) = iota m := List.map_congr_left fun k _ => by omega
      rw [this]
    have hvl := hva.val
    obtain ⟨aa, cap, rfl⟩ := hvl
    repeat (first |((with_reducible show wpO _ _ _ _ _); first |refine o_mv rfl rfl ?_ |refine o_lenV rfl rfl ?_ |refine o_ext rfl rfl rfl ?_ |refine o_nil ?_ |(refine gG ?_; first|refine o_gdY rfl (by first|rfl|assumption|exact y1 (by omega)|exact y2 (by omega)|exact y3 (by omega)|exact y4 (by omega)|exact y5 (by omega)|exact y6 (by omega)) ?_|refine o_gdN rfl (by first|rfl|assumption|exact y1 (by omega)|exact y2 (by omega)|exact y3 (by omega)|exact y4 (by omega)|exact y5 (by omega)|exact y6 (by omega)) ?_|refine o_pass rfl ?_|refine o_passN rfl ?_) |(refine gP ?_; first|refine o_pickY rfl rfl (by first|rfl|assumption|exact y1 (by omega)|exact y3 (by omega)|exact y5 (by omega)) rfl ?_|refine o_pickN rfl rfl (by first|rfl|assumption|exact y2 (by omega)|exact y4 (by omega)|exact y6 (by omega)) rfl ?_) |(refine gA ?_; first|refine o_add rfl rfl rfl (wrapAny (by simp only [inKind]; omega)) ?_|refine o_sub rfl rfl rfl (wrapAny (by simp only [inKind]; omega)) ?_|refine o_mul rfl rfl rfl (wrapAny (by simp only [inKind]; omega)) ?_|refine o_quo rfl rfl rfl (by omega) (by omega) (wrapAny (by simp only [inKind]; omega)) ?_|refine o_rem rfl rfl rfl (by omega) (by omega) ?_|refine o_any rfl rfl ?_) |(refine gV ?_; refine o_conv rfl rfl (wrapAny (by simp only [inKind]; omega)) ?_) |(refine gL ?_; refine o_load1R rfl rfl (by assumption) rfl rfl ?_) |(refine gN ?_; refine o_loadNR rfl rfl (by assumption) rfl (by first|exact Nat.le_of_ble_eq_true rfl|(simp; done)|omega) rfl ?_) |(refine gS ?_; refine o_storeR rfl rfl rfl rfl rfl (by assumption) (by first|exact Nat.le_of_ble_eq_true rfl|(simp; done)|omega) ?_) |refine o_anyX rfl rfl rfl ?_ |refine o_anyN rfl rfl ?_) |(show wp _ _ _ _ _; first |refine w_opsS ?_ |refine w_ops ?_ |(refine gW ?_; first|refine w_condY rfl (by first|rfl|assumption|exact y1 (by omega)|exact y3 (by omega)|exact y5 (by omega)) ?_|refine w_condN rfl (by first|rfl|assumption|exact y2 (by omega)|exact y4 (by omega)|exact y6 (by omega)) ?_) |refine w_seq ?_ |refine w_opsX ?_ |refine w_block ?_ |refine w_exit ?_ |refine w_ret ?_ |refine w_skip ?_))
    refine o_call rfl rfl (restC hp hf m hm24 _ P (by omega) h1 hva) ?_
    rintro v h2 ⟨hle2, H2⟩
    rcases H2 with ⟨hx, _⟩ | ⟨_, vo, rfl, how⟩
    · exact absurd hr1 hx
    generalize (restG m 0 P).1 = O at hr3 how
    have hol : O.length + P.length = m := by
      have := hr3.length_eq
      rw [List.length_append, iota_length] at this; exact this
    obtain ⟨no, hno, hvo⟩ := how.sl
    rw [List.length_map, Nat.mul_one] at hno
    subst hno
    have hva2 := hva.le hle2
    have hvl2 := hvo.val
    obtain ⟨ab, capb, rfl⟩ := hvl2
    repeat (first |((with_reducible show wpO _ _ _ _ _); first |refine o_mv rfl rfl ?_ |refine o_lenV rfl rfl ?_ |refine o_ext rfl rfl rfl ?_ |refine o_nil ?_ |(refine gG ?_; first|refine o_gdY rfl (by first|rfl|assumption|exact y1 (by omega)|exact y2 (by omega)|exact y3 (by omega)|exact y4 (by omega)|exact y5 (by omega)|exact y6 (by omega)) ?_|refine o_gdN rfl (by first|rfl|assumption|exact y1 (by omega)|exact y2 (by omega)|exact y3 (by omega)|exact y4 (by omega)|exact y5 (by omega)|exact y6 (by omega)) ?_|refine o_pass rfl ?_|refine o_passN rfl ?_) |(refine gP ?_; first|refine o_pickY rfl rfl (by first|rfl|assumption|exact y1 (by omega)|exact y3 (by omega)|exact y5 (by omega)) rfl ?_|refine o_pickN rfl rfl (by first|rfl|assumption|exact y2 (by omega)|exact y4 (by omega)|exact y6 (by omega)) rfl ?_) |(refine gA ?_; first|refine o_add rfl rfl rfl (wrapAny (by simp only [inKind]; omega)) ?_|refine o_sub rfl rfl rfl (wrapAny (by simp only [inKind]; omega)) ?_|refine o_mul rfl rfl rfl (wrapAny (by simp only [inKind]; omega)) ?_|refine o_quo rfl rfl rfl (by omega) (by omega) (wrapAny (by simp only [inKind]; omega)) ?_|refine o_rem rfl rfl rfl (by omega) (by omega) ?_|refine o_any rfl rfl ?_) |(refine gV ?_; refine o_conv rfl rfl (wrapAny (by simp only [inKind]; omega)) ?_) |(refine gL ?_; refine o_load1R rfl rfl (by assumption) rfl rfl ?_) |(refine gN ?_; refine o_loadNR rfl rfl (by assumption) rfl (by first|exact Nat.le_of_ble_eq_true rfl|(simp; done)|omega) rfl ?_) |(refine gS ?_; refine o_storeR rfl rfl rfl rfl rfl (by assumption) (by first|exact Nat.le_of_ble_eq_true rfl|(simp; done)|omega) ?_) |refine o_anyX rfl rfl rfl ?_ |refine o_anyN rfl rfl ?_) |(show wp _ _ _ _ _; first |refine w_opsS ?_ |refine w_ops ?_ |(refine gW ?_; first|refine w_condY rfl (by first|rfl|assumption|exact y1 (by omega)|exact y3 (by omega)|exact y5 (by omega)) ?_|refine w_condN rfl (by first|rfl|assumption|exact y2 (by omega)|exact y4 (by omega)|exact y6 (by omega)) ?_) |refine w_seq ?_ |refine w_opsX ?_ |refine w_block ?_ |refine w_exit ?_ |refine w_ret ?_ |refine w_skip ?_))
    have hg3 : (h2.push (.rw (cnt []))).get? h2.n = some (.rw (cnt [])) := Heap.get?_push_new
    rw [cnt_nil] at hg3
    have hva3 := hva2.le (Le.push (o := .rw (cnt [])))
    have hvo3 := hvo.le (Le.push (o := .rw (cnt [])))
    rw [cnt_nil] at hva3 hvo3
    have hnea : ∀ c off n k, Value.slice aa P.length cap = .slice (some ⟨c, off, none⟩) n k → 0 < P.length → c ≠ h2.n := by
      intro c off n k e hpos
      rcases hva2 with ⟨_, _, e1, e2, _⟩ | ⟨c', off', cap', o', all', e1, q1, _⟩
      · omega
      · rw [e] at e1; cases e1
        have := Heap.get?_lt q1; omega
    have hneb : ∀ c off n k, Value.slice ab O.length capb = .slice (some ⟨c, off, none⟩) n k → 0 < O.length → c ≠ h2.n := by
      intro c off n k e hpos
      rcases hvo with ⟨_, _, e1, e2, _⟩ | ⟨c', off', cap', o', all', e1, q1, _⟩
      · omega
      · rw [e] at e1; cases e1
        have := Heap.get?_lt q1; omega
    rw [← cnt_nil] at hg3 hva3 hvo3
    have hcount : ∀ x : Nat, x < m → (P ++ O).count (x : Int) = 1 := by
      intro x hx
      have h1 : (P ++ O).count (x : Int) = (iota m).count (x : Int) := by rw [← hr3.count_eq, List.count_append, List.count_append]; omega
      rw [h1]
      have h2 := (iota_nodup m).count (a := (x : Int))
      rw [h2, if_pos (mem_iota.2 (by omega))]
    have hmo : ∀ x ∈ O, 0 ≤ x ∧ x < m := fun x hx => mem_iota.1 (hr3.mem_iff.1 (by simp [hx]))
    have hp0 : h2.push (.rw (cnt [])) = h2.push (.rw [.int .i64 0, .int .i64 0, .int .i64 0, .int .i64 0, .int .i64 0, .int .i64 0, .int .i64 0, .int .i64 0, .int .i64 0, .int .i64 0, .int .i64 0, .int .i64 0, .int .i64 0, .int .i64 0, .int .i64 0, .int .i64 0, .int .i64 0, .int .i64 0, .int .i64 0, .int .i64 0, .int .i64 0, .int .i64 0, .int .i64 0, .int .i64 0, .int .i64 0]) := by rw [cnt_nil]
    rw [← hp0]
    generalize h2.push (.rw (cnt [])) = h3 at hg3 hva3 hvo3 ⊢
    refine w_loop rfl ?_
    refine whole1 hp hf m h2.n hm24 _ _ P hin hst h3 hva3 hnea (by omega) _ P.length 0 h3 (by omega) Only.refl (by simpa using hg3) ?_
    intro h4 u1 u2 u3 u4 ho4 hg4
    repeat (first |((with_reducible show wpO _ _ _ _ _); first |refine o_mv rfl rfl ?_ |refine o_lenV rfl rfl ?_ |refine o_ext rfl rfl rfl ?_ |refine o_nil ?_ |(refine gG ?_; first|refine o_gdY rfl (by first|rfl|assumption|exact y1 (by omega)|exact y2 (by omega)|exact y3 (by omega)|exact y4 (by omega)|exact y5 (by omega)|exact y6 (by omega)) ?_|refine o_gdN rfl (by first|rfl|assumption|exact y1 (by omega)|exact y2 (by omega)|exact y3 (by omega)|exact y4 (by omega)|exact y5 (by omega)|exact y6 (by omega)) ?_|refine o_pass rfl ?_|refine o_passN rfl ?_) |(refine gP ?_; first|refine o_pickY rfl rfl (by first|rfl|assumption|exact y1 (by omega)|exact y3 (by omega)|exact y5 (by omega)) rfl ?_|refine o_pickN rfl rfl (by first|rfl|assumption|exact y2 (by omega)|exact y4 (by omega)|exact y6 (by omega)) rfl ?_) |(refine gA ?_; first|refine o_add rfl rfl rfl (wrapAny (by simp only [inKind]; omega)) ?_|refine o_sub rfl rfl rfl (wrapAny (by simp only [inKind]; omega)) ?_|refine o_mul rfl rfl rfl (wrapAny (by simp only [inKind]; omega)) ?_|refine o_quo rfl rfl rfl (by omega) (by omega) (wrapAny (by simp only [inKind]; omega)) ?_|refine o_rem rfl rfl rfl (by omega) (by omega) ?_|refine o_any rfl rfl ?_) |(refine gV ?_; refine o_conv rfl rfl (wrapAny (by simp only [inKind]; omega)) ?_) |(refine gL ?_; refine o_load1R rfl rfl (by assumption) rfl rfl ?_) |(refine gN ?_; refine o_loadNR rfl rfl (by assumption) rfl (by first|exact Nat.le_of_ble_eq_true rfl|(simp; done)|omega) rfl ?_) |(refine gS ?_; refine o_storeR rfl rfl rfl rfl rfl (by assumption) (by first|exact Nat.le_of_ble_eq_true rfl|(simp; done)|omega) ?_) |refine o_anyX rfl rfl rfl ?_ |refine o_anyN rfl rfl ?_) |(show wp _ _ _ _ _; first |refine w_opsS ?_ |refine w_ops ?_ |(refine gW ?_; first|refine w_condY rfl (by first|rfl|assumption|exact y1 (by omega)|exact y3 (by omega)|exact y5 (by omega)) ?_|refine w_condN rfl (by first|rfl|assumption|exact y2 (by omega)|exact y4 (by omega)|exact y6 (by omega)) ?_) |refine w_seq ?_ |refine w_opsX ?_ |refine w_block ?_ |refine w_exit ?_ |refine w_ret ?_ |refine w_skip ?_))
    refine w_loop rfl ?_
    refine whole2 hp hf m h2.n hm24 _ P O hmo h4 (hvo3.only ho4 hneb) hneb (by omega) (by omega) _ O.length 0 h4 (by omega) Only.refl (by simpa using hg4) ?_
    intro h5 v1 v2 v3 v4 ho5 hg5
    repeat (first |((with_reducible show wpO _ _ _ _ _); first |refine o_mv rfl rfl ?_ |refine o_lenV rfl rfl ?_ |refine o_ext rfl rfl rfl ?_ |refine o_nil ?_ |(refine gG ?_; first|refine o_gdY rfl (by first|rfl|assumption|exact y1 (by omega)|exact y2 (by omega)|exact y3 (by omega)|exact y4 (by omega)|exact y5 (by omega)|exact y6 (by omega)) ?_|refine o_gdN rfl (by first|rfl|assumption|exact y1 (by omega)|exact y2 (by omega)|exact y3 (by omega)|exact y4 (by omega)|exact y5 (by omega)|exact y6 (by omega)) ?_|refine o_pass rfl ?_|refine o_passN rfl ?_) |(refine gP ?_; first|refine o_pickY rfl rfl (by first|rfl|assumption|exact y1 (by omega)|exact y3 (by omega)|exact y5 (by omega)) rfl ?_|refine o_pickN rfl rfl (by first|rfl|assumption|exact y2 (by omega)|exact y4 (by omega)|exact y6 (by omega)) rfl ?_) |(refine gA ?_; first|refine o_add rfl rfl rfl (wrapAny (by simp only [inKind]; omega)) ?_|refine o_sub rfl rfl rfl (wrapAny (by simp only [inKind]; omega)) ?_|refine o_mul rfl rfl rfl (wrapAny (by simp only [inKind]; omega)) ?_|refine o_quo rfl rfl rfl (by omega) (by omega) (wrapAny (by simp only [inKind]; omega)) ?_|refine o_rem rfl rfl rfl (by omega) (by omega) ?_|refine o_any rfl rfl ?_) |(refine gV ?_; refine o_conv rfl rfl (wrapAny (by simp only [inKind]; omega)) ?_) |(refine gL ?_; refine o_load1R rfl rfl (by assumption) rfl rfl ?_) |(refine gN ?_; refine o_loadNR rfl rfl (by assumption) rfl (by first|exact Nat.le_of_ble_eq_true rfl|(simp; done)|omega) rfl ?_) |(refine gS ?_; refine o_storeR rfl rfl rfl rfl rfl (by assumption) (by first|exact Nat.le_of_ble_eq_true rfl|(simp; done)|omega) ?_) |refine o_anyX rfl rfl rfl ?_ |refine o_anyN rfl rfl ?_) |(show wp _ _ _ _ _; first |refine w_opsS ?_ |refine w_ops ?_ |(refine gW ?_; first|refine w_condY rfl (by first|rfl|assumption|exact y1 (by omega)|exact y3 (by omega)|exact y5 (by omega)) ?_|refine w_condN rfl (by first|rfl|assumption|exact y2 (by omega)|exact y4 (by omega)|exact y6 (by omega)) ?_) |refine w_seq ?_ |refine w_opsX ?_ |refine w_block ?_ |refine w_exit ?_ |refine w_ret ?_ |refine w_skip ?_))
    refine w_loop rfl ?_
    refine whole3 hp hf m h2.n hm24 (P ++ O) hcount h5 hg5 _ ?_ m 0 (by omega)
    intro w1 w2 w3
    repeat (first |((with_reducible show wpO _ _ _ _ _); first |refine o_mv rfl rfl ?_ |refine o_lenV rfl rfl ?_ |refine o_ext rfl rfl rfl ?_ |refine o_nil ?_ |(refine gG ?_; first|refine o_gdY rfl (by first|rfl|assumption|exact y1 (by omega)|exact y2 (by omega)|exact y3 (by omega)|exact y4 (by omega)|exact y5 (by omega)|exact y6 (by omega)) ?_|refine o_gdN rfl (by first|rfl|assumption|exact y1 (by omega)|exact y2 (by omega)|exact y3 (by omega)|exact y4 (by omega)|exact y5 (by omega)|exact y6 (by omega)) ?_|refine o_pass rfl ?_|refine o_passN rfl ?_) |(refine gP ?_; first|refine o_pickY rfl rfl (by first|rfl|assumption|exact y1 (by omega)|exact y3 (by omega)|exact y5 (by omega)) rfl ?_|refine o_pickN rfl rfl (by first|rfl|assumption|exact y2 (by omega)|exact y4 (by omega)|exact y6 (by omega)) rfl ?_) |(refine gC ?_; refine o_call rfl rfl (awakeC hp hf _) ?_; rintro v h' ⟨rfl, rfl⟩) |(refine gA ?_; first|refine o_add rfl rfl rfl (wrapAny (by simp only [inKind]; omega)) ?_|refine o_sub rfl rfl rfl (wrapAny (by simp only [inKind]; omega)) ?_|refine o_mul rfl rfl rfl (wrapAny (by simp only [inKind]; omega)) ?_|refine o_quo rfl rfl rfl (by omega) (by omega) (wrapAny (by simp only [inKind]; omega)) ?_|refine o_rem rfl rfl rfl (by omega) (by omega) ?_|refine o_any rfl rfl ?_) |(refine gV ?_; refine o_conv rfl rfl (wrapAny (by simp only [inKind]; omega)) ?_) |(refine gL ?_; refine o_load1R rfl rfl (by assumption) rfl rfl ?_) |(refine gN ?_; refine o_loadNR rfl rfl (by assumption) rfl (by first|exact Nat.le_of_ble_eq_true rfl|(simp; done)|omega) rfl ?_) |(refine gS ?_; refine o_storeR rfl rfl rfl rfl rfl (by assumption) (by first|exact Nat.le_of_ble_eq_true rfl|(simp; done)|omega) ?_) |refine o_anyX rfl rfl rfl ?_ |refine o_anyN rfl rfl ?_) |(show wp _ _ _ _ _; first |refine w_opsS ?_ |refine w_ops ?_ |(refine gW ?_; first|refine w_condY rfl (by first|rfl|assumption|exact y1 (by omega)|exact y3 (by omega)|exact y5 (by omega)) ?_|refine w_condN rfl (by first|rfl|assumption|exact y2 (by omega)|exact y4 (by omega)|exact y6 (by omega)) ?_) |refine w_seq ?_ |refine w_opsX ?_ |refine w_block ?_ |refine w_exit ?_ |refine w_ret ?_ |refine w_skip ?_))
    exact ⟨.inr rfl, _, rfl, rfl⟩
end
end Go.Proofs.Ytboioafflppnfaa

/- The order that every coin puts numbers in, and which it picks: program and reference. Conditions: none. -/
namespace Go.Proofs.Ytboioafflppnfaa
open Go.Cm
set_option linter.unusedVariables false
set_option linter.unusedSimpArgs false
set_option linter.unusedSectionVars false
set_option maxRecDepth 100000
set_option maxHeartbeats 1000000

/-- an answer: a list of numbers and an error's number -/
def Ans (L : List Int) (e : Int) (h : Heap) (v : Value) (h' : Heap) : Prop := Le h h' ∧ ∃ va, v = .tuple #[va, .int .i64 e] ∧ Sl h' 1 va L.length (L.map (.int .i64))
theorem Ans.none {e : Int} {h h' : Heap} (l : Le h h') : Ans [] e h (.tuple #[.slice none 0 0, .int .i64 e]) h' := ⟨l, _, rfl, .inl ⟨_, _, rfl, rfl, rfl⟩⟩

section
variable {M : Prg} (hp : PureClosed M) (hf : M.fn = lookF tab) (hso : ∀ g args h v h', SortAns F_sort g args h v h' → Ev M (.call g args h v h'))
include hp hf

theorem shufBoth (k : Nat → Int) (n : Int) : ∃ L e, L.length ≤ 24 ∧ (∀ h, Cl M F_sample_Shuffle [.agg (keyL k).toArray, .int .i64 n] h (Ans L e h)) ∧ ∀ h, Cl M F_ref29_Shuffle [.agg (keyL k).toArray, .int .i64 n] h (Ans L e h) := by
  by_cases hn : n < 0 ∨ 24 < n
  · refine ⟨[], 2, by simp, fun h => (shuffleBad hp hf k n hn h).mono ?_, fun h => (refShuffleBad hp hf k n hn h).mono ?_⟩
    · rintro v h' ⟨rfl, hle⟩; exact .none hle
    · rintro v h' ⟨rfl, hle⟩; exact .none hle
  · obtain ⟨m, rfl⟩ : ∃ m : Nat, n = m := ⟨n.toNat, by omega⟩
    have h1 := fun h => shuffleC hp hf k (fun c : Nat => blkT k (c : Int)) (fun c => blkT_size k c) (fun c _ h => blockT hp hf k c h) m (by omega) h
    have h2 := fun h => refShuffleC hp hf k m (by omega) h
    change ∀ h, Cl M F_sample_Shuffle _ h fun v h' => Le h h' ∧ ((shufN (WT k) _ _ _ = none ∧ _) ∨ ∃ l c, shufN (WT k) _ _ _ = some l ∧ _) at h1
    have hlen := fun l hl => (shufN_length (WT k) (m - 1) (iota m) 0 l hl).trans (iota_length m)
    generalize shufN (WT k) (m - 1) (iota m) 0 = r at h1 h2 hlen
    cases r with
    | none =>
      refine ⟨[], 24, by simp, fun h => (h1 h).mono ?_, fun h => (h2 h).mono ?_⟩
      · rintro v h' ⟨hle, ⟨_, rfl⟩ | ⟨l, c, hc, _⟩⟩
        · exact .none hle
        · cases hc
      · rintro v h' ⟨hle, ⟨_, rfl⟩ | ⟨l, c, hc, _⟩⟩
        · exact .none hle
        · cases hc
    | some L =>
      have hL := hlen L rfl
      refine ⟨L, 0, by omega, fun h => (h1 h).mono ?_, fun h => (h2 h).mono ?_⟩
      · rintro v h' ⟨hle, ⟨hc, _⟩ | ⟨l, c, hc, _, rfl, hg⟩⟩
        · cases hc
        · cases hc
          refine ⟨hle, _, rfl, ?_⟩
          rw [hL]
          by_cases hm : m = 0
          · subst hm
            have : L = [] := List.eq_nil_of_length_eq_zero hL
            subst this
            exact .inl ⟨_, _, rfl, rfl, rfl⟩
          · exact .inr ⟨c, 0, m, _, _, rfl, hg, rfl, by simp; omega, by rw [List.drop_zero, Nat.mul_one, List.take_of_length_le (by simp; omega)], by omega⟩
      · rintro v h' ⟨hle, ⟨hc, _⟩ | ⟨l, va, hc, rfl, hsl⟩⟩
        · cases hc
        · cases hc
          exact ⟨hle, va, rfl, by rw [hL]; exact hsl⟩

include hso
theorem pickBoth (k : Nat → Int) (n q : Int) : ∃ L e, L.length ≤ 24 ∧ (∀ h, Cl M F_sample_Pick [.agg (keyL k).toArray, .int .i64 n, .int .i64 q] h (Ans L e h)) ∧ ∀ h, Cl M F_ref29_Pick [.agg (keyL k).toArray, .int .i64 n, .int .i64 q] h (Ans L e h) := by
  by_cases hq : q < 0 ∨ n < q
  · refine ⟨[], 1, by simp, fun h => (pickBad hp hf hso k n q hq h).mono ?_, fun h => (refPickBad hp hf k n q hq h).mono ?_⟩
    · rintro v h' ⟨rfl, hle⟩; exact .none hle
    · rintro v h' ⟨rfl, hle⟩; exact .none hle
  · by_cases hn : 24 < n
    · refine ⟨[], 2, by simp, fun h => (pickLimit hp hf hso k n q hn (by omega) h).mono ?_, fun h => (refPickLimit hp hf k n q hn (by omega) h).mono ?_⟩
      · rintro v h' ⟨rfl, hle⟩; exact .none hle
      · rintro v h' ⟨rfl, hle⟩; exact .none hle
    · obtain ⟨m, rfl⟩ : ∃ m : Nat, n = m := ⟨n.toNat, by omega⟩
      obtain ⟨j, rfl⟩ : ∃ j : Nat, q = j := ⟨q.toNat, by omega⟩
      have h1 := fun h => pickC hp hf hso k (fun c : Nat => blkT k (c : Int)) (fun c => blkT_size k c) (fun c _ h => blockT hp hf k c h) m j (by omega) (by omega) h
      have h2 := fun h => refPickC hp hf k m j (by omega) (by omega) h
      change ∀ h, Cl M F_sample_Pick _ h fun v h' => Le h h' ∧ ((shufN (WT k) _ _ _ = none ∧ _) ∨ ∃ l va, shufN (WT k) _ _ _ = some l ∧ _) at h1
      have hlen := fun l hl => (shufN_length (WT k) (m - 1) (iota m) 0 l hl).trans (iota_length m)
      generalize shufN (WT k) (m - 1) (iota m) 0 = r at h1 h2 hlen
      cases r with
      | none =>
        refine ⟨[], 24, by simp, fun h => (h1 h).mono ?_, fun h => (h2 h).mono ?_⟩
        · rintro v h' ⟨hle, ⟨_, rfl⟩ | ⟨l, c, hc, _⟩⟩
          · exact .none hle
          · cases hc
        · rintro v h' ⟨hle, ⟨_, rfl⟩ | ⟨l, c, hc, _⟩⟩
          · exact .none hle
          · cases hc
      | some L =>
        have hL := hlen L rfl
        have hil : (isort (L.take j)).length = j := by rw [(isort_perm _).length_eq, List.length_take]; omega
        refine ⟨isort (L.take j), 0, by omega, fun h => (h1 h).mono ?_, fun h => (h2 h).mono ?_⟩
        · rintro v h' ⟨hle, ⟨hc, _⟩ | ⟨l, va, hc, rfl, hsl⟩⟩
          · cases hc
          · cases hc
            exact ⟨hle, va, rfl, by rw [hil]; exact hsl⟩
        · rintro v h' ⟨hle, ⟨hc, _⟩ | ⟨l, va, hc, rfl, hsl⟩⟩
          · cases hc
          · cases hc
            exact ⟨hle, va, rfl, by rw [hil]; exact hsl⟩

theorem shufflesC (k : Nat → Int) (n q : Int) (h : Heap) : Cl M F_law29_SampleShuffles [.agg (keyL k).toArray, .int .i64 n, .int .i64 q] h fun v h' => v = .bool true := by
  refine w_call (F := M_law29_SampleShuffles) (by rw [hf]; rfl) rfl ?_
  have hg : (h.push (.rw (keyL k))).get? h.n = some (.rw (keyL k)) := Heap.get?_push_new
  obtain ⟨L1, e1, l1, a1, b1⟩ := shufBoth hp hf k n
  obtain ⟨L2, e2, l2, a2, b2⟩ := pickBoth hp hf hso k n q
  have d1 : decide (L1 = L1) = true := by simp
  have d2 : decide (L2 = L2) = true := by simp
  repeat (first |((with_reducible show wpO _ _ _ _ _); first |refine o_mv rfl rfl ?_ |refine o_lenV rfl rfl ?_ |refine o_ext rfl rfl rfl ?_ |refine o_nil ?_ |(refine gG ?_; first|refine o_gdY rfl (by first|rfl|assumption|exact y1 (by omega)|exact y2 (by omega)|exact y3 (by omega)|exact y4 (by omega)|exact y5 (by omega)|exact y6 (by omega)) ?_|refine o_gdN rfl (by first|rfl|assumption|exact y1 (by omega)|exact y2 (by omega)|exact y3 (by omega)|exact y4 (by omega)|exact y5 (by omega)|exact y6 (by omega)) ?_|refine o_pass rfl ?_|refine o_passN rfl ?_) |(refine gP ?_; first|refine o_pickY rfl rfl (by first|rfl|assumption|exact y1 (by omega)|exact y3 (by omega)|exact y5 (by omega)) rfl ?_|refine o_pickN rfl rfl (by first|rfl|assumption|exact y2 (by omega)|exact y4 (by omega)|exact y6 (by omega)) rfl ?_) |(refine gA ?_; first|refine o_add rfl rfl rfl (wrapAny (by simp only [inKind]; omega)) ?_|refine o_sub rfl rfl rfl (wrapAny (by simp only [inKind]; omega)) ?_|refine o_mul rfl rfl rfl (wrapAny (by simp only [inKind]; omega)) ?_|refine o_quo rfl rfl rfl (by omega) (by omega) (wrapAny (by simp only [inKind]; omega)) ?_|refine o_rem rfl rfl rfl (by omega) (by omega) ?_|refine o_any rfl rfl ?_) |(refine gV ?_; refine o_conv rfl rfl (wrapAny (by simp only [inKind]; omega)) ?_) |(refine gL ?_; refine o_load1R rfl rfl (by assumption) rfl rfl ?_) |(refine gN ?_; refine o_loadNR rfl rfl (by assumption) rfl (by first|exact Nat.le_of_ble_eq_true rfl|(simp; done)|omega) rfl ?_) |(refine gS ?_; refine o_storeR rfl rfl rfl rfl rfl (by assumption) (by first|exact Nat.le_of_ble_eq_true rfl|(simp; done)|omega) ?_) |refine o_anyX rfl rfl rfl ?_ |refine o_anyN rfl rfl ?_) |(show wp _ _ _ _ _; first |refine w_opsS ?_ |refine w_ops ?_ |(refine gW ?_; first|refine w_condY rfl (by first|rfl|assumption|exact y1 (by omega)|exact y3 (by omega)|exact y5 (by omega)) ?_|refine w_condN rfl (by first|rfl|assumption|exact y2 (by omega)|exact y4 (by omega)|exact y6 (by omega)) ?_) |refine w_seq ?_ |refine w_opsX ?_ |refine w_block ?_ |refine w_exit ?_ |refine w_ret ?_ |refine w_skip ?_))
  refine o_call rfl rfl (a1 _) ?_
  rintro v h1 ⟨hle1, va, rfl, s1⟩
  have hg1 := hle1.get hg
  repeat (first |((with_reducible show wpO _ _ _ _ _); first |refine o_mv rfl rfl ?_ |refine o_lenV rfl rfl ?_ |refine o_ext rfl rfl rfl ?_ |refine o_nil ?_ |(refine gG ?_; first|refine o_gdY rfl (by first|rfl|assumption|exact y1 (by omega)|exact y2 (by omega)|exact y3 (by omega)|exact y4 (by omega)|exact y5 (by omega)|exact y6 (by omega)) ?_|refine o_gdN rfl (by first|rfl|assumption|exact y1 (by omega)|exact y2 (by omega)|exact y3 (by omega)|exact y4 (by omega)|exact y5 (by omega)|exact y6 (by omega)) ?_|refine o_pass rfl ?_|refine o_passN rfl ?_) |(refine gP ?_; first|refine o_pickY rfl rfl (by first|rfl|assumption|exact y1 (by omega)|exact y3 (by omega)|exact y5 (by omega)) rfl ?_|refine o_pickN rfl rfl (by first|rfl|assumption|exact y2 (by omega)|exact y4 (by omega)|exact y6 (by omega)) rfl ?_) |(refine gA ?_; first|refine o_add rfl rfl rfl (wrapAny (by simp only [inKind]; omega)) ?_|refine o_sub rfl rfl rfl (wrapAny (by simp only [inKind]; omega)) ?_|refine o_mul rfl rfl rfl (wrapAny (by simp only [inKind]; omega)) ?_|refine o_quo rfl rfl rfl (by omega) (by omega) (wrapAny (by simp only [inKind]; omega)) ?_|refine o_rem rfl rfl rfl (by omega) (by omega) ?_|refine o_any rfl rfl ?_) |(refine gV ?_; refine o_conv rfl rfl (wrapAny (by simp only [inKind]; omega)) ?_) |(refine gL ?_; refine o_load1R rfl rfl (by assumption) rfl rfl ?_) |(refine gN ?_; refine o_loadNR rfl rfl (by assumption) rfl (by first|exact Nat.le_of_ble_eq_true rfl|(simp; done)|omega) rfl ?_) |(refine gS ?_; refine o_storeR rfl rfl rfl rfl rfl (by assumption) (by first|exact Nat.le_of_ble_eq_true rfl|(simp; done)|omega) ?_) |refine o_anyX rfl rfl rfl ?_ |refine o_anyN rfl rfl ?_) |(show wp _ _ _ _ _; first |refine w_opsS ?_ |refine w_ops ?_ |(refine gW ?_; first|refine w_condY rfl (by first|rfl|assumption|exact y1 (by omega)|exact y3 (by omega)|exact y5 (by omega)) ?_|refine w_condN rfl (by first|rfl|assumption|exact y2 (by omega)|exact y4 (by omega)|exact y6 (by omega)) ?_) |refine w_seq ?_ |refine w_opsX ?_ |refine w_block ?_ |refine w_exit ?_ |refine w_ret ?_ |refine w_skip ?_))
  refine o_call rfl rfl (b1 _) ?_
  rintro v h2 ⟨hle2, vb, rfl, s2⟩
  have hg2 := hle2.get hg1
  have s1 := s1.le hle2
  repeat (first |((with_reducible show wpO _ _ _ _ _); first |refine o_mv rfl rfl ?_ |refine o_lenV rfl rfl ?_ |refine o_ext rfl rfl rfl ?_ |refine o_nil ?_ |(refine gG ?_; first|refine o_gdY rfl (by first|rfl|assumption|exact y1 (by omega)|exact y2 (by omega)|exact y3 (by omega)|exact y4 (by omega)|exact y5 (by omega)|exact y6 (by omega)) ?_|refine o_gdN rfl (by first|rfl|assumption|exact y1 (by omega)|exact y2 (by omega)|exact y3 (by omega)|exact y4 (by omega)|exact y5 (by omega)|exact y6 (by omega)) ?_|refine o_pass rfl ?_|refine o_passN rfl ?_) |(refine gP ?_; first|refine o_pickY rfl rfl (by first|rfl|assumption|exact y1 (by omega)|exact y3 (by omega)|exact y5 (by omega)) rfl ?_|refine o_pickN rfl rfl (by first|rfl|assumption|exact y2 (by omega)|exact y4 (by omega)|exact y6 (by omega)) rfl ?_) |(refine gA ?_; first|refine o_add rfl rfl rfl (wrapAny (by simp only [inKind]; omega)) ?_|refine o_sub rfl rfl rfl (wrapAny (by simp only [inKind]; omega)) ?_|refine o_mul rfl rfl rfl (wrapAny (by simp only [inKind]; omega)) ?_|refine o_quo rfl rfl rfl (by omega) (by omega) (wrapAny (by simp only [inKind]; omega)) ?_|refine o_rem rfl rfl rfl (by omega) (by omega) ?_|refine o_any rfl rfl ?_) |(refine gV ?_; refine o_conv rfl rfl (wrapAny (by simp only [inKind]; omega)) ?_) |(refine gL ?_; refine o_load1R rfl rfl (by assumption) rfl rfl ?_) |(refine gN ?_; refine o_loadNR rfl rfl (by assumption) rfl (by first|exact Nat.le_of_ble_eq_true rfl|(simp; done)|omega) rfl ?_) |(refine gS ?_; refine o_storeR rfl rfl rfl rfl rfl (by assumption) (by first|exact Nat.le_of_ble_eq_true rfl|(simp; done)|omega) ?_) |refine o_anyX rfl rfl rfl ?_ |refine o_anyN rfl rfl ?_) |(show wp _ _ _ _ _; first |refine w_opsS ?_ |refine w_ops ?_ |(refine gW ?_; first|refine w_condY rfl (by first|rfl|assumption|exact y1 (by omega)|exact y3 (by omega)|exact y5 (by omega)) ?_|refine w_condN rfl (by first|rfl|assumption|exact y2 (by omega)|exact y4 (by omega)|exact y6 (by omega)) ?_) |refine w_seq ?_ |refine w_opsX ?_ |refine w_block ?_ |refine w_exit ?_ |refine w_ret ?_ |refine w_skip ?_))
  refine o_call rfl rfl (a2 _) ?_
  rintro v h3 ⟨hle3, vc, rfl, s3⟩
  have hg3 := hle3.get hg2
  have s1 := s1.le hle3
  have s2 := s2.le hle3
  repeat (first |((with_reducible show wpO _ _ _ _ _); first |refine o_mv rfl rfl ?_ |refine o_lenV rfl rfl ?_ |refine o_ext rfl rfl rfl ?_ |refine o_nil ?_ |(refine gG ?_; first|refine o_gdY rfl (by first|rfl|assumption|exact y1 (by omega)|exact y2 (by omega)|exact y3 (by omega)|exact y4 (by omega)|exact y5 (by omega)|exact y6 (by omega)) ?_|refine o_gdN rfl (by first|rfl|assumption|exact y1 (by omega)|exact y2 (by omega)|exact y3 (by omega)|exact y4 (by omega)|exact y5 (by omega)|exact y6 (by omega)) ?_|refine o_pass rfl ?_|refine o_passN rfl ?_) |(refine gP ?_; first|refine o_pickY rfl rfl (by first|rfl|assumption|exact y1 (by omega)|exact y3 (by omega)|exact y5 (by omega)) rfl ?_|refine o_pickN rfl rfl (by first|rfl|assumption|exact y2 (by omega)|exact y4 (by omega)|exact y6 (by omega)) rfl ?_) |(refine gA ?_; first|refine o_add rfl rfl rfl (wrapAny (by simp only [inKind]; omega)) ?_|refine o_sub rfl rfl rfl (wrapAny (by simp only [inKind]; omega)) ?_|refine o_mul rfl rfl rfl (wrapAny (by simp only [inKind]; omega)) ?_|refine o_quo rfl rfl rfl (by omega) (by omega) (wrapAny (by simp only [inKind]; omega)) ?_|refine o_rem rfl rfl rfl (by omega) (by omega) ?_|refine o_any rfl rfl ?_) |(refine gV ?_; refine o_conv rfl rfl (wrapAny (by simp only [inKind]; omega)) ?_) |(refine gL ?_; refine o_load1R rfl rfl (by assumption) rfl rfl ?_) |(refine gN ?_; refine o_loadNR rfl rfl (by assumption) rfl (by first|exact Nat.le_of_ble_eq_true rfl|(simp; done)|omega) rfl ?_) |(refine gS ?_; refine o_storeR rfl rfl rfl rfl rfl (by assumption) (by first|exact Nat.le_of_ble_eq_true rfl|(simp; done)|omega) ?_) |refine o_anyX rfl rfl rfl ?_ |refine o_anyN rfl rfl ?_) |(show wp _ _ _ _ _; first |refine w_opsS ?_ |refine w_ops ?_ |(refine gW ?_; first|refine w_condY rfl (by first|rfl|assumption|exact y1 (by omega)|exact y3 (by omega)|exact y5 (by omega)) ?_|refine w_condN rfl (by first|rfl|assumption|exact y2 (by omega)|exact y4 (by omega)|exact y6 (by omega)) ?_) |refine w_seq ?_ |refine w_opsX ?_ |refine w_block ?_ |refine w_exit ?_ |refine w_ret ?_ |refine w_skip ?_))
  refine o_call rfl rfl (b2 _) ?_
  rintro v h4 ⟨hle4, vd, rfl, s4⟩
  have s1 := s1.le hle4
  have s2 := s2.le hle4
  have s3 := s3.le hle4
  repeat (first |((with_reducible show wpO _ _ _ _ _); first |refine o_mv rfl rfl ?_ |refine o_lenV rfl rfl ?_ |refine o_ext rfl rfl rfl ?_ |refine o_nil ?_ |(refine gG ?_; first|refine o_gdY rfl (by first|rfl|assumption|exact y1 (by omega)|exact y2 (by omega)|exact y3 (by omega)|exact y4 (by omega)|exact y5 (by omega)|exact y6 (by omega)) ?_|refine o_gdN rfl (by first|rfl|assumption|exact y1 (by omega)|exact y2 (by omega)|exact y3 (by omega)|exact y4 (by omega)|exact y5 (by omega)|exact y6 (by omega)) ?_|refine o_pass rfl ?_|refine o_passN rfl ?_) |(refine gP ?_; first|refine o_pickY rfl rfl (by first|rfl|assumption|exact y1 (by omega)|exact y3 (by omega)|exact y5 (by omega)) rfl ?_|refine o_pickN rfl rfl (by first|rfl|assumption|exact y2 (by omega)|exact y4 (by omega)|exact y6 (by omega)) rfl ?_) |(refine gA ?_; first|refine o_add rfl rfl rfl (wrapAny (by simp only [inKind]; omega)) ?_|refine o_sub rfl rfl rfl (wrapAny (by simp only [inKind]; omega)) ?_|refine o_mul rfl rfl rfl (wrapAny (by simp only [inKind]; omega)) ?_|refine o_quo rfl rfl rfl (by omega) (by omega) (wrapAny (by simp only [inKind]; omega)) ?_|refine o_rem rfl rfl rfl (by omega) (by omega) ?_|refine o_any rfl rfl ?_) |(refine gV ?_; refine o_conv rfl rfl (wrapAny (by simp only [inKind]; omega)) ?_) |(refine gL ?_; refine o_load1R rfl rfl (by assumption) rfl rfl ?_) |(refine gN ?_; refine o_loadNR rfl rfl (by assumption) rfl (by first|exact Nat.le_of_ble_eq_true rfl|(simp; done)|omega) rfl ?_) |(refine gS ?_; refine o_storeR rfl rfl rfl rfl rfl (by assumption) (by first|exact Nat.le_of_ble_eq_true rfl|(simp; done)|omega) ?_) |refine o_anyX rfl rfl rfl ?_ |refine o_anyN rfl rfl ?_) |(show wp _ _ _ _ _; first |refine w_opsS ?_ |refine w_ops ?_ |(refine gW ?_; first|refine w_condY rfl (by first|rfl|assumption|exact y1 (by omega)|exact y3 (by omega)|exact y5 (by omega)) ?_|refine w_condN rfl (by first|rfl|assumption|exact y2 (by omega)|exact y4 (by omega)|exact y6 (by omega)) ?_) |refine w_seq ?_ |refine w_opsX ?_ |refine w_block ?_ |refine w_exit ?_ |refine w_ret ?_ |refine w_skip ?_))
  refine o_call rfl rfl (intsC hf s1 s2 (by omega)) ?_
  rintro v h5 ⟨rfl, rfl⟩
  repeat (first |((with_reducible show wpO _ _ _ _ _); first |refine o_mv rfl rfl ?_ |refine o_lenV rfl rfl ?_ |refine o_ext rfl rfl rfl ?_ |refine o_nil ?_ |(refine gG ?_; first|refine o_gdY rfl (by first|rfl|assumption|exact y1 (by omega)|exact y2 (by omega)|exact y3 (by omega)|exact y4 (by omega)|exact y5 (by omega)|exact y6 (by omega)) ?_|refine o_gdN rfl (by first|rfl|assumption|exact y1 (by omega)|exact y2 (by omega)|exact y3 (by omega)|exact y4 (by omega)|exact y5 (by omega)|exact y6 (by omega)) ?_|refine o_pass rfl ?_|refine o_passN rfl ?_) |(refine gP ?_; first|refine o_pickY rfl rfl (by first|rfl|assumption|exact y1 (by omega)|exact y3 (by omega)|exact y5 (by omega)) rfl ?_|refine o_pickN rfl rfl (by first|rfl|assumption|exact y2 (by omega)|exact y4 (by omega)|exact y6 (by omega)) rfl ?_) |(refine gA ?_; first|refine o_add rfl rfl rfl (wrapAny (by simp only [inKind]; omega)) ?_|refine o_sub rfl rfl rfl (wrapAny (by simp only [inKind]; omega)) ?_|refine o_mul rfl rfl rfl (wrapAny (by simp only [inKind]; omega)) ?_|refine o_quo rfl rfl rfl (by omega) (by omega) (wrapAny (by simp only [inKind]; omega)) ?_|refine o_rem rfl rfl rfl (by omega) (by omega) ?_|refine o_any rfl rfl ?_) |(refine gV ?_; refine o_conv rfl rfl (wrapAny (by simp only [inKind]; omega)) ?_) |(refine gL ?_; refine o_load1R rfl rfl (by assumption) rfl rfl ?_) |(refine gN ?_; refine o_loadNR rfl rfl (by assumption) rfl (by first|exact Nat.le_of_ble_eq_true rfl|(simp; done)|omega) rfl ?_) |(refine gS ?_; refine o_storeR rfl rfl rfl rfl rfl (by assumption) (by first|exact Nat.le_of_ble_eq_true rfl|(simp; done)|omega) ?_) |refine o_anyX rfl rfl rfl ?_ |refine o_anyN rfl rfl ?_) |(show wp _ _ _ _ _; first |refine w_opsS ?_ |refine w_ops ?_ |(refine gW ?_; first|refine w_condY rfl (by first|rfl|assumption|exact y1 (by omega)|exact y3 (by omega)|exact y5 (by omega)) ?_|refine w_condN rfl (by first|rfl|assumption|exact y2 (by omega)|exact y4 (by omega)|exact y6 (by omega)) ?_) |refine w_seq ?_ |refine w_opsX ?_ |refine w_block ?_ |refine w_exit ?_ |refine w_ret ?_ |refine w_skip ?_))
  refine o_call rfl rfl (intsC hf s3 s4 (by omega)) ?_
  rintro v h6 ⟨rfl, rfl⟩
  repeat (first |((with_reducible show wpO _ _ _ _ _); first |refine o_mv rfl rfl ?_ |refine o_lenV rfl rfl ?_ |refine o_ext rfl rfl rfl ?_ |refine o_nil ?_ |(refine gG ?_; first|refine o_gdY rfl (by first|rfl|assumption|exact y1 (by omega)|exact y2 (by omega)|exact y3 (by omega)|exact y4 (by omega)|exact y5 (by omega)|exact y6 (by omega)) ?_|refine o_gdN rfl (by first|rfl|assumption|exact y1 (by omega)|exact y2 (by omega)|exact y3 (by omega)|exact y4 (by omega)|exact y5 (by omega)|exact y6 (by omega)) ?_|refine o_pass rfl ?_|refine o_passN rfl ?_) |(refine gP ?_; first|refine o_pickY rfl rfl (by first|rfl|assumption|exact y1 (by omega)|exact y3 (by omega)|exact y5 (by omega)) rfl ?_|refine o_pickN rfl rfl (by first|rfl|assumption|exact y2 (by omega)|exact y4 (by omega)|exact y6 (by omega)) rfl ?_) |(refine gC ?_; refine o_call rfl rfl (awakeC hp hf _) ?_; rintro v h' ⟨rfl, rfl⟩) |(refine gA ?_; first|refine o_add rfl rfl rfl (wrapAny (by simp only [inKind]; omega)) ?_|refine o_sub rfl rfl rfl (wrapAny (by simp only [inKind]; omega)) ?_|refine o_mul rfl rfl rfl (wrapAny (by simp only [inKind]; omega)) ?_|refine o_quo rfl rfl rfl (by omega) (by omega) (wrapAny (by simp only [inKind]; omega)) ?_|refine o_rem rfl rfl rfl (by omega) (by omega) ?_|refine o_any rfl rfl ?_) |(refine gV ?_; refine o_conv rfl rfl (wrapAny (by simp only [inKind]; omega)) ?_) |(refine gL ?_; refine o_load1R rfl rfl (by assumption) rfl rfl ?_) |(refine gN ?_; refine o_loadNR rfl rfl (by assumption) rfl (by first|exact Nat.le_of_ble_eq_true rfl|(simp; done)|omega) rfl ?_) |(refine gS ?_; refine o_storeR rfl rfl rfl rfl rfl (by assumption) (by first|exact Nat.le_of_ble_eq_true rfl|(simp; done)|omega) ?_) |refine o_anyX rfl rfl rfl ?_ |refine o_anyN rfl rfl ?_) |(show wp _ _ _ _ _; first |refine w_opsS ?_ |refine w_ops ?_ |(refine gW ?_; first|refine w_condY rfl (by first|rfl|assumption|exact y1 (by omega)|exact y3 (by omega)|exact y5 (by omega)) ?_|refine w_condN rfl (by first|rfl|assumption|exact y2 (by omega)|exact y4 (by omega)|exact y6 (by omega)) ?_) |refine w_seq ?_ |refine w_opsX ?_ |refine w_block ?_ |refine w_exit ?_ |refine w_ret ?_ |refine w_skip ?_))
  exact ⟨.inr rfl, _, rfl, rfl⟩
end
end Go.Proofs.Ytboioafflppnfaa

/-
  DERIVED: THE SHELF's CONTRACTS AT THIS DUMP, IN PLAIN WORDS (tools/lay-plain.mjs out of 'YtboioafflppnfaaLay.lean', which tools/lay-shelf.mjs wrote): THE SAME DECLARATIONS UNDER THE SAME NAMES: 'import', 'namespace', 'open', 'def', 'theorem' AND NOTHING ELSE: no command of the shelf's: FOR A HAND-IN. Each laying: the table of numbers ('.._ren') and one theorem, a field a fact of the dump's own or the kernel's comparison; each contract: ONE APPLICATION.
-/
namespace Go.Proofs.Ytboioafflppnfaa
open Go.Shelf Go.Proofs
def Try.sortA_ren : Go.Shelf.Ren := ⟨fun | 5 => 26 | 8 => 42 | 7 => 41 | 19 => 71 | 20 => 72 | 10 => 62 | 11 => 63 | 12 => 64 | 13 => 65 | 14 => 66 | 15 => 67 | 16 => 68 | 17 => 69 | 18 => 70 | 30 => 86 | 31 => 87 | 32 => 88 | 33 => 89 | 34 => 90 | 35 => 91 | 40 => 102 | n => n, fun | 23 => 24 | 25 => 3 | 3 => 3 | 32 => 84 | 22 => 24 | 0 => 0 | 44 => 61 | 46 => 62 | 4 => 4 | 36 => 103 | 35 => 102 | 41 => 107 | 5 => 5 | 9 => 9 | 53 => 122 | 57 => 126 | 63 => 136 | 64 => 137 | n => n, fun | n => n⟩
theorem Try.sortA : Go.Proofs.SlLaysM.n5 Try.prog Try.sortA_ren := {
  mixed := by kernel_rfl
  f5 := ⟨Try.f26.name, by decide, Try.func26.trans (congrArg some (by kernel_rfl))⟩
  f7 := ⟨Try.f41.name, by decide, Try.func41.trans (congrArg some (by kernel_rfl))⟩
  f8 := Try.func42.trans (congrArg some (by kernel_rfl))
  f10 := ⟨Try.f62.name, by decide, Try.func62.trans (congrArg some (by kernel_rfl))⟩
  f11 := ⟨Try.f63.name, by decide, Try.func63.trans (congrArg some (by kernel_rfl))⟩
  f12 := ⟨Try.f64.name, by decide, Try.func64.trans (congrArg some (by kernel_rfl))⟩
  f13 := ⟨Try.f65.name, by decide, Try.func65.trans (congrArg some (by kernel_rfl))⟩
  f14 := ⟨Try.f66.name, by decide, Try.func66.trans (congrArg some (by kernel_rfl))⟩
  f15 := ⟨Try.f67.name, by decide, Try.func67.trans (congrArg some (by kernel_rfl))⟩
  f16 := ⟨Try.f68.name, by decide, Try.func68.trans (congrArg some (by kernel_rfl))⟩
  f17 := ⟨Try.f69.name, by decide, Try.func69.trans (congrArg some (by kernel_rfl))⟩
  f18 := ⟨Try.f70.name, by decide, Try.func70.trans (congrArg some (by kernel_rfl))⟩
  f19 := Try.func71.trans (congrArg some (by kernel_rfl))
  f20 := Try.func72.trans (congrArg some (by kernel_rfl))
  f30 := ⟨Try.f86.name, by decide, Try.func86.trans (congrArg some (by kernel_rfl))⟩
  f31 := Try.func87.trans (congrArg some (by kernel_rfl))
  f32 := Try.func88.trans (congrArg some (by kernel_rfl))
  f33 := ⟨Try.f89.name, by decide, Try.func89.trans (congrArg some (by kernel_rfl))⟩
  f34 := ⟨Try.f90.name, by decide, Try.func90.trans (congrArg some (by kernel_rfl))⟩
  f35 := ⟨Try.f91.name, by decide, Try.func91.trans (congrArg some (by kernel_rfl))⟩
  f40 := ⟨Try.f102.name, by decide, Try.func102.trans (congrArg some (by kernel_rfl))⟩
  t0 := Try.underlying0
  a0 := Try.isAgg0
  z0 := Try.sizeOf0
  v0 := Try.zeroValue0
  t3 := Try.underlying3
  a3 := Try.isAgg3
  z3 := Try.sizeOf3
  v3 := Try.zeroValue3
  t4 := Try.underlying4
  a4 := Try.isAgg4
  z4 := Try.sizeOf4
  v4 := Try.zeroValue4
  t5 := Try.underlying5
  a5 := Try.isAgg5
  z5 := Try.sizeOf5
  v5 := Try.zeroValue5
  t9 := Try.underlying9
  a9 := Try.isAgg9
  z9 := Try.sizeOf9
  v9 := Try.zeroValue9
  t22 := Try.underlying24
  a22 := Try.isAgg24
  z22 := Try.sizeOf24
  v22 := Try.zeroValue24
  t23 := Try.underlying24
  a23 := Try.isAgg24
  z23 := Try.sizeOf24
  v23 := Try.zeroValue24
  t25 := Try.underlying3
  a25 := Try.isAgg3
  z25 := Try.sizeOf3
  v25 := Try.zeroValue3
  t32 := Try.underlying84
  a32 := Try.isAgg84
  z32 := Try.sizeOf84
  v32 := Try.zeroValue84
  t35 := Try.underlying102
  a35 := Try.isAgg102
  z35 := Try.sizeOf102
  v35 := Try.zeroValue102
  t36 := Try.underlying103
  a36 := Try.isAgg103
  z36 := Try.sizeOf103
  v36 := Try.zeroValue103
  t41 := Try.underlying107
  a41 := Try.isAgg107
  z41 := Try.sizeOf107
  v41 := Try.zeroValue107
  t44 := Try.underlying61
  a44 := Try.isAgg61
  z44 := Try.sizeOf61
  v44 := Try.zeroValue61
  t46 := Try.underlying62
  a46 := Try.isAgg62
  z46 := Try.sizeOf62
  v46 := Try.zeroValue62
  t53 := Try.underlying122
  a53 := Try.isAgg122
  z53 := Try.sizeOf122
  v53 := Try.zeroValue122
  t57 := Try.underlying126
  a57 := Try.isAgg126
  z57 := Try.sizeOf126
  v57 := Try.zeroValue126
  t63 := Try.underlying136
  a63 := Try.isAgg136
  z63 := Try.sizeOf136
  v63 := Try.zeroValue136
  t64 := Try.underlying137
  a64 := Try.isAgg137
  z64 := Try.sizeOf137
  v64 := Try.zeroValue137 }
end Go.Proofs.Ytboioafflppnfaa

/- The answer for slices.Sort at this program; the law's arguments. Conditions: none. -/
namespace Go.Proofs.Ytboioafflppnfaa
open Go.Cm Go.Sort Go.Proofs Go.Shelf Go.RowKit
set_option linter.unusedVariables false
set_option maxRecDepth 100000
set_option maxHeartbeats 10000000

def MM : Prg := (⟨lookF tab, SortAns F_sort⟩ : Prg).inf
theorem MMknows : Knows Try.prog 0 MM := Knows.inf mixed ⟨lookF_ok tabIn, fun B W0 g args h v h' ho =>
  sort_good (ρ := Try.sortA_ren) Try.sortA ⟨Try.f26, Try.func26, by kernel_rfl, by kernel_rfl⟩ ho⟩
theorem MMp : PureClosed MM := Prg.inf_pure _
theorem MMf : MM.fn = lookF tab := rfl
theorem MMso : ∀ g args h v h', SortAns F_sort g args h v h' → Ev MM (.call g args h v h') := fun g args h v h' ho =>
  .known (show ∃ n, ((⟨lookF tab, SortAns F_sort⟩ : Prg).pureN n).orac g args h v h' from ⟨0, ho⟩)

theorem key32 {h : Heap} : ∀ {cs : List Value}, IsAll h [.int .u8, .int .u8, .int .u8, .int .u8, .int .u8, .int .u8, .int .u8, .int .u8, .int .u8, .int .u8, .int .u8, .int .u8, .int .u8, .int .u8, .int .u8, .int .u8, .int .u8, .int .u8, .int .u8, .int .u8, .int .u8, .int .u8, .int .u8, .int .u8, .int .u8, .int .u8, .int .u8, .int .u8, .int .u8, .int .u8, .int .u8, .int .u8] cs → ∃ k, cs = keyL k
  | [c0, c1, c2, c3, c4, c5, c6, c7, c8, c9, c10, c11, c12, c13, c14, c15, c16, c17, c18, c19, c20, c21, c22, c23, c24, c25, c26, c27, c28, c29, c30, c31], H => by
    simp only [IsAll, Is] at H
    obtain ⟨⟨a0, rfl, _⟩, ⟨a1, rfl, _⟩, ⟨a2, rfl, _⟩, ⟨a3, rfl, _⟩, ⟨a4, rfl, _⟩, ⟨a5, rfl, _⟩, ⟨a6, rfl, _⟩, ⟨a7, rfl, _⟩, ⟨a8, rfl, _⟩, ⟨a9, rfl, _⟩, ⟨a10, rfl, _⟩, ⟨a11, rfl, _⟩, ⟨a12, rfl, _⟩, ⟨a13, rfl, _⟩, ⟨a14, rfl, _⟩, ⟨a15, rfl, _⟩, ⟨a16, rfl, _⟩, ⟨a17, rfl, _⟩, ⟨a18, rfl, _⟩, ⟨a19, rfl, _⟩, ⟨a20, rfl, _⟩, ⟨a21, rfl, _⟩, ⟨a22, rfl, _⟩, ⟨a23, rfl, _⟩, ⟨a24, rfl, _⟩, ⟨a25, rfl, _⟩, ⟨a26, rfl, _⟩, ⟨a27, rfl, _⟩, ⟨a28, rfl, _⟩, ⟨a29, rfl, _⟩, ⟨a30, rfl, _⟩, ⟨a31, rfl, _⟩, _⟩ := H
    exact ⟨fun i => [a0, a1, a2, a3, a4, a5, a6, a7, a8, a9, a10, a11, a12, a13, a14, a15, a16, a17, a18, a19, a20, a21, a22, a23, a24, a25, a26, a27, a28, a29, a30, a31].getD i 0, rfl⟩
end Go.Proofs.Ytboioafflppnfaa

/- Program and reference of layer 29, together. Conditions: none. -/
