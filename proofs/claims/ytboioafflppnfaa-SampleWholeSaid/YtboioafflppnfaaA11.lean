/- What is picked, and what isn't, is all, each once: the walk. Conditions: none. -/
import Derived.Test.YtboioafflppnfaaA10
namespace Go.Proofs.Ytboioafflppnfaa
open Go.Cm
set_option linter.unusedVariables false
set_option linter.unusedSimpArgs false
set_option linter.unusedSectionVars false
set_option maxRecDepth 100000
set_option maxHeartbeats 10000000

section
variable {M : Prg} (hp : PureClosed M) (hf : M.fn = lookF tab) (hso : ∀ g args h v h', SortAns F_sort g args h v h' → Ev M (.call g args h v h'))
include hp hf

theorem whole1 (m s : Nat) (hm : m ≤ 24) (va vb : Value) (P : List Int) (hr : ∀ x ∈ P, 0 ≤ x ∧ x < m) (hst : P.Pairwise (· < ·)) (h0 : Heap) (hva : Sl h0 1 va P.length (P.map (.int .i64))) (hne : ∀ c off n k, va = .slice (some ⟨c, off, none⟩) n k → 0 < P.length → c ≠ s) (hpl : P.length ≤ 1000)
    (Q : Ex → Fr → Heap → Prop) : ∀ (d i : Nat) (h : Heap), i + d = P.length → Only h0 h s → h.get? s = some (.rw (cnt (P.take i))) →
    (∀ h' u1 u2 u3 u4, Only h0 h' s → h'.get? s = some (.rw (cnt P)) → Q (.exit 0) [(70, u1), (69, u2), (68, u3), (67, u4), (7, .int .i64 m), (9, va), (11, vb), (13, .pointer (some ⟨s, 0, none⟩)), (14, .int .i64 P.length)] h') →
    wpR M [7, 9, 11, 13, 14] c_law29_SampleWhole_18 Q [(7, .int .i64 m), (9, va), (11, vb), (13, .pointer (some ⟨s, 0, none⟩)), (14, .int .i64 i)] h
  | 0, i, h, hi, ho, hg, hQ => by
    have : i = P.length := by omega
    subst this
    obtain ⟨aa, cap, rfl⟩ := hva.val
    refine w_round ?_
    repeat (first
      | refine o_mv rfl rfl ?_
      | refine o_lenV rfl rfl ?_
      | refine o_gdY rfl (by first | rfl | assumption | (simp only [decide_eq_true_eq, decide_eq_false_iff_not, beq_iff_eq, bne_iff_ne, beq_eq_false_iff_ne, bne_eq_false_iff_eq, Bool.not_eq_true', Bool.not_eq_false', Bool.not_true, Bool.not_false, ne_eq]; done) | (simp only [decide_eq_true_eq, decide_eq_false_iff_not, beq_iff_eq, bne_iff_ne, beq_eq_false_iff_ne, bne_eq_false_iff_eq, Bool.not_eq_true', Bool.not_eq_false', Bool.not_true, Bool.not_false, ne_eq]; omega)) ?_
      | refine o_gdN rfl (by first | rfl | assumption | (simp only [decide_eq_true_eq, decide_eq_false_iff_not, beq_iff_eq, bne_iff_ne, beq_eq_false_iff_ne, bne_eq_false_iff_eq, Bool.not_eq_true', Bool.not_eq_false', Bool.not_true, Bool.not_false, ne_eq]; done) | (simp only [decide_eq_true_eq, decide_eq_false_iff_not, beq_iff_eq, bne_iff_ne, beq_eq_false_iff_ne, bne_eq_false_iff_eq, Bool.not_eq_true', Bool.not_eq_false', Bool.not_true, Bool.not_false, ne_eq]; omega)) ?_
      | refine o_pass rfl ?_
      | refine o_passN rfl ?_
      | refine o_pickY rfl rfl (by first | rfl | assumption | (simp only [decide_eq_true_eq, decide_eq_false_iff_not, beq_iff_eq, bne_iff_ne, beq_eq_false_iff_ne, bne_eq_false_iff_eq, Bool.not_eq_true', Bool.not_eq_false', Bool.not_true, Bool.not_false, ne_eq]; done) | (simp only [decide_eq_true_eq, decide_eq_false_iff_not, beq_iff_eq, bne_iff_ne, beq_eq_false_iff_ne, bne_eq_false_iff_eq, Bool.not_eq_true', Bool.not_eq_false', Bool.not_true, Bool.not_false, ne_eq]; omega)) rfl ?_
      | refine o_pickN rfl rfl (by first | rfl | assumption | (simp only [decide_eq_true_eq, decide_eq_false_iff_not, beq_iff_eq, bne_iff_ne, beq_eq_false_iff_ne, bne_eq_false_iff_eq, Bool.not_eq_true', Bool.not_eq_false', Bool.not_true, Bool.not_false, ne_eq]; done) | (simp only [decide_eq_true_eq, decide_eq_false_iff_not, beq_iff_eq, bne_iff_ne, beq_eq_false_iff_ne, bne_eq_false_iff_eq, Bool.not_eq_true', Bool.not_eq_false', Bool.not_true, Bool.not_false, ne_eq]; omega)) rfl ?_
      | refine o_add rfl rfl rfl (by first | exact wrap64' (by omega) | exact wrapU64 (by omega) | exact wrapU32 (by omega) | exact wrapU8 (by omega)) ?_
      | refine o_sub rfl rfl rfl (by first | exact wrap64' (by omega) | exact wrapU64 (by omega) | exact wrapU32 (by omega) | exact wrapU8 (by omega)) ?_
      | refine o_mul rfl rfl rfl (by first | exact wrap64' (by omega) | exact wrapU64 (by omega) | exact wrapU32 (by omega) | exact wrapU8 (by omega)) ?_
      | refine o_quo rfl rfl rfl (by omega) (by omega) (by first | exact wrap64' (by omega) | exact wrapU64 (by omega) | exact wrapU32 (by omega) | exact wrapU8 (by omega)) ?_
      | refine o_rem rfl rfl rfl (by omega) (by omega) ?_
      | refine o_conv rfl rfl (by first | exact wrap64' (by omega) | exact wrapU64 (by omega) | exact wrapU32 (by omega) | exact wrapU8 (by omega)) ?_
      | refine o_load1R rfl rfl (by assumption) rfl rfl ?_
      | refine o_loadNR rfl rfl (by assumption) rfl (by first | exact Nat.le_of_ble_eq_true rfl | (simp; done) | omega) rfl ?_
      | refine o_storeR rfl rfl rfl rfl rfl (by assumption) (by first | exact Nat.le_of_ble_eq_true rfl | (simp; done) | omega) ?_
      | refine o_any rfl rfl ?_
      | refine o_anyN rfl rfl ?_
      | refine o_nil ?_
      | refine t_mv rfl rfl ?_
      | refine t_gdY rfl (by first | rfl | assumption | (simp only [decide_eq_true_eq, decide_eq_false_iff_not, beq_iff_eq, bne_iff_ne, beq_eq_false_iff_ne, bne_eq_false_iff_eq, Bool.not_eq_true', Bool.not_eq_false', Bool.not_true, Bool.not_false, ne_eq]; done) | (simp only [decide_eq_true_eq, decide_eq_false_iff_not, beq_iff_eq, bne_iff_ne, beq_eq_false_iff_ne, bne_eq_false_iff_eq, Bool.not_eq_true', Bool.not_eq_false', Bool.not_true, Bool.not_false, ne_eq]; omega)) ?_
      | refine t_gdN rfl (by first | rfl | assumption | (simp only [decide_eq_true_eq, decide_eq_false_iff_not, beq_iff_eq, bne_iff_ne, beq_eq_false_iff_ne, bne_eq_false_iff_eq, Bool.not_eq_true', Bool.not_eq_false', Bool.not_true, Bool.not_false, ne_eq]; done) | (simp only [decide_eq_true_eq, decide_eq_false_iff_not, beq_iff_eq, bne_iff_ne, beq_eq_false_iff_ne, bne_eq_false_iff_eq, Bool.not_eq_true', Bool.not_eq_false', Bool.not_true, Bool.not_false, ne_eq]; omega)) ?_
      | refine t_pass rfl ?_
      | refine t_pickY rfl rfl (by first | rfl | assumption | (simp only [decide_eq_true_eq, decide_eq_false_iff_not, beq_iff_eq, bne_iff_ne, beq_eq_false_iff_ne, bne_eq_false_iff_eq, Bool.not_eq_true', Bool.not_eq_false', Bool.not_true, Bool.not_false, ne_eq]; done) | (simp only [decide_eq_true_eq, decide_eq_false_iff_not, beq_iff_eq, bne_iff_ne, beq_eq_false_iff_ne, bne_eq_false_iff_eq, Bool.not_eq_true', Bool.not_eq_false', Bool.not_true, Bool.not_false, ne_eq]; omega)) rfl ?_
      | refine t_pickN rfl rfl (by first | rfl | assumption | (simp only [decide_eq_true_eq, decide_eq_false_iff_not, beq_iff_eq, bne_iff_ne, beq_eq_false_iff_ne, bne_eq_false_iff_eq, Bool.not_eq_true', Bool.not_eq_false', Bool.not_true, Bool.not_false, ne_eq]; done) | (simp only [decide_eq_true_eq, decide_eq_false_iff_not, beq_iff_eq, bne_iff_ne, beq_eq_false_iff_ne, bne_eq_false_iff_eq, Bool.not_eq_true', Bool.not_eq_false', Bool.not_true, Bool.not_false, ne_eq]; omega)) rfl ?_
      | refine t_add rfl rfl rfl (by first | exact wrap64' (by omega) | exact wrapU64 (by omega) | exact wrapU32 (by omega) | exact wrapU8 (by omega)) ?_
      | refine t_sub rfl rfl rfl (by first | exact wrap64' (by omega) | exact wrapU64 (by omega) | exact wrapU32 (by omega) | exact wrapU8 (by omega)) ?_
      | refine t_mul rfl rfl rfl (by first | exact wrap64' (by omega) | exact wrapU64 (by omega) | exact wrapU32 (by omega) | exact wrapU8 (by omega)) ?_
      | refine t_quo rfl rfl rfl (by omega) (by omega) (by first | exact wrap64' (by omega) | exact wrapU64 (by omega) | exact wrapU32 (by omega) | exact wrapU8 (by omega)) ?_
      | refine t_rem rfl rfl rfl (by omega) (by omega) ?_
      | refine t_conv rfl rfl (by first | exact wrap64' (by omega) | exact wrapU64 (by omega) | exact wrapU32 (by omega) | exact wrapU8 (by omega)) ?_
      | refine t_load1R rfl rfl (by assumption) rfl rfl ?_
      | refine t_loadNR rfl rfl (by assumption) rfl (by first | exact Nat.le_of_ble_eq_true rfl | (simp; done) | omega) rfl ?_
      | refine t_any rfl rfl ?_
      | refine t_anyN rfl rfl ?_
      | (refine t_nil ⟨?_, ?_⟩; focus (repeat (first | exact trivial | rfl | refine And.intro ?_ ?_)))
      | refine w_opsS ?_
      | refine w_ops ?_
      | refine w_condY rfl (by first | rfl | assumption | (simp only [decide_eq_true_eq, decide_eq_false_iff_not, beq_iff_eq, bne_iff_ne, beq_eq_false_iff_ne, bne_eq_false_iff_eq, Bool.not_eq_true', Bool.not_eq_false', Bool.not_true, Bool.not_false, ne_eq]; done) | (simp only [decide_eq_true_eq, decide_eq_false_iff_not, beq_iff_eq, bne_iff_ne, beq_eq_false_iff_ne, bne_eq_false_iff_eq, Bool.not_eq_true', Bool.not_eq_false', Bool.not_true, Bool.not_false, ne_eq]; omega)) ?_
      | refine w_condN rfl (by first | rfl | assumption | (simp only [decide_eq_true_eq, decide_eq_false_iff_not, beq_iff_eq, bne_iff_ne, beq_eq_false_iff_ne, bne_eq_false_iff_eq, Bool.not_eq_true', Bool.not_eq_false', Bool.not_true, Bool.not_false, ne_eq]; done) | (simp only [decide_eq_true_eq, decide_eq_false_iff_not, beq_iff_eq, bne_iff_ne, beq_eq_false_iff_ne, bne_eq_false_iff_eq, Bool.not_eq_true', Bool.not_eq_false', Bool.not_true, Bool.not_false, ne_eq]; omega)) ?_
      | refine w_seq ?_
      | refine w_opsX ?_
      | refine w_block ?_
      | refine w_exit ?_
      | refine w_ret ?_
      | refine w_skip ?_)
    exact hQ h _ _ _ _ ho (by rw [List.take_length] at hg; exact hg)
  | d + 1, i, h, hi, ho, hg, hQ => by
    have ih := fun i h => whole1 m s hm va vb P hr hst h0 hva hne hpl Q d i h
    have hip : i < P.length := by omega
    have hvh : Sl h 1 va P.length (P.map (.int .i64)) := by
      rcases hva with H | ⟨c, off, cap, o, all, rfl, q1, q2, q3, q4, q5⟩
      · exact .inl H
      · exact .inr ⟨c, off, cap, o, all, rfl, ho.get (hne _ _ _ _ rfl (by omega)) q1, q2, q3, q4, q5⟩
    obtain ⟨a0, cap0, rfl, _, hrd⟩ := hvh.at1 (i := i) (u := .int .i64 P[i]) (by rw [List.getElem?_map, List.getElem?_eq_getElem hip]; rfl)
    have hrng := hr P[i] (List.getElem_mem hip)
    have hrd1 : h.rd1 (addOff a0 ((i : Int).toNat * 1)) = some (.int .i64 P[i]) := by rw [Int.toNat_natCast]; exact hrd
    refine w_round ?_
    repeat (first
      | refine o_mv rfl rfl ?_
      | refine o_lenV rfl rfl ?_
      | refine o_gdY rfl (by first | rfl | assumption | (simp only [decide_eq_true_eq, decide_eq_false_iff_not, beq_iff_eq, bne_iff_ne, beq_eq_false_iff_ne, bne_eq_false_iff_eq, Bool.not_eq_true', Bool.not_eq_false', Bool.not_true, Bool.not_false, ne_eq]; done) | (simp only [decide_eq_true_eq, decide_eq_false_iff_not, beq_iff_eq, bne_iff_ne, beq_eq_false_iff_ne, bne_eq_false_iff_eq, Bool.not_eq_true', Bool.not_eq_false', Bool.not_true, Bool.not_false, ne_eq]; omega)) ?_
      | refine o_gdN rfl (by first | rfl | assumption | (simp only [decide_eq_true_eq, decide_eq_false_iff_not, beq_iff_eq, bne_iff_ne, beq_eq_false_iff_ne, bne_eq_false_iff_eq, Bool.not_eq_true', Bool.not_eq_false', Bool.not_true, Bool.not_false, ne_eq]; done) | (simp only [decide_eq_true_eq, decide_eq_false_iff_not, beq_iff_eq, bne_iff_ne, beq_eq_false_iff_ne, bne_eq_false_iff_eq, Bool.not_eq_true', Bool.not_eq_false', Bool.not_true, Bool.not_false, ne_eq]; omega)) ?_
      | refine o_pass rfl ?_
      | refine o_passN rfl ?_
      | refine o_pickY rfl rfl (by first | rfl | assumption | (simp only [decide_eq_true_eq, decide_eq_false_iff_not, beq_iff_eq, bne_iff_ne, beq_eq_false_iff_ne, bne_eq_false_iff_eq, Bool.not_eq_true', Bool.not_eq_false', Bool.not_true, Bool.not_false, ne_eq]; done) | (simp only [decide_eq_true_eq, decide_eq_false_iff_not, beq_iff_eq, bne_iff_ne, beq_eq_false_iff_ne, bne_eq_false_iff_eq, Bool.not_eq_true', Bool.not_eq_false', Bool.not_true, Bool.not_false, ne_eq]; omega)) rfl ?_
      | refine o_pickN rfl rfl (by first | rfl | assumption | (simp only [decide_eq_true_eq, decide_eq_false_iff_not, beq_iff_eq, bne_iff_ne, beq_eq_false_iff_ne, bne_eq_false_iff_eq, Bool.not_eq_true', Bool.not_eq_false', Bool.not_true, Bool.not_false, ne_eq]; done) | (simp only [decide_eq_true_eq, decide_eq_false_iff_not, beq_iff_eq, bne_iff_ne, beq_eq_false_iff_ne, bne_eq_false_iff_eq, Bool.not_eq_true', Bool.not_eq_false', Bool.not_true, Bool.not_false, ne_eq]; omega)) rfl ?_
      | refine o_add rfl rfl rfl (by first | exact wrap64' (by omega) | exact wrapU64 (by omega) | exact wrapU32 (by omega) | exact wrapU8 (by omega)) ?_
      | refine o_sub rfl rfl rfl (by first | exact wrap64' (by omega) | exact wrapU64 (by omega) | exact wrapU32 (by omega) | exact wrapU8 (by omega)) ?_
      | refine o_mul rfl rfl rfl (by first | exact wrap64' (by omega) | exact wrapU64 (by omega) | exact wrapU32 (by omega) | exact wrapU8 (by omega)) ?_
      | refine o_quo rfl rfl rfl (by omega) (by omega) (by first | exact wrap64' (by omega) | exact wrapU64 (by omega) | exact wrapU32 (by omega) | exact wrapU8 (by omega)) ?_
      | refine o_rem rfl rfl rfl (by omega) (by omega) ?_
      | refine o_conv rfl rfl (by first | exact wrap64' (by omega) | exact wrapU64 (by omega) | exact wrapU32 (by omega) | exact wrapU8 (by omega)) ?_
      | refine o_load1R rfl rfl (by assumption) rfl rfl ?_
      | refine o_loadNR rfl rfl (by assumption) rfl (by first | exact Nat.le_of_ble_eq_true rfl | (simp; done) | omega) rfl ?_
      | refine o_storeR rfl rfl rfl rfl rfl (by assumption) (by first | exact Nat.le_of_ble_eq_true rfl | (simp; done) | omega) ?_
      | refine o_any rfl rfl ?_
      | refine o_anyN rfl rfl ?_
      | refine o_nil ?_
      | refine t_mv rfl rfl ?_
      | refine t_gdY rfl (by first | rfl | assumption | (simp only [decide_eq_true_eq, decide_eq_false_iff_not, beq_iff_eq, bne_iff_ne, beq_eq_false_iff_ne, bne_eq_false_iff_eq, Bool.not_eq_true', Bool.not_eq_false', Bool.not_true, Bool.not_false, ne_eq]; done) | (simp only [decide_eq_true_eq, decide_eq_false_iff_not, beq_iff_eq, bne_iff_ne, beq_eq_false_iff_ne, bne_eq_false_iff_eq, Bool.not_eq_true', Bool.not_eq_false', Bool.not_true, Bool.not_false, ne_eq]; omega)) ?_
      | refine t_gdN rfl (by first | rfl | assumption | (simp only [decide_eq_true_eq, decide_eq_false_iff_not, beq_iff_eq, bne_iff_ne, beq_eq_false_iff_ne, bne_eq_false_iff_eq, Bool.not_eq_true', Bool.not_eq_false', Bool.not_true, Bool.not_false, ne_eq]; done) | (simp only [decide_eq_true_eq, decide_eq_false_iff_not, beq_iff_eq, bne_iff_ne, beq_eq_false_iff_ne, bne_eq_false_iff_eq, Bool.not_eq_true', Bool.not_eq_false', Bool.not_true, Bool.not_false, ne_eq]; omega)) ?_
      | refine t_pass rfl ?_
      | refine t_pickY rfl rfl (by first | rfl | assumption | (simp only [decide_eq_true_eq, decide_eq_false_iff_not, beq_iff_eq, bne_iff_ne, beq_eq_false_iff_ne, bne_eq_false_iff_eq, Bool.not_eq_true', Bool.not_eq_false', Bool.not_true, Bool.not_false, ne_eq]; done) | (simp only [decide_eq_true_eq, decide_eq_false_iff_not, beq_iff_eq, bne_iff_ne, beq_eq_false_iff_ne, bne_eq_false_iff_eq, Bool.not_eq_true', Bool.not_eq_false', Bool.not_true, Bool.not_false, ne_eq]; omega)) rfl ?_
      | refine t_pickN rfl rfl (by first | rfl | assumption | (simp only [decide_eq_true_eq, decide_eq_false_iff_not, beq_iff_eq, bne_iff_ne, beq_eq_false_iff_ne, bne_eq_false_iff_eq, Bool.not_eq_true', Bool.not_eq_false', Bool.not_true, Bool.not_false, ne_eq]; done) | (simp only [decide_eq_true_eq, decide_eq_false_iff_not, beq_iff_eq, bne_iff_ne, beq_eq_false_iff_ne, bne_eq_false_iff_eq, Bool.not_eq_true', Bool.not_eq_false', Bool.not_true, Bool.not_false, ne_eq]; omega)) rfl ?_
      | refine t_add rfl rfl rfl (by first | exact wrap64' (by omega) | exact wrapU64 (by omega) | exact wrapU32 (by omega) | exact wrapU8 (by omega)) ?_
      | refine t_sub rfl rfl rfl (by first | exact wrap64' (by omega) | exact wrapU64 (by omega) | exact wrapU32 (by omega) | exact wrapU8 (by omega)) ?_
      | refine t_mul rfl rfl rfl (by first | exact wrap64' (by omega) | exact wrapU64 (by omega) | exact wrapU32 (by omega) | exact wrapU8 (by omega)) ?_
      | refine t_quo rfl rfl rfl (by omega) (by omega) (by first | exact wrap64' (by omega) | exact wrapU64 (by omega) | exact wrapU32 (by omega) | exact wrapU8 (by omega)) ?_
      | refine t_rem rfl rfl rfl (by omega) (by omega) ?_
      | refine t_conv rfl rfl (by first | exact wrap64' (by omega) | exact wrapU64 (by omega) | exact wrapU32 (by omega) | exact wrapU8 (by omega)) ?_
      | refine t_load1R rfl rfl (by assumption) rfl rfl ?_
      | refine t_loadNR rfl rfl (by assumption) rfl (by first | exact Nat.le_of_ble_eq_true rfl | (simp; done) | omega) rfl ?_
      | refine t_any rfl rfl ?_
      | refine t_anyN rfl rfl ?_
      | (refine t_nil ⟨?_, ?_⟩; focus (repeat (first | exact trivial | rfl | refine And.intro ?_ ?_)))
      | refine w_opsS ?_
      | refine w_ops ?_
      | refine w_condY rfl (by first | rfl | assumption | (simp only [decide_eq_true_eq, decide_eq_false_iff_not, beq_iff_eq, bne_iff_ne, beq_eq_false_iff_ne, bne_eq_false_iff_eq, Bool.not_eq_true', Bool.not_eq_false', Bool.not_true, Bool.not_false, ne_eq]; done) | (simp only [decide_eq_true_eq, decide_eq_false_iff_not, beq_iff_eq, bne_iff_ne, beq_eq_false_iff_ne, bne_eq_false_iff_eq, Bool.not_eq_true', Bool.not_eq_false', Bool.not_true, Bool.not_false, ne_eq]; omega)) ?_
      | refine w_condN rfl (by first | rfl | assumption | (simp only [decide_eq_true_eq, decide_eq_false_iff_not, beq_iff_eq, bne_iff_ne, beq_eq_false_iff_ne, bne_eq_false_iff_eq, Bool.not_eq_true', Bool.not_eq_false', Bool.not_true, Bool.not_false, ne_eq]; done) | (simp only [decide_eq_true_eq, decide_eq_false_iff_not, beq_iff_eq, bne_iff_ne, beq_eq_false_iff_ne, bne_eq_false_iff_eq, Bool.not_eq_true', Bool.not_eq_false', Bool.not_true, Bool.not_false, ne_eq]; omega)) ?_
      | refine w_seq ?_
      | refine w_opsX ?_
      | refine w_block ?_
      | refine w_exit ?_
      | refine w_ret ?_
      | refine w_skip ?_)
    refine o_ixV rfl rfl rfl ⟨by omega, by omega⟩ ?_
    refine o_load1 rfl rfl hrd1 ?_
    repeat (first
      | refine o_mv rfl rfl ?_
      | refine o_lenV rfl rfl ?_
      | refine o_gdY rfl (by first | rfl | assumption | (simp only [decide_eq_true_eq, decide_eq_false_iff_not, beq_iff_eq, bne_iff_ne, beq_eq_false_iff_ne, bne_eq_false_iff_eq, Bool.not_eq_true', Bool.not_eq_false', Bool.not_true, Bool.not_false, ne_eq]; done) | (simp only [decide_eq_true_eq, decide_eq_false_iff_not, beq_iff_eq, bne_iff_ne, beq_eq_false_iff_ne, bne_eq_false_iff_eq, Bool.not_eq_true', Bool.not_eq_false', Bool.not_true, Bool.not_false, ne_eq]; omega)) ?_
      | refine o_gdN rfl (by first | rfl | assumption | (simp only [decide_eq_true_eq, decide_eq_false_iff_not, beq_iff_eq, bne_iff_ne, beq_eq_false_iff_ne, bne_eq_false_iff_eq, Bool.not_eq_true', Bool.not_eq_false', Bool.not_true, Bool.not_false, ne_eq]; done) | (simp only [decide_eq_true_eq, decide_eq_false_iff_not, beq_iff_eq, bne_iff_ne, beq_eq_false_iff_ne, bne_eq_false_iff_eq, Bool.not_eq_true', Bool.not_eq_false', Bool.not_true, Bool.not_false, ne_eq]; omega)) ?_
      | refine o_pass rfl ?_
      | refine o_passN rfl ?_
      | refine o_pickY rfl rfl (by first | rfl | assumption | (simp only [decide_eq_true_eq, decide_eq_false_iff_not, beq_iff_eq, bne_iff_ne, beq_eq_false_iff_ne, bne_eq_false_iff_eq, Bool.not_eq_true', Bool.not_eq_false', Bool.not_true, Bool.not_false, ne_eq]; done) | (simp only [decide_eq_true_eq, decide_eq_false_iff_not, beq_iff_eq, bne_iff_ne, beq_eq_false_iff_ne, bne_eq_false_iff_eq, Bool.not_eq_true', Bool.not_eq_false', Bool.not_true, Bool.not_false, ne_eq]; omega)) rfl ?_
      | refine o_pickN rfl rfl (by first | rfl | assumption | (simp only [decide_eq_true_eq, decide_eq_false_iff_not, beq_iff_eq, bne_iff_ne, beq_eq_false_iff_ne, bne_eq_false_iff_eq, Bool.not_eq_true', Bool.not_eq_false', Bool.not_true, Bool.not_false, ne_eq]; done) | (simp only [decide_eq_true_eq, decide_eq_false_iff_not, beq_iff_eq, bne_iff_ne, beq_eq_false_iff_ne, bne_eq_false_iff_eq, Bool.not_eq_true', Bool.not_eq_false', Bool.not_true, Bool.not_false, ne_eq]; omega)) rfl ?_
      | refine o_add rfl rfl rfl (by first | exact wrap64' (by omega) | exact wrapU64 (by omega) | exact wrapU32 (by omega) | exact wrapU8 (by omega)) ?_
      | refine o_sub rfl rfl rfl (by first | exact wrap64' (by omega) | exact wrapU64 (by omega) | exact wrapU32 (by omega) | exact wrapU8 (by omega)) ?_
      | refine o_mul rfl rfl rfl (by first | exact wrap64' (by omega) | exact wrapU64 (by omega) | exact wrapU32 (by omega) | exact wrapU8 (by omega)) ?_
      | refine o_quo rfl rfl rfl (by omega) (by omega) (by first | exact wrap64' (by omega) | exact wrapU64 (by omega) | exact wrapU32 (by omega) | exact wrapU8 (by omega)) ?_
      | refine o_rem rfl rfl rfl (by omega) (by omega) ?_
      | refine o_conv rfl rfl (by first | exact wrap64' (by omega) | exact wrapU64 (by omega) | exact wrapU32 (by omega) | exact wrapU8 (by omega)) ?_
      | refine o_load1R rfl rfl (by assumption) rfl rfl ?_
      | refine o_loadNR rfl rfl (by assumption) rfl (by first | exact Nat.le_of_ble_eq_true rfl | (simp; done) | omega) rfl ?_
      | refine o_storeR rfl rfl rfl rfl rfl (by assumption) (by first | exact Nat.le_of_ble_eq_true rfl | (simp; done) | omega) ?_
      | refine o_any rfl rfl ?_
      | refine o_anyN rfl rfl ?_
      | refine o_nil ?_
      | refine t_mv rfl rfl ?_
      | refine t_gdY rfl (by first | rfl | assumption | (simp only [decide_eq_true_eq, decide_eq_false_iff_not, beq_iff_eq, bne_iff_ne, beq_eq_false_iff_ne, bne_eq_false_iff_eq, Bool.not_eq_true', Bool.not_eq_false', Bool.not_true, Bool.not_false, ne_eq]; done) | (simp only [decide_eq_true_eq, decide_eq_false_iff_not, beq_iff_eq, bne_iff_ne, beq_eq_false_iff_ne, bne_eq_false_iff_eq, Bool.not_eq_true', Bool.not_eq_false', Bool.not_true, Bool.not_false, ne_eq]; omega)) ?_
      | refine t_gdN rfl (by first | rfl | assumption | (simp only [decide_eq_true_eq, decide_eq_false_iff_not, beq_iff_eq, bne_iff_ne, beq_eq_false_iff_ne, bne_eq_false_iff_eq, Bool.not_eq_true', Bool.not_eq_false', Bool.not_true, Bool.not_false, ne_eq]; done) | (simp only [decide_eq_true_eq, decide_eq_false_iff_not, beq_iff_eq, bne_iff_ne, beq_eq_false_iff_ne, bne_eq_false_iff_eq, Bool.not_eq_true', Bool.not_eq_false', Bool.not_true, Bool.not_false, ne_eq]; omega)) ?_
      | refine t_pass rfl ?_
      | refine t_pickY rfl rfl (by first | rfl | assumption | (simp only [decide_eq_true_eq, decide_eq_false_iff_not, beq_iff_eq, bne_iff_ne, beq_eq_false_iff_ne, bne_eq_false_iff_eq, Bool.not_eq_true', Bool.not_eq_false', Bool.not_true, Bool.not_false, ne_eq]; done) | (simp only [decide_eq_true_eq, decide_eq_false_iff_not, beq_iff_eq, bne_iff_ne, beq_eq_false_iff_ne, bne_eq_false_iff_eq, Bool.not_eq_true', Bool.not_eq_false', Bool.not_true, Bool.not_false, ne_eq]; omega)) rfl ?_
      | refine t_pickN rfl rfl (by first | rfl | assumption | (simp only [decide_eq_true_eq, decide_eq_false_iff_not, beq_iff_eq, bne_iff_ne, beq_eq_false_iff_ne, bne_eq_false_iff_eq, Bool.not_eq_true', Bool.not_eq_false', Bool.not_true, Bool.not_false, ne_eq]; done) | (simp only [decide_eq_true_eq, decide_eq_false_iff_not, beq_iff_eq, bne_iff_ne, beq_eq_false_iff_ne, bne_eq_false_iff_eq, Bool.not_eq_true', Bool.not_eq_false', Bool.not_true, Bool.not_false, ne_eq]; omega)) rfl ?_
      | refine t_add rfl rfl rfl (by first | exact wrap64' (by omega) | exact wrapU64 (by omega) | exact wrapU32 (by omega) | exact wrapU8 (by omega)) ?_
      | refine t_sub rfl rfl rfl (by first | exact wrap64' (by omega) | exact wrapU64 (by omega) | exact wrapU32 (by omega) | exact wrapU8 (by omega)) ?_
      | refine t_mul rfl rfl rfl (by first | exact wrap64' (by omega) | exact wrapU64 (by omega) | exact wrapU32 (by omega) | exact wrapU8 (by omega)) ?_
      | refine t_quo rfl rfl rfl (by omega) (by omega) (by first | exact wrap64' (by omega) | exact wrapU64 (by omega) | exact wrapU32 (by omega) | exact wrapU8 (by omega)) ?_
      | refine t_rem rfl rfl rfl (by omega) (by omega) ?_
      | refine t_conv rfl rfl (by first | exact wrap64' (by omega) | exact wrapU64 (by omega) | exact wrapU32 (by omega) | exact wrapU8 (by omega)) ?_
      | refine t_load1R rfl rfl (by assumption) rfl rfl ?_
      | refine t_loadNR rfl rfl (by assumption) rfl (by first | exact Nat.le_of_ble_eq_true rfl | (simp; done) | omega) rfl ?_
      | refine t_any rfl rfl ?_
      | refine t_anyN rfl rfl ?_
      | (refine t_nil ⟨?_, ?_⟩; focus (repeat (first | exact trivial | rfl | refine And.intro ?_ ?_)))
      | refine w_opsS ?_
      | refine w_ops ?_
      | refine w_condY rfl (by first | rfl | assumption | (simp only [decide_eq_true_eq, decide_eq_false_iff_not, beq_iff_eq, bne_iff_ne, beq_eq_false_iff_ne, bne_eq_false_iff_eq, Bool.not_eq_true', Bool.not_eq_false', Bool.not_true, Bool.not_false, ne_eq]; done) | (simp only [decide_eq_true_eq, decide_eq_false_iff_not, beq_iff_eq, bne_iff_ne, beq_eq_false_iff_ne, bne_eq_false_iff_eq, Bool.not_eq_true', Bool.not_eq_false', Bool.not_true, Bool.not_false, ne_eq]; omega)) ?_
      | refine w_condN rfl (by first | rfl | assumption | (simp only [decide_eq_true_eq, decide_eq_false_iff_not, beq_iff_eq, bne_iff_ne, beq_eq_false_iff_ne, bne_eq_false_iff_eq, Bool.not_eq_true', Bool.not_eq_false', Bool.not_true, Bool.not_false, ne_eq]; done) | (simp only [decide_eq_true_eq, decide_eq_false_iff_not, beq_iff_eq, bne_iff_ne, beq_eq_false_iff_ne, bne_eq_false_iff_eq, Bool.not_eq_true', Bool.not_eq_false', Bool.not_true, Bool.not_false, ne_eq]; omega)) ?_
      | refine w_seq ?_
      | refine w_opsX ?_
      | refine w_block ?_
      | refine w_exit ?_
      | refine w_ret ?_
      | refine w_skip ?_)
    refine o_ixV rfl rfl rfl ⟨by omega, by omega⟩ ?_
    refine o_gdY rfl (by simp; omega) ?_
    refine o_load1 rfl rfl hrd1 ?_
    have hcl : (P.take i).count P[i] ≤ 1000 := by
      have := List.count_le_length (a := P[i]) (l := P.take i)
      rw [List.length_take] at this; omega
    by_cases hi0 : i = 0
    · have hi1 : ((i : Nat) : Int) = 0 := by omega
      repeat (first
        | refine o_mv rfl rfl ?_
        | refine o_lenV rfl rfl ?_
        | refine o_gdY rfl (by first | rfl | assumption | (simp only [decide_eq_true_eq, decide_eq_false_iff_not, beq_iff_eq, bne_iff_ne, beq_eq_false_iff_ne, bne_eq_false_iff_eq, Bool.not_eq_true', Bool.not_eq_false', Bool.not_true, Bool.not_false, ne_eq]; done) | (simp only [decide_eq_true_eq, decide_eq_false_iff_not, beq_iff_eq, bne_iff_ne, beq_eq_false_iff_ne, bne_eq_false_iff_eq, Bool.not_eq_true', Bool.not_eq_false', Bool.not_true, Bool.not_false, ne_eq]; omega)) ?_
        | refine o_gdN rfl (by first | rfl | assumption | (simp only [decide_eq_true_eq, decide_eq_false_iff_not, beq_iff_eq, bne_iff_ne, beq_eq_false_iff_ne, bne_eq_false_iff_eq, Bool.not_eq_true', Bool.not_eq_false', Bool.not_true, Bool.not_false, ne_eq]; done) | (simp only [decide_eq_true_eq, decide_eq_false_iff_not, beq_iff_eq, bne_iff_ne, beq_eq_false_iff_ne, bne_eq_false_iff_eq, Bool.not_eq_true', Bool.not_eq_false', Bool.not_true, Bool.not_false, ne_eq]; omega)) ?_
        | refine o_pass rfl ?_
        | refine o_passN rfl ?_
        | refine o_pickY rfl rfl (by first | rfl | assumption | (simp only [decide_eq_true_eq, decide_eq_false_iff_not, beq_iff_eq, bne_iff_ne, beq_eq_false_iff_ne, bne_eq_false_iff_eq, Bool.not_eq_true', Bool.not_eq_false', Bool.not_true, Bool.not_false, ne_eq]; done) | (simp only [decide_eq_true_eq, decide_eq_false_iff_not, beq_iff_eq, bne_iff_ne, beq_eq_false_iff_ne, bne_eq_false_iff_eq, Bool.not_eq_true', Bool.not_eq_false', Bool.not_true, Bool.not_false, ne_eq]; omega)) rfl ?_
        | refine o_pickN rfl rfl (by first | rfl | assumption | (simp only [decide_eq_true_eq, decide_eq_false_iff_not, beq_iff_eq, bne_iff_ne, beq_eq_false_iff_ne, bne_eq_false_iff_eq, Bool.not_eq_true', Bool.not_eq_false', Bool.not_true, Bool.not_false, ne_eq]; done) | (simp only [decide_eq_true_eq, decide_eq_false_iff_not, beq_iff_eq, bne_iff_ne, beq_eq_false_iff_ne, bne_eq_false_iff_eq, Bool.not_eq_true', Bool.not_eq_false', Bool.not_true, Bool.not_false, ne_eq]; omega)) rfl ?_
        | refine o_add rfl rfl rfl (by first | exact wrap64' (by omega) | exact wrapU64 (by omega) | exact wrapU32 (by omega) | exact wrapU8 (by omega)) ?_
        | refine o_sub rfl rfl rfl (by first | exact wrap64' (by omega) | exact wrapU64 (by omega) | exact wrapU32 (by omega) | exact wrapU8 (by omega)) ?_
        | refine o_mul rfl rfl rfl (by first | exact wrap64' (by omega) | exact wrapU64 (by omega) | exact wrapU32 (by omega) | exact wrapU8 (by omega)) ?_
        | refine o_quo rfl rfl rfl (by omega) (by omega) (by first | exact wrap64' (by omega) | exact wrapU64 (by omega) | exact wrapU32 (by omega) | exact wrapU8 (by omega)) ?_
        | refine o_rem rfl rfl rfl (by omega) (by omega) ?_
        | refine o_conv rfl rfl (by first | exact wrap64' (by omega) | exact wrapU64 (by omega) | exact wrapU32 (by omega) | exact wrapU8 (by omega)) ?_
        | refine o_load1R rfl rfl (by assumption) rfl rfl ?_
        | refine o_loadNR rfl rfl (by assumption) rfl (by first | exact Nat.le_of_ble_eq_true rfl | (simp; done) | omega) rfl ?_
        | refine o_storeR rfl rfl rfl rfl rfl (by assumption) (by first | exact Nat.le_of_ble_eq_true rfl | (simp; done) | omega) ?_
        | refine o_any rfl rfl ?_
        | refine o_anyN rfl rfl ?_
        | refine o_nil ?_
        | refine t_mv rfl rfl ?_
        | refine t_gdY rfl (by first | rfl | assumption | (simp only [decide_eq_true_eq, decide_eq_false_iff_not, beq_iff_eq, bne_iff_ne, beq_eq_false_iff_ne, bne_eq_false_iff_eq, Bool.not_eq_true', Bool.not_eq_false', Bool.not_true, Bool.not_false, ne_eq]; done) | (simp only [decide_eq_true_eq, decide_eq_false_iff_not, beq_iff_eq, bne_iff_ne, beq_eq_false_iff_ne, bne_eq_false_iff_eq, Bool.not_eq_true', Bool.not_eq_false', Bool.not_true, Bool.not_false, ne_eq]; omega)) ?_
        | refine t_gdN rfl (by first | rfl | assumption | (simp only [decide_eq_true_eq, decide_eq_false_iff_not, beq_iff_eq, bne_iff_ne, beq_eq_false_iff_ne, bne_eq_false_iff_eq, Bool.not_eq_true', Bool.not_eq_false', Bool.not_true, Bool.not_false, ne_eq]; done) | (simp only [decide_eq_true_eq, decide_eq_false_iff_not, beq_iff_eq, bne_iff_ne, beq_eq_false_iff_ne, bne_eq_false_iff_eq, Bool.not_eq_true', Bool.not_eq_false', Bool.not_true, Bool.not_false, ne_eq]; omega)) ?_
        | refine t_pass rfl ?_
        | refine t_pickY rfl rfl (by first | rfl | assumption | (simp only [decide_eq_true_eq, decide_eq_false_iff_not, beq_iff_eq, bne_iff_ne, beq_eq_false_iff_ne, bne_eq_false_iff_eq, Bool.not_eq_true', Bool.not_eq_false', Bool.not_true, Bool.not_false, ne_eq]; done) | (simp only [decide_eq_true_eq, decide_eq_false_iff_not, beq_iff_eq, bne_iff_ne, beq_eq_false_iff_ne, bne_eq_false_iff_eq, Bool.not_eq_true', Bool.not_eq_false', Bool.not_true, Bool.not_false, ne_eq]; omega)) rfl ?_
        | refine t_pickN rfl rfl (by first | rfl | assumption | (simp only [decide_eq_true_eq, decide_eq_false_iff_not, beq_iff_eq, bne_iff_ne, beq_eq_false_iff_ne, bne_eq_false_iff_eq, Bool.not_eq_true', Bool.not_eq_false', Bool.not_true, Bool.not_false, ne_eq]; done) | (simp only [decide_eq_true_eq, decide_eq_false_iff_not, beq_iff_eq, bne_iff_ne, beq_eq_false_iff_ne, bne_eq_false_iff_eq, Bool.not_eq_true', Bool.not_eq_false', Bool.not_true, Bool.not_false, ne_eq]; omega)) rfl ?_
        | refine t_add rfl rfl rfl (by first | exact wrap64' (by omega) | exact wrapU64 (by omega) | exact wrapU32 (by omega) | exact wrapU8 (by omega)) ?_
        | refine t_sub rfl rfl rfl (by first | exact wrap64' (by omega) | exact wrapU64 (by omega) | exact wrapU32 (by omega) | exact wrapU8 (by omega)) ?_
        | refine t_mul rfl rfl rfl (by first | exact wrap64' (by omega) | exact wrapU64 (by omega) | exact wrapU32 (by omega) | exact wrapU8 (by omega)) ?_
        | refine t_quo rfl rfl rfl (by omega) (by omega) (by first | exact wrap64' (by omega) | exact wrapU64 (by omega) | exact wrapU32 (by omega) | exact wrapU8 (by omega)) ?_
        | refine t_rem rfl rfl rfl (by omega) (by omega) ?_
        | refine t_conv rfl rfl (by first | exact wrap64' (by omega) | exact wrapU64 (by omega) | exact wrapU32 (by omega) | exact wrapU8 (by omega)) ?_
        | refine t_load1R rfl rfl (by assumption) rfl rfl ?_
        | refine t_loadNR rfl rfl (by assumption) rfl (by first | exact Nat.le_of_ble_eq_true rfl | (simp; done) | omega) rfl ?_
        | refine t_any rfl rfl ?_
        | refine t_anyN rfl rfl ?_
        | (refine t_nil ⟨?_, ?_⟩; focus (repeat (first | exact trivial | rfl | refine And.intro ?_ ?_)))
        | refine w_opsS ?_
        | refine w_ops ?_
        | refine w_condY rfl (by first | rfl | assumption | (simp only [decide_eq_true_eq, decide_eq_false_iff_not, beq_iff_eq, bne_iff_ne, beq_eq_false_iff_ne, bne_eq_false_iff_eq, Bool.not_eq_true', Bool.not_eq_false', Bool.not_true, Bool.not_false, ne_eq]; done) | (simp only [decide_eq_true_eq, decide_eq_false_iff_not, beq_iff_eq, bne_iff_ne, beq_eq_false_iff_ne, bne_eq_false_iff_eq, Bool.not_eq_true', Bool.not_eq_false', Bool.not_true, Bool.not_false, ne_eq]; omega)) ?_
        | refine w_condN rfl (by first | rfl | assumption | (simp only [decide_eq_true_eq, decide_eq_false_iff_not, beq_iff_eq, bne_iff_ne, beq_eq_false_iff_ne, bne_eq_false_iff_eq, Bool.not_eq_true', Bool.not_eq_false', Bool.not_true, Bool.not_false, ne_eq]; done) | (simp only [decide_eq_true_eq, decide_eq_false_iff_not, beq_iff_eq, bne_iff_ne, beq_eq_false_iff_ne, bne_eq_false_iff_eq, Bool.not_eq_true', Bool.not_eq_false', Bool.not_true, Bool.not_false, ne_eq]; omega)) ?_
        | refine w_seq ?_
        | refine w_opsX ?_
        | refine w_block ?_
        | refine w_exit ?_
        | refine w_ret ?_
        | refine w_skip ?_)
      refine o_ixV rfl rfl rfl ⟨by omega, by omega⟩ ?_
      refine o_load1 rfl rfl hrd1 ?_
      refine o_ixA rfl rfl rfl ⟨by omega, by omega⟩ ?_
      refine o_load1R rfl rfl hg rfl (v := .int .i64 (((P.take i).count P[i] : Nat) : Int)) (by simpa using cnt_get (P.take i) P[i] (by omega)) ?_
      repeat (first
        | refine o_mv rfl rfl ?_
        | refine o_lenV rfl rfl ?_
        | refine o_gdY rfl (by first | rfl | assumption | (simp only [decide_eq_true_eq, decide_eq_false_iff_not, beq_iff_eq, bne_iff_ne, beq_eq_false_iff_ne, bne_eq_false_iff_eq, Bool.not_eq_true', Bool.not_eq_false', Bool.not_true, Bool.not_false, ne_eq]; done) | (simp only [decide_eq_true_eq, decide_eq_false_iff_not, beq_iff_eq, bne_iff_ne, beq_eq_false_iff_ne, bne_eq_false_iff_eq, Bool.not_eq_true', Bool.not_eq_false', Bool.not_true, Bool.not_false, ne_eq]; omega)) ?_
        | refine o_gdN rfl (by first | rfl | assumption | (simp only [decide_eq_true_eq, decide_eq_false_iff_not, beq_iff_eq, bne_iff_ne, beq_eq_false_iff_ne, bne_eq_false_iff_eq, Bool.not_eq_true', Bool.not_eq_false', Bool.not_true, Bool.not_false, ne_eq]; done) | (simp only [decide_eq_true_eq, decide_eq_false_iff_not, beq_iff_eq, bne_iff_ne, beq_eq_false_iff_ne, bne_eq_false_iff_eq, Bool.not_eq_true', Bool.not_eq_false', Bool.not_true, Bool.not_false, ne_eq]; omega)) ?_
        | refine o_pass rfl ?_
        | refine o_passN rfl ?_
        | refine o_pickY rfl rfl (by first | rfl | assumption | (simp only [decide_eq_true_eq, decide_eq_false_iff_not, beq_iff_eq, bne_iff_ne, beq_eq_false_iff_ne, bne_eq_false_iff_eq, Bool.not_eq_true', Bool.not_eq_false', Bool.not_true, Bool.not_false, ne_eq]; done) | (simp only [decide_eq_true_eq, decide_eq_false_iff_not, beq_iff_eq, bne_iff_ne, beq_eq_false_iff_ne, bne_eq_false_iff_eq, Bool.not_eq_true', Bool.not_eq_false', Bool.not_true, Bool.not_false, ne_eq]; omega)) rfl ?_
        | refine o_pickN rfl rfl (by first | rfl | assumption | (simp only [decide_eq_true_eq, decide_eq_false_iff_not, beq_iff_eq, bne_iff_ne, beq_eq_false_iff_ne, bne_eq_false_iff_eq, Bool.not_eq_true', Bool.not_eq_false', Bool.not_true, Bool.not_false, ne_eq]; done) | (simp only [decide_eq_true_eq, decide_eq_false_iff_not, beq_iff_eq, bne_iff_ne, beq_eq_false_iff_ne, bne_eq_false_iff_eq, Bool.not_eq_true', Bool.not_eq_false', Bool.not_true, Bool.not_false, ne_eq]; omega)) rfl ?_
        | refine o_add rfl rfl rfl (by first | exact wrap64' (by omega) | exact wrapU64 (by omega) | exact wrapU32 (by omega) | exact wrapU8 (by omega)) ?_
        | refine o_sub rfl rfl rfl (by first | exact wrap64' (by omega) | exact wrapU64 (by omega) | exact wrapU32 (by omega) | exact wrapU8 (by omega)) ?_
        | refine o_mul rfl rfl rfl (by first | exact wrap64' (by omega) | exact wrapU64 (by omega) | exact wrapU32 (by omega) | exact wrapU8 (by omega)) ?_
        | refine o_quo rfl rfl rfl (by omega) (by omega) (by first | exact wrap64' (by omega) | exact wrapU64 (by omega) | exact wrapU32 (by omega) | exact wrapU8 (by omega)) ?_
        | refine o_rem rfl rfl rfl (by omega) (by omega) ?_
        | refine o_conv rfl rfl (by first | exact wrap64' (by omega) | exact wrapU64 (by omega) | exact wrapU32 (by omega) | exact wrapU8 (by omega)) ?_
        | refine o_load1R rfl rfl (by assumption) rfl rfl ?_
        | refine o_loadNR rfl rfl (by assumption) rfl (by first | exact Nat.le_of_ble_eq_true rfl | (simp; done) | omega) rfl ?_
        | refine o_storeR rfl rfl rfl rfl rfl (by assumption) (by first | exact Nat.le_of_ble_eq_true rfl | (simp; done) | omega) ?_
        | refine o_any rfl rfl ?_
        | refine o_anyN rfl rfl ?_
        | refine o_nil ?_
        | refine t_mv rfl rfl ?_
        | refine t_gdY rfl (by first | rfl | assumption | (simp only [decide_eq_true_eq, decide_eq_false_iff_not, beq_iff_eq, bne_iff_ne, beq_eq_false_iff_ne, bne_eq_false_iff_eq, Bool.not_eq_true', Bool.not_eq_false', Bool.not_true, Bool.not_false, ne_eq]; done) | (simp only [decide_eq_true_eq, decide_eq_false_iff_not, beq_iff_eq, bne_iff_ne, beq_eq_false_iff_ne, bne_eq_false_iff_eq, Bool.not_eq_true', Bool.not_eq_false', Bool.not_true, Bool.not_false, ne_eq]; omega)) ?_
        | refine t_gdN rfl (by first | rfl | assumption | (simp only [decide_eq_true_eq, decide_eq_false_iff_not, beq_iff_eq, bne_iff_ne, beq_eq_false_iff_ne, bne_eq_false_iff_eq, Bool.not_eq_true', Bool.not_eq_false', Bool.not_true, Bool.not_false, ne_eq]; done) | (simp only [decide_eq_true_eq, decide_eq_false_iff_not, beq_iff_eq, bne_iff_ne, beq_eq_false_iff_ne, bne_eq_false_iff_eq, Bool.not_eq_true', Bool.not_eq_false', Bool.not_true, Bool.not_false, ne_eq]; omega)) ?_
        | refine t_pass rfl ?_
        | refine t_pickY rfl rfl (by first | rfl | assumption | (simp only [decide_eq_true_eq, decide_eq_false_iff_not, beq_iff_eq, bne_iff_ne, beq_eq_false_iff_ne, bne_eq_false_iff_eq, Bool.not_eq_true', Bool.not_eq_false', Bool.not_true, Bool.not_false, ne_eq]; done) | (simp only [decide_eq_true_eq, decide_eq_false_iff_not, beq_iff_eq, bne_iff_ne, beq_eq_false_iff_ne, bne_eq_false_iff_eq, Bool.not_eq_true', Bool.not_eq_false', Bool.not_true, Bool.not_false, ne_eq]; omega)) rfl ?_
        | refine t_pickN rfl rfl (by first | rfl | assumption | (simp only [decide_eq_true_eq, decide_eq_false_iff_not, beq_iff_eq, bne_iff_ne, beq_eq_false_iff_ne, bne_eq_false_iff_eq, Bool.not_eq_true', Bool.not_eq_false', Bool.not_true, Bool.not_false, ne_eq]; done) | (simp only [decide_eq_true_eq, decide_eq_false_iff_not, beq_iff_eq, bne_iff_ne, beq_eq_false_iff_ne, bne_eq_false_iff_eq, Bool.not_eq_true', Bool.not_eq_false', Bool.not_true, Bool.not_false, ne_eq]; omega)) rfl ?_
        | refine t_add rfl rfl rfl (by first | exact wrap64' (by omega) | exact wrapU64 (by omega) | exact wrapU32 (by omega) | exact wrapU8 (by omega)) ?_
        | refine t_sub rfl rfl rfl (by first | exact wrap64' (by omega) | exact wrapU64 (by omega) | exact wrapU32 (by omega) | exact wrapU8 (by omega)) ?_
        | refine t_mul rfl rfl rfl (by first | exact wrap64' (by omega) | exact wrapU64 (by omega) | exact wrapU32 (by omega) | exact wrapU8 (by omega)) ?_
        | refine t_quo rfl rfl rfl (by omega) (by omega) (by first | exact wrap64' (by omega) | exact wrapU64 (by omega) | exact wrapU32 (by omega) | exact wrapU8 (by omega)) ?_
        | refine t_rem rfl rfl rfl (by omega) (by omega) ?_
        | refine t_conv rfl rfl (by first | exact wrap64' (by omega) | exact wrapU64 (by omega) | exact wrapU32 (by omega) | exact wrapU8 (by omega)) ?_
        | refine t_load1R rfl rfl (by assumption) rfl rfl ?_
        | refine t_loadNR rfl rfl (by assumption) rfl (by first | exact Nat.le_of_ble_eq_true rfl | (simp; done) | omega) rfl ?_
        | refine t_any rfl rfl ?_
        | refine t_anyN rfl rfl ?_
        | (refine t_nil ⟨?_, ?_⟩; focus (repeat (first | exact trivial | rfl | refine And.intro ?_ ?_)))
        | refine w_opsS ?_
        | refine w_ops ?_
        | refine w_condY rfl (by first | rfl | assumption | (simp only [decide_eq_true_eq, decide_eq_false_iff_not, beq_iff_eq, bne_iff_ne, beq_eq_false_iff_ne, bne_eq_false_iff_eq, Bool.not_eq_true', Bool.not_eq_false', Bool.not_true, Bool.not_false, ne_eq]; done) | (simp only [decide_eq_true_eq, decide_eq_false_iff_not, beq_iff_eq, bne_iff_ne, beq_eq_false_iff_ne, bne_eq_false_iff_eq, Bool.not_eq_true', Bool.not_eq_false', Bool.not_true, Bool.not_false, ne_eq]; omega)) ?_
        | refine w_condN rfl (by first | rfl | assumption | (simp only [decide_eq_true_eq, decide_eq_false_iff_not, beq_iff_eq, bne_iff_ne, beq_eq_false_iff_ne, bne_eq_false_iff_eq, Bool.not_eq_true', Bool.not_eq_false', Bool.not_true, Bool.not_false, ne_eq]; done) | (simp only [decide_eq_true_eq, decide_eq_false_iff_not, beq_iff_eq, bne_iff_ne, beq_eq_false_iff_ne, bne_eq_false_iff_eq, Bool.not_eq_true', Bool.not_eq_false', Bool.not_true, Bool.not_false, ne_eq]; omega)) ?_
        | refine w_seq ?_
        | refine w_opsX ?_
        | refine w_block ?_
        | refine w_exit ?_
        | refine w_ret ?_
        | refine w_skip ?_)
      refine o_ixA rfl rfl rfl ⟨by omega, by omega⟩ ?_
      refine o_storeR rfl rfl rfl rfl rfl hg (by simp [cnt_length]; omega) ?_
      have hset := cnt_set (P.take i) P[i] (by omega)
      have hoff : ({ block := s, off := 0 } : Addr).off + P[i].toNat * 1 = P[i].toNat := by simp
      rw [hoff, hset, List.take_append_getElem]
      have hg2 := Heap.get?_set_same (o := .rw (cnt (P.take (i + 1)))) hg
      have ho2 := ho.trans (Only.set (o := .rw (cnt (P.take (i + 1)))) hg)
      generalize h.set s (.rw (cnt (P.take (i + 1)))) = h2 at hg2 ho2 ⊢
      repeat (first
        | refine o_mv rfl rfl ?_
        | refine o_lenV rfl rfl ?_
        | refine o_gdY rfl (by first | rfl | assumption | (simp only [decide_eq_true_eq, decide_eq_false_iff_not, beq_iff_eq, bne_iff_ne, beq_eq_false_iff_ne, bne_eq_false_iff_eq, Bool.not_eq_true', Bool.not_eq_false', Bool.not_true, Bool.not_false, ne_eq]; done) | (simp only [decide_eq_true_eq, decide_eq_false_iff_not, beq_iff_eq, bne_iff_ne, beq_eq_false_iff_ne, bne_eq_false_iff_eq, Bool.not_eq_true', Bool.not_eq_false', Bool.not_true, Bool.not_false, ne_eq]; omega)) ?_
        | refine o_gdN rfl (by first | rfl | assumption | (simp only [decide_eq_true_eq, decide_eq_false_iff_not, beq_iff_eq, bne_iff_ne, beq_eq_false_iff_ne, bne_eq_false_iff_eq, Bool.not_eq_true', Bool.not_eq_false', Bool.not_true, Bool.not_false, ne_eq]; done) | (simp only [decide_eq_true_eq, decide_eq_false_iff_not, beq_iff_eq, bne_iff_ne, beq_eq_false_iff_ne, bne_eq_false_iff_eq, Bool.not_eq_true', Bool.not_eq_false', Bool.not_true, Bool.not_false, ne_eq]; omega)) ?_
        | refine o_pass rfl ?_
        | refine o_passN rfl ?_
        | refine o_pickY rfl rfl (by first | rfl | assumption | (simp only [decide_eq_true_eq, decide_eq_false_iff_not, beq_iff_eq, bne_iff_ne, beq_eq_false_iff_ne, bne_eq_false_iff_eq, Bool.not_eq_true', Bool.not_eq_false', Bool.not_true, Bool.not_false, ne_eq]; done) | (simp only [decide_eq_true_eq, decide_eq_false_iff_not, beq_iff_eq, bne_iff_ne, beq_eq_false_iff_ne, bne_eq_false_iff_eq, Bool.not_eq_true', Bool.not_eq_false', Bool.not_true, Bool.not_false, ne_eq]; omega)) rfl ?_
        | refine o_pickN rfl rfl (by first | rfl | assumption | (simp only [decide_eq_true_eq, decide_eq_false_iff_not, beq_iff_eq, bne_iff_ne, beq_eq_false_iff_ne, bne_eq_false_iff_eq, Bool.not_eq_true', Bool.not_eq_false', Bool.not_true, Bool.not_false, ne_eq]; done) | (simp only [decide_eq_true_eq, decide_eq_false_iff_not, beq_iff_eq, bne_iff_ne, beq_eq_false_iff_ne, bne_eq_false_iff_eq, Bool.not_eq_true', Bool.not_eq_false', Bool.not_true, Bool.not_false, ne_eq]; omega)) rfl ?_
        | refine o_add rfl rfl rfl (by first | exact wrap64' (by omega) | exact wrapU64 (by omega) | exact wrapU32 (by omega) | exact wrapU8 (by omega)) ?_
        | refine o_sub rfl rfl rfl (by first | exact wrap64' (by omega) | exact wrapU64 (by omega) | exact wrapU32 (by omega) | exact wrapU8 (by omega)) ?_
        | refine o_mul rfl rfl rfl (by first | exact wrap64' (by omega) | exact wrapU64 (by omega) | exact wrapU32 (by omega) | exact wrapU8 (by omega)) ?_
        | refine o_quo rfl rfl rfl (by omega) (by omega) (by first | exact wrap64' (by omega) | exact wrapU64 (by omega) | exact wrapU32 (by omega) | exact wrapU8 (by omega)) ?_
        | refine o_rem rfl rfl rfl (by omega) (by omega) ?_
        | refine o_conv rfl rfl (by first | exact wrap64' (by omega) | exact wrapU64 (by omega) | exact wrapU32 (by omega) | exact wrapU8 (by omega)) ?_
        | refine o_load1R rfl rfl (by assumption) rfl rfl ?_
        | refine o_loadNR rfl rfl (by assumption) rfl (by first | exact Nat.le_of_ble_eq_true rfl | (simp; done) | omega) rfl ?_
        | refine o_storeR rfl rfl rfl rfl rfl (by assumption) (by first | exact Nat.le_of_ble_eq_true rfl | (simp; done) | omega) ?_
        | refine o_any rfl rfl ?_
        | refine o_anyN rfl rfl ?_
        | refine o_nil ?_
        | refine t_mv rfl rfl ?_
        | refine t_gdY rfl (by first | rfl | assumption | (simp only [decide_eq_true_eq, decide_eq_false_iff_not, beq_iff_eq, bne_iff_ne, beq_eq_false_iff_ne, bne_eq_false_iff_eq, Bool.not_eq_true', Bool.not_eq_false', Bool.not_true, Bool.not_false, ne_eq]; done) | (simp only [decide_eq_true_eq, decide_eq_false_iff_not, beq_iff_eq, bne_iff_ne, beq_eq_false_iff_ne, bne_eq_false_iff_eq, Bool.not_eq_true', Bool.not_eq_false', Bool.not_true, Bool.not_false, ne_eq]; omega)) ?_
        | refine t_gdN rfl (by first | rfl | assumption | (simp only [decide_eq_true_eq, decide_eq_false_iff_not, beq_iff_eq, bne_iff_ne, beq_eq_false_iff_ne, bne_eq_false_iff_eq, Bool.not_eq_true', Bool.not_eq_false', Bool.not_true, Bool.not_false, ne_eq]; done) | (simp only [decide_eq_true_eq, decide_eq_false_iff_not, beq_iff_eq, bne_iff_ne, beq_eq_false_iff_ne, bne_eq_false_iff_eq, Bool.not_eq_true', Bool.not_eq_false', Bool.not_true, Bool.not_false, ne_eq]; omega)) ?_
        | refine t_pass rfl ?_
        | refine t_pickY rfl rfl (by first | rfl | assumption | (simp only [decide_eq_true_eq, decide_eq_false_iff_not, beq_iff_eq, bne_iff_ne, beq_eq_false_iff_ne, bne_eq_false_iff_eq, Bool.not_eq_true', Bool.not_eq_false', Bool.not_true, Bool.not_false, ne_eq]; done) | (simp only [decide_eq_true_eq, decide_eq_false_iff_not, beq_iff_eq, bne_iff_ne, beq_eq_false_iff_ne, bne_eq_false_iff_eq, Bool.not_eq_true', Bool.not_eq_false', Bool.not_true, Bool.not_false, ne_eq]; omega)) rfl ?_
        | refine t_pickN rfl rfl (by first | rfl | assumption | (simp only [decide_eq_true_eq, decide_eq_false_iff_not, beq_iff_eq, bne_iff_ne, beq_eq_false_iff_ne, bne_eq_false_iff_eq, Bool.not_eq_true', Bool.not_eq_false', Bool.not_true, Bool.not_false, ne_eq]; done) | (simp only [decide_eq_true_eq, decide_eq_false_iff_not, beq_iff_eq, bne_iff_ne, beq_eq_false_iff_ne, bne_eq_false_iff_eq, Bool.not_eq_true', Bool.not_eq_false', Bool.not_true, Bool.not_false, ne_eq]; omega)) rfl ?_
        | refine t_add rfl rfl rfl (by first | exact wrap64' (by omega) | exact wrapU64 (by omega) | exact wrapU32 (by omega) | exact wrapU8 (by omega)) ?_
        | refine t_sub rfl rfl rfl (by first | exact wrap64' (by omega) | exact wrapU64 (by omega) | exact wrapU32 (by omega) | exact wrapU8 (by omega)) ?_
        | refine t_mul rfl rfl rfl (by first | exact wrap64' (by omega) | exact wrapU64 (by omega) | exact wrapU32 (by omega) | exact wrapU8 (by omega)) ?_
        | refine t_quo rfl rfl rfl (by omega) (by omega) (by first | exact wrap64' (by omega) | exact wrapU64 (by omega) | exact wrapU32 (by omega) | exact wrapU8 (by omega)) ?_
        | refine t_rem rfl rfl rfl (by omega) (by omega) ?_
        | refine t_conv rfl rfl (by first | exact wrap64' (by omega) | exact wrapU64 (by omega) | exact wrapU32 (by omega) | exact wrapU8 (by omega)) ?_
        | refine t_load1R rfl rfl (by assumption) rfl rfl ?_
        | refine t_loadNR rfl rfl (by assumption) rfl (by first | exact Nat.le_of_ble_eq_true rfl | (simp; done) | omega) rfl ?_
        | refine t_any rfl rfl ?_
        | refine t_anyN rfl rfl ?_
        | (refine t_nil ⟨?_, ?_⟩; focus (repeat (first | exact trivial | rfl | refine And.intro ?_ ?_)))
        | refine w_opsS ?_
        | refine w_ops ?_
        | refine w_condY rfl (by first | rfl | assumption | (simp only [decide_eq_true_eq, decide_eq_false_iff_not, beq_iff_eq, bne_iff_ne, beq_eq_false_iff_ne, bne_eq_false_iff_eq, Bool.not_eq_true', Bool.not_eq_false', Bool.not_true, Bool.not_false, ne_eq]; done) | (simp only [decide_eq_true_eq, decide_eq_false_iff_not, beq_iff_eq, bne_iff_ne, beq_eq_false_iff_ne, bne_eq_false_iff_eq, Bool.not_eq_true', Bool.not_eq_false', Bool.not_true, Bool.not_false, ne_eq]; omega)) ?_
        | refine w_condN rfl (by first | rfl | assumption | (simp only [decide_eq_true_eq, decide_eq_false_iff_not, beq_iff_eq, bne_iff_ne, beq_eq_false_iff_ne, bne_eq_false_iff_eq, Bool.not_eq_true', Bool.not_eq_false', Bool.not_true, Bool.not_false, ne_eq]; done) | (simp only [decide_eq_true_eq, decide_eq_false_iff_not, beq_iff_eq, bne_iff_ne, beq_eq_false_iff_ne, bne_eq_false_iff_eq, Bool.not_eq_true', Bool.not_eq_false', Bool.not_true, Bool.not_false, ne_eq]; omega)) ?_
        | refine w_seq ?_
        | refine w_opsX ?_
        | refine w_block ?_
        | refine w_exit ?_
        | refine w_ret ?_
        | refine w_skip ?_)
      refine rnd_again rfl ?_
      exact ih (i + 1) h2 (by omega) ho2 hg2 hQ
    · have hlt1 : P[i - 1] < P[i] := List.pairwise_iff_getElem.1 hst (i - 1) i (by omega) hip (by omega)
      have hrd2 : h.rd1 (addOff a0 (((i : Int) - 1).toNat * 1)) = some (.int .i64 P[i - 1]) := by
        obtain ⟨a1, cap1, e1, _, hrd'⟩ := hvh.at1 (i := i - 1) (u := .int .i64 P[i - 1]) (by rw [List.getElem?_map, List.getElem?_eq_getElem (by omega)]; rfl)
        cases e1
        rw [show ((i : Int) - 1).toNat = i - 1 by omega]; exact hrd'
      repeat (first
        | refine o_mv rfl rfl ?_
        | refine o_lenV rfl rfl ?_
        | refine o_gdY rfl (by first | rfl | assumption | (simp only [decide_eq_true_eq, decide_eq_false_iff_not, beq_iff_eq, bne_iff_ne, beq_eq_false_iff_ne, bne_eq_false_iff_eq, Bool.not_eq_true', Bool.not_eq_false', Bool.not_true, Bool.not_false, ne_eq]; done) | (simp only [decide_eq_true_eq, decide_eq_false_iff_not, beq_iff_eq, bne_iff_ne, beq_eq_false_iff_ne, bne_eq_false_iff_eq, Bool.not_eq_true', Bool.not_eq_false', Bool.not_true, Bool.not_false, ne_eq]; omega)) ?_
        | refine o_gdN rfl (by first | rfl | assumption | (simp only [decide_eq_true_eq, decide_eq_false_iff_not, beq_iff_eq, bne_iff_ne, beq_eq_false_iff_ne, bne_eq_false_iff_eq, Bool.not_eq_true', Bool.not_eq_false', Bool.not_true, Bool.not_false, ne_eq]; done) | (simp only [decide_eq_true_eq, decide_eq_false_iff_not, beq_iff_eq, bne_iff_ne, beq_eq_false_iff_ne, bne_eq_false_iff_eq, Bool.not_eq_true', Bool.not_eq_false', Bool.not_true, Bool.not_false, ne_eq]; omega)) ?_
        | refine o_pass rfl ?_
        | refine o_passN rfl ?_
        | refine o_pickY rfl rfl (by first | rfl | assumption | (simp only [decide_eq_true_eq, decide_eq_false_iff_not, beq_iff_eq, bne_iff_ne, beq_eq_false_iff_ne, bne_eq_false_iff_eq, Bool.not_eq_true', Bool.not_eq_false', Bool.not_true, Bool.not_false, ne_eq]; done) | (simp only [decide_eq_true_eq, decide_eq_false_iff_not, beq_iff_eq, bne_iff_ne, beq_eq_false_iff_ne, bne_eq_false_iff_eq, Bool.not_eq_true', Bool.not_eq_false', Bool.not_true, Bool.not_false, ne_eq]; omega)) rfl ?_
        | refine o_pickN rfl rfl (by first | rfl | assumption | (simp only [decide_eq_true_eq, decide_eq_false_iff_not, beq_iff_eq, bne_iff_ne, beq_eq_false_iff_ne, bne_eq_false_iff_eq, Bool.not_eq_true', Bool.not_eq_false', Bool.not_true, Bool.not_false, ne_eq]; done) | (simp only [decide_eq_true_eq, decide_eq_false_iff_not, beq_iff_eq, bne_iff_ne, beq_eq_false_iff_ne, bne_eq_false_iff_eq, Bool.not_eq_true', Bool.not_eq_false', Bool.not_true, Bool.not_false, ne_eq]; omega)) rfl ?_
        | refine o_add rfl rfl rfl (by first | exact wrap64' (by omega) | exact wrapU64 (by omega) | exact wrapU32 (by omega) | exact wrapU8 (by omega)) ?_
        | refine o_sub rfl rfl rfl (by first | exact wrap64' (by omega) | exact wrapU64 (by omega) | exact wrapU32 (by omega) | exact wrapU8 (by omega)) ?_
        | refine o_mul rfl rfl rfl (by first | exact wrap64' (by omega) | exact wrapU64 (by omega) | exact wrapU32 (by omega) | exact wrapU8 (by omega)) ?_
        | refine o_quo rfl rfl rfl (by omega) (by omega) (by first | exact wrap64' (by omega) | exact wrapU64 (by omega) | exact wrapU32 (by omega) | exact wrapU8 (by omega)) ?_
        | refine o_rem rfl rfl rfl (by omega) (by omega) ?_
        | refine o_conv rfl rfl (by first | exact wrap64' (by omega) | exact wrapU64 (by omega) | exact wrapU32 (by omega) | exact wrapU8 (by omega)) ?_
        | refine o_load1R rfl rfl (by assumption) rfl rfl ?_
        | refine o_loadNR rfl rfl (by assumption) rfl (by first | exact Nat.le_of_ble_eq_true rfl | (simp; done) | omega) rfl ?_
        | refine o_storeR rfl rfl rfl rfl rfl (by assumption) (by first | exact Nat.le_of_ble_eq_true rfl | (simp; done) | omega) ?_
        | refine o_any rfl rfl ?_
        | refine o_anyN rfl rfl ?_
        | refine o_nil ?_
        | refine t_mv rfl rfl ?_
        | refine t_gdY rfl (by first | rfl | assumption | (simp only [decide_eq_true_eq, decide_eq_false_iff_not, beq_iff_eq, bne_iff_ne, beq_eq_false_iff_ne, bne_eq_false_iff_eq, Bool.not_eq_true', Bool.not_eq_false', Bool.not_true, Bool.not_false, ne_eq]; done) | (simp only [decide_eq_true_eq, decide_eq_false_iff_not, beq_iff_eq, bne_iff_ne, beq_eq_false_iff_ne, bne_eq_false_iff_eq, Bool.not_eq_true', Bool.not_eq_false', Bool.not_true, Bool.not_false, ne_eq]; omega)) ?_
        | refine t_gdN rfl (by first | rfl | assumption | (simp only [decide_eq_true_eq, decide_eq_false_iff_not, beq_iff_eq, bne_iff_ne, beq_eq_false_iff_ne, bne_eq_false_iff_eq, Bool.not_eq_true', Bool.not_eq_false', Bool.not_true, Bool.not_false, ne_eq]; done) | (simp only [decide_eq_true_eq, decide_eq_false_iff_not, beq_iff_eq, bne_iff_ne, beq_eq_false_iff_ne, bne_eq_false_iff_eq, Bool.not_eq_true', Bool.not_eq_false', Bool.not_true, Bool.not_false, ne_eq]; omega)) ?_
        | refine t_pass rfl ?_
        | refine t_pickY rfl rfl (by first | rfl | assumption | (simp only [decide_eq_true_eq, decide_eq_false_iff_not, beq_iff_eq, bne_iff_ne, beq_eq_false_iff_ne, bne_eq_false_iff_eq, Bool.not_eq_true', Bool.not_eq_false', Bool.not_true, Bool.not_false, ne_eq]; done) | (simp only [decide_eq_true_eq, decide_eq_false_iff_not, beq_iff_eq, bne_iff_ne, beq_eq_false_iff_ne, bne_eq_false_iff_eq, Bool.not_eq_true', Bool.not_eq_false', Bool.not_true, Bool.not_false, ne_eq]; omega)) rfl ?_
        | refine t_pickN rfl rfl (by first | rfl | assumption | (simp only [decide_eq_true_eq, decide_eq_false_iff_not, beq_iff_eq, bne_iff_ne, beq_eq_false_iff_ne, bne_eq_false_iff_eq, Bool.not_eq_true', Bool.not_eq_false', Bool.not_true, Bool.not_false, ne_eq]; done) | (simp only [decide_eq_true_eq, decide_eq_false_iff_not, beq_iff_eq, bne_iff_ne, beq_eq_false_iff_ne, bne_eq_false_iff_eq, Bool.not_eq_true', Bool.not_eq_false', Bool.not_true, Bool.not_false, ne_eq]; omega)) rfl ?_
        | refine t_add rfl rfl rfl (by first | exact wrap64' (by omega) | exact wrapU64 (by omega) | exact wrapU32 (by omega) | exact wrapU8 (by omega)) ?_
        | refine t_sub rfl rfl rfl (by first | exact wrap64' (by omega) | exact wrapU64 (by omega) | exact wrapU32 (by omega) | exact wrapU8 (by omega)) ?_
        | refine t_mul rfl rfl rfl (by first | exact wrap64' (by omega) | exact wrapU64 (by omega) | exact wrapU32 (by omega) | exact wrapU8 (by omega)) ?_
        | refine t_quo rfl rfl rfl (by omega) (by omega) (by first | exact wrap64' (by omega) | exact wrapU64 (by omega) | exact wrapU32 (by omega) | exact wrapU8 (by omega)) ?_
        | refine t_rem rfl rfl rfl (by omega) (by omega) ?_
        | refine t_conv rfl rfl (by first | exact wrap64' (by omega) | exact wrapU64 (by omega) | exact wrapU32 (by omega) | exact wrapU8 (by omega)) ?_
        | refine t_load1R rfl rfl (by assumption) rfl rfl ?_
        | refine t_loadNR rfl rfl (by assumption) rfl (by first | exact Nat.le_of_ble_eq_true rfl | (simp; done) | omega) rfl ?_
        | refine t_any rfl rfl ?_
        | refine t_anyN rfl rfl ?_
        | (refine t_nil ⟨?_, ?_⟩; focus (repeat (first | exact trivial | rfl | refine And.intro ?_ ?_)))
        | refine w_opsS ?_
        | refine w_ops ?_
        | refine w_condY rfl (by first | rfl | assumption | (simp only [decide_eq_true_eq, decide_eq_false_iff_not, beq_iff_eq, bne_iff_ne, beq_eq_false_iff_ne, bne_eq_false_iff_eq, Bool.not_eq_true', Bool.not_eq_false', Bool.not_true, Bool.not_false, ne_eq]; done) | (simp only [decide_eq_true_eq, decide_eq_false_iff_not, beq_iff_eq, bne_iff_ne, beq_eq_false_iff_ne, bne_eq_false_iff_eq, Bool.not_eq_true', Bool.not_eq_false', Bool.not_true, Bool.not_false, ne_eq]; omega)) ?_
        | refine w_condN rfl (by first | rfl | assumption | (simp only [decide_eq_true_eq, decide_eq_false_iff_not, beq_iff_eq, bne_iff_ne, beq_eq_false_iff_ne, bne_eq_false_iff_eq, Bool.not_eq_true', Bool.not_eq_false', Bool.not_true, Bool.not_false, ne_eq]; done) | (simp only [decide_eq_true_eq, decide_eq_false_iff_not, beq_iff_eq, bne_iff_ne, beq_eq_false_iff_ne, bne_eq_false_iff_eq, Bool.not_eq_true', Bool.not_eq_false', Bool.not_true, Bool.not_false, ne_eq]; omega)) ?_
        | refine w_seq ?_
        | refine w_opsX ?_
        | refine w_block ?_
        | refine w_exit ?_
        | refine w_ret ?_
        | refine w_skip ?_)
      refine o_ixV rfl rfl rfl ⟨by omega, by omega⟩ ?_
      refine o_gdY rfl (by simp; omega) ?_
      refine o_load1 rfl rfl hrd1 ?_
      repeat (first
        | refine o_mv rfl rfl ?_
        | refine o_lenV rfl rfl ?_
        | refine o_gdY rfl (by first | rfl | assumption | (simp only [decide_eq_true_eq, decide_eq_false_iff_not, beq_iff_eq, bne_iff_ne, beq_eq_false_iff_ne, bne_eq_false_iff_eq, Bool.not_eq_true', Bool.not_eq_false', Bool.not_true, Bool.not_false, ne_eq]; done) | (simp only [decide_eq_true_eq, decide_eq_false_iff_not, beq_iff_eq, bne_iff_ne, beq_eq_false_iff_ne, bne_eq_false_iff_eq, Bool.not_eq_true', Bool.not_eq_false', Bool.not_true, Bool.not_false, ne_eq]; omega)) ?_
        | refine o_gdN rfl (by first | rfl | assumption | (simp only [decide_eq_true_eq, decide_eq_false_iff_not, beq_iff_eq, bne_iff_ne, beq_eq_false_iff_ne, bne_eq_false_iff_eq, Bool.not_eq_true', Bool.not_eq_false', Bool.not_true, Bool.not_false, ne_eq]; done) | (simp only [decide_eq_true_eq, decide_eq_false_iff_not, beq_iff_eq, bne_iff_ne, beq_eq_false_iff_ne, bne_eq_false_iff_eq, Bool.not_eq_true', Bool.not_eq_false', Bool.not_true, Bool.not_false, ne_eq]; omega)) ?_
        | refine o_pass rfl ?_
        | refine o_passN rfl ?_
        | refine o_pickY rfl rfl (by first | rfl | assumption | (simp only [decide_eq_true_eq, decide_eq_false_iff_not, beq_iff_eq, bne_iff_ne, beq_eq_false_iff_ne, bne_eq_false_iff_eq, Bool.not_eq_true', Bool.not_eq_false', Bool.not_true, Bool.not_false, ne_eq]; done) | (simp only [decide_eq_true_eq, decide_eq_false_iff_not, beq_iff_eq, bne_iff_ne, beq_eq_false_iff_ne, bne_eq_false_iff_eq, Bool.not_eq_true', Bool.not_eq_false', Bool.not_true, Bool.not_false, ne_eq]; omega)) rfl ?_
        | refine o_pickN rfl rfl (by first | rfl | assumption | (simp only [decide_eq_true_eq, decide_eq_false_iff_not, beq_iff_eq, bne_iff_ne, beq_eq_false_iff_ne, bne_eq_false_iff_eq, Bool.not_eq_true', Bool.not_eq_false', Bool.not_true, Bool.not_false, ne_eq]; done) | (simp only [decide_eq_true_eq, decide_eq_false_iff_not, beq_iff_eq, bne_iff_ne, beq_eq_false_iff_ne, bne_eq_false_iff_eq, Bool.not_eq_true', Bool.not_eq_false', Bool.not_true, Bool.not_false, ne_eq]; omega)) rfl ?_
        | refine o_add rfl rfl rfl (by first | exact wrap64' (by omega) | exact wrapU64 (by omega) | exact wrapU32 (by omega) | exact wrapU8 (by omega)) ?_
        | refine o_sub rfl rfl rfl (by first | exact wrap64' (by omega) | exact wrapU64 (by omega) | exact wrapU32 (by omega) | exact wrapU8 (by omega)) ?_
        | refine o_mul rfl rfl rfl (by first | exact wrap64' (by omega) | exact wrapU64 (by omega) | exact wrapU32 (by omega) | exact wrapU8 (by omega)) ?_
        | refine o_quo rfl rfl rfl (by omega) (by omega) (by first | exact wrap64' (by omega) | exact wrapU64 (by omega) | exact wrapU32 (by omega) | exact wrapU8 (by omega)) ?_
        | refine o_rem rfl rfl rfl (by omega) (by omega) ?_
        | refine o_conv rfl rfl (by first | exact wrap64' (by omega) | exact wrapU64 (by omega) | exact wrapU32 (by omega) | exact wrapU8 (by omega)) ?_
        | refine o_load1R rfl rfl (by assumption) rfl rfl ?_
        | refine o_loadNR rfl rfl (by assumption) rfl (by first | exact Nat.le_of_ble_eq_true rfl | (simp; done) | omega) rfl ?_
        | refine o_storeR rfl rfl rfl rfl rfl (by assumption) (by first | exact Nat.le_of_ble_eq_true rfl | (simp; done) | omega) ?_
        | refine o_any rfl rfl ?_
        | refine o_anyN rfl rfl ?_
        | refine o_nil ?_
        | refine t_mv rfl rfl ?_
        | refine t_gdY rfl (by first | rfl | assumption | (simp only [decide_eq_true_eq, decide_eq_false_iff_not, beq_iff_eq, bne_iff_ne, beq_eq_false_iff_ne, bne_eq_false_iff_eq, Bool.not_eq_true', Bool.not_eq_false', Bool.not_true, Bool.not_false, ne_eq]; done) | (simp only [decide_eq_true_eq, decide_eq_false_iff_not, beq_iff_eq, bne_iff_ne, beq_eq_false_iff_ne, bne_eq_false_iff_eq, Bool.not_eq_true', Bool.not_eq_false', Bool.not_true, Bool.not_false, ne_eq]; omega)) ?_
        | refine t_gdN rfl (by first | rfl | assumption | (simp only [decide_eq_true_eq, decide_eq_false_iff_not, beq_iff_eq, bne_iff_ne, beq_eq_false_iff_ne, bne_eq_false_iff_eq, Bool.not_eq_true', Bool.not_eq_false', Bool.not_true, Bool.not_false, ne_eq]; done) | (simp only [decide_eq_true_eq, decide_eq_false_iff_not, beq_iff_eq, bne_iff_ne, beq_eq_false_iff_ne, bne_eq_false_iff_eq, Bool.not_eq_true', Bool.not_eq_false', Bool.not_true, Bool.not_false, ne_eq]; omega)) ?_
        | refine t_pass rfl ?_
        | refine t_pickY rfl rfl (by first | rfl | assumption | (simp only [decide_eq_true_eq, decide_eq_false_iff_not, beq_iff_eq, bne_iff_ne, beq_eq_false_iff_ne, bne_eq_false_iff_eq, Bool.not_eq_true', Bool.not_eq_false', Bool.not_true, Bool.not_false, ne_eq]; done) | (simp only [decide_eq_true_eq, decide_eq_false_iff_not, beq_iff_eq, bne_iff_ne, beq_eq_false_iff_ne, bne_eq_false_iff_eq, Bool.not_eq_true', Bool.not_eq_false', Bool.not_true, Bool.not_false, ne_eq]; omega)) rfl ?_
        | refine t_pickN rfl rfl (by first | rfl | assumption | (simp only [decide_eq_true_eq, decide_eq_false_iff_not, beq_iff_eq, bne_iff_ne, beq_eq_false_iff_ne, bne_eq_false_iff_eq, Bool.not_eq_true', Bool.not_eq_false', Bool.not_true, Bool.not_false, ne_eq]; done) | (simp only [decide_eq_true_eq, decide_eq_false_iff_not, beq_iff_eq, bne_iff_ne, beq_eq_false_iff_ne, bne_eq_false_iff_eq, Bool.not_eq_true', Bool.not_eq_false', Bool.not_true, Bool.not_false, ne_eq]; omega)) rfl ?_
        | refine t_add rfl rfl rfl (by first | exact wrap64' (by omega) | exact wrapU64 (by omega) | exact wrapU32 (by omega) | exact wrapU8 (by omega)) ?_
        | refine t_sub rfl rfl rfl (by first | exact wrap64' (by omega) | exact wrapU64 (by omega) | exact wrapU32 (by omega) | exact wrapU8 (by omega)) ?_
        | refine t_mul rfl rfl rfl (by first | exact wrap64' (by omega) | exact wrapU64 (by omega) | exact wrapU32 (by omega) | exact wrapU8 (by omega)) ?_
        | refine t_quo rfl rfl rfl (by omega) (by omega) (by first | exact wrap64' (by omega) | exact wrapU64 (by omega) | exact wrapU32 (by omega) | exact wrapU8 (by omega)) ?_
        | refine t_rem rfl rfl rfl (by omega) (by omega) ?_
        | refine t_conv rfl rfl (by first | exact wrap64' (by omega) | exact wrapU64 (by omega) | exact wrapU32 (by omega) | exact wrapU8 (by omega)) ?_
        | refine t_load1R rfl rfl (by assumption) rfl rfl ?_
        | refine t_loadNR rfl rfl (by assumption) rfl (by first | exact Nat.le_of_ble_eq_true rfl | (simp; done) | omega) rfl ?_
        | refine t_any rfl rfl ?_
        | refine t_anyN rfl rfl ?_
        | (refine t_nil ⟨?_, ?_⟩; focus (repeat (first | exact trivial | rfl | refine And.intro ?_ ?_)))
        | refine w_opsS ?_
        | refine w_ops ?_
        | refine w_condY rfl (by first | rfl | assumption | (simp only [decide_eq_true_eq, decide_eq_false_iff_not, beq_iff_eq, bne_iff_ne, beq_eq_false_iff_ne, bne_eq_false_iff_eq, Bool.not_eq_true', Bool.not_eq_false', Bool.not_true, Bool.not_false, ne_eq]; done) | (simp only [decide_eq_true_eq, decide_eq_false_iff_not, beq_iff_eq, bne_iff_ne, beq_eq_false_iff_ne, bne_eq_false_iff_eq, Bool.not_eq_true', Bool.not_eq_false', Bool.not_true, Bool.not_false, ne_eq]; omega)) ?_
        | refine w_condN rfl (by first | rfl | assumption | (simp only [decide_eq_true_eq, decide_eq_false_iff_not, beq_iff_eq, bne_iff_ne, beq_eq_false_iff_ne, bne_eq_false_iff_eq, Bool.not_eq_true', Bool.not_eq_false', Bool.not_true, Bool.not_false, ne_eq]; done) | (simp only [decide_eq_true_eq, decide_eq_false_iff_not, beq_iff_eq, bne_iff_ne, beq_eq_false_iff_ne, bne_eq_false_iff_eq, Bool.not_eq_true', Bool.not_eq_false', Bool.not_true, Bool.not_false, ne_eq]; omega)) ?_
        | refine w_seq ?_
        | refine w_opsX ?_
        | refine w_block ?_
        | refine w_exit ?_
        | refine w_ret ?_
        | refine w_skip ?_)
      refine o_ixV rfl rfl rfl ⟨by omega, by omega⟩ ?_
      refine o_gdY rfl (by simp; omega) ?_
      refine o_load1 rfl rfl hrd2 ?_
      repeat (first
        | refine o_mv rfl rfl ?_
        | refine o_lenV rfl rfl ?_
        | refine o_gdY rfl (by first | rfl | assumption | (simp only [decide_eq_true_eq, decide_eq_false_iff_not, beq_iff_eq, bne_iff_ne, beq_eq_false_iff_ne, bne_eq_false_iff_eq, Bool.not_eq_true', Bool.not_eq_false', Bool.not_true, Bool.not_false, ne_eq]; done) | (simp only [decide_eq_true_eq, decide_eq_false_iff_not, beq_iff_eq, bne_iff_ne, beq_eq_false_iff_ne, bne_eq_false_iff_eq, Bool.not_eq_true', Bool.not_eq_false', Bool.not_true, Bool.not_false, ne_eq]; omega)) ?_
        | refine o_gdN rfl (by first | rfl | assumption | (simp only [decide_eq_true_eq, decide_eq_false_iff_not, beq_iff_eq, bne_iff_ne, beq_eq_false_iff_ne, bne_eq_false_iff_eq, Bool.not_eq_true', Bool.not_eq_false', Bool.not_true, Bool.not_false, ne_eq]; done) | (simp only [decide_eq_true_eq, decide_eq_false_iff_not, beq_iff_eq, bne_iff_ne, beq_eq_false_iff_ne, bne_eq_false_iff_eq, Bool.not_eq_true', Bool.not_eq_false', Bool.not_true, Bool.not_false, ne_eq]; omega)) ?_
        | refine o_pass rfl ?_
        | refine o_passN rfl ?_
        | refine o_pickY rfl rfl (by first | rfl | assumption | (simp only [decide_eq_true_eq, decide_eq_false_iff_not, beq_iff_eq, bne_iff_ne, beq_eq_false_iff_ne, bne_eq_false_iff_eq, Bool.not_eq_true', Bool.not_eq_false', Bool.not_true, Bool.not_false, ne_eq]; done) | (simp only [decide_eq_true_eq, decide_eq_false_iff_not, beq_iff_eq, bne_iff_ne, beq_eq_false_iff_ne, bne_eq_false_iff_eq, Bool.not_eq_true', Bool.not_eq_false', Bool.not_true, Bool.not_false, ne_eq]; omega)) rfl ?_
        | refine o_pickN rfl rfl (by first | rfl | assumption | (simp only [decide_eq_true_eq, decide_eq_false_iff_not, beq_iff_eq, bne_iff_ne, beq_eq_false_iff_ne, bne_eq_false_iff_eq, Bool.not_eq_true', Bool.not_eq_false', Bool.not_true, Bool.not_false, ne_eq]; done) | (simp only [decide_eq_true_eq, decide_eq_false_iff_not, beq_iff_eq, bne_iff_ne, beq_eq_false_iff_ne, bne_eq_false_iff_eq, Bool.not_eq_true', Bool.not_eq_false', Bool.not_true, Bool.not_false, ne_eq]; omega)) rfl ?_
        | refine o_add rfl rfl rfl (by first | exact wrap64' (by omega) | exact wrapU64 (by omega) | exact wrapU32 (by omega) | exact wrapU8 (by omega)) ?_
        | refine o_sub rfl rfl rfl (by first | exact wrap64' (by omega) | exact wrapU64 (by omega) | exact wrapU32 (by omega) | exact wrapU8 (by omega)) ?_
        | refine o_mul rfl rfl rfl (by first | exact wrap64' (by omega) | exact wrapU64 (by omega) | exact wrapU32 (by omega) | exact wrapU8 (by omega)) ?_
        | refine o_quo rfl rfl rfl (by omega) (by omega) (by first | exact wrap64' (by omega) | exact wrapU64 (by omega) | exact wrapU32 (by omega) | exact wrapU8 (by omega)) ?_
        | refine o_rem rfl rfl rfl (by omega) (by omega) ?_
        | refine o_conv rfl rfl (by first | exact wrap64' (by omega) | exact wrapU64 (by omega) | exact wrapU32 (by omega) | exact wrapU8 (by omega)) ?_
        | refine o_load1R rfl rfl (by assumption) rfl rfl ?_
        | refine o_loadNR rfl rfl (by assumption) rfl (by first | exact Nat.le_of_ble_eq_true rfl | (simp; done) | omega) rfl ?_
        | refine o_storeR rfl rfl rfl rfl rfl (by assumption) (by first | exact Nat.le_of_ble_eq_true rfl | (simp; done) | omega) ?_
        | refine o_any rfl rfl ?_
        | refine o_anyN rfl rfl ?_
        | refine o_nil ?_
        | refine t_mv rfl rfl ?_
        | refine t_gdY rfl (by first | rfl | assumption | (simp only [decide_eq_true_eq, decide_eq_false_iff_not, beq_iff_eq, bne_iff_ne, beq_eq_false_iff_ne, bne_eq_false_iff_eq, Bool.not_eq_true', Bool.not_eq_false', Bool.not_true, Bool.not_false, ne_eq]; done) | (simp only [decide_eq_true_eq, decide_eq_false_iff_not, beq_iff_eq, bne_iff_ne, beq_eq_false_iff_ne, bne_eq_false_iff_eq, Bool.not_eq_true', Bool.not_eq_false', Bool.not_true, Bool.not_false, ne_eq]; omega)) ?_
        | refine t_gdN rfl (by first | rfl | assumption | (simp only [decide_eq_true_eq, decide_eq_false_iff_not, beq_iff_eq, bne_iff_ne, beq_eq_false_iff_ne, bne_eq_false_iff_eq, Bool.not_eq_true', Bool.not_eq_false', Bool.not_true, Bool.not_false, ne_eq]; done) | (simp only [decide_eq_true_eq, decide_eq_false_iff_not, beq_iff_eq, bne_iff_ne, beq_eq_false_iff_ne, bne_eq_false_iff_eq, Bool.not_eq_true', Bool.not_eq_false', Bool.not_true, Bool.not_false, ne_eq]; omega)) ?_
        | refine t_pass rfl ?_
        | refine t_pickY rfl rfl (by first | rfl | assumption | (simp only [decide_eq_true_eq, decide_eq_false_iff_not, beq_iff_eq, bne_iff_ne, beq_eq_false_iff_ne, bne_eq_false_iff_eq, Bool.not_eq_true', Bool.not_eq_false', Bool.not_true, Bool.not_false, ne_eq]; done) | (simp only [decide_eq_true_eq, decide_eq_false_iff_not, beq_iff_eq, bne_iff_ne, beq_eq_false_iff_ne, bne_eq_false_iff_eq, Bool.not_eq_true', Bool.not_eq_false', Bool.not_true, Bool.not_false, ne_eq]; omega)) rfl ?_
        | refine t_pickN rfl rfl (by first | rfl | assumption | (simp only [decide_eq_true_eq, decide_eq_false_iff_not, beq_iff_eq, bne_iff_ne, beq_eq_false_iff_ne, bne_eq_false_iff_eq, Bool.not_eq_true', Bool.not_eq_false', Bool.not_true, Bool.not_false, ne_eq]; done) | (simp only [decide_eq_true_eq, decide_eq_false_iff_not, beq_iff_eq, bne_iff_ne, beq_eq_false_iff_ne, bne_eq_false_iff_eq, Bool.not_eq_true', Bool.not_eq_false', Bool.not_true, Bool.not_false, ne_eq]; omega)) rfl ?_
        | refine t_add rfl rfl rfl (by first | exact wrap64' (by omega) | exact wrapU64 (by omega) | exact wrapU32 (by omega) | exact wrapU8 (by omega)) ?_
        | refine t_sub rfl rfl rfl (by first | exact wrap64' (by omega) | exact wrapU64 (by omega) | exact wrapU32 (by omega) | exact wrapU8 (by omega)) ?_
        | refine t_mul rfl rfl rfl (by first | exact wrap64' (by omega) | exact wrapU64 (by omega) | exact wrapU32 (by omega) | exact wrapU8 (by omega)) ?_
        | refine t_quo rfl rfl rfl (by omega) (by omega) (by first | exact wrap64' (by omega) | exact wrapU64 (by omega) | exact wrapU32 (by omega) | exact wrapU8 (by omega)) ?_
        | refine t_rem rfl rfl rfl (by omega) (by omega) ?_
        | refine t_conv rfl rfl (by first | exact wrap64' (by omega) | exact wrapU64 (by omega) | exact wrapU32 (by omega) | exact wrapU8 (by omega)) ?_
        | refine t_load1R rfl rfl (by assumption) rfl rfl ?_
        | refine t_loadNR rfl rfl (by assumption) rfl (by first | exact Nat.le_of_ble_eq_true rfl | (simp; done) | omega) rfl ?_
        | refine t_any rfl rfl ?_
        | refine t_anyN rfl rfl ?_
        | (refine t_nil ⟨?_, ?_⟩; focus (repeat (first | exact trivial | rfl | refine And.intro ?_ ?_)))
        | refine w_opsS ?_
        | refine w_ops ?_
        | refine w_condY rfl (by first | rfl | assumption | (simp only [decide_eq_true_eq, decide_eq_false_iff_not, beq_iff_eq, bne_iff_ne, beq_eq_false_iff_ne, bne_eq_false_iff_eq, Bool.not_eq_true', Bool.not_eq_false', Bool.not_true, Bool.not_false, ne_eq]; done) | (simp only [decide_eq_true_eq, decide_eq_false_iff_not, beq_iff_eq, bne_iff_ne, beq_eq_false_iff_ne, bne_eq_false_iff_eq, Bool.not_eq_true', Bool.not_eq_false', Bool.not_true, Bool.not_false, ne_eq]; omega)) ?_
        | refine w_condN rfl (by first | rfl | assumption | (simp only [decide_eq_true_eq, decide_eq_false_iff_not, beq_iff_eq, bne_iff_ne, beq_eq_false_iff_ne, bne_eq_false_iff_eq, Bool.not_eq_true', Bool.not_eq_false', Bool.not_true, Bool.not_false, ne_eq]; done) | (simp only [decide_eq_true_eq, decide_eq_false_iff_not, beq_iff_eq, bne_iff_ne, beq_eq_false_iff_ne, bne_eq_false_iff_eq, Bool.not_eq_true', Bool.not_eq_false', Bool.not_true, Bool.not_false, ne_eq]; omega)) ?_
        | refine w_seq ?_
        | refine w_opsX ?_
        | refine w_block ?_
        | refine w_exit ?_
        | refine w_ret ?_
        | refine w_skip ?_)
      refine o_ixV rfl rfl rfl ⟨by omega, by omega⟩ ?_
      refine o_load1 rfl rfl hrd1 ?_
      refine o_ixA rfl rfl rfl ⟨by omega, by omega⟩ ?_
      refine o_load1R rfl rfl hg rfl (v := .int .i64 (((P.take i).count P[i] : Nat) : Int)) (by simpa using cnt_get (P.take i) P[i] (by omega)) ?_
      repeat (first
        | refine o_mv rfl rfl ?_
        | refine o_lenV rfl rfl ?_
        | refine o_gdY rfl (by first | rfl | assumption | (simp only [decide_eq_true_eq, decide_eq_false_iff_not, beq_iff_eq, bne_iff_ne, beq_eq_false_iff_ne, bne_eq_false_iff_eq, Bool.not_eq_true', Bool.not_eq_false', Bool.not_true, Bool.not_false, ne_eq]; done) | (simp only [decide_eq_true_eq, decide_eq_false_iff_not, beq_iff_eq, bne_iff_ne, beq_eq_false_iff_ne, bne_eq_false_iff_eq, Bool.not_eq_true', Bool.not_eq_false', Bool.not_true, Bool.not_false, ne_eq]; omega)) ?_
        | refine o_gdN rfl (by first | rfl | assumption | (simp only [decide_eq_true_eq, decide_eq_false_iff_not, beq_iff_eq, bne_iff_ne, beq_eq_false_iff_ne, bne_eq_false_iff_eq, Bool.not_eq_true', Bool.not_eq_false', Bool.not_true, Bool.not_false, ne_eq]; done) | (simp only [decide_eq_true_eq, decide_eq_false_iff_not, beq_iff_eq, bne_iff_ne, beq_eq_false_iff_ne, bne_eq_false_iff_eq, Bool.not_eq_true', Bool.not_eq_false', Bool.not_true, Bool.not_false, ne_eq]; omega)) ?_
        | refine o_pass rfl ?_
        | refine o_passN rfl ?_
        | refine o_pickY rfl rfl (by first | rfl | assumption | (simp only [decide_eq_true_eq, decide_eq_false_iff_not, beq_iff_eq, bne_iff_ne, beq_eq_false_iff_ne, bne_eq_false_iff_eq, Bool.not_eq_true', Bool.not_eq_false', Bool.not_true, Bool.not_false, ne_eq]; done) | (simp only [decide_eq_true_eq, decide_eq_false_iff_not, beq_iff_eq, bne_iff_ne, beq_eq_false_iff_ne, bne_eq_false_iff_eq, Bool.not_eq_true', Bool.not_eq_false', Bool.not_true, Bool.not_false, ne_eq]; omega)) rfl ?_
        | refine o_pickN rfl rfl (by first | rfl | assumption | (simp only [decide_eq_true_eq, decide_eq_false_iff_not, beq_iff_eq, bne_iff_ne, beq_eq_false_iff_ne, bne_eq_false_iff_eq, Bool.not_eq_true', Bool.not_eq_false', Bool.not_true, Bool.not_false, ne_eq]; done) | (simp only [decide_eq_true_eq, decide_eq_false_iff_not, beq_iff_eq, bne_iff_ne, beq_eq_false_iff_ne, bne_eq_false_iff_eq, Bool.not_eq_true', Bool.not_eq_false', Bool.not_true, Bool.not_false, ne_eq]; omega)) rfl ?_
        | refine o_add rfl rfl rfl (by first | exact wrap64' (by omega) | exact wrapU64 (by omega) | exact wrapU32 (by omega) | exact wrapU8 (by omega)) ?_
        | refine o_sub rfl rfl rfl (by first | exact wrap64' (by omega) | exact wrapU64 (by omega) | exact wrapU32 (by omega) | exact wrapU8 (by omega)) ?_
        | refine o_mul rfl rfl rfl (by first | exact wrap64' (by omega) | exact wrapU64 (by omega) | exact wrapU32 (by omega) | exact wrapU8 (by omega)) ?_
        | refine o_quo rfl rfl rfl (by omega) (by omega) (by first | exact wrap64' (by omega) | exact wrapU64 (by omega) | exact wrapU32 (by omega) | exact wrapU8 (by omega)) ?_
        | refine o_rem rfl rfl rfl (by omega) (by omega) ?_
        | refine o_conv rfl rfl (by first | exact wrap64' (by omega) | exact wrapU64 (by omega) | exact wrapU32 (by omega) | exact wrapU8 (by omega)) ?_
        | refine o_load1R rfl rfl (by assumption) rfl rfl ?_
        | refine o_loadNR rfl rfl (by assumption) rfl (by first | exact Nat.le_of_ble_eq_true rfl | (simp; done) | omega) rfl ?_
        | refine o_storeR rfl rfl rfl rfl rfl (by assumption) (by first | exact Nat.le_of_ble_eq_true rfl | (simp; done) | omega) ?_
        | refine o_any rfl rfl ?_
        | refine o_anyN rfl rfl ?_
        | refine o_nil ?_
        | refine t_mv rfl rfl ?_
        | refine t_gdY rfl (by first | rfl | assumption | (simp only [decide_eq_true_eq, decide_eq_false_iff_not, beq_iff_eq, bne_iff_ne, beq_eq_false_iff_ne, bne_eq_false_iff_eq, Bool.not_eq_true', Bool.not_eq_false', Bool.not_true, Bool.not_false, ne_eq]; done) | (simp only [decide_eq_true_eq, decide_eq_false_iff_not, beq_iff_eq, bne_iff_ne, beq_eq_false_iff_ne, bne_eq_false_iff_eq, Bool.not_eq_true', Bool.not_eq_false', Bool.not_true, Bool.not_false, ne_eq]; omega)) ?_
        | refine t_gdN rfl (by first | rfl | assumption | (simp only [decide_eq_true_eq, decide_eq_false_iff_not, beq_iff_eq, bne_iff_ne, beq_eq_false_iff_ne, bne_eq_false_iff_eq, Bool.not_eq_true', Bool.not_eq_false', Bool.not_true, Bool.not_false, ne_eq]; done) | (simp only [decide_eq_true_eq, decide_eq_false_iff_not, beq_iff_eq, bne_iff_ne, beq_eq_false_iff_ne, bne_eq_false_iff_eq, Bool.not_eq_true', Bool.not_eq_false', Bool.not_true, Bool.not_false, ne_eq]; omega)) ?_
        | refine t_pass rfl ?_
        | refine t_pickY rfl rfl (by first | rfl | assumption | (simp only [decide_eq_true_eq, decide_eq_false_iff_not, beq_iff_eq, bne_iff_ne, beq_eq_false_iff_ne, bne_eq_false_iff_eq, Bool.not_eq_true', Bool.not_eq_false', Bool.not_true, Bool.not_false, ne_eq]; done) | (simp only [decide_eq_true_eq, decide_eq_false_iff_not, beq_iff_eq, bne_iff_ne, beq_eq_false_iff_ne, bne_eq_false_iff_eq, Bool.not_eq_true', Bool.not_eq_false', Bool.not_true, Bool.not_false, ne_eq]; omega)) rfl ?_
        | refine t_pickN rfl rfl (by first | rfl | assumption | (simp only [decide_eq_true_eq, decide_eq_false_iff_not, beq_iff_eq, bne_iff_ne, beq_eq_false_iff_ne, bne_eq_false_iff_eq, Bool.not_eq_true', Bool.not_eq_false', Bool.not_true, Bool.not_false, ne_eq]; done) | (simp only [decide_eq_true_eq, decide_eq_false_iff_not, beq_iff_eq, bne_iff_ne, beq_eq_false_iff_ne, bne_eq_false_iff_eq, Bool.not_eq_true', Bool.not_eq_false', Bool.not_true, Bool.not_false, ne_eq]; omega)) rfl ?_
        | refine t_add rfl rfl rfl (by first | exact wrap64' (by omega) | exact wrapU64 (by omega) | exact wrapU32 (by omega) | exact wrapU8 (by omega)) ?_
        | refine t_sub rfl rfl rfl (by first | exact wrap64' (by omega) | exact wrapU64 (by omega) | exact wrapU32 (by omega) | exact wrapU8 (by omega)) ?_
        | refine t_mul rfl rfl rfl (by first | exact wrap64' (by omega) | exact wrapU64 (by omega) | exact wrapU32 (by omega) | exact wrapU8 (by omega)) ?_
        | refine t_quo rfl rfl rfl (by omega) (by omega) (by first | exact wrap64' (by omega) | exact wrapU64 (by omega) | exact wrapU32 (by omega) | exact wrapU8 (by omega)) ?_
        | refine t_rem rfl rfl rfl (by omega) (by omega) ?_
        | refine t_conv rfl rfl (by first | exact wrap64' (by omega) | exact wrapU64 (by omega) | exact wrapU32 (by omega) | exact wrapU8 (by omega)) ?_
        | refine t_load1R rfl rfl (by assumption) rfl rfl ?_
        | refine t_loadNR rfl rfl (by assumption) rfl (by first | exact Nat.le_of_ble_eq_true rfl | (simp; done) | omega) rfl ?_
        | refine t_any rfl rfl ?_
        | refine t_anyN rfl rfl ?_
        | (refine t_nil ⟨?_, ?_⟩; focus (repeat (first | exact trivial | rfl | refine And.intro ?_ ?_)))
        | refine w_opsS ?_
        | refine w_ops ?_
        | refine w_condY rfl (by first | rfl | assumption | (simp only [decide_eq_true_eq, decide_eq_false_iff_not, beq_iff_eq, bne_iff_ne, beq_eq_false_iff_ne, bne_eq_false_iff_eq, Bool.not_eq_true', Bool.not_eq_false', Bool.not_true, Bool.not_false, ne_eq]; done) | (simp only [decide_eq_true_eq, decide_eq_false_iff_not, beq_iff_eq, bne_iff_ne, beq_eq_false_iff_ne, bne_eq_false_iff_eq, Bool.not_eq_true', Bool.not_eq_false', Bool.not_true, Bool.not_false, ne_eq]; omega)) ?_
        | refine w_condN rfl (by first | rfl | assumption | (simp only [decide_eq_true_eq, decide_eq_false_iff_not, beq_iff_eq, bne_iff_ne, beq_eq_false_iff_ne, bne_eq_false_iff_eq, Bool.not_eq_true', Bool.not_eq_false', Bool.not_true, Bool.not_false, ne_eq]; done) | (simp only [decide_eq_true_eq, decide_eq_false_iff_not, beq_iff_eq, bne_iff_ne, beq_eq_false_iff_ne, bne_eq_false_iff_eq, Bool.not_eq_true', Bool.not_eq_false', Bool.not_true, Bool.not_false, ne_eq]; omega)) ?_
        | refine w_seq ?_
        | refine w_opsX ?_
        | refine w_block ?_
        | refine w_exit ?_
        | refine w_ret ?_
        | refine w_skip ?_)
      refine o_ixA rfl rfl rfl ⟨by omega, by omega⟩ ?_
      refine o_storeR rfl rfl rfl rfl rfl hg (by simp [cnt_length]; omega) ?_
      have hset := cnt_set (P.take i) P[i] (by omega)
      have hoff : ({ block := s, off := 0 } : Addr).off + P[i].toNat * 1 = P[i].toNat := by simp
      rw [hoff, hset, List.take_append_getElem]
      have hg2 := Heap.get?_set_same (o := .rw (cnt (P.take (i + 1)))) hg
      have ho2 := ho.trans (Only.set (o := .rw (cnt (P.take (i + 1)))) hg)
      generalize h.set s (.rw (cnt (P.take (i + 1)))) = h2 at hg2 ho2 ⊢
      repeat (first
        | refine o_mv rfl rfl ?_
        | refine o_lenV rfl rfl ?_
        | refine o_gdY rfl (by first | rfl | assumption | (simp only [decide_eq_true_eq, decide_eq_false_iff_not, beq_iff_eq, bne_iff_ne, beq_eq_false_iff_ne, bne_eq_false_iff_eq, Bool.not_eq_true', Bool.not_eq_false', Bool.not_true, Bool.not_false, ne_eq]; done) | (simp only [decide_eq_true_eq, decide_eq_false_iff_not, beq_iff_eq, bne_iff_ne, beq_eq_false_iff_ne, bne_eq_false_iff_eq, Bool.not_eq_true', Bool.not_eq_false', Bool.not_true, Bool.not_false, ne_eq]; omega)) ?_
        | refine o_gdN rfl (by first | rfl | assumption | (simp only [decide_eq_true_eq, decide_eq_false_iff_not, beq_iff_eq, bne_iff_ne, beq_eq_false_iff_ne, bne_eq_false_iff_eq, Bool.not_eq_true', Bool.not_eq_false', Bool.not_true, Bool.not_false, ne_eq]; done) | (simp only [decide_eq_true_eq, decide_eq_false_iff_not, beq_iff_eq, bne_iff_ne, beq_eq_false_iff_ne, bne_eq_false_iff_eq, Bool.not_eq_true', Bool.not_eq_false', Bool.not_true, Bool.not_false, ne_eq]; omega)) ?_
        | refine o_pass rfl ?_
        | refine o_passN rfl ?_
        | refine o_pickY rfl rfl (by first | rfl | assumption | (simp only [decide_eq_true_eq, decide_eq_false_iff_not, beq_iff_eq, bne_iff_ne, beq_eq_false_iff_ne, bne_eq_false_iff_eq, Bool.not_eq_true', Bool.not_eq_false', Bool.not_true, Bool.not_false, ne_eq]; done) | (simp only [decide_eq_true_eq, decide_eq_false_iff_not, beq_iff_eq, bne_iff_ne, beq_eq_false_iff_ne, bne_eq_false_iff_eq, Bool.not_eq_true', Bool.not_eq_false', Bool.not_true, Bool.not_false, ne_eq]; omega)) rfl ?_
        | refine o_pickN rfl rfl (by first | rfl | assumption | (simp only [decide_eq_true_eq, decide_eq_false_iff_not, beq_iff_eq, bne_iff_ne, beq_eq_false_iff_ne, bne_eq_false_iff_eq, Bool.not_eq_true', Bool.not_eq_false', Bool.not_true, Bool.not_false, ne_eq]; done) | (simp only [decide_eq_true_eq, decide_eq_false_iff_not, beq_iff_eq, bne_iff_ne, beq_eq_false_iff_ne, bne_eq_false_iff_eq, Bool.not_eq_true', Bool.not_eq_false', Bool.not_true, Bool.not_false, ne_eq]; omega)) rfl ?_
        | refine o_add rfl rfl rfl (by first | exact wrap64' (by omega) | exact wrapU64 (by omega) | exact wrapU32 (by omega) | exact wrapU8 (by omega)) ?_
        | refine o_sub rfl rfl rfl (by first | exact wrap64' (by omega) | exact wrapU64 (by omega) | exact wrapU32 (by omega) | exact wrapU8 (by omega)) ?_
        | refine o_mul rfl rfl rfl (by first | exact wrap64' (by omega) | exact wrapU64 (by omega) | exact wrapU32 (by omega) | exact wrapU8 (by omega)) ?_
        | refine o_quo rfl rfl rfl (by omega) (by omega) (by first | exact wrap64' (by omega) | exact wrapU64 (by omega) | exact wrapU32 (by omega) | exact wrapU8 (by omega)) ?_
        | refine o_rem rfl rfl rfl (by omega) (by omega) ?_
        | refine o_conv rfl rfl (by first | exact wrap64' (by omega) | exact wrapU64 (by omega) | exact wrapU32 (by omega) | exact wrapU8 (by omega)) ?_
        | refine o_load1R rfl rfl (by assumption) rfl rfl ?_
        | refine o_loadNR rfl rfl (by assumption) rfl (by first | exact Nat.le_of_ble_eq_true rfl | (simp; done) | omega) rfl ?_
        | refine o_storeR rfl rfl rfl rfl rfl (by assumption) (by first | exact Nat.le_of_ble_eq_true rfl | (simp; done) | omega) ?_
        | refine o_any rfl rfl ?_
        | refine o_anyN rfl rfl ?_
        | refine o_nil ?_
        | refine t_mv rfl rfl ?_
        | refine t_gdY rfl (by first | rfl | assumption | (simp only [decide_eq_true_eq, decide_eq_false_iff_not, beq_iff_eq, bne_iff_ne, beq_eq_false_iff_ne, bne_eq_false_iff_eq, Bool.not_eq_true', Bool.not_eq_false', Bool.not_true, Bool.not_false, ne_eq]; done) | (simp only [decide_eq_true_eq, decide_eq_false_iff_not, beq_iff_eq, bne_iff_ne, beq_eq_false_iff_ne, bne_eq_false_iff_eq, Bool.not_eq_true', Bool.not_eq_false', Bool.not_true, Bool.not_false, ne_eq]; omega)) ?_
        | refine t_gdN rfl (by first | rfl | assumption | (simp only [decide_eq_true_eq, decide_eq_false_iff_not, beq_iff_eq, bne_iff_ne, beq_eq_false_iff_ne, bne_eq_false_iff_eq, Bool.not_eq_true', Bool.not_eq_false', Bool.not_true, Bool.not_false, ne_eq]; done) | (simp only [decide_eq_true_eq, decide_eq_false_iff_not, beq_iff_eq, bne_iff_ne, beq_eq_false_iff_ne, bne_eq_false_iff_eq, Bool.not_eq_true', Bool.not_eq_false', Bool.not_true, Bool.not_false, ne_eq]; omega)) ?_
        | refine t_pass rfl ?_
        | refine t_pickY rfl rfl (by first | rfl | assumption | (simp only [decide_eq_true_eq, decide_eq_false_iff_not, beq_iff_eq, bne_iff_ne, beq_eq_false_iff_ne, bne_eq_false_iff_eq, Bool.not_eq_true', Bool.not_eq_false', Bool.not_true, Bool.not_false, ne_eq]; done) | (simp only [decide_eq_true_eq, decide_eq_false_iff_not, beq_iff_eq, bne_iff_ne, beq_eq_false_iff_ne, bne_eq_false_iff_eq, Bool.not_eq_true', Bool.not_eq_false', Bool.not_true, Bool.not_false, ne_eq]; omega)) rfl ?_
        | refine t_pickN rfl rfl (by first | rfl | assumption | (simp only [decide_eq_true_eq, decide_eq_false_iff_not, beq_iff_eq, bne_iff_ne, beq_eq_false_iff_ne, bne_eq_false_iff_eq, Bool.not_eq_true', Bool.not_eq_false', Bool.not_true, Bool.not_false, ne_eq]; done) | (simp only [decide_eq_true_eq, decide_eq_false_iff_not, beq_iff_eq, bne_iff_ne, beq_eq_false_iff_ne, bne_eq_false_iff_eq, Bool.not_eq_true', Bool.not_eq_false', Bool.not_true, Bool.not_false, ne_eq]; omega)) rfl ?_
        | refine t_add rfl rfl rfl (by first | exact wrap64' (by omega) | exact wrapU64 (by omega) | exact wrapU32 (by omega) | exact wrapU8 (by omega)) ?_
        | refine t_sub rfl rfl rfl (by first | exact wrap64' (by omega) | exact wrapU64 (by omega) | exact wrapU32 (by omega) | exact wrapU8 (by omega)) ?_
        | refine t_mul rfl rfl rfl (by first | exact wrap64' (by omega) | exact wrapU64 (by omega) | exact wrapU32 (by omega) | exact wrapU8 (by omega)) ?_
        | refine t_quo rfl rfl rfl (by omega) (by omega) (by first | exact wrap64' (by omega) | exact wrapU64 (by omega) | exact wrapU32 (by omega) | exact wrapU8 (by omega)) ?_
        | refine t_rem rfl rfl rfl (by omega) (by omega) ?_
        | refine t_conv rfl rfl (by first | exact wrap64' (by omega) | exact wrapU64 (by omega) | exact wrapU32 (by omega) | exact wrapU8 (by omega)) ?_
        | refine t_load1R rfl rfl (by assumption) rfl rfl ?_
        | refine t_loadNR rfl rfl (by assumption) rfl (by first | exact Nat.le_of_ble_eq_true rfl | (simp; done) | omega) rfl ?_
        | refine t_any rfl rfl ?_
        | refine t_anyN rfl rfl ?_
        | (refine t_nil ⟨?_, ?_⟩; focus (repeat (first | exact trivial | rfl | refine And.intro ?_ ?_)))
        | refine w_opsS ?_
        | refine w_ops ?_
        | refine w_condY rfl (by first | rfl | assumption | (simp only [decide_eq_true_eq, decide_eq_false_iff_not, beq_iff_eq, bne_iff_ne, beq_eq_false_iff_ne, bne_eq_false_iff_eq, Bool.not_eq_true', Bool.not_eq_false', Bool.not_true, Bool.not_false, ne_eq]; done) | (simp only [decide_eq_true_eq, decide_eq_false_iff_not, beq_iff_eq, bne_iff_ne, beq_eq_false_iff_ne, bne_eq_false_iff_eq, Bool.not_eq_true', Bool.not_eq_false', Bool.not_true, Bool.not_false, ne_eq]; omega)) ?_
        | refine w_condN rfl (by first | rfl | assumption | (simp only [decide_eq_true_eq, decide_eq_false_iff_not, beq_iff_eq, bne_iff_ne, beq_eq_false_iff_ne, bne_eq_false_iff_eq, Bool.not_eq_true', Bool.not_eq_false', Bool.not_true, Bool.not_false, ne_eq]; done) | (simp only [decide_eq_true_eq, decide_eq_false_iff_not, beq_iff_eq, bne_iff_ne, beq_eq_false_iff_ne, bne_eq_false_iff_eq, Bool.not_eq_true', Bool.not_eq_false', Bool.not_true, Bool.not_false, ne_eq]; omega)) ?_
        | refine w_seq ?_
        | refine w_opsX ?_
        | refine w_block ?_
        | refine w_exit ?_
        | refine w_ret ?_
        | refine w_skip ?_)
      refine rnd_again rfl ?_
      exact ih (i + 1) h2 (by omega) ho2 hg2 hQ

theorem whole2 (m s : Nat) (hm : m ≤ 24) (vb : Value) (P O : List Int) (hr : ∀ x ∈ O, 0 ≤ x ∧ x < m) (h0 : Heap) (hva : Sl h0 1 vb O.length (O.map (.int .i64))) (hne : ∀ c off n k, vb = .slice (some ⟨c, off, none⟩) n k → 0 < O.length → c ≠ s) (hpl : O.length ≤ 1000) (hpl2 : P.length ≤ 1000)
    (Q : Ex → Fr → Heap → Prop) : ∀ (d i : Nat) (h : Heap), i + d = O.length → Only h0 h s → h.get? s = some (.rw (cnt (P ++ O.take i))) →
    (∀ h' u1 u2 u3 u4, Only h0 h' s → h'.get? s = some (.rw (cnt (P ++ O))) → Q (.exit 2) [(113, u1), (112, u2), (111, u3), (110, u4), (7, .int .i64 m), (11, vb), (13, .pointer (some ⟨s, 0, none⟩)), (15, .int .i64 O.length)] h') →
    wpR M [7, 11, 13, 15] c_law29_SampleWhole_33 Q [(7, .int .i64 m), (11, vb), (13, .pointer (some ⟨s, 0, none⟩)), (15, .int .i64 i)] h
  | 0, i, h, hi, ho, hg, hQ => by
    have : i = O.length := by omega
    subst this
    obtain ⟨aa, cap, rfl⟩ := hva.val
    refine w_round ?_
    repeat (first
      | refine o_mv rfl rfl ?_
      | refine o_lenV rfl rfl ?_
      | refine o_gdY rfl (by first | rfl | assumption | (simp only [decide_eq_true_eq, decide_eq_false_iff_not, beq_iff_eq, bne_iff_ne, beq_eq_false_iff_ne, bne_eq_false_iff_eq, Bool.not_eq_true', Bool.not_eq_false', Bool.not_true, Bool.not_false, ne_eq]; done) | (simp only [decide_eq_true_eq, decide_eq_false_iff_not, beq_iff_eq, bne_iff_ne, beq_eq_false_iff_ne, bne_eq_false_iff_eq, Bool.not_eq_true', Bool.not_eq_false', Bool.not_true, Bool.not_false, ne_eq]; omega)) ?_
      | refine o_gdN rfl (by first | rfl | assumption | (simp only [decide_eq_true_eq, decide_eq_false_iff_not, beq_iff_eq, bne_iff_ne, beq_eq_false_iff_ne, bne_eq_false_iff_eq, Bool.not_eq_true', Bool.not_eq_false', Bool.not_true, Bool.not_false, ne_eq]; done) | (simp only [decide_eq_true_eq, decide_eq_false_iff_not, beq_iff_eq, bne_iff_ne, beq_eq_false_iff_ne, bne_eq_false_iff_eq, Bool.not_eq_true', Bool.not_eq_false', Bool.not_true, Bool.not_false, ne_eq]; omega)) ?_
      | refine o_pass rfl ?_
      | refine o_passN rfl ?_
      | refine o_pickY rfl rfl (by first | rfl | assumption | (simp only [decide_eq_true_eq, decide_eq_false_iff_not, beq_iff_eq, bne_iff_ne, beq_eq_false_iff_ne, bne_eq_false_iff_eq, Bool.not_eq_true', Bool.not_eq_false', Bool.not_true, Bool.not_false, ne_eq]; done) | (simp only [decide_eq_true_eq, decide_eq_false_iff_not, beq_iff_eq, bne_iff_ne, beq_eq_false_iff_ne, bne_eq_false_iff_eq, Bool.not_eq_true', Bool.not_eq_false', Bool.not_true, Bool.not_false, ne_eq]; omega)) rfl ?_
      | refine o_pickN rfl rfl (by first | rfl | assumption | (simp only [decide_eq_true_eq, decide_eq_false_iff_not, beq_iff_eq, bne_iff_ne, beq_eq_false_iff_ne, bne_eq_false_iff_eq, Bool.not_eq_true', Bool.not_eq_false', Bool.not_true, Bool.not_false, ne_eq]; done) | (simp only [decide_eq_true_eq, decide_eq_false_iff_not, beq_iff_eq, bne_iff_ne, beq_eq_false_iff_ne, bne_eq_false_iff_eq, Bool.not_eq_true', Bool.not_eq_false', Bool.not_true, Bool.not_false, ne_eq]; omega)) rfl ?_
      | refine o_add rfl rfl rfl (by first | exact wrap64' (by omega) | exact wrapU64 (by omega) | exact wrapU32 (by omega) | exact wrapU8 (by omega)) ?_
      | refine o_sub rfl rfl rfl (by first | exact wrap64' (by omega) | exact wrapU64 (by omega) | exact wrapU32 (by omega) | exact wrapU8 (by omega)) ?_
      | refine o_mul rfl rfl rfl (by first | exact wrap64' (by omega) | exact wrapU64 (by omega) | exact wrapU32 (by omega) | exact wrapU8 (by omega)) ?_
      | refine o_quo rfl rfl rfl (by omega) (by omega) (by first | exact wrap64' (by omega) | exact wrapU64 (by omega) | exact wrapU32 (by omega) | exact wrapU8 (by omega)) ?_
      | refine o_rem rfl rfl rfl (by omega) (by omega) ?_
      | refine o_conv rfl rfl (by first | exact wrap64' (by omega) | exact wrapU64 (by omega) | exact wrapU32 (by omega) | exact wrapU8 (by omega)) ?_
      | refine o_load1R rfl rfl (by assumption) rfl rfl ?_
      | refine o_loadNR rfl rfl (by assumption) rfl (by first | exact Nat.le_of_ble_eq_true rfl | (simp; done) | omega) rfl ?_
      | refine o_storeR rfl rfl rfl rfl rfl (by assumption) (by first | exact Nat.le_of_ble_eq_true rfl | (simp; done) | omega) ?_
      | refine o_any rfl rfl ?_
      | refine o_anyN rfl rfl ?_
      | refine o_nil ?_
      | refine t_mv rfl rfl ?_
      | refine t_gdY rfl (by first | rfl | assumption | (simp only [decide_eq_true_eq, decide_eq_false_iff_not, beq_iff_eq, bne_iff_ne, beq_eq_false_iff_ne, bne_eq_false_iff_eq, Bool.not_eq_true', Bool.not_eq_false', Bool.not_true, Bool.not_false, ne_eq]; done) | (simp only [decide_eq_true_eq, decide_eq_false_iff_not, beq_iff_eq, bne_iff_ne, beq_eq_false_iff_ne, bne_eq_false_iff_eq, Bool.not_eq_true', Bool.not_eq_false', Bool.not_true, Bool.not_false, ne_eq]; omega)) ?_
      | refine t_gdN rfl (by first | rfl | assumption | (simp only [decide_eq_true_eq, decide_eq_false_iff_not, beq_iff_eq, bne_iff_ne, beq_eq_false_iff_ne, bne_eq_false_iff_eq, Bool.not_eq_true', Bool.not_eq_false', Bool.not_true, Bool.not_false, ne_eq]; done) | (simp only [decide_eq_true_eq, decide_eq_false_iff_not, beq_iff_eq, bne_iff_ne, beq_eq_false_iff_ne, bne_eq_false_iff_eq, Bool.not_eq_true', Bool.not_eq_false', Bool.not_true, Bool.not_false, ne_eq]; omega)) ?_
      | refine t_pass rfl ?_
      | refine t_pickY rfl rfl (by first | rfl | assumption | (simp only [decide_eq_true_eq, decide_eq_false_iff_not, beq_iff_eq, bne_iff_ne, beq_eq_false_iff_ne, bne_eq_false_iff_eq, Bool.not_eq_true', Bool.not_eq_false', Bool.not_true, Bool.not_false, ne_eq]; done) | (simp only [decide_eq_true_eq, decide_eq_false_iff_not, beq_iff_eq, bne_iff_ne, beq_eq_false_iff_ne, bne_eq_false_iff_eq, Bool.not_eq_true', Bool.not_eq_false', Bool.not_true, Bool.not_false, ne_eq]; omega)) rfl ?_
      | refine t_pickN rfl rfl (by first | rfl | assumption | (simp only [decide_eq_true_eq, decide_eq_false_iff_not, beq_iff_eq, bne_iff_ne, beq_eq_false_iff_ne, bne_eq_false_iff_eq, Bool.not_eq_true', Bool.not_eq_false', Bool.not_true, Bool.not_false, ne_eq]; done) | (simp only [decide_eq_true_eq, decide_eq_false_iff_not, beq_iff_eq, bne_iff_ne, beq_eq_false_iff_ne, bne_eq_false_iff_eq, Bool.not_eq_true', Bool.not_eq_false', Bool.not_true, Bool.not_false, ne_eq]; omega)) rfl ?_
      | refine t_add rfl rfl rfl (by first | exact wrap64' (by omega) | exact wrapU64 (by omega) | exact wrapU32 (by omega) | exact wrapU8 (by omega)) ?_
      | refine t_sub rfl rfl rfl (by first | exact wrap64' (by omega) | exact wrapU64 (by omega) | exact wrapU32 (by omega) | exact wrapU8 (by omega)) ?_
      | refine t_mul rfl rfl rfl (by first | exact wrap64' (by omega) | exact wrapU64 (by omega) | exact wrapU32 (by omega) | exact wrapU8 (by omega)) ?_
      | refine t_quo rfl rfl rfl (by omega) (by omega) (by first | exact wrap64' (by omega) | exact wrapU64 (by omega) | exact wrapU32 (by omega) | exact wrapU8 (by omega)) ?_
      | refine t_rem rfl rfl rfl (by omega) (by omega) ?_
      | refine t_conv rfl rfl (by first | exact wrap64' (by omega) | exact wrapU64 (by omega) | exact wrapU32 (by omega) | exact wrapU8 (by omega)) ?_
      | refine t_load1R rfl rfl (by assumption) rfl rfl ?_
      | refine t_loadNR rfl rfl (by assumption) rfl (by first | exact Nat.le_of_ble_eq_true rfl | (simp; done) | omega) rfl ?_
      | refine t_any rfl rfl ?_
      | refine t_anyN rfl rfl ?_
      | (refine t_nil ⟨?_, ?_⟩; focus (repeat (first | exact trivial | rfl | refine And.intro ?_ ?_)))
      | refine w_opsS ?_
      | refine w_ops ?_
      | refine w_condY rfl (by first | rfl | assumption | (simp only [decide_eq_true_eq, decide_eq_false_iff_not, beq_iff_eq, bne_iff_ne, beq_eq_false_iff_ne, bne_eq_false_iff_eq, Bool.not_eq_true', Bool.not_eq_false', Bool.not_true, Bool.not_false, ne_eq]; done) | (simp only [decide_eq_true_eq, decide_eq_false_iff_not, beq_iff_eq, bne_iff_ne, beq_eq_false_iff_ne, bne_eq_false_iff_eq, Bool.not_eq_true', Bool.not_eq_false', Bool.not_true, Bool.not_false, ne_eq]; omega)) ?_
      | refine w_condN rfl (by first | rfl | assumption | (simp only [decide_eq_true_eq, decide_eq_false_iff_not, beq_iff_eq, bne_iff_ne, beq_eq_false_iff_ne, bne_eq_false_iff_eq, Bool.not_eq_true', Bool.not_eq_false', Bool.not_true, Bool.not_false, ne_eq]; done) | (simp only [decide_eq_true_eq, decide_eq_false_iff_not, beq_iff_eq, bne_iff_ne, beq_eq_false_iff_ne, bne_eq_false_iff_eq, Bool.not_eq_true', Bool.not_eq_false', Bool.not_true, Bool.not_false, ne_eq]; omega)) ?_
      | refine w_seq ?_
      | refine w_opsX ?_
      | refine w_block ?_
      | refine w_exit ?_
      | refine w_ret ?_
      | refine w_skip ?_)
    exact hQ h _ _ _ _ ho (by rw [List.take_length] at hg; exact hg)
  | d + 1, i, h, hi, ho, hg, hQ => by
    have ih := fun i h => whole2 m s hm vb P O hr h0 hva hne hpl hpl2 Q d i h
    have hip : i < O.length := by omega
    have hvh : Sl h 1 vb O.length (O.map (.int .i64)) := by
      rcases hva with H | ⟨c, off, cap, o, all, rfl, q1, q2, q3, q4, q5⟩
      · exact .inl H
      · exact .inr ⟨c, off, cap, o, all, rfl, ho.get (hne _ _ _ _ rfl (by omega)) q1, q2, q3, q4, q5⟩
    obtain ⟨a0, cap0, rfl, _, hrd⟩ := hvh.at1 (i := i) (u := .int .i64 O[i]) (by rw [List.getElem?_map, List.getElem?_eq_getElem hip]; rfl)
    have hrng := hr O[i] (List.getElem_mem hip)
    have hrd1 : h.rd1 (addOff a0 ((i : Int).toNat * 1)) = some (.int .i64 O[i]) := by rw [Int.toNat_natCast]; exact hrd
    have hcl : (P ++ O.take i).count O[i] ≤ 2000 := by
      have := List.count_le_length (a := O[i]) (l := P ++ O.take i)
      rw [List.length_append, List.length_take] at this; omega
    refine w_round ?_
    repeat (first
      | refine o_mv rfl rfl ?_
      | refine o_lenV rfl rfl ?_
      | refine o_gdY rfl (by first | rfl | assumption | (simp only [decide_eq_true_eq, decide_eq_false_iff_not, beq_iff_eq, bne_iff_ne, beq_eq_false_iff_ne, bne_eq_false_iff_eq, Bool.not_eq_true', Bool.not_eq_false', Bool.not_true, Bool.not_false, ne_eq]; done) | (simp only [decide_eq_true_eq, decide_eq_false_iff_not, beq_iff_eq, bne_iff_ne, beq_eq_false_iff_ne, bne_eq_false_iff_eq, Bool.not_eq_true', Bool.not_eq_false', Bool.not_true, Bool.not_false, ne_eq]; omega)) ?_
      | refine o_gdN rfl (by first | rfl | assumption | (simp only [decide_eq_true_eq, decide_eq_false_iff_not, beq_iff_eq, bne_iff_ne, beq_eq_false_iff_ne, bne_eq_false_iff_eq, Bool.not_eq_true', Bool.not_eq_false', Bool.not_true, Bool.not_false, ne_eq]; done) | (simp only [decide_eq_true_eq, decide_eq_false_iff_not, beq_iff_eq, bne_iff_ne, beq_eq_false_iff_ne, bne_eq_false_iff_eq, Bool.not_eq_true', Bool.not_eq_false', Bool.not_true, Bool.not_false, ne_eq]; omega)) ?_
      | refine o_pass rfl ?_
      | refine o_passN rfl ?_
      | refine o_pickY rfl rfl (by first | rfl | assumption | (simp only [decide_eq_true_eq, decide_eq_false_iff_not, beq_iff_eq, bne_iff_ne, beq_eq_false_iff_ne, bne_eq_false_iff_eq, Bool.not_eq_true', Bool.not_eq_false', Bool.not_true, Bool.not_false, ne_eq]; done) | (simp only [decide_eq_true_eq, decide_eq_false_iff_not, beq_iff_eq, bne_iff_ne, beq_eq_false_iff_ne, bne_eq_false_iff_eq, Bool.not_eq_true', Bool.not_eq_false', Bool.not_true, Bool.not_false, ne_eq]; omega)) rfl ?_
      | refine o_pickN rfl rfl (by first | rfl | assumption | (simp only [decide_eq_true_eq, decide_eq_false_iff_not, beq_iff_eq, bne_iff_ne, beq_eq_false_iff_ne, bne_eq_false_iff_eq, Bool.not_eq_true', Bool.not_eq_false', Bool.not_true, Bool.not_false, ne_eq]; done) | (simp only [decide_eq_true_eq, decide_eq_false_iff_not, beq_iff_eq, bne_iff_ne, beq_eq_false_iff_ne, bne_eq_false_iff_eq, Bool.not_eq_true', Bool.not_eq_false', Bool.not_true, Bool.not_false, ne_eq]; omega)) rfl ?_
      | refine o_add rfl rfl rfl (by first | exact wrap64' (by omega) | exact wrapU64 (by omega) | exact wrapU32 (by omega) | exact wrapU8 (by omega)) ?_
      | refine o_sub rfl rfl rfl (by first | exact wrap64' (by omega) | exact wrapU64 (by omega) | exact wrapU32 (by omega) | exact wrapU8 (by omega)) ?_
      | refine o_mul rfl rfl rfl (by first | exact wrap64' (by omega) | exact wrapU64 (by omega) | exact wrapU32 (by omega) | exact wrapU8 (by omega)) ?_
      | refine o_quo rfl rfl rfl (by omega) (by omega) (by first | exact wrap64' (by omega) | exact wrapU64 (by omega) | exact wrapU32 (by omega) | exact wrapU8 (by omega)) ?_
      | refine o_rem rfl rfl rfl (by omega) (by omega) ?_
      | refine o_conv rfl rfl (by first | exact wrap64' (by omega) | exact wrapU64 (by omega) | exact wrapU32 (by omega) | exact wrapU8 (by omega)) ?_
      | refine o_load1R rfl rfl (by assumption) rfl rfl ?_
      | refine o_loadNR rfl rfl (by assumption) rfl (by first | exact Nat.le_of_ble_eq_true rfl | (simp; done) | omega) rfl ?_
      | refine o_storeR rfl rfl rfl rfl rfl (by assumption) (by first | exact Nat.le_of_ble_eq_true rfl | (simp; done) | omega) ?_
      | refine o_any rfl rfl ?_
      | refine o_anyN rfl rfl ?_
      | refine o_nil ?_
      | refine t_mv rfl rfl ?_
      | refine t_gdY rfl (by first | rfl | assumption | (simp only [decide_eq_true_eq, decide_eq_false_iff_not, beq_iff_eq, bne_iff_ne, beq_eq_false_iff_ne, bne_eq_false_iff_eq, Bool.not_eq_true', Bool.not_eq_false', Bool.not_true, Bool.not_false, ne_eq]; done) | (simp only [decide_eq_true_eq, decide_eq_false_iff_not, beq_iff_eq, bne_iff_ne, beq_eq_false_iff_ne, bne_eq_false_iff_eq, Bool.not_eq_true', Bool.not_eq_false', Bool.not_true, Bool.not_false, ne_eq]; omega)) ?_
      | refine t_gdN rfl (by first | rfl | assumption | (simp only [decide_eq_true_eq, decide_eq_false_iff_not, beq_iff_eq, bne_iff_ne, beq_eq_false_iff_ne, bne_eq_false_iff_eq, Bool.not_eq_true', Bool.not_eq_false', Bool.not_true, Bool.not_false, ne_eq]; done) | (simp only [decide_eq_true_eq, decide_eq_false_iff_not, beq_iff_eq, bne_iff_ne, beq_eq_false_iff_ne, bne_eq_false_iff_eq, Bool.not_eq_true', Bool.not_eq_false', Bool.not_true, Bool.not_false, ne_eq]; omega)) ?_
      | refine t_pass rfl ?_
      | refine t_pickY rfl rfl (by first | rfl | assumption | (simp only [decide_eq_true_eq, decide_eq_false_iff_not, beq_iff_eq, bne_iff_ne, beq_eq_false_iff_ne, bne_eq_false_iff_eq, Bool.not_eq_true', Bool.not_eq_false', Bool.not_true, Bool.not_false, ne_eq]; done) | (simp only [decide_eq_true_eq, decide_eq_false_iff_not, beq_iff_eq, bne_iff_ne, beq_eq_false_iff_ne, bne_eq_false_iff_eq, Bool.not_eq_true', Bool.not_eq_false', Bool.not_true, Bool.not_false, ne_eq]; omega)) rfl ?_
      | refine t_pickN rfl rfl (by first | rfl | assumption | (simp only [decide_eq_true_eq, decide_eq_false_iff_not, beq_iff_eq, bne_iff_ne, beq_eq_false_iff_ne, bne_eq_false_iff_eq, Bool.not_eq_true', Bool.not_eq_false', Bool.not_true, Bool.not_false, ne_eq]; done) | (simp only [decide_eq_true_eq, decide_eq_false_iff_not, beq_iff_eq, bne_iff_ne, beq_eq_false_iff_ne, bne_eq_false_iff_eq, Bool.not_eq_true', Bool.not_eq_false', Bool.not_true, Bool.not_false, ne_eq]; omega)) rfl ?_
      | refine t_add rfl rfl rfl (by first | exact wrap64' (by omega) | exact wrapU64 (by omega) | exact wrapU32 (by omega) | exact wrapU8 (by omega)) ?_
      | refine t_sub rfl rfl rfl (by first | exact wrap64' (by omega) | exact wrapU64 (by omega) | exact wrapU32 (by omega) | exact wrapU8 (by omega)) ?_
      | refine t_mul rfl rfl rfl (by first | exact wrap64' (by omega) | exact wrapU64 (by omega) | exact wrapU32 (by omega) | exact wrapU8 (by omega)) ?_
      | refine t_quo rfl rfl rfl (by omega) (by omega) (by first | exact wrap64' (by omega) | exact wrapU64 (by omega) | exact wrapU32 (by omega) | exact wrapU8 (by omega)) ?_
      | refine t_rem rfl rfl rfl (by omega) (by omega) ?_
      | refine t_conv rfl rfl (by first | exact wrap64' (by omega) | exact wrapU64 (by omega) | exact wrapU32 (by omega) | exact wrapU8 (by omega)) ?_
      | refine t_load1R rfl rfl (by assumption) rfl rfl ?_
      | refine t_loadNR rfl rfl (by assumption) rfl (by first | exact Nat.le_of_ble_eq_true rfl | (simp; done) | omega) rfl ?_
      | refine t_any rfl rfl ?_
      | refine t_anyN rfl rfl ?_
      | (refine t_nil ⟨?_, ?_⟩; focus (repeat (first | exact trivial | rfl | refine And.intro ?_ ?_)))
      | refine w_opsS ?_
      | refine w_ops ?_
      | refine w_condY rfl (by first | rfl | assumption | (simp only [decide_eq_true_eq, decide_eq_false_iff_not, beq_iff_eq, bne_iff_ne, beq_eq_false_iff_ne, bne_eq_false_iff_eq, Bool.not_eq_true', Bool.not_eq_false', Bool.not_true, Bool.not_false, ne_eq]; done) | (simp only [decide_eq_true_eq, decide_eq_false_iff_not, beq_iff_eq, bne_iff_ne, beq_eq_false_iff_ne, bne_eq_false_iff_eq, Bool.not_eq_true', Bool.not_eq_false', Bool.not_true, Bool.not_false, ne_eq]; omega)) ?_
      | refine w_condN rfl (by first | rfl | assumption | (simp only [decide_eq_true_eq, decide_eq_false_iff_not, beq_iff_eq, bne_iff_ne, beq_eq_false_iff_ne, bne_eq_false_iff_eq, Bool.not_eq_true', Bool.not_eq_false', Bool.not_true, Bool.not_false, ne_eq]; done) | (simp only [decide_eq_true_eq, decide_eq_false_iff_not, beq_iff_eq, bne_iff_ne, beq_eq_false_iff_ne, bne_eq_false_iff_eq, Bool.not_eq_true', Bool.not_eq_false', Bool.not_true, Bool.not_false, ne_eq]; omega)) ?_
      | refine w_seq ?_
      | refine w_opsX ?_
      | refine w_block ?_
      | refine w_exit ?_
      | refine w_ret ?_
      | refine w_skip ?_)
    refine o_ixV rfl rfl rfl ⟨by omega, by omega⟩ ?_
    refine o_load1 rfl rfl hrd1 ?_
    repeat (first
      | refine o_mv rfl rfl ?_
      | refine o_lenV rfl rfl ?_
      | refine o_gdY rfl (by first | rfl | assumption | (simp only [decide_eq_true_eq, decide_eq_false_iff_not, beq_iff_eq, bne_iff_ne, beq_eq_false_iff_ne, bne_eq_false_iff_eq, Bool.not_eq_true', Bool.not_eq_false', Bool.not_true, Bool.not_false, ne_eq]; done) | (simp only [decide_eq_true_eq, decide_eq_false_iff_not, beq_iff_eq, bne_iff_ne, beq_eq_false_iff_ne, bne_eq_false_iff_eq, Bool.not_eq_true', Bool.not_eq_false', Bool.not_true, Bool.not_false, ne_eq]; omega)) ?_
      | refine o_gdN rfl (by first | rfl | assumption | (simp only [decide_eq_true_eq, decide_eq_false_iff_not, beq_iff_eq, bne_iff_ne, beq_eq_false_iff_ne, bne_eq_false_iff_eq, Bool.not_eq_true', Bool.not_eq_false', Bool.not_true, Bool.not_false, ne_eq]; done) | (simp only [decide_eq_true_eq, decide_eq_false_iff_not, beq_iff_eq, bne_iff_ne, beq_eq_false_iff_ne, bne_eq_false_iff_eq, Bool.not_eq_true', Bool.not_eq_false', Bool.not_true, Bool.not_false, ne_eq]; omega)) ?_
      | refine o_pass rfl ?_
      | refine o_passN rfl ?_
      | refine o_pickY rfl rfl (by first | rfl | assumption | (simp only [decide_eq_true_eq, decide_eq_false_iff_not, beq_iff_eq, bne_iff_ne, beq_eq_false_iff_ne, bne_eq_false_iff_eq, Bool.not_eq_true', Bool.not_eq_false', Bool.not_true, Bool.not_false, ne_eq]; done) | (simp only [decide_eq_true_eq, decide_eq_false_iff_not, beq_iff_eq, bne_iff_ne, beq_eq_false_iff_ne, bne_eq_false_iff_eq, Bool.not_eq_true', Bool.not_eq_false', Bool.not_true, Bool.not_false, ne_eq]; omega)) rfl ?_
      | refine o_pickN rfl rfl (by first | rfl | assumption | (simp only [decide_eq_true_eq, decide_eq_false_iff_not, beq_iff_eq, bne_iff_ne, beq_eq_false_iff_ne, bne_eq_false_iff_eq, Bool.not_eq_true', Bool.not_eq_false', Bool.not_true, Bool.not_false, ne_eq]; done) | (simp only [decide_eq_true_eq, decide_eq_false_iff_not, beq_iff_eq, bne_iff_ne, beq_eq_false_iff_ne, bne_eq_false_iff_eq, Bool.not_eq_true', Bool.not_eq_false', Bool.not_true, Bool.not_false, ne_eq]; omega)) rfl ?_
      | refine o_add rfl rfl rfl (by first | exact wrap64' (by omega) | exact wrapU64 (by omega) | exact wrapU32 (by omega) | exact wrapU8 (by omega)) ?_
      | refine o_sub rfl rfl rfl (by first | exact wrap64' (by omega) | exact wrapU64 (by omega) | exact wrapU32 (by omega) | exact wrapU8 (by omega)) ?_
      | refine o_mul rfl rfl rfl (by first | exact wrap64' (by omega) | exact wrapU64 (by omega) | exact wrapU32 (by omega) | exact wrapU8 (by omega)) ?_
      | refine o_quo rfl rfl rfl (by omega) (by omega) (by first | exact wrap64' (by omega) | exact wrapU64 (by omega) | exact wrapU32 (by omega) | exact wrapU8 (by omega)) ?_
      | refine o_rem rfl rfl rfl (by omega) (by omega) ?_
      | refine o_conv rfl rfl (by first | exact wrap64' (by omega) | exact wrapU64 (by omega) | exact wrapU32 (by omega) | exact wrapU8 (by omega)) ?_
      | refine o_load1R rfl rfl (by assumption) rfl rfl ?_
      | refine o_loadNR rfl rfl (by assumption) rfl (by first | exact Nat.le_of_ble_eq_true rfl | (simp; done) | omega) rfl ?_
      | refine o_storeR rfl rfl rfl rfl rfl (by assumption) (by first | exact Nat.le_of_ble_eq_true rfl | (simp; done) | omega) ?_
      | refine o_any rfl rfl ?_
      | refine o_anyN rfl rfl ?_
      | refine o_nil ?_
      | refine t_mv rfl rfl ?_
      | refine t_gdY rfl (by first | rfl | assumption | (simp only [decide_eq_true_eq, decide_eq_false_iff_not, beq_iff_eq, bne_iff_ne, beq_eq_false_iff_ne, bne_eq_false_iff_eq, Bool.not_eq_true', Bool.not_eq_false', Bool.not_true, Bool.not_false, ne_eq]; done) | (simp only [decide_eq_true_eq, decide_eq_false_iff_not, beq_iff_eq, bne_iff_ne, beq_eq_false_iff_ne, bne_eq_false_iff_eq, Bool.not_eq_true', Bool.not_eq_false', Bool.not_true, Bool.not_false, ne_eq]; omega)) ?_
      | refine t_gdN rfl (by first | rfl | assumption | (simp only [decide_eq_true_eq, decide_eq_false_iff_not, beq_iff_eq, bne_iff_ne, beq_eq_false_iff_ne, bne_eq_false_iff_eq, Bool.not_eq_true', Bool.not_eq_false', Bool.not_true, Bool.not_false, ne_eq]; done) | (simp only [decide_eq_true_eq, decide_eq_false_iff_not, beq_iff_eq, bne_iff_ne, beq_eq_false_iff_ne, bne_eq_false_iff_eq, Bool.not_eq_true', Bool.not_eq_false', Bool.not_true, Bool.not_false, ne_eq]; omega)) ?_
      | refine t_pass rfl ?_
      | refine t_pickY rfl rfl (by first | rfl | assumption | (simp only [decide_eq_true_eq, decide_eq_false_iff_not, beq_iff_eq, bne_iff_ne, beq_eq_false_iff_ne, bne_eq_false_iff_eq, Bool.not_eq_true', Bool.not_eq_false', Bool.not_true, Bool.not_false, ne_eq]; done) | (simp only [decide_eq_true_eq, decide_eq_false_iff_not, beq_iff_eq, bne_iff_ne, beq_eq_false_iff_ne, bne_eq_false_iff_eq, Bool.not_eq_true', Bool.not_eq_false', Bool.not_true, Bool.not_false, ne_eq]; omega)) rfl ?_
      | refine t_pickN rfl rfl (by first | rfl | assumption | (simp only [decide_eq_true_eq, decide_eq_false_iff_not, beq_iff_eq, bne_iff_ne, beq_eq_false_iff_ne, bne_eq_false_iff_eq, Bool.not_eq_true', Bool.not_eq_false', Bool.not_true, Bool.not_false, ne_eq]; done) | (simp only [decide_eq_true_eq, decide_eq_false_iff_not, beq_iff_eq, bne_iff_ne, beq_eq_false_iff_ne, bne_eq_false_iff_eq, Bool.not_eq_true', Bool.not_eq_false', Bool.not_true, Bool.not_false, ne_eq]; omega)) rfl ?_
      | refine t_add rfl rfl rfl (by first | exact wrap64' (by omega) | exact wrapU64 (by omega) | exact wrapU32 (by omega) | exact wrapU8 (by omega)) ?_
      | refine t_sub rfl rfl rfl (by first | exact wrap64' (by omega) | exact wrapU64 (by omega) | exact wrapU32 (by omega) | exact wrapU8 (by omega)) ?_
      | refine t_mul rfl rfl rfl (by first | exact wrap64' (by omega) | exact wrapU64 (by omega) | exact wrapU32 (by omega) | exact wrapU8 (by omega)) ?_
      | refine t_quo rfl rfl rfl (by omega) (by omega) (by first | exact wrap64' (by omega) | exact wrapU64 (by omega) | exact wrapU32 (by omega) | exact wrapU8 (by omega)) ?_
      | refine t_rem rfl rfl rfl (by omega) (by omega) ?_
      | refine t_conv rfl rfl (by first | exact wrap64' (by omega) | exact wrapU64 (by omega) | exact wrapU32 (by omega) | exact wrapU8 (by omega)) ?_
      | refine t_load1R rfl rfl (by assumption) rfl rfl ?_
      | refine t_loadNR rfl rfl (by assumption) rfl (by first | exact Nat.le_of_ble_eq_true rfl | (simp; done) | omega) rfl ?_
      | refine t_any rfl rfl ?_
      | refine t_anyN rfl rfl ?_
      | (refine t_nil ⟨?_, ?_⟩; focus (repeat (first | exact trivial | rfl | refine And.intro ?_ ?_)))
      | refine w_opsS ?_
      | refine w_ops ?_
      | refine w_condY rfl (by first | rfl | assumption | (simp only [decide_eq_true_eq, decide_eq_false_iff_not, beq_iff_eq, bne_iff_ne, beq_eq_false_iff_ne, bne_eq_false_iff_eq, Bool.not_eq_true', Bool.not_eq_false', Bool.not_true, Bool.not_false, ne_eq]; done) | (simp only [decide_eq_true_eq, decide_eq_false_iff_not, beq_iff_eq, bne_iff_ne, beq_eq_false_iff_ne, bne_eq_false_iff_eq, Bool.not_eq_true', Bool.not_eq_false', Bool.not_true, Bool.not_false, ne_eq]; omega)) ?_
      | refine w_condN rfl (by first | rfl | assumption | (simp only [decide_eq_true_eq, decide_eq_false_iff_not, beq_iff_eq, bne_iff_ne, beq_eq_false_iff_ne, bne_eq_false_iff_eq, Bool.not_eq_true', Bool.not_eq_false', Bool.not_true, Bool.not_false, ne_eq]; done) | (simp only [decide_eq_true_eq, decide_eq_false_iff_not, beq_iff_eq, bne_iff_ne, beq_eq_false_iff_ne, bne_eq_false_iff_eq, Bool.not_eq_true', Bool.not_eq_false', Bool.not_true, Bool.not_false, ne_eq]; omega)) ?_
      | refine w_seq ?_
      | refine w_opsX ?_
      | refine w_block ?_
      | refine w_exit ?_
      | refine w_ret ?_
      | refine w_skip ?_)
    refine o_ixV rfl rfl rfl ⟨by omega, by omega⟩ ?_
    refine o_gdY rfl (by simp; omega) ?_
    refine o_load1 rfl rfl hrd1 ?_
    repeat (first
      | refine o_mv rfl rfl ?_
      | refine o_lenV rfl rfl ?_
      | refine o_gdY rfl (by first | rfl | assumption | (simp only [decide_eq_true_eq, decide_eq_false_iff_not, beq_iff_eq, bne_iff_ne, beq_eq_false_iff_ne, bne_eq_false_iff_eq, Bool.not_eq_true', Bool.not_eq_false', Bool.not_true, Bool.not_false, ne_eq]; done) | (simp only [decide_eq_true_eq, decide_eq_false_iff_not, beq_iff_eq, bne_iff_ne, beq_eq_false_iff_ne, bne_eq_false_iff_eq, Bool.not_eq_true', Bool.not_eq_false', Bool.not_true, Bool.not_false, ne_eq]; omega)) ?_
      | refine o_gdN rfl (by first | rfl | assumption | (simp only [decide_eq_true_eq, decide_eq_false_iff_not, beq_iff_eq, bne_iff_ne, beq_eq_false_iff_ne, bne_eq_false_iff_eq, Bool.not_eq_true', Bool.not_eq_false', Bool.not_true, Bool.not_false, ne_eq]; done) | (simp only [decide_eq_true_eq, decide_eq_false_iff_not, beq_iff_eq, bne_iff_ne, beq_eq_false_iff_ne, bne_eq_false_iff_eq, Bool.not_eq_true', Bool.not_eq_false', Bool.not_true, Bool.not_false, ne_eq]; omega)) ?_
      | refine o_pass rfl ?_
      | refine o_passN rfl ?_
      | refine o_pickY rfl rfl (by first | rfl | assumption | (simp only [decide_eq_true_eq, decide_eq_false_iff_not, beq_iff_eq, bne_iff_ne, beq_eq_false_iff_ne, bne_eq_false_iff_eq, Bool.not_eq_true', Bool.not_eq_false', Bool.not_true, Bool.not_false, ne_eq]; done) | (simp only [decide_eq_true_eq, decide_eq_false_iff_not, beq_iff_eq, bne_iff_ne, beq_eq_false_iff_ne, bne_eq_false_iff_eq, Bool.not_eq_true', Bool.not_eq_false', Bool.not_true, Bool.not_false, ne_eq]; omega)) rfl ?_
      | refine o_pickN rfl rfl (by first | rfl | assumption | (simp only [decide_eq_true_eq, decide_eq_false_iff_not, beq_iff_eq, bne_iff_ne, beq_eq_false_iff_ne, bne_eq_false_iff_eq, Bool.not_eq_true', Bool.not_eq_false', Bool.not_true, Bool.not_false, ne_eq]; done) | (simp only [decide_eq_true_eq, decide_eq_false_iff_not, beq_iff_eq, bne_iff_ne, beq_eq_false_iff_ne, bne_eq_false_iff_eq, Bool.not_eq_true', Bool.not_eq_false', Bool.not_true, Bool.not_false, ne_eq]; omega)) rfl ?_
      | refine o_add rfl rfl rfl (by first | exact wrap64' (by omega) | exact wrapU64 (by omega) | exact wrapU32 (by omega) | exact wrapU8 (by omega)) ?_
      | refine o_sub rfl rfl rfl (by first | exact wrap64' (by omega) | exact wrapU64 (by omega) | exact wrapU32 (by omega) | exact wrapU8 (by omega)) ?_
      | refine o_mul rfl rfl rfl (by first | exact wrap64' (by omega) | exact wrapU64 (by omega) | exact wrapU32 (by omega) | exact wrapU8 (by omega)) ?_
      | refine o_quo rfl rfl rfl (by omega) (by omega) (by first | exact wrap64' (by omega) | exact wrapU64 (by omega) | exact wrapU32 (by omega) | exact wrapU8 (by omega)) ?_
      | refine o_rem rfl rfl rfl (by omega) (by omega) ?_
      | refine o_conv rfl rfl (by first | exact wrap64' (by omega) | exact wrapU64 (by omega) | exact wrapU32 (by omega) | exact wrapU8 (by omega)) ?_
      | refine o_load1R rfl rfl (by assumption) rfl rfl ?_
      | refine o_loadNR rfl rfl (by assumption) rfl (by first | exact Nat.le_of_ble_eq_true rfl | (simp; done) | omega) rfl ?_
      | refine o_storeR rfl rfl rfl rfl rfl (by assumption) (by first | exact Nat.le_of_ble_eq_true rfl | (simp; done) | omega) ?_
      | refine o_any rfl rfl ?_
      | refine o_anyN rfl rfl ?_
      | refine o_nil ?_
      | refine t_mv rfl rfl ?_
      | refine t_gdY rfl (by first | rfl | assumption | (simp only [decide_eq_true_eq, decide_eq_false_iff_not, beq_iff_eq, bne_iff_ne, beq_eq_false_iff_ne, bne_eq_false_iff_eq, Bool.not_eq_true', Bool.not_eq_false', Bool.not_true, Bool.not_false, ne_eq]; done) | (simp only [decide_eq_true_eq, decide_eq_false_iff_not, beq_iff_eq, bne_iff_ne, beq_eq_false_iff_ne, bne_eq_false_iff_eq, Bool.not_eq_true', Bool.not_eq_false', Bool.not_true, Bool.not_false, ne_eq]; omega)) ?_
      | refine t_gdN rfl (by first | rfl | assumption | (simp only [decide_eq_true_eq, decide_eq_false_iff_not, beq_iff_eq, bne_iff_ne, beq_eq_false_iff_ne, bne_eq_false_iff_eq, Bool.not_eq_true', Bool.not_eq_false', Bool.not_true, Bool.not_false, ne_eq]; done) | (simp only [decide_eq_true_eq, decide_eq_false_iff_not, beq_iff_eq, bne_iff_ne, beq_eq_false_iff_ne, bne_eq_false_iff_eq, Bool.not_eq_true', Bool.not_eq_false', Bool.not_true, Bool.not_false, ne_eq]; omega)) ?_
      | refine t_pass rfl ?_
      | refine t_pickY rfl rfl (by first | rfl | assumption | (simp only [decide_eq_true_eq, decide_eq_false_iff_not, beq_iff_eq, bne_iff_ne, beq_eq_false_iff_ne, bne_eq_false_iff_eq, Bool.not_eq_true', Bool.not_eq_false', Bool.not_true, Bool.not_false, ne_eq]; done) | (simp only [decide_eq_true_eq, decide_eq_false_iff_not, beq_iff_eq, bne_iff_ne, beq_eq_false_iff_ne, bne_eq_false_iff_eq, Bool.not_eq_true', Bool.not_eq_false', Bool.not_true, Bool.not_false, ne_eq]; omega)) rfl ?_
      | refine t_pickN rfl rfl (by first | rfl | assumption | (simp only [decide_eq_true_eq, decide_eq_false_iff_not, beq_iff_eq, bne_iff_ne, beq_eq_false_iff_ne, bne_eq_false_iff_eq, Bool.not_eq_true', Bool.not_eq_false', Bool.not_true, Bool.not_false, ne_eq]; done) | (simp only [decide_eq_true_eq, decide_eq_false_iff_not, beq_iff_eq, bne_iff_ne, beq_eq_false_iff_ne, bne_eq_false_iff_eq, Bool.not_eq_true', Bool.not_eq_false', Bool.not_true, Bool.not_false, ne_eq]; omega)) rfl ?_
      | refine t_add rfl rfl rfl (by first | exact wrap64' (by omega) | exact wrapU64 (by omega) | exact wrapU32 (by omega) | exact wrapU8 (by omega)) ?_
      | refine t_sub rfl rfl rfl (by first | exact wrap64' (by omega) | exact wrapU64 (by omega) | exact wrapU32 (by omega) | exact wrapU8 (by omega)) ?_
      | refine t_mul rfl rfl rfl (by first | exact wrap64' (by omega) | exact wrapU64 (by omega) | exact wrapU32 (by omega) | exact wrapU8 (by omega)) ?_
      | refine t_quo rfl rfl rfl (by omega) (by omega) (by first | exact wrap64' (by omega) | exact wrapU64 (by omega) | exact wrapU32 (by omega) | exact wrapU8 (by omega)) ?_
      | refine t_rem rfl rfl rfl (by omega) (by omega) ?_
      | refine t_conv rfl rfl (by first | exact wrap64' (by omega) | exact wrapU64 (by omega) | exact wrapU32 (by omega) | exact wrapU8 (by omega)) ?_
      | refine t_load1R rfl rfl (by assumption) rfl rfl ?_
      | refine t_loadNR rfl rfl (by assumption) rfl (by first | exact Nat.le_of_ble_eq_true rfl | (simp; done) | omega) rfl ?_
      | refine t_any rfl rfl ?_
      | refine t_anyN rfl rfl ?_
      | (refine t_nil ⟨?_, ?_⟩; focus (repeat (first | exact trivial | rfl | refine And.intro ?_ ?_)))
      | refine w_opsS ?_
      | refine w_ops ?_
      | refine w_condY rfl (by first | rfl | assumption | (simp only [decide_eq_true_eq, decide_eq_false_iff_not, beq_iff_eq, bne_iff_ne, beq_eq_false_iff_ne, bne_eq_false_iff_eq, Bool.not_eq_true', Bool.not_eq_false', Bool.not_true, Bool.not_false, ne_eq]; done) | (simp only [decide_eq_true_eq, decide_eq_false_iff_not, beq_iff_eq, bne_iff_ne, beq_eq_false_iff_ne, bne_eq_false_iff_eq, Bool.not_eq_true', Bool.not_eq_false', Bool.not_true, Bool.not_false, ne_eq]; omega)) ?_
      | refine w_condN rfl (by first | rfl | assumption | (simp only [decide_eq_true_eq, decide_eq_false_iff_not, beq_iff_eq, bne_iff_ne, beq_eq_false_iff_ne, bne_eq_false_iff_eq, Bool.not_eq_true', Bool.not_eq_false', Bool.not_true, Bool.not_false, ne_eq]; done) | (simp only [decide_eq_true_eq, decide_eq_false_iff_not, beq_iff_eq, bne_iff_ne, beq_eq_false_iff_ne, bne_eq_false_iff_eq, Bool.not_eq_true', Bool.not_eq_false', Bool.not_true, Bool.not_false, ne_eq]; omega)) ?_
      | refine w_seq ?_
      | refine w_opsX ?_
      | refine w_block ?_
      | refine w_exit ?_
      | refine w_ret ?_
      | refine w_skip ?_)
    refine o_ixV rfl rfl rfl ⟨by omega, by omega⟩ ?_
    refine o_load1 rfl rfl hrd1 ?_
    refine o_ixA rfl rfl rfl ⟨by omega, by omega⟩ ?_
    refine o_load1R rfl rfl hg rfl (v := .int .i64 (((P ++ O.take i).count O[i] : Nat) : Int)) (by simpa using cnt_get (P ++ O.take i) O[i] (by omega)) ?_
    repeat (first
      | refine o_mv rfl rfl ?_
      | refine o_lenV rfl rfl ?_
      | refine o_gdY rfl (by first | rfl | assumption | (simp only [decide_eq_true_eq, decide_eq_false_iff_not, beq_iff_eq, bne_iff_ne, beq_eq_false_iff_ne, bne_eq_false_iff_eq, Bool.not_eq_true', Bool.not_eq_false', Bool.not_true, Bool.not_false, ne_eq]; done) | (simp only [decide_eq_true_eq, decide_eq_false_iff_not, beq_iff_eq, bne_iff_ne, beq_eq_false_iff_ne, bne_eq_false_iff_eq, Bool.not_eq_true', Bool.not_eq_false', Bool.not_true, Bool.not_false, ne_eq]; omega)) ?_
      | refine o_gdN rfl (by first | rfl | assumption | (simp only [decide_eq_true_eq, decide_eq_false_iff_not, beq_iff_eq, bne_iff_ne, beq_eq_false_iff_ne, bne_eq_false_iff_eq, Bool.not_eq_true', Bool.not_eq_false', Bool.not_true, Bool.not_false, ne_eq]; done) | (simp only [decide_eq_true_eq, decide_eq_false_iff_not, beq_iff_eq, bne_iff_ne, beq_eq_false_iff_ne, bne_eq_false_iff_eq, Bool.not_eq_true', Bool.not_eq_false', Bool.not_true, Bool.not_false, ne_eq]; omega)) ?_
      | refine o_pass rfl ?_
      | refine o_passN rfl ?_
      | refine o_pickY rfl rfl (by first | rfl | assumption | (simp only [decide_eq_true_eq, decide_eq_false_iff_not, beq_iff_eq, bne_iff_ne, beq_eq_false_iff_ne, bne_eq_false_iff_eq, Bool.not_eq_true', Bool.not_eq_false', Bool.not_true, Bool.not_false, ne_eq]; done) | (simp only [decide_eq_true_eq, decide_eq_false_iff_not, beq_iff_eq, bne_iff_ne, beq_eq_false_iff_ne, bne_eq_false_iff_eq, Bool.not_eq_true', Bool.not_eq_false', Bool.not_true, Bool.not_false, ne_eq]; omega)) rfl ?_
      | refine o_pickN rfl rfl (by first | rfl | assumption | (simp only [decide_eq_true_eq, decide_eq_false_iff_not, beq_iff_eq, bne_iff_ne, beq_eq_false_iff_ne, bne_eq_false_iff_eq, Bool.not_eq_true', Bool.not_eq_false', Bool.not_true, Bool.not_false, ne_eq]; done) | (simp only [decide_eq_true_eq, decide_eq_false_iff_not, beq_iff_eq, bne_iff_ne, beq_eq_false_iff_ne, bne_eq_false_iff_eq, Bool.not_eq_true', Bool.not_eq_false', Bool.not_true, Bool.not_false, ne_eq]; omega)) rfl ?_
      | refine o_add rfl rfl rfl (by first | exact wrap64' (by omega) | exact wrapU64 (by omega) | exact wrapU32 (by omega) | exact wrapU8 (by omega)) ?_
      | refine o_sub rfl rfl rfl (by first | exact wrap64' (by omega) | exact wrapU64 (by omega) | exact wrapU32 (by omega) | exact wrapU8 (by omega)) ?_
      | refine o_mul rfl rfl rfl (by first | exact wrap64' (by omega) | exact wrapU64 (by omega) | exact wrapU32 (by omega) | exact wrapU8 (by omega)) ?_
      | refine o_quo rfl rfl rfl (by omega) (by omega) (by first | exact wrap64' (by omega) | exact wrapU64 (by omega) | exact wrapU32 (by omega) | exact wrapU8 (by omega)) ?_
      | refine o_rem rfl rfl rfl (by omega) (by omega) ?_
      | refine o_conv rfl rfl (by first | exact wrap64' (by omega) | exact wrapU64 (by omega) | exact wrapU32 (by omega) | exact wrapU8 (by omega)) ?_
      | refine o_load1R rfl rfl (by assumption) rfl rfl ?_
      | refine o_loadNR rfl rfl (by assumption) rfl (by first | exact Nat.le_of_ble_eq_true rfl | (simp; done) | omega) rfl ?_
      | refine o_storeR rfl rfl rfl rfl rfl (by assumption) (by first | exact Nat.le_of_ble_eq_true rfl | (simp; done) | omega) ?_
      | refine o_any rfl rfl ?_
      | refine o_anyN rfl rfl ?_
      | refine o_nil ?_
      | refine t_mv rfl rfl ?_
      | refine t_gdY rfl (by first | rfl | assumption | (simp only [decide_eq_true_eq, decide_eq_false_iff_not, beq_iff_eq, bne_iff_ne, beq_eq_false_iff_ne, bne_eq_false_iff_eq, Bool.not_eq_true', Bool.not_eq_false', Bool.not_true, Bool.not_false, ne_eq]; done) | (simp only [decide_eq_true_eq, decide_eq_false_iff_not, beq_iff_eq, bne_iff_ne, beq_eq_false_iff_ne, bne_eq_false_iff_eq, Bool.not_eq_true', Bool.not_eq_false', Bool.not_true, Bool.not_false, ne_eq]; omega)) ?_
      | refine t_gdN rfl (by first | rfl | assumption | (simp only [decide_eq_true_eq, decide_eq_false_iff_not, beq_iff_eq, bne_iff_ne, beq_eq_false_iff_ne, bne_eq_false_iff_eq, Bool.not_eq_true', Bool.not_eq_false', Bool.not_true, Bool.not_false, ne_eq]; done) | (simp only [decide_eq_true_eq, decide_eq_false_iff_not, beq_iff_eq, bne_iff_ne, beq_eq_false_iff_ne, bne_eq_false_iff_eq, Bool.not_eq_true', Bool.not_eq_false', Bool.not_true, Bool.not_false, ne_eq]; omega)) ?_
      | refine t_pass rfl ?_
      | refine t_pickY rfl rfl (by first | rfl | assumption | (simp only [decide_eq_true_eq, decide_eq_false_iff_not, beq_iff_eq, bne_iff_ne, beq_eq_false_iff_ne, bne_eq_false_iff_eq, Bool.not_eq_true', Bool.not_eq_false', Bool.not_true, Bool.not_false, ne_eq]; done) | (simp only [decide_eq_true_eq, decide_eq_false_iff_not, beq_iff_eq, bne_iff_ne, beq_eq_false_iff_ne, bne_eq_false_iff_eq, Bool.not_eq_true', Bool.not_eq_false', Bool.not_true, Bool.not_false, ne_eq]; omega)) rfl ?_
      | refine t_pickN rfl rfl (by first | rfl | assumption | (simp only [decide_eq_true_eq, decide_eq_false_iff_not, beq_iff_eq, bne_iff_ne, beq_eq_false_iff_ne, bne_eq_false_iff_eq, Bool.not_eq_true', Bool.not_eq_false', Bool.not_true, Bool.not_false, ne_eq]; done) | (simp only [decide_eq_true_eq, decide_eq_false_iff_not, beq_iff_eq, bne_iff_ne, beq_eq_false_iff_ne, bne_eq_false_iff_eq, Bool.not_eq_true', Bool.not_eq_false', Bool.not_true, Bool.not_false, ne_eq]; omega)) rfl ?_
      | refine t_add rfl rfl rfl (by first | exact wrap64' (by omega) | exact wrapU64 (by omega) | exact wrapU32 (by omega) | exact wrapU8 (by omega)) ?_
      | refine t_sub rfl rfl rfl (by first | exact wrap64' (by omega) | exact wrapU64 (by omega) | exact wrapU32 (by omega) | exact wrapU8 (by omega)) ?_
      | refine t_mul rfl rfl rfl (by first | exact wrap64' (by omega) | exact wrapU64 (by omega) | exact wrapU32 (by omega) | exact wrapU8 (by omega)) ?_
      | refine t_quo rfl rfl rfl (by omega) (by omega) (by first | exact wrap64' (by omega) | exact wrapU64 (by omega) | exact wrapU32 (by omega) | exact wrapU8 (by omega)) ?_
      | refine t_rem rfl rfl rfl (by omega) (by omega) ?_
      | refine t_conv rfl rfl (by first | exact wrap64' (by omega) | exact wrapU64 (by omega) | exact wrapU32 (by omega) | exact wrapU8 (by omega)) ?_
      | refine t_load1R rfl rfl (by assumption) rfl rfl ?_
      | refine t_loadNR rfl rfl (by assumption) rfl (by first | exact Nat.le_of_ble_eq_true rfl | (simp; done) | omega) rfl ?_
      | refine t_any rfl rfl ?_
      | refine t_anyN rfl rfl ?_
      | (refine t_nil ⟨?_, ?_⟩; focus (repeat (first | exact trivial | rfl | refine And.intro ?_ ?_)))
      | refine w_opsS ?_
      | refine w_ops ?_
      | refine w_condY rfl (by first | rfl | assumption | (simp only [decide_eq_true_eq, decide_eq_false_iff_not, beq_iff_eq, bne_iff_ne, beq_eq_false_iff_ne, bne_eq_false_iff_eq, Bool.not_eq_true', Bool.not_eq_false', Bool.not_true, Bool.not_false, ne_eq]; done) | (simp only [decide_eq_true_eq, decide_eq_false_iff_not, beq_iff_eq, bne_iff_ne, beq_eq_false_iff_ne, bne_eq_false_iff_eq, Bool.not_eq_true', Bool.not_eq_false', Bool.not_true, Bool.not_false, ne_eq]; omega)) ?_
      | refine w_condN rfl (by first | rfl | assumption | (simp only [decide_eq_true_eq, decide_eq_false_iff_not, beq_iff_eq, bne_iff_ne, beq_eq_false_iff_ne, bne_eq_false_iff_eq, Bool.not_eq_true', Bool.not_eq_false', Bool.not_true, Bool.not_false, ne_eq]; done) | (simp only [decide_eq_true_eq, decide_eq_false_iff_not, beq_iff_eq, bne_iff_ne, beq_eq_false_iff_ne, bne_eq_false_iff_eq, Bool.not_eq_true', Bool.not_eq_false', Bool.not_true, Bool.not_false, ne_eq]; omega)) ?_
      | refine w_seq ?_
      | refine w_opsX ?_
      | refine w_block ?_
      | refine w_exit ?_
      | refine w_ret ?_
      | refine w_skip ?_)
    refine o_ixA rfl rfl rfl ⟨by omega, by omega⟩ ?_
    refine o_storeR rfl rfl rfl rfl rfl hg (by simp [cnt_length]; omega) ?_
    have hset := cnt_set (P ++ O.take i) O[i] (by omega)
    have hoff : ({ block := s, off := 0 } : Addr).off + O[i].toNat * 1 = O[i].toNat := by simp
    rw [hoff, hset, List.append_assoc, List.take_append_getElem]
    have hg2 := Heap.get?_set_same (o := .rw (cnt (P ++ O.take (i + 1)))) hg
    have ho2 := ho.trans (Only.set (o := .rw (cnt (P ++ O.take (i + 1)))) hg)
    generalize h.set s (.rw (cnt (P ++ O.take (i + 1)))) = h2 at hg2 ho2 ⊢
    repeat (first
      | refine o_mv rfl rfl ?_
      | refine o_lenV rfl rfl ?_
      | refine o_gdY rfl (by first | rfl | assumption | (simp only [decide_eq_true_eq, decide_eq_false_iff_not, beq_iff_eq, bne_iff_ne, beq_eq_false_iff_ne, bne_eq_false_iff_eq, Bool.not_eq_true', Bool.not_eq_false', Bool.not_true, Bool.not_false, ne_eq]; done) | (simp only [decide_eq_true_eq, decide_eq_false_iff_not, beq_iff_eq, bne_iff_ne, beq_eq_false_iff_ne, bne_eq_false_iff_eq, Bool.not_eq_true', Bool.not_eq_false', Bool.not_true, Bool.not_false, ne_eq]; omega)) ?_
      | refine o_gdN rfl (by first | rfl | assumption | (simp only [decide_eq_true_eq, decide_eq_false_iff_not, beq_iff_eq, bne_iff_ne, beq_eq_false_iff_ne, bne_eq_false_iff_eq, Bool.not_eq_true', Bool.not_eq_false', Bool.not_true, Bool.not_false, ne_eq]; done) | (simp only [decide_eq_true_eq, decide_eq_false_iff_not, beq_iff_eq, bne_iff_ne, beq_eq_false_iff_ne, bne_eq_false_iff_eq, Bool.not_eq_true', Bool.not_eq_false', Bool.not_true, Bool.not_false, ne_eq]; omega)) ?_
      | refine o_pass rfl ?_
      | refine o_passN rfl ?_
      | refine o_pickY rfl rfl (by first | rfl | assumption | (simp only [decide_eq_true_eq, decide_eq_false_iff_not, beq_iff_eq, bne_iff_ne, beq_eq_false_iff_ne, bne_eq_false_iff_eq, Bool.not_eq_true', Bool.not_eq_false', Bool.not_true, Bool.not_false, ne_eq]; done) | (simp only [decide_eq_true_eq, decide_eq_false_iff_not, beq_iff_eq, bne_iff_ne, beq_eq_false_iff_ne, bne_eq_false_iff_eq, Bool.not_eq_true', Bool.not_eq_false', Bool.not_true, Bool.not_false, ne_eq]; omega)) rfl ?_
      | refine o_pickN rfl rfl (by first | rfl | assumption | (simp only [decide_eq_true_eq, decide_eq_false_iff_not, beq_iff_eq, bne_iff_ne, beq_eq_false_iff_ne, bne_eq_false_iff_eq, Bool.not_eq_true', Bool.not_eq_false', Bool.not_true, Bool.not_false, ne_eq]; done) | (simp only [decide_eq_true_eq, decide_eq_false_iff_not, beq_iff_eq, bne_iff_ne, beq_eq_false_iff_ne, bne_eq_false_iff_eq, Bool.not_eq_true', Bool.not_eq_false', Bool.not_true, Bool.not_false, ne_eq]; omega)) rfl ?_
      | refine o_add rfl rfl rfl (by first | exact wrap64' (by omega) | exact wrapU64 (by omega) | exact wrapU32 (by omega) | exact wrapU8 (by omega)) ?_
      | refine o_sub rfl rfl rfl (by first | exact wrap64' (by omega) | exact wrapU64 (by omega) | exact wrapU32 (by omega) | exact wrapU8 (by omega)) ?_
      | refine o_mul rfl rfl rfl (by first | exact wrap64' (by omega) | exact wrapU64 (by omega) | exact wrapU32 (by omega) | exact wrapU8 (by omega)) ?_
      | refine o_quo rfl rfl rfl (by omega) (by omega) (by first | exact wrap64' (by omega) | exact wrapU64 (by omega) | exact wrapU32 (by omega) | exact wrapU8 (by omega)) ?_
      | refine o_rem rfl rfl rfl (by omega) (by omega) ?_
      | refine o_conv rfl rfl (by first | exact wrap64' (by omega) | exact wrapU64 (by omega) | exact wrapU32 (by omega) | exact wrapU8 (by omega)) ?_
      | refine o_load1R rfl rfl (by assumption) rfl rfl ?_
      | refine o_loadNR rfl rfl (by assumption) rfl (by first | exact Nat.le_of_ble_eq_true rfl | (simp; done) | omega) rfl ?_
      | refine o_storeR rfl rfl rfl rfl rfl (by assumption) (by first | exact Nat.le_of_ble_eq_true rfl | (simp; done) | omega) ?_
      | refine o_any rfl rfl ?_
      | refine o_anyN rfl rfl ?_
      | refine o_nil ?_
      | refine t_mv rfl rfl ?_
      | refine t_gdY rfl (by first | rfl | assumption | (simp only [decide_eq_true_eq, decide_eq_false_iff_not, beq_iff_eq, bne_iff_ne, beq_eq_false_iff_ne, bne_eq_false_iff_eq, Bool.not_eq_true', Bool.not_eq_false', Bool.not_true, Bool.not_false, ne_eq]; done) | (simp only [decide_eq_true_eq, decide_eq_false_iff_not, beq_iff_eq, bne_iff_ne, beq_eq_false_iff_ne, bne_eq_false_iff_eq, Bool.not_eq_true', Bool.not_eq_false', Bool.not_true, Bool.not_false, ne_eq]; omega)) ?_
      | refine t_gdN rfl (by first | rfl | assumption | (simp only [decide_eq_true_eq, decide_eq_false_iff_not, beq_iff_eq, bne_iff_ne, beq_eq_false_iff_ne, bne_eq_false_iff_eq, Bool.not_eq_true', Bool.not_eq_false', Bool.not_true, Bool.not_false, ne_eq]; done) | (simp only [decide_eq_true_eq, decide_eq_false_iff_not, beq_iff_eq, bne_iff_ne, beq_eq_false_iff_ne, bne_eq_false_iff_eq, Bool.not_eq_true', Bool.not_eq_false', Bool.not_true, Bool.not_false, ne_eq]; omega)) ?_
      | refine t_pass rfl ?_
      | refine t_pickY rfl rfl (by first | rfl | assumption | (simp only [decide_eq_true_eq, decide_eq_false_iff_not, beq_iff_eq, bne_iff_ne, beq_eq_false_iff_ne, bne_eq_false_iff_eq, Bool.not_eq_true', Bool.not_eq_false', Bool.not_true, Bool.not_false, ne_eq]; done) | (simp only [decide_eq_true_eq, decide_eq_false_iff_not, beq_iff_eq, bne_iff_ne, beq_eq_false_iff_ne, bne_eq_false_iff_eq, Bool.not_eq_true', Bool.not_eq_false', Bool.not_true, Bool.not_false, ne_eq]; omega)) rfl ?_
      | refine t_pickN rfl rfl (by first | rfl | assumption | (simp only [decide_eq_true_eq, decide_eq_false_iff_not, beq_iff_eq, bne_iff_ne, beq_eq_false_iff_ne, bne_eq_false_iff_eq, Bool.not_eq_true', Bool.not_eq_false', Bool.not_true, Bool.not_false, ne_eq]; done) | (simp only [decide_eq_true_eq, decide_eq_false_iff_not, beq_iff_eq, bne_iff_ne, beq_eq_false_iff_ne, bne_eq_false_iff_eq, Bool.not_eq_true', Bool.not_eq_false', Bool.not_true, Bool.not_false, ne_eq]; omega)) rfl ?_
      | refine t_add rfl rfl rfl (by first | exact wrap64' (by omega) | exact wrapU64 (by omega) | exact wrapU32 (by omega) | exact wrapU8 (by omega)) ?_
      | refine t_sub rfl rfl rfl (by first | exact wrap64' (by omega) | exact wrapU64 (by omega) | exact wrapU32 (by omega) | exact wrapU8 (by omega)) ?_
      | refine t_mul rfl rfl rfl (by first | exact wrap64' (by omega) | exact wrapU64 (by omega) | exact wrapU32 (by omega) | exact wrapU8 (by omega)) ?_
      | refine t_quo rfl rfl rfl (by omega) (by omega) (by first | exact wrap64' (by omega) | exact wrapU64 (by omega) | exact wrapU32 (by omega) | exact wrapU8 (by omega)) ?_
      | refine t_rem rfl rfl rfl (by omega) (by omega) ?_
      | refine t_conv rfl rfl (by first | exact wrap64' (by omega) | exact wrapU64 (by omega) | exact wrapU32 (by omega) | exact wrapU8 (by omega)) ?_
      | refine t_load1R rfl rfl (by assumption) rfl rfl ?_
      | refine t_loadNR rfl rfl (by assumption) rfl (by first | exact Nat.le_of_ble_eq_true rfl | (simp; done) | omega) rfl ?_
      | refine t_any rfl rfl ?_
      | refine t_anyN rfl rfl ?_
      | (refine t_nil ⟨?_, ?_⟩; focus (repeat (first | exact trivial | rfl | refine And.intro ?_ ?_)))
      | refine w_opsS ?_
      | refine w_ops ?_
      | refine w_condY rfl (by first | rfl | assumption | (simp only [decide_eq_true_eq, decide_eq_false_iff_not, beq_iff_eq, bne_iff_ne, beq_eq_false_iff_ne, bne_eq_false_iff_eq, Bool.not_eq_true', Bool.not_eq_false', Bool.not_true, Bool.not_false, ne_eq]; done) | (simp only [decide_eq_true_eq, decide_eq_false_iff_not, beq_iff_eq, bne_iff_ne, beq_eq_false_iff_ne, bne_eq_false_iff_eq, Bool.not_eq_true', Bool.not_eq_false', Bool.not_true, Bool.not_false, ne_eq]; omega)) ?_
      | refine w_condN rfl (by first | rfl | assumption | (simp only [decide_eq_true_eq, decide_eq_false_iff_not, beq_iff_eq, bne_iff_ne, beq_eq_false_iff_ne, bne_eq_false_iff_eq, Bool.not_eq_true', Bool.not_eq_false', Bool.not_true, Bool.not_false, ne_eq]; done) | (simp only [decide_eq_true_eq, decide_eq_false_iff_not, beq_iff_eq, bne_iff_ne, beq_eq_false_iff_ne, bne_eq_false_iff_eq, Bool.not_eq_true', Bool.not_eq_false', Bool.not_true, Bool.not_false, ne_eq]; omega)) ?_
      | refine w_seq ?_
      | refine w_opsX ?_
      | refine w_block ?_
      | refine w_exit ?_
      | refine w_ret ?_
      | refine w_skip ?_)
    refine rnd_again rfl ?_
    exact ih (i + 1) h2 (by omega) ho2 hg2 hQ

theorem whole3 (m s : Nat) (hm : m ≤ 24) (L : List Int) (hL : ∀ x : Nat, x < m → L.count (x : Int) = 1) (h : Heap) (hg : h.get? s = some (.rw (cnt L))) (Q : Ex → Fr → Heap → Prop) 
    (hQ : ∀ u1 u2 u3, Q (.exit 4) [(139, u1), (138, u2), (137, u3), (7, .int .i64 m), (13, .pointer (some ⟨s, 0, none⟩)), (16, .int .i64 m)] h) : ∀ (d i : Nat), i + d = m →
    wpR M [7, 13, 16] c_law29_SampleWhole_48 Q [(7, .int .i64 m), (13, .pointer (some ⟨s, 0, none⟩)), (16, .int .i64 i)] h
  | 0, i, hi => by
    have : i = m := by omega
    subst this
    refine w_round ?_
    repeat (first
      | refine o_mv rfl rfl ?_
      | refine o_lenV rfl rfl ?_
      | refine o_gdY rfl (by first | rfl | assumption | (simp only [decide_eq_true_eq, decide_eq_false_iff_not, beq_iff_eq, bne_iff_ne, beq_eq_false_iff_ne, bne_eq_false_iff_eq, Bool.not_eq_true', Bool.not_eq_false', Bool.not_true, Bool.not_false, ne_eq]; done) | (simp only [decide_eq_true_eq, decide_eq_false_iff_not, beq_iff_eq, bne_iff_ne, beq_eq_false_iff_ne, bne_eq_false_iff_eq, Bool.not_eq_true', Bool.not_eq_false', Bool.not_true, Bool.not_false, ne_eq]; omega)) ?_
      | refine o_gdN rfl (by first | rfl | assumption | (simp only [decide_eq_true_eq, decide_eq_false_iff_not, beq_iff_eq, bne_iff_ne, beq_eq_false_iff_ne, bne_eq_false_iff_eq, Bool.not_eq_true', Bool.not_eq_false', Bool.not_true, Bool.not_false, ne_eq]; done) | (simp only [decide_eq_true_eq, decide_eq_false_iff_not, beq_iff_eq, bne_iff_ne, beq_eq_false_iff_ne, bne_eq_false_iff_eq, Bool.not_eq_true', Bool.not_eq_false', Bool.not_true, Bool.not_false, ne_eq]; omega)) ?_
      | refine o_pass rfl ?_
      | refine o_passN rfl ?_
      | refine o_pickY rfl rfl (by first | rfl | assumption | (simp only [decide_eq_true_eq, decide_eq_false_iff_not, beq_iff_eq, bne_iff_ne, beq_eq_false_iff_ne, bne_eq_false_iff_eq, Bool.not_eq_true', Bool.not_eq_false', Bool.not_true, Bool.not_false, ne_eq]; done) | (simp only [decide_eq_true_eq, decide_eq_false_iff_not, beq_iff_eq, bne_iff_ne, beq_eq_false_iff_ne, bne_eq_false_iff_eq, Bool.not_eq_true', Bool.not_eq_false', Bool.not_true, Bool.not_false, ne_eq]; omega)) rfl ?_
      | refine o_pickN rfl rfl (by first | rfl | assumption | (simp only [decide_eq_true_eq, decide_eq_false_iff_not, beq_iff_eq, bne_iff_ne, beq_eq_false_iff_ne, bne_eq_false_iff_eq, Bool.not_eq_true', Bool.not_eq_false', Bool.not_true, Bool.not_false, ne_eq]; done) | (simp only [decide_eq_true_eq, decide_eq_false_iff_not, beq_iff_eq, bne_iff_ne, beq_eq_false_iff_ne, bne_eq_false_iff_eq, Bool.not_eq_true', Bool.not_eq_false', Bool.not_true, Bool.not_false, ne_eq]; omega)) rfl ?_
      | refine o_add rfl rfl rfl (by first | exact wrap64' (by omega) | exact wrapU64 (by omega) | exact wrapU32 (by omega) | exact wrapU8 (by omega)) ?_
      | refine o_sub rfl rfl rfl (by first | exact wrap64' (by omega) | exact wrapU64 (by omega) | exact wrapU32 (by omega) | exact wrapU8 (by omega)) ?_
      | refine o_mul rfl rfl rfl (by first | exact wrap64' (by omega) | exact wrapU64 (by omega) | exact wrapU32 (by omega) | exact wrapU8 (by omega)) ?_
      | refine o_quo rfl rfl rfl (by omega) (by omega) (by first | exact wrap64' (by omega) | exact wrapU64 (by omega) | exact wrapU32 (by omega) | exact wrapU8 (by omega)) ?_
      | refine o_rem rfl rfl rfl (by omega) (by omega) ?_
      | refine o_conv rfl rfl (by first | exact wrap64' (by omega) | exact wrapU64 (by omega) | exact wrapU32 (by omega) | exact wrapU8 (by omega)) ?_
      | refine o_load1R rfl rfl (by assumption) rfl rfl ?_
      | refine o_loadNR rfl rfl (by assumption) rfl (by first | exact Nat.le_of_ble_eq_true rfl | (simp; done) | omega) rfl ?_
      | refine o_storeR rfl rfl rfl rfl rfl (by assumption) (by first | exact Nat.le_of_ble_eq_true rfl | (simp; done) | omega) ?_
      | refine o_any rfl rfl ?_
      | refine o_anyN rfl rfl ?_
      | refine o_nil ?_
      | refine t_mv rfl rfl ?_
      | refine t_gdY rfl (by first | rfl | assumption | (simp only [decide_eq_true_eq, decide_eq_false_iff_not, beq_iff_eq, bne_iff_ne, beq_eq_false_iff_ne, bne_eq_false_iff_eq, Bool.not_eq_true', Bool.not_eq_false', Bool.not_true, Bool.not_false, ne_eq]; done) | (simp only [decide_eq_true_eq, decide_eq_false_iff_not, beq_iff_eq, bne_iff_ne, beq_eq_false_iff_ne, bne_eq_false_iff_eq, Bool.not_eq_true', Bool.not_eq_false', Bool.not_true, Bool.not_false, ne_eq]; omega)) ?_
      | refine t_gdN rfl (by first | rfl | assumption | (simp only [decide_eq_true_eq, decide_eq_false_iff_not, beq_iff_eq, bne_iff_ne, beq_eq_false_iff_ne, bne_eq_false_iff_eq, Bool.not_eq_true', Bool.not_eq_false', Bool.not_true, Bool.not_false, ne_eq]; done) | (simp only [decide_eq_true_eq, decide_eq_false_iff_not, beq_iff_eq, bne_iff_ne, beq_eq_false_iff_ne, bne_eq_false_iff_eq, Bool.not_eq_true', Bool.not_eq_false', Bool.not_true, Bool.not_false, ne_eq]; omega)) ?_
      | refine t_pass rfl ?_
      | refine t_pickY rfl rfl (by first | rfl | assumption | (simp only [decide_eq_true_eq, decide_eq_false_iff_not, beq_iff_eq, bne_iff_ne, beq_eq_false_iff_ne, bne_eq_false_iff_eq, Bool.not_eq_true', Bool.not_eq_false', Bool.not_true, Bool.not_false, ne_eq]; done) | (simp only [decide_eq_true_eq, decide_eq_false_iff_not, beq_iff_eq, bne_iff_ne, beq_eq_false_iff_ne, bne_eq_false_iff_eq, Bool.not_eq_true', Bool.not_eq_false', Bool.not_true, Bool.not_false, ne_eq]; omega)) rfl ?_
      | refine t_pickN rfl rfl (by first | rfl | assumption | (simp only [decide_eq_true_eq, decide_eq_false_iff_not, beq_iff_eq, bne_iff_ne, beq_eq_false_iff_ne, bne_eq_false_iff_eq, Bool.not_eq_true', Bool.not_eq_false', Bool.not_true, Bool.not_false, ne_eq]; done) | (simp only [decide_eq_true_eq, decide_eq_false_iff_not, beq_iff_eq, bne_iff_ne, beq_eq_false_iff_ne, bne_eq_false_iff_eq, Bool.not_eq_true', Bool.not_eq_false', Bool.not_true, Bool.not_false, ne_eq]; omega)) rfl ?_
      | refine t_add rfl rfl rfl (by first | exact wrap64' (by omega) | exact wrapU64 (by omega) | exact wrapU32 (by omega) | exact wrapU8 (by omega)) ?_
      | refine t_sub rfl rfl rfl (by first | exact wrap64' (by omega) | exact wrapU64 (by omega) | exact wrapU32 (by omega) | exact wrapU8 (by omega)) ?_
      | refine t_mul rfl rfl rfl (by first | exact wrap64' (by omega) | exact wrapU64 (by omega) | exact wrapU32 (by omega) | exact wrapU8 (by omega)) ?_
      | refine t_quo rfl rfl rfl (by omega) (by omega) (by first | exact wrap64' (by omega) | exact wrapU64 (by omega) | exact wrapU32 (by omega) | exact wrapU8 (by omega)) ?_
      | refine t_rem rfl rfl rfl (by omega) (by omega) ?_
      | refine t_conv rfl rfl (by first | exact wrap64' (by omega) | exact wrapU64 (by omega) | exact wrapU32 (by omega) | exact wrapU8 (by omega)) ?_
      | refine t_load1R rfl rfl (by assumption) rfl rfl ?_
      | refine t_loadNR rfl rfl (by assumption) rfl (by first | exact Nat.le_of_ble_eq_true rfl | (simp; done) | omega) rfl ?_
      | refine t_any rfl rfl ?_
      | refine t_anyN rfl rfl ?_
      | (refine t_nil ⟨?_, ?_⟩; focus (repeat (first | exact trivial | rfl | refine And.intro ?_ ?_)))
      | refine w_opsS ?_
      | refine w_ops ?_
      | refine w_condY rfl (by first | rfl | assumption | (simp only [decide_eq_true_eq, decide_eq_false_iff_not, beq_iff_eq, bne_iff_ne, beq_eq_false_iff_ne, bne_eq_false_iff_eq, Bool.not_eq_true', Bool.not_eq_false', Bool.not_true, Bool.not_false, ne_eq]; done) | (simp only [decide_eq_true_eq, decide_eq_false_iff_not, beq_iff_eq, bne_iff_ne, beq_eq_false_iff_ne, bne_eq_false_iff_eq, Bool.not_eq_true', Bool.not_eq_false', Bool.not_true, Bool.not_false, ne_eq]; omega)) ?_
      | refine w_condN rfl (by first | rfl | assumption | (simp only [decide_eq_true_eq, decide_eq_false_iff_not, beq_iff_eq, bne_iff_ne, beq_eq_false_iff_ne, bne_eq_false_iff_eq, Bool.not_eq_true', Bool.not_eq_false', Bool.not_true, Bool.not_false, ne_eq]; done) | (simp only [decide_eq_true_eq, decide_eq_false_iff_not, beq_iff_eq, bne_iff_ne, beq_eq_false_iff_ne, bne_eq_false_iff_eq, Bool.not_eq_true', Bool.not_eq_false', Bool.not_true, Bool.not_false, ne_eq]; omega)) ?_
      | refine w_seq ?_
      | refine w_opsX ?_
      | refine w_block ?_
      | refine w_exit ?_
      | refine w_ret ?_
      | refine w_skip ?_)
    exact hQ _ _ _
  | d + 1, i, hi => by
    have hone := hL i (by omega)
    have hcg := cnt_get L i (by omega)
    rw [hone] at hcg
    refine w_round ?_
    repeat (first
      | refine o_mv rfl rfl ?_
      | refine o_lenV rfl rfl ?_
      | refine o_gdY rfl (by first | rfl | assumption | (simp only [decide_eq_true_eq, decide_eq_false_iff_not, beq_iff_eq, bne_iff_ne, beq_eq_false_iff_ne, bne_eq_false_iff_eq, Bool.not_eq_true', Bool.not_eq_false', Bool.not_true, Bool.not_false, ne_eq]; done) | (simp only [decide_eq_true_eq, decide_eq_false_iff_not, beq_iff_eq, bne_iff_ne, beq_eq_false_iff_ne, bne_eq_false_iff_eq, Bool.not_eq_true', Bool.not_eq_false', Bool.not_true, Bool.not_false, ne_eq]; omega)) ?_
      | refine o_gdN rfl (by first | rfl | assumption | (simp only [decide_eq_true_eq, decide_eq_false_iff_not, beq_iff_eq, bne_iff_ne, beq_eq_false_iff_ne, bne_eq_false_iff_eq, Bool.not_eq_true', Bool.not_eq_false', Bool.not_true, Bool.not_false, ne_eq]; done) | (simp only [decide_eq_true_eq, decide_eq_false_iff_not, beq_iff_eq, bne_iff_ne, beq_eq_false_iff_ne, bne_eq_false_iff_eq, Bool.not_eq_true', Bool.not_eq_false', Bool.not_true, Bool.not_false, ne_eq]; omega)) ?_
      | refine o_pass rfl ?_
      | refine o_passN rfl ?_
      | refine o_pickY rfl rfl (by first | rfl | assumption | (simp only [decide_eq_true_eq, decide_eq_false_iff_not, beq_iff_eq, bne_iff_ne, beq_eq_false_iff_ne, bne_eq_false_iff_eq, Bool.not_eq_true', Bool.not_eq_false', Bool.not_true, Bool.not_false, ne_eq]; done) | (simp only [decide_eq_true_eq, decide_eq_false_iff_not, beq_iff_eq, bne_iff_ne, beq_eq_false_iff_ne, bne_eq_false_iff_eq, Bool.not_eq_true', Bool.not_eq_false', Bool.not_true, Bool.not_false, ne_eq]; omega)) rfl ?_
      | refine o_pickN rfl rfl (by first | rfl | assumption | (simp only [decide_eq_true_eq, decide_eq_false_iff_not, beq_iff_eq, bne_iff_ne, beq_eq_false_iff_ne, bne_eq_false_iff_eq, Bool.not_eq_true', Bool.not_eq_false', Bool.not_true, Bool.not_false, ne_eq]; done) | (simp only [decide_eq_true_eq, decide_eq_false_iff_not, beq_iff_eq, bne_iff_ne, beq_eq_false_iff_ne, bne_eq_false_iff_eq, Bool.not_eq_true', Bool.not_eq_false', Bool.not_true, Bool.not_false, ne_eq]; omega)) rfl ?_
      | refine o_add rfl rfl rfl (by first | exact wrap64' (by omega) | exact wrapU64 (by omega) | exact wrapU32 (by omega) | exact wrapU8 (by omega)) ?_
      | refine o_sub rfl rfl rfl (by first | exact wrap64' (by omega) | exact wrapU64 (by omega) | exact wrapU32 (by omega) | exact wrapU8 (by omega)) ?_
      | refine o_mul rfl rfl rfl (by first | exact wrap64' (by omega) | exact wrapU64 (by omega) | exact wrapU32 (by omega) | exact wrapU8 (by omega)) ?_
      | refine o_quo rfl rfl rfl (by omega) (by omega) (by first | exact wrap64' (by omega) | exact wrapU64 (by omega) | exact wrapU32 (by omega) | exact wrapU8 (by omega)) ?_
      | refine o_rem rfl rfl rfl (by omega) (by omega) ?_
      | refine o_conv rfl rfl (by first | exact wrap64' (by omega) | exact wrapU64 (by omega) | exact wrapU32 (by omega) | exact wrapU8 (by omega)) ?_
      | refine o_load1R rfl rfl (by assumption) rfl rfl ?_
      | refine o_loadNR rfl rfl (by assumption) rfl (by first | exact Nat.le_of_ble_eq_true rfl | (simp; done) | omega) rfl ?_
      | refine o_storeR rfl rfl rfl rfl rfl (by assumption) (by first | exact Nat.le_of_ble_eq_true rfl | (simp; done) | omega) ?_
      | refine o_any rfl rfl ?_
      | refine o_anyN rfl rfl ?_
      | refine o_nil ?_
      | refine t_mv rfl rfl ?_
      | refine t_gdY rfl (by first | rfl | assumption | (simp only [decide_eq_true_eq, decide_eq_false_iff_not, beq_iff_eq, bne_iff_ne, beq_eq_false_iff_ne, bne_eq_false_iff_eq, Bool.not_eq_true', Bool.not_eq_false', Bool.not_true, Bool.not_false, ne_eq]; done) | (simp only [decide_eq_true_eq, decide_eq_false_iff_not, beq_iff_eq, bne_iff_ne, beq_eq_false_iff_ne, bne_eq_false_iff_eq, Bool.not_eq_true', Bool.not_eq_false', Bool.not_true, Bool.not_false, ne_eq]; omega)) ?_
      | refine t_gdN rfl (by first | rfl | assumption | (simp only [decide_eq_true_eq, decide_eq_false_iff_not, beq_iff_eq, bne_iff_ne, beq_eq_false_iff_ne, bne_eq_false_iff_eq, Bool.not_eq_true', Bool.not_eq_false', Bool.not_true, Bool.not_false, ne_eq]; done) | (simp only [decide_eq_true_eq, decide_eq_false_iff_not, beq_iff_eq, bne_iff_ne, beq_eq_false_iff_ne, bne_eq_false_iff_eq, Bool.not_eq_true', Bool.not_eq_false', Bool.not_true, Bool.not_false, ne_eq]; omega)) ?_
      | refine t_pass rfl ?_
      | refine t_pickY rfl rfl (by first | rfl | assumption | (simp only [decide_eq_true_eq, decide_eq_false_iff_not, beq_iff_eq, bne_iff_ne, beq_eq_false_iff_ne, bne_eq_false_iff_eq, Bool.not_eq_true', Bool.not_eq_false', Bool.not_true, Bool.not_false, ne_eq]; done) | (simp only [decide_eq_true_eq, decide_eq_false_iff_not, beq_iff_eq, bne_iff_ne, beq_eq_false_iff_ne, bne_eq_false_iff_eq, Bool.not_eq_true', Bool.not_eq_false', Bool.not_true, Bool.not_false, ne_eq]; omega)) rfl ?_
      | refine t_pickN rfl rfl (by first | rfl | assumption | (simp only [decide_eq_true_eq, decide_eq_false_iff_not, beq_iff_eq, bne_iff_ne, beq_eq_false_iff_ne, bne_eq_false_iff_eq, Bool.not_eq_true', Bool.not_eq_false', Bool.not_true, Bool.not_false, ne_eq]; done) | (simp only [decide_eq_true_eq, decide_eq_false_iff_not, beq_iff_eq, bne_iff_ne, beq_eq_false_iff_ne, bne_eq_false_iff_eq, Bool.not_eq_true', Bool.not_eq_false', Bool.not_true, Bool.not_false, ne_eq]; omega)) rfl ?_
      | refine t_add rfl rfl rfl (by first | exact wrap64' (by omega) | exact wrapU64 (by omega) | exact wrapU32 (by omega) | exact wrapU8 (by omega)) ?_
      | refine t_sub rfl rfl rfl (by first | exact wrap64' (by omega) | exact wrapU64 (by omega) | exact wrapU32 (by omega) | exact wrapU8 (by omega)) ?_
      | refine t_mul rfl rfl rfl (by first | exact wrap64' (by omega) | exact wrapU64 (by omega) | exact wrapU32 (by omega) | exact wrapU8 (by omega)) ?_
      | refine t_quo rfl rfl rfl (by omega) (by omega) (by first | exact wrap64' (by omega) | exact wrapU64 (by omega) | exact wrapU32 (by omega) | exact wrapU8 (by omega)) ?_
      | refine t_rem rfl rfl rfl (by omega) (by omega) ?_
      | refine t_conv rfl rfl (by first | exact wrap64' (by omega) | exact wrapU64 (by omega) | exact wrapU32 (by omega) | exact wrapU8 (by omega)) ?_
      | refine t_load1R rfl rfl (by assumption) rfl rfl ?_
      | refine t_loadNR rfl rfl (by assumption) rfl (by first | exact Nat.le_of_ble_eq_true rfl | (simp; done) | omega) rfl ?_
      | refine t_any rfl rfl ?_
      | refine t_anyN rfl rfl ?_
      | (refine t_nil ⟨?_, ?_⟩; focus (repeat (first | exact trivial | rfl | refine And.intro ?_ ?_)))
      | refine w_opsS ?_
      | refine w_ops ?_
      | refine w_condY rfl (by first | rfl | assumption | (simp only [decide_eq_true_eq, decide_eq_false_iff_not, beq_iff_eq, bne_iff_ne, beq_eq_false_iff_ne, bne_eq_false_iff_eq, Bool.not_eq_true', Bool.not_eq_false', Bool.not_true, Bool.not_false, ne_eq]; done) | (simp only [decide_eq_true_eq, decide_eq_false_iff_not, beq_iff_eq, bne_iff_ne, beq_eq_false_iff_ne, bne_eq_false_iff_eq, Bool.not_eq_true', Bool.not_eq_false', Bool.not_true, Bool.not_false, ne_eq]; omega)) ?_
      | refine w_condN rfl (by first | rfl | assumption | (simp only [decide_eq_true_eq, decide_eq_false_iff_not, beq_iff_eq, bne_iff_ne, beq_eq_false_iff_ne, bne_eq_false_iff_eq, Bool.not_eq_true', Bool.not_eq_false', Bool.not_true, Bool.not_false, ne_eq]; done) | (simp only [decide_eq_true_eq, decide_eq_false_iff_not, beq_iff_eq, bne_iff_ne, beq_eq_false_iff_ne, bne_eq_false_iff_eq, Bool.not_eq_true', Bool.not_eq_false', Bool.not_true, Bool.not_false, ne_eq]; omega)) ?_
      | refine w_seq ?_
      | refine w_opsX ?_
      | refine w_block ?_
      | refine w_exit ?_
      | refine w_ret ?_
      | refine w_skip ?_)
    refine o_ixA rfl rfl rfl ⟨by omega, by omega⟩ ?_
    refine o_load1R rfl rfl hg rfl (v := .int .i64 ((1 : Nat) : Int)) (by simpa using hcg) ?_
    repeat (first
      | refine o_mv rfl rfl ?_
      | refine o_lenV rfl rfl ?_
      | refine o_gdY rfl (by first | rfl | assumption | (simp only [decide_eq_true_eq, decide_eq_false_iff_not, beq_iff_eq, bne_iff_ne, beq_eq_false_iff_ne, bne_eq_false_iff_eq, Bool.not_eq_true', Bool.not_eq_false', Bool.not_true, Bool.not_false, ne_eq]; done) | (simp only [decide_eq_true_eq, decide_eq_false_iff_not, beq_iff_eq, bne_iff_ne, beq_eq_false_iff_ne, bne_eq_false_iff_eq, Bool.not_eq_true', Bool.not_eq_false', Bool.not_true, Bool.not_false, ne_eq]; omega)) ?_
      | refine o_gdN rfl (by first | rfl | assumption | (simp only [decide_eq_true_eq, decide_eq_false_iff_not, beq_iff_eq, bne_iff_ne, beq_eq_false_iff_ne, bne_eq_false_iff_eq, Bool.not_eq_true', Bool.not_eq_false', Bool.not_true, Bool.not_false, ne_eq]; done) | (simp only [decide_eq_true_eq, decide_eq_false_iff_not, beq_iff_eq, bne_iff_ne, beq_eq_false_iff_ne, bne_eq_false_iff_eq, Bool.not_eq_true', Bool.not_eq_false', Bool.not_true, Bool.not_false, ne_eq]; omega)) ?_
      | refine o_pass rfl ?_
      | refine o_passN rfl ?_
      | refine o_pickY rfl rfl (by first | rfl | assumption | (simp only [decide_eq_true_eq, decide_eq_false_iff_not, beq_iff_eq, bne_iff_ne, beq_eq_false_iff_ne, bne_eq_false_iff_eq, Bool.not_eq_true', Bool.not_eq_false', Bool.not_true, Bool.not_false, ne_eq]; done) | (simp only [decide_eq_true_eq, decide_eq_false_iff_not, beq_iff_eq, bne_iff_ne, beq_eq_false_iff_ne, bne_eq_false_iff_eq, Bool.not_eq_true', Bool.not_eq_false', Bool.not_true, Bool.not_false, ne_eq]; omega)) rfl ?_
      | refine o_pickN rfl rfl (by first | rfl | assumption | (simp only [decide_eq_true_eq, decide_eq_false_iff_not, beq_iff_eq, bne_iff_ne, beq_eq_false_iff_ne, bne_eq_false_iff_eq, Bool.not_eq_true', Bool.not_eq_false', Bool.not_true, Bool.not_false, ne_eq]; done) | (simp only [decide_eq_true_eq, decide_eq_false_iff_not, beq_iff_eq, bne_iff_ne, beq_eq_false_iff_ne, bne_eq_false_iff_eq, Bool.not_eq_true', Bool.not_eq_false', Bool.not_true, Bool.not_false, ne_eq]; omega)) rfl ?_
      | refine o_add rfl rfl rfl (by first | exact wrap64' (by omega) | exact wrapU64 (by omega) | exact wrapU32 (by omega) | exact wrapU8 (by omega)) ?_
      | refine o_sub rfl rfl rfl (by first | exact wrap64' (by omega) | exact wrapU64 (by omega) | exact wrapU32 (by omega) | exact wrapU8 (by omega)) ?_
      | refine o_mul rfl rfl rfl (by first | exact wrap64' (by omega) | exact wrapU64 (by omega) | exact wrapU32 (by omega) | exact wrapU8 (by omega)) ?_
      | refine o_quo rfl rfl rfl (by omega) (by omega) (by first | exact wrap64' (by omega) | exact wrapU64 (by omega) | exact wrapU32 (by omega) | exact wrapU8 (by omega)) ?_
      | refine o_rem rfl rfl rfl (by omega) (by omega) ?_
      | refine o_conv rfl rfl (by first | exact wrap64' (by omega) | exact wrapU64 (by omega) | exact wrapU32 (by omega) | exact wrapU8 (by omega)) ?_
      | refine o_load1R rfl rfl (by assumption) rfl rfl ?_
      | refine o_loadNR rfl rfl (by assumption) rfl (by first | exact Nat.le_of_ble_eq_true rfl | (simp; done) | omega) rfl ?_
      | refine o_storeR rfl rfl rfl rfl rfl (by assumption) (by first | exact Nat.le_of_ble_eq_true rfl | (simp; done) | omega) ?_
      | refine o_any rfl rfl ?_
      | refine o_anyN rfl rfl ?_
      | refine o_nil ?_
      | refine t_mv rfl rfl ?_
      | refine t_gdY rfl (by first | rfl | assumption | (simp only [decide_eq_true_eq, decide_eq_false_iff_not, beq_iff_eq, bne_iff_ne, beq_eq_false_iff_ne, bne_eq_false_iff_eq, Bool.not_eq_true', Bool.not_eq_false', Bool.not_true, Bool.not_false, ne_eq]; done) | (simp only [decide_eq_true_eq, decide_eq_false_iff_not, beq_iff_eq, bne_iff_ne, beq_eq_false_iff_ne, bne_eq_false_iff_eq, Bool.not_eq_true', Bool.not_eq_false', Bool.not_true, Bool.not_false, ne_eq]; omega)) ?_
      | refine t_gdN rfl (by first | rfl | assumption | (simp only [decide_eq_true_eq, decide_eq_false_iff_not, beq_iff_eq, bne_iff_ne, beq_eq_false_iff_ne, bne_eq_false_iff_eq, Bool.not_eq_true', Bool.not_eq_false', Bool.not_true, Bool.not_false, ne_eq]; done) | (simp only [decide_eq_true_eq, decide_eq_false_iff_not, beq_iff_eq, bne_iff_ne, beq_eq_false_iff_ne, bne_eq_false_iff_eq, Bool.not_eq_true', Bool.not_eq_false', Bool.not_true, Bool.not_false, ne_eq]; omega)) ?_
      | refine t_pass rfl ?_
      | refine t_pickY rfl rfl (by first | rfl | assumption | (simp only [decide_eq_true_eq, decide_eq_false_iff_not, beq_iff_eq, bne_iff_ne, beq_eq_false_iff_ne, bne_eq_false_iff_eq, Bool.not_eq_true', Bool.not_eq_false', Bool.not_true, Bool.not_false, ne_eq]; done) | (simp only [decide_eq_true_eq, decide_eq_false_iff_not, beq_iff_eq, bne_iff_ne, beq_eq_false_iff_ne, bne_eq_false_iff_eq, Bool.not_eq_true', Bool.not_eq_false', Bool.not_true, Bool.not_false, ne_eq]; omega)) rfl ?_
      | refine t_pickN rfl rfl (by first | rfl | assumption | (simp only [decide_eq_true_eq, decide_eq_false_iff_not, beq_iff_eq, bne_iff_ne, beq_eq_false_iff_ne, bne_eq_false_iff_eq, Bool.not_eq_true', Bool.not_eq_false', Bool.not_true, Bool.not_false, ne_eq]; done) | (simp only [decide_eq_true_eq, decide_eq_false_iff_not, beq_iff_eq, bne_iff_ne, beq_eq_false_iff_ne, bne_eq_false_iff_eq, Bool.not_eq_true', Bool.not_eq_false', Bool.not_true, Bool.not_false, ne_eq]; omega)) rfl ?_
      | refine t_add rfl rfl rfl (by first | exact wrap64' (by omega) | exact wrapU64 (by omega) | exact wrapU32 (by omega) | exact wrapU8 (by omega)) ?_
      | refine t_sub rfl rfl rfl (by first | exact wrap64' (by omega) | exact wrapU64 (by omega) | exact wrapU32 (by omega) | exact wrapU8 (by omega)) ?_
      | refine t_mul rfl rfl rfl (by first | exact wrap64' (by omega) | exact wrapU64 (by omega) | exact wrapU32 (by omega) | exact wrapU8 (by omega)) ?_
      | refine t_quo rfl rfl rfl (by omega) (by omega) (by first | exact wrap64' (by omega) | exact wrapU64 (by omega) | exact wrapU32 (by omega) | exact wrapU8 (by omega)) ?_
      | refine t_rem rfl rfl rfl (by omega) (by omega) ?_
      | refine t_conv rfl rfl (by first | exact wrap64' (by omega) | exact wrapU64 (by omega) | exact wrapU32 (by omega) | exact wrapU8 (by omega)) ?_
      | refine t_load1R rfl rfl (by assumption) rfl rfl ?_
      | refine t_loadNR rfl rfl (by assumption) rfl (by first | exact Nat.le_of_ble_eq_true rfl | (simp; done) | omega) rfl ?_
      | refine t_any rfl rfl ?_
      | refine t_anyN rfl rfl ?_
      | (refine t_nil ⟨?_, ?_⟩; focus (repeat (first | exact trivial | rfl | refine And.intro ?_ ?_)))
      | refine w_opsS ?_
      | refine w_ops ?_
      | refine w_condY rfl (by first | rfl | assumption | (simp only [decide_eq_true_eq, decide_eq_false_iff_not, beq_iff_eq, bne_iff_ne, beq_eq_false_iff_ne, bne_eq_false_iff_eq, Bool.not_eq_true', Bool.not_eq_false', Bool.not_true, Bool.not_false, ne_eq]; done) | (simp only [decide_eq_true_eq, decide_eq_false_iff_not, beq_iff_eq, bne_iff_ne, beq_eq_false_iff_ne, bne_eq_false_iff_eq, Bool.not_eq_true', Bool.not_eq_false', Bool.not_true, Bool.not_false, ne_eq]; omega)) ?_
      | refine w_condN rfl (by first | rfl | assumption | (simp only [decide_eq_true_eq, decide_eq_false_iff_not, beq_iff_eq, bne_iff_ne, beq_eq_false_iff_ne, bne_eq_false_iff_eq, Bool.not_eq_true', Bool.not_eq_false', Bool.not_true, Bool.not_false, ne_eq]; done) | (simp only [decide_eq_true_eq, decide_eq_false_iff_not, beq_iff_eq, bne_iff_ne, beq_eq_false_iff_ne, bne_eq_false_iff_eq, Bool.not_eq_true', Bool.not_eq_false', Bool.not_true, Bool.not_false, ne_eq]; omega)) ?_
      | refine w_seq ?_
      | refine w_opsX ?_
      | refine w_block ?_
      | refine w_exit ?_
      | refine w_ret ?_
      | refine w_skip ?_)
    refine rnd_again rfl ?_
    exact whole3 m s hm L hL h hg Q hQ d (i + 1) (by omega)
end
end Go.Proofs.Ytboioafflppnfaa
