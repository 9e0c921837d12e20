/- Which classes may be: the program's answer and the reference's. Conditions: none. -/
import Derived.Test.YtfbhmogjnjejmaaM
import Derived.Test.YtfbhmogjnjejmaaCm28
namespace Go.Proofs.Ytfbhmogjnjejmaa
open Go.Cm
set_option linter.unusedVariables false
set_option linter.unusedSimpArgs false
set_option maxRecDepth 100000
set_option maxHeartbeats 10000000

section
variable {M : Prg} (hp : PureClosed M) (hf : M.fn = lookF tab)
include hp hf

theorem sideC (n : Int) (h : Heap) : Cl M F_shape_side [.int .i64 n] h fun v h' => v = .bool (decide (1 ≤ n ∧ n ≤ 6)) ∧ h' = h := by
  refine Cl.pure hp rfl ?_ h
  refine w_call (F := M_shape_side) (by rw [hf]; rfl) rfl ?_
  repeat' (first
    | refine o_mv rfl rfl ?_
    | refine o_lenV rfl rfl ?_
    | refine o_gdY rfl (by first | rfl | assumption) ?_
    | refine o_gdN rfl (by first | rfl | assumption) ?_
    | (refine o_gd rfl ?_ ?_ <;> intro)
    | refine o_pass rfl ?_
    | refine o_passN rfl ?_
    | refine o_pickY rfl rfl (by first | rfl | assumption) rfl ?_
    | refine o_pickN rfl rfl (by first | rfl | assumption) rfl ?_
    | refine o_any rfl rfl ?_
    | refine o_anyN rfl rfl ?_
    | refine o_nil ?_
    | refine t_mv rfl rfl ?_
    | refine t_gdY rfl (by first | rfl | assumption) ?_
    | refine t_gdN rfl (by first | rfl | assumption) ?_
    | (refine t_gd rfl ?_ ?_ <;> intro)
    | refine t_pass rfl ?_
    | refine t_pickY rfl rfl (by first | rfl | assumption) rfl ?_
    | refine t_pickN rfl rfl (by first | rfl | assumption) rfl ?_
    | refine t_any rfl rfl ?_
    | refine t_anyN rfl rfl ?_
    | (refine t_nil ⟨?_, ?_⟩; focus (repeat' (first | exact trivial | rfl | refine And.intro ?_ ?_)))
    | refine w_opsS ?_
    | refine w_ops ?_
    | refine w_condY rfl (by first | rfl | assumption) ?_
    | refine w_condN rfl (by first | rfl | assumption) ?_
    | (refine w_cond rfl ?_ ?_ <;> intro)
    | refine w_seq ?_
    | refine w_opsX ?_
    | refine w_block ?_
    | refine w_exit ?_
    | refine w_ret ?_
    | refine w_skip ?_)
  all_goals refine ⟨.inr rfl, _, rfl, rfl, ?_⟩
  all_goals simp at *
  all_goals omega
theorem inC (n m : Int) (h : Heap) : Cl M F_ref09_in [.int .i64 n, .int .i64 m] h fun v h' => v = .bool (decide (1 ≤ n ∧ n ≤ m)) ∧ h' = h := by
  refine Cl.pure hp rfl ?_ h
  refine w_call (F := M_ref09_in) (by rw [hf]; rfl) rfl ?_
  repeat' (first
    | refine o_mv rfl rfl ?_
    | refine o_lenV rfl rfl ?_
    | refine o_gdY rfl (by first | rfl | assumption) ?_
    | refine o_gdN rfl (by first | rfl | assumption) ?_
    | (refine o_gd rfl ?_ ?_ <;> intro)
    | refine o_pass rfl ?_
    | refine o_passN rfl ?_
    | refine o_pickY rfl rfl (by first | rfl | assumption) rfl ?_
    | refine o_pickN rfl rfl (by first | rfl | assumption) rfl ?_
    | refine o_any rfl rfl ?_
    | refine o_anyN rfl rfl ?_
    | refine o_nil ?_
    | refine t_mv rfl rfl ?_
    | refine t_gdY rfl (by first | rfl | assumption) ?_
    | refine t_gdN rfl (by first | rfl | assumption) ?_
    | (refine t_gd rfl ?_ ?_ <;> intro)
    | refine t_pass rfl ?_
    | refine t_pickY rfl rfl (by first | rfl | assumption) rfl ?_
    | refine t_pickN rfl rfl (by first | rfl | assumption) rfl ?_
    | refine t_any rfl rfl ?_
    | refine t_anyN rfl rfl ?_
    | (refine t_nil ⟨?_, ?_⟩; focus (repeat' (first | exact trivial | rfl | refine And.intro ?_ ?_)))
    | refine w_opsS ?_
    | refine w_ops ?_
    | refine w_condY rfl (by first | rfl | assumption) ?_
    | refine w_condN rfl (by first | rfl | assumption) ?_
    | (refine w_cond rfl ?_ ?_ <;> intro)
    | refine w_seq ?_
    | refine w_opsX ?_
    | refine w_block ?_
    | refine w_exit ?_
    | refine w_ret ?_
    | refine w_skip ?_)
  all_goals refine ⟨.inr rfl, _, rfl, rfl, ?_⟩
  all_goals simp at *
  all_goals omega

def checkN (k b m j n : Int) : Int := if k = 2 then (if (1 ≤ m ∧ m ≤ 6) ∧ (1 ≤ j ∧ j ≤ 6) ∧ (1 ≤ n ∧ n ≤ 6) ∧ 1 ≤ b ∧ b ≤ 64 then 0 else 11)
  else if k = 1 ∨ k = 4 then (if m = 0 ∧ j = 0 ∧ n = 0 ∧ 1 ≤ b ∧ b ≤ 64 then 0 else 11)
  else if k = 3 then (if m = 0 ∧ j = 0 ∧ n = 0 ∧ b = 1 then 0 else 11) else 15

theorem shapeCheckC (k b m j n : Int) (h : Heap) : Cl M F_shape_Check [.agg #[.int .i64 k, .int .i64 b, .int .i64 m, .int .i64 j, .int .i64 n]] h fun v h' => v = .int .i64 (checkN k b m j n) ∧ h' = h := by
  refine Cl.pure hp rfl ?_ h
  refine w_call (F := M_shape_Check) (by rw [hf]; rfl) rfl ?_
  repeat' (first
    | refine o_mv rfl rfl ?_
    | refine o_lenV rfl rfl ?_
    | refine o_gdY rfl (by first | rfl | assumption) ?_
    | refine o_gdN rfl (by first | rfl | assumption) ?_
    | (refine o_gd rfl ?_ ?_ <;> intro)
    | refine o_pass rfl ?_
    | refine o_passN rfl ?_
    | refine o_pickY rfl rfl (by first | rfl | assumption) rfl ?_
    | refine o_pickN rfl rfl (by first | rfl | assumption) rfl ?_
    | (refine o_call rfl rfl (sideC hp hf _ _) ?_; rintro v h' ⟨rfl, rfl⟩)
    | refine o_any rfl rfl ?_
    | refine o_anyN rfl rfl ?_
    | refine o_nil ?_
    | refine t_mv rfl rfl ?_
    | refine t_gdY rfl (by first | rfl | assumption) ?_
    | refine t_gdN rfl (by first | rfl | assumption) ?_
    | (refine t_gd rfl ?_ ?_ <;> intro)
    | refine t_pass rfl ?_
    | refine t_pickY rfl rfl (by first | rfl | assumption) rfl ?_
    | refine t_pickN rfl rfl (by first | rfl | assumption) rfl ?_
    | (refine t_call rfl rfl (sideC hp hf _ _) ?_; rintro v h' ⟨rfl, rfl⟩)
    | refine t_any rfl rfl ?_
    | refine t_anyN rfl rfl ?_
    | (refine t_nil ⟨?_, ?_⟩; focus (repeat' (first | exact trivial | rfl | refine And.intro ?_ ?_)))
    | refine w_opsS ?_
    | refine w_ops ?_
    | refine w_condY rfl (by first | rfl | assumption) ?_
    | refine w_condN rfl (by first | rfl | assumption) ?_
    | (refine w_cond rfl ?_ ?_ <;> intro)
    | refine w_seq ?_
    | refine w_opsX ?_
    | refine w_block ?_
    | refine w_exit ?_
    | refine w_ret ?_
    | refine w_skip ?_)
  all_goals refine ⟨.inr rfl, _, rfl, rfl, ?_⟩
  all_goals simp only [decide_eq_true_eq, decide_eq_false_iff_not, beq_iff_eq, Bool.not_true, Bool.not_false, bne_iff_ne, beq_eq_false_iff_ne, Bool.not_eq_false', Bool.not_eq_true', bne_eq_false_iff_eq, ne_eq] at *
  all_goals unfold checkN
  all_goals congr 1
  all_goals omega
theorem ref09CheckC (k b m j n : Int) (h : Heap) : Cl M F_ref09_Check [.agg #[.int .i64 k, .int .i64 b, .int .i64 m, .int .i64 j, .int .i64 n]] h fun v h' => v = .int .i64 (checkN k b m j n) ∧ h' = h := by
  refine Cl.pure hp rfl ?_ h
  refine w_call (F := M_ref09_Check) (by rw [hf]; rfl) rfl ?_
  repeat' (first
    | refine o_mv rfl rfl ?_
    | refine o_lenV rfl rfl ?_
    | refine o_gdY rfl (by first | rfl | assumption) ?_
    | refine o_gdN rfl (by first | rfl | assumption) ?_
    | (refine o_gd rfl ?_ ?_ <;> intro)
    | refine o_pass rfl ?_
    | refine o_passN rfl ?_
    | refine o_pickY rfl rfl (by first | rfl | assumption) rfl ?_
    | refine o_pickN rfl rfl (by first | rfl | assumption) rfl ?_
    | (refine o_call rfl rfl (inC hp hf _ _ _) ?_; rintro v h' ⟨rfl, rfl⟩)
    | refine o_any rfl rfl ?_
    | refine o_anyN rfl rfl ?_
    | refine o_nil ?_
    | refine t_mv rfl rfl ?_
    | refine t_gdY rfl (by first | rfl | assumption) ?_
    | refine t_gdN rfl (by first | rfl | assumption) ?_
    | (refine t_gd rfl ?_ ?_ <;> intro)
    | refine t_pass rfl ?_
    | refine t_pickY rfl rfl (by first | rfl | assumption) rfl ?_
    | refine t_pickN rfl rfl (by first | rfl | assumption) rfl ?_
    | (refine t_call rfl rfl (inC hp hf _ _ _) ?_; rintro v h' ⟨rfl, rfl⟩)
    | refine t_any rfl rfl ?_
    | refine t_anyN rfl rfl ?_
    | (refine t_nil ⟨?_, ?_⟩; focus (repeat' (first | exact trivial | rfl | refine And.intro ?_ ?_)))
    | refine w_opsS ?_
    | refine w_ops ?_
    | refine w_condY rfl (by first | rfl | assumption) ?_
    | refine w_condN rfl (by first | rfl | assumption) ?_
    | (refine w_cond rfl ?_ ?_ <;> intro)
    | refine w_seq ?_
    | refine w_opsX ?_
    | refine w_block ?_
    | refine w_exit ?_
    | refine w_ret ?_
    | refine w_skip ?_)
  all_goals refine ⟨.inr rfl, _, rfl, rfl, ?_⟩
  all_goals simp only [decide_eq_true_eq, decide_eq_false_iff_not, beq_iff_eq, Bool.not_true, Bool.not_false, bne_iff_ne, beq_eq_false_iff_ne, Bool.not_eq_false', Bool.not_eq_true', bne_eq_false_iff_eq, ne_eq] at *
  all_goals unfold checkN
  all_goals congr 1
  all_goals omega
end
end Go.Proofs.Ytfbhmogjnjejmaa
