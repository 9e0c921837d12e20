/- Which tickets may be; nobody's table. Conditions: none. -/
import Derived.Test.YtfbhmogjnjejmaaB2
namespace Go.Proofs.Ytfbhmogjnjejmaa
open Go.Cm Go.RowKit
set_option linter.unusedVariables false
set_option linter.unusedSimpArgs false
set_option maxRecDepth 100000
set_option maxHeartbeats 10000000

def ticketN (id k b m j n c : Int) : Int := if checkN k b m j n ≠ 0 then checkN k b m j n else if id < 0 ∨ id > 4294967295 ∨ c < 1 ∨ c > 64 then 1 else 0
def ticketV (id k b m j n c : Int) : Value := .agg #[.int .i64 id, .int .i64 k, .int .i64 b, .int .i64 m, .int .i64 j, .int .i64 n, .int .i64 c]

theorem serveCheckC (id k b m j n c : Int) (h : Heap) : Cl MM F_serve_Check [ticketV id k b m j n c] h fun v h' => v = .int .i64 (ticketN id k b m j n c) ∧ h' = h := by
  refine Cl.pure MMp rfl ?_ h
  refine w_call (F := M_serve_Check) (by rw [MMf]; rfl) rfl ?_
  have hc := shapeCheckC MMp MMf k b m j n
  generalize hN : checkN k b m j n = N at hc
  repeat' (first
    | refine o_mv rfl rfl ?_
    | refine o_lenV rfl rfl ?_
    | refine o_gdY rfl (by first | rfl | assumption) ?_
    | refine o_gdN rfl (by first | rfl | assumption) ?_
    | (refine o_gd rfl ?_ ?_ <;> intro)
    | refine o_pass rfl ?_
    | refine o_passN rfl ?_
    | refine o_pickY rfl rfl (by first | rfl | assumption) rfl ?_
    | refine o_pickN rfl rfl (by first | rfl | assumption) rfl ?_
    | (refine o_call rfl rfl (hc _) ?_; rintro v h' ⟨rfl, rfl⟩)
    | refine o_any rfl rfl ?_
    | refine o_anyN rfl rfl ?_
    | refine o_nil ?_
    | refine t_mv rfl rfl ?_
    | refine t_gdY rfl (by first | rfl | assumption) ?_
    | refine t_gdN rfl (by first | rfl | assumption) ?_
    | (refine t_gd rfl ?_ ?_ <;> intro)
    | refine t_pass rfl ?_
    | refine t_pickY rfl rfl (by first | rfl | assumption) rfl ?_
    | refine t_pickN rfl rfl (by first | rfl | assumption) rfl ?_
    | (refine t_call rfl rfl (hc _) ?_; rintro v h' ⟨rfl, rfl⟩)
    | refine t_any rfl rfl ?_
    | refine t_anyN rfl rfl ?_
    | (refine t_nil ⟨?_, ?_⟩; focus (repeat' (first | exact trivial | rfl | refine And.intro ?_ ?_)))
    | refine w_opsS ?_
    | refine w_ops ?_
    | refine w_condY rfl (by first | rfl | assumption) ?_
    | refine w_condN rfl (by first | rfl | assumption) ?_
    | (refine w_cond rfl ?_ ?_ <;> intro)
    | refine w_seq ?_
    | refine w_opsX ?_
    | refine w_block ?_
    | refine w_exit ?_
    | refine w_ret ?_
    | refine w_skip ?_)
  all_goals refine ⟨.inr rfl, _, rfl, rfl, ?_⟩
  all_goals simp only [decide_eq_true_eq, decide_eq_false_iff_not, beq_iff_eq, Bool.not_true, Bool.not_false, bne_iff_ne, beq_eq_false_iff_ne, Bool.not_eq_false', Bool.not_eq_true', bne_eq_false_iff_eq, ne_eq] at *
  all_goals unfold ticketN
  all_goals congr 1
  all_goals rw [hN]
  all_goals split <;> omega
theorem ref33CheckC (id k b m j n c : Int) (h : Heap) : Cl MM F_ref33_Check [ticketV id k b m j n c] h fun v h' => v = .int .i64 (ticketN id k b m j n c) ∧ h' = h := by
  refine Cl.pure MMp rfl ?_ h
  refine w_call (F := M_ref33_Check) (by rw [MMf]; rfl) rfl ?_
  have hc := ref09CheckC MMp MMf k b m j n
  generalize hN : checkN k b m j n = N at hc
  repeat' (first
    | refine o_mv rfl rfl ?_
    | refine o_lenV rfl rfl ?_
    | refine o_gdY rfl (by first | rfl | assumption) ?_
    | refine o_gdN rfl (by first | rfl | assumption) ?_
    | (refine o_gd rfl ?_ ?_ <;> intro)
    | refine o_pass rfl ?_
    | refine o_passN rfl ?_
    | refine o_pickY rfl rfl (by first | rfl | assumption) rfl ?_
    | refine o_pickN rfl rfl (by first | rfl | assumption) rfl ?_
    | (refine o_call rfl rfl (hc _) ?_; rintro v h' ⟨rfl, rfl⟩)
    | refine o_any rfl rfl ?_
    | refine o_anyN rfl rfl ?_
    | refine o_nil ?_
    | refine t_mv rfl rfl ?_
    | refine t_gdY rfl (by first | rfl | assumption) ?_
    | refine t_gdN rfl (by first | rfl | assumption) ?_
    | (refine t_gd rfl ?_ ?_ <;> intro)
    | refine t_pass rfl ?_
    | refine t_pickY rfl rfl (by first | rfl | assumption) rfl ?_
    | refine t_pickN rfl rfl (by first | rfl | assumption) rfl ?_
    | (refine t_call rfl rfl (hc _) ?_; rintro v h' ⟨rfl, rfl⟩)
    | refine t_any rfl rfl ?_
    | refine t_anyN rfl rfl ?_
    | (refine t_nil ⟨?_, ?_⟩; focus (repeat' (first | exact trivial | rfl | refine And.intro ?_ ?_)))
    | refine w_opsS ?_
    | refine w_ops ?_
    | refine w_condY rfl (by first | rfl | assumption) ?_
    | refine w_condN rfl (by first | rfl | assumption) ?_
    | (refine w_cond rfl ?_ ?_ <;> intro)
    | refine w_seq ?_
    | refine w_opsX ?_
    | refine w_block ?_
    | refine w_exit ?_
    | refine w_ret ?_
    | refine w_skip ?_)
  all_goals refine ⟨.inr rfl, _, rfl, rfl, ?_⟩
  all_goals simp only [decide_eq_true_eq, decide_eq_false_iff_not, beq_iff_eq, Bool.not_true, Bool.not_false, bne_iff_ne, beq_eq_false_iff_ne, Bool.not_eq_false', Bool.not_eq_true', bne_eq_false_iff_eq, ne_eq] at *
  all_goals unfold ticketN
  all_goals congr 1
  all_goals rw [hN]
  all_goals split <;> omega
theorem serveChecksC (id k b m j n c : Int) (h : Heap) : Cl MM F_law33_ServeChecks [ticketV id k b m j n c] h fun v h' => v = .bool true ∧ h' = h := by
  refine Cl.pure MMp rfl ?_ h
  refine w_call (F := M_law33_ServeChecks) (by rw [MMf]; rfl) rfl ?_
  have h1 := serveCheckC id k b m j n c
  have h2 := ref33CheckC id k b m j n c
  generalize ticketN id k b m j n c = N at h1 h2
  have h3 := awakeC
  unfold ticketV at h1 h2 ⊢
  repeat' (first
    | refine o_mv rfl rfl ?_
    | refine o_lenV rfl rfl ?_
    | refine o_gdY rfl (by first | rfl | assumption) ?_
    | refine o_gdN rfl (by first | rfl | assumption) ?_
    | (refine o_gd rfl ?_ ?_ <;> intro)
    | refine o_pass rfl ?_
    | refine o_passN rfl ?_
    | refine o_pickY rfl rfl (by first | rfl | assumption) rfl ?_
    | refine o_pickN rfl rfl (by first | rfl | assumption) rfl ?_
    | (refine o_call rfl rfl (h1 _) ?_; rintro v h' ⟨rfl, rfl⟩)
    | (refine o_call rfl rfl (h2 _) ?_; rintro v h' ⟨rfl, rfl⟩)
    | (refine o_call rfl rfl (h3 _) ?_; rintro v h' ⟨rfl, rfl⟩)
    | refine o_any rfl rfl ?_
    | refine o_anyN rfl rfl ?_
    | refine o_nil ?_
    | refine t_mv rfl rfl ?_
    | refine t_gdY rfl (by first | rfl | assumption) ?_
    | refine t_gdN rfl (by first | rfl | assumption) ?_
    | (refine t_gd rfl ?_ ?_ <;> intro)
    | refine t_pass rfl ?_
    | refine t_pickY rfl rfl (by first | rfl | assumption) rfl ?_
    | refine t_pickN rfl rfl (by first | rfl | assumption) rfl ?_
    | (refine t_call rfl rfl (h1 _) ?_; rintro v h' ⟨rfl, rfl⟩)
    | (refine t_call rfl rfl (h2 _) ?_; rintro v h' ⟨rfl, rfl⟩)
    | (refine t_call rfl rfl (h3 _) ?_; rintro v h' ⟨rfl, rfl⟩)
    | refine t_any rfl rfl ?_
    | refine t_anyN rfl rfl ?_
    | (refine t_nil ⟨?_, ?_⟩; focus (repeat' (first | exact trivial | rfl | refine And.intro ?_ ?_)))
    | refine w_opsS ?_
    | refine w_ops ?_
    | refine w_condY rfl (by first | rfl | assumption) ?_
    | refine w_condN rfl (by first | rfl | assumption) ?_
    | (refine w_cond rfl ?_ ?_ <;> intro)
    | refine w_seq ?_
    | refine w_opsX ?_
    | refine w_block ?_
    | refine w_exit ?_
    | refine w_ret ?_
    | refine w_skip ?_)
  all_goals first | exact ⟨.inr rfl, _, rfl, rfl, rfl⟩ | (rename_i hb; simp at hb)
set_option maxRecDepth 100000 in
theorem nobody_run (a b c d e f g i j k l m : Int) : (evalX (lookF tab) orc 200 F_law33_ServeNobody [.agg #[.int .i64 a, .int .i64 b, .int .i64 c, .int .i64 d, .int .i64 e, .int .i64 f, .int .i64 g, .int .i64 i, .int .i64 j, .int .i64 k, .int .i64 l, .int .i64 m]] ⟨0, []⟩).map (·.1) = some (.bool true) := by kernel_rfl
end Go.Proofs.Ytfbhmogjnjejmaa
