/- The stream of a seed, as the program makes it. Conditions: none. -/
import Derived.Test.YtboioafflppnfaaM
import Derived.Test.YtboioafflppnfaaCm29
namespace Go.Proofs.Ytboioafflppnfaa
open Go.Cm
set_option linter.unusedVariables false
set_option linter.unusedSimpArgs false
set_option maxRecDepth 100000
set_option maxHeartbeats 10000000

def keyL (k : Nat → Int) : List Value := [.int .u8 (k 0), .int .u8 (k 1), .int .u8 (k 2), .int .u8 (k 3), .int .u8 (k 4), .int .u8 (k 5), .int .u8 (k 6), .int .u8 (k 7), .int .u8 (k 8), .int .u8 (k 9), .int .u8 (k 10), .int .u8 (k 11), .int .u8 (k 12), .int .u8 (k 13), .int .u8 (k 14), .int .u8 (k 15),
  .int .u8 (k 16), .int .u8 (k 17), .int .u8 (k 18), .int .u8 (k 19), .int .u8 (k 20), .int .u8 (k 21), .int .u8 (k 22), .int .u8 (k 23), .int .u8 (k 24), .int .u8 (k 25), .int .u8 (k 26), .int .u8 (k 27), .int .u8 (k 28), .int .u8 (k 29), .int .u8 (k 30), .int .u8 (k 31)]
def nonce3 : ByteArray := ⟨#[3, 0, 0, 0, 0, 0, 0, 0, 0, 0, 0, 0]⟩

section
variable {M : Prg} (hp : PureClosed M) (hf : M.fn = lookF tab)
include hp hf

theorem streamC (k : Nat → Int) (c n : Int) (b : ByteArray) (hs : b.size = 64) (hb : ∀ h, Cl M F_chacha_Block [.agg (keyL k).toArray, .string nonce3, .int .u32 c] h fun v h' => v = .tuple #[.string b, .int .i64 0] ∧ h' = h)
    (hc : 0 ≤ c ∧ c < 4294967295) (hn : 0 < n ∧ n ≤ 64) (h : Heap) : Cl M F_chacha_Stream [.agg (keyL k).toArray, .string nonce3, .int .u32 c, .int .i64 n] h fun v h' => v = .tuple #[.string ⟨(b.data.toList.take n.toNat).toArray⟩, .int .i64 0] ∧ h' = h := by
  refine Cl.pure hp rfl ?_ h
  refine w_call (F := M_chacha_Stream) (by rw [hf]; rfl) rfl ?_
  repeat (first
    | refine o_mv rfl rfl ?_
    | refine o_lenV rfl rfl ?_
    | refine o_gdY rfl (by first | rfl | assumption | (simp only [decide_eq_true_eq, decide_eq_false_iff_not, beq_iff_eq, bne_iff_ne, beq_eq_false_iff_ne, bne_eq_false_iff_eq, Bool.not_eq_true', Bool.not_eq_false', Bool.not_true, Bool.not_false, ne_eq]; omega)) ?_
    | refine o_gdN rfl (by first | rfl | assumption | (simp only [decide_eq_true_eq, decide_eq_false_iff_not, beq_iff_eq, bne_iff_ne, beq_eq_false_iff_ne, bne_eq_false_iff_eq, Bool.not_eq_true', Bool.not_eq_false', Bool.not_true, Bool.not_false, ne_eq]; omega)) ?_
    | refine o_pass rfl ?_
    | refine o_passN rfl ?_
    | refine o_pickY rfl rfl (by first | rfl | assumption | (simp only [decide_eq_true_eq, decide_eq_false_iff_not, beq_iff_eq, bne_iff_ne, beq_eq_false_iff_ne, bne_eq_false_iff_eq, Bool.not_eq_true', Bool.not_eq_false', Bool.not_true, Bool.not_false, ne_eq]; omega)) rfl ?_
    | refine o_pickN rfl rfl (by first | rfl | assumption | (simp only [decide_eq_true_eq, decide_eq_false_iff_not, beq_iff_eq, bne_iff_ne, beq_eq_false_iff_ne, bne_eq_false_iff_eq, Bool.not_eq_true', Bool.not_eq_false', Bool.not_true, Bool.not_false, ne_eq]; omega)) rfl ?_
    | refine o_add rfl rfl rfl (by first | exact wrap64' (by omega) | exact wrapU64 (by omega) | exact wrapU32 (by omega) | exact wrapU8 (by omega)) ?_
    | refine o_sub rfl rfl rfl (by first | exact wrap64' (by omega) | exact wrapU64 (by omega) | exact wrapU32 (by omega) | exact wrapU8 (by omega)) ?_
    | refine o_mul rfl rfl rfl (by first | exact wrap64' (by omega) | exact wrapU64 (by omega) | exact wrapU32 (by omega) | exact wrapU8 (by omega)) ?_
    | refine o_quo rfl rfl rfl (by omega) (by omega) (by first | exact wrap64' (by omega) | exact wrapU64 (by omega) | exact wrapU32 (by omega) | exact wrapU8 (by omega)) ?_
    | refine o_rem rfl rfl rfl (by omega) (by omega) ?_
    | refine o_conv rfl rfl (by first | exact wrap64' (by omega) | exact wrapU64 (by omega) | exact wrapU32 (by omega) | exact wrapU8 (by omega)) ?_
    | refine o_any rfl rfl ?_
    | refine o_anyN rfl rfl ?_
    | refine o_nil ?_
    | refine t_mv rfl rfl ?_
    | refine t_gdY rfl (by first | rfl | assumption | (simp only [decide_eq_true_eq, decide_eq_false_iff_not, beq_iff_eq, bne_iff_ne, beq_eq_false_iff_ne, bne_eq_false_iff_eq, Bool.not_eq_true', Bool.not_eq_false', Bool.not_true, Bool.not_false, ne_eq]; omega)) ?_
    | refine t_gdN rfl (by first | rfl | assumption | (simp only [decide_eq_true_eq, decide_eq_false_iff_not, beq_iff_eq, bne_iff_ne, beq_eq_false_iff_ne, bne_eq_false_iff_eq, Bool.not_eq_true', Bool.not_eq_false', Bool.not_true, Bool.not_false, ne_eq]; omega)) ?_
    | refine t_pass rfl ?_
    | refine t_pickY rfl rfl (by first | rfl | assumption | (simp only [decide_eq_true_eq, decide_eq_false_iff_not, beq_iff_eq, bne_iff_ne, beq_eq_false_iff_ne, bne_eq_false_iff_eq, Bool.not_eq_true', Bool.not_eq_false', Bool.not_true, Bool.not_false, ne_eq]; omega)) rfl ?_
    | refine t_pickN rfl rfl (by first | rfl | assumption | (simp only [decide_eq_true_eq, decide_eq_false_iff_not, beq_iff_eq, bne_iff_ne, beq_eq_false_iff_ne, bne_eq_false_iff_eq, Bool.not_eq_true', Bool.not_eq_false', Bool.not_true, Bool.not_false, ne_eq]; omega)) rfl ?_
    | refine t_add rfl rfl rfl (by first | exact wrap64' (by omega) | exact wrapU64 (by omega) | exact wrapU32 (by omega) | exact wrapU8 (by omega)) ?_
    | refine t_sub rfl rfl rfl (by first | exact wrap64' (by omega) | exact wrapU64 (by omega) | exact wrapU32 (by omega) | exact wrapU8 (by omega)) ?_
    | refine t_mul rfl rfl rfl (by first | exact wrap64' (by omega) | exact wrapU64 (by omega) | exact wrapU32 (by omega) | exact wrapU8 (by omega)) ?_
    | refine t_quo rfl rfl rfl (by omega) (by omega) (by first | exact wrap64' (by omega) | exact wrapU64 (by omega) | exact wrapU32 (by omega) | exact wrapU8 (by omega)) ?_
    | refine t_rem rfl rfl rfl (by omega) (by omega) ?_
    | refine t_conv rfl rfl (by first | exact wrap64' (by omega) | exact wrapU64 (by omega) | exact wrapU32 (by omega) | exact wrapU8 (by omega)) ?_
    | refine t_any rfl rfl ?_
    | refine t_anyN rfl rfl ?_
    | (refine t_nil ⟨?_, ?_⟩; focus (repeat (first | exact trivial | rfl | refine And.intro ?_ ?_)))
    | refine w_opsS ?_
    | refine w_ops ?_
    | refine w_condY rfl (by first | rfl | assumption | (simp only [decide_eq_true_eq, decide_eq_false_iff_not, beq_iff_eq, bne_iff_ne, beq_eq_false_iff_ne, bne_eq_false_iff_eq, Bool.not_eq_true', Bool.not_eq_false', Bool.not_true, Bool.not_false, ne_eq]; omega)) ?_
    | refine w_condN rfl (by first | rfl | assumption | (simp only [decide_eq_true_eq, decide_eq_false_iff_not, beq_iff_eq, bne_iff_ne, beq_eq_false_iff_ne, bne_eq_false_iff_eq, Bool.not_eq_true', Bool.not_eq_false', Bool.not_true, Bool.not_false, ne_eq]; omega)) ?_
    | refine w_seq ?_
    | refine w_opsX ?_
    | refine w_block ?_
    | refine w_exit ?_
    | refine w_ret ?_
    | refine w_skip ?_)
  refine o_mkSl rfl rfl rfl ⟨by omega, by omega, by omega, by omega⟩ ?_
  repeat (first
    | refine o_mv rfl rfl ?_
    | refine o_lenV rfl rfl ?_
    | refine o_gdY rfl (by first | rfl | assumption | (simp only [decide_eq_true_eq, decide_eq_false_iff_not, beq_iff_eq, bne_iff_ne, beq_eq_false_iff_ne, bne_eq_false_iff_eq, Bool.not_eq_true', Bool.not_eq_false', Bool.not_true, Bool.not_false, ne_eq]; omega)) ?_
    | refine o_gdN rfl (by first | rfl | assumption | (simp only [decide_eq_true_eq, decide_eq_false_iff_not, beq_iff_eq, bne_iff_ne, beq_eq_false_iff_ne, bne_eq_false_iff_eq, Bool.not_eq_true', Bool.not_eq_false', Bool.not_true, Bool.not_false, ne_eq]; omega)) ?_
    | refine o_pass rfl ?_
    | refine o_passN rfl ?_
    | refine o_pickY rfl rfl (by first | rfl | assumption | (simp only [decide_eq_true_eq, decide_eq_false_iff_not, beq_iff_eq, bne_iff_ne, beq_eq_false_iff_ne, bne_eq_false_iff_eq, Bool.not_eq_true', Bool.not_eq_false', Bool.not_true, Bool.not_false, ne_eq]; omega)) rfl ?_
    | refine o_pickN rfl rfl (by first | rfl | assumption | (simp only [decide_eq_true_eq, decide_eq_false_iff_not, beq_iff_eq, bne_iff_ne, beq_eq_false_iff_ne, bne_eq_false_iff_eq, Bool.not_eq_true', Bool.not_eq_false', Bool.not_true, Bool.not_false, ne_eq]; omega)) rfl ?_
    | refine o_add rfl rfl rfl (by first | exact wrap64' (by omega) | exact wrapU64 (by omega) | exact wrapU32 (by omega) | exact wrapU8 (by omega)) ?_
    | refine o_sub rfl rfl rfl (by first | exact wrap64' (by omega) | exact wrapU64 (by omega) | exact wrapU32 (by omega) | exact wrapU8 (by omega)) ?_
    | refine o_mul rfl rfl rfl (by first | exact wrap64' (by omega) | exact wrapU64 (by omega) | exact wrapU32 (by omega) | exact wrapU8 (by omega)) ?_
    | refine o_quo rfl rfl rfl (by omega) (by omega) (by first | exact wrap64' (by omega) | exact wrapU64 (by omega) | exact wrapU32 (by omega) | exact wrapU8 (by omega)) ?_
    | refine o_rem rfl rfl rfl (by omega) (by omega) ?_
    | refine o_conv rfl rfl (by first | exact wrap64' (by omega) | exact wrapU64 (by omega) | exact wrapU32 (by omega) | exact wrapU8 (by omega)) ?_
    | refine o_any rfl rfl ?_
    | refine o_anyN rfl rfl ?_
    | refine o_nil ?_
    | refine t_mv rfl rfl ?_
    | refine t_gdY rfl (by first | rfl | assumption | (simp only [decide_eq_true_eq, decide_eq_false_iff_not, beq_iff_eq, bne_iff_ne, beq_eq_false_iff_ne, bne_eq_false_iff_eq, Bool.not_eq_true', Bool.not_eq_false', Bool.not_true, Bool.not_false, ne_eq]; omega)) ?_
    | refine t_gdN rfl (by first | rfl | assumption | (simp only [decide_eq_true_eq, decide_eq_false_iff_not, beq_iff_eq, bne_iff_ne, beq_eq_false_iff_ne, bne_eq_false_iff_eq, Bool.not_eq_true', Bool.not_eq_false', Bool.not_true, Bool.not_false, ne_eq]; omega)) ?_
    | refine t_pass rfl ?_
    | refine t_pickY rfl rfl (by first | rfl | assumption | (simp only [decide_eq_true_eq, decide_eq_false_iff_not, beq_iff_eq, bne_iff_ne, beq_eq_false_iff_ne, bne_eq_false_iff_eq, Bool.not_eq_true', Bool.not_eq_false', Bool.not_true, Bool.not_false, ne_eq]; omega)) rfl ?_
    | refine t_pickN rfl rfl (by first | rfl | assumption | (simp only [decide_eq_true_eq, decide_eq_false_iff_not, beq_iff_eq, bne_iff_ne, beq_eq_false_iff_ne, bne_eq_false_iff_eq, Bool.not_eq_true', Bool.not_eq_false', Bool.not_true, Bool.not_false, ne_eq]; omega)) rfl ?_
    | refine t_add rfl rfl rfl (by first | exact wrap64' (by omega) | exact wrapU64 (by omega) | exact wrapU32 (by omega) | exact wrapU8 (by omega)) ?_
    | refine t_sub rfl rfl rfl (by first | exact wrap64' (by omega) | exact wrapU64 (by omega) | exact wrapU32 (by omega) | exact wrapU8 (by omega)) ?_
    | refine t_mul rfl rfl rfl (by first | exact wrap64' (by omega) | exact wrapU64 (by omega) | exact wrapU32 (by omega) | exact wrapU8 (by omega)) ?_
    | refine t_quo rfl rfl rfl (by omega) (by omega) (by first | exact wrap64' (by omega) | exact wrapU64 (by omega) | exact wrapU32 (by omega) | exact wrapU8 (by omega)) ?_
    | refine t_rem rfl rfl rfl (by omega) (by omega) ?_
    | refine t_conv rfl rfl (by first | exact wrap64' (by omega) | exact wrapU64 (by omega) | exact wrapU32 (by omega) | exact wrapU8 (by omega)) ?_
    | refine t_any rfl rfl ?_
    | refine t_anyN rfl rfl ?_
    | (refine t_nil ⟨?_, ?_⟩; focus (repeat (first | exact trivial | rfl | refine And.intro ?_ ?_)))
    | refine w_opsS ?_
    | refine w_ops ?_
    | refine w_condY rfl (by first | rfl | assumption | (simp only [decide_eq_true_eq, decide_eq_false_iff_not, beq_iff_eq, bne_iff_ne, beq_eq_false_iff_ne, bne_eq_false_iff_eq, Bool.not_eq_true', Bool.not_eq_false', Bool.not_true, Bool.not_false, ne_eq]; omega)) ?_
    | refine w_condN rfl (by first | rfl | assumption | (simp only [decide_eq_true_eq, decide_eq_false_iff_not, beq_iff_eq, bne_iff_ne, beq_eq_false_iff_ne, bne_eq_false_iff_eq, Bool.not_eq_true', Bool.not_eq_false', Bool.not_true, Bool.not_false, ne_eq]; omega)) ?_
    | refine w_seq ?_
    | refine w_opsX ?_
    | refine w_block ?_
    | refine w_exit ?_
    | refine w_ret ?_
    | refine w_skip ?_)
  refine w_loop rfl ?_
  refine w_round ?_
  repeat (first
    | refine o_mv rfl rfl ?_
    | refine o_lenV rfl rfl ?_
    | refine o_gdY rfl (by first | rfl | assumption | (simp only [decide_eq_true_eq, decide_eq_false_iff_not, beq_iff_eq, bne_iff_ne, beq_eq_false_iff_ne, bne_eq_false_iff_eq, Bool.not_eq_true', Bool.not_eq_false', Bool.not_true, Bool.not_false, ne_eq]; omega)) ?_
    | refine o_gdN rfl (by first | rfl | assumption | (simp only [decide_eq_true_eq, decide_eq_false_iff_not, beq_iff_eq, bne_iff_ne, beq_eq_false_iff_ne, bne_eq_false_iff_eq, Bool.not_eq_true', Bool.not_eq_false', Bool.not_true, Bool.not_false, ne_eq]; omega)) ?_
    | refine o_pass rfl ?_
    | refine o_passN rfl ?_
    | refine o_pickY rfl rfl (by first | rfl | assumption | (simp only [decide_eq_true_eq, decide_eq_false_iff_not, beq_iff_eq, bne_iff_ne, beq_eq_false_iff_ne, bne_eq_false_iff_eq, Bool.not_eq_true', Bool.not_eq_false', Bool.not_true, Bool.not_false, ne_eq]; omega)) rfl ?_
    | refine o_pickN rfl rfl (by first | rfl | assumption | (simp only [decide_eq_true_eq, decide_eq_false_iff_not, beq_iff_eq, bne_iff_ne, beq_eq_false_iff_ne, bne_eq_false_iff_eq, Bool.not_eq_true', Bool.not_eq_false', Bool.not_true, Bool.not_false, ne_eq]; omega)) rfl ?_
    | (refine o_call rfl rfl (hb _) ?_; rintro v h' ⟨rfl, rfl⟩)
    | refine o_add rfl rfl rfl (by first | exact wrap64' (by omega) | exact wrapU64 (by omega) | exact wrapU32 (by omega) | exact wrapU8 (by omega)) ?_
    | refine o_sub rfl rfl rfl (by first | exact wrap64' (by omega) | exact wrapU64 (by omega) | exact wrapU32 (by omega) | exact wrapU8 (by omega)) ?_
    | refine o_mul rfl rfl rfl (by first | exact wrap64' (by omega) | exact wrapU64 (by omega) | exact wrapU32 (by omega) | exact wrapU8 (by omega)) ?_
    | refine o_quo rfl rfl rfl (by omega) (by omega) (by first | exact wrap64' (by omega) | exact wrapU64 (by omega) | exact wrapU32 (by omega) | exact wrapU8 (by omega)) ?_
    | refine o_rem rfl rfl rfl (by omega) (by omega) ?_
    | refine o_conv rfl rfl (by first | exact wrap64' (by omega) | exact wrapU64 (by omega) | exact wrapU32 (by omega) | exact wrapU8 (by omega)) ?_
    | refine o_any rfl rfl ?_
    | refine o_anyN rfl rfl ?_
    | refine o_nil ?_
    | refine t_mv rfl rfl ?_
    | refine t_gdY rfl (by first | rfl | assumption | (simp only [decide_eq_true_eq, decide_eq_false_iff_not, beq_iff_eq, bne_iff_ne, beq_eq_false_iff_ne, bne_eq_false_iff_eq, Bool.not_eq_true', Bool.not_eq_false', Bool.not_true, Bool.not_false, ne_eq]; omega)) ?_
    | refine t_gdN rfl (by first | rfl | assumption | (simp only [decide_eq_true_eq, decide_eq_false_iff_not, beq_iff_eq, bne_iff_ne, beq_eq_false_iff_ne, bne_eq_false_iff_eq, Bool.not_eq_true', Bool.not_eq_false', Bool.not_true, Bool.not_false, ne_eq]; omega)) ?_
    | refine t_pass rfl ?_
    | refine t_pickY rfl rfl (by first | rfl | assumption | (simp only [decide_eq_true_eq, decide_eq_false_iff_not, beq_iff_eq, bne_iff_ne, beq_eq_false_iff_ne, bne_eq_false_iff_eq, Bool.not_eq_true', Bool.not_eq_false', Bool.not_true, Bool.not_false, ne_eq]; omega)) rfl ?_
    | refine t_pickN rfl rfl (by first | rfl | assumption | (simp only [decide_eq_true_eq, decide_eq_false_iff_not, beq_iff_eq, bne_iff_ne, beq_eq_false_iff_ne, bne_eq_false_iff_eq, Bool.not_eq_true', Bool.not_eq_false', Bool.not_true, Bool.not_false, ne_eq]; omega)) rfl ?_
    | (refine t_call rfl rfl (hb _) ?_; rintro v h' ⟨rfl, rfl⟩)
    | refine t_add rfl rfl rfl (by first | exact wrap64' (by omega) | exact wrapU64 (by omega) | exact wrapU32 (by omega) | exact wrapU8 (by omega)) ?_
    | refine t_sub rfl rfl rfl (by first | exact wrap64' (by omega) | exact wrapU64 (by omega) | exact wrapU32 (by omega) | exact wrapU8 (by omega)) ?_
    | refine t_mul rfl rfl rfl (by first | exact wrap64' (by omega) | exact wrapU64 (by omega) | exact wrapU32 (by omega) | exact wrapU8 (by omega)) ?_
    | refine t_quo rfl rfl rfl (by omega) (by omega) (by first | exact wrap64' (by omega) | exact wrapU64 (by omega) | exact wrapU32 (by omega) | exact wrapU8 (by omega)) ?_
    | refine t_rem rfl rfl rfl (by omega) (by omega) ?_
    | refine t_conv rfl rfl (by first | exact wrap64' (by omega) | exact wrapU64 (by omega) | exact wrapU32 (by omega) | exact wrapU8 (by omega)) ?_
    | refine t_any rfl rfl ?_
    | refine t_anyN rfl rfl ?_
    | (refine t_nil ⟨?_, ?_⟩; focus (repeat (first | exact trivial | rfl | refine And.intro ?_ ?_)))
    | refine w_opsS ?_
    | refine w_ops ?_
    | refine w_condY rfl (by first | rfl | assumption | (simp only [decide_eq_true_eq, decide_eq_false_iff_not, beq_iff_eq, bne_iff_ne, beq_eq_false_iff_ne, bne_eq_false_iff_eq, Bool.not_eq_true', Bool.not_eq_false', Bool.not_true, Bool.not_false, ne_eq]; omega)) ?_
    | refine w_condN rfl (by first | rfl | assumption | (simp only [decide_eq_true_eq, decide_eq_false_iff_not, beq_iff_eq, bne_iff_ne, beq_eq_false_iff_ne, bne_eq_false_iff_eq, Bool.not_eq_true', Bool.not_eq_false', Bool.not_true, Bool.not_false, ne_eq]; omega)) ?_
    | refine w_seq ?_
    | refine w_opsX ?_
    | refine w_block ?_
    | refine w_exit ?_
    | refine w_ret ?_
    | refine w_skip ?_)
  refine o_appSfit rfl rfl rfl (by omega) (by simp only [hs]; omega) (by omega) (h' := ⟨2, [.rw (ofBytes b ++ (repL [.int .u8 0] (n + 64).toNat).drop 64), .rw (keyL k)]⟩) ?_ ?_
  · simp only [Heap.wr, Heap.get?, Heap.push]
    simp [ofBytes_length, hs, repL_length, splice_zero, Heap.set]
    omega
  repeat (first
    | refine o_mv rfl rfl ?_
    | refine o_lenV rfl rfl ?_
    | refine o_gdY rfl (by first | rfl | assumption | (simp only [decide_eq_true_eq, decide_eq_false_iff_not, beq_iff_eq, bne_iff_ne, beq_eq_false_iff_ne, bne_eq_false_iff_eq, Bool.not_eq_true', Bool.not_eq_false', Bool.not_true, Bool.not_false, ne_eq]; omega)) ?_
    | refine o_gdN rfl (by first | rfl | assumption | (simp only [decide_eq_true_eq, decide_eq_false_iff_not, beq_iff_eq, bne_iff_ne, beq_eq_false_iff_ne, bne_eq_false_iff_eq, Bool.not_eq_true', Bool.not_eq_false', Bool.not_true, Bool.not_false, ne_eq]; omega)) ?_
    | refine o_pass rfl ?_
    | refine o_passN rfl ?_
    | refine o_pickY rfl rfl (by first | rfl | assumption | (simp only [decide_eq_true_eq, decide_eq_false_iff_not, beq_iff_eq, bne_iff_ne, beq_eq_false_iff_ne, bne_eq_false_iff_eq, Bool.not_eq_true', Bool.not_eq_false', Bool.not_true, Bool.not_false, ne_eq]; omega)) rfl ?_
    | refine o_pickN rfl rfl (by first | rfl | assumption | (simp only [decide_eq_true_eq, decide_eq_false_iff_not, beq_iff_eq, bne_iff_ne, beq_eq_false_iff_ne, bne_eq_false_iff_eq, Bool.not_eq_true', Bool.not_eq_false', Bool.not_true, Bool.not_false, ne_eq]; omega)) rfl ?_
    | refine o_add rfl rfl rfl (by first | exact wrap64' (by omega) | exact wrapU64 (by omega) | exact wrapU32 (by omega) | exact wrapU8 (by omega)) ?_
    | refine o_sub rfl rfl rfl (by first | exact wrap64' (by omega) | exact wrapU64 (by omega) | exact wrapU32 (by omega) | exact wrapU8 (by omega)) ?_
    | refine o_mul rfl rfl rfl (by first | exact wrap64' (by omega) | exact wrapU64 (by omega) | exact wrapU32 (by omega) | exact wrapU8 (by omega)) ?_
    | refine o_quo rfl rfl rfl (by omega) (by omega) (by first | exact wrap64' (by omega) | exact wrapU64 (by omega) | exact wrapU32 (by omega) | exact wrapU8 (by omega)) ?_
    | refine o_rem rfl rfl rfl (by omega) (by omega) ?_
    | refine o_conv rfl rfl (by first | exact wrap64' (by omega) | exact wrapU64 (by omega) | exact wrapU32 (by omega) | exact wrapU8 (by omega)) ?_
    | refine o_any rfl rfl ?_
    | refine o_anyN rfl rfl ?_
    | refine o_nil ?_
    | refine t_mv rfl rfl ?_
    | refine t_gdY rfl (by first | rfl | assumption | (simp only [decide_eq_true_eq, decide_eq_false_iff_not, beq_iff_eq, bne_iff_ne, beq_eq_false_iff_ne, bne_eq_false_iff_eq, Bool.not_eq_true', Bool.not_eq_false', Bool.not_true, Bool.not_false, ne_eq]; omega)) ?_
    | refine t_gdN rfl (by first | rfl | assumption | (simp only [decide_eq_true_eq, decide_eq_false_iff_not, beq_iff_eq, bne_iff_ne, beq_eq_false_iff_ne, bne_eq_false_iff_eq, Bool.not_eq_true', Bool.not_eq_false', Bool.not_true, Bool.not_false, ne_eq]; omega)) ?_
    | refine t_pass rfl ?_
    | refine t_pickY rfl rfl (by first | rfl | assumption | (simp only [decide_eq_true_eq, decide_eq_false_iff_not, beq_iff_eq, bne_iff_ne, beq_eq_false_iff_ne, bne_eq_false_iff_eq, Bool.not_eq_true', Bool.not_eq_false', Bool.not_true, Bool.not_false, ne_eq]; omega)) rfl ?_
    | refine t_pickN rfl rfl (by first | rfl | assumption | (simp only [decide_eq_true_eq, decide_eq_false_iff_not, beq_iff_eq, bne_iff_ne, beq_eq_false_iff_ne, bne_eq_false_iff_eq, Bool.not_eq_true', Bool.not_eq_false', Bool.not_true, Bool.not_false, ne_eq]; omega)) rfl ?_
    | refine t_add rfl rfl rfl (by first | exact wrap64' (by omega) | exact wrapU64 (by omega) | exact wrapU32 (by omega) | exact wrapU8 (by omega)) ?_
    | refine t_sub rfl rfl rfl (by first | exact wrap64' (by omega) | exact wrapU64 (by omega) | exact wrapU32 (by omega) | exact wrapU8 (by omega)) ?_
    | refine t_mul rfl rfl rfl (by first | exact wrap64' (by omega) | exact wrapU64 (by omega) | exact wrapU32 (by omega) | exact wrapU8 (by omega)) ?_
    | refine t_quo rfl rfl rfl (by omega) (by omega) (by first | exact wrap64' (by omega) | exact wrapU64 (by omega) | exact wrapU32 (by omega) | exact wrapU8 (by omega)) ?_
    | refine t_rem rfl rfl rfl (by omega) (by omega) ?_
    | refine t_conv rfl rfl (by first | exact wrap64' (by omega) | exact wrapU64 (by omega) | exact wrapU32 (by omega) | exact wrapU8 (by omega)) ?_
    | refine t_any rfl rfl ?_
    | refine t_anyN rfl rfl ?_
    | (refine t_nil ⟨?_, ?_⟩; focus (repeat (first | exact trivial | rfl | refine And.intro ?_ ?_)))
    | refine w_opsS ?_
    | refine w_ops ?_
    | refine w_condY rfl (by first | rfl | assumption | (simp only [decide_eq_true_eq, decide_eq_false_iff_not, beq_iff_eq, bne_iff_ne, beq_eq_false_iff_ne, bne_eq_false_iff_eq, Bool.not_eq_true', Bool.not_eq_false', Bool.not_true, Bool.not_false, ne_eq]; omega)) ?_
    | refine w_condN rfl (by first | rfl | assumption | (simp only [decide_eq_true_eq, decide_eq_false_iff_not, beq_iff_eq, bne_iff_ne, beq_eq_false_iff_ne, bne_eq_false_iff_eq, Bool.not_eq_true', Bool.not_eq_false', Bool.not_true, Bool.not_false, ne_eq]; omega)) ?_
    | refine w_seq ?_
    | refine w_opsX ?_
    | refine w_block ?_
    | refine w_exit ?_
    | refine w_ret ?_
    | refine w_skip ?_)
  refine ⟨_, rfl, ?_⟩
  refine w_round ?_
  rw [hs]
  repeat (first
    | refine o_mv rfl rfl ?_
    | refine o_lenV rfl rfl ?_
    | refine o_gdY rfl (by first | rfl | assumption | (simp only [decide_eq_true_eq, decide_eq_false_iff_not, beq_iff_eq, bne_iff_ne, beq_eq_false_iff_ne, bne_eq_false_iff_eq, Bool.not_eq_true', Bool.not_eq_false', Bool.not_true, Bool.not_false, ne_eq]; omega)) ?_
    | refine o_gdN rfl (by first | rfl | assumption | (simp only [decide_eq_true_eq, decide_eq_false_iff_not, beq_iff_eq, bne_iff_ne, beq_eq_false_iff_ne, bne_eq_false_iff_eq, Bool.not_eq_true', Bool.not_eq_false', Bool.not_true, Bool.not_false, ne_eq]; omega)) ?_
    | refine o_pass rfl ?_
    | refine o_passN rfl ?_
    | refine o_pickY rfl rfl (by first | rfl | assumption | (simp only [decide_eq_true_eq, decide_eq_false_iff_not, beq_iff_eq, bne_iff_ne, beq_eq_false_iff_ne, bne_eq_false_iff_eq, Bool.not_eq_true', Bool.not_eq_false', Bool.not_true, Bool.not_false, ne_eq]; omega)) rfl ?_
    | refine o_pickN rfl rfl (by first | rfl | assumption | (simp only [decide_eq_true_eq, decide_eq_false_iff_not, beq_iff_eq, bne_iff_ne, beq_eq_false_iff_ne, bne_eq_false_iff_eq, Bool.not_eq_true', Bool.not_eq_false', Bool.not_true, Bool.not_false, ne_eq]; omega)) rfl ?_
    | refine o_add rfl rfl rfl (by first | exact wrap64' (by omega) | exact wrapU64 (by omega) | exact wrapU32 (by omega) | exact wrapU8 (by omega)) ?_
    | refine o_sub rfl rfl rfl (by first | exact wrap64' (by omega) | exact wrapU64 (by omega) | exact wrapU32 (by omega) | exact wrapU8 (by omega)) ?_
    | refine o_mul rfl rfl rfl (by first | exact wrap64' (by omega) | exact wrapU64 (by omega) | exact wrapU32 (by omega) | exact wrapU8 (by omega)) ?_
    | refine o_quo rfl rfl rfl (by omega) (by omega) (by first | exact wrap64' (by omega) | exact wrapU64 (by omega) | exact wrapU32 (by omega) | exact wrapU8 (by omega)) ?_
    | refine o_rem rfl rfl rfl (by omega) (by omega) ?_
    | refine o_conv rfl rfl (by first | exact wrap64' (by omega) | exact wrapU64 (by omega) | exact wrapU32 (by omega) | exact wrapU8 (by omega)) ?_
    | refine o_any rfl rfl ?_
    | refine o_anyN rfl rfl ?_
    | refine o_nil ?_
    | refine t_mv rfl rfl ?_
    | refine t_gdY rfl (by first | rfl | assumption | (simp only [decide_eq_true_eq, decide_eq_false_iff_not, beq_iff_eq, bne_iff_ne, beq_eq_false_iff_ne, bne_eq_false_iff_eq, Bool.not_eq_true', Bool.not_eq_false', Bool.not_true, Bool.not_false, ne_eq]; omega)) ?_
    | refine t_gdN rfl (by first | rfl | assumption | (simp only [decide_eq_true_eq, decide_eq_false_iff_not, beq_iff_eq, bne_iff_ne, beq_eq_false_iff_ne, bne_eq_false_iff_eq, Bool.not_eq_true', Bool.not_eq_false', Bool.not_true, Bool.not_false, ne_eq]; omega)) ?_
    | refine t_pass rfl ?_
    | refine t_pickY rfl rfl (by first | rfl | assumption | (simp only [decide_eq_true_eq, decide_eq_false_iff_not, beq_iff_eq, bne_iff_ne, beq_eq_false_iff_ne, bne_eq_false_iff_eq, Bool.not_eq_true', Bool.not_eq_false', Bool.not_true, Bool.not_false, ne_eq]; omega)) rfl ?_
    | refine t_pickN rfl rfl (by first | rfl | assumption | (simp only [decide_eq_true_eq, decide_eq_false_iff_not, beq_iff_eq, bne_iff_ne, beq_eq_false_iff_ne, bne_eq_false_iff_eq, Bool.not_eq_true', Bool.not_eq_false', Bool.not_true, Bool.not_false, ne_eq]; omega)) rfl ?_
    | refine t_add rfl rfl rfl (by first | exact wrap64' (by omega) | exact wrapU64 (by omega) | exact wrapU32 (by omega) | exact wrapU8 (by omega)) ?_
    | refine t_sub rfl rfl rfl (by first | exact wrap64' (by omega) | exact wrapU64 (by omega) | exact wrapU32 (by omega) | exact wrapU8 (by omega)) ?_
    | refine t_mul rfl rfl rfl (by first | exact wrap64' (by omega) | exact wrapU64 (by omega) | exact wrapU32 (by omega) | exact wrapU8 (by omega)) ?_
    | refine t_quo rfl rfl rfl (by omega) (by omega) (by first | exact wrap64' (by omega) | exact wrapU64 (by omega) | exact wrapU32 (by omega) | exact wrapU8 (by omega)) ?_
    | refine t_rem rfl rfl rfl (by omega) (by omega) ?_
    | refine t_conv rfl rfl (by first | exact wrap64' (by omega) | exact wrapU64 (by omega) | exact wrapU32 (by omega) | exact wrapU8 (by omega)) ?_
    | refine t_any rfl rfl ?_
    | refine t_anyN rfl rfl ?_
    | (refine t_nil ⟨?_, ?_⟩; focus (repeat (first | exact trivial | rfl | refine And.intro ?_ ?_)))
    | refine w_opsS ?_
    | refine w_ops ?_
    | refine w_condY rfl (by first | rfl | assumption | (simp only [decide_eq_true_eq, decide_eq_false_iff_not, beq_iff_eq, bne_iff_ne, beq_eq_false_iff_ne, bne_eq_false_iff_eq, Bool.not_eq_true', Bool.not_eq_false', Bool.not_true, Bool.not_false, ne_eq]; omega)) ?_
    | refine w_condN rfl (by first | rfl | assumption | (simp only [decide_eq_true_eq, decide_eq_false_iff_not, beq_iff_eq, bne_iff_ne, beq_eq_false_iff_ne, bne_eq_false_iff_eq, Bool.not_eq_true', Bool.not_eq_false', Bool.not_true, Bool.not_false, ne_eq]; omega)) ?_
    | refine w_seq ?_
    | refine w_opsX ?_
    | refine w_block ?_
    | refine w_exit ?_
    | refine w_ret ?_
    | refine w_skip ?_)
  refine o_slV rfl rfl (bounds_hi (by omega)) rfl (.inr ⟨_, rfl⟩) ?_
  refine o_convBS (cs := (ofBytes b).take n.toNat) (l := b.data.toList.take n.toNat) rfl (by rw [if_neg (by omega)]; rfl) ?_ (toBytes_take _ _) ?_
  · refine sliceCells_of (by omega) (Nat.le_refl _) ?_
    have hbl : (ofBytes b).length = 64 := by rw [ofBytes_length, hs]
    simp only [Heap.rdN, Heap.cells, Heap.get?, addOff, Heap.push]
    simp
    rw [List.take_append_of_le_length (by omega)]
    refine ⟨by omega, rfl⟩
  repeat (first
    | refine o_mv rfl rfl ?_
    | refine o_lenV rfl rfl ?_
    | refine o_gdY rfl (by first | rfl | assumption | (simp only [decide_eq_true_eq, decide_eq_false_iff_not, beq_iff_eq, bne_iff_ne, beq_eq_false_iff_ne, bne_eq_false_iff_eq, Bool.not_eq_true', Bool.not_eq_false', Bool.not_true, Bool.not_false, ne_eq]; omega)) ?_
    | refine o_gdN rfl (by first | rfl | assumption | (simp only [decide_eq_true_eq, decide_eq_false_iff_not, beq_iff_eq, bne_iff_ne, beq_eq_false_iff_ne, bne_eq_false_iff_eq, Bool.not_eq_true', Bool.not_eq_false', Bool.not_true, Bool.not_false, ne_eq]; omega)) ?_
    | refine o_pass rfl ?_
    | refine o_passN rfl ?_
    | refine o_pickY rfl rfl (by first | rfl | assumption | (simp only [decide_eq_true_eq, decide_eq_false_iff_not, beq_iff_eq, bne_iff_ne, beq_eq_false_iff_ne, bne_eq_false_iff_eq, Bool.not_eq_true', Bool.not_eq_false', Bool.not_true, Bool.not_false, ne_eq]; omega)) rfl ?_
    | refine o_pickN rfl rfl (by first | rfl | assumption | (simp only [decide_eq_true_eq, decide_eq_false_iff_not, beq_iff_eq, bne_iff_ne, beq_eq_false_iff_ne, bne_eq_false_iff_eq, Bool.not_eq_true', Bool.not_eq_false', Bool.not_true, Bool.not_false, ne_eq]; omega)) rfl ?_
    | refine o_add rfl rfl rfl (by first | exact wrap64' (by omega) | exact wrapU64 (by omega) | exact wrapU32 (by omega) | exact wrapU8 (by omega)) ?_
    | refine o_sub rfl rfl rfl (by first | exact wrap64' (by omega) | exact wrapU64 (by omega) | exact wrapU32 (by omega) | exact wrapU8 (by omega)) ?_
    | refine o_mul rfl rfl rfl (by first | exact wrap64' (by omega) | exact wrapU64 (by omega) | exact wrapU32 (by omega) | exact wrapU8 (by omega)) ?_
    | refine o_quo rfl rfl rfl (by omega) (by omega) (by first | exact wrap64' (by omega) | exact wrapU64 (by omega) | exact wrapU32 (by omega) | exact wrapU8 (by omega)) ?_
    | refine o_rem rfl rfl rfl (by omega) (by omega) ?_
    | refine o_conv rfl rfl (by first | exact wrap64' (by omega) | exact wrapU64 (by omega) | exact wrapU32 (by omega) | exact wrapU8 (by omega)) ?_
    | refine o_any rfl rfl ?_
    | refine o_anyN rfl rfl ?_
    | refine o_nil ?_
    | refine t_mv rfl rfl ?_
    | refine t_gdY rfl (by first | rfl | assumption | (simp only [decide_eq_true_eq, decide_eq_false_iff_not, beq_iff_eq, bne_iff_ne, beq_eq_false_iff_ne, bne_eq_false_iff_eq, Bool.not_eq_true', Bool.not_eq_false', Bool.not_true, Bool.not_false, ne_eq]; omega)) ?_
    | refine t_gdN rfl (by first | rfl | assumption | (simp only [decide_eq_true_eq, decide_eq_false_iff_not, beq_iff_eq, bne_iff_ne, beq_eq_false_iff_ne, bne_eq_false_iff_eq, Bool.not_eq_true', Bool.not_eq_false', Bool.not_true, Bool.not_false, ne_eq]; omega)) ?_
    | refine t_pass rfl ?_
    | refine t_pickY rfl rfl (by first | rfl | assumption | (simp only [decide_eq_true_eq, decide_eq_false_iff_not, beq_iff_eq, bne_iff_ne, beq_eq_false_iff_ne, bne_eq_false_iff_eq, Bool.not_eq_true', Bool.not_eq_false', Bool.not_true, Bool.not_false, ne_eq]; omega)) rfl ?_
    | refine t_pickN rfl rfl (by first | rfl | assumption | (simp only [decide_eq_true_eq, decide_eq_false_iff_not, beq_iff_eq, bne_iff_ne, beq_eq_false_iff_ne, bne_eq_false_iff_eq, Bool.not_eq_true', Bool.not_eq_false', Bool.not_true, Bool.not_false, ne_eq]; omega)) rfl ?_
    | refine t_add rfl rfl rfl (by first | exact wrap64' (by omega) | exact wrapU64 (by omega) | exact wrapU32 (by omega) | exact wrapU8 (by omega)) ?_
    | refine t_sub rfl rfl rfl (by first | exact wrap64' (by omega) | exact wrapU64 (by omega) | exact wrapU32 (by omega) | exact wrapU8 (by omega)) ?_
    | refine t_mul rfl rfl rfl (by first | exact wrap64' (by omega) | exact wrapU64 (by omega) | exact wrapU32 (by omega) | exact wrapU8 (by omega)) ?_
    | refine t_quo rfl rfl rfl (by omega) (by omega) (by first | exact wrap64' (by omega) | exact wrapU64 (by omega) | exact wrapU32 (by omega) | exact wrapU8 (by omega)) ?_
    | refine t_rem rfl rfl rfl (by omega) (by omega) ?_
    | refine t_conv rfl rfl (by first | exact wrap64' (by omega) | exact wrapU64 (by omega) | exact wrapU32 (by omega) | exact wrapU8 (by omega)) ?_
    | refine t_any rfl rfl ?_
    | refine t_anyN rfl rfl ?_
    | (refine t_nil ⟨?_, ?_⟩; focus (repeat (first | exact trivial | rfl | refine And.intro ?_ ?_)))
    | refine w_opsS ?_
    | refine w_ops ?_
    | refine w_condY rfl (by first | rfl | assumption | (simp only [decide_eq_true_eq, decide_eq_false_iff_not, beq_iff_eq, bne_iff_ne, beq_eq_false_iff_ne, bne_eq_false_iff_eq, Bool.not_eq_true', Bool.not_eq_false', Bool.not_true, Bool.not_false, ne_eq]; omega)) ?_
    | refine w_condN rfl (by first | rfl | assumption | (simp only [decide_eq_true_eq, decide_eq_false_iff_not, beq_iff_eq, bne_iff_ne, beq_eq_false_iff_ne, bne_eq_false_iff_eq, Bool.not_eq_true', Bool.not_eq_false', Bool.not_true, Bool.not_false, ne_eq]; omega)) ?_
    | refine w_seq ?_
    | refine w_opsX ?_
    | refine w_block ?_
    | refine w_exit ?_
    | refine w_ret ?_
    | refine w_skip ?_)
  exact ⟨.inr rfl, _, rfl, rfl, rfl⟩
end
end Go.Proofs.Ytboioafflppnfaa
