/- Words of a source; numbers below others. Conditions: none. -/
import Derived.Test.YtboioafflppnfaaA3
namespace Go.Proofs.Ytboioafflppnfaa
open Go.Cm
set_option linter.unusedVariables false
set_option linter.unusedSimpArgs false
set_option linter.unusedSectionVars false
set_option maxRecDepth 100000
set_option maxHeartbeats 10000000

/-- a source's cells -/
def srcL (k : Nat → Int) (at' : Int) : List Value := keyL k ++ [.int .u32 3, .int .i64 at', .bool true]

section
variable {M : Prg} (hp : PureClosed M) (hf : M.fn = lookF tab)
include hp hf

theorem wordsC' (k : Nat → Int) (B : Nat → ByteArray) (hs : ∀ c, (B c).size = 64) (hb : ∀ c : Nat, c < 4294967295 → ∀ h, Cl M F_chacha_Block [.agg (keyL k).toArray, .string nonce3, .int .u32 c] h fun v h' => v = .tuple #[.string (B c), .int .i64 0] ∧ h' = h)
    (i : Nat) (hi : i < 1000000) (h : Heap) : Cl M F_prg_Words [.agg (keyL k).toArray, .int .u32 3, .int .i64 i, .int .i64 1] h fun v h' => v = .tuple #[.slice (some ⟨h.n + 1, 0, none⟩) 1 1, .int .i64 0] ∧ h' = h.add ⟨2, [.rw [.int .u64 (W B i)], .rw (keyL k)]⟩ := by
  refine (Cl.made hp (K := fun v h1 => v = .tuple #[.slice (some ⟨1, 0, none⟩) 1 1, .int .i64 0] ∧ h1 = ⟨2, [.rw [.int .u64 (W B i)], .rw (keyL k)]⟩) rfl ((wordsC hp hf k B hs hb i hi).mono ?_) h).mono ?_
  · rintro v h' ⟨rfl, rfl⟩
    exact ⟨rfl, rfl, rfl⟩
  · rintro v h' ⟨v1, h1, hm, ⟨rfl, rfl⟩, rfl, rfl⟩
    exact ⟨by simp [shR, shX, shC], rfl⟩
theorem nextC (k : Nat → Int) (B : Nat → ByteArray) (hs : ∀ c, (B c).size = 64) (hb : ∀ c : Nat, c < 4294967295 → ∀ h, Cl M F_chacha_Block [.agg (keyL k).toArray, .string nonce3, .int .u32 c] h fun v h' => v = .tuple #[.string (B c), .int .i64 0] ∧ h' = h)
    (i : Nat) (hi : i < 1000000) (h : Heap) (c : Nat) (hg : h.get? c = some (.rw (srcL k i))) :
    Cl M F_prg_Source_Next [.pointer (some ⟨c, 0, none⟩)] h fun v h' => v = .tuple #[.int .u64 (W B i), .int .i64 0] ∧ h'.get? c = some (.rw (srcL k (i + 1 : Nat))) ∧ Only h h' c := by
  refine w_call (F := M_prg_Source_Next) (by rw [hf]; rfl) rfl ?_
  repeat (first
    | refine o_mv rfl rfl ?_
    | refine o_lenV rfl rfl ?_
    | refine o_gdY rfl (by first | rfl | assumption | (simp only [decide_eq_true_eq, decide_eq_false_iff_not, beq_iff_eq, bne_iff_ne, beq_eq_false_iff_ne, bne_eq_false_iff_eq, Bool.not_eq_true', Bool.not_eq_false', Bool.not_true, Bool.not_false, ne_eq]; omega)) ?_
    | refine o_gdN rfl (by first | rfl | assumption | (simp only [decide_eq_true_eq, decide_eq_false_iff_not, beq_iff_eq, bne_iff_ne, beq_eq_false_iff_ne, bne_eq_false_iff_eq, Bool.not_eq_true', Bool.not_eq_false', Bool.not_true, Bool.not_false, ne_eq]; omega)) ?_
    | refine o_pass rfl ?_
    | refine o_passN rfl ?_
    | refine o_pickY rfl rfl (by first | rfl | assumption | (simp only [decide_eq_true_eq, decide_eq_false_iff_not, beq_iff_eq, bne_iff_ne, beq_eq_false_iff_ne, bne_eq_false_iff_eq, Bool.not_eq_true', Bool.not_eq_false', Bool.not_true, Bool.not_false, ne_eq]; omega)) rfl ?_
    | refine o_pickN rfl rfl (by first | rfl | assumption | (simp only [decide_eq_true_eq, decide_eq_false_iff_not, beq_iff_eq, bne_iff_ne, beq_eq_false_iff_ne, bne_eq_false_iff_eq, Bool.not_eq_true', Bool.not_eq_false', Bool.not_true, Bool.not_false, ne_eq]; omega)) rfl ?_
    | refine o_add rfl rfl rfl (by first | exact wrap64' (by omega) | exact wrapU64 (by omega) | exact wrapU32 (by omega) | exact wrapU8 (by omega)) ?_
    | refine o_sub rfl rfl rfl (by first | exact wrap64' (by omega) | exact wrapU64 (by omega) | exact wrapU32 (by omega) | exact wrapU8 (by omega)) ?_
    | refine o_mul rfl rfl rfl (by first | exact wrap64' (by omega) | exact wrapU64 (by omega) | exact wrapU32 (by omega) | exact wrapU8 (by omega)) ?_
    | refine o_quo rfl rfl rfl (by omega) (by omega) (by first | exact wrap64' (by omega) | exact wrapU64 (by omega) | exact wrapU32 (by omega) | exact wrapU8 (by omega)) ?_
    | refine o_rem rfl rfl rfl (by omega) (by omega) ?_
    | refine o_conv rfl rfl (by first | exact wrap64' (by omega) | exact wrapU64 (by omega) | exact wrapU32 (by omega) | exact wrapU8 (by omega)) ?_
    | refine o_load1R rfl rfl (by assumption) rfl rfl ?_
    | refine o_loadNR rfl rfl (by assumption) rfl (by first | exact Nat.le_of_ble_eq_true rfl | (simp; done) | omega) rfl ?_
    | refine o_storeR rfl rfl rfl rfl rfl (by assumption) (by first | exact Nat.le_of_ble_eq_true rfl | (simp; done) | omega) ?_
    | refine o_any rfl rfl ?_
    | refine o_anyN rfl rfl ?_
    | refine o_nil ?_
    | refine t_mv rfl rfl ?_
    | refine t_gdY rfl (by first | rfl | assumption | (simp only [decide_eq_true_eq, decide_eq_false_iff_not, beq_iff_eq, bne_iff_ne, beq_eq_false_iff_ne, bne_eq_false_iff_eq, Bool.not_eq_true', Bool.not_eq_false', Bool.not_true, Bool.not_false, ne_eq]; omega)) ?_
    | refine t_gdN rfl (by first | rfl | assumption | (simp only [decide_eq_true_eq, decide_eq_false_iff_not, beq_iff_eq, bne_iff_ne, beq_eq_false_iff_ne, bne_eq_false_iff_eq, Bool.not_eq_true', Bool.not_eq_false', Bool.not_true, Bool.not_false, ne_eq]; omega)) ?_
    | refine t_pass rfl ?_
    | refine t_pickY rfl rfl (by first | rfl | assumption | (simp only [decide_eq_true_eq, decide_eq_false_iff_not, beq_iff_eq, bne_iff_ne, beq_eq_false_iff_ne, bne_eq_false_iff_eq, Bool.not_eq_true', Bool.not_eq_false', Bool.not_true, Bool.not_false, ne_eq]; omega)) rfl ?_
    | refine t_pickN rfl rfl (by first | rfl | assumption | (simp only [decide_eq_true_eq, decide_eq_false_iff_not, beq_iff_eq, bne_iff_ne, beq_eq_false_iff_ne, bne_eq_false_iff_eq, Bool.not_eq_true', Bool.not_eq_false', Bool.not_true, Bool.not_false, ne_eq]; omega)) rfl ?_
    | refine t_add rfl rfl rfl (by first | exact wrap64' (by omega) | exact wrapU64 (by omega) | exact wrapU32 (by omega) | exact wrapU8 (by omega)) ?_
    | refine t_sub rfl rfl rfl (by first | exact wrap64' (by omega) | exact wrapU64 (by omega) | exact wrapU32 (by omega) | exact wrapU8 (by omega)) ?_
    | refine t_mul rfl rfl rfl (by first | exact wrap64' (by omega) | exact wrapU64 (by omega) | exact wrapU32 (by omega) | exact wrapU8 (by omega)) ?_
    | refine t_quo rfl rfl rfl (by omega) (by omega) (by first | exact wrap64' (by omega) | exact wrapU64 (by omega) | exact wrapU32 (by omega) | exact wrapU8 (by omega)) ?_
    | refine t_rem rfl rfl rfl (by omega) (by omega) ?_
    | refine t_conv rfl rfl (by first | exact wrap64' (by omega) | exact wrapU64 (by omega) | exact wrapU32 (by omega) | exact wrapU8 (by omega)) ?_
    | refine t_load1R rfl rfl (by assumption) rfl rfl ?_
    | refine t_loadNR rfl rfl (by assumption) rfl (by first | exact Nat.le_of_ble_eq_true rfl | (simp; done) | omega) rfl ?_
    | refine t_any rfl rfl ?_
    | refine t_anyN rfl rfl ?_
    | (refine t_nil ⟨?_, ?_⟩; focus (repeat (first | exact trivial | rfl | refine And.intro ?_ ?_)))
    | refine w_opsS ?_
    | refine w_ops ?_
    | refine w_condY rfl (by first | rfl | assumption | (simp only [decide_eq_true_eq, decide_eq_false_iff_not, beq_iff_eq, bne_iff_ne, beq_eq_false_iff_ne, bne_eq_false_iff_eq, Bool.not_eq_true', Bool.not_eq_false', Bool.not_true, Bool.not_false, ne_eq]; omega)) ?_
    | refine w_condN rfl (by first | rfl | assumption | (simp only [decide_eq_true_eq, decide_eq_false_iff_not, beq_iff_eq, bne_iff_ne, beq_eq_false_iff_ne, bne_eq_false_iff_eq, Bool.not_eq_true', Bool.not_eq_false', Bool.not_true, Bool.not_false, ne_eq]; omega)) ?_
    | refine w_seq ?_
    | refine w_opsX ?_
    | refine w_block ?_
    | refine w_exit ?_
    | refine w_ret ?_
    | refine w_skip ?_)
  refine o_call rfl rfl (wordsC' hp hf k B hs hb i hi h) ?_
  rintro v h' ⟨rfl, rfl⟩
  have hm : madeOnly ⟨2, [.rw [.int .u64 (W B i)], .rw (keyL k)]⟩ = true := rfl
  have hg1 := get_add_old hm hg
  have hg2 := get_add_new (h := h) hm (c := 1) (o := .rw [.int .u64 (W B i)]) rfl
  have hle : Le h (h.add ⟨2, [.rw [.int .u64 (W B i)], .rw (keyL k)]⟩) := Le.add rfl
  have hne : h.n + 1 ≠ c := by have := Heap.get?_lt hg; omega
  generalize h.add ⟨2, [.rw [.int .u64 (W B i)], .rw (keyL k)]⟩ = h2 at hg1 hg2 hle
  repeat (first
    | refine o_mv rfl rfl ?_
    | refine o_lenV rfl rfl ?_
    | refine o_gdY rfl (by first | rfl | assumption | (simp only [decide_eq_true_eq, decide_eq_false_iff_not, beq_iff_eq, bne_iff_ne, beq_eq_false_iff_ne, bne_eq_false_iff_eq, Bool.not_eq_true', Bool.not_eq_false', Bool.not_true, Bool.not_false, ne_eq]; omega)) ?_
    | refine o_gdN rfl (by first | rfl | assumption | (simp only [decide_eq_true_eq, decide_eq_false_iff_not, beq_iff_eq, bne_iff_ne, beq_eq_false_iff_ne, bne_eq_false_iff_eq, Bool.not_eq_true', Bool.not_eq_false', Bool.not_true, Bool.not_false, ne_eq]; omega)) ?_
    | refine o_pass rfl ?_
    | refine o_passN rfl ?_
    | refine o_pickY rfl rfl (by first | rfl | assumption | (simp only [decide_eq_true_eq, decide_eq_false_iff_not, beq_iff_eq, bne_iff_ne, beq_eq_false_iff_ne, bne_eq_false_iff_eq, Bool.not_eq_true', Bool.not_eq_false', Bool.not_true, Bool.not_false, ne_eq]; omega)) rfl ?_
    | refine o_pickN rfl rfl (by first | rfl | assumption | (simp only [decide_eq_true_eq, decide_eq_false_iff_not, beq_iff_eq, bne_iff_ne, beq_eq_false_iff_ne, bne_eq_false_iff_eq, Bool.not_eq_true', Bool.not_eq_false', Bool.not_true, Bool.not_false, ne_eq]; omega)) rfl ?_
    | refine o_add rfl rfl rfl (by first | exact wrap64' (by omega) | exact wrapU64 (by omega) | exact wrapU32 (by omega) | exact wrapU8 (by omega)) ?_
    | refine o_sub rfl rfl rfl (by first | exact wrap64' (by omega) | exact wrapU64 (by omega) | exact wrapU32 (by omega) | exact wrapU8 (by omega)) ?_
    | refine o_mul rfl rfl rfl (by first | exact wrap64' (by omega) | exact wrapU64 (by omega) | exact wrapU32 (by omega) | exact wrapU8 (by omega)) ?_
    | refine o_quo rfl rfl rfl (by omega) (by omega) (by first | exact wrap64' (by omega) | exact wrapU64 (by omega) | exact wrapU32 (by omega) | exact wrapU8 (by omega)) ?_
    | refine o_rem rfl rfl rfl (by omega) (by omega) ?_
    | refine o_conv rfl rfl (by first | exact wrap64' (by omega) | exact wrapU64 (by omega) | exact wrapU32 (by omega) | exact wrapU8 (by omega)) ?_
    | refine o_load1R rfl rfl (by assumption) rfl rfl ?_
    | refine o_loadNR rfl rfl (by assumption) rfl (by first | exact Nat.le_of_ble_eq_true rfl | (simp; done) | omega) rfl ?_
    | refine o_storeR rfl rfl rfl rfl rfl (by assumption) (by first | exact Nat.le_of_ble_eq_true rfl | (simp; done) | omega) ?_
    | refine o_any rfl rfl ?_
    | refine o_anyN rfl rfl ?_
    | refine o_nil ?_
    | refine t_mv rfl rfl ?_
    | refine t_gdY rfl (by first | rfl | assumption | (simp only [decide_eq_true_eq, decide_eq_false_iff_not, beq_iff_eq, bne_iff_ne, beq_eq_false_iff_ne, bne_eq_false_iff_eq, Bool.not_eq_true', Bool.not_eq_false', Bool.not_true, Bool.not_false, ne_eq]; omega)) ?_
    | refine t_gdN rfl (by first | rfl | assumption | (simp only [decide_eq_true_eq, decide_eq_false_iff_not, beq_iff_eq, bne_iff_ne, beq_eq_false_iff_ne, bne_eq_false_iff_eq, Bool.not_eq_true', Bool.not_eq_false', Bool.not_true, Bool.not_false, ne_eq]; omega)) ?_
    | refine t_pass rfl ?_
    | refine t_pickY rfl rfl (by first | rfl | assumption | (simp only [decide_eq_true_eq, decide_eq_false_iff_not, beq_iff_eq, bne_iff_ne, beq_eq_false_iff_ne, bne_eq_false_iff_eq, Bool.not_eq_true', Bool.not_eq_false', Bool.not_true, Bool.not_false, ne_eq]; omega)) rfl ?_
    | refine t_pickN rfl rfl (by first | rfl | assumption | (simp only [decide_eq_true_eq, decide_eq_false_iff_not, beq_iff_eq, bne_iff_ne, beq_eq_false_iff_ne, bne_eq_false_iff_eq, Bool.not_eq_true', Bool.not_eq_false', Bool.not_true, Bool.not_false, ne_eq]; omega)) rfl ?_
    | refine t_add rfl rfl rfl (by first | exact wrap64' (by omega) | exact wrapU64 (by omega) | exact wrapU32 (by omega) | exact wrapU8 (by omega)) ?_
    | refine t_sub rfl rfl rfl (by first | exact wrap64' (by omega) | exact wrapU64 (by omega) | exact wrapU32 (by omega) | exact wrapU8 (by omega)) ?_
    | refine t_mul rfl rfl rfl (by first | exact wrap64' (by omega) | exact wrapU64 (by omega) | exact wrapU32 (by omega) | exact wrapU8 (by omega)) ?_
    | refine t_quo rfl rfl rfl (by omega) (by omega) (by first | exact wrap64' (by omega) | exact wrapU64 (by omega) | exact wrapU32 (by omega) | exact wrapU8 (by omega)) ?_
    | refine t_rem rfl rfl rfl (by omega) (by omega) ?_
    | refine t_conv rfl rfl (by first | exact wrap64' (by omega) | exact wrapU64 (by omega) | exact wrapU32 (by omega) | exact wrapU8 (by omega)) ?_
    | refine t_load1R rfl rfl (by assumption) rfl rfl ?_
    | refine t_loadNR rfl rfl (by assumption) rfl (by first | exact Nat.le_of_ble_eq_true rfl | (simp; done) | omega) rfl ?_
    | refine t_any rfl rfl ?_
    | refine t_anyN rfl rfl ?_
    | (refine t_nil ⟨?_, ?_⟩; focus (repeat (first | exact trivial | rfl | refine And.intro ?_ ?_)))
    | refine w_opsS ?_
    | refine w_ops ?_
    | refine w_condY rfl (by first | rfl | assumption | (simp only [decide_eq_true_eq, decide_eq_false_iff_not, beq_iff_eq, bne_iff_ne, beq_eq_false_iff_ne, bne_eq_false_iff_eq, Bool.not_eq_true', Bool.not_eq_false', Bool.not_true, Bool.not_false, ne_eq]; omega)) ?_
    | refine w_condN rfl (by first | rfl | assumption | (simp only [decide_eq_true_eq, decide_eq_false_iff_not, beq_iff_eq, bne_iff_ne, beq_eq_false_iff_ne, bne_eq_false_iff_eq, Bool.not_eq_true', Bool.not_eq_false', Bool.not_true, Bool.not_false, ne_eq]; omega)) ?_
    | refine w_seq ?_
    | refine w_opsX ?_
    | refine w_block ?_
    | refine w_exit ?_
    | refine w_ret ?_
    | refine w_skip ?_)
  have hg3 := (Only.set (o := .rw (splice (srcL k i) 33 [.int .i64 (i + 1)])) hg1).get hne hg2
  have hg4 := Heap.get?_set_same (o := .rw (splice (srcL k i) 33 [.int .i64 (i + 1)])) hg1
  repeat (first
    | refine o_mv rfl rfl ?_
    | refine o_lenV rfl rfl ?_
    | refine o_gdY rfl (by first | rfl | assumption | (simp only [decide_eq_true_eq, decide_eq_false_iff_not, beq_iff_eq, bne_iff_ne, beq_eq_false_iff_ne, bne_eq_false_iff_eq, Bool.not_eq_true', Bool.not_eq_false', Bool.not_true, Bool.not_false, ne_eq]; omega)) ?_
    | refine o_gdN rfl (by first | rfl | assumption | (simp only [decide_eq_true_eq, decide_eq_false_iff_not, beq_iff_eq, bne_iff_ne, beq_eq_false_iff_ne, bne_eq_false_iff_eq, Bool.not_eq_true', Bool.not_eq_false', Bool.not_true, Bool.not_false, ne_eq]; omega)) ?_
    | refine o_pass rfl ?_
    | refine o_passN rfl ?_
    | refine o_pickY rfl rfl (by first | rfl | assumption | (simp only [decide_eq_true_eq, decide_eq_false_iff_not, beq_iff_eq, bne_iff_ne, beq_eq_false_iff_ne, bne_eq_false_iff_eq, Bool.not_eq_true', Bool.not_eq_false', Bool.not_true, Bool.not_false, ne_eq]; omega)) rfl ?_
    | refine o_pickN rfl rfl (by first | rfl | assumption | (simp only [decide_eq_true_eq, decide_eq_false_iff_not, beq_iff_eq, bne_iff_ne, beq_eq_false_iff_ne, bne_eq_false_iff_eq, Bool.not_eq_true', Bool.not_eq_false', Bool.not_true, Bool.not_false, ne_eq]; omega)) rfl ?_
    | refine o_add rfl rfl rfl (by first | exact wrap64' (by omega) | exact wrapU64 (by omega) | exact wrapU32 (by omega) | exact wrapU8 (by omega)) ?_
    | refine o_sub rfl rfl rfl (by first | exact wrap64' (by omega) | exact wrapU64 (by omega) | exact wrapU32 (by omega) | exact wrapU8 (by omega)) ?_
    | refine o_mul rfl rfl rfl (by first | exact wrap64' (by omega) | exact wrapU64 (by omega) | exact wrapU32 (by omega) | exact wrapU8 (by omega)) ?_
    | refine o_quo rfl rfl rfl (by omega) (by omega) (by first | exact wrap64' (by omega) | exact wrapU64 (by omega) | exact wrapU32 (by omega) | exact wrapU8 (by omega)) ?_
    | refine o_rem rfl rfl rfl (by omega) (by omega) ?_
    | refine o_conv rfl rfl (by first | exact wrap64' (by omega) | exact wrapU64 (by omega) | exact wrapU32 (by omega) | exact wrapU8 (by omega)) ?_
    | refine o_load1R rfl rfl (by assumption) rfl rfl ?_
    | refine o_loadNR rfl rfl (by assumption) rfl (by first | exact Nat.le_of_ble_eq_true rfl | (simp; done) | omega) rfl ?_
    | refine o_storeR rfl rfl rfl rfl rfl (by assumption) (by first | exact Nat.le_of_ble_eq_true rfl | (simp; done) | omega) ?_
    | refine o_any rfl rfl ?_
    | refine o_anyN rfl rfl ?_
    | refine o_nil ?_
    | refine t_mv rfl rfl ?_
    | refine t_gdY rfl (by first | rfl | assumption | (simp only [decide_eq_true_eq, decide_eq_false_iff_not, beq_iff_eq, bne_iff_ne, beq_eq_false_iff_ne, bne_eq_false_iff_eq, Bool.not_eq_true', Bool.not_eq_false', Bool.not_true, Bool.not_false, ne_eq]; omega)) ?_
    | refine t_gdN rfl (by first | rfl | assumption | (simp only [decide_eq_true_eq, decide_eq_false_iff_not, beq_iff_eq, bne_iff_ne, beq_eq_false_iff_ne, bne_eq_false_iff_eq, Bool.not_eq_true', Bool.not_eq_false', Bool.not_true, Bool.not_false, ne_eq]; omega)) ?_
    | refine t_pass rfl ?_
    | refine t_pickY rfl rfl (by first | rfl | assumption | (simp only [decide_eq_true_eq, decide_eq_false_iff_not, beq_iff_eq, bne_iff_ne, beq_eq_false_iff_ne, bne_eq_false_iff_eq, Bool.not_eq_true', Bool.not_eq_false', Bool.not_true, Bool.not_false, ne_eq]; omega)) rfl ?_
    | refine t_pickN rfl rfl (by first | rfl | assumption | (simp only [decide_eq_true_eq, decide_eq_false_iff_not, beq_iff_eq, bne_iff_ne, beq_eq_false_iff_ne, bne_eq_false_iff_eq, Bool.not_eq_true', Bool.not_eq_false', Bool.not_true, Bool.not_false, ne_eq]; omega)) rfl ?_
    | refine t_add rfl rfl rfl (by first | exact wrap64' (by omega) | exact wrapU64 (by omega) | exact wrapU32 (by omega) | exact wrapU8 (by omega)) ?_
    | refine t_sub rfl rfl rfl (by first | exact wrap64' (by omega) | exact wrapU64 (by omega) | exact wrapU32 (by omega) | exact wrapU8 (by omega)) ?_
    | refine t_mul rfl rfl rfl (by first | exact wrap64' (by omega) | exact wrapU64 (by omega) | exact wrapU32 (by omega) | exact wrapU8 (by omega)) ?_
    | refine t_quo rfl rfl rfl (by omega) (by omega) (by first | exact wrap64' (by omega) | exact wrapU64 (by omega) | exact wrapU32 (by omega) | exact wrapU8 (by omega)) ?_
    | refine t_rem rfl rfl rfl (by omega) (by omega) ?_
    | refine t_conv rfl rfl (by first | exact wrap64' (by omega) | exact wrapU64 (by omega) | exact wrapU32 (by omega) | exact wrapU8 (by omega)) ?_
    | refine t_load1R rfl rfl (by assumption) rfl rfl ?_
    | refine t_loadNR rfl rfl (by assumption) rfl (by first | exact Nat.le_of_ble_eq_true rfl | (simp; done) | omega) rfl ?_
    | refine t_any rfl rfl ?_
    | refine t_anyN rfl rfl ?_
    | (refine t_nil ⟨?_, ?_⟩; focus (repeat (first | exact trivial | rfl | refine And.intro ?_ ?_)))
    | refine w_opsS ?_
    | refine w_ops ?_
    | refine w_condY rfl (by first | rfl | assumption | (simp only [decide_eq_true_eq, decide_eq_false_iff_not, beq_iff_eq, bne_iff_ne, beq_eq_false_iff_ne, bne_eq_false_iff_eq, Bool.not_eq_true', Bool.not_eq_false', Bool.not_true, Bool.not_false, ne_eq]; omega)) ?_
    | refine w_condN rfl (by first | rfl | assumption | (simp only [decide_eq_true_eq, decide_eq_false_iff_not, beq_iff_eq, bne_iff_ne, beq_eq_false_iff_ne, bne_eq_false_iff_eq, Bool.not_eq_true', Bool.not_eq_false', Bool.not_true, Bool.not_false, ne_eq]; omega)) ?_
    | refine w_seq ?_
    | refine w_opsX ?_
    | refine w_block ?_
    | refine w_exit ?_
    | refine w_ret ?_
    | refine w_skip ?_)
  exact ⟨.inr rfl, _, rfl, rfl, hg4, (Only.of_le hle).trans (Only.set hg1)⟩
end
end Go.Proofs.Ytboioafflppnfaa
