/- Numbers below others, drawn of a seed's words. Conditions: none. -/
import Derived.Test.YtboioafflppnfaaA4
namespace Go.Proofs.Ytboioafflppnfaa
open Go.Cm
set_option linter.unusedVariables false
set_option linter.unusedSimpArgs false
set_option linter.unusedSectionVars false
set_option maxRecDepth 100000
set_option maxHeartbeats 10000000

/-- the first word that is thrown away -/
def cutN (n : Int) : Int := if 18446744073709551616 % n = 0 then 0 else 18446744073709551616 - 18446744073709551616 % n
/-- a number below n, and how far the words are read -/
def belowN (w : Nat → Nat) (n : Int) : Nat → Nat → Option Int × Nat
  | 0, i => (none, i)
  | d + 1, i => if cutN n = 0 ∨ (w i : Int) < cutN n then (some ((w i : Int) % n), i + 1) else belowN w n d (i + 1)
def belowV : Option Int → Value
  | some j => .tuple #[.int .u64 j, .int .i64 0]
  | none => .tuple #[.int .u64 0, .int .i64 24]
theorem belowN_at (w : Nat → Nat) (n : Int) : ∀ d i, (belowN w n d i).2 ≤ i + d ∧ i ≤ (belowN w n d i).2
  | 0, i => by simp [belowN]
  | d + 1, i => by
    simp only [belowN]
    split
    · simp
    · have := belowN_at w n d (i + 1); omega
theorem belowN_lt (w : Nat → Nat) (n : Int) (hn : 0 < n) : ∀ d i j, (belowN w n d i).1 = some j → 0 ≤ j ∧ j < n
  | 0, i, j, h => by simp [belowN] at h
  | d + 1, i, j, h => by
    simp only [belowN] at h
    split at h
    · cases h
      exact ⟨Int.emod_nonneg _ (by omega), Int.emod_lt_of_pos _ hn⟩
    · exact belowN_lt w n hn d (i + 1) j h
theorem cut_mod (n : Int) (hn : 0 < n) : (18446744073709551616 - n) % n = 18446744073709551616 % n := by
  rw [Int.sub_emod, Int.emod_self]; simp

section
variable {M : Prg} (hp : PureClosed M) (hf : M.fn = lookF tab)
include hp hf

theorem cutC (n : Int) (hn : 0 < n ∧ n < 18446744073709551616) (h : Heap) : Cl M F_prg_Cut [.int .u64 n] h fun v h' => v = .int .u64 (cutN n) ∧ h' = h := by
  refine Cl.pure hp rfl ?_ h
  refine w_call (F := M_prg_Cut) (by rw [hf]; rfl) rfl ?_
  have e1 : IntKind.u64.wrap (0 - n) = 18446744073709551616 - n := by simp only [IntKind.wrap, IntKind.bits, IntKind.signed]; simp; omega
  have e2 := cut_mod n hn.1
  have h0 := Int.emod_nonneg 18446744073709551616 (show n ≠ 0 by omega)
  have h1 := Int.emod_lt_of_pos 18446744073709551616 hn.1
  repeat (first
    | refine o_mv rfl rfl ?_
    | refine o_lenV rfl rfl ?_
    | refine o_gdY rfl (by first | rfl | assumption | (simp only [decide_eq_true_eq, decide_eq_false_iff_not, beq_iff_eq, bne_iff_ne, beq_eq_false_iff_ne, bne_eq_false_iff_eq, Bool.not_eq_true', Bool.not_eq_false', Bool.not_true, Bool.not_false, ne_eq]; omega)) ?_
    | refine o_gdN rfl (by first | rfl | assumption | (simp only [decide_eq_true_eq, decide_eq_false_iff_not, beq_iff_eq, bne_iff_ne, beq_eq_false_iff_ne, bne_eq_false_iff_eq, Bool.not_eq_true', Bool.not_eq_false', Bool.not_true, Bool.not_false, ne_eq]; omega)) ?_
    | refine o_pass rfl ?_
    | refine o_passN rfl ?_
    | refine o_pickY rfl rfl (by first | rfl | assumption | (simp only [decide_eq_true_eq, decide_eq_false_iff_not, beq_iff_eq, bne_iff_ne, beq_eq_false_iff_ne, bne_eq_false_iff_eq, Bool.not_eq_true', Bool.not_eq_false', Bool.not_true, Bool.not_false, ne_eq]; omega)) rfl ?_
    | refine o_pickN rfl rfl (by first | rfl | assumption | (simp only [decide_eq_true_eq, decide_eq_false_iff_not, beq_iff_eq, bne_iff_ne, beq_eq_false_iff_ne, bne_eq_false_iff_eq, Bool.not_eq_true', Bool.not_eq_false', Bool.not_true, Bool.not_false, ne_eq]; omega)) rfl ?_
    | refine o_add rfl rfl rfl (by first | exact wrap64' (by omega) | exact wrapU64 (by omega) | exact wrapU32 (by omega) | exact wrapU8 (by omega)) ?_
    | refine o_sub rfl rfl rfl (by first | exact wrap64' (by omega) | exact wrapU64 (by omega) | exact wrapU32 (by omega) | exact wrapU8 (by omega)) ?_
    | refine o_mul rfl rfl rfl (by first | exact wrap64' (by omega) | exact wrapU64 (by omega) | exact wrapU32 (by omega) | exact wrapU8 (by omega)) ?_
    | refine o_quo rfl rfl rfl (by omega) (by omega) (by first | exact wrap64' (by omega) | exact wrapU64 (by omega) | exact wrapU32 (by omega) | exact wrapU8 (by omega)) ?_
    | refine o_rem rfl rfl rfl (by omega) (by omega) ?_
    | refine o_conv rfl rfl (by first | exact wrap64' (by omega) | exact wrapU64 (by omega) | exact wrapU32 (by omega) | exact wrapU8 (by omega)) ?_
    | refine o_any rfl rfl ?_
    | refine o_anyN rfl rfl ?_
    | refine o_nil ?_
    | refine t_mv rfl rfl ?_
    | refine t_gdY rfl (by first | rfl | assumption | (simp only [decide_eq_true_eq, decide_eq_false_iff_not, beq_iff_eq, bne_iff_ne, beq_eq_false_iff_ne, bne_eq_false_iff_eq, Bool.not_eq_true', Bool.not_eq_false', Bool.not_true, Bool.not_false, ne_eq]; omega)) ?_
    | refine t_gdN rfl (by first | rfl | assumption | (simp only [decide_eq_true_eq, decide_eq_false_iff_not, beq_iff_eq, bne_iff_ne, beq_eq_false_iff_ne, bne_eq_false_iff_eq, Bool.not_eq_true', Bool.not_eq_false', Bool.not_true, Bool.not_false, ne_eq]; omega)) ?_
    | refine t_pass rfl ?_
    | refine t_pickY rfl rfl (by first | rfl | assumption | (simp only [decide_eq_true_eq, decide_eq_false_iff_not, beq_iff_eq, bne_iff_ne, beq_eq_false_iff_ne, bne_eq_false_iff_eq, Bool.not_eq_true', Bool.not_eq_false', Bool.not_true, Bool.not_false, ne_eq]; omega)) rfl ?_
    | refine t_pickN rfl rfl (by first | rfl | assumption | (simp only [decide_eq_true_eq, decide_eq_false_iff_not, beq_iff_eq, bne_iff_ne, beq_eq_false_iff_ne, bne_eq_false_iff_eq, Bool.not_eq_true', Bool.not_eq_false', Bool.not_true, Bool.not_false, ne_eq]; omega)) rfl ?_
    | refine t_add rfl rfl rfl (by first | exact wrap64' (by omega) | exact wrapU64 (by omega) | exact wrapU32 (by omega) | exact wrapU8 (by omega)) ?_
    | refine t_sub rfl rfl rfl (by first | exact wrap64' (by omega) | exact wrapU64 (by omega) | exact wrapU32 (by omega) | exact wrapU8 (by omega)) ?_
    | refine t_mul rfl rfl rfl (by first | exact wrap64' (by omega) | exact wrapU64 (by omega) | exact wrapU32 (by omega) | exact wrapU8 (by omega)) ?_
    | refine t_quo rfl rfl rfl (by omega) (by omega) (by first | exact wrap64' (by omega) | exact wrapU64 (by omega) | exact wrapU32 (by omega) | exact wrapU8 (by omega)) ?_
    | refine t_rem rfl rfl rfl (by omega) (by omega) ?_
    | refine t_conv rfl rfl (by first | exact wrap64' (by omega) | exact wrapU64 (by omega) | exact wrapU32 (by omega) | exact wrapU8 (by omega)) ?_
    | refine t_any rfl rfl ?_
    | refine t_anyN rfl rfl ?_
    | (refine t_nil ⟨?_, ?_⟩; focus (repeat (first | exact trivial | rfl | refine And.intro ?_ ?_)))
    | refine w_opsS ?_
    | refine w_ops ?_
    | refine w_condY rfl (by first | rfl | assumption | (simp only [decide_eq_true_eq, decide_eq_false_iff_not, beq_iff_eq, bne_iff_ne, beq_eq_false_iff_ne, bne_eq_false_iff_eq, Bool.not_eq_true', Bool.not_eq_false', Bool.not_true, Bool.not_false, ne_eq]; omega)) ?_
    | refine w_condN rfl (by first | rfl | assumption | (simp only [decide_eq_true_eq, decide_eq_false_iff_not, beq_iff_eq, bne_iff_ne, beq_eq_false_iff_ne, bne_eq_false_iff_eq, Bool.not_eq_true', Bool.not_eq_false', Bool.not_true, Bool.not_false, ne_eq]; omega)) ?_
    | refine w_seq ?_
    | refine w_opsX ?_
    | refine w_block ?_
    | refine w_exit ?_
    | refine w_ret ?_
    | refine w_skip ?_)
  refine ⟨.inr rfl, _, rfl, rfl, ?_⟩
  unfold cutN
  rw [e1, e2]
  generalize 18446744073709551616 % n = r at h0 h1 ⊢
  have e3 : IntKind.u64.wrap (0 - r) = if r = 0 then 0 else 18446744073709551616 - r := by
    simp only [IntKind.wrap, IntKind.bits, IntKind.signed]
    simp
    split <;> omega
  rw [e3]

theorem belowLoop (k : Nat → Int) (B : Nat → ByteArray) (hs : ∀ c, (B c).size = 64) (hb : ∀ c : Nat, c < 4294967295 → ∀ h, Cl M F_chacha_Block [.agg (keyL k).toArray, .string nonce3, .int .u32 c] h fun v h' => v = .tuple #[.string (B c), .int .i64 0] ∧ h' = h)
    (n : Int) (hn : 0 < n ∧ n < 18446744073709551616) (c : Nat) (Q : Ex → Fr → Heap → Prop) : ∀ (d t i : Nat) (h : Heap), t + d = 64 → i + d < 1000000 → h.get? c = some (.rw (srcL k i)) →
    (∀ f h' r, belowN (W B) n d i = r → h'.get? c = some (.rw (srcL k r.2)) → Only h h' c → (∀ j, r.1 = some j → resL [.tmp 4, .tmp 5] f h' = some (belowV r.1) → Q .ret f h') ∧ (r.1 = none → f = [(23, .bool false), (0, .pointer (some ⟨c, 0, none⟩)), (1, .int .u64 n), (6, .int .u64 (cutN n)), (22, .int .i64 64)] → Q (.exit 0) f h')) →
    wpR M [0, 1, 6, 22] c_prg_Source_Below_14 Q [(0, .pointer (some ⟨c, 0, none⟩)), (1, .int .u64 n), (6, .int .u64 (cutN n)), (22, .int .i64 t)] h
  | 0, t, i, h, ht, hi, hg, hQ => by
    have : t = 64 := by omega
    subst this
    refine w_round ?_
    repeat (first
      | refine o_mv rfl rfl ?_
      | refine o_lenV rfl rfl ?_
      | refine o_gdY rfl (by first | rfl | assumption | (simp only [decide_eq_true_eq, decide_eq_false_iff_not, beq_iff_eq, bne_iff_ne, beq_eq_false_iff_ne, bne_eq_false_iff_eq, Bool.not_eq_true', Bool.not_eq_false', Bool.not_true, Bool.not_false, ne_eq]; omega)) ?_
      | refine o_gdN rfl (by first | rfl | assumption | (simp only [decide_eq_true_eq, decide_eq_false_iff_not, beq_iff_eq, bne_iff_ne, beq_eq_false_iff_ne, bne_eq_false_iff_eq, Bool.not_eq_true', Bool.not_eq_false', Bool.not_true, Bool.not_false, ne_eq]; omega)) ?_
      | refine o_pass rfl ?_
      | refine o_passN rfl ?_
      | refine o_pickY rfl rfl (by first | rfl | assumption | (simp only [decide_eq_true_eq, decide_eq_false_iff_not, beq_iff_eq, bne_iff_ne, beq_eq_false_iff_ne, bne_eq_false_iff_eq, Bool.not_eq_true', Bool.not_eq_false', Bool.not_true, Bool.not_false, ne_eq]; omega)) rfl ?_
      | refine o_pickN rfl rfl (by first | rfl | assumption | (simp only [decide_eq_true_eq, decide_eq_false_iff_not, beq_iff_eq, bne_iff_ne, beq_eq_false_iff_ne, bne_eq_false_iff_eq, Bool.not_eq_true', Bool.not_eq_false', Bool.not_true, Bool.not_false, ne_eq]; omega)) rfl ?_
      | refine o_add rfl rfl rfl (by first | exact wrap64' (by omega) | exact wrapU64 (by omega) | exact wrapU32 (by omega) | exact wrapU8 (by omega)) ?_
      | refine o_sub rfl rfl rfl (by first | exact wrap64' (by omega) | exact wrapU64 (by omega) | exact wrapU32 (by omega) | exact wrapU8 (by omega)) ?_
      | refine o_mul rfl rfl rfl (by first | exact wrap64' (by omega) | exact wrapU64 (by omega) | exact wrapU32 (by omega) | exact wrapU8 (by omega)) ?_
      | refine o_quo rfl rfl rfl (by omega) (by omega) (by first | exact wrap64' (by omega) | exact wrapU64 (by omega) | exact wrapU32 (by omega) | exact wrapU8 (by omega)) ?_
      | refine o_rem rfl rfl rfl (by omega) (by omega) ?_
      | refine o_conv rfl rfl (by first | exact wrap64' (by omega) | exact wrapU64 (by omega) | exact wrapU32 (by omega) | exact wrapU8 (by omega)) ?_
      | refine o_load1R rfl rfl (by assumption) rfl rfl ?_
      | refine o_loadNR rfl rfl (by assumption) rfl (by first | exact Nat.le_of_ble_eq_true rfl | (simp; done) | omega) rfl ?_
      | refine o_storeR rfl rfl rfl rfl rfl (by assumption) (by first | exact Nat.le_of_ble_eq_true rfl | (simp; done) | omega) ?_
      | refine o_any rfl rfl ?_
      | refine o_anyN rfl rfl ?_
      | refine o_nil ?_
      | refine t_mv rfl rfl ?_
      | refine t_gdY rfl (by first | rfl | assumption | (simp only [decide_eq_true_eq, decide_eq_false_iff_not, beq_iff_eq, bne_iff_ne, beq_eq_false_iff_ne, bne_eq_false_iff_eq, Bool.not_eq_true', Bool.not_eq_false', Bool.not_true, Bool.not_false, ne_eq]; omega)) ?_
      | refine t_gdN rfl (by first | rfl | assumption | (simp only [decide_eq_true_eq, decide_eq_false_iff_not, beq_iff_eq, bne_iff_ne, beq_eq_false_iff_ne, bne_eq_false_iff_eq, Bool.not_eq_true', Bool.not_eq_false', Bool.not_true, Bool.not_false, ne_eq]; omega)) ?_
      | refine t_pass rfl ?_
      | refine t_pickY rfl rfl (by first | rfl | assumption | (simp only [decide_eq_true_eq, decide_eq_false_iff_not, beq_iff_eq, bne_iff_ne, beq_eq_false_iff_ne, bne_eq_false_iff_eq, Bool.not_eq_true', Bool.not_eq_false', Bool.not_true, Bool.not_false, ne_eq]; omega)) rfl ?_
      | refine t_pickN rfl rfl (by first | rfl | assumption | (simp only [decide_eq_true_eq, decide_eq_false_iff_not, beq_iff_eq, bne_iff_ne, beq_eq_false_iff_ne, bne_eq_false_iff_eq, Bool.not_eq_true', Bool.not_eq_false', Bool.not_true, Bool.not_false, ne_eq]; omega)) rfl ?_
      | refine t_add rfl rfl rfl (by first | exact wrap64' (by omega) | exact wrapU64 (by omega) | exact wrapU32 (by omega) | exact wrapU8 (by omega)) ?_
      | refine t_sub rfl rfl rfl (by first | exact wrap64' (by omega) | exact wrapU64 (by omega) | exact wrapU32 (by omega) | exact wrapU8 (by omega)) ?_
      | refine t_mul rfl rfl rfl (by first | exact wrap64' (by omega) | exact wrapU64 (by omega) | exact wrapU32 (by omega) | exact wrapU8 (by omega)) ?_
      | refine t_quo rfl rfl rfl (by omega) (by omega) (by first | exact wrap64' (by omega) | exact wrapU64 (by omega) | exact wrapU32 (by omega) | exact wrapU8 (by omega)) ?_
      | refine t_rem rfl rfl rfl (by omega) (by omega) ?_
      | refine t_conv rfl rfl (by first | exact wrap64' (by omega) | exact wrapU64 (by omega) | exact wrapU32 (by omega) | exact wrapU8 (by omega)) ?_
      | refine t_load1R rfl rfl (by assumption) rfl rfl ?_
      | refine t_loadNR rfl rfl (by assumption) rfl (by first | exact Nat.le_of_ble_eq_true rfl | (simp; done) | omega) rfl ?_
      | refine t_any rfl rfl ?_
      | refine t_anyN rfl rfl ?_
      | (refine t_nil ⟨?_, ?_⟩; focus (repeat (first | exact trivial | rfl | refine And.intro ?_ ?_)))
      | refine w_opsS ?_
      | refine w_ops ?_
      | refine w_condY rfl (by first | rfl | assumption | (simp only [decide_eq_true_eq, decide_eq_false_iff_not, beq_iff_eq, bne_iff_ne, beq_eq_false_iff_ne, bne_eq_false_iff_eq, Bool.not_eq_true', Bool.not_eq_false', Bool.not_true, Bool.not_false, ne_eq]; omega)) ?_
      | refine w_condN rfl (by first | rfl | assumption | (simp only [decide_eq_true_eq, decide_eq_false_iff_not, beq_iff_eq, bne_iff_ne, beq_eq_false_iff_ne, bne_eq_false_iff_eq, Bool.not_eq_true', Bool.not_eq_false', Bool.not_true, Bool.not_false, ne_eq]; omega)) ?_
      | refine w_seq ?_
      | refine w_opsX ?_
      | refine w_block ?_
      | refine w_exit ?_
      | refine w_ret ?_
      | refine w_skip ?_)
    exact (hQ _ h _ rfl hg Only.refl).2 rfl rfl
  | d + 1, t, i, h, ht, hi, hg, hQ => by
    refine w_round ?_
    repeat (first
      | refine o_mv rfl rfl ?_
      | refine o_lenV rfl rfl ?_
      | refine o_gdY rfl (by first | rfl | assumption | (simp only [decide_eq_true_eq, decide_eq_false_iff_not, beq_iff_eq, bne_iff_ne, beq_eq_false_iff_ne, bne_eq_false_iff_eq, Bool.not_eq_true', Bool.not_eq_false', Bool.not_true, Bool.not_false, ne_eq]; omega)) ?_
      | refine o_gdN rfl (by first | rfl | assumption | (simp only [decide_eq_true_eq, decide_eq_false_iff_not, beq_iff_eq, bne_iff_ne, beq_eq_false_iff_ne, bne_eq_false_iff_eq, Bool.not_eq_true', Bool.not_eq_false', Bool.not_true, Bool.not_false, ne_eq]; omega)) ?_
      | refine o_pass rfl ?_
      | refine o_passN rfl ?_
      | refine o_pickY rfl rfl (by first | rfl | assumption | (simp only [decide_eq_true_eq, decide_eq_false_iff_not, beq_iff_eq, bne_iff_ne, beq_eq_false_iff_ne, bne_eq_false_iff_eq, Bool.not_eq_true', Bool.not_eq_false', Bool.not_true, Bool.not_false, ne_eq]; omega)) rfl ?_
      | refine o_pickN rfl rfl (by first | rfl | assumption | (simp only [decide_eq_true_eq, decide_eq_false_iff_not, beq_iff_eq, bne_iff_ne, beq_eq_false_iff_ne, bne_eq_false_iff_eq, Bool.not_eq_true', Bool.not_eq_false', Bool.not_true, Bool.not_false, ne_eq]; omega)) rfl ?_
      | refine o_add rfl rfl rfl (by first | exact wrap64' (by omega) | exact wrapU64 (by omega) | exact wrapU32 (by omega) | exact wrapU8 (by omega)) ?_
      | refine o_sub rfl rfl rfl (by first | exact wrap64' (by omega) | exact wrapU64 (by omega) | exact wrapU32 (by omega) | exact wrapU8 (by omega)) ?_
      | refine o_mul rfl rfl rfl (by first | exact wrap64' (by omega) | exact wrapU64 (by omega) | exact wrapU32 (by omega) | exact wrapU8 (by omega)) ?_
      | refine o_quo rfl rfl rfl (by omega) (by omega) (by first | exact wrap64' (by omega) | exact wrapU64 (by omega) | exact wrapU32 (by omega) | exact wrapU8 (by omega)) ?_
      | refine o_rem rfl rfl rfl (by omega) (by omega) ?_
      | refine o_conv rfl rfl (by first | exact wrap64' (by omega) | exact wrapU64 (by omega) | exact wrapU32 (by omega) | exact wrapU8 (by omega)) ?_
      | refine o_load1R rfl rfl (by assumption) rfl rfl ?_
      | refine o_loadNR rfl rfl (by assumption) rfl (by first | exact Nat.le_of_ble_eq_true rfl | (simp; done) | omega) rfl ?_
      | refine o_storeR rfl rfl rfl rfl rfl (by assumption) (by first | exact Nat.le_of_ble_eq_true rfl | (simp; done) | omega) ?_
      | refine o_any rfl rfl ?_
      | refine o_anyN rfl rfl ?_
      | refine o_nil ?_
      | refine t_mv rfl rfl ?_
      | refine t_gdY rfl (by first | rfl | assumption | (simp only [decide_eq_true_eq, decide_eq_false_iff_not, beq_iff_eq, bne_iff_ne, beq_eq_false_iff_ne, bne_eq_false_iff_eq, Bool.not_eq_true', Bool.not_eq_false', Bool.not_true, Bool.not_false, ne_eq]; omega)) ?_
      | refine t_gdN rfl (by first | rfl | assumption | (simp only [decide_eq_true_eq, decide_eq_false_iff_not, beq_iff_eq, bne_iff_ne, beq_eq_false_iff_ne, bne_eq_false_iff_eq, Bool.not_eq_true', Bool.not_eq_false', Bool.not_true, Bool.not_false, ne_eq]; omega)) ?_
      | refine t_pass rfl ?_
      | refine t_pickY rfl rfl (by first | rfl | assumption | (simp only [decide_eq_true_eq, decide_eq_false_iff_not, beq_iff_eq, bne_iff_ne, beq_eq_false_iff_ne, bne_eq_false_iff_eq, Bool.not_eq_true', Bool.not_eq_false', Bool.not_true, Bool.not_false, ne_eq]; omega)) rfl ?_
      | refine t_pickN rfl rfl (by first | rfl | assumption | (simp only [decide_eq_true_eq, decide_eq_false_iff_not, beq_iff_eq, bne_iff_ne, beq_eq_false_iff_ne, bne_eq_false_iff_eq, Bool.not_eq_true', Bool.not_eq_false', Bool.not_true, Bool.not_false, ne_eq]; omega)) rfl ?_
      | refine t_add rfl rfl rfl (by first | exact wrap64' (by omega) | exact wrapU64 (by omega) | exact wrapU32 (by omega) | exact wrapU8 (by omega)) ?_
      | refine t_sub rfl rfl rfl (by first | exact wrap64' (by omega) | exact wrapU64 (by omega) | exact wrapU32 (by omega) | exact wrapU8 (by omega)) ?_
      | refine t_mul rfl rfl rfl (by first | exact wrap64' (by omega) | exact wrapU64 (by omega) | exact wrapU32 (by omega) | exact wrapU8 (by omega)) ?_
      | refine t_quo rfl rfl rfl (by omega) (by omega) (by first | exact wrap64' (by omega) | exact wrapU64 (by omega) | exact wrapU32 (by omega) | exact wrapU8 (by omega)) ?_
      | refine t_rem rfl rfl rfl (by omega) (by omega) ?_
      | refine t_conv rfl rfl (by first | exact wrap64' (by omega) | exact wrapU64 (by omega) | exact wrapU32 (by omega) | exact wrapU8 (by omega)) ?_
      | refine t_load1R rfl rfl (by assumption) rfl rfl ?_
      | refine t_loadNR rfl rfl (by assumption) rfl (by first | exact Nat.le_of_ble_eq_true rfl | (simp; done) | omega) rfl ?_
      | refine t_any rfl rfl ?_
      | refine t_anyN rfl rfl ?_
      | (refine t_nil ⟨?_, ?_⟩; focus (repeat (first | exact trivial | rfl | refine And.intro ?_ ?_)))
      | refine w_opsS ?_
      | refine w_ops ?_
      | refine w_condY rfl (by first | rfl | assumption | (simp only [decide_eq_true_eq, decide_eq_false_iff_not, beq_iff_eq, bne_iff_ne, beq_eq_false_iff_ne, bne_eq_false_iff_eq, Bool.not_eq_true', Bool.not_eq_false', Bool.not_true, Bool.not_false, ne_eq]; omega)) ?_
      | refine w_condN rfl (by first | rfl | assumption | (simp only [decide_eq_true_eq, decide_eq_false_iff_not, beq_iff_eq, bne_iff_ne, beq_eq_false_iff_ne, bne_eq_false_iff_eq, Bool.not_eq_true', Bool.not_eq_false', Bool.not_true, Bool.not_false, ne_eq]; omega)) ?_
      | refine w_seq ?_
      | refine w_opsX ?_
      | refine w_block ?_
      | refine w_exit ?_
      | refine w_ret ?_
      | refine w_skip ?_)
    refine o_call rfl rfl (nextC hp hf k B hs hb i (by omega) h c hg) ?_
    rintro v h1 ⟨rfl, hg1, ho1⟩
    by_cases hc : cutN n = 0 ∨ (W B i : Int) < cutN n
    · have hq : (W B i : Int) % n = (W B i : Int) % n := rfl
      by_cases hc0 : cutN n = 0
      · repeat (first
          | refine o_mv rfl rfl ?_
          | refine o_lenV rfl rfl ?_
          | refine o_gdY rfl (by first | rfl | assumption | (simp only [decide_eq_true_eq, decide_eq_false_iff_not, beq_iff_eq, bne_iff_ne, beq_eq_false_iff_ne, bne_eq_false_iff_eq, Bool.not_eq_true', Bool.not_eq_false', Bool.not_true, Bool.not_false, ne_eq]; omega)) ?_
          | refine o_gdN rfl (by first | rfl | assumption | (simp only [decide_eq_true_eq, decide_eq_false_iff_not, beq_iff_eq, bne_iff_ne, beq_eq_false_iff_ne, bne_eq_false_iff_eq, Bool.not_eq_true', Bool.not_eq_false', Bool.not_true, Bool.not_false, ne_eq]; omega)) ?_
          | refine o_pass rfl ?_
          | refine o_passN rfl ?_
          | refine o_pickY rfl rfl (by first | rfl | assumption | (simp only [decide_eq_true_eq, decide_eq_false_iff_not, beq_iff_eq, bne_iff_ne, beq_eq_false_iff_ne, bne_eq_false_iff_eq, Bool.not_eq_true', Bool.not_eq_false', Bool.not_true, Bool.not_false, ne_eq]; omega)) rfl ?_
          | refine o_pickN rfl rfl (by first | rfl | assumption | (simp only [decide_eq_true_eq, decide_eq_false_iff_not, beq_iff_eq, bne_iff_ne, beq_eq_false_iff_ne, bne_eq_false_iff_eq, Bool.not_eq_true', Bool.not_eq_false', Bool.not_true, Bool.not_false, ne_eq]; omega)) rfl ?_
          | refine o_add rfl rfl rfl (by first | exact wrap64' (by omega) | exact wrapU64 (by omega) | exact wrapU32 (by omega) | exact wrapU8 (by omega)) ?_
          | refine o_sub rfl rfl rfl (by first | exact wrap64' (by omega) | exact wrapU64 (by omega) | exact wrapU32 (by omega) | exact wrapU8 (by omega)) ?_
          | refine o_mul rfl rfl rfl (by first | exact wrap64' (by omega) | exact wrapU64 (by omega) | exact wrapU32 (by omega) | exact wrapU8 (by omega)) ?_
          | refine o_quo rfl rfl rfl (by omega) (by omega) (by first | exact wrap64' (by omega) | exact wrapU64 (by omega) | exact wrapU32 (by omega) | exact wrapU8 (by omega)) ?_
          | refine o_rem rfl rfl rfl (by omega) (by omega) ?_
          | refine o_conv rfl rfl (by first | exact wrap64' (by omega) | exact wrapU64 (by omega) | exact wrapU32 (by omega) | exact wrapU8 (by omega)) ?_
          | refine o_load1R rfl rfl (by assumption) rfl rfl ?_
          | refine o_loadNR rfl rfl (by assumption) rfl (by first | exact Nat.le_of_ble_eq_true rfl | (simp; done) | omega) rfl ?_
          | refine o_storeR rfl rfl rfl rfl rfl (by assumption) (by first | exact Nat.le_of_ble_eq_true rfl | (simp; done) | omega) ?_
          | refine o_any rfl rfl ?_
          | refine o_anyN rfl rfl ?_
          | refine o_nil ?_
          | refine t_mv rfl rfl ?_
          | refine t_gdY rfl (by first | rfl | assumption | (simp only [decide_eq_true_eq, decide_eq_false_iff_not, beq_iff_eq, bne_iff_ne, beq_eq_false_iff_ne, bne_eq_false_iff_eq, Bool.not_eq_true', Bool.not_eq_false', Bool.not_true, Bool.not_false, ne_eq]; omega)) ?_
          | refine t_gdN rfl (by first | rfl | assumption | (simp only [decide_eq_true_eq, decide_eq_false_iff_not, beq_iff_eq, bne_iff_ne, beq_eq_false_iff_ne, bne_eq_false_iff_eq, Bool.not_eq_true', Bool.not_eq_false', Bool.not_true, Bool.not_false, ne_eq]; omega)) ?_
          | refine t_pass rfl ?_
          | refine t_pickY rfl rfl (by first | rfl | assumption | (simp only [decide_eq_true_eq, decide_eq_false_iff_not, beq_iff_eq, bne_iff_ne, beq_eq_false_iff_ne, bne_eq_false_iff_eq, Bool.not_eq_true', Bool.not_eq_false', Bool.not_true, Bool.not_false, ne_eq]; omega)) rfl ?_
          | refine t_pickN rfl rfl (by first | rfl | assumption | (simp only [decide_eq_true_eq, decide_eq_false_iff_not, beq_iff_eq, bne_iff_ne, beq_eq_false_iff_ne, bne_eq_false_iff_eq, Bool.not_eq_true', Bool.not_eq_false', Bool.not_true, Bool.not_false, ne_eq]; omega)) rfl ?_
          | refine t_add rfl rfl rfl (by first | exact wrap64' (by omega) | exact wrapU64 (by omega) | exact wrapU32 (by omega) | exact wrapU8 (by omega)) ?_
          | refine t_sub rfl rfl rfl (by first | exact wrap64' (by omega) | exact wrapU64 (by omega) | exact wrapU32 (by omega) | exact wrapU8 (by omega)) ?_
          | refine t_mul rfl rfl rfl (by first | exact wrap64' (by omega) | exact wrapU64 (by omega) | exact wrapU32 (by omega) | exact wrapU8 (by omega)) ?_
          | refine t_quo rfl rfl rfl (by omega) (by omega) (by first | exact wrap64' (by omega) | exact wrapU64 (by omega) | exact wrapU32 (by omega) | exact wrapU8 (by omega)) ?_
          | refine t_rem rfl rfl rfl (by omega) (by omega) ?_
          | refine t_conv rfl rfl (by first | exact wrap64' (by omega) | exact wrapU64 (by omega) | exact wrapU32 (by omega) | exact wrapU8 (by omega)) ?_
          | refine t_load1R rfl rfl (by assumption) rfl rfl ?_
          | refine t_loadNR rfl rfl (by assumption) rfl (by first | exact Nat.le_of_ble_eq_true rfl | (simp; done) | omega) rfl ?_
          | refine t_any rfl rfl ?_
          | refine t_anyN rfl rfl ?_
          | (refine t_nil ⟨?_, ?_⟩; focus (repeat (first | exact trivial | rfl | refine And.intro ?_ ?_)))
          | refine w_opsS ?_
          | refine w_ops ?_
          | refine w_condY rfl (by first | rfl | assumption | (simp only [decide_eq_true_eq, decide_eq_false_iff_not, beq_iff_eq, bne_iff_ne, beq_eq_false_iff_ne, bne_eq_false_iff_eq, Bool.not_eq_true', Bool.not_eq_false', Bool.not_true, Bool.not_false, ne_eq]; omega)) ?_
          | refine w_condN rfl (by first | rfl | assumption | (simp only [decide_eq_true_eq, decide_eq_false_iff_not, beq_iff_eq, bne_iff_ne, beq_eq_false_iff_ne, bne_eq_false_iff_eq, Bool.not_eq_true', Bool.not_eq_false', Bool.not_true, Bool.not_false, ne_eq]; omega)) ?_
          | refine w_seq ?_
          | refine w_opsX ?_
          | refine w_block ?_
          | refine w_exit ?_
          | refine w_ret ?_
          | refine w_skip ?_)
        refine (hQ _ h1 _ rfl (by simp only [belowN]; rw [if_pos hc]; exact hg1) ho1).1 _ (by simp only [belowN]; rw [if_pos hc]) ?_
        simp only [belowN]
        rw [if_pos hc]
        rfl
      · have hc1 : (W B i : Int) < cutN n := by omega
        repeat (first
          | refine o_mv rfl rfl ?_
          | refine o_lenV rfl rfl ?_
          | refine o_gdY rfl (by first | rfl | assumption | (simp only [decide_eq_true_eq, decide_eq_false_iff_not, beq_iff_eq, bne_iff_ne, beq_eq_false_iff_ne, bne_eq_false_iff_eq, Bool.not_eq_true', Bool.not_eq_false', Bool.not_true, Bool.not_false, ne_eq]; omega)) ?_
          | refine o_gdN rfl (by first | rfl | assumption | (simp only [decide_eq_true_eq, decide_eq_false_iff_not, beq_iff_eq, bne_iff_ne, beq_eq_false_iff_ne, bne_eq_false_iff_eq, Bool.not_eq_true', Bool.not_eq_false', Bool.not_true, Bool.not_false, ne_eq]; omega)) ?_
          | refine o_pass rfl ?_
          | refine o_passN rfl ?_
          | refine o_pickY rfl rfl (by first | rfl | assumption | (simp only [decide_eq_true_eq, decide_eq_false_iff_not, beq_iff_eq, bne_iff_ne, beq_eq_false_iff_ne, bne_eq_false_iff_eq, Bool.not_eq_true', Bool.not_eq_false', Bool.not_true, Bool.not_false, ne_eq]; omega)) rfl ?_
          | refine o_pickN rfl rfl (by first | rfl | assumption | (simp only [decide_eq_true_eq, decide_eq_false_iff_not, beq_iff_eq, bne_iff_ne, beq_eq_false_iff_ne, bne_eq_false_iff_eq, Bool.not_eq_true', Bool.not_eq_false', Bool.not_true, Bool.not_false, ne_eq]; omega)) rfl ?_
          | refine o_add rfl rfl rfl (by first | exact wrap64' (by omega) | exact wrapU64 (by omega) | exact wrapU32 (by omega) | exact wrapU8 (by omega)) ?_
          | refine o_sub rfl rfl rfl (by first | exact wrap64' (by omega) | exact wrapU64 (by omega) | exact wrapU32 (by omega) | exact wrapU8 (by omega)) ?_
          | refine o_mul rfl rfl rfl (by first | exact wrap64' (by omega) | exact wrapU64 (by omega) | exact wrapU32 (by omega) | exact wrapU8 (by omega)) ?_
          | refine o_quo rfl rfl rfl (by omega) (by omega) (by first | exact wrap64' (by omega) | exact wrapU64 (by omega) | exact wrapU32 (by omega) | exact wrapU8 (by omega)) ?_
          | refine o_rem rfl rfl rfl (by omega) (by omega) ?_
          | refine o_conv rfl rfl (by first | exact wrap64' (by omega) | exact wrapU64 (by omega) | exact wrapU32 (by omega) | exact wrapU8 (by omega)) ?_
          | refine o_load1R rfl rfl (by assumption) rfl rfl ?_
          | refine o_loadNR rfl rfl (by assumption) rfl (by first | exact Nat.le_of_ble_eq_true rfl | (simp; done) | omega) rfl ?_
          | refine o_storeR rfl rfl rfl rfl rfl (by assumption) (by first | exact Nat.le_of_ble_eq_true rfl | (simp; done) | omega) ?_
          | refine o_any rfl rfl ?_
          | refine o_anyN rfl rfl ?_
          | refine o_nil ?_
          | refine t_mv rfl rfl ?_
          | refine t_gdY rfl (by first | rfl | assumption | (simp only [decide_eq_true_eq, decide_eq_false_iff_not, beq_iff_eq, bne_iff_ne, beq_eq_false_iff_ne, bne_eq_false_iff_eq, Bool.not_eq_true', Bool.not_eq_false', Bool.not_true, Bool.not_false, ne_eq]; omega)) ?_
          | refine t_gdN rfl (by first | rfl | assumption | (simp only [decide_eq_true_eq, decide_eq_false_iff_not, beq_iff_eq, bne_iff_ne, beq_eq_false_iff_ne, bne_eq_false_iff_eq, Bool.not_eq_true', Bool.not_eq_false', Bool.not_true, Bool.not_false, ne_eq]; omega)) ?_
          | refine t_pass rfl ?_
          | refine t_pickY rfl rfl (by first | rfl | assumption | (simp only [decide_eq_true_eq, decide_eq_false_iff_not, beq_iff_eq, bne_iff_ne, beq_eq_false_iff_ne, bne_eq_false_iff_eq, Bool.not_eq_true', Bool.not_eq_false', Bool.not_true, Bool.not_false, ne_eq]; omega)) rfl ?_
          | refine t_pickN rfl rfl (by first | rfl | assumption | (simp only [decide_eq_true_eq, decide_eq_false_iff_not, beq_iff_eq, bne_iff_ne, beq_eq_false_iff_ne, bne_eq_false_iff_eq, Bool.not_eq_true', Bool.not_eq_false', Bool.not_true, Bool.not_false, ne_eq]; omega)) rfl ?_
          | refine t_add rfl rfl rfl (by first | exact wrap64' (by omega) | exact wrapU64 (by omega) | exact wrapU32 (by omega) | exact wrapU8 (by omega)) ?_
          | refine t_sub rfl rfl rfl (by first | exact wrap64' (by omega) | exact wrapU64 (by omega) | exact wrapU32 (by omega) | exact wrapU8 (by omega)) ?_
          | refine t_mul rfl rfl rfl (by first | exact wrap64' (by omega) | exact wrapU64 (by omega) | exact wrapU32 (by omega) | exact wrapU8 (by omega)) ?_
          | refine t_quo rfl rfl rfl (by omega) (by omega) (by first | exact wrap64' (by omega) | exact wrapU64 (by omega) | exact wrapU32 (by omega) | exact wrapU8 (by omega)) ?_
          | refine t_rem rfl rfl rfl (by omega) (by omega) ?_
          | refine t_conv rfl rfl (by first | exact wrap64' (by omega) | exact wrapU64 (by omega) | exact wrapU32 (by omega) | exact wrapU8 (by omega)) ?_
          | refine t_load1R rfl rfl (by assumption) rfl rfl ?_
          | refine t_loadNR rfl rfl (by assumption) rfl (by first | exact Nat.le_of_ble_eq_true rfl | (simp; done) | omega) rfl ?_
          | refine t_any rfl rfl ?_
          | refine t_anyN rfl rfl ?_
          | (refine t_nil ⟨?_, ?_⟩; focus (repeat (first | exact trivial | rfl | refine And.intro ?_ ?_)))
          | refine w_opsS ?_
          | refine w_ops ?_
          | refine w_condY rfl (by first | rfl | assumption | (simp only [decide_eq_true_eq, decide_eq_false_iff_not, beq_iff_eq, bne_iff_ne, beq_eq_false_iff_ne, bne_eq_false_iff_eq, Bool.not_eq_true', Bool.not_eq_false', Bool.not_true, Bool.not_false, ne_eq]; omega)) ?_
          | refine w_condN rfl (by first | rfl | assumption | (simp only [decide_eq_true_eq, decide_eq_false_iff_not, beq_iff_eq, bne_iff_ne, beq_eq_false_iff_ne, bne_eq_false_iff_eq, Bool.not_eq_true', Bool.not_eq_false', Bool.not_true, Bool.not_false, ne_eq]; omega)) ?_
          | refine w_seq ?_
          | refine w_opsX ?_
          | refine w_block ?_
          | refine w_exit ?_
          | refine w_ret ?_
          | refine w_skip ?_)
        refine (hQ _ h1 _ rfl (by simp only [belowN]; rw [if_pos hc]; exact hg1) ho1).1 _ (by simp only [belowN]; rw [if_pos hc]) ?_
        simp only [belowN]
        rw [if_pos hc]
        rfl
    · have hc0 : ¬ cutN n = 0 := by omega
      have hc1 : ¬ (W B i : Int) < cutN n := by omega
      repeat (first
        | refine o_mv rfl rfl ?_
        | refine o_lenV rfl rfl ?_
        | refine o_gdY rfl (by first | rfl | assumption | (simp only [decide_eq_true_eq, decide_eq_false_iff_not, beq_iff_eq, bne_iff_ne, beq_eq_false_iff_ne, bne_eq_false_iff_eq, Bool.not_eq_true', Bool.not_eq_false', Bool.not_true, Bool.not_false, ne_eq]; omega)) ?_
        | refine o_gdN rfl (by first | rfl | assumption | (simp only [decide_eq_true_eq, decide_eq_false_iff_not, beq_iff_eq, bne_iff_ne, beq_eq_false_iff_ne, bne_eq_false_iff_eq, Bool.not_eq_true', Bool.not_eq_false', Bool.not_true, Bool.not_false, ne_eq]; omega)) ?_
        | refine o_pass rfl ?_
        | refine o_passN rfl ?_
        | refine o_pickY rfl rfl (by first | rfl | assumption | (simp only [decide_eq_true_eq, decide_eq_false_iff_not, beq_iff_eq, bne_iff_ne, beq_eq_false_iff_ne, bne_eq_false_iff_eq, Bool.not_eq_true', Bool.not_eq_false', Bool.not_true, Bool.not_false, ne_eq]; omega)) rfl ?_
        | refine o_pickN rfl rfl (by first | rfl | assumption | (simp only [decide_eq_true_eq, decide_eq_false_iff_not, beq_iff_eq, bne_iff_ne, beq_eq_false_iff_ne, bne_eq_false_iff_eq, Bool.not_eq_true', Bool.not_eq_false', Bool.not_true, Bool.not_false, ne_eq]; omega)) rfl ?_
        | refine o_add rfl rfl rfl (by first | exact wrap64' (by omega) | exact wrapU64 (by omega) | exact wrapU32 (by omega) | exact wrapU8 (by omega)) ?_
        | refine o_sub rfl rfl rfl (by first | exact wrap64' (by omega) | exact wrapU64 (by omega) | exact wrapU32 (by omega) | exact wrapU8 (by omega)) ?_
        | refine o_mul rfl rfl rfl (by first | exact wrap64' (by omega) | exact wrapU64 (by omega) | exact wrapU32 (by omega) | exact wrapU8 (by omega)) ?_
        | refine o_quo rfl rfl rfl (by omega) (by omega) (by first | exact wrap64' (by omega) | exact wrapU64 (by omega) | exact wrapU32 (by omega) | exact wrapU8 (by omega)) ?_
        | refine o_rem rfl rfl rfl (by omega) (by omega) ?_
        | refine o_conv rfl rfl (by first | exact wrap64' (by omega) | exact wrapU64 (by omega) | exact wrapU32 (by omega) | exact wrapU8 (by omega)) ?_
        | refine o_load1R rfl rfl (by assumption) rfl rfl ?_
        | refine o_loadNR rfl rfl (by assumption) rfl (by first | exact Nat.le_of_ble_eq_true rfl | (simp; done) | omega) rfl ?_
        | refine o_storeR rfl rfl rfl rfl rfl (by assumption) (by first | exact Nat.le_of_ble_eq_true rfl | (simp; done) | omega) ?_
        | refine o_any rfl rfl ?_
        | refine o_anyN rfl rfl ?_
        | refine o_nil ?_
        | refine t_mv rfl rfl ?_
        | refine t_gdY rfl (by first | rfl | assumption | (simp only [decide_eq_true_eq, decide_eq_false_iff_not, beq_iff_eq, bne_iff_ne, beq_eq_false_iff_ne, bne_eq_false_iff_eq, Bool.not_eq_true', Bool.not_eq_false', Bool.not_true, Bool.not_false, ne_eq]; omega)) ?_
        | refine t_gdN rfl (by first | rfl | assumption | (simp only [decide_eq_true_eq, decide_eq_false_iff_not, beq_iff_eq, bne_iff_ne, beq_eq_false_iff_ne, bne_eq_false_iff_eq, Bool.not_eq_true', Bool.not_eq_false', Bool.not_true, Bool.not_false, ne_eq]; omega)) ?_
        | refine t_pass rfl ?_
        | refine t_pickY rfl rfl (by first | rfl | assumption | (simp only [decide_eq_true_eq, decide_eq_false_iff_not, beq_iff_eq, bne_iff_ne, beq_eq_false_iff_ne, bne_eq_false_iff_eq, Bool.not_eq_true', Bool.not_eq_false', Bool.not_true, Bool.not_false, ne_eq]; omega)) rfl ?_
        | refine t_pickN rfl rfl (by first | rfl | assumption | (simp only [decide_eq_true_eq, decide_eq_false_iff_not, beq_iff_eq, bne_iff_ne, beq_eq_false_iff_ne, bne_eq_false_iff_eq, Bool.not_eq_true', Bool.not_eq_false', Bool.not_true, Bool.not_false, ne_eq]; omega)) rfl ?_
        | refine t_add rfl rfl rfl (by first | exact wrap64' (by omega) | exact wrapU64 (by omega) | exact wrapU32 (by omega) | exact wrapU8 (by omega)) ?_
        | refine t_sub rfl rfl rfl (by first | exact wrap64' (by omega) | exact wrapU64 (by omega) | exact wrapU32 (by omega) | exact wrapU8 (by omega)) ?_
        | refine t_mul rfl rfl rfl (by first | exact wrap64' (by omega) | exact wrapU64 (by omega) | exact wrapU32 (by omega) | exact wrapU8 (by omega)) ?_
        | refine t_quo rfl rfl rfl (by omega) (by omega) (by first | exact wrap64' (by omega) | exact wrapU64 (by omega) | exact wrapU32 (by omega) | exact wrapU8 (by omega)) ?_
        | refine t_rem rfl rfl rfl (by omega) (by omega) ?_
        | refine t_conv rfl rfl (by first | exact wrap64' (by omega) | exact wrapU64 (by omega) | exact wrapU32 (by omega) | exact wrapU8 (by omega)) ?_
        | refine t_load1R rfl rfl (by assumption) rfl rfl ?_
        | refine t_loadNR rfl rfl (by assumption) rfl (by first | exact Nat.le_of_ble_eq_true rfl | (simp; done) | omega) rfl ?_
        | refine t_any rfl rfl ?_
        | refine t_anyN rfl rfl ?_
        | (refine t_nil ⟨?_, ?_⟩; focus (repeat (first | exact trivial | rfl | refine And.intro ?_ ?_)))
        | refine w_opsS ?_
        | refine w_ops ?_
        | refine w_condY rfl (by first | rfl | assumption | (simp only [decide_eq_true_eq, decide_eq_false_iff_not, beq_iff_eq, bne_iff_ne, beq_eq_false_iff_ne, bne_eq_false_iff_eq, Bool.not_eq_true', Bool.not_eq_false', Bool.not_true, Bool.not_false, ne_eq]; omega)) ?_
        | refine w_condN rfl (by first | rfl | assumption | (simp only [decide_eq_true_eq, decide_eq_false_iff_not, beq_iff_eq, bne_iff_ne, beq_eq_false_iff_ne, bne_eq_false_iff_eq, Bool.not_eq_true', Bool.not_eq_false', Bool.not_true, Bool.not_false, ne_eq]; omega)) ?_
        | refine w_seq ?_
        | refine w_opsX ?_
        | refine w_block ?_
        | refine w_exit ?_
        | refine w_ret ?_
        | refine w_skip ?_)
      refine rnd_again rfl ?_
      refine belowLoop k B hs hb n hn c Q d (t + 1) (i + 1) h1 (by omega) (by omega) hg1 ?_
      intro f h' r hr hg' ho'
      refine hQ f h' r ?_ hg' (ho1.trans ho')
      simp only [belowN]
      rw [if_neg hc]
      exact hr

theorem belowC (k : Nat → Int) (B : Nat → ByteArray) (hs : ∀ c, (B c).size = 64) (hb : ∀ c : Nat, c < 4294967295 → ∀ h, Cl M F_chacha_Block [.agg (keyL k).toArray, .string nonce3, .int .u32 c] h fun v h' => v = .tuple #[.string (B c), .int .i64 0] ∧ h' = h)
    (n : Int) (hn : 0 < n ∧ n < 18446744073709551616) (c i : Nat) (hi : i + 64 < 1000000) (h : Heap) (hg : h.get? c = some (.rw (srcL k i))) :
    Cl M F_prg_Source_Below [.pointer (some ⟨c, 0, none⟩), .int .u64 n] h fun v h' => v = belowV (belowN (W B) n 64 i).1 ∧ h'.get? c = some (.rw (srcL k (belowN (W B) n 64 i).2)) ∧ Only h h' c := by
  refine w_call (F := M_prg_Source_Below) (by rw [hf]; rfl) rfl ?_
  repeat (first
    | refine o_mv rfl rfl ?_
    | refine o_lenV rfl rfl ?_
    | refine o_gdY rfl (by first | rfl | assumption | (simp only [decide_eq_true_eq, decide_eq_false_iff_not, beq_iff_eq, bne_iff_ne, beq_eq_false_iff_ne, bne_eq_false_iff_eq, Bool.not_eq_true', Bool.not_eq_false', Bool.not_true, Bool.not_false, ne_eq]; omega)) ?_
    | refine o_gdN rfl (by first | rfl | assumption | (simp only [decide_eq_true_eq, decide_eq_false_iff_not, beq_iff_eq, bne_iff_ne, beq_eq_false_iff_ne, bne_eq_false_iff_eq, Bool.not_eq_true', Bool.not_eq_false', Bool.not_true, Bool.not_false, ne_eq]; omega)) ?_
    | refine o_pass rfl ?_
    | refine o_passN rfl ?_
    | refine o_pickY rfl rfl (by first | rfl | assumption | (simp only [decide_eq_true_eq, decide_eq_false_iff_not, beq_iff_eq, bne_iff_ne, beq_eq_false_iff_ne, bne_eq_false_iff_eq, Bool.not_eq_true', Bool.not_eq_false', Bool.not_true, Bool.not_false, ne_eq]; omega)) rfl ?_
    | refine o_pickN rfl rfl (by first | rfl | assumption | (simp only [decide_eq_true_eq, decide_eq_false_iff_not, beq_iff_eq, bne_iff_ne, beq_eq_false_iff_ne, bne_eq_false_iff_eq, Bool.not_eq_true', Bool.not_eq_false', Bool.not_true, Bool.not_false, ne_eq]; omega)) rfl ?_
    | (refine o_call rfl rfl (cutC hp hf n hn _) ?_; rintro v h' ⟨rfl, rfl⟩)
    | refine o_add rfl rfl rfl (by first | exact wrap64' (by omega) | exact wrapU64 (by omega) | exact wrapU32 (by omega) | exact wrapU8 (by omega)) ?_
    | refine o_sub rfl rfl rfl (by first | exact wrap64' (by omega) | exact wrapU64 (by omega) | exact wrapU32 (by omega) | exact wrapU8 (by omega)) ?_
    | refine o_mul rfl rfl rfl (by first | exact wrap64' (by omega) | exact wrapU64 (by omega) | exact wrapU32 (by omega) | exact wrapU8 (by omega)) ?_
    | refine o_quo rfl rfl rfl (by omega) (by omega) (by first | exact wrap64' (by omega) | exact wrapU64 (by omega) | exact wrapU32 (by omega) | exact wrapU8 (by omega)) ?_
    | refine o_rem rfl rfl rfl (by omega) (by omega) ?_
    | refine o_conv rfl rfl (by first | exact wrap64' (by omega) | exact wrapU64 (by omega) | exact wrapU32 (by omega) | exact wrapU8 (by omega)) ?_
    | refine o_load1R rfl rfl (by assumption) rfl rfl ?_
    | refine o_loadNR rfl rfl (by assumption) rfl (by first | exact Nat.le_of_ble_eq_true rfl | (simp; done) | omega) rfl ?_
    | refine o_storeR rfl rfl rfl rfl rfl (by assumption) (by first | exact Nat.le_of_ble_eq_true rfl | (simp; done) | omega) ?_
    | refine o_any rfl rfl ?_
    | refine o_anyN rfl rfl ?_
    | refine o_nil ?_
    | refine t_mv rfl rfl ?_
    | refine t_gdY rfl (by first | rfl | assumption | (simp only [decide_eq_true_eq, decide_eq_false_iff_not, beq_iff_eq, bne_iff_ne, beq_eq_false_iff_ne, bne_eq_false_iff_eq, Bool.not_eq_true', Bool.not_eq_false', Bool.not_true, Bool.not_false, ne_eq]; omega)) ?_
    | refine t_gdN rfl (by first | rfl | assumption | (simp only [decide_eq_true_eq, decide_eq_false_iff_not, beq_iff_eq, bne_iff_ne, beq_eq_false_iff_ne, bne_eq_false_iff_eq, Bool.not_eq_true', Bool.not_eq_false', Bool.not_true, Bool.not_false, ne_eq]; omega)) ?_
    | refine t_pass rfl ?_
    | refine t_pickY rfl rfl (by first | rfl | assumption | (simp only [decide_eq_true_eq, decide_eq_false_iff_not, beq_iff_eq, bne_iff_ne, beq_eq_false_iff_ne, bne_eq_false_iff_eq, Bool.not_eq_true', Bool.not_eq_false', Bool.not_true, Bool.not_false, ne_eq]; omega)) rfl ?_
    | refine t_pickN rfl rfl (by first | rfl | assumption | (simp only [decide_eq_true_eq, decide_eq_false_iff_not, beq_iff_eq, bne_iff_ne, beq_eq_false_iff_ne, bne_eq_false_iff_eq, Bool.not_eq_true', Bool.not_eq_false', Bool.not_true, Bool.not_false, ne_eq]; omega)) rfl ?_
    | (refine t_call rfl rfl (cutC hp hf n hn _) ?_; rintro v h' ⟨rfl, rfl⟩)
    | refine t_add rfl rfl rfl (by first | exact wrap64' (by omega) | exact wrapU64 (by omega) | exact wrapU32 (by omega) | exact wrapU8 (by omega)) ?_
    | refine t_sub rfl rfl rfl (by first | exact wrap64' (by omega) | exact wrapU64 (by omega) | exact wrapU32 (by omega) | exact wrapU8 (by omega)) ?_
    | refine t_mul rfl rfl rfl (by first | exact wrap64' (by omega) | exact wrapU64 (by omega) | exact wrapU32 (by omega) | exact wrapU8 (by omega)) ?_
    | refine t_quo rfl rfl rfl (by omega) (by omega) (by first | exact wrap64' (by omega) | exact wrapU64 (by omega) | exact wrapU32 (by omega) | exact wrapU8 (by omega)) ?_
    | refine t_rem rfl rfl rfl (by omega) (by omega) ?_
    | refine t_conv rfl rfl (by first | exact wrap64' (by omega) | exact wrapU64 (by omega) | exact wrapU32 (by omega) | exact wrapU8 (by omega)) ?_
    | refine t_load1R rfl rfl (by assumption) rfl rfl ?_
    | refine t_loadNR rfl rfl (by assumption) rfl (by first | exact Nat.le_of_ble_eq_true rfl | (simp; done) | omega) rfl ?_
    | refine t_any rfl rfl ?_
    | refine t_anyN rfl rfl ?_
    | (refine t_nil ⟨?_, ?_⟩; focus (repeat (first | exact trivial | rfl | refine And.intro ?_ ?_)))
    | refine w_opsS ?_
    | refine w_ops ?_
    | refine w_condY rfl (by first | rfl | assumption | (simp only [decide_eq_true_eq, decide_eq_false_iff_not, beq_iff_eq, bne_iff_ne, beq_eq_false_iff_ne, bne_eq_false_iff_eq, Bool.not_eq_true', Bool.not_eq_false', Bool.not_true, Bool.not_false, ne_eq]; omega)) ?_
    | refine w_condN rfl (by first | rfl | assumption | (simp only [decide_eq_true_eq, decide_eq_false_iff_not, beq_iff_eq, bne_iff_ne, beq_eq_false_iff_ne, bne_eq_false_iff_eq, Bool.not_eq_true', Bool.not_eq_false', Bool.not_true, Bool.not_false, ne_eq]; omega)) ?_
    | refine w_seq ?_
    | refine w_opsX ?_
    | refine w_block ?_
    | refine w_exit ?_
    | refine w_ret ?_
    | refine w_skip ?_)
  refine w_loop rfl ?_
  refine belowLoop hp hf k B hs hb n hn c _ 64 0 i _ rfl (by omega) hg ?_
  rintro f h' r hr hg' ho'
  refine ⟨fun j hj hv => ?_, fun hj hf' => ?_⟩
  · exact ⟨.inr rfl, _, hv, by rw [hr], by rw [hr]; exact hg', ho'⟩
  · subst hf'
    repeat (first
      | refine o_mv rfl rfl ?_
      | refine o_lenV rfl rfl ?_
      | refine o_gdY rfl (by first | rfl | assumption | (simp only [decide_eq_true_eq, decide_eq_false_iff_not, beq_iff_eq, bne_iff_ne, beq_eq_false_iff_ne, bne_eq_false_iff_eq, Bool.not_eq_true', Bool.not_eq_false', Bool.not_true, Bool.not_false, ne_eq]; omega)) ?_
      | refine o_gdN rfl (by first | rfl | assumption | (simp only [decide_eq_true_eq, decide_eq_false_iff_not, beq_iff_eq, bne_iff_ne, beq_eq_false_iff_ne, bne_eq_false_iff_eq, Bool.not_eq_true', Bool.not_eq_false', Bool.not_true, Bool.not_false, ne_eq]; omega)) ?_
      | refine o_pass rfl ?_
      | refine o_passN rfl ?_
      | refine o_pickY rfl rfl (by first | rfl | assumption | (simp only [decide_eq_true_eq, decide_eq_false_iff_not, beq_iff_eq, bne_iff_ne, beq_eq_false_iff_ne, bne_eq_false_iff_eq, Bool.not_eq_true', Bool.not_eq_false', Bool.not_true, Bool.not_false, ne_eq]; omega)) rfl ?_
      | refine o_pickN rfl rfl (by first | rfl | assumption | (simp only [decide_eq_true_eq, decide_eq_false_iff_not, beq_iff_eq, bne_iff_ne, beq_eq_false_iff_ne, bne_eq_false_iff_eq, Bool.not_eq_true', Bool.not_eq_false', Bool.not_true, Bool.not_false, ne_eq]; omega)) rfl ?_
      | refine o_add rfl rfl rfl (by first | exact wrap64' (by omega) | exact wrapU64 (by omega) | exact wrapU32 (by omega) | exact wrapU8 (by omega)) ?_
      | refine o_sub rfl rfl rfl (by first | exact wrap64' (by omega) | exact wrapU64 (by omega) | exact wrapU32 (by omega) | exact wrapU8 (by omega)) ?_
      | refine o_mul rfl rfl rfl (by first | exact wrap64' (by omega) | exact wrapU64 (by omega) | exact wrapU32 (by omega) | exact wrapU8 (by omega)) ?_
      | refine o_quo rfl rfl rfl (by omega) (by omega) (by first | exact wrap64' (by omega) | exact wrapU64 (by omega) | exact wrapU32 (by omega) | exact wrapU8 (by omega)) ?_
      | refine o_rem rfl rfl rfl (by omega) (by omega) ?_
      | refine o_conv rfl rfl (by first | exact wrap64' (by omega) | exact wrapU64 (by omega) | exact wrapU32 (by omega) | exact wrapU8 (by omega)) ?_
      | refine o_load1R rfl rfl (by assumption) rfl rfl ?_
      | refine o_loadNR rfl rfl (by assumption) rfl (by first | exact Nat.le_of_ble_eq_true rfl | (simp; done) | omega) rfl ?_
      | refine o_storeR rfl rfl rfl rfl rfl (by assumption) (by first | exact Nat.le_of_ble_eq_true rfl | (simp; done) | omega) ?_
      | refine o_any rfl rfl ?_
      | refine o_anyN rfl rfl ?_
      | refine o_nil ?_
      | refine t_mv rfl rfl ?_
      | refine t_gdY rfl (by first | rfl | assumption | (simp only [decide_eq_true_eq, decide_eq_false_iff_not, beq_iff_eq, bne_iff_ne, beq_eq_false_iff_ne, bne_eq_false_iff_eq, Bool.not_eq_true', Bool.not_eq_false', Bool.not_true, Bool.not_false, ne_eq]; omega)) ?_
      | refine t_gdN rfl (by first | rfl | assumption | (simp only [decide_eq_true_eq, decide_eq_false_iff_not, beq_iff_eq, bne_iff_ne, beq_eq_false_iff_ne, bne_eq_false_iff_eq, Bool.not_eq_true', Bool.not_eq_false', Bool.not_true, Bool.not_false, ne_eq]; omega)) ?_
      | refine t_pass rfl ?_
      | refine t_pickY rfl rfl (by first | rfl | assumption | (simp only [decide_eq_true_eq, decide_eq_false_iff_not, beq_iff_eq, bne_iff_ne, beq_eq_false_iff_ne, bne_eq_false_iff_eq, Bool.not_eq_true', Bool.not_eq_false', Bool.not_true, Bool.not_false, ne_eq]; omega)) rfl ?_
      | refine t_pickN rfl rfl (by first | rfl | assumption | (simp only [decide_eq_true_eq, decide_eq_false_iff_not, beq_iff_eq, bne_iff_ne, beq_eq_false_iff_ne, bne_eq_false_iff_eq, Bool.not_eq_true', Bool.not_eq_false', Bool.not_true, Bool.not_false, ne_eq]; omega)) rfl ?_
      | refine t_add rfl rfl rfl (by first | exact wrap64' (by omega) | exact wrapU64 (by omega) | exact wrapU32 (by omega) | exact wrapU8 (by omega)) ?_
      | refine t_sub rfl rfl rfl (by first | exact wrap64' (by omega) | exact wrapU64 (by omega) | exact wrapU32 (by omega) | exact wrapU8 (by omega)) ?_
      | refine t_mul rfl rfl rfl (by first | exact wrap64' (by omega) | exact wrapU64 (by omega) | exact wrapU32 (by omega) | exact wrapU8 (by omega)) ?_
      | refine t_quo rfl rfl rfl (by omega) (by omega) (by first | exact wrap64' (by omega) | exact wrapU64 (by omega) | exact wrapU32 (by omega) | exact wrapU8 (by omega)) ?_
      | refine t_rem rfl rfl rfl (by omega) (by omega) ?_
      | refine t_conv rfl rfl (by first | exact wrap64' (by omega) | exact wrapU64 (by omega) | exact wrapU32 (by omega) | exact wrapU8 (by omega)) ?_
      | refine t_load1R rfl rfl (by assumption) rfl rfl ?_
      | refine t_loadNR rfl rfl (by assumption) rfl (by first | exact Nat.le_of_ble_eq_true rfl | (simp; done) | omega) rfl ?_
      | refine t_any rfl rfl ?_
      | refine t_anyN rfl rfl ?_
      | (refine t_nil ⟨?_, ?_⟩; focus (repeat (first | exact trivial | rfl | refine And.intro ?_ ?_)))
      | refine w_opsS ?_
      | refine w_ops ?_
      | refine w_condY rfl (by first | rfl | assumption | (simp only [decide_eq_true_eq, decide_eq_false_iff_not, beq_iff_eq, bne_iff_ne, beq_eq_false_iff_ne, bne_eq_false_iff_eq, Bool.not_eq_true', Bool.not_eq_false', Bool.not_true, Bool.not_false, ne_eq]; omega)) ?_
      | refine w_condN rfl (by first | rfl | assumption | (simp only [decide_eq_true_eq, decide_eq_false_iff_not, beq_iff_eq, bne_iff_ne, beq_eq_false_iff_ne, bne_eq_false_iff_eq, Bool.not_eq_true', Bool.not_eq_false', Bool.not_true, Bool.not_false, ne_eq]; omega)) ?_
      | refine w_seq ?_
      | refine w_opsX ?_
      | refine w_block ?_
      | refine w_exit ?_
      | refine w_ret ?_
      | refine w_skip ?_)
    exact ⟨.inr rfl, _, rfl, by rw [hr, hj]; rfl, by rw [hr]; exact hg', ho'⟩
end
end Go.Proofs.Ytboioafflppnfaa
