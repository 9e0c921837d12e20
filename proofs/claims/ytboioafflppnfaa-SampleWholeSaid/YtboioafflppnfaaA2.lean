/- The words of a seed's stream. Conditions: none. -/
import Derived.Test.YtboioafflppnfaaA1
namespace Go.Proofs.Ytboioafflppnfaa
open Go.Cm
set_option linter.unusedVariables false
set_option linter.unusedSimpArgs false
set_option linter.unusedSectionVars false
set_option maxRecDepth 100000
set_option maxHeartbeats 10000000

theorem nonce_run : (evalCall (lookF tab) 60 F_chacha_Nonce [.int .u32 3, .int .u64 0] ⟨0, []⟩).map (·.1) = some (.string nonce3) := by kernel_rfl
def byteAt (s : ByteArray) (i : Nat) : UInt8 := s.data.toList.getD i 0
def str8 (s : ByteArray) (o : Nat) : ByteArray := ⟨#[byteAt s o, byteAt s (o + 1), byteAt s (o + 2), byteAt s (o + 3), byteAt s (o + 4), byteAt s (o + 5), byteAt s (o + 6), byteAt s (o + 7)]⟩
theorem extract8 (s : ByteArray) (hs : s.size = 64) (o : Nat) (ho : o + 8 ≤ 64) : (⟨(s.data.toList.take (o + 8)).toArray⟩ : ByteArray).extract o (o + 8) = str8 s o := by
  obtain ⟨⟨l⟩⟩ := s
  have hl : l.length = 64 := hs
  apply ByteArray.ext
  simp only [ByteArray.data_extract, str8, byteAt]
  apply Array.ext'
  simp only [Array.toList_extract, List.extract_eq_take_drop]
  apply List.ext_getElem?
  intro i
  rw [List.getElem?_take]
  by_cases hi : i < 8
  · rw [if_pos (by omega), List.getElem?_drop, List.getElem?_take_of_lt (by omega)]
    simp only [List.getD_eq_getElem?_getD]
    match i, hi with
    | 0, _ | 1, _ | 2, _ | 3, _ | 4, _ | 5, _ | 6, _ | 7, _ => simp; rw [List.getElem?_eq_getElem (by omega)]; rfl
  · rw [if_neg (by omega), List.getElem?_eq_none (by simp; omega)]

section
variable {M : Prg} (hp : PureClosed M) (hf : M.fn = lookF tab)
include hp hf

theorem nonceC (h : Heap) : Cl M F_chacha_Nonce [.int .u32 3, .int .u64 0] h fun v h' => v = .string nonce3 ∧ h' = h := by
  refine Cl.run hp hf 60 h rfl rfl ?_
  have H := nonce_run
  generalize evalCall (lookF tab) 60 F_chacha_Nonce [.int .u32 3, .int .u64 0] ⟨0, []⟩ = r at H ⊢
  cases r with
  | none => cases H
  | some p =>
    obtain ⟨v, h1⟩ := p
    simp only [Option.map_some, Option.some.injEq] at H
    subst H
    exact ⟨_, _, rfl, rfl, rfl⟩

theorem bytesC (k : Nat → Int) (B : Nat → ByteArray) (hs : ∀ c, (B c).size = 64) (hb : ∀ c : Nat, c < 4294967295 → ∀ h, Cl M F_chacha_Block [.agg (keyL k).toArray, .string nonce3, .int .u32 c] h fun v h' => v = .tuple #[.string (B c), .int .i64 0] ∧ h' = h)
    (i : Nat) (hi : i < 1000000) (h : Heap) : Cl M F_prg_Bytes [.agg (keyL k).toArray, .int .u32 3, .int .i64 (8 * (i : Int)), .int .i64 8] h fun v h' => v = .tuple #[.string (str8 (B (i / 8)) (8 * (i % 8))), .int .i64 0] ∧ h' = h := by
  refine Cl.pure hp rfl ?_ h
  refine w_call (F := M_prg_Bytes) (by rw [hf]; rfl) rfl ?_
  have e1 : 8 * (i : Int) % 64 = ((8 * (i % 8) : Nat) : Int) := by omega
  have e2 : 8 * (i : Int) / 64 = ((i / 8 : Nat) : Int) := by omega
  repeat (first
    | refine o_mv rfl rfl ?_
    | refine o_lenV rfl rfl ?_
    | refine o_gdY rfl (by first | rfl | assumption | (simp only [decide_eq_true_eq, decide_eq_false_iff_not, beq_iff_eq, bne_iff_ne, beq_eq_false_iff_ne, bne_eq_false_iff_eq, Bool.not_eq_true', Bool.not_eq_false', Bool.not_true, Bool.not_false, ne_eq]; omega)) ?_
    | refine o_gdN rfl (by first | rfl | assumption | (simp only [decide_eq_true_eq, decide_eq_false_iff_not, beq_iff_eq, bne_iff_ne, beq_eq_false_iff_ne, bne_eq_false_iff_eq, Bool.not_eq_true', Bool.not_eq_false', Bool.not_true, Bool.not_false, ne_eq]; omega)) ?_
    | refine o_pass rfl ?_
    | refine o_passN rfl ?_
    | refine o_pickY rfl rfl (by first | rfl | assumption | (simp only [decide_eq_true_eq, decide_eq_false_iff_not, beq_iff_eq, bne_iff_ne, beq_eq_false_iff_ne, bne_eq_false_iff_eq, Bool.not_eq_true', Bool.not_eq_false', Bool.not_true, Bool.not_false, ne_eq]; omega)) rfl ?_
    | refine o_pickN rfl rfl (by first | rfl | assumption | (simp only [decide_eq_true_eq, decide_eq_false_iff_not, beq_iff_eq, bne_iff_ne, beq_eq_false_iff_ne, bne_eq_false_iff_eq, Bool.not_eq_true', Bool.not_eq_false', Bool.not_true, Bool.not_false, ne_eq]; omega)) rfl ?_
    | (refine o_call rfl rfl (nonceC hp hf _) ?_; rintro v h' ⟨rfl, rfl⟩)
    | refine o_add rfl rfl rfl (by first | exact wrap64' (by omega) | exact wrapU64 (by omega) | exact wrapU32 (by omega) | exact wrapU8 (by omega)) ?_
    | refine o_sub rfl rfl rfl (by first | exact wrap64' (by omega) | exact wrapU64 (by omega) | exact wrapU32 (by omega) | exact wrapU8 (by omega)) ?_
    | refine o_mul rfl rfl rfl (by first | exact wrap64' (by omega) | exact wrapU64 (by omega) | exact wrapU32 (by omega) | exact wrapU8 (by omega)) ?_
    | refine o_quo rfl rfl rfl (by omega) (by omega) (by first | exact wrap64' (by omega) | exact wrapU64 (by omega) | exact wrapU32 (by omega) | exact wrapU8 (by omega)) ?_
    | refine o_rem rfl rfl rfl (by omega) (by omega) ?_
    | refine o_conv rfl rfl (by first | exact wrap64' (by omega) | exact wrapU64 (by omega) | exact wrapU32 (by omega) | exact wrapU8 (by omega)) ?_
    | refine o_any rfl rfl ?_
    | refine o_anyN rfl rfl ?_
    | refine o_nil ?_
    | refine t_mv rfl rfl ?_
    | refine t_gdY rfl (by first | rfl | assumption | (simp only [decide_eq_true_eq, decide_eq_false_iff_not, beq_iff_eq, bne_iff_ne, beq_eq_false_iff_ne, bne_eq_false_iff_eq, Bool.not_eq_true', Bool.not_eq_false', Bool.not_true, Bool.not_false, ne_eq]; omega)) ?_
    | refine t_gdN rfl (by first | rfl | assumption | (simp only [decide_eq_true_eq, decide_eq_false_iff_not, beq_iff_eq, bne_iff_ne, beq_eq_false_iff_ne, bne_eq_false_iff_eq, Bool.not_eq_true', Bool.not_eq_false', Bool.not_true, Bool.not_false, ne_eq]; omega)) ?_
    | refine t_pass rfl ?_
    | refine t_pickY rfl rfl (by first | rfl | assumption | (simp only [decide_eq_true_eq, decide_eq_false_iff_not, beq_iff_eq, bne_iff_ne, beq_eq_false_iff_ne, bne_eq_false_iff_eq, Bool.not_eq_true', Bool.not_eq_false', Bool.not_true, Bool.not_false, ne_eq]; omega)) rfl ?_
    | refine t_pickN rfl rfl (by first | rfl | assumption | (simp only [decide_eq_true_eq, decide_eq_false_iff_not, beq_iff_eq, bne_iff_ne, beq_eq_false_iff_ne, bne_eq_false_iff_eq, Bool.not_eq_true', Bool.not_eq_false', Bool.not_true, Bool.not_false, ne_eq]; omega)) rfl ?_
    | (refine t_call rfl rfl (nonceC hp hf _) ?_; rintro v h' ⟨rfl, rfl⟩)
    | refine t_add rfl rfl rfl (by first | exact wrap64' (by omega) | exact wrapU64 (by omega) | exact wrapU32 (by omega) | exact wrapU8 (by omega)) ?_
    | refine t_sub rfl rfl rfl (by first | exact wrap64' (by omega) | exact wrapU64 (by omega) | exact wrapU32 (by omega) | exact wrapU8 (by omega)) ?_
    | refine t_mul rfl rfl rfl (by first | exact wrap64' (by omega) | exact wrapU64 (by omega) | exact wrapU32 (by omega) | exact wrapU8 (by omega)) ?_
    | refine t_quo rfl rfl rfl (by omega) (by omega) (by first | exact wrap64' (by omega) | exact wrapU64 (by omega) | exact wrapU32 (by omega) | exact wrapU8 (by omega)) ?_
    | refine t_rem rfl rfl rfl (by omega) (by omega) ?_
    | refine t_conv rfl rfl (by first | exact wrap64' (by omega) | exact wrapU64 (by omega) | exact wrapU32 (by omega) | exact wrapU8 (by omega)) ?_
    | refine t_any rfl rfl ?_
    | refine t_anyN rfl rfl ?_
    | (refine t_nil ⟨?_, ?_⟩; focus (repeat (first | exact trivial | rfl | refine And.intro ?_ ?_)))
    | refine w_opsS ?_
    | refine w_ops ?_
    | refine w_condY rfl (by first | rfl | assumption | (simp only [decide_eq_true_eq, decide_eq_false_iff_not, beq_iff_eq, bne_iff_ne, beq_eq_false_iff_ne, bne_eq_false_iff_eq, Bool.not_eq_true', Bool.not_eq_false', Bool.not_true, Bool.not_false, ne_eq]; omega)) ?_
    | refine w_condN rfl (by first | rfl | assumption | (simp only [decide_eq_true_eq, decide_eq_false_iff_not, beq_iff_eq, bne_iff_ne, beq_eq_false_iff_ne, bne_eq_false_iff_eq, Bool.not_eq_true', Bool.not_eq_false', Bool.not_true, Bool.not_false, ne_eq]; omega)) ?_
    | refine w_seq ?_
    | refine w_opsX ?_
    | refine w_block ?_
    | refine w_exit ?_
    | refine w_ret ?_
    | refine w_skip ?_)
  rw [e1, e2]
  refine t_call rfl rfl (streamC hp hf k ((i / 8 : Nat) : Int) (((8 * (i % 8) : Nat) : Int) + 8) (B (i / 8)) (hs _) (hb _ (by omega)) (by omega) (by omega) _) ?_
  rintro v h' ⟨rfl, rfl⟩
  have hex := extract8 (B (i / 8)) (hs _) (8 * (i % 8)) (by omega)
  have hen : (((8 * (i % 8) : Nat) : Int) + 8).toNat = 8 * (i % 8) + 8 := by omega
  rw [hen]
  have hsz : (⟨((B (i / 8)).data.toList.take (8 * (i % 8) + 8)).toArray⟩ : ByteArray).size = 8 * (i % 8) + 8 := by
    show ((B (i / 8)).data.toList.take (8 * (i % 8) + 8)).length = _
    rw [List.length_take]
    have : (B (i / 8)).data.toList.length = 64 := hs _
    omega
  repeat (first
    | refine o_mv rfl rfl ?_
    | refine o_lenV rfl rfl ?_
    | refine o_gdY rfl (by first | rfl | assumption | (simp only [decide_eq_true_eq, decide_eq_false_iff_not, beq_iff_eq, bne_iff_ne, beq_eq_false_iff_ne, bne_eq_false_iff_eq, Bool.not_eq_true', Bool.not_eq_false', Bool.not_true, Bool.not_false, ne_eq]; omega)) ?_
    | refine o_gdN rfl (by first | rfl | assumption | (simp only [decide_eq_true_eq, decide_eq_false_iff_not, beq_iff_eq, bne_iff_ne, beq_eq_false_iff_ne, bne_eq_false_iff_eq, Bool.not_eq_true', Bool.not_eq_false', Bool.not_true, Bool.not_false, ne_eq]; omega)) ?_
    | refine o_pass rfl ?_
    | refine o_passN rfl ?_
    | refine o_pickY rfl rfl (by first | rfl | assumption | (simp only [decide_eq_true_eq, decide_eq_false_iff_not, beq_iff_eq, bne_iff_ne, beq_eq_false_iff_ne, bne_eq_false_iff_eq, Bool.not_eq_true', Bool.not_eq_false', Bool.not_true, Bool.not_false, ne_eq]; omega)) rfl ?_
    | refine o_pickN rfl rfl (by first | rfl | assumption | (simp only [decide_eq_true_eq, decide_eq_false_iff_not, beq_iff_eq, bne_iff_ne, beq_eq_false_iff_ne, bne_eq_false_iff_eq, Bool.not_eq_true', Bool.not_eq_false', Bool.not_true, Bool.not_false, ne_eq]; omega)) rfl ?_
    | refine o_add rfl rfl rfl (by first | exact wrap64' (by omega) | exact wrapU64 (by omega) | exact wrapU32 (by omega) | exact wrapU8 (by omega)) ?_
    | refine o_sub rfl rfl rfl (by first | exact wrap64' (by omega) | exact wrapU64 (by omega) | exact wrapU32 (by omega) | exact wrapU8 (by omega)) ?_
    | refine o_mul rfl rfl rfl (by first | exact wrap64' (by omega) | exact wrapU64 (by omega) | exact wrapU32 (by omega) | exact wrapU8 (by omega)) ?_
    | refine o_quo rfl rfl rfl (by omega) (by omega) (by first | exact wrap64' (by omega) | exact wrapU64 (by omega) | exact wrapU32 (by omega) | exact wrapU8 (by omega)) ?_
    | refine o_rem rfl rfl rfl (by omega) (by omega) ?_
    | refine o_conv rfl rfl (by first | exact wrap64' (by omega) | exact wrapU64 (by omega) | exact wrapU32 (by omega) | exact wrapU8 (by omega)) ?_
    | refine o_any rfl rfl ?_
    | refine o_anyN rfl rfl ?_
    | refine o_nil ?_
    | refine t_mv rfl rfl ?_
    | refine t_gdY rfl (by first | rfl | assumption | (simp only [decide_eq_true_eq, decide_eq_false_iff_not, beq_iff_eq, bne_iff_ne, beq_eq_false_iff_ne, bne_eq_false_iff_eq, Bool.not_eq_true', Bool.not_eq_false', Bool.not_true, Bool.not_false, ne_eq]; omega)) ?_
    | refine t_gdN rfl (by first | rfl | assumption | (simp only [decide_eq_true_eq, decide_eq_false_iff_not, beq_iff_eq, bne_iff_ne, beq_eq_false_iff_ne, bne_eq_false_iff_eq, Bool.not_eq_true', Bool.not_eq_false', Bool.not_true, Bool.not_false, ne_eq]; omega)) ?_
    | refine t_pass rfl ?_
    | refine t_pickY rfl rfl (by first | rfl | assumption | (simp only [decide_eq_true_eq, decide_eq_false_iff_not, beq_iff_eq, bne_iff_ne, beq_eq_false_iff_ne, bne_eq_false_iff_eq, Bool.not_eq_true', Bool.not_eq_false', Bool.not_true, Bool.not_false, ne_eq]; omega)) rfl ?_
    | refine t_pickN rfl rfl (by first | rfl | assumption | (simp only [decide_eq_true_eq, decide_eq_false_iff_not, beq_iff_eq, bne_iff_ne, beq_eq_false_iff_ne, bne_eq_false_iff_eq, Bool.not_eq_true', Bool.not_eq_false', Bool.not_true, Bool.not_false, ne_eq]; omega)) rfl ?_
    | refine t_add rfl rfl rfl (by first | exact wrap64' (by omega) | exact wrapU64 (by omega) | exact wrapU32 (by omega) | exact wrapU8 (by omega)) ?_
    | refine t_sub rfl rfl rfl (by first | exact wrap64' (by omega) | exact wrapU64 (by omega) | exact wrapU32 (by omega) | exact wrapU8 (by omega)) ?_
    | refine t_mul rfl rfl rfl (by first | exact wrap64' (by omega) | exact wrapU64 (by omega) | exact wrapU32 (by omega) | exact wrapU8 (by omega)) ?_
    | refine t_quo rfl rfl rfl (by omega) (by omega) (by first | exact wrap64' (by omega) | exact wrapU64 (by omega) | exact wrapU32 (by omega) | exact wrapU8 (by omega)) ?_
    | refine t_rem rfl rfl rfl (by omega) (by omega) ?_
    | refine t_conv rfl rfl (by first | exact wrap64' (by omega) | exact wrapU64 (by omega) | exact wrapU32 (by omega) | exact wrapU8 (by omega)) ?_
    | refine t_any rfl rfl ?_
    | refine t_anyN rfl rfl ?_
    | (refine t_nil ⟨?_, ?_⟩; focus (repeat (first | exact trivial | rfl | refine And.intro ?_ ?_)))
    | refine w_opsS ?_
    | refine w_ops ?_
    | refine w_condY rfl (by first | rfl | assumption | (simp only [decide_eq_true_eq, decide_eq_false_iff_not, beq_iff_eq, bne_iff_ne, beq_eq_false_iff_ne, bne_eq_false_iff_eq, Bool.not_eq_true', Bool.not_eq_false', Bool.not_true, Bool.not_false, ne_eq]; omega)) ?_
    | refine w_condN rfl (by first | rfl | assumption | (simp only [decide_eq_true_eq, decide_eq_false_iff_not, beq_iff_eq, bne_iff_ne, beq_eq_false_iff_ne, bne_eq_false_iff_eq, Bool.not_eq_true', Bool.not_eq_false', Bool.not_true, Bool.not_false, ne_eq]; omega)) ?_
    | refine w_seq ?_
    | refine w_opsX ?_
    | refine w_block ?_
    | refine w_exit ?_
    | refine w_ret ?_
    | refine w_skip ?_)
  refine o_slS rfl rfl (bounds_lo ⟨by omega, by rw [hsz]; omega, Nat.le_refl _⟩) ?_
  repeat (first
    | refine o_mv rfl rfl ?_
    | refine o_lenV rfl rfl ?_
    | refine o_gdY rfl (by first | rfl | assumption | (simp only [decide_eq_true_eq, decide_eq_false_iff_not, beq_iff_eq, bne_iff_ne, beq_eq_false_iff_ne, bne_eq_false_iff_eq, Bool.not_eq_true', Bool.not_eq_false', Bool.not_true, Bool.not_false, ne_eq]; omega)) ?_
    | refine o_gdN rfl (by first | rfl | assumption | (simp only [decide_eq_true_eq, decide_eq_false_iff_not, beq_iff_eq, bne_iff_ne, beq_eq_false_iff_ne, bne_eq_false_iff_eq, Bool.not_eq_true', Bool.not_eq_false', Bool.not_true, Bool.not_false, ne_eq]; omega)) ?_
    | refine o_pass rfl ?_
    | refine o_passN rfl ?_
    | refine o_pickY rfl rfl (by first | rfl | assumption | (simp only [decide_eq_true_eq, decide_eq_false_iff_not, beq_iff_eq, bne_iff_ne, beq_eq_false_iff_ne, bne_eq_false_iff_eq, Bool.not_eq_true', Bool.not_eq_false', Bool.not_true, Bool.not_false, ne_eq]; omega)) rfl ?_
    | refine o_pickN rfl rfl (by first | rfl | assumption | (simp only [decide_eq_true_eq, decide_eq_false_iff_not, beq_iff_eq, bne_iff_ne, beq_eq_false_iff_ne, bne_eq_false_iff_eq, Bool.not_eq_true', Bool.not_eq_false', Bool.not_true, Bool.not_false, ne_eq]; omega)) rfl ?_
    | refine o_add rfl rfl rfl (by first | exact wrap64' (by omega) | exact wrapU64 (by omega) | exact wrapU32 (by omega) | exact wrapU8 (by omega)) ?_
    | refine o_sub rfl rfl rfl (by first | exact wrap64' (by omega) | exact wrapU64 (by omega) | exact wrapU32 (by omega) | exact wrapU8 (by omega)) ?_
    | refine o_mul rfl rfl rfl (by first | exact wrap64' (by omega) | exact wrapU64 (by omega) | exact wrapU32 (by omega) | exact wrapU8 (by omega)) ?_
    | refine o_quo rfl rfl rfl (by omega) (by omega) (by first | exact wrap64' (by omega) | exact wrapU64 (by omega) | exact wrapU32 (by omega) | exact wrapU8 (by omega)) ?_
    | refine o_rem rfl rfl rfl (by omega) (by omega) ?_
    | refine o_conv rfl rfl (by first | exact wrap64' (by omega) | exact wrapU64 (by omega) | exact wrapU32 (by omega) | exact wrapU8 (by omega)) ?_
    | refine o_any rfl rfl ?_
    | refine o_anyN rfl rfl ?_
    | refine o_nil ?_
    | refine t_mv rfl rfl ?_
    | refine t_gdY rfl (by first | rfl | assumption | (simp only [decide_eq_true_eq, decide_eq_false_iff_not, beq_iff_eq, bne_iff_ne, beq_eq_false_iff_ne, bne_eq_false_iff_eq, Bool.not_eq_true', Bool.not_eq_false', Bool.not_true, Bool.not_false, ne_eq]; omega)) ?_
    | refine t_gdN rfl (by first | rfl | assumption | (simp only [decide_eq_true_eq, decide_eq_false_iff_not, beq_iff_eq, bne_iff_ne, beq_eq_false_iff_ne, bne_eq_false_iff_eq, Bool.not_eq_true', Bool.not_eq_false', Bool.not_true, Bool.not_false, ne_eq]; omega)) ?_
    | refine t_pass rfl ?_
    | refine t_pickY rfl rfl (by first | rfl | assumption | (simp only [decide_eq_true_eq, decide_eq_false_iff_not, beq_iff_eq, bne_iff_ne, beq_eq_false_iff_ne, bne_eq_false_iff_eq, Bool.not_eq_true', Bool.not_eq_false', Bool.not_true, Bool.not_false, ne_eq]; omega)) rfl ?_
    | refine t_pickN rfl rfl (by first | rfl | assumption | (simp only [decide_eq_true_eq, decide_eq_false_iff_not, beq_iff_eq, bne_iff_ne, beq_eq_false_iff_ne, bne_eq_false_iff_eq, Bool.not_eq_true', Bool.not_eq_false', Bool.not_true, Bool.not_false, ne_eq]; omega)) rfl ?_
    | refine t_add rfl rfl rfl (by first | exact wrap64' (by omega) | exact wrapU64 (by omega) | exact wrapU32 (by omega) | exact wrapU8 (by omega)) ?_
    | refine t_sub rfl rfl rfl (by first | exact wrap64' (by omega) | exact wrapU64 (by omega) | exact wrapU32 (by omega) | exact wrapU8 (by omega)) ?_
    | refine t_mul rfl rfl rfl (by first | exact wrap64' (by omega) | exact wrapU64 (by omega) | exact wrapU32 (by omega) | exact wrapU8 (by omega)) ?_
    | refine t_quo rfl rfl rfl (by omega) (by omega) (by first | exact wrap64' (by omega) | exact wrapU64 (by omega) | exact wrapU32 (by omega) | exact wrapU8 (by omega)) ?_
    | refine t_rem rfl rfl rfl (by omega) (by omega) ?_
    | refine t_conv rfl rfl (by first | exact wrap64' (by omega) | exact wrapU64 (by omega) | exact wrapU32 (by omega) | exact wrapU8 (by omega)) ?_
    | refine t_any rfl rfl ?_
    | refine t_anyN rfl rfl ?_
    | (refine t_nil ⟨?_, ?_⟩; focus (repeat (first | exact trivial | rfl | refine And.intro ?_ ?_)))
    | refine w_opsS ?_
    | refine w_ops ?_
    | refine w_condY rfl (by first | rfl | assumption | (simp only [decide_eq_true_eq, decide_eq_false_iff_not, beq_iff_eq, bne_iff_ne, beq_eq_false_iff_ne, bne_eq_false_iff_eq, Bool.not_eq_true', Bool.not_eq_false', Bool.not_true, Bool.not_false, ne_eq]; omega)) ?_
    | refine w_condN rfl (by first | rfl | assumption | (simp only [decide_eq_true_eq, decide_eq_false_iff_not, beq_iff_eq, bne_iff_ne, beq_eq_false_iff_ne, bne_eq_false_iff_eq, Bool.not_eq_true', Bool.not_eq_false', Bool.not_true, Bool.not_false, ne_eq]; omega)) ?_
    | refine w_seq ?_
    | refine w_opsX ?_
    | refine w_block ?_
    | refine w_exit ?_
    | refine w_ret ?_
    | refine w_skip ?_)
  exact ⟨.inr rfl, _, rfl, rfl, by rw [hsz, Int.toNat_natCast, hex]⟩
end
end Go.Proofs.Ytboioafflppnfaa
