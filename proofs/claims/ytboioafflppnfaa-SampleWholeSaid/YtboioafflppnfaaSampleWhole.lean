/- 'trefoillaw29.SampleWhole' returns true whatever the coin and the two numbers are, and turns nothing that was there. Conditions: none. -/
import Derived.Test.YtboioafflppnfaaA13
namespace Go.Proofs.Ytboioafflppnfaa.sampleWhole
open Go.ChangeShapes Go.WideShapes Go.ChangeAt Go.RowKit Go.Cm
set_option linter.unusedVariables false
set_option linter.unusedSimpArgs false

theorem law : ∀ h us, IsArgs h [(true, [.int .u8, .int .u8, .int .u8, .int .u8, .int .u8, .int .u8, .int .u8, .int .u8, .int .u8, .int .u8, .int .u8, .int .u8, .int .u8, .int .u8, .int .u8, .int .u8, .int .u8, .int .u8, .int .u8, .int .u8, .int .u8, .int .u8, .int .u8, .int .u8, .int .u8, .int .u8, .int .u8, .int .u8, .int .u8, .int .u8, .int .u8, .int .u8]), (false, [.int .u8]), (false, [.int .u8])] us → ∃ h', Ev MM (.call 4 us h (.bool true) h') := by
  intro h us H
  match us, H with
  | [u0, u1, u2], H =>
    obtain ⟨H0, H1, H2, _⟩ := H
    obtain ⟨cs, rfl, hcs⟩ := H0
    simp only [IsArg, Bool.false_eq_true, if_false, IsAll, Is] at H1 H2
    obtain ⟨⟨n, rfl, hn⟩, _⟩ := H1
    obtain ⟨⟨q, rfl, hq⟩, _⟩ := H2
    obtain ⟨k, hk⟩ := key32 hcs
    obtain ⟨cs⟩ := cs
    simp only at hk
    subst hk
    have hn' : 0 ≤ n ∧ n < 256 := by simp only [Lit.wf, IntKind.min, IntKind.max, IntKind.bits, IntKind.signed, decide_eq_true_eq, Bool.and_eq_true] at hn; simp at hn; omega
    have hq' : 0 ≤ q ∧ q < 256 := by simp only [Lit.wf, IntKind.min, IntKind.max, IntKind.bits, IntKind.signed, decide_eq_true_eq, Bool.and_eq_true] at hq; simp at hq; omega
    obtain ⟨v, h', he, rfl⟩ := wholeC MMp MMf MMso k n q hn' hq' h
    exact ⟨h', he⟩

theorem own : ownKnob Try.prog.godebug = none := by kernel_rfl
theorem laidOut : laidOutB Try.prog = true := by kernel_rfl

set_option maxRecDepth 100000 in
theorem lifted (os : Os) (started : os.Started) (H : Type) (enc : TypeId × Value → H) :
    ReturnsInHanded {} Try.checked os 4 .any (Rows.sampleWholeSpec.pre6 enc Try.prog Try.f4 Rows.sampleWholeRow.domain false) (Rows.sampleWholeSpec.post enc Try.prog Try.f4 false true false false) := by
  refine returnsInHanded_of_change (C := Try.checked) own started (by kernel_rfl) Try.func4
    (ChangeSpec.witness6 (enc := enc) (C := Try.checked) false ⟨#[], #[.agg #[.int .u8 0, .int .u8 0, .int .u8 0, .int .u8 0, .int .u8 0, .int .u8 0, .int .u8 0, .int .u8 0, .int .u8 0, .int .u8 0, .int .u8 0, .int .u8 0, .int .u8 0, .int .u8 0, .int .u8 0, .int .u8 0, .int .u8 0, .int .u8 0, .int .u8 0, .int .u8 0, .int .u8 0, .int .u8 0, .int .u8 0, .int .u8 0, .int .u8 0, .int .u8 0, .int .u8 0, .int .u8 0, .int .u8 0, .int .u8 0, .int .u8 0, .int .u8 0], .int .u8 0, .int .u8 0], []⟩ 8 (by kernel_rfl) (by kernel_rfl) (by kernel_rfl) (by kernel_rfl)) ?_
  intro W base args ds gs before hval hW _ _
  exact law_contract (tb := 4) (shs := [(true, [.int .u8, .int .u8, .int .u8, .int .u8, .int .u8, .int .u8, .int .u8, .int .u8, .int .u8, .int .u8, .int .u8, .int .u8, .int .u8, .int .u8, .int .u8, .int .u8, .int .u8, .int .u8, .int .u8, .int .u8, .int .u8, .int .u8, .int .u8, .int .u8, .int .u8, .int .u8, .int .u8, .int .u8, .int .u8, .int .u8, .int .u8, .int .u8]), (false, [.int .u8]), (false, [.int .u8])]) mixed MMknows laidOut (by kernel_rfl) (by kernel_rfl) rfl (by kernel_rfl) (by kernel_rfl) (fun ds h => by match ds, h with | [_, _, _], _ => rfl) law hval hW

theorem over : Rows.sampleWholeRow.holds Try.pinned (OpenSpec.ofChange Rows.sampleWholeSpec) :=
  OpenClaim.holds_of_wide 4 Try.f4 rfl rfl rfl rfl rfl rfl rfl ⟨rfl, rfl, rfl, rfl, rfl⟩ rfl rfl rfl rfl rfl (by kernel_rfl) Try.func4 (by kernel_rfl)
    (of_decide_eq_true (by kernel_rfl)) (by unfold Func.isWrapper; first | (rw [if_pos (by decide +kernel)]; kernel_rfl) | (rw [if_neg (by decide +kernel)]; exact ⟨rfl, rfl⟩))
    (fun os started H enc _ => lifted os started H enc)

theorem proved : Rows.SampleWholeSaid :=
  over

end Go.Proofs.Ytboioafflppnfaa.sampleWhole
