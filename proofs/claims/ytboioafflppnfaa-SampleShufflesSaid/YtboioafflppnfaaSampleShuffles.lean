/- 'trefoillaw29.SampleShuffles' returns true whatever the coin and the two numbers are, and turns nothing that was there. Conditions: none. -/
import Derived.Test.YtboioafflppnfaaSsG6
namespace Go.Proofs.Ytboioafflppnfaa.sampleShuffles
open Go.ChangeShapes Go.WideShapes Go.ChangeAt Go.RowKit Go.Cm
set_option linter.unusedVariables false
set_option linter.unusedSimpArgs false

set_option maxRecDepth 100000 in
theorem law : ∀ h us, IsArgs h [(true, [.int .u8, .int .u8, .int .u8, .int .u8, .int .u8, .int .u8, .int .u8, .int .u8, .int .u8, .int .u8, .int .u8, .int .u8, .int .u8, .int .u8, .int .u8, .int .u8, .int .u8, .int .u8, .int .u8, .int .u8, .int .u8, .int .u8, .int .u8, .int .u8, .int .u8, .int .u8, .int .u8, .int .u8, .int .u8, .int .u8, .int .u8, .int .u8]), (false, [.int .i64]), (false, [.int .i64])] us → ∃ h', Ev MM (.call 3 us h (.bool true) h') := by
  intro h us H
  rcases us with _ | ⟨u0, us⟩
  · exact H.elim
  obtain ⟨H0, H⟩ := H
  rcases us with _ | ⟨u1, us⟩
  · exact H.elim
  obtain ⟨H1, H⟩ := H
  rcases us with _ | ⟨u2, us⟩
  · exact H.elim
  obtain ⟨H2, H⟩ := H
  rcases us with _ | ⟨u3, us⟩
  rotate_left
  · exact H.elim
  · skip
    obtain ⟨cs, rfl, hcs⟩ := H0
    simp only [IsArg, Bool.false_eq_true, if_false, IsAll, Is] at H1 H2
    obtain ⟨⟨n, rfl, hn⟩, _⟩ := H1
    obtain ⟨⟨q, rfl, hq⟩, _⟩ := H2
    obtain ⟨k, hk⟩ := key32 hcs
    obtain ⟨cs⟩ := cs
    simp only at hk
    subst hk
    obtain ⟨v, h', he, rfl⟩ := shufflesC MMp MMf MMso k n q h
    exact ⟨h', he⟩

theorem own : ownKnob Try.prog.godebug = none := by kernel_rfl
theorem laidOut : laidOutB Try.prog = true := by kernel_rfl

set_option maxRecDepth 100000 in
theorem lifted (os : Os) (started : os.Started) (H : Type) (enc : TypeId × Value → H) :
    ReturnsInHanded {} Try.checked os 3 .any (Rows.sampleShufflesSpec.pre6 enc Try.prog Try.f3 Rows.sampleShufflesRow.domain false) (Rows.sampleShufflesSpec.post enc Try.prog Try.f3 false true false false) := by
  refine returnsInHanded_of_change (C := Try.checked) own started (by kernel_rfl) Try.func3
    (ChangeSpec.witness6 (enc := enc) (C := Try.checked) false ⟨#[], #[.agg #[.int .u8 0, .int .u8 0, .int .u8 0, .int .u8 0, .int .u8 0, .int .u8 0, .int .u8 0, .int .u8 0, .int .u8 0, .int .u8 0, .int .u8 0, .int .u8 0, .int .u8 0, .int .u8 0, .int .u8 0, .int .u8 0, .int .u8 0, .int .u8 0, .int .u8 0, .int .u8 0, .int .u8 0, .int .u8 0, .int .u8 0, .int .u8 0, .int .u8 0, .int .u8 0, .int .u8 0, .int .u8 0, .int .u8 0, .int .u8 0, .int .u8 0, .int .u8 0], .int .i64 0, .int .i64 0], []⟩ 8 (by kernel_rfl) (by kernel_rfl) (by kernel_rfl) (by kernel_rfl)) ?_
  intro W base args ds gs before hval hW _ _
  exact law_contract (tb := 4) (shs := [(true, [.int .u8, .int .u8, .int .u8, .int .u8, .int .u8, .int .u8, .int .u8, .int .u8, .int .u8, .int .u8, .int .u8, .int .u8, .int .u8, .int .u8, .int .u8, .int .u8, .int .u8, .int .u8, .int .u8, .int .u8, .int .u8, .int .u8, .int .u8, .int .u8, .int .u8, .int .u8, .int .u8, .int .u8, .int .u8, .int .u8, .int .u8, .int .u8]), (false, [.int .i64]), (false, [.int .i64])]) mixed MMknows laidOut (by kernel_rfl) (by kernel_rfl) rfl (by kernel_rfl) (by kernel_rfl) (fun ds h => by match ds, h with | [_, _, _], _ => rfl) law hval hW

theorem over : Rows.sampleShufflesRow.holds Try.pinned (OpenSpec.ofChange Rows.sampleShufflesSpec) :=
  OpenClaim.holds_of_wide 3 Try.f3 rfl rfl rfl rfl rfl rfl rfl ⟨rfl, rfl, rfl, rfl, rfl⟩ rfl rfl rfl rfl rfl (by kernel_rfl) Try.func3 (by kernel_rfl)
    (of_decide_eq_true (by kernel_rfl)) (by unfold Func.isWrapper; first | (rw [if_pos (by decide +kernel)]; kernel_rfl) | (rw [if_neg (by decide +kernel)]; exact ⟨rfl, rfl⟩))
    (fun os started H enc _ => lifted os started H enc)

theorem proved : Rows.SampleShufflesSaid :=
  over

end Go.Proofs.Ytboioafflppnfaa.sampleShuffles
