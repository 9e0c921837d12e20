/- 'trefoillaw33.ServeNobody' returns true whatever the call is, and turns nothing that was there. Conditions: none. -/
import Derived.Test.YtfbhmogjnjejmaaB3
namespace Go.Proofs.Ytfbhmogjnjejmaa.serveNobody
open Go.ChangeShapes Go.WideShapes Go.ChangeAt Go.RowKit Go.Cm
set_option linter.unusedVariables false

theorem cells12 {h : Heap} {us : List Value} (H : IsArgs h [(true, [.int .i64, .int .i64, .int .i64, .int .i64, .int .i64, .int .i64, .int .i64, .int .i64, .int .i64, .int .i64, .int .i64, .int .i64])] us) : ∃ a b c d e f g i j k l m, us = [.agg #[.int .i64 a, .int .i64 b, .int .i64 c, .int .i64 d, .int .i64 e, .int .i64 f, .int .i64 g, .int .i64 i, .int .i64 j, .int .i64 k, .int .i64 l, .int .i64 m]] := by
  match us, H with
  | [u0], H =>
    obtain ⟨⟨cs, rfl, hcs⟩, _⟩ := H
    obtain ⟨cs⟩ := cs
    have hn : cs.length = 12 := hcs.length
    match cs, hn with
    | [c0, c1, c2, c3, c4, c5, c6, c7, c8, c9, c10, c11], _ =>
      simp only [IsAll, Is] at hcs
      obtain ⟨⟨a, rfl, _⟩, ⟨b, rfl, _⟩, ⟨c, rfl, _⟩, ⟨d, rfl, _⟩, ⟨e, rfl, _⟩, ⟨f, rfl, _⟩, ⟨g, rfl, _⟩, ⟨i, rfl, _⟩, ⟨j, rfl, _⟩, ⟨k, rfl, _⟩, ⟨l, rfl, _⟩, ⟨m, rfl, _⟩, _⟩ := hcs
      exact ⟨a, b, c, d, e, f, g, i, j, k, l, m, rfl⟩
theorem law : ∀ h us, IsArgs h [(true, [.int .i64, .int .i64, .int .i64, .int .i64, .int .i64, .int .i64, .int .i64, .int .i64, .int .i64, .int .i64, .int .i64, .int .i64])] us → ∃ h', Ev MM (.call 6 us h (.bool true) h') := by
  intro h us H
  obtain ⟨a, b, c, d, e, f, g, i, j, k, l, m, rfl⟩ := cells12 H
  obtain ⟨h1, he⟩ := MMrun (nobody_run a b c d e f g i j k l m)
  exact ⟨_, MMp.pure he rfl rfl h⟩

theorem own : ownKnob Try.prog.godebug = none := by kernel_rfl
theorem laidOut : laidOutB Try.prog = true := by kernel_rfl

set_option maxRecDepth 100000 in
theorem lifted (os : Os) (started : os.Started) (H : Type) (enc : TypeId × Value → H) :
    ReturnsInHanded {} Try.checked os 6 .any (Rows.serveNobodySpec.pre6 enc Try.prog Try.f6 Rows.serveNobodyRow.domain false) (Rows.serveNobodySpec.post enc Try.prog Try.f6 false true false false) := by
  refine returnsInHanded_of_change (C := Try.checked) own started (by kernel_rfl) Try.func6
    (ChangeSpec.witness6 (enc := enc) (C := Try.checked) false ⟨#[], #[.agg #[.int .i64 0, .int .i64 0, .int .i64 0, .int .i64 0, .int .i64 0, .int .i64 0, .int .i64 0, .int .i64 0, .int .i64 0, .int .i64 0, .int .i64 0, .int .i64 0]], []⟩ 8 (by kernel_rfl) (by kernel_rfl) (by kernel_rfl) (by kernel_rfl)) ?_
  intro W base args ds gs before hval hW _ _
  exact law_contract (tb := 4) (shs := [(true, [.int .i64, .int .i64, .int .i64, .int .i64, .int .i64, .int .i64, .int .i64, .int .i64, .int .i64, .int .i64, .int .i64, .int .i64])]) mixed MMknows laidOut (by kernel_rfl) (by kernel_rfl) rfl (by kernel_rfl) (by kernel_rfl) (fun ds h => by match ds, h with | [_], _ => rfl) law hval hW

theorem over : Rows.serveNobodyRow.holds Try.pinned (OpenSpec.ofChange Rows.serveNobodySpec) :=
  OpenClaim.holds_of_wide 6 Try.f6 rfl rfl rfl rfl rfl rfl rfl ⟨rfl, rfl, rfl, rfl, rfl⟩ rfl rfl rfl rfl rfl (by kernel_rfl) Try.func6 (by kernel_rfl)
    (of_decide_eq_true (by kernel_rfl)) (by unfold Func.isWrapper; first | (rw [if_pos (by decide +kernel)]; kernel_rfl) | (rw [if_neg (by decide +kernel)]; exact ⟨rfl, rfl⟩))
    (fun os started H enc _ => lifted os started H enc)

theorem proved : Rows.ServeNobodySaid :=
  over

end Go.Proofs.Ytfbhmogjnjejmaa.serveNobody
