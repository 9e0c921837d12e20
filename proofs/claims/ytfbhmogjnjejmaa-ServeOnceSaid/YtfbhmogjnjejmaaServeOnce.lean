/- 'trefoillaw33.ServeOnce' returns true whatever the ticket, the range, the code and the calls are, and turns nothing that was there. Conditions: none. -/
import Derived.Test.YtfbhmogjnjejmaaOnG5
namespace Go.Proofs.Ytfbhmogjnjejmaa.serveOnce
open Go.ChangeShapes Go.WideShapes Go.ChangeAt Go.RowKit Go.Cm
set_option linter.unusedVariables false
set_option linter.unusedSimpArgs false

set_option maxRecDepth 100000 in
theorem law : ∀ h us, IsArgs h [(false, [.int .i64]), (true, [.int .i64, .int .i64, .int .i64]), (false, [.int .i64]), (false, [.sl [.int .i64, .int .i64, .int .i64, .int .i64, .int .i64, .int .i64, .int .i64, .int .i64, .int .i64, .int .i64, .int .i64, .int .i64]])] us → ∃ h', Ev MM (.call 4 us h (.bool true) h') := by
  intro h us H
  rcases us with _ | ⟨u0, us⟩
  · exact H.elim
  obtain ⟨H0, H⟩ := H
  rcases us with _ | ⟨u1, us⟩
  · exact H.elim
  obtain ⟨H1, H⟩ := H
  rcases us with _ | ⟨u2, us⟩
  · exact H.elim
  obtain ⟨H2, H⟩ := H
  rcases us with _ | ⟨u3, us⟩
  · exact H.elim
  obtain ⟨H3, H⟩ := H
  rcases us with _ | ⟨u4, us⟩
  rotate_left
  · exact H.elim
  · skip
    obtain ⟨cs, rfl, hcs⟩ := H1
    simp only [IsArg, Bool.false_eq_true, if_false, IsAll, Is] at H0 H2
    obtain ⟨⟨id, rfl, _⟩, _⟩ := H0
    obtain ⟨⟨code, rfl, _⟩, _⟩ := H2
    obtain ⟨r, hr⟩ := range3 hcs
    obtain ⟨cs⟩ := cs
    simp only at hr
    subst hr
    obtain ⟨ad, n, cap, c, cs, A, rfl, h1, h2, h3, h4, h5⟩ := acts12 H3
    obtain ⟨v, h', he, rfl⟩ := onceC id r code ad n cap c cs A (h := h) h1 h2 h3 h4 h5
    exact ⟨h', he⟩

theorem own : ownKnob Try.prog.godebug = none := by kernel_rfl
theorem laidOut : laidOutB Try.prog = true := by kernel_rfl

set_option maxRecDepth 100000 in
theorem lifted (os : Os) (started : os.Started) (H : Type) (enc : TypeId × Value → H) :
    ReturnsInHanded {} Try.checked os 4 .any (Rows.serveOnceSpec.pre6 enc Try.prog Try.f4 Rows.serveOnceRow.domain false) (Rows.serveOnceSpec.post enc Try.prog Try.f4 false true false false) := by
  refine returnsInHanded_of_change (C := Try.checked) own started (by kernel_rfl) Try.func4
    (ChangeSpec.witness6 (enc := enc) (C := Try.checked) false ⟨#[], #[.int .i64 0, .agg #[.int .i64 0, .int .i64 0, .int .i64 0], .int .i64 0, .slice none 0 0], []⟩ 8 (by kernel_rfl) (by kernel_rfl) (by kernel_rfl) (by kernel_rfl)) ?_
  intro W base args ds gs before hval hW _ _
  exact law_contract (tb := 4) (shs := [(false, [.int .i64]), (true, [.int .i64, .int .i64, .int .i64]), (false, [.int .i64]), (false, [.sl [.int .i64, .int .i64, .int .i64, .int .i64, .int .i64, .int .i64, .int .i64, .int .i64, .int .i64, .int .i64, .int .i64, .int .i64]])]) mixed MMknows laidOut (by kernel_rfl) (by kernel_rfl) rfl (by kernel_rfl) (by kernel_rfl) (fun ds h => by match ds, h with | [_, _, _, _], _ => rfl) law hval hW

theorem over : Rows.serveOnceRow.holds Try.pinned (OpenSpec.ofChange Rows.serveOnceSpec) :=
  OpenClaim.holds_of_wide 4 Try.f4 rfl rfl rfl rfl rfl rfl rfl ⟨rfl, rfl, rfl, rfl, rfl⟩ rfl rfl rfl rfl rfl (by kernel_rfl) Try.func4 (by kernel_rfl)
    (of_decide_eq_true (by kernel_rfl)) (by unfold Func.isWrapper; first | (rw [if_pos (by decide +kernel)]; kernel_rfl) | (rw [if_neg (by decide +kernel)]; exact ⟨rfl, rfl⟩))
    (fun os started H enc _ => lifted os started H enc)

theorem proved : Rows.ServeOnceSaid :=
  over

end Go.Proofs.Ytfbhmogjnjejmaa.serveOnce
