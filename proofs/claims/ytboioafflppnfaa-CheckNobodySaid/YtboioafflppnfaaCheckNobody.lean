/- 'trefoillaw30.CheckNobody' returns true whatever the class and the shares are, and turns nothing that was there. Conditions: none. -/
import Derived.Test.YtboioafflppnfaaM
namespace Go.Proofs.Ytboioafflppnfaa.checkNobody
open Go.ChangeShapes Go.WideShapes Go.ChangeAt Go.RowKit Go.Cm
set_option linter.unusedVariables false

theorem own : ownKnob Try.prog.godebug = none := by kernel_rfl
theorem laidOut : laidOutB Try.prog = true := by kernel_rfl

set_option maxRecDepth 100000 in
theorem run (a b c d e : Int) (l : Value) : (evalCall (lookF tab) 100 6 [.agg #[.int .i64 a, .int .i64 b, .int .i64 c, .int .i64 d, .int .i64 e], l] ⟨0, []⟩).map (·.1) = some (.bool true) := by kernel_rfl

theorem law (W : World) (a b c d e : Int) (args : Array Value) (l : Value) (h : args = #[.agg #[.int .i64 a, .int .i64 b, .int .i64 c, .int .i64 d, .int .i64 e], l]) :
    Calls Try.prog 6 args W fun e W' => e = .returned (.bool true) ∧ Below W.heap.size W W' := by
  subst h
  refine door_run W mixed rfl tabIn (run a b c d e unk) ⟨rfl, fun i v v' p q => ?_⟩
  match i with
  | 0 =>
    cases p; cases q
    exact relV_agg.2 ⟨rfl, .cons (.int _ _) (.cons (.int _ _) (.cons (.int _ _) (.cons (.int _ _) (.cons (.int _ _) .nil))))⟩
  | 1 => cases p; exact .top _
  | i + 2 => cases p

theorem cells {s : Bool × List Sh} (h : Heap) (φ : Emb) (us : List Value) (args : Array Value) (i1 : IsArgs h [(true, [.int .i64, .int .i64, .int .i64, .int .i64, .int .i64]), s] us) (e1 : RelL φ us args.toList) :
    ∃ a b c d e l, args = #[.agg #[.int .i64 a, .int .i64 b, .int .i64 c, .int .i64 d, .int .i64 e], l] := by
  match us, i1 with
  | [u0, u1], i1 =>
    obtain ⟨⟨cs, rfl, hcs⟩, _⟩ := i1
    obtain ⟨l⟩ := args
    have hl : l.length = 2 := e1.1.symm
    match l, hl with
    | [v0, v1], _ =>
      obtain ⟨cs⟩ := cs
      have hn : cs.length = 5 := hcs.length
      match cs, hn with
      | [c0, c1, c2, c3, c4], _ =>
        simp only [IsAll, Is] at hcs
        obtain ⟨⟨a, rfl, _⟩, ⟨b, rfl, _⟩, ⟨c, rfl, _⟩, ⟨d, rfl, _⟩, ⟨e, rfl, _⟩, _⟩ := hcs
        have := flat_eq (e1.2 0 _ _ rfl rfl) rfl
        exact ⟨a, b, c, d, e, v1, by rw [this]⟩

set_option maxRecDepth 100000 in
theorem lifted (os : Os) (started : os.Started) (H : Type) (enc : TypeId × Value → H) :
    ReturnsInHanded {} Try.checked os 6 .any (Rows.checkNobodySpec.pre6 enc Try.prog Try.f6 Rows.checkNobodyRow.domain false) (Rows.checkNobodySpec.post enc Try.prog Try.f6 false true false false) := by
  refine returnsInHanded_of_change (C := Try.checked) own started (by kernel_rfl) Try.func6
    (ChangeSpec.witness6 (enc := enc) (C := Try.checked) false ⟨#[], #[.agg #[.int .i64 0, .int .i64 0, .int .i64 0, .int .i64 0, .int .i64 0], .slice none 0 0], []⟩ 8 (by kernel_rfl) (by kernel_rfl) (by kernel_rfl) (by kernel_rfl)) ?_
  intro W base args ds gs before hval hW _ _
  have hW' := hW
  obtain ⟨p, q, hA, hV, rfl, hz, hn⟩ := hW
  obtain ⟨φ, h, us, r, g1, e1, i1⟩ := open_args (shs := [(true, [.int .i64, .int .i64, .int .i64, .int .i64, .int .i64]), (false, [.sl [.sl [.int .u64], .sl [.int .u64], .sl [.int .u64]]])]) (by kernel_rfl)
    (fun j t v p q => hval j t v (by simpa using p) (by simpa using q)) hA _ _ (RO.start W)
  obtain ⟨a, b, c, d, e, l, hargs⟩ := cells h φ us args i1 e1
  refine (law W a b c d e args l hargs).mono ?_
  rintro e W' ⟨rfl, hb⟩
  exact ⟨_, rfl, post_true (tb := 4) laidOut (by kernel_rfl) rfl (by kernel_rfl) (by kernel_rfl) (fun ds h => by match ds, h with | [_, _], _ => rfl) hW' hb⟩

theorem over : Rows.checkNobodyRow.holds Try.pinned (OpenSpec.ofChange Rows.checkNobodySpec) :=
  OpenClaim.holds_of_wide 6 Try.f6 rfl rfl rfl rfl rfl rfl rfl ⟨rfl, rfl, rfl, rfl, rfl⟩ rfl rfl rfl rfl rfl (by kernel_rfl) Try.func6 (by kernel_rfl)
    (of_decide_eq_true (by kernel_rfl)) (by unfold Func.isWrapper; first | (rw [if_pos (by decide +kernel)]; kernel_rfl) | (rw [if_neg (by decide +kernel)]; exact ⟨rfl, rfl⟩))
    (fun os started H enc _ => lifted os started H enc)

theorem proved : Rows.CheckNobodySaid :=
  over

end Go.Proofs.Ytboioafflppnfaa.checkNobody
