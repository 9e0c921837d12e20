/- The answer for slices.Sort at this program; the law's arguments. Conditions: none. -/
import Derived.Test.YtboioafflppnfaaA12
import Derived.Test.YtboioafflppnfaaSh
namespace Go.Proofs.Ytboioafflppnfaa
open Go.Cm Go.Sort Go.Proofs Go.Shelf Go.RowKit
set_option linter.unusedVariables false
set_option maxRecDepth 100000
set_option maxHeartbeats 10000000

def MM : Prg := (⟨lookF tab, SortAns F_sort⟩ : Prg).inf
theorem MMknows : Knows Try.prog 0 MM := Knows.inf mixed ⟨lookF_ok tabIn, fun B W0 g args h v h' ho =>
  sort_good (ρ := Try.sortA_ren) Try.sortA ⟨Try.f26, Try.func26, by kernel_rfl, by kernel_rfl⟩ ho⟩
theorem MMp : PureClosed MM := Prg.inf_pure _
theorem MMf : MM.fn = lookF tab := rfl
theorem MMso : ∀ g args h v h', SortAns F_sort g args h v h' → Ev MM (.call g args h v h') := fun g args h v h' ho =>
  .known (show ∃ n, ((⟨lookF tab, SortAns F_sort⟩ : Prg).pureN n).orac g args h v h' from ⟨0, ho⟩)

theorem key32 {h : Heap} : ∀ {cs : List Value}, IsAll h [.int .u8, .int .u8, .int .u8, .int .u8, .int .u8, .int .u8, .int .u8, .int .u8, .int .u8, .int .u8, .int .u8, .int .u8, .int .u8, .int .u8, .int .u8, .int .u8, .int .u8, .int .u8, .int .u8, .int .u8, .int .u8, .int .u8, .int .u8, .int .u8, .int .u8, .int .u8, .int .u8, .int .u8, .int .u8, .int .u8, .int .u8, .int .u8] cs → ∃ k, cs = keyL k
  | [c0, c1, c2, c3, c4, c5, c6, c7, c8, c9, c10, c11, c12, c13, c14, c15, c16, c17, c18, c19, c20, c21, c22, c23, c24, c25, c26, c27, c28, c29, c30, c31], H => by
    simp only [IsAll, Is] at H
    obtain ⟨⟨a0, rfl, _⟩, ⟨a1, rfl, _⟩, ⟨a2, rfl, _⟩, ⟨a3, rfl, _⟩, ⟨a4, rfl, _⟩, ⟨a5, rfl, _⟩, ⟨a6, rfl, _⟩, ⟨a7, rfl, _⟩, ⟨a8, rfl, _⟩, ⟨a9, rfl, _⟩, ⟨a10, rfl, _⟩, ⟨a11, rfl, _⟩, ⟨a12, rfl, _⟩, ⟨a13, rfl, _⟩, ⟨a14, rfl, _⟩, ⟨a15, rfl, _⟩, ⟨a16, rfl, _⟩, ⟨a17, rfl, _⟩, ⟨a18, rfl, _⟩, ⟨a19, rfl, _⟩, ⟨a20, rfl, _⟩, ⟨a21, rfl, _⟩, ⟨a22, rfl, _⟩, ⟨a23, rfl, _⟩, ⟨a24, rfl, _⟩, ⟨a25, rfl, _⟩, ⟨a26, rfl, _⟩, ⟨a27, rfl, _⟩, ⟨a28, rfl, _⟩, ⟨a29, rfl, _⟩, ⟨a30, rfl, _⟩, ⟨a31, rfl, _⟩, _⟩ := H
    exact ⟨fun i => [a0, a1, a2, a3, a4, a5, a6, a7, a8, a9, a10, a11, a12, a13, a14, a15, a16, a17, a18, a19, a20, a21, a22, a23, a24, a25, a26, a27, a28, a29, a30, a31].getD i 0, rfl⟩
end Go.Proofs.Ytboioafflppnfaa
