/- The answer for sorted keys at this program; the law's example, run. Conditions: none. -/
import Derived.Test.YtfbhmogjnjejmaaB1
import Derived.Test.YtfbhmogjnjejmaaSh
namespace Go.Proofs.Ytfbhmogjnjejmaa
open Go.Cm Go.Sort Go.Proofs Go.Shelf Go.RowKit
set_option linter.unusedVariables false
set_option linter.unusedSimpArgs false
set_option maxRecDepth 100000
set_option maxHeartbeats 10000000

def orc : CallF := orcSorted 36 46
theorem sortsIn (m : Nat) : AnyZI.SortsIn Try.prog Try.sortedA_ren Fence.wide m :=
  ⟨fun blk off cap ss W hH hblk hsz => callsIn_wide.2 (AnyM.slices_Sort_int Try.sortA blk off cap ss W hH hblk hsz),
   fun p cap W => callsIn_wide.2 (AnyM.slices_Sort_int_none Try.sortA p cap W)⟩
theorem orcOK : OrcOK Try.prog 0 orc := fun B W0 g args h v h' ho =>
  sorted_good (ρk := Try.keysA_ren) (ρs := Try.sortedA_ren) { Try.keysA with } Try.sortedA ⟨Try.f36, Try.func36, by kernel_rfl, by kernel_rfl⟩ sortsIn (enters_of Try.func45 (by kernel_rfl) rfl) (enters_of Try.func46 (by kernel_rfl) rfl) (orcSorted_ok ho)

def MM : Prg := (Prg.of tab orc).inf
theorem MMknows : Knows Try.prog 0 MM := Knows.inf mixed (Knows.of tabIn orcOK)
theorem MMp : PureClosed MM := Prg.inf_pure _
theorem MMf : MM.fn = lookF tab := rfl

theorem MMrun {n : Nat} {g : FuncId} {args : List Value} {u : Value} {h : Heap} (hr : (evalX (lookF tab) orc n g args h).map (·.1) = some u) : ∃ h', Ev MM (.call g args h u h') := by
  cases hx : evalX (lookF tab) orc n g args h with
  | none => rw [hx] at hr; cases hr
  | some p =>
    obtain ⟨v, h'⟩ := p
    rw [hx] at hr
    cases hr
    exact ⟨h', Ev.mono (M := Prg.of tab orc) (M' := MM) rfl (fun g args h v h' ho => show ∃ n, ((Prg.of tab orc).pureN n).orac g args h v h' from ⟨0, ho⟩) (evalX_ev n hx)⟩

theorem awake_run : (evalX (lookF tab) orc 200 F_law33_awake [] ⟨0, []⟩).map (·.1) = some (.bool true) := by kernel_rfl
theorem awakeC (h : Heap) : Cl MM F_law33_awake [] h fun v h' => v = .bool true ∧ h' = h := by
  obtain ⟨h1, he⟩ := MMrun awake_run
  exact ⟨_, _, MMp.pure he rfl rfl h, rfl, rfl⟩
end Go.Proofs.Ytfbhmogjnjejmaa
