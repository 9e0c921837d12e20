/- The canonical machine: the answer for slices.Sorted(maps.Keys(m)) as a function. Conditions: none. -/
import Derived.Test.YtboioafflppnfaaCm26
namespace Go.Cm
open Go.RowKit
set_option linter.unusedVariables false

def keysI : List (Value × Value × Nat) → Option (List Int)
  | [] => some []
  | (.int .i64 n, _, _) :: r => (match keysI r with | some l => some (n :: l) | none => none)
  | _ :: _ => none
def nodupI : List Int → Bool
  | [] => true
  | x :: r => !(r.any fun y => decide (x = y)) && nodupI r
def nodupN : List Nat → Bool
  | [] => true
  | x :: r => !(r.any fun y => Nat.beq x y) && nodupN r
def keysB (es : List (Value × Value × Nat)) (clock : Nat) (ks : List Int) : Bool :=
  nodupI ks && (ks.all fun x => (Lit.int .i64 x).wf) && Nat.ble es.length 1099511627776 && (es.all fun e => Nat.blt e.2.2 clock) && nodupN (es.map (·.2.2))
def orcSorted (fS fK : Nat) : CallF := fun g args h => match Nat.beq g fS with
  | false => none
  | true => match args with
    | [.func (.func k) a b] => (match Nat.beq k fK, a.toList, b.toList with
      | true, [], [.pointer (some ⟨c, 0, none⟩)] => (match h.get? c with
        | some (.rw [.map none]) => some (sortedRes h [])
        | some (.rw [.map (some m)]) => (match h.get? m with
          | some (.map es clock) => (match keysI es with
            | some ks => (match keysB es clock ks with | true => some (sortedRes h (isort ks)) | false => none)
            | none => none)
          | _ => none)
        | _ => none)
      | _, _, _ => none)
    | _ => none

theorem keysI_ok : ∀ {es : List (Value × Value × Nat)} {ks : List Int}, keysI es = some ks → es.map (·.1) = ks.map (Value.int .i64)
  | [], ks, h => by cases h; rfl
  | (k, v, n) :: r, ks, h => by
    unfold keysI at h
    split at h
    · rename_i heq; cases heq
    · rename_i heq
      cases heq
      split at h
      · rename_i l hl
        cases h
        simp [keysI_ok hl]
      · cases h
    · cases h
theorem nodupI_ok : ∀ {l : List Int}, nodupI l = true → l.Nodup
  | [], _ => List.nodup_nil
  | x :: r, h => by
    simp only [nodupI, Bool.and_eq_true, Bool.not_eq_true', List.any_eq_false, decide_eq_true_eq] at h
    exact List.nodup_cons.2 ⟨fun hx => h.1 x hx rfl, nodupI_ok h.2⟩
theorem nodupN_ok : ∀ {l : List Nat}, nodupN l = true → l.Nodup
  | [], _ => List.nodup_nil
  | x :: r, h => by
    simp only [nodupN, Bool.and_eq_true, Bool.not_eq_true', List.any_eq_false] at h
    exact List.nodup_cons.2 ⟨fun hx => h.1 x hx (Nat.beq_refl x), nodupN_ok h.2⟩
theorem keysB_ok {es : List (Value × Value × Nat)} {clock : Nat} {ks : List Int} (h : keysI es = some ks) (hb : keysB es clock ks = true) : KeysOK es clock ks := by
  unfold keysB at hb
  simp only [Bool.and_eq_true] at hb
  obtain ⟨⟨⟨⟨h1, h2⟩, h3⟩, h4⟩, h5⟩ := hb
  refine ⟨keysI_ok h, nodupI_ok h1, fun x hx => ?_, Nat.le_of_ble_eq_true h3, fun e he => ?_, nodupN_ok h5⟩
  · exact (List.all_eq_true.1 h2) x hx
  · have := (List.all_eq_true.1 h4) e he
    exact Nat.le_of_ble_eq_true this
theorem orcSorted_ok {fS fK : Nat} {g : FuncId} {args : List Value} {h h' : Heap} {v : Value} (H : orcSorted fS fK g args h = some (v, h')) : SortedAns fS fK g args h v h' := by
  unfold orcSorted at H
  split at H
  · cases H
  rename_i hg
  have hg := Nat.eq_of_beq_eq_true hg
  split at H
  rotate_left
  · cases H
  rename_i k a b
  split at H
  rotate_left
  · cases H
  rename_i c hk ha hb
  have hk := Nat.eq_of_beq_eq_true hk
  obtain ⟨a⟩ := a
  obtain ⟨b⟩ := b
  simp only at ha hb
  subst hk ha hb hg
  refine ⟨rfl, c, rfl, ?_⟩
  split at H
  · rename_i hc
    exact .inl ⟨hc, (Option.some.inj H).symm⟩
  · rename_i m hc
    split at H
    rotate_left
    · cases H
    rename_i es clock hm
    split at H
    rotate_left
    · cases H
    rename_i ks hks
    split at H
    rotate_left
    · cases H
    rename_i hB
    exact .inr ⟨m, es, clock, ks, hc, hm, keysB_ok hks hB, (Option.some.inj H).symm⟩
  · cases H
end Go.Cm
