/- Texts of the proof, joined by program: Cm27, Cm28, B1, BSh, B2, B3, Cm29, Cm31, Cm32, B4, B5, B6, B7, B8. Conditions: none. -/
import Derived.Test.YtfbhmogjnjejmaaOnG3
import Derived.Shelf.SlIterI.Nil
import Derived.Shelf.SortM.Plain
import Derived.Shelf.SortM.SortNone
import Derived.Ground.GgzProg
import Derived.Ground.SlgmProg
import Derived.Test.YtfbhmogjnjejmaaProg
/- The canonical machine: the answer for slices.Sorted(maps.Keys(m)) as a function. Conditions: none. -/
namespace Go.Cm
open Go.RowKit
set_option linter.unusedVariables false

def keysI : List (Value × Value × Nat) → Option (List Int)
  | [] => some []
  | (.int .i64 n, _, _) :: r => (match keysI r with | some l => some (n :: l) | none => none)
  | _ :: _ => none
def nodupI : List Int → Bool
  | [] => true
  | x :: r => !(r.any fun y => decide (x = y)) && nodupI r
def nodupN : List Nat → Bool
  | [] => true
  | x :: r => !(r.any fun y => Nat.beq x y) && nodupN r
def keysB (es : List (Value × Value × Nat)) (clock : Nat) (ks : List Int) : Bool :=
  nodupI ks && (ks.all fun x => (Lit.int .i64 x).wf) && Nat.ble es.length 1099511627776 && (es.all fun e => Nat.blt e.2.2 clock) && nodupN (es.map (·.2.2))
def orcSorted (fS fK : Nat) : CallF := fun g args h => match Nat.beq g fS with
  | false => none
  | true => match args with
    | [.func (.func k) a b] => (match Nat.beq k fK, a.toList, b.toList with
      | true, [], [.pointer (some ⟨c, 0, none⟩)] => (match h.get? c with
        | some (.rw [.map none]) => some (sortedRes h [])
        | some (.rw [.map (some m)]) => (match h.get? m with
          | some (.map es clock) => (match keysI es with
            | some ks => (match keysB es clock ks with | true => some (sortedRes h (isort ks)) | false => none)
            | none => none)
          | _ => none)
        | _ => none)
      | _, _, _ => none)
    | _ => none

theorem keysI_ok : ∀ {es : List (Value × Value × Nat)} {ks : List Int}, keysI es = some ks → es.map (·.1) = ks.map (Value.int .i64)
  | [], ks, h => by cases h; rfl
  | (k, v, n) :: r, ks, h => by
    unfold keysI at h
    split at h
    · rename_i heq; cases heq
    · rename_i heq
      cases heq
      split at h
      · rename_i l hl
        cases h
        simp [keysI_ok hl]
      · cases h
    · cases h
theorem nodupI_ok : ∀ {l : List Int}, nodupI l = true → l.Nodup
  | [], _ => List.nodup_nil
  | x :: r, h => by
    simp only [nodupI, Bool.and_eq_true, Bool.not_eq_true', List.any_eq_false, decide_eq_true_eq] at h
    exact List.nodup_cons.2 ⟨fun hx => h.1 x hx rfl, nodupI_ok h.2⟩
theorem nodupN_ok : ∀ {l : List Nat}, nodupN l = true → l.Nodup
  | [], _ => List.nodup_nil
  | x :: r, h => by
    simp only [nodupN, Bool.and_eq_true, Bool.not_eq_true', List.any_eq_false] at h
    exact List.nodup_cons.2 ⟨fun hx => h.1 x hx (Nat.beq_refl x), nodupN_ok h.2⟩
theorem keysB_ok {es : List (Value × Value × Nat)} {clock : Nat} {ks : List Int} (h : keysI es = some ks) (hb : keysB es clock ks = true) : KeysOK es clock ks := by
  unfold keysB at hb
  simp only [Bool.and_eq_true] at hb
  obtain ⟨⟨⟨⟨h1, h2⟩, h3⟩, h4⟩, h5⟩ := hb
  refine ⟨keysI_ok h, nodupI_ok h1, fun x hx => ?_, Nat.le_of_ble_eq_true h3, fun e he => ?_, nodupN_ok h5⟩
  · exact (List.all_eq_true.1 h2) x hx
  · have := (List.all_eq_true.1 h4) e he
    exact Nat.le_of_ble_eq_true this
theorem orcSorted_ok {fS fK : Nat} {g : FuncId} {args : List Value} {h h' : Heap} {v : Value} (H : orcSorted fS fK g args h = some (v, h')) : SortedAns fS fK g args h v h' := by
  unfold orcSorted at H
  split at H
  · cases H
  rename_i hg
  have hg := Nat.eq_of_beq_eq_true hg
  split at H
  rotate_left
  · cases H
  rename_i k a b
  split at H
  rotate_left
  · cases H
  rename_i c hk ha hb
  have hk := Nat.eq_of_beq_eq_true hk
  obtain ⟨a⟩ := a
  obtain ⟨b⟩ := b
  simp only at ha hb
  subst hk ha hb hg
  refine ⟨rfl, c, rfl, ?_⟩
  split at H
  · rename_i hc
    exact .inl ⟨hc, (Option.some.inj H).symm⟩
  · rename_i m hc
    split at H
    rotate_left
    · cases H
    rename_i es clock hm
    split at H
    rotate_left
    · cases H
    rename_i ks hks
    split at H
    rotate_left
    · cases H
    rename_i hB
    exact .inr ⟨m, es, clock, ks, hc, hm, keysB_ok hks hB, (Option.some.inj H).symm⟩
  · cases H
end Go.Cm

/- The canonical machine: rules to walk where truths are not known: what has been asked once is known from then on. Conditions: none. -/
namespace Go.Cm
open Go.RowKit
set_option linter.unusedVariables false
set_option linter.unusedSimpArgs false

section
variable {M : Prg} {Q : Ex → Fr → Heap → Prop} {K : Fr → Heap → Prop} {T : List Tr → Fr → Heap → Prop} {f : Fr} {h : Heap}

theorem w_condY {c : Operand} {a b : MCode} {t : Bool} (hc : evO f c = some (.bool t)) (ht : t = true) (H : wp M a Q f h) : wp M (.cond c a b) Q f h := w_condT (by rw [hc, ht]) H
theorem w_condN {c : Operand} {a b : MCode} {t : Bool} (hc : evO f c = some (.bool t)) (ht : t = false) (H : wp M b Q f h) : wp M (.cond c a b) Q f h := w_condF (by rw [hc, ht]) H

theorem wanted_eq {t : Nat} {w b : Bool} (hl : f.look t = some (.bool b)) : wantedC f (some (t, w)) = some (b == w) := by simp only [wantedC, Fr.look_get hl]
theorem o_gdY {d : Option Nat} {op : MOp} {t : Nat} {w b : Bool} {r : List MO} (hl : f.look t = some (.bool b)) (hb : b = w) (H : wpO M (⟨d, op, none⟩ :: r) K f h) : wpO M (⟨d, op, some (t, w)⟩ :: r) K f h := by
  obtain ⟨trs, f1, h1, he, hk⟩ := H
  cases he with
  | run hw ho hr => exact ⟨_, f1, h1, .run (by rw [wanted_eq hl, hb]; simp) ho hr, hk⟩
  | pass hw hr => simp [wantedC] at hw
theorem o_gdN {d : Nat} {op : MOp} {t : Nat} {w b : Bool} {r : List MO} (hl : f.look t = some (.bool b)) (hb : b = !w) (H : wpO M r K ((d, undef) :: f) h) : wpO M (⟨some d, op, some (t, w)⟩ :: r) K f h :=
  o_pass (by rw [wanted_eq hl, hb]; cases w <;> rfl) H
theorem o_gd {d : Nat} {op : MOp} {t : Nat} {w b : Bool} {r : List MO} (hl : f.look t = some (.bool b)) (H1 : b = w → wpO M (⟨some d, op, none⟩ :: r) K f h) (H2 : b = !w → wpO M r K ((d, undef) :: f) h) : wpO M (⟨some d, op, some (t, w)⟩ :: r) K f h := by
  by_cases hb : b = w
  · exact o_gdY hl hb (H1 hb)
  · have hb' : b = !w := by revert hb; cases b <;> cases w <;> simp
    exact o_gdN hl hb' (H2 hb')
theorem o_pickY {t : Nat} {c x y : Operand} {g : Option (Nat × Bool)} {r : List MO} {v : Value} {b : Bool} (hw : wantedC f g = some true) (hc : evO f c = some (.bool b)) (hb : b = true) (hx : evO f x = some v) (H : wpO M r K ((t, v) :: f) h) : wpO M (⟨some t, .pick c x y, g⟩ :: r) K f h :=
  o_pickT hw (by rw [hc, hb]) hx H
theorem o_pickN {t : Nat} {c x y : Operand} {g : Option (Nat × Bool)} {r : List MO} {v : Value} {b : Bool} (hw : wantedC f g = some true) (hc : evO f c = some (.bool b)) (hb : b = false) (hx : evO f y = some v) (H : wpO M r K ((t, v) :: f) h) : wpO M (⟨some t, .pick c x y, g⟩ :: r) K f h :=
  o_pickF hw (by rw [hc, hb]) hx H

theorem y1 {p : Prop} [Decidable p] (h : p) : decide p = true := decide_eq_true h
theorem y2 {p : Prop} [Decidable p] (h : ¬p) : decide p = false := decide_eq_false h
theorem y3 {a b : Int} (h : a = b) : (a == b) = true := by simp [h]
theorem y4 {a b : Int} (h : a ≠ b) : (a == b) = false := by simp [h]
theorem y5 {a b : Int} (h : a ≠ b) : (a != b) = true := by simp [h]
theorem y6 {a b : Int} (h : a = b) : (a != b) = false := by simp [h]
/-! the same, where what each did is kept -/
theorem t_gdY {d : Option Nat} {op : MOp} {t : Nat} {w b : Bool} {r : List MO} (hl : f.look t = some (.bool b)) (hb : b = w) (H : wpT M (⟨d, op, none⟩ :: r) T f h) : wpT M (⟨d, op, some (t, w)⟩ :: r) T f h := by
  obtain ⟨trs, f1, h1, he, hk⟩ := H
  cases he with
  | run hw ho hr => exact ⟨_, f1, h1, .run (by rw [wanted_eq hl, hb]; simp) ho hr, hk⟩
  | pass hw hr => simp [wantedC] at hw
theorem t_gdN {d : Nat} {op : MOp} {t : Nat} {w b : Bool} {r : List MO} (hl : f.look t = some (.bool b)) (hb : b = !w) (H : wpT M r (fun trs => T (⟨false, f, h, h, undef⟩ :: trs)) ((d, undef) :: f) h) : wpT M (⟨some d, op, some (t, w)⟩ :: r) T f h :=
  t_pass (by rw [wanted_eq hl, hb]; cases w <;> rfl) H
theorem t_gd {d : Nat} {op : MOp} {t : Nat} {w b : Bool} {r : List MO} (hl : f.look t = some (.bool b)) (H1 : b = w → wpT M (⟨some d, op, none⟩ :: r) T f h) (H2 : b = !w → wpT M r (fun trs => T (⟨false, f, h, h, undef⟩ :: trs)) ((d, undef) :: f) h) : wpT M (⟨some d, op, some (t, w)⟩ :: r) T f h := by
  by_cases hb : b = w
  · exact t_gdY hl hb (H1 hb)
  · have hb' : b = !w := by revert hb; cases b <;> cases w <;> simp
    exact t_gdN hl hb' (H2 hb')
theorem t_pickY {t : Nat} {c x y : Operand} {g : Option (Nat × Bool)} {r : List MO} {v : Value} {b : Bool} (hw : wantedC f g = some true) (hc : evO f c = some (.bool b)) (hb : b = true) (hx : evO f x = some v) (H : wpT M r (fun trs => T (⟨true, f, h, h, v⟩ :: trs)) ((t, v) :: f) h) : wpT M (⟨some t, .pick c x y, g⟩ :: r) T f h :=
  t_pickT hw (by rw [hc, hb]) hx H
theorem t_pickN {t : Nat} {c x y : Operand} {g : Option (Nat × Bool)} {r : List MO} {v : Value} {b : Bool} (hw : wantedC f g = some true) (hc : evO f c = some (.bool b)) (hb : b = false) (hx : evO f y = some v) (H : wpT M r (fun trs => T (⟨true, f, h, h, v⟩ :: trs)) ((t, v) :: f) h) : wpT M (⟨some t, .pick c x y, g⟩ :: r) T f h :=
  t_pickF hw (by rw [hc, hb]) hx H
theorem t_any {t : Nat} {op : MOp} {g : Option (Nat × Bool)} {r : List MO} {v : Value} {h' : Heap} (hw : wantedC f g = some true) (hc : cop f.ev h op = some (v, h')) (H : wpT M r (fun trs => T (⟨true, f, h, h', v⟩ :: trs)) ((t, v) :: f) h') : wpT M (⟨some t, op, g⟩ :: r) T f h := t_op hw (.prim hc) H
theorem t_anyN {op : MOp} {g : Option (Nat × Bool)} {r : List MO} {v : Value} {h' : Heap} (hw : wantedC f g = some true) (hc : cop f.ev h op = some (v, h')) (H : wpT M r (fun trs => T (⟨true, f, h, h', v⟩ :: trs)) f h') : wpT M (⟨none, op, g⟩ :: r) T f h := t_op hw (.prim hc) H
theorem o_anyN {op : MOp} {g : Option (Nat × Bool)} {r : List MO} {v : Value} {h' : Heap} (hw : wantedC f g = some true) (hc : cop f.ev h op = some (v, h')) (H : wpO M r K f h') : wpO M (⟨none, op, g⟩ :: r) K f h := o_op hw (.prim hc) H

/-- what an open order asks, reckoned -/
def CrossV (l : List MO) (trs : List Tr) (ij : Nat × Nat) : Prop :=
  match l[ij.1]?, trs[ij.1]?, trs[ij.2]? with
  | some o, some ti, some tj => (match ti.ran, tj.ran with
    | true, true => reread ti.f.ev (match Nat.blt ij.1 ij.2 with | true => tj.h' | false => tj.h) o.op = some ti.v
    | _, _ => True)
  | _, _, _ => True
theorem CrossV.ok {l : List MO} {trs : List Tr} {ij : Nat × Nat} (h : CrossV l trs ij) : CrossOK l trs ij := by
  intro o ti tj h1 h2 h3 r1 r2
  unfold CrossV at h
  rw [h1, h2, h3] at h
  simp only [r1, r2] at h
  rw [← h]
  congr 1
  by_cases hl : ij.1 < ij.2
  · rw [if_pos hl, show Nat.blt ij.1 ij.2 = true from by simpa using hl]
  · rw [if_neg hl, show Nat.blt ij.1 ij.2 = false from by cases hb : Nat.blt ij.1 ij.2 with | false => rfl | true => exact absurd (by simpa using hb) hl]
def CrossAll (l : List MO) (trs : List Tr) : List (Nat × Nat) → Prop
  | [] => True
  | ij :: r => CrossV l trs ij ∧ CrossAll l trs r
theorem CrossAll.ok {l : List MO} {trs : List Tr} : ∀ {x : List (Nat × Nat)}, CrossAll l trs x → ∀ ij ∈ x, CrossOK l trs ij
  | [], _ => fun _ h => by cases h
  | ij :: r, h => fun k hk => by
    rcases List.mem_cons.1 hk with rfl | hk
    · exact h.1.ok
    · exact CrossAll.ok h.2 k hk
theorem w_opsX {l : List MO} {x : List (Nat × Nat)} (H : wpT M l (fun trs f' h' => CrossAll l trs x ∧ Q .norm f' h') f h) : wp M (.region l x) Q f h := by
  obtain ⟨trs, f1, h1, ho, hx, hq⟩ := H
  exact ⟨_, _, _, .region ho hx.ok, hq⟩

/-- sums, differences and products of numbers of 64 bits that stay within their bounds -/
theorem wrap64' {n : Int} (hn : -9223372036854775808 ≤ n ∧ n < 9223372036854775808) : IntKind.i64.wrap n = n := by
  simp only [IntKind.wrap, IntKind.bits, IntKind.signed]
  simp
  omega
theorem wrapU64 {n : Int} (hn : 0 ≤ n ∧ n < 18446744073709551616) : IntKind.u64.wrap n = n := by
  simp only [IntKind.wrap, IntKind.bits, IntKind.signed]
  simp
  omega
theorem wrapU32 {n : Int} (hn : 0 ≤ n ∧ n < 4294967296) : IntKind.u32.wrap n = n := by
  simp only [IntKind.wrap, IntKind.bits, IntKind.signed]
  simp
  omega
theorem wrapU8 {n : Int} (hn : 0 ≤ n ∧ n < 256) : IntKind.u8.wrap n = n := by
  simp only [IntKind.wrap, IntKind.bits, IntKind.signed]
  simp
  omega
theorem ar_quo {k : IntKind} {a b : Int} (ha : 0 ≤ a) (hb : 0 < b) (hn : k.wrap (a / b) = a / b) : arith .quo (.int k a) (.int k b) = some (.int k (a / b)) := by
  simp only [arith]
  rw [if_neg (by simp), if_neg (by omega), Int.tdiv_eq_ediv_of_nonneg ha, hn]
theorem ar_rem {k : IntKind} {a b : Int} (ha : 0 ≤ a) (hb : 0 < b) : arith .rem (.int k a) (.int k b) = some (.int k (a % b)) := by
  simp only [arith]
  rw [if_neg (by simp), if_neg (by omega), Int.tmod_eq_emod_of_nonneg ha]
theorem o_add {t : Nat} {x y : Operand} {g : Option (Nat × Bool)} {r : List MO} {k : IntKind} {a b : Int} (hw : wantedC f g = some true) (hx : evO f x = some (.int k a)) (hy : evO f y = some (.int k b)) (hn : k.wrap (a + b) = a + b)
    (H : wpO M r K ((t, .int k (a + b)) :: f) h) : wpO M (⟨some t, .ar .add x y, g⟩ :: r) K f h :=
  o_ar hw hx hy (w := .int k (k.wrap (a + b))) (by simp [arith]) (w' := .int k (a + b)) (by rw [hn]) H
theorem o_sub {t : Nat} {x y : Operand} {g : Option (Nat × Bool)} {r : List MO} {k : IntKind} {a b : Int} (hw : wantedC f g = some true) (hx : evO f x = some (.int k a)) (hy : evO f y = some (.int k b)) (hn : k.wrap (a - b) = a - b)
    (H : wpO M r K ((t, .int k (a - b)) :: f) h) : wpO M (⟨some t, .ar .sub x y, g⟩ :: r) K f h :=
  o_ar hw hx hy (w := .int k (k.wrap (a - b))) (by simp [arith]) (w' := .int k (a - b)) (by rw [hn]) H
theorem o_mul {t : Nat} {x y : Operand} {g : Option (Nat × Bool)} {r : List MO} {k : IntKind} {a b : Int} (hw : wantedC f g = some true) (hx : evO f x = some (.int k a)) (hy : evO f y = some (.int k b)) (hn : k.wrap (a * b) = a * b)
    (H : wpO M r K ((t, .int k (a * b)) :: f) h) : wpO M (⟨some t, .ar .mul x y, g⟩ :: r) K f h :=
  o_ar hw hx hy (w := .int k (k.wrap (a * b))) (by simp [arith]) (w' := .int k (a * b)) (by rw [hn]) H
theorem o_quo {t : Nat} {x y : Operand} {g : Option (Nat × Bool)} {r : List MO} {k : IntKind} {a b : Int} (hw : wantedC f g = some true) (hx : evO f x = some (.int k a)) (hy : evO f y = some (.int k b)) (ha : 0 ≤ a) (hb : 0 < b) (hn : k.wrap (a / b) = a / b)
    (H : wpO M r K ((t, .int k (a / b)) :: f) h) : wpO M (⟨some t, .ar .quo x y, g⟩ :: r) K f h :=
  o_ar hw hx hy (ar_quo ha hb hn) rfl H
theorem o_rem {t : Nat} {x y : Operand} {g : Option (Nat × Bool)} {r : List MO} {k : IntKind} {a b : Int} (hw : wantedC f g = some true) (hx : evO f x = some (.int k a)) (hy : evO f y = some (.int k b)) (ha : 0 ≤ a) (hb : 0 < b)
    (H : wpO M r K ((t, .int k (a % b)) :: f) h) : wpO M (⟨some t, .ar .rem x y, g⟩ :: r) K f h :=
  o_ar hw hx hy (ar_rem ha hb) rfl H
theorem o_conv {t : Nat} {x : Operand} {g : Option (Nat × Bool)} {r : List MO} {k k' : IntKind} {n : Int} (hw : wantedC f g = some true) (hx : evO f x = some (.int k' n)) (hn : k.wrap n = n)
    (H : wpO M r K ((t, .int k n) :: f) h) : wpO M (⟨some t, .conv k x, g⟩ :: r) K f h :=
  o_op hw (.prim (by simp only [cop, evO_ok hx]; rw [hn])) H
theorem t_add {t : Nat} {x y : Operand} {g : Option (Nat × Bool)} {r : List MO} {k : IntKind} {a b : Int} (hw : wantedC f g = some true) (hx : evO f x = some (.int k a)) (hy : evO f y = some (.int k b)) (hn : k.wrap (a + b) = a + b)
    (H : wpT M r (fun trs => T (⟨true, f, h, h, .int k (a + b)⟩ :: trs)) ((t, .int k (a + b)) :: f) h) : wpT M (⟨some t, .ar .add x y, g⟩ :: r) T f h :=
  t_ar hw hx hy (w := .int k (k.wrap (a + b))) (by simp [arith]) (w' := .int k (a + b)) (by rw [hn]) H
theorem t_sub {t : Nat} {x y : Operand} {g : Option (Nat × Bool)} {r : List MO} {k : IntKind} {a b : Int} (hw : wantedC f g = some true) (hx : evO f x = some (.int k a)) (hy : evO f y = some (.int k b)) (hn : k.wrap (a - b) = a - b)
    (H : wpT M r (fun trs => T (⟨true, f, h, h, .int k (a - b)⟩ :: trs)) ((t, .int k (a - b)) :: f) h) : wpT M (⟨some t, .ar .sub x y, g⟩ :: r) T f h :=
  t_ar hw hx hy (w := .int k (k.wrap (a - b))) (by simp [arith]) (w' := .int k (a - b)) (by rw [hn]) H
theorem t_mul {t : Nat} {x y : Operand} {g : Option (Nat × Bool)} {r : List MO} {k : IntKind} {a b : Int} (hw : wantedC f g = some true) (hx : evO f x = some (.int k a)) (hy : evO f y = some (.int k b)) (hn : k.wrap (a * b) = a * b)
    (H : wpT M r (fun trs => T (⟨true, f, h, h, .int k (a * b)⟩ :: trs)) ((t, .int k (a * b)) :: f) h) : wpT M (⟨some t, .ar .mul x y, g⟩ :: r) T f h :=
  t_ar hw hx hy (w := .int k (k.wrap (a * b))) (by simp [arith]) (w' := .int k (a * b)) (by rw [hn]) H
theorem t_quo {t : Nat} {x y : Operand} {g : Option (Nat × Bool)} {r : List MO} {k : IntKind} {a b : Int} (hw : wantedC f g = some true) (hx : evO f x = some (.int k a)) (hy : evO f y = some (.int k b)) (ha : 0 ≤ a) (hb : 0 < b) (hn : k.wrap (a / b) = a / b)
    (H : wpT M r (fun trs => T (⟨true, f, h, h, .int k (a / b)⟩ :: trs)) ((t, .int k (a / b)) :: f) h) : wpT M (⟨some t, .ar .quo x y, g⟩ :: r) T f h :=
  t_ar hw hx hy (ar_quo ha hb hn) rfl H
theorem t_rem {t : Nat} {x y : Operand} {g : Option (Nat × Bool)} {r : List MO} {k : IntKind} {a b : Int} (hw : wantedC f g = some true) (hx : evO f x = some (.int k a)) (hy : evO f y = some (.int k b)) (ha : 0 ≤ a) (hb : 0 < b)
    (H : wpT M r (fun trs => T (⟨true, f, h, h, .int k (a % b)⟩ :: trs)) ((t, .int k (a % b)) :: f) h) : wpT M (⟨some t, .ar .rem x y, g⟩ :: r) T f h :=
  t_ar hw hx hy (ar_rem ha hb) rfl H
theorem t_conv {t : Nat} {x : Operand} {g : Option (Nat × Bool)} {r : List MO} {k k' : IntKind} {n : Int} (hw : wantedC f g = some true) (hx : evO f x = some (.int k' n)) (hn : k.wrap n = n)
    (H : wpT M r (fun trs => T (⟨true, f, h, h, .int k n⟩ :: trs)) ((t, .int k n) :: f) h) : wpT M (⟨some t, .conv k x, g⟩ :: r) T f h :=
  t_op hw (.prim (by simp only [cop, evO_ok hx]; rw [hn])) H

/-- any operation that is reckoned -/
theorem o_any {t : Nat} {op : MOp} {g : Option (Nat × Bool)} {r : List MO} {v : Value} {h' : Heap} (hw : wantedC f g = some true) (hc : cop f.ev h op = some (v, h')) (H : wpO M r K ((t, v) :: f) h') : wpO M (⟨some t, op, g⟩ :: r) K f h := o_op hw (.prim hc) H
end
end Go.Cm

/- Which classes may be: the program's answer and the reference's. Conditions: none. -/
namespace Go.Proofs.Ytfbhmogjnjejmaa
open Go.Cm
set_option linter.unusedVariables false
set_option linter.unusedSimpArgs false
set_option maxRecDepth 100000
set_option maxHeartbeats 10000000

section
variable {M : Prg} (hp : PureClosed M) (hf : M.fn = lookF tab)
include hp hf

theorem sideC (n : Int) (h : Heap) : Cl M F_shape_side [.int .i64 n] h fun v h' => v = .bool (decide (1 ≤ n ∧ n ≤ 6)) ∧ h' = h := by
  refine Cl.pure hp rfl ?_ h
  refine w_call (F := M_shape_side) (by rw [hf]; rfl) rfl ?_
  repeat' (first
    | (show wpO _ _ _ _ _; first
        | refine o_mv rfl rfl ?_
        | refine o_lenV rfl rfl ?_
        | refine o_ext rfl rfl rfl ?_
        | refine o_nil ?_
        | (show wpO _ (⟨_, _, some _⟩ :: _) _ _ _; first | refine o_gdY rfl (by first | rfl | assumption) ?_ | refine o_gdN rfl (by first | rfl | assumption) ?_ | (refine o_gd rfl ?_ ?_ <;> intro) | refine o_pass rfl ?_ | refine o_passN rfl ?_)
        | (show wpO _ (⟨_, .pick _ _ _, _⟩ :: _) _ _ _; first | refine o_pickY rfl rfl (by first | rfl | assumption) rfl ?_ | refine o_pickN rfl rfl (by first | rfl | assumption) rfl ?_)
        | refine o_any rfl rfl ?_
        | refine o_anyN rfl rfl ?_)
    | (show wpT _ _ _ _ _; first
        | refine t_mv rfl rfl ?_
        | refine t_ext rfl rfl rfl ?_
        | (refine t_nil ⟨?_, ?_⟩; focus (repeat' (first | exact trivial | rfl | refine And.intro ?_ ?_)))
        | (show wpT _ (⟨_, _, some _⟩ :: _) _ _ _; first | refine t_gdY rfl (by first | rfl | assumption) ?_ | refine t_gdN rfl (by first | rfl | assumption) ?_ | (refine t_gd rfl ?_ ?_ <;> intro) | refine t_pass rfl ?_)
        | (show wpT _ (⟨_, .pick _ _ _, _⟩ :: _) _ _ _; first | refine t_pickY rfl rfl (by first | rfl | assumption) rfl ?_ | refine t_pickN rfl rfl (by first | rfl | assumption) rfl ?_)
        | refine t_any rfl rfl ?_
        | refine t_anyN rfl rfl ?_)
    | (show wp _ _ _ _ _; first
        | refine w_opsS ?_
        | refine w_ops ?_
        | (show wp _ (.cond _ _ _) _ _ _; first | refine w_condY rfl (by first | rfl | assumption) ?_ | refine w_condN rfl (by first | rfl | assumption) ?_ | (refine w_cond rfl ?_ ?_ <;> intro))
        | refine w_seq ?_
        | refine w_opsX ?_
        | refine w_block ?_
        | refine w_exit ?_
        | refine w_ret ?_
        | refine w_skip ?_))
  all_goals refine ⟨.inr rfl, _, rfl, rfl, ?_⟩
  all_goals simp at *
  all_goals omega
theorem inC (n m : Int) (h : Heap) : Cl M F_ref09_in [.int .i64 n, .int .i64 m] h fun v h' => v = .bool (decide (1 ≤ n ∧ n ≤ m)) ∧ h' = h := by
  refine Cl.pure hp rfl ?_ h
  refine w_call (F := M_ref09_in) (by rw [hf]; rfl) rfl ?_
  repeat' (first
    | (show wpO _ _ _ _ _; first
        | refine o_mv rfl rfl ?_
        | refine o_lenV rfl rfl ?_
        | refine o_ext rfl rfl rfl ?_
        | refine o_nil ?_
        | (show wpO _ (⟨_, _, some _⟩ :: _) _ _ _; first | refine o_gdY rfl (by first | rfl | assumption) ?_ | refine o_gdN rfl (by first | rfl | assumption) ?_ | (refine o_gd rfl ?_ ?_ <;> intro) | refine o_pass rfl ?_ | refine o_passN rfl ?_)
        | (show wpO _ (⟨_, .pick _ _ _, _⟩ :: _) _ _ _; first | refine o_pickY rfl rfl (by first | rfl | assumption) rfl ?_ | refine o_pickN rfl rfl (by first | rfl | assumption) rfl ?_)
        | refine o_any rfl rfl ?_
        | refine o_anyN rfl rfl ?_)
    | (show wpT _ _ _ _ _; first
        | refine t_mv rfl rfl ?_
        | refine t_ext rfl rfl rfl ?_
        | (refine t_nil ⟨?_, ?_⟩; focus (repeat' (first | exact trivial | rfl | refine And.intro ?_ ?_)))
        | (show wpT _ (⟨_, _, some _⟩ :: _) _ _ _; first | refine t_gdY rfl (by first | rfl | assumption) ?_ | refine t_gdN rfl (by first | rfl | assumption) ?_ | (refine t_gd rfl ?_ ?_ <;> intro) | refine t_pass rfl ?_)
        | (show wpT _ (⟨_, .pick _ _ _, _⟩ :: _) _ _ _; first | refine t_pickY rfl rfl (by first | rfl | assumption) rfl ?_ | refine t_pickN rfl rfl (by first | rfl | assumption) rfl ?_)
        | refine t_any rfl rfl ?_
        | refine t_anyN rfl rfl ?_)
    | (show wp _ _ _ _ _; first
        | refine w_opsS ?_
        | refine w_ops ?_
        | (show wp _ (.cond _ _ _) _ _ _; first | refine w_condY rfl (by first | rfl | assumption) ?_ | refine w_condN rfl (by first | rfl | assumption) ?_ | (refine w_cond rfl ?_ ?_ <;> intro))
        | refine w_seq ?_
        | refine w_opsX ?_
        | refine w_block ?_
        | refine w_exit ?_
        | refine w_ret ?_
        | refine w_skip ?_))
  all_goals refine ⟨.inr rfl, _, rfl, rfl, ?_⟩
  all_goals simp at *
  all_goals omega

def checkN (k b m j n : Int) : Int := if k = 2 then (if (1 ≤ m ∧ m ≤ 6) ∧ (1 ≤ j ∧ j ≤ 6) ∧ (1 ≤ n ∧ n ≤ 6) ∧ 1 ≤ b ∧ b ≤ 64 then 0 else 11)
  else if k = 1 ∨ k = 4 then (if m = 0 ∧ j = 0 ∧ n = 0 ∧ 1 ≤ b ∧ b ≤ 64 then 0 else 11)
  else if k = 3 then (if m = 0 ∧ j = 0 ∧ n = 0 ∧ b = 1 then 0 else 11) else 15

theorem shapeCheckC (k b m j n : Int) (h : Heap) : Cl M F_shape_Check [.agg #[.int .i64 k, .int .i64 b, .int .i64 m, .int .i64 j, .int .i64 n]] h fun v h' => v = .int .i64 (checkN k b m j n) ∧ h' = h := by
  refine Cl.pure hp rfl ?_ h
  refine w_call (F := M_shape_Check) (by rw [hf]; rfl) rfl ?_
  repeat' (first
    | (show wpO _ _ _ _ _; first
        | refine o_mv rfl rfl ?_
        | refine o_lenV rfl rfl ?_
        | refine o_ext rfl rfl rfl ?_
        | refine o_nil ?_
        | (show wpO _ (⟨_, _, some _⟩ :: _) _ _ _; first | refine o_gdY rfl (by first | rfl | assumption) ?_ | refine o_gdN rfl (by first | rfl | assumption) ?_ | (refine o_gd rfl ?_ ?_ <;> intro) | refine o_pass rfl ?_ | refine o_passN rfl ?_)
        | (show wpO _ (⟨_, .pick _ _ _, _⟩ :: _) _ _ _; first | refine o_pickY rfl rfl (by first | rfl | assumption) rfl ?_ | refine o_pickN rfl rfl (by first | rfl | assumption) rfl ?_)
        | (show wpO _ (⟨_, .call _ _, _⟩ :: _) _ _ _; refine o_call rfl rfl (sideC hp hf _ _) ?_; rintro v h' ⟨rfl, rfl⟩)
        | refine o_any rfl rfl ?_
        | refine o_anyN rfl rfl ?_)
    | (show wpT _ _ _ _ _; first
        | refine t_mv rfl rfl ?_
        | refine t_ext rfl rfl rfl ?_
        | (refine t_nil ⟨?_, ?_⟩; focus (repeat' (first | exact trivial | rfl | refine And.intro ?_ ?_)))
        | (show wpT _ (⟨_, _, some _⟩ :: _) _ _ _; first | refine t_gdY rfl (by first | rfl | assumption) ?_ | refine t_gdN rfl (by first | rfl | assumption) ?_ | (refine t_gd rfl ?_ ?_ <;> intro) | refine t_pass rfl ?_)
        | (show wpT _ (⟨_, .pick _ _ _, _⟩ :: _) _ _ _; first | refine t_pickY rfl rfl (by first | rfl | assumption) rfl ?_ | refine t_pickN rfl rfl (by first | rfl | assumption) rfl ?_)
        | (show wpT _ (⟨_, .call _ _, _⟩ :: _) _ _ _; refine t_call rfl rfl (sideC hp hf _ _) ?_; rintro v h' ⟨rfl, rfl⟩)
        | refine t_any rfl rfl ?_
        | refine t_anyN rfl rfl ?_)
    | (show wp _ _ _ _ _; first
        | refine w_opsS ?_
        | refine w_ops ?_
        | (show wp _ (.cond _ _ _) _ _ _; first | refine w_condY rfl (by first | rfl | assumption) ?_ | refine w_condN rfl (by first | rfl | assumption) ?_ | (refine w_cond rfl ?_ ?_ <;> intro))
        | refine w_seq ?_
        | refine w_opsX ?_
        | refine w_block ?_
        | refine w_exit ?_
        | refine w_ret ?_
        | refine w_skip ?_))
  all_goals refine ⟨.inr rfl, _, rfl, rfl, ?_⟩
  all_goals simp only [decide_eq_true_eq, decide_eq_false_iff_not, beq_iff_eq, Bool.not_true, Bool.not_false, bne_iff_ne, beq_eq_false_iff_ne, Bool.not_eq_false', Bool.not_eq_true', bne_eq_false_iff_eq, ne_eq] at *
  all_goals unfold checkN
  all_goals congr 1
  all_goals omega
theorem ref09CheckC (k b m j n : Int) (h : Heap) : Cl M F_ref09_Check [.agg #[.int .i64 k, .int .i64 b, .int .i64 m, .int .i64 j, .int .i64 n]] h fun v h' => v = .int .i64 (checkN k b m j n) ∧ h' = h := by
  refine Cl.pure hp rfl ?_ h
  refine w_call (F := M_ref09_Check) (by rw [hf]; rfl) rfl ?_
  repeat' (first
    | (show wpO _ _ _ _ _; first
        | refine o_mv rfl rfl ?_
        | refine o_lenV rfl rfl ?_
        | refine o_ext rfl rfl rfl ?_
        | refine o_nil ?_
        | (show wpO _ (⟨_, _, some _⟩ :: _) _ _ _; first | refine o_gdY rfl (by first | rfl | assumption) ?_ | refine o_gdN rfl (by first | rfl | assumption) ?_ | (refine o_gd rfl ?_ ?_ <;> intro) | refine o_pass rfl ?_ | refine o_passN rfl ?_)
        | (show wpO _ (⟨_, .pick _ _ _, _⟩ :: _) _ _ _; first | refine o_pickY rfl rfl (by first | rfl | assumption) rfl ?_ | refine o_pickN rfl rfl (by first | rfl | assumption) rfl ?_)
        | (show wpO _ (⟨_, .call _ _, _⟩ :: _) _ _ _; refine o_call rfl rfl (inC hp hf _ _ _) ?_; rintro v h' ⟨rfl, rfl⟩)
        | refine o_any rfl rfl ?_
        | refine o_anyN rfl rfl ?_)
    | (show wpT _ _ _ _ _; first
        | refine t_mv rfl rfl ?_
        | refine t_ext rfl rfl rfl ?_
        | (refine t_nil ⟨?_, ?_⟩; focus (repeat' (first | exact trivial | rfl | refine And.intro ?_ ?_)))
        | (show wpT _ (⟨_, _, some _⟩ :: _) _ _ _; first | refine t_gdY rfl (by first | rfl | assumption) ?_ | refine t_gdN rfl (by first | rfl | assumption) ?_ | (refine t_gd rfl ?_ ?_ <;> intro) | refine t_pass rfl ?_)
        | (show wpT _ (⟨_, .pick _ _ _, _⟩ :: _) _ _ _; first | refine t_pickY rfl rfl (by first | rfl | assumption) rfl ?_ | refine t_pickN rfl rfl (by first | rfl | assumption) rfl ?_)
        | (show wpT _ (⟨_, .call _ _, _⟩ :: _) _ _ _; refine t_call rfl rfl (inC hp hf _ _ _) ?_; rintro v h' ⟨rfl, rfl⟩)
        | refine t_any rfl rfl ?_
        | refine t_anyN rfl rfl ?_)
    | (show wp _ _ _ _ _; first
        | refine w_opsS ?_
        | refine w_ops ?_
        | (show wp _ (.cond _ _ _) _ _ _; first | refine w_condY rfl (by first | rfl | assumption) ?_ | refine w_condN rfl (by first | rfl | assumption) ?_ | (refine w_cond rfl ?_ ?_ <;> intro))
        | refine w_seq ?_
        | refine w_opsX ?_
        | refine w_block ?_
        | refine w_exit ?_
        | refine w_ret ?_
        | refine w_skip ?_))
  all_goals refine ⟨.inr rfl, _, rfl, rfl, ?_⟩
  all_goals simp only [decide_eq_true_eq, decide_eq_false_iff_not, beq_iff_eq, Bool.not_true, Bool.not_false, bne_iff_ne, beq_eq_false_iff_ne, Bool.not_eq_false', Bool.not_eq_true', bne_eq_false_iff_eq, ne_eq] at *
  all_goals unfold checkN
  all_goals congr 1
  all_goals omega
end
end Go.Proofs.Ytfbhmogjnjejmaa

/-
  DERIVED: THE SHELF's CONTRACTS AT THIS DUMP, IN PLAIN WORDS (tools/lay-plain.mjs out of 'YtfbhmogjnjejmaaLay.lean', which tools/lay-shelf.mjs wrote): THE SAME DECLARATIONS UNDER THE SAME NAMES: 'import', 'namespace', 'open', 'def', 'theorem' AND NOTHING ELSE: no command of the shelf's: FOR A HAND-IN. Each laying: the table of numbers ('.._ren') and one theorem, a field a fact of the dump's own or the kernel's comparison; each contract: ONE APPLICATION.
-/
namespace Go.Proofs.Ytfbhmogjnjejmaa
open Go.Shelf Go.Proofs
def Try.keysA_ren : Go.Shelf.Ren := ⟨fun | 7 => 37 | 10 => 46 | n => n, fun | 23 => 63 | 26 => 3 | 3 => 70 | 28 => 84 | 0 => 0 | 27 => 83 | 33 => 86 | 4 => 4 | n => n, fun | n => n⟩
theorem Try.keysA : Go.Proofs.SlLaysZI.n7 Try.prog Try.keysA_ren := {
  mixed := by kernel_rfl
  f7 := ⟨Try.f37.name, by decide, Try.func37.trans (congrArg some (by kernel_rfl))⟩
  f10 := ⟨Try.f46.name, by decide, Try.func46.trans (congrArg some (by kernel_rfl))⟩
  t0 := Try.underlying0
  a0 := Try.isAgg0
  z0 := Try.sizeOf0
  v0 := Try.zeroValue0
  t4 := Try.underlying4
  a4 := Try.isAgg4
  z4 := Try.sizeOf4
  v4 := Try.zeroValue4
  t23 := Try.underlying63
  a23 := Try.isAgg63
  z23 := Try.sizeOf63
  v23 := Try.zeroValue63
  t26 := Try.underlying3
  a26 := Try.isAgg3
  z26 := Try.sizeOf3
  v26 := Try.zeroValue3
  t27 := Try.underlying83
  a27 := Try.isAgg83
  z27 := Try.sizeOf83
  v27 := Try.zeroValue83
  t28 := Try.underlying84
  a28 := Try.isAgg84
  z28 := Try.sizeOf84
  v28 := Try.zeroValue84
  t33 := Try.underlying86
  a33 := Try.isAgg86
  z33 := Try.sizeOf86
  v33 := Try.zeroValue86 }
def Try.sortedA_ren : Go.Shelf.Ren := ⟨fun | 6 => 36 | 8 => 44 | 9 => 45 | 11 => 48 | 13 => 50 | 12 => 49 | 23 => 62 | 24 => 63 | 14 => 53 | 15 => 54 | 16 => 55 | 17 => 56 | 18 => 57 | 19 => 58 | 20 => 59 | 21 => 60 | 22 => 61 | 25 => 65 | 26 => 66 | 27 => 67 | 28 => 68 | 29 => 69 | 30 => 70 | 31 => 72 | n => n, fun | 26 => 3 | 28 => 84 | 24 => 51 | 0 => 0 | 3 => 3 | 37 => 98 | 48 => 110 | 50 => 112 | 4 => 4 | 40 => 103 | 39 => 102 | 45 => 107 | 5 => 5 | 9 => 9 | 51 => 113 | 55 => 117 | 57 => 119 | 58 => 89 | 33 => 86 | n => n, fun | n => n⟩
theorem Try.sortedA : Go.Proofs.SlLaysZI.n6 Try.prog Try.sortedA_ren := {
  mixed := by kernel_rfl
  f6 := ⟨Try.f36.name, by decide, Try.func36.trans (congrArg some (by kernel_rfl))⟩
  f8 := ⟨Try.f44.name, by decide, Try.func44.trans (congrArg some (by kernel_rfl))⟩
  f11 := ⟨Try.f48.name, by decide, Try.func48.trans (congrArg some (by kernel_rfl))⟩
  t0 := Try.underlying0
  a0 := Try.isAgg0
  z0 := Try.sizeOf0
  v0 := Try.zeroValue0
  t24 := Try.underlying51
  a24 := Try.isAgg51
  z24 := Try.sizeOf51
  v24 := Try.zeroValue51
  t26 := Try.underlying3
  a26 := Try.isAgg3
  z26 := Try.sizeOf3
  v26 := Try.zeroValue3
  t28 := Try.underlying84
  a28 := Try.isAgg84
  z28 := Try.sizeOf84
  v28 := Try.zeroValue84
  i26 := by kernel_rfl }
def Try.sortA_ren : Go.Shelf.Ren := ⟨fun | 5 => 45 | 8 => 50 | 7 => 49 | 19 => 62 | 20 => 63 | 10 => 53 | 11 => 54 | 12 => 55 | 13 => 56 | 14 => 57 | 15 => 58 | 16 => 59 | 17 => 60 | 18 => 61 | 30 => 65 | 31 => 66 | 32 => 67 | 33 => 68 | 34 => 69 | 35 => 70 | 40 => 72 | n => n, fun | 23 => 51 | 25 => 3 | 3 => 3 | 32 => 98 | 22 => 51 | 0 => 0 | 44 => 110 | 46 => 112 | 4 => 4 | 36 => 103 | 35 => 102 | 41 => 107 | 5 => 5 | 9 => 9 | 53 => 113 | 57 => 117 | 63 => 119 | 64 => 89 | n => n, fun | n => n⟩
theorem Try.sortA : Go.Proofs.SlLaysM.n5 Try.prog Try.sortA_ren := {
  mixed := by kernel_rfl
  f5 := ⟨Try.f45.name, by decide, Try.func45.trans (congrArg some (by kernel_rfl))⟩
  f7 := ⟨Try.f49.name, by decide, Try.func49.trans (congrArg some (by kernel_rfl))⟩
  f8 := Try.func50.trans (congrArg some (by kernel_rfl))
  f10 := ⟨Try.f53.name, by decide, Try.func53.trans (congrArg some (by kernel_rfl))⟩
  f11 := ⟨Try.f54.name, by decide, Try.func54.trans (congrArg some (by kernel_rfl))⟩
  f12 := ⟨Try.f55.name, by decide, Try.func55.trans (congrArg some (by kernel_rfl))⟩
  f13 := ⟨Try.f56.name, by decide, Try.func56.trans (congrArg some (by kernel_rfl))⟩
  f14 := ⟨Try.f57.name, by decide, Try.func57.trans (congrArg some (by kernel_rfl))⟩
  f15 := ⟨Try.f58.name, by decide, Try.func58.trans (congrArg some (by kernel_rfl))⟩
  f16 := ⟨Try.f59.name, by decide, Try.func59.trans (congrArg some (by kernel_rfl))⟩
  f17 := ⟨Try.f60.name, by decide, Try.func60.trans (congrArg some (by kernel_rfl))⟩
  f18 := ⟨Try.f61.name, by decide, Try.func61.trans (congrArg some (by kernel_rfl))⟩
  f19 := Try.func62.trans (congrArg some (by kernel_rfl))
  f20 := Try.func63.trans (congrArg some (by kernel_rfl))
  f30 := ⟨Try.f65.name, by decide, Try.func65.trans (congrArg some (by kernel_rfl))⟩
  f31 := Try.func66.trans (congrArg some (by kernel_rfl))
  f32 := Try.func67.trans (congrArg some (by kernel_rfl))
  f33 := ⟨Try.f68.name, by decide, Try.func68.trans (congrArg some (by kernel_rfl))⟩
  f34 := ⟨Try.f69.name, by decide, Try.func69.trans (congrArg some (by kernel_rfl))⟩
  f35 := ⟨Try.f70.name, by decide, Try.func70.trans (congrArg some (by kernel_rfl))⟩
  f40 := ⟨Try.f72.name, by decide, Try.func72.trans (congrArg some (by kernel_rfl))⟩
  t0 := Try.underlying0
  a0 := Try.isAgg0
  z0 := Try.sizeOf0
  v0 := Try.zeroValue0
  t3 := Try.underlying3
  a3 := Try.isAgg3
  z3 := Try.sizeOf3
  v3 := Try.zeroValue3
  t4 := Try.underlying4
  a4 := Try.isAgg4
  z4 := Try.sizeOf4
  v4 := Try.zeroValue4
  t5 := Try.underlying5
  a5 := Try.isAgg5
  z5 := Try.sizeOf5
  v5 := Try.zeroValue5
  t9 := Try.underlying9
  a9 := Try.isAgg9
  z9 := Try.sizeOf9
  v9 := Try.zeroValue9
  t22 := Try.underlying51
  a22 := Try.isAgg51
  z22 := Try.sizeOf51
  v22 := Try.zeroValue51
  t23 := Try.underlying51
  a23 := Try.isAgg51
  z23 := Try.sizeOf51
  v23 := Try.zeroValue51
  t25 := Try.underlying3
  a25 := Try.isAgg3
  z25 := Try.sizeOf3
  v25 := Try.zeroValue3
  t32 := Try.underlying98
  a32 := Try.isAgg98
  z32 := Try.sizeOf98
  v32 := Try.zeroValue98
  t35 := Try.underlying102
  a35 := Try.isAgg102
  z35 := Try.sizeOf102
  v35 := Try.zeroValue102
  t36 := Try.underlying103
  a36 := Try.isAgg103
  z36 := Try.sizeOf103
  v36 := Try.zeroValue103
  t41 := Try.underlying107
  a41 := Try.isAgg107
  z41 := Try.sizeOf107
  v41 := Try.zeroValue107
  t44 := Try.underlying110
  a44 := Try.isAgg110
  z44 := Try.sizeOf110
  v44 := Try.zeroValue110
  t46 := Try.underlying112
  a46 := Try.isAgg112
  z46 := Try.sizeOf112
  v46 := Try.zeroValue112
  t53 := Try.underlying113
  a53 := Try.isAgg113
  z53 := Try.sizeOf113
  v53 := Try.zeroValue113
  t57 := Try.underlying117
  a57 := Try.isAgg117
  z57 := Try.sizeOf117
  v57 := Try.zeroValue117
  t63 := Try.underlying119
  a63 := Try.isAgg119
  z63 := Try.sizeOf119
  v63 := Try.zeroValue119
  t64 := Try.underlying89
  a64 := Try.isAgg89
  z64 := Try.sizeOf89
  v64 := Try.zeroValue89 }
end Go.Proofs.Ytfbhmogjnjejmaa

/- The answer for sorted keys at this program; the law's example, run. Conditions: none. -/
namespace Go.Proofs.Ytfbhmogjnjejmaa
open Go.Cm Go.Sort Go.Proofs Go.Shelf Go.RowKit
set_option linter.unusedVariables false
set_option linter.unusedSimpArgs false
set_option maxRecDepth 100000
set_option maxHeartbeats 10000000

def orc : CallF := orcSorted 36 46
theorem sortsIn (m : Nat) : AnyZI.SortsIn Try.prog Try.sortedA_ren Fence.wide m :=
  ⟨fun blk off cap ss W hH hblk hsz => callsIn_wide.2 (AnyM.slices_Sort_int Try.sortA blk off cap ss W hH hblk hsz),
   fun p cap W => callsIn_wide.2 (AnyM.slices_Sort_int_none Try.sortA p cap W)⟩
theorem orcOK : OrcOK Try.prog 0 orc := fun B W0 g args h v h' ho =>
  sorted_good (ρk := Try.keysA_ren) (ρs := Try.sortedA_ren) { Try.keysA with } Try.sortedA ⟨Try.f36, Try.func36, by kernel_rfl, by kernel_rfl⟩ sortsIn (enters_of Try.func45 (by kernel_rfl) rfl) (enters_of Try.func46 (by kernel_rfl) rfl) (orcSorted_ok ho)

def MM : Prg := (Prg.of tab orc).inf
theorem MMknows : Knows Try.prog 0 MM := Knows.inf mixed (Knows.of tabIn orcOK)
theorem MMp : PureClosed MM := Prg.inf_pure _
theorem MMf : MM.fn = lookF tab := rfl

theorem MMrun {n : Nat} {g : FuncId} {args : List Value} {u : Value} {h : Heap} (hr : (evalX (lookF tab) orc n g args h).map (·.1) = some u) : ∃ h', Ev MM (.call g args h u h') := by
  cases hx : evalX (lookF tab) orc n g args h with
  | none => rw [hx] at hr; cases hr
  | some p =>
    obtain ⟨v, h'⟩ := p
    rw [hx] at hr
    cases hr
    exact ⟨h', Ev.mono (M := Prg.of tab orc) (M' := MM) rfl (fun g args h v h' ho => show ∃ n, ((Prg.of tab orc).pureN n).orac g args h v h' from ⟨0, ho⟩) (evalX_ev n hx)⟩

theorem awake_run : (evalX (lookF tab) orc 200 F_law33_awake [] ⟨0, []⟩).map (·.1) = some (.bool true) := by kernel_rfl
theorem awakeC (h : Heap) : Cl MM F_law33_awake [] h fun v h' => v = .bool true ∧ h' = h := by
  obtain ⟨h1, he⟩ := MMrun awake_run
  exact ⟨_, _, MMp.pure he rfl rfl h, rfl, rfl⟩
end Go.Proofs.Ytfbhmogjnjejmaa

/- Which tickets may be; nobody's table. Conditions: none. -/
namespace Go.Proofs.Ytfbhmogjnjejmaa
open Go.Cm Go.RowKit
set_option linter.unusedVariables false
set_option linter.unusedSimpArgs false
set_option maxRecDepth 100000
set_option maxHeartbeats 10000000

def ticketN (id k b m j n c : Int) : Int := if checkN k b m j n ≠ 0 then checkN k b m j n else if id < 0 ∨ id > 4294967295 ∨ c < 1 ∨ c > 64 then 1 else 0
def ticketV (id k b m j n c : Int) : Value := .agg #[.int .i64 id, .int .i64 k, .int .i64 b, .int .i64 m, .int .i64 j, .int .i64 n, .int .i64 c]

theorem serveCheckC (id k b m j n c : Int) (h : Heap) : Cl MM F_serve_Check [ticketV id k b m j n c] h fun v h' => v = .int .i64 (ticketN id k b m j n c) ∧ h' = h := by
  refine Cl.pure MMp rfl ?_ h
  refine w_call (F := M_serve_Check) (by rw [MMf]; rfl) rfl ?_
  have hc := shapeCheckC MMp MMf k b m j n
  generalize hN : checkN k b m j n = N at hc
  repeat' (first
    | (show wpO _ _ _ _ _; first
        | refine o_mv rfl rfl ?_
        | refine o_lenV rfl rfl ?_
        | refine o_ext rfl rfl rfl ?_
        | refine o_nil ?_
        | (show wpO _ (⟨_, _, some _⟩ :: _) _ _ _; first | refine o_gdY rfl (by first | rfl | assumption) ?_ | refine o_gdN rfl (by first | rfl | assumption) ?_ | (refine o_gd rfl ?_ ?_ <;> intro) | refine o_pass rfl ?_ | refine o_passN rfl ?_)
        | (show wpO _ (⟨_, .pick _ _ _, _⟩ :: _) _ _ _; first | refine o_pickY rfl rfl (by first | rfl | assumption) rfl ?_ | refine o_pickN rfl rfl (by first | rfl | assumption) rfl ?_)
        | (show wpO _ (⟨_, .call _ _, _⟩ :: _) _ _ _; refine o_call rfl rfl (hc _) ?_; rintro v h' ⟨rfl, rfl⟩)
        | refine o_any rfl rfl ?_
        | refine o_anyN rfl rfl ?_)
    | (show wpT _ _ _ _ _; first
        | refine t_mv rfl rfl ?_
        | refine t_ext rfl rfl rfl ?_
        | (refine t_nil ⟨?_, ?_⟩; focus (repeat' (first | exact trivial | rfl | refine And.intro ?_ ?_)))
        | (show wpT _ (⟨_, _, some _⟩ :: _) _ _ _; first | refine t_gdY rfl (by first | rfl | assumption) ?_ | refine t_gdN rfl (by first | rfl | assumption) ?_ | (refine t_gd rfl ?_ ?_ <;> intro) | refine t_pass rfl ?_)
        | (show wpT _ (⟨_, .pick _ _ _, _⟩ :: _) _ _ _; first | refine t_pickY rfl rfl (by first | rfl | assumption) rfl ?_ | refine t_pickN rfl rfl (by first | rfl | assumption) rfl ?_)
        | (show wpT _ (⟨_, .call _ _, _⟩ :: _) _ _ _; refine t_call rfl rfl (hc _) ?_; rintro v h' ⟨rfl, rfl⟩)
        | refine t_any rfl rfl ?_
        | refine t_anyN rfl rfl ?_)
    | (show wp _ _ _ _ _; first
        | refine w_opsS ?_
        | refine w_ops ?_
        | (show wp _ (.cond _ _ _) _ _ _; first | refine w_condY rfl (by first | rfl | assumption) ?_ | refine w_condN rfl (by first | rfl | assumption) ?_ | (refine w_cond rfl ?_ ?_ <;> intro))
        | refine w_seq ?_
        | refine w_opsX ?_
        | refine w_block ?_
        | refine w_exit ?_
        | refine w_ret ?_
        | refine w_skip ?_))
  all_goals refine ⟨.inr rfl, _, rfl, rfl, ?_⟩
  all_goals simp only [decide_eq_true_eq, decide_eq_false_iff_not, beq_iff_eq, Bool.not_true, Bool.not_false, bne_iff_ne, beq_eq_false_iff_ne, Bool.not_eq_false', Bool.not_eq_true', bne_eq_false_iff_eq, ne_eq] at *
  all_goals unfold ticketN
  all_goals congr 1
  all_goals rw [hN]
  all_goals split <;> omega
theorem ref33CheckC (id k b m j n c : Int) (h : Heap) : Cl MM F_ref33_Check [ticketV id k b m j n c] h fun v h' => v = .int .i64 (ticketN id k b m j n c) ∧ h' = h := by
  refine Cl.pure MMp rfl ?_ h
  refine w_call (F := M_ref33_Check) (by rw [MMf]; rfl) rfl ?_
  have hc := ref09CheckC MMp MMf k b m j n
  generalize hN : checkN k b m j n = N at hc
  repeat' (first
    | (show wpO _ _ _ _ _; first
        | refine o_mv rfl rfl ?_
        | refine o_lenV rfl rfl ?_
        | refine o_ext rfl rfl rfl ?_
        | refine o_nil ?_
        | (show wpO _ (⟨_, _, some _⟩ :: _) _ _ _; first | refine o_gdY rfl (by first | rfl | assumption) ?_ | refine o_gdN rfl (by first | rfl | assumption) ?_ | (refine o_gd rfl ?_ ?_ <;> intro) | refine o_pass rfl ?_ | refine o_passN rfl ?_)
        | (show wpO _ (⟨_, .pick _ _ _, _⟩ :: _) _ _ _; first | refine o_pickY rfl rfl (by first | rfl | assumption) rfl ?_ | refine o_pickN rfl rfl (by first | rfl | assumption) rfl ?_)
        | (show wpO _ (⟨_, .call _ _, _⟩ :: _) _ _ _; refine o_call rfl rfl (hc _) ?_; rintro v h' ⟨rfl, rfl⟩)
        | refine o_any rfl rfl ?_
        | refine o_anyN rfl rfl ?_)
    | (show wpT _ _ _ _ _; first
        | refine t_mv rfl rfl ?_
        | refine t_ext rfl rfl rfl ?_
        | (refine t_nil ⟨?_, ?_⟩; focus (repeat' (first | exact trivial | rfl | refine And.intro ?_ ?_)))
        | (show wpT _ (⟨_, _, some _⟩ :: _) _ _ _; first | refine t_gdY rfl (by first | rfl | assumption) ?_ | refine t_gdN rfl (by first | rfl | assumption) ?_ | (refine t_gd rfl ?_ ?_ <;> intro) | refine t_pass rfl ?_)
        | (show wpT _ (⟨_, .pick _ _ _, _⟩ :: _) _ _ _; first | refine t_pickY rfl rfl (by first | rfl | assumption) rfl ?_ | refine t_pickN rfl rfl (by first | rfl | assumption) rfl ?_)
        | (show wpT _ (⟨_, .call _ _, _⟩ :: _) _ _ _; refine t_call rfl rfl (hc _) ?_; rintro v h' ⟨rfl, rfl⟩)
        | refine t_any rfl rfl ?_
        | refine t_anyN rfl rfl ?_)
    | (show wp _ _ _ _ _; first
        | refine w_opsS ?_
        | refine w_ops ?_
        | (show wp _ (.cond _ _ _) _ _ _; first | refine w_condY rfl (by first | rfl | assumption) ?_ | refine w_condN rfl (by first | rfl | assumption) ?_ | (refine w_cond rfl ?_ ?_ <;> intro))
        | refine w_seq ?_
        | refine w_opsX ?_
        | refine w_block ?_
        | refine w_exit ?_
        | refine w_ret ?_
        | refine w_skip ?_))
  all_goals refine ⟨.inr rfl, _, rfl, rfl, ?_⟩
  all_goals simp only [decide_eq_true_eq, decide_eq_false_iff_not, beq_iff_eq, Bool.not_true, Bool.not_false, bne_iff_ne, beq_eq_false_iff_ne, Bool.not_eq_false', Bool.not_eq_true', bne_eq_false_iff_eq, ne_eq] at *
  all_goals unfold ticketN
  all_goals congr 1
  all_goals rw [hN]
  all_goals split <;> omega
theorem serveChecksC (id k b m j n c : Int) (h : Heap) : Cl MM F_law33_ServeChecks [ticketV id k b m j n c] h fun v h' => v = .bool true ∧ h' = h := by
  refine Cl.pure MMp rfl ?_ h
  refine w_call (F := M_law33_ServeChecks) (by rw [MMf]; rfl) rfl ?_
  have h1 := serveCheckC id k b m j n c
  have h2 := ref33CheckC id k b m j n c
  generalize ticketN id k b m j n c = N at h1 h2
  have h3 := awakeC
  unfold ticketV at h1 h2 ⊢
  repeat' (first
    | (show wpO _ _ _ _ _; first
        | refine o_mv rfl rfl ?_
        | refine o_lenV rfl rfl ?_
        | refine o_ext rfl rfl rfl ?_
        | refine o_nil ?_
        | (show wpO _ (⟨_, _, some _⟩ :: _) _ _ _; first | refine o_gdY rfl (by first | rfl | assumption) ?_ | refine o_gdN rfl (by first | rfl | assumption) ?_ | (refine o_gd rfl ?_ ?_ <;> intro) | refine o_pass rfl ?_ | refine o_passN rfl ?_)
        | (show wpO _ (⟨_, .pick _ _ _, _⟩ :: _) _ _ _; first | refine o_pickY rfl rfl (by first | rfl | assumption) rfl ?_ | refine o_pickN rfl rfl (by first | rfl | assumption) rfl ?_)
        | (show wpO _ (⟨_, .call _ _, _⟩ :: _) _ _ _; refine o_call rfl rfl (h1 _) ?_; rintro v h' ⟨rfl, rfl⟩)
        | (show wpO _ (⟨_, .call _ _, _⟩ :: _) _ _ _; refine o_call rfl rfl (h2 _) ?_; rintro v h' ⟨rfl, rfl⟩)
        | (show wpO _ (⟨_, .call _ _, _⟩ :: _) _ _ _; refine o_call rfl rfl (h3 _) ?_; rintro v h' ⟨rfl, rfl⟩)
        | refine o_any rfl rfl ?_
        | refine o_anyN rfl rfl ?_)
    | (show wpT _ _ _ _ _; first
        | refine t_mv rfl rfl ?_
        | refine t_ext rfl rfl rfl ?_
        | (refine t_nil ⟨?_, ?_⟩; focus (repeat' (first | exact trivial | rfl | refine And.intro ?_ ?_)))
        | (show wpT _ (⟨_, _, some _⟩ :: _) _ _ _; first | refine t_gdY rfl (by first | rfl | assumption) ?_ | refine t_gdN rfl (by first | rfl | assumption) ?_ | (refine t_gd rfl ?_ ?_ <;> intro) | refine t_pass rfl ?_)
        | (show wpT _ (⟨_, .pick _ _ _, _⟩ :: _) _ _ _; first | refine t_pickY rfl rfl (by first | rfl | assumption) rfl ?_ | refine t_pickN rfl rfl (by first | rfl | assumption) rfl ?_)
        | (show wpT _ (⟨_, .call _ _, _⟩ :: _) _ _ _; refine t_call rfl rfl (h1 _) ?_; rintro v h' ⟨rfl, rfl⟩)
        | (show wpT _ (⟨_, .call _ _, _⟩ :: _) _ _ _; refine t_call rfl rfl (h2 _) ?_; rintro v h' ⟨rfl, rfl⟩)
        | (show wpT _ (⟨_, .call _ _, _⟩ :: _) _ _ _; refine t_call rfl rfl (h3 _) ?_; rintro v h' ⟨rfl, rfl⟩)
        | refine t_any rfl rfl ?_
        | refine t_anyN rfl rfl ?_)
    | (show wp _ _ _ _ _; first
        | refine w_opsS ?_
        | refine w_ops ?_
        | (show wp _ (.cond _ _ _) _ _ _; first | refine w_condY rfl (by first | rfl | assumption) ?_ | refine w_condN rfl (by first | rfl | assumption) ?_ | (refine w_cond rfl ?_ ?_ <;> intro))
        | refine w_seq ?_
        | refine w_opsX ?_
        | refine w_block ?_
        | refine w_exit ?_
        | refine w_ret ?_
        | refine w_skip ?_))
  all_goals first | exact ⟨.inr rfl, _, rfl, rfl, rfl⟩ | (rename_i hb; simp at hb)
set_option maxRecDepth 100000 in
theorem nobody_run (a b c d e f g i j k l m : Int) : (evalX (lookF tab) orc 200 F_law33_ServeNobody [.agg #[.int .i64 a, .int .i64 b, .int .i64 c, .int .i64 d, .int .i64 e, .int .i64 f, .int .i64 g, .int .i64 i, .int .i64 j, .int .i64 k, .int .i64 l, .int .i64 m]] ⟨0, []⟩).map (·.1) = some (.bool true) := by kernel_rfl
end Go.Proofs.Ytfbhmogjnjejmaa

/- The canonical machine: rules for slices whose lengths are not known. Conditions: none. -/
namespace Go.Cm
open Go.RowKit
set_option linter.unusedVariables false
set_option linter.unusedSimpArgs false

theorem toBytes_take : ∀ (l : List UInt8) (n : Nat), toBytes ((l.map fun b => Value.int .u8 b.toNat).take n) = some (l.take n)
  | [], n => by simp [toBytes]
  | b :: l, 0 => by simp [toBytes]
  | b :: l, n + 1 => by simp [toBytes, toBytes_take l n]
theorem toBytes_of (l : List UInt8) : toBytes (l.map fun b => Value.int .u8 b.toNat) = some l := by
  have := toBytes_take l l.length
  rwa [List.take_of_length_le (by simp), List.take_of_length_le (Nat.le_refl _)] at this
theorem splice_zero {cs vs : List Value} : splice cs 0 vs = vs ++ cs.drop vs.length := by cases cs <;> rfl

theorem splice_mid (x v : Value) (B : List Value) : ∀ (A : List Value) (o : Nat), o = A.length → splice (A ++ x :: B) o [v] = A ++ v :: B
  | [], o, h => by subst h; rfl
  | a :: A, o, h => by subst h; simp only [List.cons_append, List.length_cons, splice]; rw [splice_mid x v B A _ rfl]
theorem splice_set : ∀ (cs : List Value) (o : Nat) (v : Value), o < cs.length → splice cs o [v] = cs.set o v
  | [], o, v, h => by simp at h
  | c :: cs, 0, v, h => by simp [splice]
  | c :: cs, o + 1, v, h => by simp only [splice, List.set_cons_succ]; rw [splice_set cs o v (by simpa using h)]

section
variable {M : Prg} {Q : Ex → Fr → Heap → Prop} {K : Fr → Heap → Prop} {T : List Tr → Fr → Heap → Prop} {f : Fr} {h : Heap}

theorem o_mkSl {t bytes : Nat} {zero : List Value} {l c : Operand} {g : Option (Nat × Bool)} {r : List MO} {k1 k2 : IntKind} {a b : Int} (hw : wantedC f g = some true) (hl : evO f l = some (.int k1 a)) (hc : evO f c = some (.int k2 b))
    (hb : 0 ≤ a ∧ a ≤ b ∧ bytes * b ≤ 281474976710656 ∧ b ≤ 9223372036854775807) (H : wpO M r K ((t, .slice (some ⟨h.n, 0, none⟩) a.toNat b.toNat) :: f) (h.push (.rw (repL zero b.toNat)))) : wpO M (⟨some t, .mkSl bytes zero l c, g⟩ :: r) K f h :=
  o_op hw (.prim (by simp only [cop, evO_ok hl, evO_ok hc]; rw [if_pos hb])) H
theorem o_ixS {t : Nat} {x i : Operand} {g : Option (Nat × Bool)} {r : List MO} {s : ByteArray} {k : IntKind} {n : Int} {b : UInt8} (hw : wantedC f g = some true) (hx : evO f x = some (.string s)) (hi : evO f i = some (.int k n)) (hn : 0 ≤ n) (hb : s[n.toNat]? = some b)
    (H : wpO M r K ((t, .int .u8 b.toNat) :: f) h) : wpO M (⟨some t, .ixS x i, g⟩ :: r) K f h :=
  o_op hw (.prim (by simp only [cop, evO_ok hx, evO_ok hi, hb]; rw [if_pos hn])) H
theorem o_convBS {t : Nat} {x : Operand} {g : Option (Nat × Bool)} {r : List MO} {a : Addr} {len cap : Nat} {cs : List Value} {l : List UInt8} (hw : wantedC f g = some true) (hx : evO f x = some (.slice (some a) len cap)) (hr : sliceCells h 1 len (.slice (some a) len cap) = some cs) (hl : toBytes cs = some l)
    (H : wpO M r K ((t, .string ⟨l.toArray⟩) :: f) h) : wpO M (⟨some t, .convBS x, g⟩ :: r) K f h :=
  o_op hw (.prim (by simp only [cop, evO_ok hx, hr, hl])) H
/-- an append of a text that fits -/
theorem o_appSfit {t : Nat} {x y : Operand} {g : Option (Nat × Bool)} {r : List MO} {a : Addr} {len cap : Nat} {s : ByteArray} {h' : Heap} (hw : wantedC f g = some true) (hx : evO f x = some (.slice (some a) len cap)) (hy : evO f y = some (.string s)) (hs : 0 < s.size)
    (hfit : len + s.size ≤ cap) (hmax : len + s.size ≤ 140737488355328) (hwr : h.wr ⟨a.block, a.off + len, a.spot⟩ (ofBytes s) = some h') (H : wpO M r K ((t, .slice (some a) (len + s.size) cap) :: f) h') : wpO M (⟨some t, .appS x y, g⟩ :: r) K f h := by
  refine o_op hw (.prim ?_) H
  simp only [cop, evO_ok hx, evO_ok hy, appendTo, ofBytes_length, Nat.mul_one]
  rw [if_neg (by omega), if_pos hfit, if_neg (by omega), hwr]

def objCells : CObj → Option (List Value)
  | .ro cs | .rw cs | .loose _ cs => some cs
  | _ => none
theorem rd1_obj {c off : Nat} {o : CObj} {cs : List Value} {v : Value} (hg : h.get? c = some o) (ho : objCells o = some cs) (hv : cs[off]? = some v) : h.rd1 ⟨c, off, none⟩ = some v := by
  unfold Heap.rd1 Heap.cells
  rw [hg]
  cases o <;> simp_all [objCells]
theorem rdN_obj {c off n : Nat} {o : CObj} {cs : List Value} (hg : h.get? c = some o) (ho : objCells o = some cs) (hn : off + n ≤ cs.length) : h.rdN ⟨c, off, none⟩ n = some ((cs.drop off).take n) := by
  unfold Heap.rdN Heap.cells
  rw [hg]
  cases o <;> simp_all [objCells]
theorem wr_rw {c off : Nat} {cs vs : List Value} (hg : h.get? c = some (.rw cs)) (hn : off + vs.length ≤ cs.length) : h.wr ⟨c, off, none⟩ vs = some (h.set c (.rw (splice cs off vs))) := by
  unfold Heap.wr
  rw [hg]
  simp [hn]
theorem wr_loose {c off e : Nat} {cs vs : List Value} (hg : h.get? c = some (.loose e cs)) (hn : off + vs.length ≤ cs.length) : h.wr ⟨c, off, none⟩ vs = some (h.set c (.loose e (splice cs off vs))) := by
  unfold Heap.wr
  rw [hg]
  simp [hn]
theorem o_load1R {t : Nat} {x : Operand} {g : Option (Nat × Bool)} {r : List MO} {c off : Nat} {o : CObj} {cs : List Value} {v : Value} (hw : wantedC f g = some true) (hx : evO f x = some (.pointer (some ⟨c, off, none⟩))) (hg : h.get? c = some o) (ho : objCells o = some cs) (hv : cs[off]? = some v)
    (H : wpO M r K ((t, v) :: f) h) : wpO M (⟨some t, .load1 x, g⟩ :: r) K f h := o_load1 hw hx (rd1_obj hg ho hv) H
theorem o_loadNR {t n : Nat} {x : Operand} {g : Option (Nat × Bool)} {r : List MO} {c off : Nat} {o : CObj} {cs vs : List Value} (hw : wantedC f g = some true) (hx : evO f x = some (.pointer (some ⟨c, off, none⟩))) (hg : h.get? c = some o) (ho : objCells o = some cs) (hn : off + n ≤ cs.length) (hv : (cs.drop off).take n = vs)
    (H : wpO M r K ((t, .agg vs.toArray) :: f) h) : wpO M (⟨some t, .loadN n x, g⟩ :: r) K f h := o_loadN hw hx (by rw [rdN_obj hg ho hn, hv]) H
theorem t_load1R {t : Nat} {x : Operand} {g : Option (Nat × Bool)} {r : List MO} {c off : Nat} {o : CObj} {cs : List Value} {v : Value} (hw : wantedC f g = some true) (hx : evO f x = some (.pointer (some ⟨c, off, none⟩))) (hg : h.get? c = some o) (ho : objCells o = some cs) (hv : cs[off]? = some v)
    (H : wpT M r (fun trs => T (⟨true, f, h, h, v⟩ :: trs)) ((t, v) :: f) h) : wpT M (⟨some t, .load1 x, g⟩ :: r) T f h := t_load1 hw hx (rd1_obj hg ho hv) H
theorem t_loadNR {t n : Nat} {x : Operand} {g : Option (Nat × Bool)} {r : List MO} {c off : Nat} {o : CObj} {cs vs : List Value} (hw : wantedC f g = some true) (hx : evO f x = some (.pointer (some ⟨c, off, none⟩))) (hg : h.get? c = some o) (ho : objCells o = some cs) (hn : off + n ≤ cs.length) (hv : (cs.drop off).take n = vs)
    (H : wpT M r (fun trs => T (⟨true, f, h, h, .agg vs.toArray⟩ :: trs)) ((t, .agg vs.toArray) :: f) h) : wpT M (⟨some t, .loadN n x, g⟩ :: r) T f h := t_loadN hw hx (by rw [rdN_obj hg ho hn, hv]) H
theorem o_storeR {n : Nat} {x y : Operand} {g : Option (Nat × Bool)} {r : List MO} {c off : Nat} {cs vs : List Value} {v : Value} (hw : wantedC f g = some true) (hx : evO f x = some (.pointer (some ⟨c, off, none⟩))) (hy : evO f y = some v) (hv : cellsOf v = some vs) (hl : vs.length = n) (hg : h.get? c = some (.rw cs)) (hn : off + vs.length ≤ cs.length)
    (H : wpO M r K f (h.set c (.rw (splice cs off vs)))) : wpO M (⟨none, .store n x y, g⟩ :: r) K f h := by
  refine o_op (v := undef) hw (.prim ?_) H
  simp only [cop, evO_ok hx, evO_ok hy, hv]
  rw [if_pos hl, wr_rw hg hn]

/-- memory in which one object alone has turned -/
structure Only (h h' : Heap) (c : Nat) : Prop where
  le : h.n ≤ h'.n
  old : ∀ d, d < h.n → d ≠ c → h'.get? d = h.get? d
theorem Only.refl {h : Heap} {c : Nat} : Only h h c := ⟨Nat.le_refl _, fun _ _ _ => rfl⟩
theorem Only.trans {a b e : Heap} {c : Nat} (h1 : Only a b c) (h2 : Only b e c) : Only a e c := ⟨Nat.le_trans h1.le h2.le, fun d hd hc => (h2.old d (Nat.lt_of_lt_of_le hd h1.le) hc).trans (h1.old d hd hc)⟩
theorem Only.of_le {a b : Heap} {c : Nat} (l : Le a b) : Only a b c := ⟨l.1, fun d hd _ => l.2 d hd⟩
theorem Only.set {a : Heap} {c : Nat} {o o' : CObj} (hg : a.get? c = some o') : Only a (a.set c o) c := ⟨Nat.le_refl _, fun d hd hc => Heap.get?_set_other (Heap.get?_lt hg) hc⟩
theorem Only.get {a b : Heap} {c d : Nat} {o : CObj} (h : Only a b c) (hc : d ≠ c) (ho : a.get? d = some o) : b.get? d = some o := by rw [h.old d (Heap.get?_lt ho) hc]; exact ho
theorem get_add_old {h h1 : Heap} (hm : madeOnly h1 = true) {c : Nat} {o : CObj} (ho : h.get? c = some o) : (h.add h1).get? c = some o := by
  rw [get_add (madeOnly_len hm), if_pos (Heap.get?_lt ho)]; exact ho
theorem get_add_new {h h1 : Heap} (hm : madeOnly h1 = true) {c : Nat} {o : CObj} (ho : h1.get? c = some o) : (h.add h1).get? (h.n + c) = some (shO h.n o) := by
  rw [get_add (madeOnly_len hm), if_neg (by omega), show h.n + c - h.n = c from by omega, ho]; rfl
theorem o_ext {t i : Nat} {x : Operand} {g : Option (Nat × Bool)} {r : List MO} {vs : Array Value} {v : Value} (hw : wantedC f g = some true) (hx : evO f x = some (.tuple vs)) (hv : vs.toList[i]? = some v)
    (H : wpO M r K ((t, v) :: f) h) : wpO M (⟨some t, .ext x i, g⟩ :: r) K f h :=
  o_op hw (.prim (by simp only [cop, evO_ok hx]; rw [← Array.getElem?_toList, hv])) H
theorem t_ext {t i : Nat} {x : Operand} {g : Option (Nat × Bool)} {r : List MO} {vs : Array Value} {v : Value} (hw : wantedC f g = some true) (hx : evO f x = some (.tuple vs)) (hv : vs.toList[i]? = some v)
    (H : wpT M r (fun trs => T (⟨true, f, h, h, v⟩ :: trs)) ((t, v) :: f) h) : wpT M (⟨some t, .ext x i, g⟩ :: r) T f h :=
  t_op hw (.prim (by simp only [cop, evO_ok hx]; rw [← Array.getElem?_toList, hv])) H
theorem cross_nil {l : List MO} {trs : List Tr} {R : Prop} (H : R) : CrossAll l trs [] ∧ R := ⟨trivial, H⟩
theorem cross_cons {l : List MO} {trs : List Tr} {ij : Nat × Nat} {r : List (Nat × Nat)} {R : Prop} (h : CrossV l trs ij) (H : CrossAll l trs r ∧ R) : CrossAll l trs (ij :: r) ∧ R := ⟨⟨h, H.1⟩, H.2⟩
theorem rereadLoad1 {ρ : Operand → Value} {h : Heap} {x : Operand} {a : Addr} {v : Value} (hx : ρ x = .pointer (some a)) (hr : h.rd1 a = some v) : reread ρ h (.load1 x) = some v := by
  simp only [reread, cop, hx, hr]
theorem rereadLoadN {ρ : Operand → Value} {h : Heap} {n : Nat} {x : Operand} {a : Addr} {vs : List Value} (hx : ρ x = .pointer (some a)) (hr : h.rdN a n = some vs) : reread ρ h (.loadN n x) = some (.agg vs.toArray) := by
  simp only [reread, cop, hx, hr]
/-- a number within its kind's bounds -/
def inKind (n : Int) : IntKind → Prop
  | .i64 => -9223372036854775808 ≤ n ∧ n < 9223372036854775808
  | .u64 => 0 ≤ n ∧ n < 18446744073709551616
  | .u32 => 0 ≤ n ∧ n < 4294967296
  | .u8 => 0 ≤ n ∧ n < 256
  | _ => False
theorem wrapAny {k : IntKind} {n : Int} (h : inKind n k) : k.wrap n = n := by
  cases k <;> first | exact wrap64' h | exact wrapU64 h | exact wrapU32 h | exact wrapU8 h | exact h.elim
/-- one more round -/
theorem rnd_again {live : List Nat} {again : Fr → Heap → Prop} {f' : Fr} (hk : keepO f live = some f') (H : again f' h) : Ex.round live again Q .norm f h := ⟨f', hk, H⟩
theorem bounds_lo {len cap : Nat} {k : IntKind} {a : Int} (h : 0 ≤ a ∧ a ≤ len ∧ len ≤ cap) : bounds len cap (some (.int k a)) none none = some (a.toNat, len, cap) := by
  simp only [bounds, asNat?]
  rw [if_pos h.1]
  simp only [Option.isSome_none, Bool.false_eq_true, if_false]
  rw [if_pos (by omega)]
theorem bounds_hi {len cap : Nat} {k : IntKind} {a : Int} (h : 0 ≤ a ∧ a ≤ cap) : bounds len cap none (some (.int k a)) none = some (0, a.toNat, cap) := by
  simp only [bounds, asNat?]
  rw [if_pos h.1]
  simp only
  rw [if_pos (by omega)]
  try simp
theorem bounds_both {len cap : Nat} {k k' : IntKind} {a b : Int} (h : 0 ≤ a ∧ a ≤ b ∧ b ≤ cap) : bounds len cap (some (.int k a)) (some (.int k' b)) none = some (a.toNat, b.toNat, cap) := by
  simp only [bounds, asNat?]
  rw [if_pos h.1, if_pos (show 0 ≤ b by omega)]
  simp only
  rw [if_pos (show b.toNat ≤ cap by omega)]
  simp only
  rw [if_pos (show a.toNat ≤ b.toNat by omega)]
/-- a part of a slice of an own block, or of one that is only read -/
theorem o_slV {t esz : Nat} {x : Operand} {lo hi : Option Operand} {g : Option (Nat × Bool)} {r : List MO} {a : Addr} {len cap l e m : Nat} {o : CObj} (hw : wantedC f g = some true) (hx : evO f x = some (.slice (some a) len cap)) (hb : bounds len cap (lo.map f.ev) (hi.map f.ev) none = some (l, e, m))
    (ho : h.get? a.block = some o) (hk : (∃ cs, o = .ro cs) ∨ ∃ cs, o = .rw cs) (H : wpO M r K ((t, .slice (some (if m = l then a else addOff a (l * esz))) (e - l) (m - l)) :: f) h) : wpO M (⟨some t, .slV esz x lo hi none, g⟩ :: r) K f h := by
  refine o_op hw (.prim ?_) H
  rcases hk with ⟨cs, rfl⟩ | ⟨cs, rfl⟩ <;> simp only [cop, evO_ok hx, hb, Option.map_none, ho, Option.isSome_none, Bool.false_eq_true, if_false]
/-- the same of a block that appends have made; the part does not begin behind its last place -/
theorem o_slVl {t esz : Nat} {x : Operand} {lo hi : Option Operand} {g : Option (Nat × Bool)} {r : List MO} {a : Addr} {len cap l e m : Nat} {cs : List Value} (hw : wantedC f g = some true) (hx : evO f x = some (.slice (some a) len cap)) (hb : bounds len cap (lo.map f.ev) (hi.map f.ev) none = some (l, e, m))
    (ho : h.get? a.block = some (.loose esz cs)) (hm : m ≠ l) (H : wpO M r K ((t, .slice (some (addOff a (l * esz))) (e - l) (m - l)) :: f) h) : wpO M (⟨some t, .slV esz x lo hi none, g⟩ :: r) K f h := by
  refine o_op hw (.prim ?_) H
  simp only [cop, evO_ok hx, hb, Option.map_none, ho, Option.isSome_none, Bool.false_eq_true, if_false]
  rw [if_neg hm, if_pos trivial]
theorem o_slS {t : Nat} {x : Operand} {lo hi : Option Operand} {g : Option (Nat × Bool)} {r : List MO} {s : ByteArray} {l e m : Nat} (hw : wantedC f g = some true) (hx : evO f x = some (.string s)) (hb : bounds s.size s.size (lo.map f.ev) (hi.map f.ev) none = some (l, e, m))
    (H : wpO M r K ((t, .string (s.extract l e)) :: f) h) : wpO M (⟨some t, .slS x lo hi, g⟩ :: r) K f h :=
  o_op hw (.prim (by simp only [cop, evO_ok hx, hb])) H
end
theorem sliceCells_of {h : Heap} {a : Addr} {esz n len cap : Nat} {vs : List Value} (hn : 0 < n) (hl : n ≤ len) (hr : h.rdN a (n * esz) = some vs) : sliceCells h esz n (.slice (some a) len cap) = some vs := by
  simp only [sliceCells]
  rw [if_neg (by omega), if_pos hl, hr]
end Go.Cm

/- The canonical machine: lists that a call makes by appends; lists that are read. Conditions: none. -/
namespace Go.Cm
open Go.RowKit
set_option linter.unusedVariables false
set_option linter.unusedSimpArgs false

/-- a slice that appends alone have made: its cells -/
def Own (h : Heap) (esz : Nat) (v : Value) (cs : List Value) : Prop :=
  (v = .slice none 0 0 ∧ cs = []) ∨ ∃ c m, v = .slice (some ⟨c, 0, none⟩) m m ∧ h.get? c = some (.loose esz cs) ∧ cs.length = m * esz ∧ 0 < m
/-- what an append onto v leaves as it was -/
def AppRel (h h' : Heap) (v : Value) : Prop := h.n ≤ h'.n ∧ ∀ d, d < h.n → (∀ m k, v ≠ .slice (some ⟨d, 0, none⟩) m k) → h'.get? d = h.get? d

theorem Own.nil {h : Heap} {esz : Nat} : Own h esz (.slice none 0 0) [] := .inl ⟨rfl, rfl⟩
theorem Own.keep {h h' : Heap} {esz : Nat} {v : Value} {cs : List Value} (H : Own h esz v cs) (k : ∀ c m n, v = .slice (some ⟨c, 0, none⟩) m n → h'.get? c = h.get? c) : Own h' esz v cs := by
  rcases H with H | ⟨c, m, rfl, h1, h2, h3⟩
  · exact .inl H
  · exact .inr ⟨c, m, rfl, by rw [k c m m rfl]; exact h1, h2, h3⟩
theorem Own.le {h h' : Heap} {esz : Nat} {v : Value} {cs : List Value} (H : Own h esz v cs) (l : Le h h') : Own h' esz v cs := by
  rcases H with H | ⟨c, m, rfl, h1, h2, h3⟩
  · exact .inl H
  · exact .inr ⟨c, m, rfl, l.get h1, h2, h3⟩
theorem Own.lt {h : Heap} {esz : Nat} {v : Value} {cs : List Value} (H : Own h esz v cs) {c m n : Nat} (e : v = .slice (some ⟨c, 0, none⟩) m n) : c < h.n := by
  rcases H with ⟨rfl, _⟩ | ⟨c', m', rfl, h1, _, _⟩
  · cases e
  · cases e; exact Heap.get?_lt h1

theorem app_own {h : Heap} {esz bytes n : Nat} {v : Value} {cs ys : List Value} (H : Own h esz v cs) (he : 0 < esz) (hn : 0 < n) (hy : ys.length = n * esz) (hb : ∀ m, cs.length = m * esz → (m + n) * bytes ≤ 140737488355328) :
    ∃ m h', appendTo h esz bytes v n ys = some (.slice (some ⟨h.n, 0, none⟩) m m, h') ∧ Own h' esz (.slice (some ⟨h.n, 0, none⟩) m m) (cs ++ ys) ∧ h'.n = h.n + 1 ∧ AppRel h h' v := by
  rcases H with ⟨rfl, rfl⟩ | ⟨c, m, rfl, h1, h2, h3⟩
  · have := hb 0 (by simp)
    refine ⟨n, h.push (.loose esz ys), ?_, .inr ⟨h.n, n, rfl, by rw [Heap.get?_push_new]; rfl, by simpa using hy, hn⟩, rfl, by simp [Heap.push], fun d hd _ => Heap.get?_push_old hd⟩
    simp only [appendTo]
    rw [if_neg (by omega), if_neg (by omega)]
  · have := hb m h2
    have hlt := Heap.get?_lt h1
    refine ⟨m + n, (h.set c .dead).push (.loose esz (cs ++ ys)), ?_, .inr ⟨h.n, m + n, rfl, ?_, ?_, by omega⟩, rfl, by simp [Heap.push, Heap.set], ?_⟩
    · simp only [appendTo]
      rw [if_neg (by omega), if_neg (by omega)]
      rw [rdN_obj h1 rfl (by simp; omega)]
      simp only [h1]
      rw [if_pos (by simp; omega), if_pos trivial]
      simp only [List.drop_zero]
      rw [← h2, List.take_length]
    · have : (h.set c .dead).n = h.n := rfl
      rw [← this, Heap.get?_push_new]
    · rw [List.length_append, h2, hy, Nat.add_mul]
    · intro d hd hne
      have e1 : d < (h.set c .dead).n := hd
      rw [Heap.get?_push_old e1]
      exact Heap.get?_set_other hlt (fun e => hne m m (by rw [e]))

section
variable {M : Prg} {Q : Ex → Fr → Heap → Prop} {K : Fr → Heap → Prop} {T : List Tr → Fr → Heap → Prop} {f : Fr} {h : Heap}

/-- one element appended: the list of one, then the append -/
theorem o_push {t1 t2 esz bytes : Nat} {zero : List Value} {parts : List (Nat × Nat × Operand)} {x : Operand} {r : List MO} {vx : Value} {cs ys : List Value} (hl : lay f.ev parts zero = some ys) (hy : ys.length = esz) (he : 0 < esz) (hx : evO ((t1, .slice (some ⟨h.n, 0, none⟩) 1 1) :: f) x = some vx) (H : Own h esz vx cs)
    (hb : ∀ m, cs.length = m * esz → (m + 1) * bytes ≤ 140737488355328) (hk : ∀ m h', Own h' esz (.slice (some ⟨h.n + 1, 0, none⟩) m m) (cs ++ ys) → h'.n = h.n + 2 → AppRel h h' vx → wpO M r K ((t2, .slice (some ⟨h.n + 1, 0, none⟩) m m) :: (t1, .slice (some ⟨h.n, 0, none⟩) 1 1) :: f) h') :
    wpO M (⟨some t1, .buildSlice zero 1 parts, none⟩ :: ⟨some t2, .app esz bytes x (.tmp t1), none⟩ :: r) K f h := by
  have H1 : Own (h.push (.rw ys)) esz vx cs := H.le Le.push
  obtain ⟨m, h', e1, e2, e3, e4⟩ := app_own (bytes := bytes) (n := 1) (ys := ys) H1 he Nat.one_pos (by omega) hb
  refine o_op (v := .slice (some ⟨h.n, 0, none⟩) 1 1) (h' := h.push (.rw ys)) rfl (.prim (by simp only [cop, hl])) ?_
  refine o_op (v := .slice (some ⟨h.n + 1, 0, none⟩) m m) (h' := h') rfl (.prim ?_) ?_
  · show cop (Fr.ev ((t1, .slice (some ⟨h.n, 0, none⟩) 1 1) :: f)) (h.push (.rw ys)) (.app esz bytes x (.tmp t1)) = _
    have ht : Fr.ev ((t1, .slice (some ⟨h.n, 0, none⟩) 1 1) :: f) (.tmp t1) = .slice (some ⟨h.n, 0, none⟩) 1 1 := by simp [Fr.ev, Fr.get]
    simp only [cop, ht, evO_ok hx]
    rw [sliceCells_of (vs := ys) Nat.one_pos (Nat.le_refl _) (by rw [rdN_obj (c := h.n) (off := 0) (n := 1 * esz) (cs := ys) Heap.get?_push_new rfl (by omega)]; rw [List.drop_zero, Nat.one_mul, ← hy, List.take_length])]
    exact e1
  · refine hk m h' e2 (by rw [e3]; rfl) ⟨by rw [e3]; simp [Heap.push]; omega, fun d hd hne => ?_⟩
    rw [e4.2 d (by simp [Heap.push]; omega) hne, Heap.get?_push_old hd]
/-- an append of one element, of a list of one that has just been made -/
theorem o_app1 {t esz bytes : Nat} {x y : Operand} {r : List MO} {vx : Value} {cs ys : List Value} {c : Nat} (hx : evO f x = some vx) (hy : evO f y = some (.slice (some ⟨c, 0, none⟩) 1 1)) (hg : h.get? c = some (.rw ys)) (hl : ys.length = esz) (he : 0 < esz) (H : Own h esz vx cs)
    (hb : ∀ m, cs.length = m * esz → (m + 1) * bytes ≤ 140737488355328) (hk : ∀ m h', Own h' esz (.slice (some ⟨h.n, 0, none⟩) m m) (cs ++ ys) → h'.n = h.n + 1 → AppRel h h' vx → wpO M r K ((t, .slice (some ⟨h.n, 0, none⟩) m m) :: f) h') :
    wpO M (⟨some t, .app esz bytes x y, none⟩ :: r) K f h := by
  obtain ⟨m, h', e1, e2, e3, e4⟩ := app_own (bytes := bytes) (n := 1) (ys := ys) H he Nat.one_pos (by omega) hb
  refine o_op (v := .slice (some ⟨h.n, 0, none⟩) m m) (h' := h') rfl (.prim ?_) (hk m h' e2 e3 e4)
  simp only [cop, evO_ok hx, evO_ok hy]
  rw [sliceCells_of (vs := ys) Nat.one_pos (Nat.le_refl _) (by rw [rdN_obj (n := 1 * esz) (cs := ys) hg rfl (by omega)]; rw [List.drop_zero, Nat.one_mul, ← hl, List.take_length])]
  exact e1
theorem o_ixA {t e len : Nat} {x i : Operand} {g : Option (Nat × Bool)} {r : List MO} {a : Addr} {k : IntKind} {n : Int} (hw : wantedC f g = some true) (hx : evO f x = some (.pointer (some a))) (hi : evO f i = some (.int k n)) (hb : 0 ≤ n ∧ n < len)
    (H : wpO M r K ((t, .pointer (some (addOff a (n.toNat * e)))) :: f) h) : wpO M (⟨some t, .ixA e len x i, g⟩ :: r) K f h :=
  o_op hw (.prim (by simp only [cop, evO_ok hx, evO_ok hi]; rw [if_pos hb])) H
end

theorem Heap.set_set {h : Heap} {c : Nat} {o o' : CObj} : (h.set c o).set c o' = h.set c o' := by simp [Heap.set, List.set_set]
section
variable {M : Prg} {Q : Ex → Fr → Heap → Prop} {K : Fr → Heap → Prop} {T : List Tr → Fr → Heap → Prop} {f : Fr} {h : Heap}
theorem o_ixG {t e len : Nat} {x i : Operand} {g : Option (Nat × Bool)} {r : List MO} {cs : Array Value} {k : IntKind} {n : Int} {v : Value} (hw : wantedC f g = some true) (hx : evO f x = some (.agg cs)) (hi : evO f i = some (.int k n)) (hb : 0 ≤ n ∧ n < len) (hv : cs[n.toNat * e]? = some v)
    (H : wpO M r K ((t, v) :: f) h) : wpO M (⟨some t, .ixG e len false x i, g⟩ :: r) K f h :=
  o_op hw (.prim (by simp only [cop, evO_ok hx, evO_ok hi]; rw [if_pos hb]; simp [hv])) H
theorem o_storeL {n e : Nat} {x y : Operand} {g : Option (Nat × Bool)} {r : List MO} {c off : Nat} {cs vs : List Value} {v : Value} (hw : wantedC f g = some true) (hx : evO f x = some (.pointer (some ⟨c, off, none⟩))) (hy : evO f y = some v) (hv : cellsOf v = some vs) (hl : vs.length = n) (hg : h.get? c = some (.loose e cs)) (hn : off + vs.length ≤ cs.length)
    (H : wpO M r K f (h.set c (.loose e (splice cs off vs)))) : wpO M (⟨none, .store n x y, g⟩ :: r) K f h := by
  refine o_op (v := undef) hw (.prim ?_) H
  simp only [cop, evO_ok hx, evO_ok hy, hv]
  rw [if_pos hl, wr_loose hg hn]
/-- an append of several elements onto a list that appends have made -/
theorem o_appOwn {t esz bytes : Nat} {x y : Operand} {r : List MO} {vx : Value} {cs ys : List Value} {c n bcap : Nat} {o : CObj} {all : List Value} (hx : evO f x = some vx) (hy : evO f y = some (.slice (some ⟨c, 0, none⟩) n bcap)) (hg : h.get? c = some o) (ho : objCells o = some all) (hl : all.take (n * esz) = ys) (hn : 0 < n) (hlen : ys.length = n * esz) (he : 0 < esz) (H : Own h esz vx cs)
    (hb : ∀ m, cs.length = m * esz → (m + n) * bytes ≤ 140737488355328) (hk : ∀ m h', Own h' esz (.slice (some ⟨h.n, 0, none⟩) m m) (cs ++ ys) → h'.n = h.n + 1 → AppRel h h' vx → wpO M r K ((t, .slice (some ⟨h.n, 0, none⟩) m m) :: f) h') :
    wpO M (⟨some t, .app esz bytes x y, none⟩ :: r) K f h := by
  obtain ⟨m, h', e1, e2, e3, e4⟩ := app_own (bytes := bytes) (n := n) (ys := ys) H he hn hlen hb
  refine o_op (v := .slice (some ⟨h.n, 0, none⟩) m m) (h' := h') rfl (.prim ?_) (hk m h' e2 e3 e4)
  have hle : n * esz ≤ all.length := by rw [← hlen, ← hl, List.length_take]; exact Nat.min_le_right _ _
  simp only [cop, evO_ok hx, evO_ok hy]
  rw [sliceCells_of (vs := ys) hn (Nat.le_refl _) (by rw [rdN_obj hg ho (by omega), List.drop_zero, hl])]
  exact e1
/-- two texts, one behind the other -/
theorem o_addS {t : Nat} {x y : Operand} {g : Option (Nat × Bool)} {r : List MO} {a b : ByteArray} (hw : wantedC f g = some true) (hx : evO f x = some (.string a)) (hy : evO f y = some (.string b)) (hs : a.size + b.size ≤ 9223372036854775807)
    (H : wpO M r K ((t, .string (a ++ b)) :: f) h) : wpO M (⟨some t, .ar .add x y, g⟩ :: r) K f h :=
  o_op hw (.prim (by simp only [cop, evO_ok hx, evO_ok hy, arith]; rw [if_neg (by omega)])) H
theorem gG {d : Option Nat} {op : MOp} {g : Nat × Bool} {r : List MO} (H : wpO M (⟨d, op, some g⟩ :: r) K f h) : wpO M (⟨d, op, some g⟩ :: r) K f h := H
theorem gP {d : Option Nat} {a b c : Operand} {g : Option (Nat × Bool)} {r : List MO} (H : wpO M (⟨d, .pick a b c, g⟩ :: r) K f h) : wpO M (⟨d, .pick a b c, g⟩ :: r) K f h := H
theorem gC {d : Option Nat} {a : FuncId} {b : List Operand} {g : Option (Nat × Bool)} {r : List MO} (H : wpO M (⟨d, .call a b, g⟩ :: r) K f h) : wpO M (⟨d, .call a b, g⟩ :: r) K f h := H
theorem gA {d : Option Nat} {a : BinOp} {b c : Operand} {g : Option (Nat × Bool)} {r : List MO} (H : wpO M (⟨d, .ar a b c, g⟩ :: r) K f h) : wpO M (⟨d, .ar a b c, g⟩ :: r) K f h := H
theorem gV {d : Option Nat} {a : IntKind} {b : Operand} {g : Option (Nat × Bool)} {r : List MO} (H : wpO M (⟨d, .conv a b, g⟩ :: r) K f h) : wpO M (⟨d, .conv a b, g⟩ :: r) K f h := H
theorem gL {d : Option Nat} {b : Operand} {g : Option (Nat × Bool)} {r : List MO} (H : wpO M (⟨d, .load1 b, g⟩ :: r) K f h) : wpO M (⟨d, .load1 b, g⟩ :: r) K f h := H
theorem gN {d : Option Nat} {a : Nat} {b : Operand} {g : Option (Nat × Bool)} {r : List MO} (H : wpO M (⟨d, .loadN a b, g⟩ :: r) K f h) : wpO M (⟨d, .loadN a b, g⟩ :: r) K f h := H
theorem gS {d : Option Nat} {a : Nat} {b c : Operand} {g : Option (Nat × Bool)} {r : List MO} (H : wpO M (⟨d, .store a b c, g⟩ :: r) K f h) : wpO M (⟨d, .store a b c, g⟩ :: r) K f h := H
theorem gW {c : Operand} {a b : MCode} (H : wp M (.cond c a b) Q f h) : wp M (.cond c a b) Q f h := H
def isIxS : MOp → Bool
  | .ixS _ _ => true
  | _ => false
/-- any operation that is reckoned, but a text's letter -/
theorem o_anyX {t : Nat} {op : MOp} {g : Option (Nat × Bool)} {r : List MO} {v : Value} {h' : Heap} (hs : isIxS op = false) (hw : wantedC f g = some true) (hc : cop f.ev h op = some (v, h')) (H : wpO M r K ((t, v) :: f) h') : wpO M (⟨some t, op, g⟩ :: r) K f h := o_op hw (.prim hc) H
/-- an append that fits -/
theorem o_appFit {t esz bytes : Nat} {x y : Operand} {g : Option (Nat × Bool)} {r : List MO} {a : Addr} {len cap n : Nat} {b : Addr} {bcap : Nat} {vs : List Value} {h' : Heap} (hw : wantedC f g = some true) (hx : evO f x = some (.slice (some a) len cap)) (hy : evO f y = some (.slice (some b) n bcap)) (hn : 0 < n)
    (hr : h.rdN b (n * esz) = some vs) (hl : vs.length = n * esz) (hfit : len + n ≤ cap) (hmax : (len + n) * bytes ≤ 140737488355328) (hwr : h.wr ⟨a.block, a.off + len * esz, a.spot⟩ vs = some h') (H : wpO M r K ((t, .slice (some a) (len + n) cap) :: f) h') : wpO M (⟨some t, .app esz bytes x y, g⟩ :: r) K f h := by
  refine o_op hw (.prim ?_) H
  simp only [cop, evO_ok hx, evO_ok hy]
  rw [sliceCells_of hn (Nat.le_refl _) hr]
  simp only [appendTo]
  rw [if_neg (by omega), if_pos hfit, if_neg (by omega), hwr]
end
theorem splice_app (vs B : List Value) : ∀ (A : List Value) (o : Nat), o = A.length → splice (A ++ B) o vs = A ++ (vs ++ B.drop vs.length)
  | [], o, h => by subst h; exact splice_zero
  | a :: A, o, h => by subst h; simp only [List.cons_append, List.length_cons, splice]; rw [splice_app vs B A _ rfl]
theorem toBytes_map : ∀ (l : List Int), toBytes (l.map (Value.int .u8)) = some (l.map fun n => UInt8.ofNat n.toNat)
  | [] => rfl
  | n :: l => by simp [toBytes, toBytes_map l]
section
variable {M : Prg} {Q : Ex → Fr → Heap → Prop} {f : Fr} {h : Heap}
theorem w_assoc {a b c : MCode} (H : wp M (.seq (.seq a b) c) Q f h) : wp M (.seq a (.seq b c)) Q f h := by
  obtain ⟨e, f1, h1, he, hq⟩ := H
  refine ⟨e, f1, h1, ?_, hq⟩
  cases he with
  | seqN hab hc =>
    cases hab with
    | seqN ha hb => exact .seqN ha (.seqN hb hc)
    | seqX ha hne => exact absurd rfl hne
  | seqX hab hne =>
    cases hab with
    | seqN ha hb => exact .seqN ha (.seqX hb hne)
    | seqX ha hne' => exact .seqX ha hne'
/-- a piece of code that is reckoned -/
theorem w_eval {tab : List (Nat × MFun)} (hf : M.fn = lookF tab) (n m : Nat) {c : MCode} {e : Ex} {f' : Fr} {h' : Heap} (hr : evalCode (evalCall (lookF tab) n) m c f h = some (e, f', h')) (H : Q e f' h') : wp M c Q f h :=
  ⟨e, f', h', code_ev (fun g args h v h' hc => call_ev n (by rw [hf]; exact hc)) hr, H⟩
end
/-- numbers of one kind in cells -/
theorem getK {q : IntKind} {l : List Int} {i o : Nat} (ho : o = i) (hi : i < l.length) : (l.map (Value.int q))[o]? = some (.int q (l.getD i 0)) := by
  subst ho
  rw [List.getElem?_map, List.getElem?_eq_getElem hi]
  simp [hi]
theorem setK {q : IntKind} {l : List Int} {i o : Nat} {x : Int} (ho : o = i) (hi : i < l.length) : splice (l.map (Value.int q)) o [.int q x] = (l.set i x).map (Value.int q) := by
  subst ho
  rw [splice_set _ _ _ (by simpa using hi), List.map_set]

/-- a list that is read: elements of esz cells -/
def Sl (h : Heap) (esz : Nat) (v : Value) (n : Nat) (cs : List Value) : Prop :=
  (∃ a cap, v = .slice a 0 cap ∧ n = 0 ∧ cs = []) ∨ ∃ c off cap o all, v = .slice (some ⟨c, off, none⟩) n cap ∧ h.get? c = some o ∧ objCells o = some all ∧ off + n * esz ≤ all.length ∧ (all.drop off).take (n * esz) = cs ∧ 0 < n
theorem Sl.length {h : Heap} {esz n : Nat} {v : Value} {cs : List Value} (H : Sl h esz v n cs) : cs.length = n * esz := by
  rcases H with ⟨_, _, _, rfl, rfl⟩ | ⟨c, off, cap, o, all, rfl, h1, h2, h3, rfl, h4⟩
  · simp
  · rw [List.length_take, List.length_drop]; omega
theorem Sl.keep {h h' : Heap} {esz n : Nat} {v : Value} {cs : List Value} (H : Sl h esz v n cs) (k : ∀ c off m cap, v = .slice (some ⟨c, off, none⟩) m cap → h'.get? c = h.get? c) : Sl h' esz v n cs := by
  rcases H with H | ⟨c, off, cap, o, all, rfl, h1, h2, h3, h4, h5⟩
  · exact .inl H
  · exact .inr ⟨c, off, cap, o, all, rfl, by rw [k c off n cap rfl]; exact h1, h2, h3, h4, h5⟩
theorem Sl.le {h h' : Heap} {esz n : Nat} {v : Value} {cs : List Value} (H : Sl h esz v n cs) (l : Le h h') : Sl h' esz v n cs := by
  rcases H with H | ⟨c, off, cap, o, all, rfl, h1, h2, h3, h4, h5⟩
  · exact .inl H
  · exact .inr ⟨c, off, cap, o, all, rfl, l.get h1, h2, h3, h4, h5⟩
theorem Sl.only {h h' : Heap} {esz n s : Nat} {v : Value} {cs : List Value} (H : Sl h esz v n cs) (o : Only h h' s) (hne : ∀ c off m k, v = .slice (some ⟨c, off, none⟩) m k → 0 < n → c ≠ s) : Sl h' esz v n cs := by
  rcases H with H | ⟨c, off, cap, ob, all, rfl, h1, h2, h3, h4, h5⟩
  · exact .inl H
  · exact .inr ⟨c, off, cap, ob, all, rfl, o.get (hne c off n cap rfl h5) h1, h2, h3, h4, h5⟩
theorem Own.sl {h : Heap} {esz : Nat} {v : Value} {cs : List Value} (H : Own h esz v cs) : ∃ n, cs.length = n * esz ∧ Sl h esz v n cs := by
  rcases H with ⟨rfl, rfl⟩ | ⟨c, m, rfl, h1, h2, h3⟩
  · exact ⟨0, by simp, .inl ⟨_, _, rfl, rfl, rfl⟩⟩
  · exact ⟨m, h2, .inr ⟨c, 0, m, _, cs, rfl, h1, rfl, by omega, by rw [List.drop_zero, ← h2, List.take_length], h3⟩⟩
/-- the slice's value -/
theorem Sl.val {h : Heap} {esz n : Nat} {v : Value} {cs : List Value} (H : Sl h esz v n cs) : ∃ a cap, v = .slice a n cap := by
  rcases H with ⟨a, cap, rfl, rfl, rfl⟩ | ⟨c, off, cap, o, all, rfl, _⟩
  · exact ⟨a, cap, rfl⟩
  · exact ⟨_, cap, rfl⟩
/-- an element of one cell -/
theorem Sl.at1 {h : Heap} {n : Nat} {v : Value} {cs : List Value} (H : Sl h 1 v n cs) {i : Nat} {u : Value} (hu : cs[i]? = some u) : ∃ a cap, v = .slice (some a) n cap ∧ i < n ∧ h.rd1 (addOff a (i * 1)) = some u := by
  have hl := H.length
  rcases H with ⟨a, cap, rfl, rfl, rfl⟩ | ⟨c, off, cap, o, all, rfl, h1, h2, h3, rfl, h4⟩
  · simp at hu
  · have hi : i < n := by
      rcases Nat.lt_or_ge i (n * 1) with g | g
      · omega
      · rw [List.getElem?_eq_none (by omega)] at hu; cases hu
    refine ⟨_, cap, rfl, hi, rd1_obj h1 h2 ?_⟩
    rw [List.getElem?_take_of_lt (by omega), List.getElem?_drop] at hu
    simpa using hu
/-- an element of several cells -/
theorem Sl.atN {h : Heap} {esz n : Nat} {v : Value} {cs : List Value} (H : Sl h esz v n cs) {i k m : Nat} (hi : i < n) (hk : k + m ≤ esz) : ∃ a cap, v = .slice (some a) n cap ∧ h.rdN (addOff (addOff a (i * esz)) k) m = some ((cs.drop (i * esz + k)).take m) := by
  rcases H with ⟨a, cap, rfl, rfl, rfl⟩ | ⟨c, off, cap, o, all, rfl, h1, h2, h3, rfl, h4⟩
  · omega
  · have h5 : (i + 1) * esz ≤ n * esz := Nat.mul_le_mul_right _ hi
    rw [Nat.add_mul, Nat.one_mul] at h5
    refine ⟨_, cap, rfl, ?_⟩
    rw [show addOff (addOff (⟨c, off, none⟩ : Addr) (i * esz)) k = ⟨c, off + i * esz + k, none⟩ from rfl, rdN_obj h1 h2 (by omega)]
    congr 1
    rw [List.drop_take, List.drop_drop, List.take_take, Nat.min_eq_left (by omega), show off + (i * esz + k) = off + i * esz + k by omega]
end Go.Cm

/- The canonical machine: rules for maps whose keys are numbers and whose values are addresses. Conditions: none. -/
namespace Go.Cm
set_option linter.unusedVariables false
set_option linter.unusedSimpArgs false

section
variable {M : Prg} {Q : Ex → Fr → Heap → Prop} {K : Fr → Heap → Prop} {T : List Tr → Fr → Heap → Prop} {f : Fr} {h : Heap}

theorem gK {t : Nat} {kt : PT} {zero : Value} {b : Bool} {x k : Operand} {g : Option (Nat × Bool)} {r : List MO} (H : wpO M (⟨some t, .look kt zero b x k, g⟩ :: r) K f h) : wpO M (⟨some t, .look kt zero b x k, g⟩ :: r) K f h := H
theorem selfE (n : Int) : ¬(eqPT .int (.int .i64 n) (.int .i64 n)).isNone = true := by show ¬((if IntKind.i64 = IntKind.i64 then some (n == n) else none).isNone = true); simp
/-- an entry that is there -/
theorem o_lookY {t : Nat} {zero : Value} {ok : Bool} {x k : Operand} {g : Option (Nat × Bool)} {r : List MO} {c : Nat} {n : Int} {es : List (Value × Value × Nat)} {cl i : Nat} {v : Value} (hw : wantedC f g = some true) (hx : evO f x = some (.map (some c))) (hk : evO f k = some (.int .i64 n))
    (hg : h.get? c = some (.map es cl)) (hf : findE .int (.int .i64 n) es 0 = some (some (i, v))) (H : wpO M r K ((t, if ok then .tuple #[v, .bool true] else v) :: f) h) : wpO M (⟨some t, .look .int zero ok x k, g⟩ :: r) K f h :=
  o_op hw (.prim (by simp only [cop]; rw [evO_ok hx, evO_ok hk, if_neg (selfE n)]; simp only [hg, hf])) H
theorem o_lookN {t : Nat} {zero : Value} {ok : Bool} {x k : Operand} {g : Option (Nat × Bool)} {r : List MO} {c : Nat} {n : Int} {es : List (Value × Value × Nat)} {cl : Nat} (hw : wantedC f g = some true) (hx : evO f x = some (.map (some c))) (hk : evO f k = some (.int .i64 n))
    (hg : h.get? c = some (.map es cl)) (hf : findE .int (.int .i64 n) es 0 = some none) (H : wpO M r K ((t, if ok then .tuple #[zero, .bool false] else zero) :: f) h) : wpO M (⟨some t, .look .int zero ok x k, g⟩ :: r) K f h :=
  o_op hw (.prim (by simp only [cop]; rw [evO_ok hx, evO_ok hk, if_neg (selfE n)]; simp only [hg, hf])) H
theorem o_lenMR {t : Nat} {x : Operand} {g : Option (Nat × Bool)} {r : List MO} {c : Nat} {es : List (Value × Value × Nat)} {cl n : Nat} (hw : wantedC f g = some true) (hx : evO f x = some (.map (some c))) (hg : h.get? c = some (.map es cl)) (hl : es.length = n)
    (H : wpO M r K ((t, .int .i64 n) :: f) h) : wpO M (⟨some t, .lenM x, g⟩ :: r) K f h :=
  o_op hw (.prim (by simp only [cop, evO_ok hx, hg, hl])) H
/-- a new entry -/
theorem o_msetN {m k v : Operand} {g : Option (Nat × Bool)} {r : List MO} {c : Nat} {n : Int} {es : List (Value × Value × Nat)} {cl : Nat} {w : Value} {cs : List Value} (hw : wantedC f g = some true) (hm : evO f m = some (.map (some c))) (hk : evO f k = some (.int .i64 n)) (hv : evO f v = some w) (hcs : cellsOf w = some cs)
    (hg : h.get? c = some (.map es cl)) (hf : findE .int (.int .i64 n) es 0 = some none) (H : wpO M r K f (h.set c (.map (es ++ [(.int .i64 n, w, cl)]) (cl + 1)))) : wpO M (⟨none, .mset .int m k v, g⟩ :: r) K f h :=
  o_op (v := undef) hw (.prim (by simp only [cop]; rw [evO_ok hm, evO_ok hk, evO_ok hv, if_neg (selfE n)]; simp only [hg, hf, hcs])) H
theorem t_storeR {n : Nat} {x y : Operand} {g : Option (Nat × Bool)} {r : List MO} {c off : Nat} {cs vs : List Value} {v : Value} (hw : wantedC f g = some true) (hx : evO f x = some (.pointer (some ⟨c, off, none⟩))) (hy : evO f y = some v) (hv : cellsOf v = some vs) (hl : vs.length = n) (hg : h.get? c = some (.rw cs)) (hn : off + vs.length ≤ cs.length)
    (H : wpT M r (fun trs => T (⟨true, f, h, h.set c (.rw (splice cs off vs)), undef⟩ :: trs)) f (h.set c (.rw (splice cs off vs)))) : wpT M (⟨none, .store n x y, g⟩ :: r) T f h := by
  refine t_op (o := ⟨none, .store n x y, g⟩) (v := undef) hw (.prim ?_) H
  simp only [cop, evO_ok hx, evO_ok hy, hv]
  rw [if_pos hl, wr_rw hg hn]
end
end Go.Cm

/- A table's tickets in memory: what must hold, and the changes. Conditions: none. -/
namespace Go.Proofs.Ytfbhmogjnjejmaa
open Go.Cm Go.RowKit
set_option linter.unusedVariables false
set_option linter.unusedSimpArgs false
set_option maxRecDepth 100000
set_option maxHeartbeats 1000000

/-- a ticket -/
structure Tk where
  id : Int
  k : Int
  b : Int
  m : Int
  j : Int
  n : Int
  c : Int
  deriving DecidableEq
def Tk.cells (t : Tk) : List Value := [.int .i64 t.id, .int .i64 t.k, .int .i64 t.b, .int .i64 t.m, .int .i64 t.j, .int .i64 t.n, .int .i64 t.c]
def Tk.zero : Tk := ⟨0, 0, 0, 0, 0, 0, 0⟩
def Tk.bad (t : Tk) : Int := ticketN t.id t.k t.b t.m t.j t.n t.c
/-- what is known of a ticket -/
structure Slt where
  id : Int
  own : Tk
  oth : Tk
  ask : Bool
  her : Bool
  ord : Int
  st : Int
  cd : Int
  e : Int
  f : Int
  c : Int
def Slt.cells (s : Slt) : List Value := [.int .i64 s.own.id, .int .i64 s.own.k, .int .i64 s.own.b, .int .i64 s.own.m, .int .i64 s.own.j, .int .i64 s.own.n, .int .i64 s.own.c,
  .int .i64 s.oth.id, .int .i64 s.oth.k, .int .i64 s.oth.b, .int .i64 s.oth.m, .int .i64 s.oth.j, .int .i64 s.oth.n, .int .i64 s.oth.c, .bool s.ask, .bool s.her, .int .i64 s.ord, .int .i64 s.st, .int .i64 s.cd, .int .i64 s.e, .int .i64 s.f, .int .i64 s.c]
def Slt.fresh (id : Int) (n : Nat) : Slt := ⟨id, .zero, .zero, false, false, (n : Nat) + 1, 1, 0, 0, 0, 0⟩
/-- an entry's slot, its block, and when it was born -/
abbrev En := Slt × Nat × Nat
def ents (E : List En) : List (Value × Value × Nat) := E.map fun e => (.int .i64 e.1.id, .pointer (some ⟨e.2.1, 0, none⟩), e.2.2)
def find (E : List En) (id : Int) : Option En := E.find? fun e => e.1.id == id
theorem findE_some {id : Int} {e : En} : ∀ {E : List En} {i : Nat}, find E id = some e → ∃ j, findE .int (.int .i64 id) (ents E) i = some (some (j, .pointer (some ⟨e.2.1, 0, none⟩)))
  | [], _, h => by cases h
  | x :: E, i, h => by
    by_cases hx : x.1.id = id
    · have : find (x :: E) id = some x := by simp [find, hx]
      rw [this] at h; cases h
      refine ⟨i, ?_⟩
      show (match (if IntKind.i64 = IntKind.i64 then some (id == e.1.id) else none) with | some true => some (some (i, _)) | some false => findE _ _ (ents E) (i + 1) | none => none) = _
      rw [if_pos rfl, hx]
      simp
    · have : find (x :: E) id = find E id := by simp [find, hx]
      rw [this] at h
      obtain ⟨j, hj⟩ := findE_some (i := i + 1) h
      refine ⟨j, ?_⟩
      show (match (if IntKind.i64 = IntKind.i64 then some (id == x.1.id) else none) with | some true => some (some (i, _)) | some false => findE _ _ (ents E) (i + 1) | none => none) = _
      rw [if_pos rfl, show (id == x.1.id) = false by simp; omega]
      exact hj
theorem findE_none {id : Int} : ∀ {E : List En} {i : Nat}, find E id = none → findE .int (.int .i64 id) (ents E) i = some none
  | [], _, h => rfl
  | x :: E, i, h => by
    by_cases hx : x.1.id = id
    · have : find (x :: E) id = some x := by simp [find, hx]
      rw [this] at h; cases h
    · have : find (x :: E) id = find E id := by simp [find, hx]
      rw [this] at h
      show (match (if IntKind.i64 = IntKind.i64 then some (id == x.1.id) else none) with | some true => some (some (i, _)) | some false => findE _ _ (ents E) (i + 1) | none => none) = _
      rw [if_pos rfl, show (id == x.1.id) = false by simp; omega]
      exact findE_none h
theorem find_mem {E : List En} {id : Int} {e : En} (h : find E id = some e) : e ∈ E ∧ e.1.id = id := ⟨List.mem_of_find?_eq_some h, by have := List.find?_some h; simpa using this⟩

/-- a table in memory -/
structure TabI (h : Heap) (t m cl : Nat) (E : List En) : Prop where
  top : h.get? t = some (.rw [.map (some m), .int .i64 E.length, .bool true])
  map : h.get? m = some (.map (ents E) cl)
  slot : ∀ e ∈ E, h.get? e.2.1 = some (.rw e.1.cells)
  few : E.length ≤ 64
  ads : (t :: m :: E.map (·.2.1)).Nodup
  ids : (E.map (·.1.id)).Nodup
  idb : ∀ e ∈ E, 0 ≤ e.1.id ∧ e.1.id ≤ 4294967295
  born : ∀ e ∈ E, e.2.2 < cl
  once : (E.map (·.2.2)).Nodup
/-- the blocks of a table -/
def foot (t m : Nat) (E : List En) : List Nat := t :: m :: E.map (·.2.1)
/-- memory in which a table's blocks alone have turned -/
structure Turned (h h' : Heap) (S : List Nat) : Prop where
  le : h.n ≤ h'.n
  old : ∀ d, d < h.n → d ∉ S → h'.get? d = h.get? d
theorem Turned.refl {h : Heap} {S : List Nat} : Turned h h S := ⟨Nat.le_refl _, fun _ _ _ => rfl⟩
theorem Turned.get {h h' : Heap} {S : List Nat} (T : Turned h h' S) {c : Nat} {o : CObj} (hc : c ∉ S) (ho : h.get? c = some o) : h'.get? c = some o := by rw [T.old c (Heap.get?_lt ho) hc]; exact ho
theorem Turned.of_le {h h' : Heap} {S : List Nat} (l : Le h h') : Turned h h' S := ⟨l.1, fun d hd _ => l.2 d hd⟩
theorem Turned.trans {a b c : Heap} {S S' : List Nat} (h1 : Turned a b S) (h2 : Turned b c S') (hs : ∀ d ∈ S', d ∈ S ∨ a.n ≤ d) : Turned a c S :=
  ⟨Nat.le_trans h1.le h2.le, fun d hd hn => (h2.old d (Nat.lt_of_lt_of_le hd h1.le) fun hm => (hs d hm).elim hn (fun h => by omega)).trans (h1.old d hd hn)⟩
theorem Turned.set {h : Heap} {S : List Nat} {c : Nat} {o : CObj} (hc : c ∈ S) (hl : c < h.n) : Turned h (h.set c o) S :=
  ⟨Nat.le_refl _, fun d _ hd => Heap.get?_set_other hl (fun e => hd (e ▸ hc))⟩
/-- a table stays when its blocks stay -/
theorem TabI.same {h h' : Heap} {t m cl : Nat} {E : List En} (I : TabI h t m cl E) (hs : ∀ d ∈ foot t m E, ∀ o, h.get? d = some o → h'.get? d = some o) : TabI h' t m cl E :=
  ⟨hs t (by simp [foot]) _ I.top, hs m (by simp [foot]) _ I.map, fun e he => hs _ (by simp only [foot, List.mem_cons, List.mem_map]; exact .inr (.inr ⟨e, he, rfl⟩)) _ (I.slot e he), I.few, I.ads, I.ids, I.idb, I.born, I.once⟩
theorem TabI.le {h h' : Heap} {t m cl : Nat} {E : List En} (I : TabI h t m cl E) (l : Le h h') : TabI h' t m cl E := I.same fun d _ o ho => l.get ho
theorem TabI.foot_lt {h : Heap} {t m cl : Nat} {E : List En} (I : TabI h t m cl E) : ∀ d ∈ foot t m E, d < h.n := by
  intro d hd
  simp only [foot, List.mem_cons, List.mem_map] at hd
  rcases hd with rfl | rfl | ⟨e, he, rfl⟩
  · exact Heap.get?_lt I.top
  · exact Heap.get?_lt I.map
  · exact Heap.get?_lt (I.slot e he)
theorem TabI.new {h : Heap} : TabI ((h.push (.map [] 0)).push (.rw [.map (some h.n), .int .i64 0, .bool true])) (h.n + 1) h.n 0 [] := by
  refine ⟨?_, ?_, fun e he => (List.not_mem_nil he).elim, by simp, by simp, by simp, fun e he => (List.not_mem_nil he).elim, fun e he => (List.not_mem_nil he).elim, by simp⟩
  · exact Heap.get?_push_new
  · rw [Heap.get?_push_old (by simp [Heap.push])]; exact Heap.get?_push_new
/-- another slot of the same number -/
def setS (E : List En) (a : Nat) (s : Slt) : List En := E.map fun e => if e.2.1 = a then (s, e.2) else e
theorem setS_ads (E : List En) (a : Nat) (s : Slt) : (setS E a s).map (·.2.1) = E.map (·.2.1) := by
  unfold setS; rw [List.map_map]; apply List.map_congr_left; intro e _; simp only [Function.comp]; split <;> rfl
theorem setS_borns (E : List En) (a : Nat) (s : Slt) : (setS E a s).map (·.2.2) = E.map (·.2.2) := by
  unfold setS; rw [List.map_map]; apply List.map_congr_left; intro e _; simp only [Function.comp]; split <;> rfl
theorem inj_ad {E : List En} (hn : (E.map (·.2.1)).Nodup) {x y : En} (hx : x ∈ E) (hy : y ∈ E) (h : x.2.1 = y.2.1) : x = y := by
  induction E with
  | nil => cases hx
  | cons z E ih =>
    simp only [List.map_cons, List.nodup_cons, List.mem_map] at hn
    rcases List.mem_cons.1 hx with h1 | h1 <;> rcases List.mem_cons.1 hy with h2 | h2
    · rw [h1, h2]
    · subst h1; exact absurd ⟨y, h2, h.symm⟩ hn.1
    · subst h2; exact absurd ⟨x, h1, h⟩ hn.1
    · exact ih hn.2 h1 h2
theorem setS_ids {E : List En} {e : En} {s : Slt} (hn : (E.map (·.2.1)).Nodup) (he : e ∈ E) (hs : s.id = e.1.id) : (setS E e.2.1 s).map (·.1.id) = E.map (·.1.id) := by
  unfold setS; rw [List.map_map]; apply List.map_congr_left; intro x hx; simp only [Function.comp]
  split
  · rename_i h; rw [inj_ad hn hx he h]; exact hs
  · rfl
theorem setS_ents {E : List En} {e : En} {s : Slt} (hn : (E.map (·.2.1)).Nodup) (he : e ∈ E) (hs : s.id = e.1.id) : ents (setS E e.2.1 s) = ents E := by
  unfold setS ents; rw [List.map_map]; apply List.map_congr_left; intro x hx; simp only [Function.comp]
  split
  · rename_i h; rw [inj_ad hn hx he h, hs]
  · rfl
theorem TabI.adn {h : Heap} {t m cl : Nat} {E : List En} (I : TabI h t m cl E) : (E.map (·.2.1)).Nodup := (List.nodup_cons.1 (List.nodup_cons.1 I.ads).2).2
theorem TabI.set {h : Heap} {t m cl : Nat} {E : List En} (I : TabI h t m cl E) {e : En} {s : Slt} (he : e ∈ E) (hs : s.id = e.1.id) : TabI (h.set e.2.1 (.rw s.cells)) t m cl (setS E e.2.1 s) := by
  have hl := Heap.get?_lt (I.slot e he)
  have ha := I.ads
  have hm : e.2.1 ∈ E.map (·.2.1) := List.mem_map.2 ⟨e, he, rfl⟩
  have n1 : t ≠ e.2.1 := fun h => (List.nodup_cons.1 ha).1 (List.mem_cons.2 (.inr (h ▸ hm)))
  have n2 : m ≠ e.2.1 := fun h => (List.nodup_cons.1 (List.nodup_cons.1 ha).2).1 (h ▸ hm)
  refine ⟨?_, ?_, ?_, ?_, ?_, ?_, ?_, ?_, ?_⟩
  · rw [Heap.get?_set_other hl n1, I.top]; simp [setS]
  · rw [Heap.get?_set_other hl n2, I.map, setS_ents I.adn he hs]
  · intro x hx
    obtain ⟨y, hy, rfl⟩ := List.mem_map.1 hx
    by_cases hya : y.2.1 = e.2.1
    · rw [if_pos hya]
      show (h.set e.2.1 _).get? y.2.1 = _
      rw [hya]
      exact Heap.get?_set_same (I.slot e he)
    · rw [if_neg hya, Heap.get?_set_other hl hya]; exact I.slot y hy
  · simpa [setS] using I.few
  · rw [setS_ads]; exact I.ads
  · rw [setS_ids I.adn he hs]; exact I.ids
  · intro x hx
    obtain ⟨y, hy, rfl⟩ := List.mem_map.1 hx
    split
    · show 0 ≤ s.id ∧ s.id ≤ _
      rw [hs]; exact I.idb e he
    · exact I.idb y hy
  · intro x hx
    obtain ⟨y, hy, rfl⟩ := List.mem_map.1 hx
    split <;> exact I.born y hy
  · rw [setS_borns]; exact I.once
/-- a new ticket -/
theorem TabI.more {h : Heap} {t m cl : Nat} {E : List En} (I : TabI h t m cl E) {id : Int} (hid : 0 ≤ id ∧ id ≤ 4294967295) (hn : find E id = none) (hf : E.length < 64) {h' : Heap} {a : Nat} (s : Slt) (hs : s.id = id) (ha : a = h.n)
    (g1 : h'.get? t = some (.rw [.map (some m), .int .i64 (E.length + 1 : Nat), .bool true])) (g2 : h'.get? m = some (.map (ents E ++ [(.int .i64 id, .pointer (some ⟨a, 0, none⟩), cl)]) (cl + 1))) (g3 : h'.get? a = some (.rw s.cells))
    (g4 : ∀ d < h.n, d ≠ t → d ≠ m → h'.get? d = h.get? d) : TabI h' t m (cl + 1) (E ++ [(s, a, cl)]) := by
  have hlt := I.foot_lt
  have ha' := I.ads
  refine ⟨?_, ?_, ?_, ?_, ?_, ?_, ?_, ?_, ?_⟩
  · rw [g1]; simp
  · rw [g2]; simp [ents, hs]
  · intro x hx
    rcases List.mem_append.1 hx with hx | hx
    · have hm : x.2.1 ∈ E.map (·.2.1) := List.mem_map.2 ⟨x, hx, rfl⟩
      rw [g4 _ (hlt _ (by simp only [foot, List.mem_cons]; exact .inr (.inr hm)))]
      · exact I.slot x hx
      · exact fun h => (List.nodup_cons.1 ha').1 (List.mem_cons.2 (.inr (h ▸ hm)))
      · exact fun h => (List.nodup_cons.1 (List.nodup_cons.1 ha').2).1 (h ▸ hm)
    · rw [List.mem_singleton] at hx; subst hx; exact g3
  · simp; omega
  · have : (t :: m :: (E ++ [(s, a, cl)]).map (·.2.1)) = (t :: m :: E.map (·.2.1)) ++ [a] := by simp
    rw [this, List.nodup_append]
    refine ⟨I.ads, by simp, ?_⟩
    intro x hx y hy
    rw [List.mem_singleton] at hy
    have := hlt x hx
    omega
  · rw [List.map_append, List.nodup_append]
    refine ⟨I.ids, by simp, ?_⟩
    intro x hx y hy
    simp only [List.map_cons, List.map_nil, List.mem_singleton] at hy
    obtain ⟨e, he, rfl⟩ := List.mem_map.1 hx
    subst hy
    rw [hs]
    have := List.find?_eq_none.1 hn e he
    simpa using this
  · intro x hx
    rcases List.mem_append.1 hx with hx | hx
    · exact I.idb x hx
    · rw [List.mem_singleton] at hx; subst hx; show 0 ≤ s.id ∧ s.id ≤ _; rw [hs]; exact hid
  · intro x hx
    rcases List.mem_append.1 hx with hx | hx
    · have := I.born x hx; omega
    · rw [List.mem_singleton] at hx; subst hx; show cl < cl + 1; omega
  · rw [List.map_append, List.nodup_append]
    refine ⟨I.once, by simp, ?_⟩
    intro x hx y hy
    simp only [List.map_cons, List.map_nil, List.mem_singleton] at hy
    obtain ⟨e, he, rfl⟩ := List.mem_map.1 hx
    have := I.born e he
    omega
end Go.Proofs.Ytfbhmogjnjejmaa

/- A table's calls: new, ready, slot, Ask, Hear. Conditions: none. -/
namespace Go.Proofs.Ytfbhmogjnjejmaa
open Go.Cm Go.RowKit
set_option linter.unusedVariables false
set_option linter.unusedSimpArgs false
set_option maxRecDepth 100000
set_option maxHeartbeats 1000000

def Tk.v (t : Tk) : Value := ticketV t.id t.k t.b t.m t.j t.n t.c
abbrev at0 (a : Nat) : Value := .pointer (some ⟨a, 0, none⟩)

theorem newC (h : Heap) : Cl MM F_serve_New [] h fun v h' => v = at0 (h.n + 1) ∧ h' = (h.push (.map [] 0)).push (.rw [.map (some h.n), .int .i64 0, .bool true]) := by
  refine w_call (F := M_serve_New) (by rw [MMf]; rfl) rfl ?_
  repeat (first |((with_reducible show wpO _ _ _ _ _); first |refine o_mv rfl rfl ?_ |refine o_lenV rfl rfl ?_ |refine o_ext rfl rfl rfl ?_ |refine o_nil ?_ |(refine gG ?_; first|refine o_gdY rfl (by first|rfl|assumption|exact y1 (by omega)|exact y2 (by omega)|exact y3 (by omega)|exact y4 (by omega)|exact y5 (by omega)|exact y6 (by omega)) ?_|refine o_gdN rfl (by first|rfl|assumption|exact y1 (by omega)|exact y2 (by omega)|exact y3 (by omega)|exact y4 (by omega)|exact y5 (by omega)|exact y6 (by omega)) ?_|refine o_pass rfl ?_|refine o_passN rfl ?_) |(refine gP ?_; first|refine o_pickY rfl rfl (by first|rfl|assumption|exact y1 (by omega)|exact y3 (by omega)|exact y5 (by omega)) rfl ?_|refine o_pickN rfl rfl (by first|rfl|assumption|exact y2 (by omega)|exact y4 (by omega)|exact y6 (by omega)) rfl ?_) |(refine gA ?_; first|refine o_add rfl rfl rfl (wrapAny (by simp only [inKind]; omega)) ?_|refine o_sub rfl rfl rfl (wrapAny (by simp only [inKind]; omega)) ?_|refine o_mul rfl rfl rfl (wrapAny (by simp only [inKind]; omega)) ?_|refine o_quo rfl rfl rfl (by omega) (by omega) (wrapAny (by simp only [inKind]; omega)) ?_|refine o_rem rfl rfl rfl (by omega) (by omega) ?_|refine o_any rfl rfl ?_) |(refine gV ?_; refine o_conv rfl rfl (wrapAny (by simp only [inKind]; omega)) ?_) |(refine gL ?_; refine o_load1R rfl rfl (by assumption) rfl rfl ?_) |(refine gN ?_; refine o_loadNR rfl rfl (by assumption) rfl (by first|exact Nat.le_of_ble_eq_true rfl|(simp; done)|omega) rfl ?_) |(refine gS ?_; refine o_storeR rfl rfl rfl rfl rfl (by assumption) (by first|exact Nat.le_of_ble_eq_true rfl|(simp; done)|omega) ?_) |refine o_anyX rfl rfl rfl ?_ |refine o_anyN rfl rfl ?_) |(show wp _ _ _ _ _; first |refine w_opsS ?_ |refine w_ops ?_ |(refine gW ?_; first|refine w_condY rfl (by first|rfl|assumption|exact y1 (by omega)|exact y3 (by omega)|exact y5 (by omega)) ?_|refine w_condN rfl (by first|rfl|assumption|exact y2 (by omega)|exact y4 (by omega)|exact y6 (by omega)) ?_) |refine w_seq ?_ |refine w_opsX ?_ |refine w_block ?_ |refine w_exit ?_ |refine w_ret ?_ |refine w_skip ?_))
  exact ⟨.inr rfl, _, rfl, rfl, rfl⟩

theorem readyC (T : Tk) {h : Heap} {t m cl : Nat} {E : List En} (I : TabI h t m cl E) : Cl MM F_serve_Table_ready [at0 t, T.v] h fun v h' => v = .int .i64 T.bad ∧ Le h h' := by
  refine w_call (F := M_serve_Table_ready) (by rw [MMf]; rfl) rfl ?_
  have hl : Le h (h.push (.rw T.cells)) := Le.push
  have hg : (h.push (.rw T.cells)).get? h.n = some (.rw T.cells) := Heap.get?_push_new
  have ht := hl.get I.top
  have hc := serveCheckC T.id T.k T.b T.m T.j T.n T.c
  repeat (first |((with_reducible show wpO _ _ _ _ _); first |refine o_mv rfl rfl ?_ |refine o_lenV rfl rfl ?_ |refine o_ext rfl rfl rfl ?_ |refine o_nil ?_ |(refine gG ?_; first|refine o_gdY rfl (by first|rfl|assumption|exact y1 (by omega)|exact y2 (by omega)|exact y3 (by omega)|exact y4 (by omega)|exact y5 (by omega)|exact y6 (by omega)) ?_|refine o_gdN rfl (by first|rfl|assumption|exact y1 (by omega)|exact y2 (by omega)|exact y3 (by omega)|exact y4 (by omega)|exact y5 (by omega)|exact y6 (by omega)) ?_|refine o_pass rfl ?_|refine o_passN rfl ?_) |(refine gP ?_; first|refine o_pickY rfl rfl (by first|rfl|assumption|exact y1 (by omega)|exact y3 (by omega)|exact y5 (by omega)) rfl ?_|refine o_pickN rfl rfl (by first|rfl|assumption|exact y2 (by omega)|exact y4 (by omega)|exact y6 (by omega)) rfl ?_) |(refine gC ?_; refine o_call rfl rfl (hc _) ?_; rintro v h' ⟨rfl, rfl⟩) |(refine gA ?_; first|refine o_add rfl rfl rfl (wrapAny (by simp only [inKind]; omega)) ?_|refine o_sub rfl rfl rfl (wrapAny (by simp only [inKind]; omega)) ?_|refine o_mul rfl rfl rfl (wrapAny (by simp only [inKind]; omega)) ?_|refine o_quo rfl rfl rfl (by omega) (by omega) (wrapAny (by simp only [inKind]; omega)) ?_|refine o_rem rfl rfl rfl (by omega) (by omega) ?_|refine o_any rfl rfl ?_) |(refine gV ?_; refine o_conv rfl rfl (wrapAny (by simp only [inKind]; omega)) ?_) |(refine gL ?_; refine o_load1R rfl rfl (by assumption) rfl rfl ?_) |(refine gN ?_; refine o_loadNR rfl rfl (by assumption) rfl (by first|exact Nat.le_of_ble_eq_true rfl|(simp; done)|omega) rfl ?_) |(refine gS ?_; refine o_storeR rfl rfl rfl rfl rfl (by assumption) (by first|exact Nat.le_of_ble_eq_true rfl|(simp; done)|omega) ?_) |refine o_anyX rfl rfl rfl ?_ |refine o_anyN rfl rfl ?_) |(show wp _ _ _ _ _; first |refine w_opsS ?_ |refine w_ops ?_ |(refine gW ?_; first|refine w_condY rfl (by first|rfl|assumption|exact y1 (by omega)|exact y3 (by omega)|exact y5 (by omega)) ?_|refine w_condN rfl (by first|rfl|assumption|exact y2 (by omega)|exact y4 (by omega)|exact y6 (by omega)) ?_) |refine w_seq ?_ |refine w_opsX ?_ |refine w_block ?_ |refine w_exit ?_ |refine w_ret ?_ |refine w_skip ?_))
  exact ⟨.inr rfl, _, rfl, rfl, hl⟩

/-- the slot of a number: it is there, there is no room, or it is begun -/
theorem slotThere {id : Int} {h : Heap} {t m cl : Nat} {E : List En} (I : TabI h t m cl E) {e : En} (he : find E id = some e) : Cl MM F_serve_Table_slot [at0 t, .int .i64 id] h fun v h' => v = .tuple #[at0 e.2.1, .int .i64 0] ∧ h' = h := by
  refine w_call (F := M_serve_Table_slot) (by rw [MMf]; rfl) rfl ?_
  have ht := I.top
  have hm := I.map
  obtain ⟨j, hj⟩ := findE_some (i := 0) he
  repeat (first |((with_reducible show wpO _ _ _ _ _); first |refine o_mv rfl rfl ?_ |refine o_lenV rfl rfl ?_ |refine o_ext rfl rfl rfl ?_ |refine o_nil ?_ |(refine gG ?_; first|refine o_gdY rfl (by first|rfl|assumption|exact y1 (by omega)|exact y2 (by omega)|exact y3 (by omega)|exact y4 (by omega)|exact y5 (by omega)|exact y6 (by omega)) ?_|refine o_gdN rfl (by first|rfl|assumption|exact y1 (by omega)|exact y2 (by omega)|exact y3 (by omega)|exact y4 (by omega)|exact y5 (by omega)|exact y6 (by omega)) ?_|refine o_pass rfl ?_|refine o_passN rfl ?_) |(refine gP ?_; first|refine o_pickY rfl rfl (by first|rfl|assumption|exact y1 (by omega)|exact y3 (by omega)|exact y5 (by omega)) rfl ?_|refine o_pickN rfl rfl (by first|rfl|assumption|exact y2 (by omega)|exact y4 (by omega)|exact y6 (by omega)) rfl ?_) |(refine gA ?_; first|refine o_add rfl rfl rfl (wrapAny (by simp only [inKind]; omega)) ?_|refine o_sub rfl rfl rfl (wrapAny (by simp only [inKind]; omega)) ?_|refine o_mul rfl rfl rfl (wrapAny (by simp only [inKind]; omega)) ?_|refine o_quo rfl rfl rfl (by omega) (by omega) (wrapAny (by simp only [inKind]; omega)) ?_|refine o_rem rfl rfl rfl (by omega) (by omega) ?_|refine o_any rfl rfl ?_) |(refine gV ?_; refine o_conv rfl rfl (wrapAny (by simp only [inKind]; omega)) ?_) |(refine gL ?_; refine o_load1R rfl rfl (by assumption) rfl rfl ?_) |(refine gN ?_; refine o_loadNR rfl rfl (by assumption) rfl (by first|exact Nat.le_of_ble_eq_true rfl|(simp; done)|omega) rfl ?_) |(refine gS ?_; refine o_storeR rfl rfl rfl rfl rfl (by assumption) (by first|exact Nat.le_of_ble_eq_true rfl|(simp; done)|omega) ?_) |refine o_anyX rfl rfl rfl ?_ |refine o_anyN rfl rfl ?_) |(show wp _ _ _ _ _; first |refine w_opsS ?_ |refine w_ops ?_ |(refine gW ?_; first|refine w_condY rfl (by first|rfl|assumption|exact y1 (by omega)|exact y3 (by omega)|exact y5 (by omega)) ?_|refine w_condN rfl (by first|rfl|assumption|exact y2 (by omega)|exact y4 (by omega)|exact y6 (by omega)) ?_) |refine w_seq ?_ |refine w_opsX ?_ |refine w_block ?_ |refine w_exit ?_ |refine w_ret ?_ |refine w_skip ?_))
  refine o_lookY rfl rfl rfl hm hj ?_
  repeat (first |((with_reducible show wpO _ _ _ _ _); first |refine o_mv rfl rfl ?_ |refine o_lenV rfl rfl ?_ |refine o_ext rfl rfl rfl ?_ |refine o_nil ?_ |(refine gG ?_; first|refine o_gdY rfl (by first|rfl|assumption|exact y1 (by omega)|exact y2 (by omega)|exact y3 (by omega)|exact y4 (by omega)|exact y5 (by omega)|exact y6 (by omega)) ?_|refine o_gdN rfl (by first|rfl|assumption|exact y1 (by omega)|exact y2 (by omega)|exact y3 (by omega)|exact y4 (by omega)|exact y5 (by omega)|exact y6 (by omega)) ?_|refine o_pass rfl ?_|refine o_passN rfl ?_) |(refine gP ?_; first|refine o_pickY rfl rfl (by first|rfl|assumption|exact y1 (by omega)|exact y3 (by omega)|exact y5 (by omega)) rfl ?_|refine o_pickN rfl rfl (by first|rfl|assumption|exact y2 (by omega)|exact y4 (by omega)|exact y6 (by omega)) rfl ?_) |(refine gA ?_; first|refine o_add rfl rfl rfl (wrapAny (by simp only [inKind]; omega)) ?_|refine o_sub rfl rfl rfl (wrapAny (by simp only [inKind]; omega)) ?_|refine o_mul rfl rfl rfl (wrapAny (by simp only [inKind]; omega)) ?_|refine o_quo rfl rfl rfl (by omega) (by omega) (wrapAny (by simp only [inKind]; omega)) ?_|refine o_rem rfl rfl rfl (by omega) (by omega) ?_|refine o_any rfl rfl ?_) |(refine gV ?_; refine o_conv rfl rfl (wrapAny (by simp only [inKind]; omega)) ?_) |(refine gL ?_; refine o_load1R rfl rfl (by assumption) rfl rfl ?_) |(refine gN ?_; refine o_loadNR rfl rfl (by assumption) rfl (by first|exact Nat.le_of_ble_eq_true rfl|(simp; done)|omega) rfl ?_) |(refine gS ?_; refine o_storeR rfl rfl rfl rfl rfl (by assumption) (by first|exact Nat.le_of_ble_eq_true rfl|(simp; done)|omega) ?_) |refine o_anyX rfl rfl rfl ?_ |refine o_anyN rfl rfl ?_) |(show wp _ _ _ _ _; first |refine w_opsS ?_ |refine w_ops ?_ |(refine gW ?_; first|refine w_condY rfl (by first|rfl|assumption|exact y1 (by omega)|exact y3 (by omega)|exact y5 (by omega)) ?_|refine w_condN rfl (by first|rfl|assumption|exact y2 (by omega)|exact y4 (by omega)|exact y6 (by omega)) ?_) |refine w_seq ?_ |refine w_opsX ?_ |refine w_block ?_ |refine w_exit ?_ |refine w_ret ?_ |refine w_skip ?_))
  exact ⟨.inr rfl, _, rfl, rfl, rfl⟩
theorem slotFull {id : Int} {h : Heap} {t m cl : Nat} {E : List En} (I : TabI h t m cl E) (he : find E id = none) (hf : 64 ≤ E.length) : Cl MM F_serve_Table_slot [at0 t, .int .i64 id] h fun v h' => v = .tuple #[.pointer none, .int .i64 16] ∧ h' = h := by
  refine w_call (F := M_serve_Table_slot) (by rw [MMf]; rfl) rfl ?_
  have ht := I.top
  have hm := I.map
  have hj := findE_none (i := 0) he
  have hl : (ents E).length = E.length := by simp [ents]
  repeat (first |((with_reducible show wpO _ _ _ _ _); first |refine o_mv rfl rfl ?_ |refine o_lenV rfl rfl ?_ |refine o_ext rfl rfl rfl ?_ |refine o_nil ?_ |(refine gG ?_; first|refine o_gdY rfl (by first|rfl|assumption|exact y1 (by omega)|exact y2 (by omega)|exact y3 (by omega)|exact y4 (by omega)|exact y5 (by omega)|exact y6 (by omega)) ?_|refine o_gdN rfl (by first|rfl|assumption|exact y1 (by omega)|exact y2 (by omega)|exact y3 (by omega)|exact y4 (by omega)|exact y5 (by omega)|exact y6 (by omega)) ?_|refine o_pass rfl ?_|refine o_passN rfl ?_) |(refine gP ?_; first|refine o_pickY rfl rfl (by first|rfl|assumption|exact y1 (by omega)|exact y3 (by omega)|exact y5 (by omega)) rfl ?_|refine o_pickN rfl rfl (by first|rfl|assumption|exact y2 (by omega)|exact y4 (by omega)|exact y6 (by omega)) rfl ?_) |(refine gA ?_; first|refine o_add rfl rfl rfl (wrapAny (by simp only [inKind]; omega)) ?_|refine o_sub rfl rfl rfl (wrapAny (by simp only [inKind]; omega)) ?_|refine o_mul rfl rfl rfl (wrapAny (by simp only [inKind]; omega)) ?_|refine o_quo rfl rfl rfl (by omega) (by omega) (wrapAny (by simp only [inKind]; omega)) ?_|refine o_rem rfl rfl rfl (by omega) (by omega) ?_|refine o_any rfl rfl ?_) |(refine gV ?_; refine o_conv rfl rfl (wrapAny (by simp only [inKind]; omega)) ?_) |(refine gL ?_; refine o_load1R rfl rfl (by assumption) rfl rfl ?_) |(refine gN ?_; refine o_loadNR rfl rfl (by assumption) rfl (by first|exact Nat.le_of_ble_eq_true rfl|(simp; done)|omega) rfl ?_) |(refine gS ?_; refine o_storeR rfl rfl rfl rfl rfl (by assumption) (by first|exact Nat.le_of_ble_eq_true rfl|(simp; done)|omega) ?_) |refine o_anyX rfl rfl rfl ?_ |refine o_anyN rfl rfl ?_) |(show wp _ _ _ _ _; first |refine w_opsS ?_ |refine w_ops ?_ |(refine gW ?_; first|refine w_condY rfl (by first|rfl|assumption|exact y1 (by omega)|exact y3 (by omega)|exact y5 (by omega)) ?_|refine w_condN rfl (by first|rfl|assumption|exact y2 (by omega)|exact y4 (by omega)|exact y6 (by omega)) ?_) |refine w_seq ?_ |refine w_opsX ?_ |refine w_block ?_ |refine w_exit ?_ |refine w_ret ?_ |refine w_skip ?_))
  refine o_lookN rfl rfl rfl hm hj ?_
  repeat (first |((with_reducible show wpO _ _ _ _ _); first |refine o_mv rfl rfl ?_ |refine o_lenV rfl rfl ?_ |refine o_ext rfl rfl rfl ?_ |refine o_nil ?_ |(refine gG ?_; first|refine o_gdY rfl (by first|rfl|assumption|exact y1 (by omega)|exact y2 (by omega)|exact y3 (by omega)|exact y4 (by omega)|exact y5 (by omega)|exact y6 (by omega)) ?_|refine o_gdN rfl (by first|rfl|assumption|exact y1 (by omega)|exact y2 (by omega)|exact y3 (by omega)|exact y4 (by omega)|exact y5 (by omega)|exact y6 (by omega)) ?_|refine o_pass rfl ?_|refine o_passN rfl ?_) |(refine gP ?_; first|refine o_pickY rfl rfl (by first|rfl|assumption|exact y1 (by omega)|exact y3 (by omega)|exact y5 (by omega)) rfl ?_|refine o_pickN rfl rfl (by first|rfl|assumption|exact y2 (by omega)|exact y4 (by omega)|exact y6 (by omega)) rfl ?_) |(refine gA ?_; first|refine o_add rfl rfl rfl (wrapAny (by simp only [inKind]; omega)) ?_|refine o_sub rfl rfl rfl (wrapAny (by simp only [inKind]; omega)) ?_|refine o_mul rfl rfl rfl (wrapAny (by simp only [inKind]; omega)) ?_|refine o_quo rfl rfl rfl (by omega) (by omega) (wrapAny (by simp only [inKind]; omega)) ?_|refine o_rem rfl rfl rfl (by omega) (by omega) ?_|refine o_any rfl rfl ?_) |(refine gV ?_; refine o_conv rfl rfl (wrapAny (by simp only [inKind]; omega)) ?_) |(refine gL ?_; refine o_load1R rfl rfl (by assumption) rfl rfl ?_) |(refine gN ?_; refine o_loadNR rfl rfl (by assumption) rfl (by first|exact Nat.le_of_ble_eq_true rfl|(simp; done)|omega) rfl ?_) |(refine gS ?_; refine o_storeR rfl rfl rfl rfl rfl (by assumption) (by first|exact Nat.le_of_ble_eq_true rfl|(simp; done)|omega) ?_) |refine o_anyX rfl rfl rfl ?_ |refine o_anyN rfl rfl ?_) |(show wp _ _ _ _ _; first |refine w_opsS ?_ |refine w_ops ?_ |(refine gW ?_; first|refine w_condY rfl (by first|rfl|assumption|exact y1 (by omega)|exact y3 (by omega)|exact y5 (by omega)) ?_|refine w_condN rfl (by first|rfl|assumption|exact y2 (by omega)|exact y4 (by omega)|exact y6 (by omega)) ?_) |refine w_seq ?_ |refine w_opsX ?_ |refine w_block ?_ |refine w_exit ?_ |refine w_ret ?_ |refine w_skip ?_))
  refine o_lenMR rfl rfl hm hl ?_
  repeat (first |((with_reducible show wpO _ _ _ _ _); first |refine o_mv rfl rfl ?_ |refine o_lenV rfl rfl ?_ |refine o_ext rfl rfl rfl ?_ |refine o_nil ?_ |(refine gG ?_; first|refine o_gdY rfl (by first|rfl|assumption|exact y1 (by omega)|exact y2 (by omega)|exact y3 (by omega)|exact y4 (by omega)|exact y5 (by omega)|exact y6 (by omega)) ?_|refine o_gdN rfl (by first|rfl|assumption|exact y1 (by omega)|exact y2 (by omega)|exact y3 (by omega)|exact y4 (by omega)|exact y5 (by omega)|exact y6 (by omega)) ?_|refine o_pass rfl ?_|refine o_passN rfl ?_) |(refine gP ?_; first|refine o_pickY rfl rfl (by first|rfl|assumption|exact y1 (by omega)|exact y3 (by omega)|exact y5 (by omega)) rfl ?_|refine o_pickN rfl rfl (by first|rfl|assumption|exact y2 (by omega)|exact y4 (by omega)|exact y6 (by omega)) rfl ?_) |(refine gA ?_; first|refine o_add rfl rfl rfl (wrapAny (by simp only [inKind]; omega)) ?_|refine o_sub rfl rfl rfl (wrapAny (by simp only [inKind]; omega)) ?_|refine o_mul rfl rfl rfl (wrapAny (by simp only [inKind]; omega)) ?_|refine o_quo rfl rfl rfl (by omega) (by omega) (wrapAny (by simp only [inKind]; omega)) ?_|refine o_rem rfl rfl rfl (by omega) (by omega) ?_|refine o_any rfl rfl ?_) |(refine gV ?_; refine o_conv rfl rfl (wrapAny (by simp only [inKind]; omega)) ?_) |(refine gL ?_; refine o_load1R rfl rfl (by assumption) rfl rfl ?_) |(refine gN ?_; refine o_loadNR rfl rfl (by assumption) rfl (by first|exact Nat.le_of_ble_eq_true rfl|(simp; done)|omega) rfl ?_) |(refine gS ?_; refine o_storeR rfl rfl rfl rfl rfl (by assumption) (by first|exact Nat.le_of_ble_eq_true rfl|(simp; done)|omega) ?_) |refine o_anyX rfl rfl rfl ?_ |refine o_anyN rfl rfl ?_) |(show wp _ _ _ _ _; first |refine w_opsS ?_ |refine w_ops ?_ |(refine gW ?_; first|refine w_condY rfl (by first|rfl|assumption|exact y1 (by omega)|exact y3 (by omega)|exact y5 (by omega)) ?_|refine w_condN rfl (by first|rfl|assumption|exact y2 (by omega)|exact y4 (by omega)|exact y6 (by omega)) ?_) |refine w_seq ?_ |refine w_opsX ?_ |refine w_block ?_ |refine w_exit ?_ |refine w_ret ?_ |refine w_skip ?_))
  exact ⟨.inr rfl, _, rfl, rfl, rfl⟩
theorem slotNew {id : Int} {h : Heap} {t m cl : Nat} {E : List En} (I : TabI h t m cl E) (he : find E id = none) (hf : E.length < 64) (hid : 0 ≤ id ∧ id ≤ 4294967295) : Cl MM F_serve_Table_slot [at0 t, .int .i64 id] h fun v h' => v = .tuple #[at0 h.n, .int .i64 0] ∧ TabI h' t m (cl + 1) (E ++ [(.fresh id E.length, h.n, cl)]) ∧ Turned h h' (foot t m E) := by
  refine w_call (F := M_serve_Table_slot) (by rw [MMf]; rfl) rfl ?_
  have ht := I.top
  have hm := I.map
  have hj := findE_none (i := 0) he
  have hl : (ents E).length = E.length := by simp [ents]
  have hne : m ≠ t := fun h => (List.nodup_cons.1 I.ads).1 (h ▸ List.mem_cons_self)
  repeat (first |((with_reducible show wpO _ _ _ _ _); first |refine o_mv rfl rfl ?_ |refine o_lenV rfl rfl ?_ |refine o_ext rfl rfl rfl ?_ |refine o_nil ?_ |(refine gG ?_; first|refine o_gdY rfl (by first|rfl|assumption|exact y1 (by omega)|exact y2 (by omega)|exact y3 (by omega)|exact y4 (by omega)|exact y5 (by omega)|exact y6 (by omega)) ?_|refine o_gdN rfl (by first|rfl|assumption|exact y1 (by omega)|exact y2 (by omega)|exact y3 (by omega)|exact y4 (by omega)|exact y5 (by omega)|exact y6 (by omega)) ?_|refine o_pass rfl ?_|refine o_passN rfl ?_) |(refine gP ?_; first|refine o_pickY rfl rfl (by first|rfl|assumption|exact y1 (by omega)|exact y3 (by omega)|exact y5 (by omega)) rfl ?_|refine o_pickN rfl rfl (by first|rfl|assumption|exact y2 (by omega)|exact y4 (by omega)|exact y6 (by omega)) rfl ?_) |(refine gA ?_; first|refine o_add rfl rfl rfl (wrapAny (by simp only [inKind]; omega)) ?_|refine o_sub rfl rfl rfl (wrapAny (by simp only [inKind]; omega)) ?_|refine o_mul rfl rfl rfl (wrapAny (by simp only [inKind]; omega)) ?_|refine o_quo rfl rfl rfl (by omega) (by omega) (wrapAny (by simp only [inKind]; omega)) ?_|refine o_rem rfl rfl rfl (by omega) (by omega) ?_|refine o_any rfl rfl ?_) |(refine gV ?_; refine o_conv rfl rfl (wrapAny (by simp only [inKind]; omega)) ?_) |(refine gL ?_; refine o_load1R rfl rfl (by assumption) rfl rfl ?_) |(refine gN ?_; refine o_loadNR rfl rfl (by assumption) rfl (by first|exact Nat.le_of_ble_eq_true rfl|(simp; done)|omega) rfl ?_) |(refine gS ?_; refine o_storeR rfl rfl rfl rfl rfl (by assumption) (by first|exact Nat.le_of_ble_eq_true rfl|(simp; done)|omega) ?_) |refine o_anyX rfl rfl rfl ?_ |refine o_anyN rfl rfl ?_) |(show wp _ _ _ _ _; first |refine w_opsS ?_ |refine w_ops ?_ |(refine gW ?_; first|refine w_condY rfl (by first|rfl|assumption|exact y1 (by omega)|exact y3 (by omega)|exact y5 (by omega)) ?_|refine w_condN rfl (by first|rfl|assumption|exact y2 (by omega)|exact y4 (by omega)|exact y6 (by omega)) ?_) |refine w_seq ?_ |refine w_opsX ?_ |refine w_block ?_ |refine w_exit ?_ |refine w_ret ?_ |refine w_skip ?_))
  refine o_lookN rfl rfl rfl hm hj ?_
  repeat (first |((with_reducible show wpO _ _ _ _ _); first |refine o_mv rfl rfl ?_ |refine o_lenV rfl rfl ?_ |refine o_ext rfl rfl rfl ?_ |refine o_nil ?_ |(refine gG ?_; first|refine o_gdY rfl (by first|rfl|assumption|exact y1 (by omega)|exact y2 (by omega)|exact y3 (by omega)|exact y4 (by omega)|exact y5 (by omega)|exact y6 (by omega)) ?_|refine o_gdN rfl (by first|rfl|assumption|exact y1 (by omega)|exact y2 (by omega)|exact y3 (by omega)|exact y4 (by omega)|exact y5 (by omega)|exact y6 (by omega)) ?_|refine o_pass rfl ?_|refine o_passN rfl ?_) |(refine gP ?_; first|refine o_pickY rfl rfl (by first|rfl|assumption|exact y1 (by omega)|exact y3 (by omega)|exact y5 (by omega)) rfl ?_|refine o_pickN rfl rfl (by first|rfl|assumption|exact y2 (by omega)|exact y4 (by omega)|exact y6 (by omega)) rfl ?_) |(refine gA ?_; first|refine o_add rfl rfl rfl (wrapAny (by simp only [inKind]; omega)) ?_|refine o_sub rfl rfl rfl (wrapAny (by simp only [inKind]; omega)) ?_|refine o_mul rfl rfl rfl (wrapAny (by simp only [inKind]; omega)) ?_|refine o_quo rfl rfl rfl (by omega) (by omega) (wrapAny (by simp only [inKind]; omega)) ?_|refine o_rem rfl rfl rfl (by omega) (by omega) ?_|refine o_any rfl rfl ?_) |(refine gV ?_; refine o_conv rfl rfl (wrapAny (by simp only [inKind]; omega)) ?_) |(refine gL ?_; refine o_load1R rfl rfl (by assumption) rfl rfl ?_) |(refine gN ?_; refine o_loadNR rfl rfl (by assumption) rfl (by first|exact Nat.le_of_ble_eq_true rfl|(simp; done)|omega) rfl ?_) |(refine gS ?_; refine o_storeR rfl rfl rfl rfl rfl (by assumption) (by first|exact Nat.le_of_ble_eq_true rfl|(simp; done)|omega) ?_) |refine o_anyX rfl rfl rfl ?_ |refine o_anyN rfl rfl ?_) |(show wp _ _ _ _ _; first |refine w_opsS ?_ |refine w_ops ?_ |(refine gW ?_; first|refine w_condY rfl (by first|rfl|assumption|exact y1 (by omega)|exact y3 (by omega)|exact y5 (by omega)) ?_|refine w_condN rfl (by first|rfl|assumption|exact y2 (by omega)|exact y4 (by omega)|exact y6 (by omega)) ?_) |refine w_seq ?_ |refine w_opsX ?_ |refine w_block ?_ |refine w_exit ?_ |refine w_ret ?_ |refine w_skip ?_))
  refine o_lenMR rfl rfl hm hl ?_
  repeat (first |((with_reducible show wpO _ _ _ _ _); first |refine o_mv rfl rfl ?_ |refine o_lenV rfl rfl ?_ |refine o_ext rfl rfl rfl ?_ |refine o_nil ?_ |(refine gG ?_; first|refine o_gdY rfl (by first|rfl|assumption|exact y1 (by omega)|exact y2 (by omega)|exact y3 (by omega)|exact y4 (by omega)|exact y5 (by omega)|exact y6 (by omega)) ?_|refine o_gdN rfl (by first|rfl|assumption|exact y1 (by omega)|exact y2 (by omega)|exact y3 (by omega)|exact y4 (by omega)|exact y5 (by omega)|exact y6 (by omega)) ?_|refine o_pass rfl ?_|refine o_passN rfl ?_) |(refine gP ?_; first|refine o_pickY rfl rfl (by first|rfl|assumption|exact y1 (by omega)|exact y3 (by omega)|exact y5 (by omega)) rfl ?_|refine o_pickN rfl rfl (by first|rfl|assumption|exact y2 (by omega)|exact y4 (by omega)|exact y6 (by omega)) rfl ?_) |(refine gA ?_; first|refine o_add rfl rfl rfl (wrapAny (by simp only [inKind]; omega)) ?_|refine o_sub rfl rfl rfl (wrapAny (by simp only [inKind]; omega)) ?_|refine o_mul rfl rfl rfl (wrapAny (by simp only [inKind]; omega)) ?_|refine o_quo rfl rfl rfl (by omega) (by omega) (wrapAny (by simp only [inKind]; omega)) ?_|refine o_rem rfl rfl rfl (by omega) (by omega) ?_|refine o_any rfl rfl ?_) |(refine gV ?_; refine o_conv rfl rfl (wrapAny (by simp only [inKind]; omega)) ?_) |(refine gL ?_; refine o_load1R rfl rfl (by assumption) rfl rfl ?_) |(refine gN ?_; refine o_loadNR rfl rfl (by assumption) rfl (by first|exact Nat.le_of_ble_eq_true rfl|(simp; done)|omega) rfl ?_) |(refine gS ?_; refine o_storeR rfl rfl rfl rfl rfl (by assumption) (by first|exact Nat.le_of_ble_eq_true rfl|(simp; done)|omega) ?_) |refine o_anyX rfl rfl rfl ?_ |refine o_anyN rfl rfl ?_) |(show wp _ _ _ _ _; first |refine w_opsS ?_ |refine w_ops ?_ |(refine gW ?_; first|refine w_condY rfl (by first|rfl|assumption|exact y1 (by omega)|exact y3 (by omega)|exact y5 (by omega)) ?_|refine w_condN rfl (by first|rfl|assumption|exact y2 (by omega)|exact y4 (by omega)|exact y6 (by omega)) ?_) |refine w_seq ?_ |refine w_opsX ?_ |refine w_block ?_ |refine w_exit ?_ |refine w_ret ?_ |refine w_skip ?_))
  have ht1 : (h.set t (.rw (splice [.map (some m), .int .i64 E.length, .bool true] 1 [.int .i64 ((E.length : Int) + 1)]))).get? t = some (.rw [.map (some m), .int .i64 ((E.length : Int) + 1), .bool true]) := Heap.get?_set_same ht
  have hm1 : (h.set t (.rw (splice [.map (some m), .int .i64 E.length, .bool true] 1 [.int .i64 ((E.length : Int) + 1)]))).get? m = some (.map (ents E) cl) := by rw [Heap.get?_set_other (Heap.get?_lt ht) hne]; exact hm
  generalize hh1 : h.set t (.rw (splice [.map (some m), .int .i64 E.length, .bool true] 1 [.int .i64 ((E.length : Int) + 1)])) = h1 at ht1 hm1
  have hn1 : h1.n = h.n := by rw [← hh1]; rfl
  have hle : Le h1 (h1.push (.rw (Slt.fresh id E.length).cells)) := Le.push
  have ht2 := hle.get ht1
  have hm2 := hle.get hm1
  have hs2 : (h1.push (.rw (Slt.fresh id E.length).cells)).get? h1.n = some (.rw (Slt.fresh id E.length).cells) := Heap.get?_push_new
  have hlm := Heap.get?_lt hm2
  have hlt := I.foot_lt
  have hmf : m < h.n := hlt m (by simp [foot])
  have htf : t < h.n := hlt t (by simp [foot])
  have old : ∀ d < h.n, d ≠ t → d ≠ m → ((h1.push (.rw (Slt.fresh id E.length).cells)).set m (.map (ents E ++ [(.int .i64 id, at0 h1.n, cl)]) (cl + 1))).get? d = h.get? d := by
    intro d hd h1' h2'
    rw [Heap.get?_set_other hlm h2', Heap.get?_push_old (by omega), ← hh1, Heap.get?_set_other htf h1']
  have fin : TabI ((h1.push (.rw (Slt.fresh id E.length).cells)).set m (.map (ents E ++ [(.int .i64 id, at0 h1.n, cl)]) (cl + 1))) t m (cl + 1) (E ++ [(.fresh id E.length, h.n, cl)]) ∧ Turned h ((h1.push (.rw (Slt.fresh id E.length).cells)).set m (.map (ents E ++ [(.int .i64 id, at0 h1.n, cl)]) (cl + 1))) (foot t m E) := by
    constructor
    · refine I.more hid he hf (Slt.fresh id E.length) rfl rfl ?_ ?_ ?_ old
      · rw [Heap.get?_set_other hlm hne.symm]; exact ht2
      · rw [Heap.get?_set_same hm2, hn1]
      · rw [Heap.get?_set_other hlm (by omega), ← hn1]; exact hs2
    · refine ⟨by show h.n ≤ h1.n + 1; omega, fun d hd hn => old d hd ?_ ?_⟩
      · rintro rfl; exact hn (by simp [foot])
      · rintro rfl; exact hn (by simp [foot])
  repeat (first |((with_reducible show wpO _ _ _ _ _); first |refine o_mv rfl rfl ?_ |refine o_lenV rfl rfl ?_ |refine o_ext rfl rfl rfl ?_ |refine o_nil ?_ |(refine gG ?_; first|refine o_gdY rfl (by first|rfl|assumption|exact y1 (by omega)|exact y2 (by omega)|exact y3 (by omega)|exact y4 (by omega)|exact y5 (by omega)|exact y6 (by omega)) ?_|refine o_gdN rfl (by first|rfl|assumption|exact y1 (by omega)|exact y2 (by omega)|exact y3 (by omega)|exact y4 (by omega)|exact y5 (by omega)|exact y6 (by omega)) ?_|refine o_pass rfl ?_|refine o_passN rfl ?_) |(refine gP ?_; first|refine o_pickY rfl rfl (by first|rfl|assumption|exact y1 (by omega)|exact y3 (by omega)|exact y5 (by omega)) rfl ?_|refine o_pickN rfl rfl (by first|rfl|assumption|exact y2 (by omega)|exact y4 (by omega)|exact y6 (by omega)) rfl ?_) |(refine gA ?_; first|refine o_add rfl rfl rfl (wrapAny (by simp only [inKind]; omega)) ?_|refine o_sub rfl rfl rfl (wrapAny (by simp only [inKind]; omega)) ?_|refine o_mul rfl rfl rfl (wrapAny (by simp only [inKind]; omega)) ?_|refine o_quo rfl rfl rfl (by omega) (by omega) (wrapAny (by simp only [inKind]; omega)) ?_|refine o_rem rfl rfl rfl (by omega) (by omega) ?_|refine o_any rfl rfl ?_) |(refine gV ?_; refine o_conv rfl rfl (wrapAny (by simp only [inKind]; omega)) ?_) |(refine gL ?_; refine o_load1R rfl rfl (by assumption) rfl rfl ?_) |(refine gN ?_; refine o_loadNR rfl rfl (by assumption) rfl (by first|exact Nat.le_of_ble_eq_true rfl|(simp; done)|omega) rfl ?_) |(refine gS ?_; refine o_storeR rfl rfl rfl rfl rfl (by assumption) (by first|exact Nat.le_of_ble_eq_true rfl|(simp; done)|omega) ?_) |refine o_anyX rfl rfl rfl ?_ |refine o_anyN rfl rfl ?_) |(show wp _ _ _ _ _; first |refine w_opsS ?_ |refine w_ops ?_ |(refine gW ?_; first|refine w_condY rfl (by first|rfl|assumption|exact y1 (by omega)|exact y3 (by omega)|exact y5 (by omega)) ?_|refine w_condN rfl (by first|rfl|assumption|exact y2 (by omega)|exact y4 (by omega)|exact y6 (by omega)) ?_) |refine w_seq ?_ |refine w_opsX ?_ |refine w_block ?_ |refine w_exit ?_ |refine w_ret ?_ |refine w_skip ?_))
  refine o_msetN rfl rfl rfl rfl rfl hm2 hj ?_
  repeat (first |((with_reducible show wpO _ _ _ _ _); first |refine o_mv rfl rfl ?_ |refine o_lenV rfl rfl ?_ |refine o_ext rfl rfl rfl ?_ |refine o_nil ?_ |(refine gG ?_; first|refine o_gdY rfl (by first|rfl|assumption|exact y1 (by omega)|exact y2 (by omega)|exact y3 (by omega)|exact y4 (by omega)|exact y5 (by omega)|exact y6 (by omega)) ?_|refine o_gdN rfl (by first|rfl|assumption|exact y1 (by omega)|exact y2 (by omega)|exact y3 (by omega)|exact y4 (by omega)|exact y5 (by omega)|exact y6 (by omega)) ?_|refine o_pass rfl ?_|refine o_passN rfl ?_) |(refine gP ?_; first|refine o_pickY rfl rfl (by first|rfl|assumption|exact y1 (by omega)|exact y3 (by omega)|exact y5 (by omega)) rfl ?_|refine o_pickN rfl rfl (by first|rfl|assumption|exact y2 (by omega)|exact y4 (by omega)|exact y6 (by omega)) rfl ?_) |(refine gA ?_; first|refine o_add rfl rfl rfl (wrapAny (by simp only [inKind]; omega)) ?_|refine o_sub rfl rfl rfl (wrapAny (by simp only [inKind]; omega)) ?_|refine o_mul rfl rfl rfl (wrapAny (by simp only [inKind]; omega)) ?_|refine o_quo rfl rfl rfl (by omega) (by omega) (wrapAny (by simp only [inKind]; omega)) ?_|refine o_rem rfl rfl rfl (by omega) (by omega) ?_|refine o_any rfl rfl ?_) |(refine gV ?_; refine o_conv rfl rfl (wrapAny (by simp only [inKind]; omega)) ?_) |(refine gL ?_; refine o_load1R rfl rfl (by assumption) rfl rfl ?_) |(refine gN ?_; refine o_loadNR rfl rfl (by assumption) rfl (by first|exact Nat.le_of_ble_eq_true rfl|(simp; done)|omega) rfl ?_) |(refine gS ?_; refine o_storeR rfl rfl rfl rfl rfl (by assumption) (by first|exact Nat.le_of_ble_eq_true rfl|(simp; done)|omega) ?_) |refine o_anyX rfl rfl rfl ?_ |refine o_anyN rfl rfl ?_) |(show wp _ _ _ _ _; first |refine w_opsS ?_ |refine w_ops ?_ |(refine gW ?_; first|refine w_condY rfl (by first|rfl|assumption|exact y1 (by omega)|exact y3 (by omega)|exact y5 (by omega)) ?_|refine w_condN rfl (by first|rfl|assumption|exact y2 (by omega)|exact y4 (by omega)|exact y6 (by omega)) ?_) |refine w_seq ?_ |refine w_opsX ?_ |refine w_block ?_ |refine w_exit ?_ |refine w_ret ?_ |refine w_skip ?_))
  exact ⟨.inr rfl, _, rfl, by rw [← hn1], fin⟩
end Go.Proofs.Ytfbhmogjnjejmaa

/- A table's calls: Ask and Hear. Conditions: none. -/
namespace Go.Proofs.Ytfbhmogjnjejmaa
open Go.Cm Go.RowKit
set_option linter.unusedVariables false
set_option linter.unusedSimpArgs false
set_option maxRecDepth 100000
set_option maxHeartbeats 1000000

theorem set_set {h : Heap} {a : Nat} {x y : CObj} : (h.set a x).set a y = h.set a y := by
  unfold Heap.set
  simp [List.set_set]
theorem setS_last {h : Heap} {t m cl : Nat} {E : List En} {x : En} {s : Slt} (I : TabI h t m cl (E ++ [x])) : setS (E ++ [x]) x.2.1 s = E ++ [(s, x.2)] := by
  have hn := I.adn
  rw [List.map_append, List.nodup_append] at hn
  unfold setS
  rw [List.map_append]
  congr 1
  · conv => rhs; rw [← List.map_id E]
    apply List.map_congr_left
    intro e he
    have := hn.2.2 e.2.1 (List.mem_map.2 ⟨e, he, rfl⟩) x.2.1 (by simp)
    rw [if_neg this]; rfl
  · simp

/-- what it answers, and what is known then -/
def askN (E : List En) (T : Tk) : Int := if T.bad ≠ 0 then T.bad else match find E T.id with | some e => if e.1.ask then 41 else 0 | none => if 64 ≤ E.length then 16 else 0
def Slt.asked (s : Slt) (T : Tk) : Slt := { s with own := T, ask := true }
def askE (E : List En) (T : Tk) (a cl : Nat) : List En := if T.bad ≠ 0 then E else match find E T.id with | some e => if e.1.ask then E else setS E e.2.1 (e.1.asked T) | none => if 64 ≤ E.length then E else E ++ [((Slt.fresh T.id E.length).asked T, a, cl)]
theorem askC (T : Tk) {h : Heap} {t m cl : Nat} {E : List En} (I : TabI h t m cl E) : Cl MM F_serve_Table_Ask [at0 t, T.v] h fun v h' => v = .int .i64 (askN E T) ∧ ∃ a cl', h.n ≤ a ∧ TabI h' t m cl' (askE E T a cl) ∧ Turned h h' (foot t m E) := by
  refine w_call (F := M_serve_Table_Ask) (by rw [MMf]; rfl) rfl ?_
  have hl : Le h (h.push (.rw T.cells)) := Le.push
  have hg : (h.push (.rw T.cells)).get? h.n = some (.rw T.cells) := Heap.get?_push_new
  have I0 := I.le hl
  have hft : h.n ∉ foot t m E := fun hh => Nat.lt_irrefl _ (I.foot_lt _ hh)
  repeat (first |((with_reducible show wpO _ _ _ _ _); first |refine o_mv rfl rfl ?_ |refine o_lenV rfl rfl ?_ |refine o_ext rfl rfl rfl ?_ |refine o_nil ?_ |(refine gG ?_; first|refine o_gdY rfl (by first|rfl|assumption|exact y1 (by omega)|exact y2 (by omega)|exact y3 (by omega)|exact y4 (by omega)|exact y5 (by omega)|exact y6 (by omega)) ?_|refine o_gdN rfl (by first|rfl|assumption|exact y1 (by omega)|exact y2 (by omega)|exact y3 (by omega)|exact y4 (by omega)|exact y5 (by omega)|exact y6 (by omega)) ?_|refine o_pass rfl ?_|refine o_passN rfl ?_) |(refine gP ?_; first|refine o_pickY rfl rfl (by first|rfl|assumption|exact y1 (by omega)|exact y3 (by omega)|exact y5 (by omega)) rfl ?_|refine o_pickN rfl rfl (by first|rfl|assumption|exact y2 (by omega)|exact y4 (by omega)|exact y6 (by omega)) rfl ?_) |(refine gA ?_; first|refine o_add rfl rfl rfl (wrapAny (by simp only [inKind]; omega)) ?_|refine o_sub rfl rfl rfl (wrapAny (by simp only [inKind]; omega)) ?_|refine o_mul rfl rfl rfl (wrapAny (by simp only [inKind]; omega)) ?_|refine o_quo rfl rfl rfl (by omega) (by omega) (wrapAny (by simp only [inKind]; omega)) ?_|refine o_rem rfl rfl rfl (by omega) (by omega) ?_|refine o_any rfl rfl ?_) |(refine gV ?_; refine o_conv rfl rfl (wrapAny (by simp only [inKind]; omega)) ?_) |(refine gL ?_; refine o_load1R rfl rfl (by assumption) rfl rfl ?_) |(refine gN ?_; refine o_loadNR rfl rfl (by assumption) rfl (by first|exact Nat.le_of_ble_eq_true rfl|(simp; done)|omega) rfl ?_) |(refine gS ?_; refine o_storeR rfl rfl rfl rfl rfl (by assumption) (by first|exact Nat.le_of_ble_eq_true rfl|(simp; done)|omega) ?_) |refine o_anyX rfl rfl rfl ?_ |refine o_anyN rfl rfl ?_) |(show wp _ _ _ _ _; first |refine w_opsS ?_ |refine w_ops ?_ |(refine gW ?_; first|refine w_condY rfl (by first|rfl|assumption|exact y1 (by omega)|exact y3 (by omega)|exact y5 (by omega)) ?_|refine w_condN rfl (by first|rfl|assumption|exact y2 (by omega)|exact y4 (by omega)|exact y6 (by omega)) ?_) |refine w_seq ?_ |refine w_opsX ?_ |refine w_block ?_ |refine w_exit ?_ |refine w_ret ?_ |refine w_skip ?_))
  refine o_call rfl rfl (readyC T I0) ?_
  rintro v h1 ⟨rfl, hle1⟩
  have I1 := I0.le hle1
  have hg1 := hle1.get hg
  have hle := hl.trans hle1
  have ht := I1.top
  have hm := I1.map
  have hid : T.bad = 0 → 0 ≤ T.id ∧ T.id ≤ 4294967295 := by
    intro hb
    unfold Tk.bad ticketN at hb
    split at hb
    · omega
    · split at hb <;> omega
  unfold askN askE
  generalize T.bad = N at *
  by_cases hN : N ≠ 0
  · repeat (first |((with_reducible show wpO _ _ _ _ _); first |refine o_mv rfl rfl ?_ |refine o_lenV rfl rfl ?_ |refine o_ext rfl rfl rfl ?_ |refine o_nil ?_ |(refine gG ?_; first|refine o_gdY rfl (by first|rfl|assumption|exact y1 (by omega)|exact y2 (by omega)|exact y3 (by omega)|exact y4 (by omega)|exact y5 (by omega)|exact y6 (by omega)) ?_|refine o_gdN rfl (by first|rfl|assumption|exact y1 (by omega)|exact y2 (by omega)|exact y3 (by omega)|exact y4 (by omega)|exact y5 (by omega)|exact y6 (by omega)) ?_|refine o_pass rfl ?_|refine o_passN rfl ?_) |(refine gP ?_; first|refine o_pickY rfl rfl (by first|rfl|assumption|exact y1 (by omega)|exact y3 (by omega)|exact y5 (by omega)) rfl ?_|refine o_pickN rfl rfl (by first|rfl|assumption|exact y2 (by omega)|exact y4 (by omega)|exact y6 (by omega)) rfl ?_) |(refine gA ?_; first|refine o_add rfl rfl rfl (wrapAny (by simp only [inKind]; omega)) ?_|refine o_sub rfl rfl rfl (wrapAny (by simp only [inKind]; omega)) ?_|refine o_mul rfl rfl rfl (wrapAny (by simp only [inKind]; omega)) ?_|refine o_quo rfl rfl rfl (by omega) (by omega) (wrapAny (by simp only [inKind]; omega)) ?_|refine o_rem rfl rfl rfl (by omega) (by omega) ?_|refine o_any rfl rfl ?_) |(refine gV ?_; refine o_conv rfl rfl (wrapAny (by simp only [inKind]; omega)) ?_) |(refine gL ?_; refine o_load1R rfl rfl (by assumption) rfl rfl ?_) |(refine gN ?_; refine o_loadNR rfl rfl (by assumption) rfl (by first|exact Nat.le_of_ble_eq_true rfl|(simp; done)|omega) rfl ?_) |(refine gS ?_; refine o_storeR rfl rfl rfl rfl rfl (by assumption) (by first|exact Nat.le_of_ble_eq_true rfl|(simp; done)|omega) ?_) |refine o_anyX rfl rfl rfl ?_ |refine o_anyN rfl rfl ?_) |(show wp _ _ _ _ _; first |refine w_opsS ?_ |refine w_ops ?_ |(refine gW ?_; first|refine w_condY rfl (by first|rfl|assumption|exact y1 (by omega)|exact y3 (by omega)|exact y5 (by omega)) ?_|refine w_condN rfl (by first|rfl|assumption|exact y2 (by omega)|exact y4 (by omega)|exact y6 (by omega)) ?_) |refine w_seq ?_ |refine w_opsX ?_ |refine w_block ?_ |refine w_exit ?_ |refine w_ret ?_ |refine w_skip ?_))
    refine ⟨.inr rfl, _, rfl, by rw [if_pos hN], h.n, cl, Nat.le_refl _, by rw [if_pos hN]; exact I1, .of_le hle⟩
  have hN0 : N = 0 := by omega
  have hid := hid hN0
  cases he : find E T.id with
  | some e =>
    obtain ⟨j, hj⟩ := findE_some (i := 0) he
    have hs := I1.slot e (find_mem he).1
    repeat (first |((with_reducible show wpO _ _ _ _ _); first |refine o_mv rfl rfl ?_ |refine o_lenV rfl rfl ?_ |refine o_ext rfl rfl rfl ?_ |refine o_nil ?_ |(refine gG ?_; first|refine o_gdY rfl (by first|rfl|assumption|exact y1 (by omega)|exact y2 (by omega)|exact y3 (by omega)|exact y4 (by omega)|exact y5 (by omega)|exact y6 (by omega)) ?_|refine o_gdN rfl (by first|rfl|assumption|exact y1 (by omega)|exact y2 (by omega)|exact y3 (by omega)|exact y4 (by omega)|exact y5 (by omega)|exact y6 (by omega)) ?_|refine o_pass rfl ?_|refine o_passN rfl ?_) |(refine gP ?_; first|refine o_pickY rfl rfl (by first|rfl|assumption|exact y1 (by omega)|exact y3 (by omega)|exact y5 (by omega)) rfl ?_|refine o_pickN rfl rfl (by first|rfl|assumption|exact y2 (by omega)|exact y4 (by omega)|exact y6 (by omega)) rfl ?_) |(refine gA ?_; first|refine o_add rfl rfl rfl (wrapAny (by simp only [inKind]; omega)) ?_|refine o_sub rfl rfl rfl (wrapAny (by simp only [inKind]; omega)) ?_|refine o_mul rfl rfl rfl (wrapAny (by simp only [inKind]; omega)) ?_|refine o_quo rfl rfl rfl (by omega) (by omega) (wrapAny (by simp only [inKind]; omega)) ?_|refine o_rem rfl rfl rfl (by omega) (by omega) ?_|refine o_any rfl rfl ?_) |(refine gV ?_; refine o_conv rfl rfl (wrapAny (by simp only [inKind]; omega)) ?_) |(refine gL ?_; refine o_load1R rfl rfl (by assumption) rfl rfl ?_) |(refine gN ?_; refine o_loadNR rfl rfl (by assumption) rfl (by first|exact Nat.le_of_ble_eq_true rfl|(simp; done)|omega) rfl ?_) |(refine gS ?_; refine o_storeR rfl rfl rfl rfl rfl (by assumption) (by first|exact Nat.le_of_ble_eq_true rfl|(simp; done)|omega) ?_) |refine o_anyX rfl rfl rfl ?_ |refine o_anyN rfl rfl ?_) |(show wp _ _ _ _ _; first |refine w_opsS ?_ |refine w_ops ?_ |(refine gW ?_; first|refine w_condY rfl (by first|rfl|assumption|exact y1 (by omega)|exact y3 (by omega)|exact y5 (by omega)) ?_|refine w_condN rfl (by first|rfl|assumption|exact y2 (by omega)|exact y4 (by omega)|exact y6 (by omega)) ?_) |refine w_seq ?_ |refine w_opsX ?_ |refine w_block ?_ |refine w_exit ?_ |refine w_ret ?_ |refine w_skip ?_))
    refine o_lookY rfl rfl rfl hm hj ?_
    cases ha : e.1.ask with
    | true =>
      repeat (first |((with_reducible show wpO _ _ _ _ _); first |refine o_mv rfl rfl ?_ |refine o_lenV rfl rfl ?_ |refine o_ext rfl rfl rfl ?_ |refine o_nil ?_ |(refine gG ?_; first|refine o_gdY rfl (by first|rfl|assumption|exact y1 (by omega)|exact y2 (by omega)|exact y3 (by omega)|exact y4 (by omega)|exact y5 (by omega)|exact y6 (by omega)) ?_|refine o_gdN rfl (by first|rfl|assumption|exact y1 (by omega)|exact y2 (by omega)|exact y3 (by omega)|exact y4 (by omega)|exact y5 (by omega)|exact y6 (by omega)) ?_|refine o_pass rfl ?_|refine o_passN rfl ?_) |(refine gP ?_; first|refine o_pickY rfl rfl (by first|rfl|assumption|exact y1 (by omega)|exact y3 (by omega)|exact y5 (by omega)) rfl ?_|refine o_pickN rfl rfl (by first|rfl|assumption|exact y2 (by omega)|exact y4 (by omega)|exact y6 (by omega)) rfl ?_) |(refine gA ?_; first|refine o_add rfl rfl rfl (wrapAny (by simp only [inKind]; omega)) ?_|refine o_sub rfl rfl rfl (wrapAny (by simp only [inKind]; omega)) ?_|refine o_mul rfl rfl rfl (wrapAny (by simp only [inKind]; omega)) ?_|refine o_quo rfl rfl rfl (by omega) (by omega) (wrapAny (by simp only [inKind]; omega)) ?_|refine o_rem rfl rfl rfl (by omega) (by omega) ?_|refine o_any rfl rfl ?_) |(refine gV ?_; refine o_conv rfl rfl (wrapAny (by simp only [inKind]; omega)) ?_) |(refine gL ?_; refine o_load1R rfl rfl (by assumption) rfl rfl ?_) |(refine gN ?_; refine o_loadNR rfl rfl (by assumption) rfl (by first|exact Nat.le_of_ble_eq_true rfl|(simp; done)|omega) rfl ?_) |(refine gS ?_; refine o_storeR rfl rfl rfl rfl rfl (by assumption) (by first|exact Nat.le_of_ble_eq_true rfl|(simp; done)|omega) ?_) |refine o_anyX rfl rfl rfl ?_ |refine o_anyN rfl rfl ?_) |(show wp _ _ _ _ _; first |refine w_opsS ?_ |refine w_ops ?_ |(refine gW ?_; first|refine w_condY rfl (by first|rfl|assumption|exact y1 (by omega)|exact y3 (by omega)|exact y5 (by omega)) ?_|refine w_condN rfl (by first|rfl|assumption|exact y2 (by omega)|exact y4 (by omega)|exact y6 (by omega)) ?_) |refine w_seq ?_ |refine w_opsX ?_ |refine w_block ?_ |refine w_exit ?_ |refine w_ret ?_ |refine w_skip ?_))
      refine ⟨.inr rfl, _, rfl, by rw [if_neg hN]; simp only [ha, if_true], h.n, cl, Nat.le_refl _, ?_, .of_le hle⟩
      rw [if_neg hN]; simp only [ha, if_true]; exact I1
    | false =>
      have hs' : (h1.set e.2.1 (.rw (splice e.1.cells 0 T.cells))).get? e.2.1 = some (.rw (splice e.1.cells 0 T.cells)) := Heap.get?_set_same hs
      have hgs : ∀ o, (h1.set e.2.1 o).get? h.n = some (.rw T.cells) := fun o => by
        rw [Heap.get?_set_other (Heap.get?_lt hs) (fun hh => hft (by rw [hh]; simp only [foot, List.mem_cons, List.mem_map]; exact .inr (.inr ⟨e, (find_mem he).1, rfl⟩)))]; exact hg1
      have fin : TabI ((h1.set e.2.1 (.rw (splice e.1.cells 0 T.cells))).set e.2.1 (.rw (splice (splice e.1.cells 0 T.cells) 14 [.bool true]))) t m cl (setS E e.2.1 (e.1.asked T)) := by
        rw [set_set]; exact I1.set (s := e.1.asked T) (find_mem he).1 rfl
      have fin2 : Turned h ((h1.set e.2.1 (.rw (splice e.1.cells 0 T.cells))).set e.2.1 (.rw (splice (splice e.1.cells 0 T.cells) 14 [.bool true]))) (foot t m E) := by
        rw [set_set]
        exact (Turned.of_le hle).trans (Turned.set (S := foot t m E) (by simp only [foot, List.mem_cons, List.mem_map]; exact .inr (.inr ⟨e, (find_mem he).1, rfl⟩)) (Heap.get?_lt hs)) (fun d hd => .inl hd)
      repeat (first |((with_reducible show wpO _ _ _ _ _); first |refine o_mv rfl rfl ?_ |refine o_lenV rfl rfl ?_ |refine o_ext rfl rfl rfl ?_ |refine o_nil ?_ |(refine gG ?_; first|refine o_gdY rfl (by first|rfl|assumption|exact y1 (by omega)|exact y2 (by omega)|exact y3 (by omega)|exact y4 (by omega)|exact y5 (by omega)|exact y6 (by omega)) ?_|refine o_gdN rfl (by first|rfl|assumption|exact y1 (by omega)|exact y2 (by omega)|exact y3 (by omega)|exact y4 (by omega)|exact y5 (by omega)|exact y6 (by omega)) ?_|refine o_pass rfl ?_|refine o_passN rfl ?_) |(refine gP ?_; first|refine o_pickY rfl rfl (by first|rfl|assumption|exact y1 (by omega)|exact y3 (by omega)|exact y5 (by omega)) rfl ?_|refine o_pickN rfl rfl (by first|rfl|assumption|exact y2 (by omega)|exact y4 (by omega)|exact y6 (by omega)) rfl ?_) |(refine gC ?_; refine o_call rfl rfl (slotThere I1 he) ?_; rintro v h' ⟨rfl, rfl⟩) |(refine gA ?_; first|refine o_add rfl rfl rfl (wrapAny (by simp only [inKind]; omega)) ?_|refine o_sub rfl rfl rfl (wrapAny (by simp only [inKind]; omega)) ?_|refine o_mul rfl rfl rfl (wrapAny (by simp only [inKind]; omega)) ?_|refine o_quo rfl rfl rfl (by omega) (by omega) (wrapAny (by simp only [inKind]; omega)) ?_|refine o_rem rfl rfl rfl (by omega) (by omega) ?_|refine o_any rfl rfl ?_) |(refine gV ?_; refine o_conv rfl rfl (wrapAny (by simp only [inKind]; omega)) ?_) |(refine gL ?_; refine o_load1R rfl rfl (by assumption) rfl rfl ?_) |(refine gN ?_; refine o_loadNR rfl rfl (by assumption) rfl (by first|exact Nat.le_of_ble_eq_true rfl|(simp; done)|omega) rfl ?_) |(refine gS ?_; refine o_storeR rfl rfl rfl rfl rfl (by assumption) (by first|exact Nat.le_of_ble_eq_true rfl|(simp; done)|omega) ?_) |refine o_anyX rfl rfl rfl ?_ |refine o_anyN rfl rfl ?_) |(show wp _ _ _ _ _; first |refine w_opsS ?_ |refine w_ops ?_ |(refine gW ?_; first|refine w_condY rfl (by first|rfl|assumption|exact y1 (by omega)|exact y3 (by omega)|exact y5 (by omega)) ?_|refine w_condN rfl (by first|rfl|assumption|exact y2 (by omega)|exact y4 (by omega)|exact y6 (by omega)) ?_) |refine w_seq ?_ |refine w_opsX ?_ |refine w_block ?_ |refine w_exit ?_ |refine w_ret ?_ |refine w_skip ?_))
      exact ⟨.inr rfl, _, rfl, by rw [if_neg hN]; simp only [ha]; rfl, h.n, cl, Nat.le_refl _, by rw [if_neg hN]; simp only [ha]; exact fin, fin2⟩
  | none =>
    have hj := findE_none (i := 0) he
    repeat (first |((with_reducible show wpO _ _ _ _ _); first |refine o_mv rfl rfl ?_ |refine o_lenV rfl rfl ?_ |refine o_ext rfl rfl rfl ?_ |refine o_nil ?_ |(refine gG ?_; first|refine o_gdY rfl (by first|rfl|assumption|exact y1 (by omega)|exact y2 (by omega)|exact y3 (by omega)|exact y4 (by omega)|exact y5 (by omega)|exact y6 (by omega)) ?_|refine o_gdN rfl (by first|rfl|assumption|exact y1 (by omega)|exact y2 (by omega)|exact y3 (by omega)|exact y4 (by omega)|exact y5 (by omega)|exact y6 (by omega)) ?_|refine o_pass rfl ?_|refine o_passN rfl ?_) |(refine gP ?_; first|refine o_pickY rfl rfl (by first|rfl|assumption|exact y1 (by omega)|exact y3 (by omega)|exact y5 (by omega)) rfl ?_|refine o_pickN rfl rfl (by first|rfl|assumption|exact y2 (by omega)|exact y4 (by omega)|exact y6 (by omega)) rfl ?_) |(refine gA ?_; first|refine o_add rfl rfl rfl (wrapAny (by simp only [inKind]; omega)) ?_|refine o_sub rfl rfl rfl (wrapAny (by simp only [inKind]; omega)) ?_|refine o_mul rfl rfl rfl (wrapAny (by simp only [inKind]; omega)) ?_|refine o_quo rfl rfl rfl (by omega) (by omega) (wrapAny (by simp only [inKind]; omega)) ?_|refine o_rem rfl rfl rfl (by omega) (by omega) ?_|refine o_any rfl rfl ?_) |(refine gV ?_; refine o_conv rfl rfl (wrapAny (by simp only [inKind]; omega)) ?_) |(refine gL ?_; refine o_load1R rfl rfl (by assumption) rfl rfl ?_) |(refine gN ?_; refine o_loadNR rfl rfl (by assumption) rfl (by first|exact Nat.le_of_ble_eq_true rfl|(simp; done)|omega) rfl ?_) |(refine gS ?_; refine o_storeR rfl rfl rfl rfl rfl (by assumption) (by first|exact Nat.le_of_ble_eq_true rfl|(simp; done)|omega) ?_) |refine o_anyX rfl rfl rfl ?_ |refine o_anyN rfl rfl ?_) |(show wp _ _ _ _ _; first |refine w_opsS ?_ |refine w_ops ?_ |(refine gW ?_; first|refine w_condY rfl (by first|rfl|assumption|exact y1 (by omega)|exact y3 (by omega)|exact y5 (by omega)) ?_|refine w_condN rfl (by first|rfl|assumption|exact y2 (by omega)|exact y4 (by omega)|exact y6 (by omega)) ?_) |refine w_seq ?_ |refine w_opsX ?_ |refine w_block ?_ |refine w_exit ?_ |refine w_ret ?_ |refine w_skip ?_))
    refine o_lookN rfl rfl rfl hm hj ?_
    by_cases hf : 64 ≤ E.length
    · repeat (first |((with_reducible show wpO _ _ _ _ _); first |refine o_mv rfl rfl ?_ |refine o_lenV rfl rfl ?_ |refine o_ext rfl rfl rfl ?_ |refine o_nil ?_ |(refine gG ?_; first|refine o_gdY rfl (by first|rfl|assumption|exact y1 (by omega)|exact y2 (by omega)|exact y3 (by omega)|exact y4 (by omega)|exact y5 (by omega)|exact y6 (by omega)) ?_|refine o_gdN rfl (by first|rfl|assumption|exact y1 (by omega)|exact y2 (by omega)|exact y3 (by omega)|exact y4 (by omega)|exact y5 (by omega)|exact y6 (by omega)) ?_|refine o_pass rfl ?_|refine o_passN rfl ?_) |(refine gP ?_; first|refine o_pickY rfl rfl (by first|rfl|assumption|exact y1 (by omega)|exact y3 (by omega)|exact y5 (by omega)) rfl ?_|refine o_pickN rfl rfl (by first|rfl|assumption|exact y2 (by omega)|exact y4 (by omega)|exact y6 (by omega)) rfl ?_) |(refine gC ?_; refine o_call rfl rfl (slotFull I1 he hf) ?_; rintro v h' ⟨rfl, rfl⟩) |(refine gA ?_; first|refine o_add rfl rfl rfl (wrapAny (by simp only [inKind]; omega)) ?_|refine o_sub rfl rfl rfl (wrapAny (by simp only [inKind]; omega)) ?_|refine o_mul rfl rfl rfl (wrapAny (by simp only [inKind]; omega)) ?_|refine o_quo rfl rfl rfl (by omega) (by omega) (wrapAny (by simp only [inKind]; omega)) ?_|refine o_rem rfl rfl rfl (by omega) (by omega) ?_|refine o_any rfl rfl ?_) |(refine gV ?_; refine o_conv rfl rfl (wrapAny (by simp only [inKind]; omega)) ?_) |(refine gL ?_; refine o_load1R rfl rfl (by assumption) rfl rfl ?_) |(refine gN ?_; refine o_loadNR rfl rfl (by assumption) rfl (by first|exact Nat.le_of_ble_eq_true rfl|(simp; done)|omega) rfl ?_) |(refine gS ?_; refine o_storeR rfl rfl rfl rfl rfl (by assumption) (by first|exact Nat.le_of_ble_eq_true rfl|(simp; done)|omega) ?_) |refine o_anyX rfl rfl rfl ?_ |refine o_anyN rfl rfl ?_) |(show wp _ _ _ _ _; first |refine w_opsS ?_ |refine w_ops ?_ |(refine gW ?_; first|refine w_condY rfl (by first|rfl|assumption|exact y1 (by omega)|exact y3 (by omega)|exact y5 (by omega)) ?_|refine w_condN rfl (by first|rfl|assumption|exact y2 (by omega)|exact y4 (by omega)|exact y6 (by omega)) ?_) |refine w_seq ?_ |refine w_opsX ?_ |refine w_block ?_ |refine w_exit ?_ |refine w_ret ?_ |refine w_skip ?_))
      refine ⟨.inr rfl, _, rfl, by rw [if_neg hN]; simp only [if_pos hf], h.n, cl, Nat.le_refl _, ?_, .of_le hle⟩
      rw [if_neg hN]; simp only [if_pos hf]; exact I1
    · repeat (first |((with_reducible show wpO _ _ _ _ _); first |refine o_mv rfl rfl ?_ |refine o_lenV rfl rfl ?_ |refine o_ext rfl rfl rfl ?_ |refine o_nil ?_ |(refine gG ?_; first|refine o_gdY rfl (by first|rfl|assumption|exact y1 (by omega)|exact y2 (by omega)|exact y3 (by omega)|exact y4 (by omega)|exact y5 (by omega)|exact y6 (by omega)) ?_|refine o_gdN rfl (by first|rfl|assumption|exact y1 (by omega)|exact y2 (by omega)|exact y3 (by omega)|exact y4 (by omega)|exact y5 (by omega)|exact y6 (by omega)) ?_|refine o_pass rfl ?_|refine o_passN rfl ?_) |(refine gP ?_; first|refine o_pickY rfl rfl (by first|rfl|assumption|exact y1 (by omega)|exact y3 (by omega)|exact y5 (by omega)) rfl ?_|refine o_pickN rfl rfl (by first|rfl|assumption|exact y2 (by omega)|exact y4 (by omega)|exact y6 (by omega)) rfl ?_) |(refine gA ?_; first|refine o_add rfl rfl rfl (wrapAny (by simp only [inKind]; omega)) ?_|refine o_sub rfl rfl rfl (wrapAny (by simp only [inKind]; omega)) ?_|refine o_mul rfl rfl rfl (wrapAny (by simp only [inKind]; omega)) ?_|refine o_quo rfl rfl rfl (by omega) (by omega) (wrapAny (by simp only [inKind]; omega)) ?_|refine o_rem rfl rfl rfl (by omega) (by omega) ?_|refine o_any rfl rfl ?_) |(refine gV ?_; refine o_conv rfl rfl (wrapAny (by simp only [inKind]; omega)) ?_) |(refine gL ?_; refine o_load1R rfl rfl (by assumption) rfl rfl ?_) |(refine gN ?_; refine o_loadNR rfl rfl (by assumption) rfl (by first|exact Nat.le_of_ble_eq_true rfl|(simp; done)|omega) rfl ?_) |(refine gS ?_; refine o_storeR rfl rfl rfl rfl rfl (by assumption) (by first|exact Nat.le_of_ble_eq_true rfl|(simp; done)|omega) ?_) |refine o_anyX rfl rfl rfl ?_ |refine o_anyN rfl rfl ?_) |(show wp _ _ _ _ _; first |refine w_opsS ?_ |refine w_ops ?_ |(refine gW ?_; first|refine w_condY rfl (by first|rfl|assumption|exact y1 (by omega)|exact y3 (by omega)|exact y5 (by omega)) ?_|refine w_condN rfl (by first|rfl|assumption|exact y2 (by omega)|exact y4 (by omega)|exact y6 (by omega)) ?_) |refine w_seq ?_ |refine w_opsX ?_ |refine w_block ?_ |refine w_exit ?_ |refine w_ret ?_ |refine w_skip ?_))
      refine o_call rfl rfl (slotNew I1 he (by omega) hid) ?_
      rintro v h2 ⟨rfl, I2, hT2⟩
      have hs := I2.slot (Slt.fresh T.id E.length, h1.n, cl) (by simp)
      have hg2 := hT2.get hft hg1
      have hs' : (h2.set h1.n (.rw (splice (Slt.fresh T.id E.length).cells 0 T.cells))).get? h1.n = some (.rw (splice (Slt.fresh T.id E.length).cells 0 T.cells)) := Heap.get?_set_same hs
      have fin : TabI ((h2.set h1.n (.rw (splice (Slt.fresh T.id E.length).cells 0 T.cells))).set h1.n (.rw (splice (splice (Slt.fresh T.id E.length).cells 0 T.cells) 14 [.bool true]))) t m (cl + 1) (E ++ [((Slt.fresh T.id E.length).asked T, h1.n, cl)]) := by
        rw [set_set, ← setS_last I2]; exact I2.set (e := (Slt.fresh T.id E.length, h1.n, cl)) (s := (Slt.fresh T.id E.length).asked T) (by simp) rfl
      have fin2 : Turned h ((h2.set h1.n (.rw (splice (Slt.fresh T.id E.length).cells 0 T.cells))).set h1.n (.rw (splice (splice (Slt.fresh T.id E.length).cells 0 T.cells) 14 [.bool true]))) (foot t m E) := by
        rw [set_set]
        exact ((Turned.of_le hle).trans hT2 (fun d hd => .inl hd)).trans (Turned.set (S := [h1.n]) (by simp) (Heap.get?_lt hs)) (fun d hd => by rw [List.mem_singleton] at hd; exact .inr (hd ▸ hle.1))
      repeat (first |((with_reducible show wpO _ _ _ _ _); first |refine o_mv rfl rfl ?_ |refine o_lenV rfl rfl ?_ |refine o_ext rfl rfl rfl ?_ |refine o_nil ?_ |(refine gG ?_; first|refine o_gdY rfl (by first|rfl|assumption|exact y1 (by omega)|exact y2 (by omega)|exact y3 (by omega)|exact y4 (by omega)|exact y5 (by omega)|exact y6 (by omega)) ?_|refine o_gdN rfl (by first|rfl|assumption|exact y1 (by omega)|exact y2 (by omega)|exact y3 (by omega)|exact y4 (by omega)|exact y5 (by omega)|exact y6 (by omega)) ?_|refine o_pass rfl ?_|refine o_passN rfl ?_) |(refine gP ?_; first|refine o_pickY rfl rfl (by first|rfl|assumption|exact y1 (by omega)|exact y3 (by omega)|exact y5 (by omega)) rfl ?_|refine o_pickN rfl rfl (by first|rfl|assumption|exact y2 (by omega)|exact y4 (by omega)|exact y6 (by omega)) rfl ?_) |(refine gA ?_; first|refine o_add rfl rfl rfl (wrapAny (by simp only [inKind]; omega)) ?_|refine o_sub rfl rfl rfl (wrapAny (by simp only [inKind]; omega)) ?_|refine o_mul rfl rfl rfl (wrapAny (by simp only [inKind]; omega)) ?_|refine o_quo rfl rfl rfl (by omega) (by omega) (wrapAny (by simp only [inKind]; omega)) ?_|refine o_rem rfl rfl rfl (by omega) (by omega) ?_|refine o_any rfl rfl ?_) |(refine gV ?_; refine o_conv rfl rfl (wrapAny (by simp only [inKind]; omega)) ?_) |(refine gL ?_; refine o_load1R rfl rfl (by assumption) rfl rfl ?_) |(refine gN ?_; refine o_loadNR rfl rfl (by assumption) rfl (by first|exact Nat.le_of_ble_eq_true rfl|(simp; done)|omega) rfl ?_) |(refine gS ?_; refine o_storeR rfl rfl rfl rfl rfl (by assumption) (by first|exact Nat.le_of_ble_eq_true rfl|(simp; done)|omega) ?_) |refine o_anyX rfl rfl rfl ?_ |refine o_anyN rfl rfl ?_) |(show wp _ _ _ _ _; first |refine w_opsS ?_ |refine w_ops ?_ |(refine gW ?_; first|refine w_condY rfl (by first|rfl|assumption|exact y1 (by omega)|exact y3 (by omega)|exact y5 (by omega)) ?_|refine w_condN rfl (by first|rfl|assumption|exact y2 (by omega)|exact y4 (by omega)|exact y6 (by omega)) ?_) |refine w_seq ?_ |refine w_opsX ?_ |refine w_block ?_ |refine w_exit ?_ |refine w_ret ?_ |refine w_skip ?_))
      exact ⟨.inr rfl, _, rfl, by rw [if_neg hN]; simp only [if_neg hf], h1.n, cl + 1, hle.1, by rw [if_neg hN]; simp only [if_neg hf]; exact fin, fin2⟩

/-- what it answers, and what is known then -/
def hearN (E : List En) (T : Tk) : Int := if T.bad ≠ 0 then T.bad else match find E T.id with | some e => if e.1.her then 7 else 0 | none => if 64 ≤ E.length then 16 else 0
def Slt.heard (s : Slt) (T : Tk) : Slt := { s with oth := T, her := true }
def hearE (E : List En) (T : Tk) (a cl : Nat) : List En := if T.bad ≠ 0 then E else match find E T.id with | some e => if e.1.her then E else setS E e.2.1 (e.1.heard T) | none => if 64 ≤ E.length then E else E ++ [((Slt.fresh T.id E.length).heard T, a, cl)]
theorem hearC (T : Tk) {h : Heap} {t m cl : Nat} {E : List En} (I : TabI h t m cl E) : Cl MM F_serve_Table_Hear [at0 t, T.v] h fun v h' => v = .int .i64 (hearN E T) ∧ ∃ a cl', h.n ≤ a ∧ TabI h' t m cl' (hearE E T a cl) ∧ Turned h h' (foot t m E) := by
  refine w_call (F := M_serve_Table_Hear) (by rw [MMf]; rfl) rfl ?_
  have hl : Le h (h.push (.rw T.cells)) := Le.push
  have hg : (h.push (.rw T.cells)).get? h.n = some (.rw T.cells) := Heap.get?_push_new
  have I0 := I.le hl
  have hft : h.n ∉ foot t m E := fun hh => Nat.lt_irrefl _ (I.foot_lt _ hh)
  repeat (first |((with_reducible show wpO _ _ _ _ _); first |refine o_mv rfl rfl ?_ |refine o_lenV rfl rfl ?_ |refine o_ext rfl rfl rfl ?_ |refine o_nil ?_ |(refine gG ?_; first|refine o_gdY rfl (by first|rfl|assumption|exact y1 (by omega)|exact y2 (by omega)|exact y3 (by omega)|exact y4 (by omega)|exact y5 (by omega)|exact y6 (by omega)) ?_|refine o_gdN rfl (by first|rfl|assumption|exact y1 (by omega)|exact y2 (by omega)|exact y3 (by omega)|exact y4 (by omega)|exact y5 (by omega)|exact y6 (by omega)) ?_|refine o_pass rfl ?_|refine o_passN rfl ?_) |(refine gP ?_; first|refine o_pickY rfl rfl (by first|rfl|assumption|exact y1 (by omega)|exact y3 (by omega)|exact y5 (by omega)) rfl ?_|refine o_pickN rfl rfl (by first|rfl|assumption|exact y2 (by omega)|exact y4 (by omega)|exact y6 (by omega)) rfl ?_) |(refine gA ?_; first|refine o_add rfl rfl rfl (wrapAny (by simp only [inKind]; omega)) ?_|refine o_sub rfl rfl rfl (wrapAny (by simp only [inKind]; omega)) ?_|refine o_mul rfl rfl rfl (wrapAny (by simp only [inKind]; omega)) ?_|refine o_quo rfl rfl rfl (by omega) (by omega) (wrapAny (by simp only [inKind]; omega)) ?_|refine o_rem rfl rfl rfl (by omega) (by omega) ?_|refine o_any rfl rfl ?_) |(refine gV ?_; refine o_conv rfl rfl (wrapAny (by simp only [inKind]; omega)) ?_) |(refine gL ?_; refine o_load1R rfl rfl (by assumption) rfl rfl ?_) |(refine gN ?_; refine o_loadNR rfl rfl (by assumption) rfl (by first|exact Nat.le_of_ble_eq_true rfl|(simp; done)|omega) rfl ?_) |(refine gS ?_; refine o_storeR rfl rfl rfl rfl rfl (by assumption) (by first|exact Nat.le_of_ble_eq_true rfl|(simp; done)|omega) ?_) |refine o_anyX rfl rfl rfl ?_ |refine o_anyN rfl rfl ?_) |(show wp _ _ _ _ _; first |refine w_opsS ?_ |refine w_ops ?_ |(refine gW ?_; first|refine w_condY rfl (by first|rfl|assumption|exact y1 (by omega)|exact y3 (by omega)|exact y5 (by omega)) ?_|refine w_condN rfl (by first|rfl|assumption|exact y2 (by omega)|exact y4 (by omega)|exact y6 (by omega)) ?_) |refine w_seq ?_ |refine w_opsX ?_ |refine w_block ?_ |refine w_exit ?_ |refine w_ret ?_ |refine w_skip ?_))
  refine o_call rfl rfl (readyC T I0) ?_
  rintro v h1 ⟨rfl, hle1⟩
  have I1 := I0.le hle1
  have hg1 := hle1.get hg
  have hle := hl.trans hle1
  have ht := I1.top
  have hm := I1.map
  have hid : T.bad = 0 → 0 ≤ T.id ∧ T.id ≤ 4294967295 := by
    intro hb
    unfold Tk.bad ticketN at hb
    split at hb
    · omega
    · split at hb <;> omega
  unfold hearN hearE
  generalize T.bad = N at *
  by_cases hN : N ≠ 0
  · repeat (first |((with_reducible show wpO _ _ _ _ _); first |refine o_mv rfl rfl ?_ |refine o_lenV rfl rfl ?_ |refine o_ext rfl rfl rfl ?_ |refine o_nil ?_ |(refine gG ?_; first|refine o_gdY rfl (by first|rfl|assumption|exact y1 (by omega)|exact y2 (by omega)|exact y3 (by omega)|exact y4 (by omega)|exact y5 (by omega)|exact y6 (by omega)) ?_|refine o_gdN rfl (by first|rfl|assumption|exact y1 (by omega)|exact y2 (by omega)|exact y3 (by omega)|exact y4 (by omega)|exact y5 (by omega)|exact y6 (by omega)) ?_|refine o_pass rfl ?_|refine o_passN rfl ?_) |(refine gP ?_; first|refine o_pickY rfl rfl (by first|rfl|assumption|exact y1 (by omega)|exact y3 (by omega)|exact y5 (by omega)) rfl ?_|refine o_pickN rfl rfl (by first|rfl|assumption|exact y2 (by omega)|exact y4 (by omega)|exact y6 (by omega)) rfl ?_) |(refine gA ?_; first|refine o_add rfl rfl rfl (wrapAny (by simp only [inKind]; omega)) ?_|refine o_sub rfl rfl rfl (wrapAny (by simp only [inKind]; omega)) ?_|refine o_mul rfl rfl rfl (wrapAny (by simp only [inKind]; omega)) ?_|refine o_quo rfl rfl rfl (by omega) (by omega) (wrapAny (by simp only [inKind]; omega)) ?_|refine o_rem rfl rfl rfl (by omega) (by omega) ?_|refine o_any rfl rfl ?_) |(refine gV ?_; refine o_conv rfl rfl (wrapAny (by simp only [inKind]; omega)) ?_) |(refine gL ?_; refine o_load1R rfl rfl (by assumption) rfl rfl ?_) |(refine gN ?_; refine o_loadNR rfl rfl (by assumption) rfl (by first|exact Nat.le_of_ble_eq_true rfl|(simp; done)|omega) rfl ?_) |(refine gS ?_; refine o_storeR rfl rfl rfl rfl rfl (by assumption) (by first|exact Nat.le_of_ble_eq_true rfl|(simp; done)|omega) ?_) |refine o_anyX rfl rfl rfl ?_ |refine o_anyN rfl rfl ?_) |(show wp _ _ _ _ _; first |refine w_opsS ?_ |refine w_ops ?_ |(refine gW ?_; first|refine w_condY rfl (by first|rfl|assumption|exact y1 (by omega)|exact y3 (by omega)|exact y5 (by omega)) ?_|refine w_condN rfl (by first|rfl|assumption|exact y2 (by omega)|exact y4 (by omega)|exact y6 (by omega)) ?_) |refine w_seq ?_ |refine w_opsX ?_ |refine w_block ?_ |refine w_exit ?_ |refine w_ret ?_ |refine w_skip ?_))
    refine ⟨.inr rfl, _, rfl, by rw [if_pos hN], h.n, cl, Nat.le_refl _, by rw [if_pos hN]; exact I1, .of_le hle⟩
  have hN0 : N = 0 := by omega
  have hid := hid hN0
  cases he : find E T.id with
  | some e =>
    obtain ⟨j, hj⟩ := findE_some (i := 0) he
    have hs := I1.slot e (find_mem he).1
    repeat (first |((with_reducible show wpO _ _ _ _ _); first |refine o_mv rfl rfl ?_ |refine o_lenV rfl rfl ?_ |refine o_ext rfl rfl rfl ?_ |refine o_nil ?_ |(refine gG ?_; first|refine o_gdY rfl (by first|rfl|assumption|exact y1 (by omega)|exact y2 (by omega)|exact y3 (by omega)|exact y4 (by omega)|exact y5 (by omega)|exact y6 (by omega)) ?_|refine o_gdN rfl (by first|rfl|assumption|exact y1 (by omega)|exact y2 (by omega)|exact y3 (by omega)|exact y4 (by omega)|exact y5 (by omega)|exact y6 (by omega)) ?_|refine o_pass rfl ?_|refine o_passN rfl ?_) |(refine gP ?_; first|refine o_pickY rfl rfl (by first|rfl|assumption|exact y1 (by omega)|exact y3 (by omega)|exact y5 (by omega)) rfl ?_|refine o_pickN rfl rfl (by first|rfl|assumption|exact y2 (by omega)|exact y4 (by omega)|exact y6 (by omega)) rfl ?_) |(refine gA ?_; first|refine o_add rfl rfl rfl (wrapAny (by simp only [inKind]; omega)) ?_|refine o_sub rfl rfl rfl (wrapAny (by simp only [inKind]; omega)) ?_|refine o_mul rfl rfl rfl (wrapAny (by simp only [inKind]; omega)) ?_|refine o_quo rfl rfl rfl (by omega) (by omega) (wrapAny (by simp only [inKind]; omega)) ?_|refine o_rem rfl rfl rfl (by omega) (by omega) ?_|refine o_any rfl rfl ?_) |(refine gV ?_; refine o_conv rfl rfl (wrapAny (by simp only [inKind]; omega)) ?_) |(refine gL ?_; refine o_load1R rfl rfl (by assumption) rfl rfl ?_) |(refine gN ?_; refine o_loadNR rfl rfl (by assumption) rfl (by first|exact Nat.le_of_ble_eq_true rfl|(simp; done)|omega) rfl ?_) |(refine gS ?_; refine o_storeR rfl rfl rfl rfl rfl (by assumption) (by first|exact Nat.le_of_ble_eq_true rfl|(simp; done)|omega) ?_) |refine o_anyX rfl rfl rfl ?_ |refine o_anyN rfl rfl ?_) |(show wp _ _ _ _ _; first |refine w_opsS ?_ |refine w_ops ?_ |(refine gW ?_; first|refine w_condY rfl (by first|rfl|assumption|exact y1 (by omega)|exact y3 (by omega)|exact y5 (by omega)) ?_|refine w_condN rfl (by first|rfl|assumption|exact y2 (by omega)|exact y4 (by omega)|exact y6 (by omega)) ?_) |refine w_seq ?_ |refine w_opsX ?_ |refine w_block ?_ |refine w_exit ?_ |refine w_ret ?_ |refine w_skip ?_))
    refine o_lookY rfl rfl rfl hm hj ?_
    cases ha : e.1.her with
    | true =>
      repeat (first |((with_reducible show wpO _ _ _ _ _); first |refine o_mv rfl rfl ?_ |refine o_lenV rfl rfl ?_ |refine o_ext rfl rfl rfl ?_ |refine o_nil ?_ |(refine gG ?_; first|refine o_gdY rfl (by first|rfl|assumption|exact y1 (by omega)|exact y2 (by omega)|exact y3 (by omega)|exact y4 (by omega)|exact y5 (by omega)|exact y6 (by omega)) ?_|refine o_gdN rfl (by first|rfl|assumption|exact y1 (by omega)|exact y2 (by omega)|exact y3 (by omega)|exact y4 (by omega)|exact y5 (by omega)|exact y6 (by omega)) ?_|refine o_pass rfl ?_|refine o_passN rfl ?_) |(refine gP ?_; first|refine o_pickY rfl rfl (by first|rfl|assumption|exact y1 (by omega)|exact y3 (by omega)|exact y5 (by omega)) rfl ?_|refine o_pickN rfl rfl (by first|rfl|assumption|exact y2 (by omega)|exact y4 (by omega)|exact y6 (by omega)) rfl ?_) |(refine gA ?_; first|refine o_add rfl rfl rfl (wrapAny (by simp only [inKind]; omega)) ?_|refine o_sub rfl rfl rfl (wrapAny (by simp only [inKind]; omega)) ?_|refine o_mul rfl rfl rfl (wrapAny (by simp only [inKind]; omega)) ?_|refine o_quo rfl rfl rfl (by omega) (by omega) (wrapAny (by simp only [inKind]; omega)) ?_|refine o_rem rfl rfl rfl (by omega) (by omega) ?_|refine o_any rfl rfl ?_) |(refine gV ?_; refine o_conv rfl rfl (wrapAny (by simp only [inKind]; omega)) ?_) |(refine gL ?_; refine o_load1R rfl rfl (by assumption) rfl rfl ?_) |(refine gN ?_; refine o_loadNR rfl rfl (by assumption) rfl (by first|exact Nat.le_of_ble_eq_true rfl|(simp; done)|omega) rfl ?_) |(refine gS ?_; refine o_storeR rfl rfl rfl rfl rfl (by assumption) (by first|exact Nat.le_of_ble_eq_true rfl|(simp; done)|omega) ?_) |refine o_anyX rfl rfl rfl ?_ |refine o_anyN rfl rfl ?_) |(show wp _ _ _ _ _; first |refine w_opsS ?_ |refine w_ops ?_ |(refine gW ?_; first|refine w_condY rfl (by first|rfl|assumption|exact y1 (by omega)|exact y3 (by omega)|exact y5 (by omega)) ?_|refine w_condN rfl (by first|rfl|assumption|exact y2 (by omega)|exact y4 (by omega)|exact y6 (by omega)) ?_) |refine w_seq ?_ |refine w_opsX ?_ |refine w_block ?_ |refine w_exit ?_ |refine w_ret ?_ |refine w_skip ?_))
      refine ⟨.inr rfl, _, rfl, by rw [if_neg hN]; simp only [ha, if_true], h.n, cl, Nat.le_refl _, ?_, .of_le hle⟩
      rw [if_neg hN]; simp only [ha, if_true]; exact I1
    | false =>
      have hs' : (h1.set e.2.1 (.rw (splice e.1.cells 7 T.cells))).get? e.2.1 = some (.rw (splice e.1.cells 7 T.cells)) := Heap.get?_set_same hs
      have hgs : ∀ o, (h1.set e.2.1 o).get? h.n = some (.rw T.cells) := fun o => by
        rw [Heap.get?_set_other (Heap.get?_lt hs) (fun hh => hft (by rw [hh]; simp only [foot, List.mem_cons, List.mem_map]; exact .inr (.inr ⟨e, (find_mem he).1, rfl⟩)))]; exact hg1
      have fin : TabI ((h1.set e.2.1 (.rw (splice e.1.cells 7 T.cells))).set e.2.1 (.rw (splice (splice e.1.cells 7 T.cells) 15 [.bool true]))) t m cl (setS E e.2.1 (e.1.heard T)) := by
        rw [set_set]; exact I1.set (s := e.1.heard T) (find_mem he).1 rfl
      have fin2 : Turned h ((h1.set e.2.1 (.rw (splice e.1.cells 7 T.cells))).set e.2.1 (.rw (splice (splice e.1.cells 7 T.cells) 15 [.bool true]))) (foot t m E) := by
        rw [set_set]
        exact (Turned.of_le hle).trans (Turned.set (S := foot t m E) (by simp only [foot, List.mem_cons, List.mem_map]; exact .inr (.inr ⟨e, (find_mem he).1, rfl⟩)) (Heap.get?_lt hs)) (fun d hd => .inl hd)
      repeat (first |((with_reducible show wpO _ _ _ _ _); first |refine o_mv rfl rfl ?_ |refine o_lenV rfl rfl ?_ |refine o_ext rfl rfl rfl ?_ |refine o_nil ?_ |(refine gG ?_; first|refine o_gdY rfl (by first|rfl|assumption|exact y1 (by omega)|exact y2 (by omega)|exact y3 (by omega)|exact y4 (by omega)|exact y5 (by omega)|exact y6 (by omega)) ?_|refine o_gdN rfl (by first|rfl|assumption|exact y1 (by omega)|exact y2 (by omega)|exact y3 (by omega)|exact y4 (by omega)|exact y5 (by omega)|exact y6 (by omega)) ?_|refine o_pass rfl ?_|refine o_passN rfl ?_) |(refine gP ?_; first|refine o_pickY rfl rfl (by first|rfl|assumption|exact y1 (by omega)|exact y3 (by omega)|exact y5 (by omega)) rfl ?_|refine o_pickN rfl rfl (by first|rfl|assumption|exact y2 (by omega)|exact y4 (by omega)|exact y6 (by omega)) rfl ?_) |(refine gC ?_; refine o_call rfl rfl (slotThere I1 he) ?_; rintro v h' ⟨rfl, rfl⟩) |(refine gA ?_; first|refine o_add rfl rfl rfl (wrapAny (by simp only [inKind]; omega)) ?_|refine o_sub rfl rfl rfl (wrapAny (by simp only [inKind]; omega)) ?_|refine o_mul rfl rfl rfl (wrapAny (by simp only [inKind]; omega)) ?_|refine o_quo rfl rfl rfl (by omega) (by omega) (wrapAny (by simp only [inKind]; omega)) ?_|refine o_rem rfl rfl rfl (by omega) (by omega) ?_|refine o_any rfl rfl ?_) |(refine gV ?_; refine o_conv rfl rfl (wrapAny (by simp only [inKind]; omega)) ?_) |(refine gL ?_; refine o_load1R rfl rfl (by assumption) rfl rfl ?_) |(refine gN ?_; refine o_loadNR rfl rfl (by assumption) rfl (by first|exact Nat.le_of_ble_eq_true rfl|(simp; done)|omega) rfl ?_) |(refine gS ?_; refine o_storeR rfl rfl rfl rfl rfl (by assumption) (by first|exact Nat.le_of_ble_eq_true rfl|(simp; done)|omega) ?_) |refine o_anyX rfl rfl rfl ?_ |refine o_anyN rfl rfl ?_) |(show wp _ _ _ _ _; first |refine w_opsS ?_ |refine w_ops ?_ |(refine gW ?_; first|refine w_condY rfl (by first|rfl|assumption|exact y1 (by omega)|exact y3 (by omega)|exact y5 (by omega)) ?_|refine w_condN rfl (by first|rfl|assumption|exact y2 (by omega)|exact y4 (by omega)|exact y6 (by omega)) ?_) |refine w_seq ?_ |refine w_opsX ?_ |refine w_block ?_ |refine w_exit ?_ |refine w_ret ?_ |refine w_skip ?_))
      exact ⟨.inr rfl, _, rfl, by rw [if_neg hN]; simp only [ha]; rfl, h.n, cl, Nat.le_refl _, by rw [if_neg hN]; simp only [ha]; exact fin, fin2⟩
  | none =>
    have hj := findE_none (i := 0) he
    repeat (first |((with_reducible show wpO _ _ _ _ _); first |refine o_mv rfl rfl ?_ |refine o_lenV rfl rfl ?_ |refine o_ext rfl rfl rfl ?_ |refine o_nil ?_ |(refine gG ?_; first|refine o_gdY rfl (by first|rfl|assumption|exact y1 (by omega)|exact y2 (by omega)|exact y3 (by omega)|exact y4 (by omega)|exact y5 (by omega)|exact y6 (by omega)) ?_|refine o_gdN rfl (by first|rfl|assumption|exact y1 (by omega)|exact y2 (by omega)|exact y3 (by omega)|exact y4 (by omega)|exact y5 (by omega)|exact y6 (by omega)) ?_|refine o_pass rfl ?_|refine o_passN rfl ?_) |(refine gP ?_; first|refine o_pickY rfl rfl (by first|rfl|assumption|exact y1 (by omega)|exact y3 (by omega)|exact y5 (by omega)) rfl ?_|refine o_pickN rfl rfl (by first|rfl|assumption|exact y2 (by omega)|exact y4 (by omega)|exact y6 (by omega)) rfl ?_) |(refine gA ?_; first|refine o_add rfl rfl rfl (wrapAny (by simp only [inKind]; omega)) ?_|refine o_sub rfl rfl rfl (wrapAny (by simp only [inKind]; omega)) ?_|refine o_mul rfl rfl rfl (wrapAny (by simp only [inKind]; omega)) ?_|refine o_quo rfl rfl rfl (by omega) (by omega) (wrapAny (by simp only [inKind]; omega)) ?_|refine o_rem rfl rfl rfl (by omega) (by omega) ?_|refine o_any rfl rfl ?_) |(refine gV ?_; refine o_conv rfl rfl (wrapAny (by simp only [inKind]; omega)) ?_) |(refine gL ?_; refine o_load1R rfl rfl (by assumption) rfl rfl ?_) |(refine gN ?_; refine o_loadNR rfl rfl (by assumption) rfl (by first|exact Nat.le_of_ble_eq_true rfl|(simp; done)|omega) rfl ?_) |(refine gS ?_; refine o_storeR rfl rfl rfl rfl rfl (by assumption) (by first|exact Nat.le_of_ble_eq_true rfl|(simp; done)|omega) ?_) |refine o_anyX rfl rfl rfl ?_ |refine o_anyN rfl rfl ?_) |(show wp _ _ _ _ _; first |refine w_opsS ?_ |refine w_ops ?_ |(refine gW ?_; first|refine w_condY rfl (by first|rfl|assumption|exact y1 (by omega)|exact y3 (by omega)|exact y5 (by omega)) ?_|refine w_condN rfl (by first|rfl|assumption|exact y2 (by omega)|exact y4 (by omega)|exact y6 (by omega)) ?_) |refine w_seq ?_ |refine w_opsX ?_ |refine w_block ?_ |refine w_exit ?_ |refine w_ret ?_ |refine w_skip ?_))
    refine o_lookN rfl rfl rfl hm hj ?_
    by_cases hf : 64 ≤ E.length
    · repeat (first |((with_reducible show wpO _ _ _ _ _); first |refine o_mv rfl rfl ?_ |refine o_lenV rfl rfl ?_ |refine o_ext rfl rfl rfl ?_ |refine o_nil ?_ |(refine gG ?_; first|refine o_gdY rfl (by first|rfl|assumption|exact y1 (by omega)|exact y2 (by omega)|exact y3 (by omega)|exact y4 (by omega)|exact y5 (by omega)|exact y6 (by omega)) ?_|refine o_gdN rfl (by first|rfl|assumption|exact y1 (by omega)|exact y2 (by omega)|exact y3 (by omega)|exact y4 (by omega)|exact y5 (by omega)|exact y6 (by omega)) ?_|refine o_pass rfl ?_|refine o_passN rfl ?_) |(refine gP ?_; first|refine o_pickY rfl rfl (by first|rfl|assumption|exact y1 (by omega)|exact y3 (by omega)|exact y5 (by omega)) rfl ?_|refine o_pickN rfl rfl (by first|rfl|assumption|exact y2 (by omega)|exact y4 (by omega)|exact y6 (by omega)) rfl ?_) |(refine gC ?_; refine o_call rfl rfl (slotFull I1 he hf) ?_; rintro v h' ⟨rfl, rfl⟩) |(refine gA ?_; first|refine o_add rfl rfl rfl (wrapAny (by simp only [inKind]; omega)) ?_|refine o_sub rfl rfl rfl (wrapAny (by simp only [inKind]; omega)) ?_|refine o_mul rfl rfl rfl (wrapAny (by simp only [inKind]; omega)) ?_|refine o_quo rfl rfl rfl (by omega) (by omega) (wrapAny (by simp only [inKind]; omega)) ?_|refine o_rem rfl rfl rfl (by omega) (by omega) ?_|refine o_any rfl rfl ?_) |(refine gV ?_; refine o_conv rfl rfl (wrapAny (by simp only [inKind]; omega)) ?_) |(refine gL ?_; refine o_load1R rfl rfl (by assumption) rfl rfl ?_) |(refine gN ?_; refine o_loadNR rfl rfl (by assumption) rfl (by first|exact Nat.le_of_ble_eq_true rfl|(simp; done)|omega) rfl ?_) |(refine gS ?_; refine o_storeR rfl rfl rfl rfl rfl (by assumption) (by first|exact Nat.le_of_ble_eq_true rfl|(simp; done)|omega) ?_) |refine o_anyX rfl rfl rfl ?_ |refine o_anyN rfl rfl ?_) |(show wp _ _ _ _ _; first |refine w_opsS ?_ |refine w_ops ?_ |(refine gW ?_; first|refine w_condY rfl (by first|rfl|assumption|exact y1 (by omega)|exact y3 (by omega)|exact y5 (by omega)) ?_|refine w_condN rfl (by first|rfl|assumption|exact y2 (by omega)|exact y4 (by omega)|exact y6 (by omega)) ?_) |refine w_seq ?_ |refine w_opsX ?_ |refine w_block ?_ |refine w_exit ?_ |refine w_ret ?_ |refine w_skip ?_))
      refine ⟨.inr rfl, _, rfl, by rw [if_neg hN]; simp only [if_pos hf], h.n, cl, Nat.le_refl _, ?_, .of_le hle⟩
      rw [if_neg hN]; simp only [if_pos hf]; exact I1
    · repeat (first |((with_reducible show wpO _ _ _ _ _); first |refine o_mv rfl rfl ?_ |refine o_lenV rfl rfl ?_ |refine o_ext rfl rfl rfl ?_ |refine o_nil ?_ |(refine gG ?_; first|refine o_gdY rfl (by first|rfl|assumption|exact y1 (by omega)|exact y2 (by omega)|exact y3 (by omega)|exact y4 (by omega)|exact y5 (by omega)|exact y6 (by omega)) ?_|refine o_gdN rfl (by first|rfl|assumption|exact y1 (by omega)|exact y2 (by omega)|exact y3 (by omega)|exact y4 (by omega)|exact y5 (by omega)|exact y6 (by omega)) ?_|refine o_pass rfl ?_|refine o_passN rfl ?_) |(refine gP ?_; first|refine o_pickY rfl rfl (by first|rfl|assumption|exact y1 (by omega)|exact y3 (by omega)|exact y5 (by omega)) rfl ?_|refine o_pickN rfl rfl (by first|rfl|assumption|exact y2 (by omega)|exact y4 (by omega)|exact y6 (by omega)) rfl ?_) |(refine gA ?_; first|refine o_add rfl rfl rfl (wrapAny (by simp only [inKind]; omega)) ?_|refine o_sub rfl rfl rfl (wrapAny (by simp only [inKind]; omega)) ?_|refine o_mul rfl rfl rfl (wrapAny (by simp only [inKind]; omega)) ?_|refine o_quo rfl rfl rfl (by omega) (by omega) (wrapAny (by simp only [inKind]; omega)) ?_|refine o_rem rfl rfl rfl (by omega) (by omega) ?_|refine o_any rfl rfl ?_) |(refine gV ?_; refine o_conv rfl rfl (wrapAny (by simp only [inKind]; omega)) ?_) |(refine gL ?_; refine o_load1R rfl rfl (by assumption) rfl rfl ?_) |(refine gN ?_; refine o_loadNR rfl rfl (by assumption) rfl (by first|exact Nat.le_of_ble_eq_true rfl|(simp; done)|omega) rfl ?_) |(refine gS ?_; refine o_storeR rfl rfl rfl rfl rfl (by assumption) (by first|exact Nat.le_of_ble_eq_true rfl|(simp; done)|omega) ?_) |refine o_anyX rfl rfl rfl ?_ |refine o_anyN rfl rfl ?_) |(show wp _ _ _ _ _; first |refine w_opsS ?_ |refine w_ops ?_ |(refine gW ?_; first|refine w_condY rfl (by first|rfl|assumption|exact y1 (by omega)|exact y3 (by omega)|exact y5 (by omega)) ?_|refine w_condN rfl (by first|rfl|assumption|exact y2 (by omega)|exact y4 (by omega)|exact y6 (by omega)) ?_) |refine w_seq ?_ |refine w_opsX ?_ |refine w_block ?_ |refine w_exit ?_ |refine w_ret ?_ |refine w_skip ?_))
      refine o_call rfl rfl (slotNew I1 he (by omega) hid) ?_
      rintro v h2 ⟨rfl, I2, hT2⟩
      have hs := I2.slot (Slt.fresh T.id E.length, h1.n, cl) (by simp)
      have hg2 := hT2.get hft hg1
      have hs' : (h2.set h1.n (.rw (splice (Slt.fresh T.id E.length).cells 7 T.cells))).get? h1.n = some (.rw (splice (Slt.fresh T.id E.length).cells 7 T.cells)) := Heap.get?_set_same hs
      have fin : TabI ((h2.set h1.n (.rw (splice (Slt.fresh T.id E.length).cells 7 T.cells))).set h1.n (.rw (splice (splice (Slt.fresh T.id E.length).cells 7 T.cells) 15 [.bool true]))) t m (cl + 1) (E ++ [((Slt.fresh T.id E.length).heard T, h1.n, cl)]) := by
        rw [set_set, ← setS_last I2]; exact I2.set (e := (Slt.fresh T.id E.length, h1.n, cl)) (s := (Slt.fresh T.id E.length).heard T) (by simp) rfl
      have fin2 : Turned h ((h2.set h1.n (.rw (splice (Slt.fresh T.id E.length).cells 7 T.cells))).set h1.n (.rw (splice (splice (Slt.fresh T.id E.length).cells 7 T.cells) 15 [.bool true]))) (foot t m E) := by
        rw [set_set]
        exact ((Turned.of_le hle).trans hT2 (fun d hd => .inl hd)).trans (Turned.set (S := [h1.n]) (by simp) (Heap.get?_lt hs)) (fun d hd => by rw [List.mem_singleton] at hd; exact .inr (hd ▸ hle.1))
      repeat (first |((with_reducible show wpO _ _ _ _ _); first |refine o_mv rfl rfl ?_ |refine o_lenV rfl rfl ?_ |refine o_ext rfl rfl rfl ?_ |refine o_nil ?_ |(refine gG ?_; first|refine o_gdY rfl (by first|rfl|assumption|exact y1 (by omega)|exact y2 (by omega)|exact y3 (by omega)|exact y4 (by omega)|exact y5 (by omega)|exact y6 (by omega)) ?_|refine o_gdN rfl (by first|rfl|assumption|exact y1 (by omega)|exact y2 (by omega)|exact y3 (by omega)|exact y4 (by omega)|exact y5 (by omega)|exact y6 (by omega)) ?_|refine o_pass rfl ?_|refine o_passN rfl ?_) |(refine gP ?_; first|refine o_pickY rfl rfl (by first|rfl|assumption|exact y1 (by omega)|exact y3 (by omega)|exact y5 (by omega)) rfl ?_|refine o_pickN rfl rfl (by first|rfl|assumption|exact y2 (by omega)|exact y4 (by omega)|exact y6 (by omega)) rfl ?_) |(refine gA ?_; first|refine o_add rfl rfl rfl (wrapAny (by simp only [inKind]; omega)) ?_|refine o_sub rfl rfl rfl (wrapAny (by simp only [inKind]; omega)) ?_|refine o_mul rfl rfl rfl (wrapAny (by simp only [inKind]; omega)) ?_|refine o_quo rfl rfl rfl (by omega) (by omega) (wrapAny (by simp only [inKind]; omega)) ?_|refine o_rem rfl rfl rfl (by omega) (by omega) ?_|refine o_any rfl rfl ?_) |(refine gV ?_; refine o_conv rfl rfl (wrapAny (by simp only [inKind]; omega)) ?_) |(refine gL ?_; refine o_load1R rfl rfl (by assumption) rfl rfl ?_) |(refine gN ?_; refine o_loadNR rfl rfl (by assumption) rfl (by first|exact Nat.le_of_ble_eq_true rfl|(simp; done)|omega) rfl ?_) |(refine gS ?_; refine o_storeR rfl rfl rfl rfl rfl (by assumption) (by first|exact Nat.le_of_ble_eq_true rfl|(simp; done)|omega) ?_) |refine o_anyX rfl rfl rfl ?_ |refine o_anyN rfl rfl ?_) |(show wp _ _ _ _ _; first |refine w_opsS ?_ |refine w_ops ?_ |(refine gW ?_; first|refine w_condY rfl (by first|rfl|assumption|exact y1 (by omega)|exact y3 (by omega)|exact y5 (by omega)) ?_|refine w_condN rfl (by first|rfl|assumption|exact y2 (by omega)|exact y4 (by omega)|exact y6 (by omega)) ?_) |refine w_seq ?_ |refine w_opsX ?_ |refine w_block ?_ |refine w_exit ?_ |refine w_ret ?_ |refine w_skip ?_))
      exact ⟨.inr rfl, _, rfl, by rw [if_neg hN]; simp only [if_neg hf], h1.n, cl + 1, hle.1, by rw [if_neg hN]; simp only [if_neg hf]; exact fin, fin2⟩
end Go.Proofs.Ytfbhmogjnjejmaa

/- A table's calls: own, Grant, Refuse, Get, Len. Conditions: none. -/
namespace Go.Proofs.Ytfbhmogjnjejmaa
open Go.Cm Go.RowKit
set_option linter.unusedVariables false
set_option linter.unusedSimpArgs false
set_option maxRecDepth 100000
set_option maxHeartbeats 1000000

/-- what `own` answers -/
def ownR (E : List En) (id : Int) : Option En × Int := match find E id with
  | some e => if e.1.ask then (if e.1.st = 1 then (some e, 0) else (none, 8)) else (none, 6)
  | none => (none, 6)
def ptrOf : Option En → Value
  | some e => at0 e.2.1
  | none => .pointer none
theorem ownR_some {E : List En} {id : Int} {e : En} {n : Int} (h : ownR E id = (some e, n)) : find E id = some e ∧ e.1.ask = true ∧ e.1.st = 1 ∧ n = 0 := by
  unfold ownR at h
  cases hf : find E id with
  | none => rw [hf] at h; simp at h
  | some x =>
    rw [hf] at h
    simp only at h
    cases ha : x.1.ask <;> simp only [ha] at h
    · simp at h
    · by_cases hs : x.1.st = 1
      · simp only [hs, if_true] at h
        simp at h
        obtain ⟨rfl, rfl⟩ := h
        exact ⟨rfl, ha, hs, rfl⟩
      · simp [hs] at h
theorem ownR_none {E : List En} {id : Int} {n : Int} (h : ownR E id = (none, n)) : n = 6 ∨ n = 8 := by
  unfold ownR at h
  cases hf : find E id with
  | none => rw [hf] at h; simp at h; omega
  | some x =>
    rw [hf] at h
    simp only at h
    split at h
    · split at h <;> simp at h; omega
    · simp at h; omega
theorem ownC (id : Int) {h : Heap} {t m cl : Nat} {E : List En} (I : TabI h t m cl E) : Cl MM F_serve_Table_own [at0 t, .int .i64 id] h fun v h' => v = .tuple #[ptrOf (ownR E id).1, .int .i64 (ownR E id).2] ∧ h' = h := by
  refine w_call (F := M_serve_Table_own) (by rw [MMf]; rfl) rfl ?_
  have ht := I.top
  have hm := I.map
  unfold ownR
  cases he : find E id with
  | none =>
    have hj := findE_none (i := 0) he
    repeat (first |((with_reducible show wpO _ _ _ _ _); first |refine o_mv rfl rfl ?_ |refine o_lenV rfl rfl ?_ |refine o_ext rfl rfl rfl ?_ |refine o_nil ?_ |(refine gG ?_; first|refine o_gdY rfl (by first|rfl|assumption|exact y1 (by omega)|exact y2 (by omega)|exact y3 (by omega)|exact y4 (by omega)|exact y5 (by omega)|exact y6 (by omega)) ?_|refine o_gdN rfl (by first|rfl|assumption|exact y1 (by omega)|exact y2 (by omega)|exact y3 (by omega)|exact y4 (by omega)|exact y5 (by omega)|exact y6 (by omega)) ?_|refine o_pass rfl ?_|refine o_passN rfl ?_) |(refine gP ?_; first|refine o_pickY rfl rfl (by first|rfl|assumption|exact y1 (by omega)|exact y3 (by omega)|exact y5 (by omega)) rfl ?_|refine o_pickN rfl rfl (by first|rfl|assumption|exact y2 (by omega)|exact y4 (by omega)|exact y6 (by omega)) rfl ?_) |(refine gA ?_; first|refine o_add rfl rfl rfl (wrapAny (by simp only [inKind]; omega)) ?_|refine o_sub rfl rfl rfl (wrapAny (by simp only [inKind]; omega)) ?_|refine o_mul rfl rfl rfl (wrapAny (by simp only [inKind]; omega)) ?_|refine o_quo rfl rfl rfl (by omega) (by omega) (wrapAny (by simp only [inKind]; omega)) ?_|refine o_rem rfl rfl rfl (by omega) (by omega) ?_|refine o_any rfl rfl ?_) |(refine gV ?_; refine o_conv rfl rfl (wrapAny (by simp only [inKind]; omega)) ?_) |(refine gL ?_; refine o_load1R rfl rfl (by assumption) rfl rfl ?_) |(refine gN ?_; refine o_loadNR rfl rfl (by assumption) rfl (by first|exact Nat.le_of_ble_eq_true rfl|(simp; done)|omega) rfl ?_) |(refine gS ?_; refine o_storeR rfl rfl rfl rfl rfl (by assumption) (by first|exact Nat.le_of_ble_eq_true rfl|(simp; done)|omega) ?_) |refine o_anyX rfl rfl rfl ?_ |refine o_anyN rfl rfl ?_) |(show wp _ _ _ _ _; first |refine w_opsS ?_ |refine w_ops ?_ |(refine gW ?_; first|refine w_condY rfl (by first|rfl|assumption|exact y1 (by omega)|exact y3 (by omega)|exact y5 (by omega)) ?_|refine w_condN rfl (by first|rfl|assumption|exact y2 (by omega)|exact y4 (by omega)|exact y6 (by omega)) ?_) |refine w_seq ?_ |refine w_opsX ?_ |refine w_block ?_ |refine w_exit ?_ |refine w_ret ?_ |refine w_skip ?_))
    refine o_lookN rfl rfl rfl hm hj ?_
    repeat (first |((with_reducible show wpO _ _ _ _ _); first |refine o_mv rfl rfl ?_ |refine o_lenV rfl rfl ?_ |refine o_ext rfl rfl rfl ?_ |refine o_nil ?_ |(refine gG ?_; first|refine o_gdY rfl (by first|rfl|assumption|exact y1 (by omega)|exact y2 (by omega)|exact y3 (by omega)|exact y4 (by omega)|exact y5 (by omega)|exact y6 (by omega)) ?_|refine o_gdN rfl (by first|rfl|assumption|exact y1 (by omega)|exact y2 (by omega)|exact y3 (by omega)|exact y4 (by omega)|exact y5 (by omega)|exact y6 (by omega)) ?_|refine o_pass rfl ?_|refine o_passN rfl ?_) |(refine gP ?_; first|refine o_pickY rfl rfl (by first|rfl|assumption|exact y1 (by omega)|exact y3 (by omega)|exact y5 (by omega)) rfl ?_|refine o_pickN rfl rfl (by first|rfl|assumption|exact y2 (by omega)|exact y4 (by omega)|exact y6 (by omega)) rfl ?_) |(refine gA ?_; first|refine o_add rfl rfl rfl (wrapAny (by simp only [inKind]; omega)) ?_|refine o_sub rfl rfl rfl (wrapAny (by simp only [inKind]; omega)) ?_|refine o_mul rfl rfl rfl (wrapAny (by simp only [inKind]; omega)) ?_|refine o_quo rfl rfl rfl (by omega) (by omega) (wrapAny (by simp only [inKind]; omega)) ?_|refine o_rem rfl rfl rfl (by omega) (by omega) ?_|refine o_any rfl rfl ?_) |(refine gV ?_; refine o_conv rfl rfl (wrapAny (by simp only [inKind]; omega)) ?_) |(refine gL ?_; refine o_load1R rfl rfl (by assumption) rfl rfl ?_) |(refine gN ?_; refine o_loadNR rfl rfl (by assumption) rfl (by first|exact Nat.le_of_ble_eq_true rfl|(simp; done)|omega) rfl ?_) |(refine gS ?_; refine o_storeR rfl rfl rfl rfl rfl (by assumption) (by first|exact Nat.le_of_ble_eq_true rfl|(simp; done)|omega) ?_) |refine o_anyX rfl rfl rfl ?_ |refine o_anyN rfl rfl ?_) |(show wp _ _ _ _ _; first |refine w_opsS ?_ |refine w_ops ?_ |(refine gW ?_; first|refine w_condY rfl (by first|rfl|assumption|exact y1 (by omega)|exact y3 (by omega)|exact y5 (by omega)) ?_|refine w_condN rfl (by first|rfl|assumption|exact y2 (by omega)|exact y4 (by omega)|exact y6 (by omega)) ?_) |refine w_seq ?_ |refine w_opsX ?_ |refine w_block ?_ |refine w_exit ?_ |refine w_ret ?_ |refine w_skip ?_))
    show _ ∧ _
    exact ⟨.inr rfl, _, rfl, rfl, rfl⟩
  | some e =>
    obtain ⟨j, hj⟩ := findE_some (i := 0) he
    have hs := I.slot e (find_mem he).1
    repeat (first |((with_reducible show wpO _ _ _ _ _); first |refine o_mv rfl rfl ?_ |refine o_lenV rfl rfl ?_ |refine o_ext rfl rfl rfl ?_ |refine o_nil ?_ |(refine gG ?_; first|refine o_gdY rfl (by first|rfl|assumption|exact y1 (by omega)|exact y2 (by omega)|exact y3 (by omega)|exact y4 (by omega)|exact y5 (by omega)|exact y6 (by omega)) ?_|refine o_gdN rfl (by first|rfl|assumption|exact y1 (by omega)|exact y2 (by omega)|exact y3 (by omega)|exact y4 (by omega)|exact y5 (by omega)|exact y6 (by omega)) ?_|refine o_pass rfl ?_|refine o_passN rfl ?_) |(refine gP ?_; first|refine o_pickY rfl rfl (by first|rfl|assumption|exact y1 (by omega)|exact y3 (by omega)|exact y5 (by omega)) rfl ?_|refine o_pickN rfl rfl (by first|rfl|assumption|exact y2 (by omega)|exact y4 (by omega)|exact y6 (by omega)) rfl ?_) |(refine gA ?_; first|refine o_add rfl rfl rfl (wrapAny (by simp only [inKind]; omega)) ?_|refine o_sub rfl rfl rfl (wrapAny (by simp only [inKind]; omega)) ?_|refine o_mul rfl rfl rfl (wrapAny (by simp only [inKind]; omega)) ?_|refine o_quo rfl rfl rfl (by omega) (by omega) (wrapAny (by simp only [inKind]; omega)) ?_|refine o_rem rfl rfl rfl (by omega) (by omega) ?_|refine o_any rfl rfl ?_) |(refine gV ?_; refine o_conv rfl rfl (wrapAny (by simp only [inKind]; omega)) ?_) |(refine gL ?_; refine o_load1R rfl rfl (by assumption) rfl rfl ?_) |(refine gN ?_; refine o_loadNR rfl rfl (by assumption) rfl (by first|exact Nat.le_of_ble_eq_true rfl|(simp; done)|omega) rfl ?_) |(refine gS ?_; refine o_storeR rfl rfl rfl rfl rfl (by assumption) (by first|exact Nat.le_of_ble_eq_true rfl|(simp; done)|omega) ?_) |refine o_anyX rfl rfl rfl ?_ |refine o_anyN rfl rfl ?_) |(show wp _ _ _ _ _; first |refine w_opsS ?_ |refine w_ops ?_ |(refine gW ?_; first|refine w_condY rfl (by first|rfl|assumption|exact y1 (by omega)|exact y3 (by omega)|exact y5 (by omega)) ?_|refine w_condN rfl (by first|rfl|assumption|exact y2 (by omega)|exact y4 (by omega)|exact y6 (by omega)) ?_) |refine w_seq ?_ |refine w_opsX ?_ |refine w_block ?_ |refine w_exit ?_ |refine w_ret ?_ |refine w_skip ?_))
    refine o_lookY rfl rfl rfl hm hj ?_
    cases ha : e.1.ask with
    | false =>
      have hb : (!e.1.ask) = true := by rw [ha]; rfl
      repeat (first |((with_reducible show wpO _ _ _ _ _); first |refine o_mv rfl rfl ?_ |refine o_lenV rfl rfl ?_ |refine o_ext rfl rfl rfl ?_ |refine o_nil ?_ |(refine gG ?_; first|refine o_gdY rfl (by first|rfl|assumption|exact y1 (by omega)|exact y2 (by omega)|exact y3 (by omega)|exact y4 (by omega)|exact y5 (by omega)|exact y6 (by omega)) ?_|refine o_gdN rfl (by first|rfl|assumption|exact y1 (by omega)|exact y2 (by omega)|exact y3 (by omega)|exact y4 (by omega)|exact y5 (by omega)|exact y6 (by omega)) ?_|refine o_pass rfl ?_|refine o_passN rfl ?_) |(refine gP ?_; first|refine o_pickY rfl rfl (by first|rfl|assumption|exact y1 (by omega)|exact y3 (by omega)|exact y5 (by omega)) rfl ?_|refine o_pickN rfl rfl (by first|rfl|assumption|exact y2 (by omega)|exact y4 (by omega)|exact y6 (by omega)) rfl ?_) |(refine gA ?_; first|refine o_add rfl rfl rfl (wrapAny (by simp only [inKind]; omega)) ?_|refine o_sub rfl rfl rfl (wrapAny (by simp only [inKind]; omega)) ?_|refine o_mul rfl rfl rfl (wrapAny (by simp only [inKind]; omega)) ?_|refine o_quo rfl rfl rfl (by omega) (by omega) (wrapAny (by simp only [inKind]; omega)) ?_|refine o_rem rfl rfl rfl (by omega) (by omega) ?_|refine o_any rfl rfl ?_) |(refine gV ?_; refine o_conv rfl rfl (wrapAny (by simp only [inKind]; omega)) ?_) |(refine gL ?_; refine o_load1R rfl rfl (by assumption) rfl rfl ?_) |(refine gN ?_; refine o_loadNR rfl rfl (by assumption) rfl (by first|exact Nat.le_of_ble_eq_true rfl|(simp; done)|omega) rfl ?_) |(refine gS ?_; refine o_storeR rfl rfl rfl rfl rfl (by assumption) (by first|exact Nat.le_of_ble_eq_true rfl|(simp; done)|omega) ?_) |refine o_anyX rfl rfl rfl ?_ |refine o_anyN rfl rfl ?_) |(show wp _ _ _ _ _; first |refine w_opsS ?_ |refine w_ops ?_ |(refine gW ?_; first|refine w_condY rfl (by first|rfl|assumption|exact y1 (by omega)|exact y3 (by omega)|exact y5 (by omega)) ?_|refine w_condN rfl (by first|rfl|assumption|exact y2 (by omega)|exact y4 (by omega)|exact y6 (by omega)) ?_) |refine w_seq ?_ |refine w_opsX ?_ |refine w_block ?_ |refine w_exit ?_ |refine w_ret ?_ |refine w_skip ?_))
      show _ ∧ _
      exact ⟨.inr rfl, _, rfl, by simp only [ha]; rfl, rfl⟩
    | true =>
      have hb : (!e.1.ask) = false := by rw [ha]; rfl
      by_cases h1 : e.1.st = 1
      · repeat (first |((with_reducible show wpO _ _ _ _ _); first |refine o_mv rfl rfl ?_ |refine o_lenV rfl rfl ?_ |refine o_ext rfl rfl rfl ?_ |refine o_nil ?_ |(refine gG ?_; first|refine o_gdY rfl (by first|rfl|assumption|exact y1 (by omega)|exact y2 (by omega)|exact y3 (by omega)|exact y4 (by omega)|exact y5 (by omega)|exact y6 (by omega)) ?_|refine o_gdN rfl (by first|rfl|assumption|exact y1 (by omega)|exact y2 (by omega)|exact y3 (by omega)|exact y4 (by omega)|exact y5 (by omega)|exact y6 (by omega)) ?_|refine o_pass rfl ?_|refine o_passN rfl ?_) |(refine gP ?_; first|refine o_pickY rfl rfl (by first|rfl|assumption|exact y1 (by omega)|exact y3 (by omega)|exact y5 (by omega)) rfl ?_|refine o_pickN rfl rfl (by first|rfl|assumption|exact y2 (by omega)|exact y4 (by omega)|exact y6 (by omega)) rfl ?_) |(refine gA ?_; first|refine o_add rfl rfl rfl (wrapAny (by simp only [inKind]; omega)) ?_|refine o_sub rfl rfl rfl (wrapAny (by simp only [inKind]; omega)) ?_|refine o_mul rfl rfl rfl (wrapAny (by simp only [inKind]; omega)) ?_|refine o_quo rfl rfl rfl (by omega) (by omega) (wrapAny (by simp only [inKind]; omega)) ?_|refine o_rem rfl rfl rfl (by omega) (by omega) ?_|refine o_any rfl rfl ?_) |(refine gV ?_; refine o_conv rfl rfl (wrapAny (by simp only [inKind]; omega)) ?_) |(refine gL ?_; refine o_load1R rfl rfl (by assumption) rfl rfl ?_) |(refine gN ?_; refine o_loadNR rfl rfl (by assumption) rfl (by first|exact Nat.le_of_ble_eq_true rfl|(simp; done)|omega) rfl ?_) |(refine gS ?_; refine o_storeR rfl rfl rfl rfl rfl (by assumption) (by first|exact Nat.le_of_ble_eq_true rfl|(simp; done)|omega) ?_) |refine o_anyX rfl rfl rfl ?_ |refine o_anyN rfl rfl ?_) |(show wp _ _ _ _ _; first |refine w_opsS ?_ |refine w_ops ?_ |(refine gW ?_; first|refine w_condY rfl (by first|rfl|assumption|exact y1 (by omega)|exact y3 (by omega)|exact y5 (by omega)) ?_|refine w_condN rfl (by first|rfl|assumption|exact y2 (by omega)|exact y4 (by omega)|exact y6 (by omega)) ?_) |refine w_seq ?_ |refine w_opsX ?_ |refine w_block ?_ |refine w_exit ?_ |refine w_ret ?_ |refine w_skip ?_))
        show _ ∧ _
        exact ⟨.inr rfl, _, rfl, by simp only [ha, h1]; rfl, rfl⟩
      · repeat (first |((with_reducible show wpO _ _ _ _ _); first |refine o_mv rfl rfl ?_ |refine o_lenV rfl rfl ?_ |refine o_ext rfl rfl rfl ?_ |refine o_nil ?_ |(refine gG ?_; first|refine o_gdY rfl (by first|rfl|assumption|exact y1 (by omega)|exact y2 (by omega)|exact y3 (by omega)|exact y4 (by omega)|exact y5 (by omega)|exact y6 (by omega)) ?_|refine o_gdN rfl (by first|rfl|assumption|exact y1 (by omega)|exact y2 (by omega)|exact y3 (by omega)|exact y4 (by omega)|exact y5 (by omega)|exact y6 (by omega)) ?_|refine o_pass rfl ?_|refine o_passN rfl ?_) |(refine gP ?_; first|refine o_pickY rfl rfl (by first|rfl|assumption|exact y1 (by omega)|exact y3 (by omega)|exact y5 (by omega)) rfl ?_|refine o_pickN rfl rfl (by first|rfl|assumption|exact y2 (by omega)|exact y4 (by omega)|exact y6 (by omega)) rfl ?_) |(refine gA ?_; first|refine o_add rfl rfl rfl (wrapAny (by simp only [inKind]; omega)) ?_|refine o_sub rfl rfl rfl (wrapAny (by simp only [inKind]; omega)) ?_|refine o_mul rfl rfl rfl (wrapAny (by simp only [inKind]; omega)) ?_|refine o_quo rfl rfl rfl (by omega) (by omega) (wrapAny (by simp only [inKind]; omega)) ?_|refine o_rem rfl rfl rfl (by omega) (by omega) ?_|refine o_any rfl rfl ?_) |(refine gV ?_; refine o_conv rfl rfl (wrapAny (by simp only [inKind]; omega)) ?_) |(refine gL ?_; refine o_load1R rfl rfl (by assumption) rfl rfl ?_) |(refine gN ?_; refine o_loadNR rfl rfl (by assumption) rfl (by first|exact Nat.le_of_ble_eq_true rfl|(simp; done)|omega) rfl ?_) |(refine gS ?_; refine o_storeR rfl rfl rfl rfl rfl (by assumption) (by first|exact Nat.le_of_ble_eq_true rfl|(simp; done)|omega) ?_) |refine o_anyX rfl rfl rfl ?_ |refine o_anyN rfl rfl ?_) |(show wp _ _ _ _ _; first |refine w_opsS ?_ |refine w_ops ?_ |(refine gW ?_; first|refine w_condY rfl (by first|rfl|assumption|exact y1 (by omega)|exact y3 (by omega)|exact y5 (by omega)) ?_|refine w_condN rfl (by first|rfl|assumption|exact y2 (by omega)|exact y4 (by omega)|exact y6 (by omega)) ?_) |refine w_seq ?_ |refine w_opsX ?_ |refine w_block ?_ |refine w_exit ?_ |refine w_ret ?_ |refine w_skip ?_))
        show _ ∧ _
        exact ⟨.inr rfl, _, rfl, by simp only [ha, if_neg h1]; rfl, rfl⟩

/-- a range -/
structure Rg where
  e : Int
  f : Int
  c : Int
def Rg.v (r : Rg) : Value := .agg #[.int .i64 r.e, .int .i64 r.f, .int .i64 r.c]
def Rg.cells (r : Rg) : List Value := [.int .i64 r.e, .int .i64 r.f, .int .i64 r.c]
def Slt.granted (s : Slt) (r : Rg) : Slt := { s with st := 2, e := r.e, f := r.f, c := r.c }
def Slt.refused (s : Slt) (n : Int) : Slt := { s with st := 3, cd := n }
def grantN (E : List En) (id : Int) (r : Rg) : Int := match ownR E id with
  | (some e, _) => if r.c ≠ e.1.own.c ∨ r.f < 0 ∨ r.e < 0 then 40 else 0
  | (none, n) => n
def grantE (E : List En) (id : Int) (r : Rg) : List En := match ownR E id with
  | (some e, _) => if r.c ≠ e.1.own.c ∨ r.f < 0 ∨ r.e < 0 then E else setS E e.2.1 (e.1.granted r)
  | (none, _) => E
theorem grantC (id : Int) (r : Rg) {h : Heap} {t m cl : Nat} {E : List En} (I : TabI h t m cl E) : Cl MM F_serve_Table_Grant [at0 t, .int .i64 id, r.v] h fun v h' => v = .int .i64 (grantN E id r) ∧ TabI h' t m cl (grantE E id r) ∧ Turned h h' (foot t m E) := by
  refine w_call (F := M_serve_Table_Grant) (by rw [MMf]; rfl) rfl ?_
  have hl : Le h (h.push (.rw r.cells)) := Le.push
  have hg : (h.push (.rw r.cells)).get? h.n = some (.rw r.cells) := Heap.get?_push_new
  have I1 := I.le hl
  have hft : h.n ∉ foot t m E := fun hh => Nat.lt_irrefl _ (I.foot_lt _ hh)
  have ho := ownC id I1
  unfold grantN grantE
  generalize ho' : ownR E id = x at ho
  obtain ⟨e, n⟩ := x
  cases e with
  | none =>
    have hn := ownR_none ho'
    have hn0 : n ≠ 0 := by omega
    repeat (first |((with_reducible show wpO _ _ _ _ _); first |refine o_mv rfl rfl ?_ |refine o_lenV rfl rfl ?_ |refine o_ext rfl rfl rfl ?_ |refine o_nil ?_ |(refine gG ?_; first|refine o_gdY rfl (by first|rfl|assumption|exact y1 (by omega)|exact y2 (by omega)|exact y3 (by omega)|exact y4 (by omega)|exact y5 (by omega)|exact y6 (by omega)) ?_|refine o_gdN rfl (by first|rfl|assumption|exact y1 (by omega)|exact y2 (by omega)|exact y3 (by omega)|exact y4 (by omega)|exact y5 (by omega)|exact y6 (by omega)) ?_|refine o_pass rfl ?_|refine o_passN rfl ?_) |(refine gP ?_; first|refine o_pickY rfl rfl (by first|rfl|assumption|exact y1 (by omega)|exact y3 (by omega)|exact y5 (by omega)) rfl ?_|refine o_pickN rfl rfl (by first|rfl|assumption|exact y2 (by omega)|exact y4 (by omega)|exact y6 (by omega)) rfl ?_) |(refine gC ?_; refine o_call rfl rfl (ho) ?_; rintro v h' ⟨rfl, rfl⟩) |(refine gA ?_; first|refine o_add rfl rfl rfl (wrapAny (by simp only [inKind]; omega)) ?_|refine o_sub rfl rfl rfl (wrapAny (by simp only [inKind]; omega)) ?_|refine o_mul rfl rfl rfl (wrapAny (by simp only [inKind]; omega)) ?_|refine o_quo rfl rfl rfl (by omega) (by omega) (wrapAny (by simp only [inKind]; omega)) ?_|refine o_rem rfl rfl rfl (by omega) (by omega) ?_|refine o_any rfl rfl ?_) |(refine gV ?_; refine o_conv rfl rfl (wrapAny (by simp only [inKind]; omega)) ?_) |(refine gL ?_; refine o_load1R rfl rfl (by assumption) rfl rfl ?_) |(refine gN ?_; refine o_loadNR rfl rfl (by assumption) rfl (by first|exact Nat.le_of_ble_eq_true rfl|(simp; done)|omega) rfl ?_) |(refine gS ?_; refine o_storeR rfl rfl rfl rfl rfl (by assumption) (by first|exact Nat.le_of_ble_eq_true rfl|(simp; done)|omega) ?_) |refine o_anyX rfl rfl rfl ?_ |refine o_anyN rfl rfl ?_) |(show wp _ _ _ _ _; first |refine w_opsS ?_ |refine w_ops ?_ |(refine gW ?_; first|refine w_condY rfl (by first|rfl|assumption|exact y1 (by omega)|exact y3 (by omega)|exact y5 (by omega)) ?_|refine w_condN rfl (by first|rfl|assumption|exact y2 (by omega)|exact y4 (by omega)|exact y6 (by omega)) ?_) |refine w_seq ?_ |refine w_opsX ?_ |refine w_block ?_ |refine w_exit ?_ |refine w_ret ?_ |refine w_skip ?_))
    exact ⟨.inr rfl, _, rfl, rfl, I1, .of_le hl⟩
  | some e =>
    obtain ⟨he, ha, hst, rfl⟩ := ownR_some ho'
    have hs := I1.slot e (find_mem he).1
    by_cases hb : r.c ≠ e.1.own.c ∨ r.f < 0 ∨ r.e < 0
    · simp only [if_pos hb]
      by_cases h1 : r.c ≠ e.1.own.c
      · repeat (first |((with_reducible show wpO _ _ _ _ _); first |refine o_mv rfl rfl ?_ |refine o_lenV rfl rfl ?_ |refine o_ext rfl rfl rfl ?_ |refine o_nil ?_ |(refine gG ?_; first|refine o_gdY rfl (by first|rfl|assumption|exact y1 (by omega)|exact y2 (by omega)|exact y3 (by omega)|exact y4 (by omega)|exact y5 (by omega)|exact y6 (by omega)) ?_|refine o_gdN rfl (by first|rfl|assumption|exact y1 (by omega)|exact y2 (by omega)|exact y3 (by omega)|exact y4 (by omega)|exact y5 (by omega)|exact y6 (by omega)) ?_|refine o_pass rfl ?_|refine o_passN rfl ?_) |(refine gP ?_; first|refine o_pickY rfl rfl (by first|rfl|assumption|exact y1 (by omega)|exact y3 (by omega)|exact y5 (by omega)) rfl ?_|refine o_pickN rfl rfl (by first|rfl|assumption|exact y2 (by omega)|exact y4 (by omega)|exact y6 (by omega)) rfl ?_) |(refine gC ?_; refine o_call rfl rfl (ho) ?_; rintro v h' ⟨rfl, rfl⟩) |(refine gA ?_; first|refine o_add rfl rfl rfl (wrapAny (by simp only [inKind]; omega)) ?_|refine o_sub rfl rfl rfl (wrapAny (by simp only [inKind]; omega)) ?_|refine o_mul rfl rfl rfl (wrapAny (by simp only [inKind]; omega)) ?_|refine o_quo rfl rfl rfl (by omega) (by omega) (wrapAny (by simp only [inKind]; omega)) ?_|refine o_rem rfl rfl rfl (by omega) (by omega) ?_|refine o_any rfl rfl ?_) |(refine gV ?_; refine o_conv rfl rfl (wrapAny (by simp only [inKind]; omega)) ?_) |(refine gL ?_; refine o_load1R rfl rfl (by assumption) rfl rfl ?_) |(refine gN ?_; refine o_loadNR rfl rfl (by assumption) rfl (by first|exact Nat.le_of_ble_eq_true rfl|(simp; done)|omega) rfl ?_) |(refine gS ?_; refine o_storeR rfl rfl rfl rfl rfl (by assumption) (by first|exact Nat.le_of_ble_eq_true rfl|(simp; done)|omega) ?_) |refine o_anyX rfl rfl rfl ?_ |refine o_anyN rfl rfl ?_) |(show wp _ _ _ _ _; first |refine w_opsS ?_ |refine w_ops ?_ |(refine gW ?_; first|refine w_condY rfl (by first|rfl|assumption|exact y1 (by omega)|exact y3 (by omega)|exact y5 (by omega)) ?_|refine w_condN rfl (by first|rfl|assumption|exact y2 (by omega)|exact y4 (by omega)|exact y6 (by omega)) ?_) |refine w_seq ?_ |refine w_opsX ?_ |refine w_block ?_ |refine w_exit ?_ |refine w_ret ?_ |refine w_skip ?_))
        exact ⟨.inr rfl, _, rfl, rfl, I1, .of_le hl⟩
      · have h1 : r.c = e.1.own.c := by omega
        by_cases h2 : r.f < 0
        · repeat (first |((with_reducible show wpO _ _ _ _ _); first |refine o_mv rfl rfl ?_ |refine o_lenV rfl rfl ?_ |refine o_ext rfl rfl rfl ?_ |refine o_nil ?_ |(refine gG ?_; first|refine o_gdY rfl (by first|rfl|assumption|exact y1 (by omega)|exact y2 (by omega)|exact y3 (by omega)|exact y4 (by omega)|exact y5 (by omega)|exact y6 (by omega)) ?_|refine o_gdN rfl (by first|rfl|assumption|exact y1 (by omega)|exact y2 (by omega)|exact y3 (by omega)|exact y4 (by omega)|exact y5 (by omega)|exact y6 (by omega)) ?_|refine o_pass rfl ?_|refine o_passN rfl ?_) |(refine gP ?_; first|refine o_pickY rfl rfl (by first|rfl|assumption|exact y1 (by omega)|exact y3 (by omega)|exact y5 (by omega)) rfl ?_|refine o_pickN rfl rfl (by first|rfl|assumption|exact y2 (by omega)|exact y4 (by omega)|exact y6 (by omega)) rfl ?_) |(refine gC ?_; refine o_call rfl rfl (ho) ?_; rintro v h' ⟨rfl, rfl⟩) |(refine gA ?_; first|refine o_add rfl rfl rfl (wrapAny (by simp only [inKind]; omega)) ?_|refine o_sub rfl rfl rfl (wrapAny (by simp only [inKind]; omega)) ?_|refine o_mul rfl rfl rfl (wrapAny (by simp only [inKind]; omega)) ?_|refine o_quo rfl rfl rfl (by omega) (by omega) (wrapAny (by simp only [inKind]; omega)) ?_|refine o_rem rfl rfl rfl (by omega) (by omega) ?_|refine o_any rfl rfl ?_) |(refine gV ?_; refine o_conv rfl rfl (wrapAny (by simp only [inKind]; omega)) ?_) |(refine gL ?_; refine o_load1R rfl rfl (by assumption) rfl rfl ?_) |(refine gN ?_; refine o_loadNR rfl rfl (by assumption) rfl (by first|exact Nat.le_of_ble_eq_true rfl|(simp; done)|omega) rfl ?_) |(refine gS ?_; refine o_storeR rfl rfl rfl rfl rfl (by assumption) (by first|exact Nat.le_of_ble_eq_true rfl|(simp; done)|omega) ?_) |refine o_anyX rfl rfl rfl ?_ |refine o_anyN rfl rfl ?_) |(show wp _ _ _ _ _; first |refine w_opsS ?_ |refine w_ops ?_ |(refine gW ?_; first|refine w_condY rfl (by first|rfl|assumption|exact y1 (by omega)|exact y3 (by omega)|exact y5 (by omega)) ?_|refine w_condN rfl (by first|rfl|assumption|exact y2 (by omega)|exact y4 (by omega)|exact y6 (by omega)) ?_) |refine w_seq ?_ |refine w_opsX ?_ |refine w_block ?_ |refine w_exit ?_ |refine w_ret ?_ |refine w_skip ?_))
          exact ⟨.inr rfl, _, rfl, rfl, I1, .of_le hl⟩
        · have h3 : r.e < 0 := by omega
          repeat (first |((with_reducible show wpO _ _ _ _ _); first |refine o_mv rfl rfl ?_ |refine o_lenV rfl rfl ?_ |refine o_ext rfl rfl rfl ?_ |refine o_nil ?_ |(refine gG ?_; first|refine o_gdY rfl (by first|rfl|assumption|exact y1 (by omega)|exact y2 (by omega)|exact y3 (by omega)|exact y4 (by omega)|exact y5 (by omega)|exact y6 (by omega)) ?_|refine o_gdN rfl (by first|rfl|assumption|exact y1 (by omega)|exact y2 (by omega)|exact y3 (by omega)|exact y4 (by omega)|exact y5 (by omega)|exact y6 (by omega)) ?_|refine o_pass rfl ?_|refine o_passN rfl ?_) |(refine gP ?_; first|refine o_pickY rfl rfl (by first|rfl|assumption|exact y1 (by omega)|exact y3 (by omega)|exact y5 (by omega)) rfl ?_|refine o_pickN rfl rfl (by first|rfl|assumption|exact y2 (by omega)|exact y4 (by omega)|exact y6 (by omega)) rfl ?_) |(refine gC ?_; refine o_call rfl rfl (ho) ?_; rintro v h' ⟨rfl, rfl⟩) |(refine gA ?_; first|refine o_add rfl rfl rfl (wrapAny (by simp only [inKind]; omega)) ?_|refine o_sub rfl rfl rfl (wrapAny (by simp only [inKind]; omega)) ?_|refine o_mul rfl rfl rfl (wrapAny (by simp only [inKind]; omega)) ?_|refine o_quo rfl rfl rfl (by omega) (by omega) (wrapAny (by simp only [inKind]; omega)) ?_|refine o_rem rfl rfl rfl (by omega) (by omega) ?_|refine o_any rfl rfl ?_) |(refine gV ?_; refine o_conv rfl rfl (wrapAny (by simp only [inKind]; omega)) ?_) |(refine gL ?_; refine o_load1R rfl rfl (by assumption) rfl rfl ?_) |(refine gN ?_; refine o_loadNR rfl rfl (by assumption) rfl (by first|exact Nat.le_of_ble_eq_true rfl|(simp; done)|omega) rfl ?_) |(refine gS ?_; refine o_storeR rfl rfl rfl rfl rfl (by assumption) (by first|exact Nat.le_of_ble_eq_true rfl|(simp; done)|omega) ?_) |refine o_anyX rfl rfl rfl ?_ |refine o_anyN rfl rfl ?_) |(show wp _ _ _ _ _; first |refine w_opsS ?_ |refine w_ops ?_ |(refine gW ?_; first|refine w_condY rfl (by first|rfl|assumption|exact y1 (by omega)|exact y3 (by omega)|exact y5 (by omega)) ?_|refine w_condN rfl (by first|rfl|assumption|exact y2 (by omega)|exact y4 (by omega)|exact y6 (by omega)) ?_) |refine w_seq ?_ |refine w_opsX ?_ |refine w_block ?_ |refine w_exit ?_ |refine w_ret ?_ |refine w_skip ?_))
          exact ⟨.inr rfl, _, rfl, rfl, I1, .of_le hl⟩
    · simp only [if_neg hb]
      have h1 : r.c = e.1.own.c := by omega
      have h2 : ¬ r.f < 0 := by omega
      have h3 : ¬ r.e < 0 := by omega
      have hne : h.n ≠ e.2.1 := fun hh => hft (by rw [hh]; simp only [foot, List.mem_cons, List.mem_map]; exact .inr (.inr ⟨e, (find_mem he).1, rfl⟩))
      have hs' : ((h.push (.rw r.cells)).set e.2.1 (.rw (splice e.1.cells 17 [.int .i64 2]))).get? e.2.1 = some (.rw (splice e.1.cells 17 [.int .i64 2])) := Heap.get?_set_same hs
      have hgs : ((h.push (.rw r.cells)).set e.2.1 (.rw (splice e.1.cells 17 [.int .i64 2]))).get? h.n = some (.rw r.cells) := by rw [Heap.get?_set_other (Heap.get?_lt hs) hne]; exact hg
      have fin : TabI (((h.push (.rw r.cells)).set e.2.1 (.rw (splice e.1.cells 17 [.int .i64 2]))).set e.2.1 (.rw (splice (splice e.1.cells 17 [.int .i64 2]) 19 r.cells))) t m cl (setS E e.2.1 (e.1.granted r)) := by
        rw [set_set]; exact I1.set (s := e.1.granted r) (find_mem he).1 rfl
      have fin2 : Turned h (((h.push (.rw r.cells)).set e.2.1 (.rw (splice e.1.cells 17 [.int .i64 2]))).set e.2.1 (.rw (splice (splice e.1.cells 17 [.int .i64 2]) 19 r.cells))) (foot t m E) := by
        rw [set_set]
        exact (Turned.of_le hl).trans (Turned.set (S := foot t m E) (by simp only [foot, List.mem_cons, List.mem_map]; exact .inr (.inr ⟨e, (find_mem he).1, rfl⟩)) (Heap.get?_lt hs)) (fun d hd => .inl hd)
      repeat (first |((with_reducible show wpO _ _ _ _ _); first |refine o_mv rfl rfl ?_ |refine o_lenV rfl rfl ?_ |refine o_ext rfl rfl rfl ?_ |refine o_nil ?_ |(refine gG ?_; first|refine o_gdY rfl (by first|rfl|assumption|exact y1 (by omega)|exact y2 (by omega)|exact y3 (by omega)|exact y4 (by omega)|exact y5 (by omega)|exact y6 (by omega)) ?_|refine o_gdN rfl (by first|rfl|assumption|exact y1 (by omega)|exact y2 (by omega)|exact y3 (by omega)|exact y4 (by omega)|exact y5 (by omega)|exact y6 (by omega)) ?_|refine o_pass rfl ?_|refine o_passN rfl ?_) |(refine gP ?_; first|refine o_pickY rfl rfl (by first|rfl|assumption|exact y1 (by omega)|exact y3 (by omega)|exact y5 (by omega)) rfl ?_|refine o_pickN rfl rfl (by first|rfl|assumption|exact y2 (by omega)|exact y4 (by omega)|exact y6 (by omega)) rfl ?_) |(refine gC ?_; refine o_call rfl rfl (ho) ?_; rintro v h' ⟨rfl, rfl⟩) |(refine gA ?_; first|refine o_add rfl rfl rfl (wrapAny (by simp only [inKind]; omega)) ?_|refine o_sub rfl rfl rfl (wrapAny (by simp only [inKind]; omega)) ?_|refine o_mul rfl rfl rfl (wrapAny (by simp only [inKind]; omega)) ?_|refine o_quo rfl rfl rfl (by omega) (by omega) (wrapAny (by simp only [inKind]; omega)) ?_|refine o_rem rfl rfl rfl (by omega) (by omega) ?_|refine o_any rfl rfl ?_) |(refine gV ?_; refine o_conv rfl rfl (wrapAny (by simp only [inKind]; omega)) ?_) |(refine gL ?_; refine o_load1R rfl rfl (by assumption) rfl rfl ?_) |(refine gN ?_; refine o_loadNR rfl rfl (by assumption) rfl (by first|exact Nat.le_of_ble_eq_true rfl|(simp; done)|omega) rfl ?_) |(refine gS ?_; refine o_storeR rfl rfl rfl rfl rfl (by assumption) (by first|exact Nat.le_of_ble_eq_true rfl|(simp; done)|omega) ?_) |refine o_anyX rfl rfl rfl ?_ |refine o_anyN rfl rfl ?_) |((with_reducible show wpT _ _ _ _ _); first |refine t_mv rfl rfl ?_ |refine t_ext rfl rfl rfl ?_ |refine t_nil ?_ |(show wpT _ (⟨_, _, some _⟩ :: _) _ _ _; first|refine t_gdY rfl (by first|rfl|assumption|exact y1 (by omega)|exact y2 (by omega)|exact y3 (by omega)|exact y4 (by omega)|exact y5 (by omega)|exact y6 (by omega)) ?_|refine t_gdN rfl (by first|rfl|assumption|exact y1 (by omega)|exact y2 (by omega)|exact y3 (by omega)|exact y4 (by omega)|exact y5 (by omega)|exact y6 (by omega)) ?_|refine t_pass rfl ?_) |(show wpT _ (⟨_, .pick _ _ _, _⟩ :: _) _ _ _; first|refine t_pickY rfl rfl (by first|rfl|assumption|exact y1 (by omega)|exact y3 (by omega)|exact y5 (by omega)) rfl ?_|refine t_pickN rfl rfl (by first|rfl|assumption|exact y2 (by omega)|exact y4 (by omega)|exact y6 (by omega)) rfl ?_) |(show wpT _ (⟨_, .call _ _, _⟩ :: _) _ _ _; refine t_call rfl rfl (ho) ?_; rintro v h' ⟨rfl, rfl⟩) |(show wpT _ (⟨_, .ar _ _ _, _⟩ :: _) _ _ _; first|refine t_add rfl rfl rfl (wrapAny (by simp only [inKind]; omega)) ?_|refine t_sub rfl rfl rfl (wrapAny (by simp only [inKind]; omega)) ?_|refine t_mul rfl rfl rfl (wrapAny (by simp only [inKind]; omega)) ?_|refine t_quo rfl rfl rfl (by omega) (by omega) (wrapAny (by simp only [inKind]; omega)) ?_|refine t_rem rfl rfl rfl (by omega) (by omega) ?_|refine t_any rfl rfl ?_) |(show wpT _ (⟨_, .conv _ _, _⟩ :: _) _ _ _; refine t_conv rfl rfl (wrapAny (by simp only [inKind]; omega)) ?_) |(show wpT _ (⟨_, .load1 _, _⟩ :: _) _ _ _; refine t_load1R rfl rfl (by assumption) rfl rfl ?_) |(show wpT _ (⟨_, .loadN _ _, _⟩ :: _) _ _ _; refine t_loadNR rfl rfl (by assumption) rfl (by first|exact Nat.le_of_ble_eq_true rfl|(simp; done)|omega) rfl ?_) |refine t_any rfl rfl ?_ |refine t_anyN rfl rfl ?_) |(show wp _ _ _ _ _; first |refine w_opsS ?_ |refine w_ops ?_ |(refine gW ?_; first|refine w_condY rfl (by first|rfl|assumption|exact y1 (by omega)|exact y3 (by omega)|exact y5 (by omega)) ?_|refine w_condN rfl (by first|rfl|assumption|exact y2 (by omega)|exact y4 (by omega)|exact y6 (by omega)) ?_) |refine w_seq ?_ |refine w_opsX ?_ |refine w_block ?_ |refine w_exit ?_ |refine w_ret ?_ |refine w_skip ?_) |refine cross_nil ?_ |refine cross_cons trivial ?_ |refine cross_cons rfl ?_)
      refine t_storeR rfl rfl rfl rfl rfl hs (Nat.le_of_ble_eq_true rfl) ?_
      repeat (first |((with_reducible show wpO _ _ _ _ _); first |refine o_mv rfl rfl ?_ |refine o_lenV rfl rfl ?_ |refine o_ext rfl rfl rfl ?_ |refine o_nil ?_ |(refine gG ?_; first|refine o_gdY rfl (by first|rfl|assumption|exact y1 (by omega)|exact y2 (by omega)|exact y3 (by omega)|exact y4 (by omega)|exact y5 (by omega)|exact y6 (by omega)) ?_|refine o_gdN rfl (by first|rfl|assumption|exact y1 (by omega)|exact y2 (by omega)|exact y3 (by omega)|exact y4 (by omega)|exact y5 (by omega)|exact y6 (by omega)) ?_|refine o_pass rfl ?_|refine o_passN rfl ?_) |(refine gP ?_; first|refine o_pickY rfl rfl (by first|rfl|assumption|exact y1 (by omega)|exact y3 (by omega)|exact y5 (by omega)) rfl ?_|refine o_pickN rfl rfl (by first|rfl|assumption|exact y2 (by omega)|exact y4 (by omega)|exact y6 (by omega)) rfl ?_) |(refine gA ?_; first|refine o_add rfl rfl rfl (wrapAny (by simp only [inKind]; omega)) ?_|refine o_sub rfl rfl rfl (wrapAny (by simp only [inKind]; omega)) ?_|refine o_mul rfl rfl rfl (wrapAny (by simp only [inKind]; omega)) ?_|refine o_quo rfl rfl rfl (by omega) (by omega) (wrapAny (by simp only [inKind]; omega)) ?_|refine o_rem rfl rfl rfl (by omega) (by omega) ?_|refine o_any rfl rfl ?_) |(refine gV ?_; refine o_conv rfl rfl (wrapAny (by simp only [inKind]; omega)) ?_) |(refine gL ?_; refine o_load1R rfl rfl (by assumption) rfl rfl ?_) |(refine gN ?_; refine o_loadNR rfl rfl (by assumption) rfl (by first|exact Nat.le_of_ble_eq_true rfl|(simp; done)|omega) rfl ?_) |(refine gS ?_; refine o_storeR rfl rfl rfl rfl rfl (by assumption) (by first|exact Nat.le_of_ble_eq_true rfl|(simp; done)|omega) ?_) |refine o_anyX rfl rfl rfl ?_ |refine o_anyN rfl rfl ?_) |((with_reducible show wpT _ _ _ _ _); first |refine t_mv rfl rfl ?_ |refine t_ext rfl rfl rfl ?_ |refine t_nil ?_ |(show wpT _ (⟨_, _, some _⟩ :: _) _ _ _; first|refine t_gdY rfl (by first|rfl|assumption|exact y1 (by omega)|exact y2 (by omega)|exact y3 (by omega)|exact y4 (by omega)|exact y5 (by omega)|exact y6 (by omega)) ?_|refine t_gdN rfl (by first|rfl|assumption|exact y1 (by omega)|exact y2 (by omega)|exact y3 (by omega)|exact y4 (by omega)|exact y5 (by omega)|exact y6 (by omega)) ?_|refine t_pass rfl ?_) |(show wpT _ (⟨_, .pick _ _ _, _⟩ :: _) _ _ _; first|refine t_pickY rfl rfl (by first|rfl|assumption|exact y1 (by omega)|exact y3 (by omega)|exact y5 (by omega)) rfl ?_|refine t_pickN rfl rfl (by first|rfl|assumption|exact y2 (by omega)|exact y4 (by omega)|exact y6 (by omega)) rfl ?_) |(show wpT _ (⟨_, .ar _ _ _, _⟩ :: _) _ _ _; first|refine t_add rfl rfl rfl (wrapAny (by simp only [inKind]; omega)) ?_|refine t_sub rfl rfl rfl (wrapAny (by simp only [inKind]; omega)) ?_|refine t_mul rfl rfl rfl (wrapAny (by simp only [inKind]; omega)) ?_|refine t_quo rfl rfl rfl (by omega) (by omega) (wrapAny (by simp only [inKind]; omega)) ?_|refine t_rem rfl rfl rfl (by omega) (by omega) ?_|refine t_any rfl rfl ?_) |(show wpT _ (⟨_, .conv _ _, _⟩ :: _) _ _ _; refine t_conv rfl rfl (wrapAny (by simp only [inKind]; omega)) ?_) |(show wpT _ (⟨_, .load1 _, _⟩ :: _) _ _ _; refine t_load1R rfl rfl (by assumption) rfl rfl ?_) |(show wpT _ (⟨_, .loadN _ _, _⟩ :: _) _ _ _; refine t_loadNR rfl rfl (by assumption) rfl (by first|exact Nat.le_of_ble_eq_true rfl|(simp; done)|omega) rfl ?_) |refine t_any rfl rfl ?_ |refine t_anyN rfl rfl ?_) |(show wp _ _ _ _ _; first |refine w_opsS ?_ |refine w_ops ?_ |(refine gW ?_; first|refine w_condY rfl (by first|rfl|assumption|exact y1 (by omega)|exact y3 (by omega)|exact y5 (by omega)) ?_|refine w_condN rfl (by first|rfl|assumption|exact y2 (by omega)|exact y4 (by omega)|exact y6 (by omega)) ?_) |refine w_seq ?_ |refine w_opsX ?_ |refine w_block ?_ |refine w_exit ?_ |refine w_ret ?_ |refine w_skip ?_) |refine cross_nil ?_ |refine cross_cons trivial ?_ |refine cross_cons rfl ?_)
      refine t_storeR rfl rfl rfl rfl rfl hs' (Nat.le_of_ble_eq_true rfl) ?_
      refine t_nil ?_
      refine cross_cons (rereadLoadN rfl (rdN_obj hgs rfl (Nat.le_of_ble_eq_true rfl))) ?_
      refine cross_nil ?_
      repeat (first |((with_reducible show wpO _ _ _ _ _); first |refine o_mv rfl rfl ?_ |refine o_lenV rfl rfl ?_ |refine o_ext rfl rfl rfl ?_ |refine o_nil ?_ |(refine gG ?_; first|refine o_gdY rfl (by first|rfl|assumption|exact y1 (by omega)|exact y2 (by omega)|exact y3 (by omega)|exact y4 (by omega)|exact y5 (by omega)|exact y6 (by omega)) ?_|refine o_gdN rfl (by first|rfl|assumption|exact y1 (by omega)|exact y2 (by omega)|exact y3 (by omega)|exact y4 (by omega)|exact y5 (by omega)|exact y6 (by omega)) ?_|refine o_pass rfl ?_|refine o_passN rfl ?_) |(refine gP ?_; first|refine o_pickY rfl rfl (by first|rfl|assumption|exact y1 (by omega)|exact y3 (by omega)|exact y5 (by omega)) rfl ?_|refine o_pickN rfl rfl (by first|rfl|assumption|exact y2 (by omega)|exact y4 (by omega)|exact y6 (by omega)) rfl ?_) |(refine gA ?_; first|refine o_add rfl rfl rfl (wrapAny (by simp only [inKind]; omega)) ?_|refine o_sub rfl rfl rfl (wrapAny (by simp only [inKind]; omega)) ?_|refine o_mul rfl rfl rfl (wrapAny (by simp only [inKind]; omega)) ?_|refine o_quo rfl rfl rfl (by omega) (by omega) (wrapAny (by simp only [inKind]; omega)) ?_|refine o_rem rfl rfl rfl (by omega) (by omega) ?_|refine o_any rfl rfl ?_) |(refine gV ?_; refine o_conv rfl rfl (wrapAny (by simp only [inKind]; omega)) ?_) |(refine gL ?_; refine o_load1R rfl rfl (by assumption) rfl rfl ?_) |(refine gN ?_; refine o_loadNR rfl rfl (by assumption) rfl (by first|exact Nat.le_of_ble_eq_true rfl|(simp; done)|omega) rfl ?_) |(refine gS ?_; refine o_storeR rfl rfl rfl rfl rfl (by assumption) (by first|exact Nat.le_of_ble_eq_true rfl|(simp; done)|omega) ?_) |refine o_anyX rfl rfl rfl ?_ |refine o_anyN rfl rfl ?_) |(show wp _ _ _ _ _; first |refine w_opsS ?_ |refine w_ops ?_ |(refine gW ?_; first|refine w_condY rfl (by first|rfl|assumption|exact y1 (by omega)|exact y3 (by omega)|exact y5 (by omega)) ?_|refine w_condN rfl (by first|rfl|assumption|exact y2 (by omega)|exact y4 (by omega)|exact y6 (by omega)) ?_) |refine w_seq ?_ |refine w_opsX ?_ |refine w_block ?_ |refine w_exit ?_ |refine w_ret ?_ |refine w_skip ?_))
      exact ⟨.inr rfl, _, rfl, rfl, fin, fin2⟩

def refuseN (E : List En) (id n : Int) : Int := match ownR E id with
  | (some e, _) => if n = 0 then 1 else 0
  | (none, n) => n
def refuseE (E : List En) (id n : Int) : List En := match ownR E id with
  | (some e, _) => if n = 0 then E else setS E e.2.1 (e.1.refused n)
  | (none, _) => E
theorem refuseC (id k : Int) {h : Heap} {t m cl : Nat} {E : List En} (I : TabI h t m cl E) : Cl MM F_serve_Table_Refuse [at0 t, .int .i64 id, .int .i64 k] h fun v h' => v = .int .i64 (refuseN E id k) ∧ TabI h' t m cl (refuseE E id k) ∧ Turned h h' (foot t m E) := by
  refine w_call (F := M_serve_Table_Refuse) (by rw [MMf]; rfl) rfl ?_
  have ho := ownC id I
  unfold refuseN refuseE
  generalize ho' : ownR E id = x at ho
  obtain ⟨e, n⟩ := x
  cases e with
  | none =>
    have hn := ownR_none ho'
    have hn0 : n ≠ 0 := by omega
    repeat (first |((with_reducible show wpO _ _ _ _ _); first |refine o_mv rfl rfl ?_ |refine o_lenV rfl rfl ?_ |refine o_ext rfl rfl rfl ?_ |refine o_nil ?_ |(refine gG ?_; first|refine o_gdY rfl (by first|rfl|assumption|exact y1 (by omega)|exact y2 (by omega)|exact y3 (by omega)|exact y4 (by omega)|exact y5 (by omega)|exact y6 (by omega)) ?_|refine o_gdN rfl (by first|rfl|assumption|exact y1 (by omega)|exact y2 (by omega)|exact y3 (by omega)|exact y4 (by omega)|exact y5 (by omega)|exact y6 (by omega)) ?_|refine o_pass rfl ?_|refine o_passN rfl ?_) |(refine gP ?_; first|refine o_pickY rfl rfl (by first|rfl|assumption|exact y1 (by omega)|exact y3 (by omega)|exact y5 (by omega)) rfl ?_|refine o_pickN rfl rfl (by first|rfl|assumption|exact y2 (by omega)|exact y4 (by omega)|exact y6 (by omega)) rfl ?_) |(refine gC ?_; refine o_call rfl rfl (ho) ?_; rintro v h' ⟨rfl, rfl⟩) |(refine gA ?_; first|refine o_add rfl rfl rfl (wrapAny (by simp only [inKind]; omega)) ?_|refine o_sub rfl rfl rfl (wrapAny (by simp only [inKind]; omega)) ?_|refine o_mul rfl rfl rfl (wrapAny (by simp only [inKind]; omega)) ?_|refine o_quo rfl rfl rfl (by omega) (by omega) (wrapAny (by simp only [inKind]; omega)) ?_|refine o_rem rfl rfl rfl (by omega) (by omega) ?_|refine o_any rfl rfl ?_) |(refine gV ?_; refine o_conv rfl rfl (wrapAny (by simp only [inKind]; omega)) ?_) |(refine gL ?_; refine o_load1R rfl rfl (by assumption) rfl rfl ?_) |(refine gN ?_; refine o_loadNR rfl rfl (by assumption) rfl (by first|exact Nat.le_of_ble_eq_true rfl|(simp; done)|omega) rfl ?_) |(refine gS ?_; refine o_storeR rfl rfl rfl rfl rfl (by assumption) (by first|exact Nat.le_of_ble_eq_true rfl|(simp; done)|omega) ?_) |refine o_anyX rfl rfl rfl ?_ |refine o_anyN rfl rfl ?_) |(show wp _ _ _ _ _; first |refine w_opsS ?_ |refine w_ops ?_ |(refine gW ?_; first|refine w_condY rfl (by first|rfl|assumption|exact y1 (by omega)|exact y3 (by omega)|exact y5 (by omega)) ?_|refine w_condN rfl (by first|rfl|assumption|exact y2 (by omega)|exact y4 (by omega)|exact y6 (by omega)) ?_) |refine w_seq ?_ |refine w_opsX ?_ |refine w_block ?_ |refine w_exit ?_ |refine w_ret ?_ |refine w_skip ?_))
    exact ⟨.inr rfl, _, rfl, rfl, I, .refl⟩
  | some e =>
    obtain ⟨he, ha, hst, rfl⟩ := ownR_some ho'
    have hs := I.slot e (find_mem he).1
    by_cases hb : k = 0
    · simp only [if_pos hb]
      repeat (first |((with_reducible show wpO _ _ _ _ _); first |refine o_mv rfl rfl ?_ |refine o_lenV rfl rfl ?_ |refine o_ext rfl rfl rfl ?_ |refine o_nil ?_ |(refine gG ?_; first|refine o_gdY rfl (by first|rfl|assumption|exact y1 (by omega)|exact y2 (by omega)|exact y3 (by omega)|exact y4 (by omega)|exact y5 (by omega)|exact y6 (by omega)) ?_|refine o_gdN rfl (by first|rfl|assumption|exact y1 (by omega)|exact y2 (by omega)|exact y3 (by omega)|exact y4 (by omega)|exact y5 (by omega)|exact y6 (by omega)) ?_|refine o_pass rfl ?_|refine o_passN rfl ?_) |(refine gP ?_; first|refine o_pickY rfl rfl (by first|rfl|assumption|exact y1 (by omega)|exact y3 (by omega)|exact y5 (by omega)) rfl ?_|refine o_pickN rfl rfl (by first|rfl|assumption|exact y2 (by omega)|exact y4 (by omega)|exact y6 (by omega)) rfl ?_) |(refine gC ?_; refine o_call rfl rfl (ho) ?_; rintro v h' ⟨rfl, rfl⟩) |(refine gA ?_; first|refine o_add rfl rfl rfl (wrapAny (by simp only [inKind]; omega)) ?_|refine o_sub rfl rfl rfl (wrapAny (by simp only [inKind]; omega)) ?_|refine o_mul rfl rfl rfl (wrapAny (by simp only [inKind]; omega)) ?_|refine o_quo rfl rfl rfl (by omega) (by omega) (wrapAny (by simp only [inKind]; omega)) ?_|refine o_rem rfl rfl rfl (by omega) (by omega) ?_|refine o_any rfl rfl ?_) |(refine gV ?_; refine o_conv rfl rfl (wrapAny (by simp only [inKind]; omega)) ?_) |(refine gL ?_; refine o_load1R rfl rfl (by assumption) rfl rfl ?_) |(refine gN ?_; refine o_loadNR rfl rfl (by assumption) rfl (by first|exact Nat.le_of_ble_eq_true rfl|(simp; done)|omega) rfl ?_) |(refine gS ?_; refine o_storeR rfl rfl rfl rfl rfl (by assumption) (by first|exact Nat.le_of_ble_eq_true rfl|(simp; done)|omega) ?_) |refine o_anyX rfl rfl rfl ?_ |refine o_anyN rfl rfl ?_) |(show wp _ _ _ _ _; first |refine w_opsS ?_ |refine w_ops ?_ |(refine gW ?_; first|refine w_condY rfl (by first|rfl|assumption|exact y1 (by omega)|exact y3 (by omega)|exact y5 (by omega)) ?_|refine w_condN rfl (by first|rfl|assumption|exact y2 (by omega)|exact y4 (by omega)|exact y6 (by omega)) ?_) |refine w_seq ?_ |refine w_opsX ?_ |refine w_block ?_ |refine w_exit ?_ |refine w_ret ?_ |refine w_skip ?_))
      exact ⟨.inr rfl, _, rfl, rfl, I, .refl⟩
    · simp only [if_neg hb]
      have hs' : (h.set e.2.1 (.rw (splice e.1.cells 17 [.int .i64 3]))).get? e.2.1 = some (.rw (splice e.1.cells 17 [.int .i64 3])) := Heap.get?_set_same hs
      have fin : TabI ((h.set e.2.1 (.rw (splice e.1.cells 17 [.int .i64 3]))).set e.2.1 (.rw (splice (splice e.1.cells 17 [.int .i64 3]) 18 [.int .i64 k]))) t m cl (setS E e.2.1 (e.1.refused k)) := by
        rw [set_set]; exact I.set (s := e.1.refused k) (find_mem he).1 rfl
      have fin2 : Turned h ((h.set e.2.1 (.rw (splice e.1.cells 17 [.int .i64 3]))).set e.2.1 (.rw (splice (splice e.1.cells 17 [.int .i64 3]) 18 [.int .i64 k]))) (foot t m E) := by
        rw [set_set]
        exact Turned.set (S := foot t m E) (by simp only [foot, List.mem_cons, List.mem_map]; exact .inr (.inr ⟨e, (find_mem he).1, rfl⟩)) (Heap.get?_lt hs)
      repeat (first |((with_reducible show wpO _ _ _ _ _); first |refine o_mv rfl rfl ?_ |refine o_lenV rfl rfl ?_ |refine o_ext rfl rfl rfl ?_ |refine o_nil ?_ |(refine gG ?_; first|refine o_gdY rfl (by first|rfl|assumption|exact y1 (by omega)|exact y2 (by omega)|exact y3 (by omega)|exact y4 (by omega)|exact y5 (by omega)|exact y6 (by omega)) ?_|refine o_gdN rfl (by first|rfl|assumption|exact y1 (by omega)|exact y2 (by omega)|exact y3 (by omega)|exact y4 (by omega)|exact y5 (by omega)|exact y6 (by omega)) ?_|refine o_pass rfl ?_|refine o_passN rfl ?_) |(refine gP ?_; first|refine o_pickY rfl rfl (by first|rfl|assumption|exact y1 (by omega)|exact y3 (by omega)|exact y5 (by omega)) rfl ?_|refine o_pickN rfl rfl (by first|rfl|assumption|exact y2 (by omega)|exact y4 (by omega)|exact y6 (by omega)) rfl ?_) |(refine gC ?_; refine o_call rfl rfl (ho) ?_; rintro v h' ⟨rfl, rfl⟩) |(refine gA ?_; first|refine o_add rfl rfl rfl (wrapAny (by simp only [inKind]; omega)) ?_|refine o_sub rfl rfl rfl (wrapAny (by simp only [inKind]; omega)) ?_|refine o_mul rfl rfl rfl (wrapAny (by simp only [inKind]; omega)) ?_|refine o_quo rfl rfl rfl (by omega) (by omega) (wrapAny (by simp only [inKind]; omega)) ?_|refine o_rem rfl rfl rfl (by omega) (by omega) ?_|refine o_any rfl rfl ?_) |(refine gV ?_; refine o_conv rfl rfl (wrapAny (by simp only [inKind]; omega)) ?_) |(refine gL ?_; refine o_load1R rfl rfl (by assumption) rfl rfl ?_) |(refine gN ?_; refine o_loadNR rfl rfl (by assumption) rfl (by first|exact Nat.le_of_ble_eq_true rfl|(simp; done)|omega) rfl ?_) |(refine gS ?_; refine o_storeR rfl rfl rfl rfl rfl (by assumption) (by first|exact Nat.le_of_ble_eq_true rfl|(simp; done)|omega) ?_) |refine o_anyX rfl rfl rfl ?_ |refine o_anyN rfl rfl ?_) |(show wp _ _ _ _ _; first |refine w_opsS ?_ |refine w_ops ?_ |(refine gW ?_; first|refine w_condY rfl (by first|rfl|assumption|exact y1 (by omega)|exact y3 (by omega)|exact y5 (by omega)) ?_|refine w_condN rfl (by first|rfl|assumption|exact y2 (by omega)|exact y4 (by omega)|exact y6 (by omega)) ?_) |refine w_seq ?_ |refine w_opsX ?_ |refine w_block ?_ |refine w_exit ?_ |refine w_ret ?_ |refine w_skip ?_))
      exact ⟨.inr rfl, _, rfl, rfl, fin, fin2⟩

/-- an entry's cells -/
def Slt.entry (s : Slt) : List Value := [.int .i64 s.own.id, .int .i64 s.own.k, .int .i64 s.own.b, .int .i64 s.own.m, .int .i64 s.own.j, .int .i64 s.own.n, .int .i64 s.own.c, .int .i64 s.st, .int .i64 s.cd, .int .i64 s.e, .int .i64 s.f, .int .i64 s.c]
def zeroEntry : List Value := [.int .i64 0, .int .i64 0, .int .i64 0, .int .i64 0, .int .i64 0, .int .i64 0, .int .i64 0, .int .i64 0, .int .i64 0, .int .i64 0, .int .i64 0, .int .i64 0]
theorem getRes {f : Fr} {h : Heap} {c : Nat} {cs : List Value} {b : Value} (h4 : evO f (.tmp 4) = some (at0 c)) (hg : h.get? c = some (.rw cs)) (hl : cs.length = 12) (h5 : evO f (.tmp 5) = some b) : resL M_serve_Table_Get.res f h = some (.tuple #[.agg cs.toArray, b]) := by
  have hr : h.rdN ⟨c, 0, none⟩ 12 = some cs := by rw [rdN_obj hg rfl (by omega)]; simp [List.take_of_length_le, hl]
  simp only [evO] at h4 h5
  simp only [resL, M_serve_Table_Get, resAllL, resOneL, h4, h5, hr]
def getR (E : List En) (id : Int) : List Value × Bool := match find E id with
  | some e => if e.1.ask then (e.1.entry, true) else (zeroEntry, false)
  | none => (zeroEntry, false)
theorem getC (id : Int) {h : Heap} {t m cl : Nat} {E : List En} (I : TabI h t m cl E) : Cl MM F_serve_Table_Get [at0 t, .int .i64 id] h fun v h' => v = .tuple #[.agg (getR E id).1.toArray, .bool (getR E id).2] ∧ Le h h' ∧ TabI h' t m cl E := by
  refine w_call (F := M_serve_Table_Get) (by rw [MMf]; rfl) rfl ?_
  have hl : Le h (h.push (.rw zeroEntry)) := Le.push
  have hg : (h.push (.rw zeroEntry)).get? h.n = some (.rw zeroEntry) := Heap.get?_push_new
  have I1 := I.le hl
  have ht := I1.top
  have hm := I1.map
  have lset : ∀ o, Le h ((h.push (.rw zeroEntry)).set h.n o) := fun o => ⟨hl.1, fun c hc => by rw [Heap.get?_set_other (Heap.get?_lt hg) (by omega)]; exact hl.2 c hc⟩
  unfold getR
  cases he : find E id with
  | none =>
    have hj := findE_none (i := 0) he
    repeat (first |((with_reducible show wpO _ _ _ _ _); first |refine o_mv rfl rfl ?_ |refine o_lenV rfl rfl ?_ |refine o_ext rfl rfl rfl ?_ |refine o_nil ?_ |(refine gG ?_; first|refine o_gdY rfl (by first|rfl|assumption|exact y1 (by omega)|exact y2 (by omega)|exact y3 (by omega)|exact y4 (by omega)|exact y5 (by omega)|exact y6 (by omega)) ?_|refine o_gdN rfl (by first|rfl|assumption|exact y1 (by omega)|exact y2 (by omega)|exact y3 (by omega)|exact y4 (by omega)|exact y5 (by omega)|exact y6 (by omega)) ?_|refine o_pass rfl ?_|refine o_passN rfl ?_) |(refine gP ?_; first|refine o_pickY rfl rfl (by first|rfl|assumption|exact y1 (by omega)|exact y3 (by omega)|exact y5 (by omega)) rfl ?_|refine o_pickN rfl rfl (by first|rfl|assumption|exact y2 (by omega)|exact y4 (by omega)|exact y6 (by omega)) rfl ?_) |(refine gA ?_; first|refine o_add rfl rfl rfl (wrapAny (by simp only [inKind]; omega)) ?_|refine o_sub rfl rfl rfl (wrapAny (by simp only [inKind]; omega)) ?_|refine o_mul rfl rfl rfl (wrapAny (by simp only [inKind]; omega)) ?_|refine o_quo rfl rfl rfl (by omega) (by omega) (wrapAny (by simp only [inKind]; omega)) ?_|refine o_rem rfl rfl rfl (by omega) (by omega) ?_|refine o_any rfl rfl ?_) |(refine gV ?_; refine o_conv rfl rfl (wrapAny (by simp only [inKind]; omega)) ?_) |(refine gL ?_; refine o_load1R rfl rfl (by assumption) rfl rfl ?_) |(refine gN ?_; refine o_loadNR rfl rfl (by assumption) rfl (by first|exact Nat.le_of_ble_eq_true rfl|(simp; done)|omega) rfl ?_) |(refine gS ?_; refine o_storeR rfl rfl rfl rfl rfl (by assumption) (by first|exact Nat.le_of_ble_eq_true rfl|(simp; done)|omega) ?_) |refine o_anyX rfl rfl rfl ?_ |refine o_anyN rfl rfl ?_) |(show wp _ _ _ _ _; first |refine w_opsS ?_ |refine w_ops ?_ |(refine gW ?_; first|refine w_condY rfl (by first|rfl|assumption|exact y1 (by omega)|exact y3 (by omega)|exact y5 (by omega)) ?_|refine w_condN rfl (by first|rfl|assumption|exact y2 (by omega)|exact y4 (by omega)|exact y6 (by omega)) ?_) |refine w_seq ?_ |refine w_opsX ?_ |refine w_block ?_ |refine w_exit ?_ |refine w_ret ?_ |refine w_skip ?_))
    refine o_lookN rfl rfl rfl hm hj ?_
    repeat (first |((with_reducible show wpO _ _ _ _ _); first |refine o_mv rfl rfl ?_ |refine o_lenV rfl rfl ?_ |refine o_ext rfl rfl rfl ?_ |refine o_nil ?_ |(refine gG ?_; first|refine o_gdY rfl (by first|rfl|assumption|exact y1 (by omega)|exact y2 (by omega)|exact y3 (by omega)|exact y4 (by omega)|exact y5 (by omega)|exact y6 (by omega)) ?_|refine o_gdN rfl (by first|rfl|assumption|exact y1 (by omega)|exact y2 (by omega)|exact y3 (by omega)|exact y4 (by omega)|exact y5 (by omega)|exact y6 (by omega)) ?_|refine o_pass rfl ?_|refine o_passN rfl ?_) |(refine gP ?_; first|refine o_pickY rfl rfl (by first|rfl|assumption|exact y1 (by omega)|exact y3 (by omega)|exact y5 (by omega)) rfl ?_|refine o_pickN rfl rfl (by first|rfl|assumption|exact y2 (by omega)|exact y4 (by omega)|exact y6 (by omega)) rfl ?_) |(refine gA ?_; first|refine o_add rfl rfl rfl (wrapAny (by simp only [inKind]; omega)) ?_|refine o_sub rfl rfl rfl (wrapAny (by simp only [inKind]; omega)) ?_|refine o_mul rfl rfl rfl (wrapAny (by simp only [inKind]; omega)) ?_|refine o_quo rfl rfl rfl (by omega) (by omega) (wrapAny (by simp only [inKind]; omega)) ?_|refine o_rem rfl rfl rfl (by omega) (by omega) ?_|refine o_any rfl rfl ?_) |(refine gV ?_; refine o_conv rfl rfl (wrapAny (by simp only [inKind]; omega)) ?_) |(refine gL ?_; refine o_load1R rfl rfl (by assumption) rfl rfl ?_) |(refine gN ?_; refine o_loadNR rfl rfl (by assumption) rfl (by first|exact Nat.le_of_ble_eq_true rfl|(simp; done)|omega) rfl ?_) |(refine gS ?_; refine o_storeR rfl rfl rfl rfl rfl (by assumption) (by first|exact Nat.le_of_ble_eq_true rfl|(simp; done)|omega) ?_) |refine o_anyX rfl rfl rfl ?_ |refine o_anyN rfl rfl ?_) |(show wp _ _ _ _ _; first |refine w_opsS ?_ |refine w_ops ?_ |(refine gW ?_; first|refine w_condY rfl (by first|rfl|assumption|exact y1 (by omega)|exact y3 (by omega)|exact y5 (by omega)) ?_|refine w_condN rfl (by first|rfl|assumption|exact y2 (by omega)|exact y4 (by omega)|exact y6 (by omega)) ?_) |refine w_seq ?_ |refine w_opsX ?_ |refine w_block ?_ |refine w_exit ?_ |refine w_ret ?_ |refine w_skip ?_))
    exact ⟨.inr rfl, _, getRes rfl (Heap.get?_set_same hg) rfl rfl, rfl, lset _, I.le (lset _)⟩
  | some e =>
    obtain ⟨j, hj⟩ := findE_some (i := 0) he
    have hs := I1.slot e (find_mem he).1
    repeat (first |((with_reducible show wpO _ _ _ _ _); first |refine o_mv rfl rfl ?_ |refine o_lenV rfl rfl ?_ |refine o_ext rfl rfl rfl ?_ |refine o_nil ?_ |(refine gG ?_; first|refine o_gdY rfl (by first|rfl|assumption|exact y1 (by omega)|exact y2 (by omega)|exact y3 (by omega)|exact y4 (by omega)|exact y5 (by omega)|exact y6 (by omega)) ?_|refine o_gdN rfl (by first|rfl|assumption|exact y1 (by omega)|exact y2 (by omega)|exact y3 (by omega)|exact y4 (by omega)|exact y5 (by omega)|exact y6 (by omega)) ?_|refine o_pass rfl ?_|refine o_passN rfl ?_) |(refine gP ?_; first|refine o_pickY rfl rfl (by first|rfl|assumption|exact y1 (by omega)|exact y3 (by omega)|exact y5 (by omega)) rfl ?_|refine o_pickN rfl rfl (by first|rfl|assumption|exact y2 (by omega)|exact y4 (by omega)|exact y6 (by omega)) rfl ?_) |(refine gA ?_; first|refine o_add rfl rfl rfl (wrapAny (by simp only [inKind]; omega)) ?_|refine o_sub rfl rfl rfl (wrapAny (by simp only [inKind]; omega)) ?_|refine o_mul rfl rfl rfl (wrapAny (by simp only [inKind]; omega)) ?_|refine o_quo rfl rfl rfl (by omega) (by omega) (wrapAny (by simp only [inKind]; omega)) ?_|refine o_rem rfl rfl rfl (by omega) (by omega) ?_|refine o_any rfl rfl ?_) |(refine gV ?_; refine o_conv rfl rfl (wrapAny (by simp only [inKind]; omega)) ?_) |(refine gL ?_; refine o_load1R rfl rfl (by assumption) rfl rfl ?_) |(refine gN ?_; refine o_loadNR rfl rfl (by assumption) rfl (by first|exact Nat.le_of_ble_eq_true rfl|(simp; done)|omega) rfl ?_) |(refine gS ?_; refine o_storeR rfl rfl rfl rfl rfl (by assumption) (by first|exact Nat.le_of_ble_eq_true rfl|(simp; done)|omega) ?_) |refine o_anyX rfl rfl rfl ?_ |refine o_anyN rfl rfl ?_) |(show wp _ _ _ _ _; first |refine w_opsS ?_ |refine w_ops ?_ |(refine gW ?_; first|refine w_condY rfl (by first|rfl|assumption|exact y1 (by omega)|exact y3 (by omega)|exact y5 (by omega)) ?_|refine w_condN rfl (by first|rfl|assumption|exact y2 (by omega)|exact y4 (by omega)|exact y6 (by omega)) ?_) |refine w_seq ?_ |refine w_opsX ?_ |refine w_block ?_ |refine w_exit ?_ |refine w_ret ?_ |refine w_skip ?_))
    refine o_lookY rfl rfl rfl hm hj ?_
    cases ha : e.1.ask with
    | false =>
      have hb : (!e.1.ask) = true := by rw [ha]; rfl
      repeat (first |((with_reducible show wpO _ _ _ _ _); first |refine o_mv rfl rfl ?_ |refine o_lenV rfl rfl ?_ |refine o_ext rfl rfl rfl ?_ |refine o_nil ?_ |(refine gG ?_; first|refine o_gdY rfl (by first|rfl|assumption|exact y1 (by omega)|exact y2 (by omega)|exact y3 (by omega)|exact y4 (by omega)|exact y5 (by omega)|exact y6 (by omega)) ?_|refine o_gdN rfl (by first|rfl|assumption|exact y1 (by omega)|exact y2 (by omega)|exact y3 (by omega)|exact y4 (by omega)|exact y5 (by omega)|exact y6 (by omega)) ?_|refine o_pass rfl ?_|refine o_passN rfl ?_) |(refine gP ?_; first|refine o_pickY rfl rfl (by first|rfl|assumption|exact y1 (by omega)|exact y3 (by omega)|exact y5 (by omega)) rfl ?_|refine o_pickN rfl rfl (by first|rfl|assumption|exact y2 (by omega)|exact y4 (by omega)|exact y6 (by omega)) rfl ?_) |(refine gA ?_; first|refine o_add rfl rfl rfl (wrapAny (by simp only [inKind]; omega)) ?_|refine o_sub rfl rfl rfl (wrapAny (by simp only [inKind]; omega)) ?_|refine o_mul rfl rfl rfl (wrapAny (by simp only [inKind]; omega)) ?_|refine o_quo rfl rfl rfl (by omega) (by omega) (wrapAny (by simp only [inKind]; omega)) ?_|refine o_rem rfl rfl rfl (by omega) (by omega) ?_|refine o_any rfl rfl ?_) |(refine gV ?_; refine o_conv rfl rfl (wrapAny (by simp only [inKind]; omega)) ?_) |(refine gL ?_; refine o_load1R rfl rfl (by assumption) rfl rfl ?_) |(refine gN ?_; refine o_loadNR rfl rfl (by assumption) rfl (by first|exact Nat.le_of_ble_eq_true rfl|(simp; done)|omega) rfl ?_) |(refine gS ?_; refine o_storeR rfl rfl rfl rfl rfl (by assumption) (by first|exact Nat.le_of_ble_eq_true rfl|(simp; done)|omega) ?_) |refine o_anyX rfl rfl rfl ?_ |refine o_anyN rfl rfl ?_) |(show wp _ _ _ _ _; first |refine w_opsS ?_ |refine w_ops ?_ |(refine gW ?_; first|refine w_condY rfl (by first|rfl|assumption|exact y1 (by omega)|exact y3 (by omega)|exact y5 (by omega)) ?_|refine w_condN rfl (by first|rfl|assumption|exact y2 (by omega)|exact y4 (by omega)|exact y6 (by omega)) ?_) |refine w_seq ?_ |refine w_opsX ?_ |refine w_block ?_ |refine w_exit ?_ |refine w_ret ?_ |refine w_skip ?_))
      exact ⟨.inr rfl, _, getRes rfl (Heap.get?_set_same hg) rfl rfl, by simp only [ha]; rfl, lset _, I.le (lset _)⟩
    | true =>
      have hb : (!e.1.ask) = false := by rw [ha]; rfl
      repeat (first |((with_reducible show wpO _ _ _ _ _); first |refine o_mv rfl rfl ?_ |refine o_lenV rfl rfl ?_ |refine o_ext rfl rfl rfl ?_ |refine o_nil ?_ |(refine gG ?_; first|refine o_gdY rfl (by first|rfl|assumption|exact y1 (by omega)|exact y2 (by omega)|exact y3 (by omega)|exact y4 (by omega)|exact y5 (by omega)|exact y6 (by omega)) ?_|refine o_gdN rfl (by first|rfl|assumption|exact y1 (by omega)|exact y2 (by omega)|exact y3 (by omega)|exact y4 (by omega)|exact y5 (by omega)|exact y6 (by omega)) ?_|refine o_pass rfl ?_|refine o_passN rfl ?_) |(refine gP ?_; first|refine o_pickY rfl rfl (by first|rfl|assumption|exact y1 (by omega)|exact y3 (by omega)|exact y5 (by omega)) rfl ?_|refine o_pickN rfl rfl (by first|rfl|assumption|exact y2 (by omega)|exact y4 (by omega)|exact y6 (by omega)) rfl ?_) |(refine gA ?_; first|refine o_add rfl rfl rfl (wrapAny (by simp only [inKind]; omega)) ?_|refine o_sub rfl rfl rfl (wrapAny (by simp only [inKind]; omega)) ?_|refine o_mul rfl rfl rfl (wrapAny (by simp only [inKind]; omega)) ?_|refine o_quo rfl rfl rfl (by omega) (by omega) (wrapAny (by simp only [inKind]; omega)) ?_|refine o_rem rfl rfl rfl (by omega) (by omega) ?_|refine o_any rfl rfl ?_) |(refine gV ?_; refine o_conv rfl rfl (wrapAny (by simp only [inKind]; omega)) ?_) |(refine gL ?_; refine o_load1R rfl rfl (by assumption) rfl rfl ?_) |(refine gN ?_; refine o_loadNR rfl rfl (by assumption) rfl (by first|exact Nat.le_of_ble_eq_true rfl|(simp; done)|omega) rfl ?_) |(refine gS ?_; refine o_storeR rfl rfl rfl rfl rfl (by assumption) (by first|exact Nat.le_of_ble_eq_true rfl|(simp; done)|omega) ?_) |refine o_anyX rfl rfl rfl ?_ |refine o_anyN rfl rfl ?_) |(show wp _ _ _ _ _; first |refine w_opsS ?_ |refine w_ops ?_ |(refine gW ?_; first|refine w_condY rfl (by first|rfl|assumption|exact y1 (by omega)|exact y3 (by omega)|exact y5 (by omega)) ?_|refine w_condN rfl (by first|rfl|assumption|exact y2 (by omega)|exact y4 (by omega)|exact y6 (by omega)) ?_) |refine w_seq ?_ |refine w_opsX ?_ |refine w_block ?_ |refine w_exit ?_ |refine w_ret ?_ |refine w_skip ?_))
      exact ⟨.inr rfl, _, getRes rfl (Heap.get?_set_same hg) rfl rfl, by simp only [ha]; rfl, lset _, I.le (lset _)⟩
end Go.Proofs.Ytfbhmogjnjejmaa

/- What is settled stays settled: the plain law. Conditions: none. -/
namespace Go.Proofs.Ytfbhmogjnjejmaa
open Go.Cm Go.RowKit
set_option linter.unusedVariables false
set_option linter.unusedSimpArgs false
set_option maxRecDepth 100000
set_option maxHeartbeats 1000000

/-- a ticket that is settled -/
def Settled (E : List En) (id : Int) (en : List Value) : Prop := ∃ e, find E id = some e ∧ e.1.ask = true ∧ e.1.st ≠ 1 ∧ e.1.entry = en
theorem Settled.get {E : List En} {id : Int} {en : List Value} (S : Settled E id en) : getR E id = (en, true) := by
  obtain ⟨e, h1, h2, h3, h4⟩ := S
  unfold getR; rw [h1]; simp only [h2, if_true, h4]
theorem Settled.own {E : List En} {id : Int} {en : List Value} (S : Settled E id en) : ownR E id = (none, 8) := by
  obtain ⟨e, h1, h2, h3, h4⟩ := S
  unfold ownR; rw [h1]; simp only [h2, if_true, if_neg h3]
theorem Settled.grant {E : List En} {id : Int} {en : List Value} (S : Settled E id en) (r : Rg) : grantN E id r = 8 ∧ grantE E id r = E := by
  unfold grantN grantE; rw [S.own]; exact ⟨rfl, rfl⟩
theorem Settled.refuse {E : List En} {id : Int} {en : List Value} (S : Settled E id en) (n : Int) : refuseN E id n = 8 ∧ refuseE E id n = E := by
  unfold refuseN refuseE; rw [S.own]; exact ⟨rfl, rfl⟩
theorem find_app {E F : List En} {id : Int} {e : En} (h : find E id = some e) : find (E ++ F) id = some e := by
  unfold find at *; rw [List.find?_append, h]; rfl
theorem find_setS {E : List En} (hn : (E.map (·.2.1)).Nodup) {x : En} (hx : x ∈ E) {s : Slt} (hs : s.id = x.1.id) (id : Int) : find (setS E x.2.1 s) id = (find E id).map fun e => if e.2.1 = x.2.1 then (s, e.2) else e := by
  unfold find setS
  rw [List.find?_map]
  congr 1
  suffices H : ∀ F : List En, (∀ e ∈ F, e ∈ E) → List.find? ((fun e : En => e.1.id == id) ∘ fun e => if e.2.1 = x.2.1 then (s, e.2) else e) F = List.find? (fun e => e.1.id == id) F from H E fun _ h => h
  intro F hF
  induction F with
  | nil => rfl
  | cons y F ih =>
    have hy : ((fun e : En => e.1.id == id) ∘ fun e => if e.2.1 = x.2.1 then (s, e.2) else e) y = (y.1.id == id) := by
      simp only [Function.comp]
      split
      · rename_i h; rw [inj_ad hn (hF y (by simp)) hx h]; show (s.id == id) = _; rw [hs]
      · rfl
    rw [List.find?_cons, List.find?_cons, hy, ih fun e he => hF e (by simp [he])]
theorem Settled.set {E : List En} (hn : (E.map (·.2.1)).Nodup) {id : Int} {en : List Value} (S : Settled E id en) {x : En} (hx : x ∈ E) {s : Slt} (hs : s.id = x.1.id) (hk : x.1.ask = true → s.ask = true ∧ s.st = x.1.st ∧ s.entry = x.1.entry) (hw : x.1.ask = false → x.1.id ≠ id) : Settled (setS E x.2.1 s) id en := by
  obtain ⟨e, h1, h2, h3, h4⟩ := S
  have hf := find_setS hn hx hs id
  rw [h1] at hf
  by_cases he : e.2.1 = x.2.1
  · have := inj_ad hn (find_mem h1).1 hx he
    subst this
    obtain ⟨k1, k2, k3⟩ := hk h2
    refine ⟨(s, e.2), by rw [hf]; simp, k1, by show s.st ≠ 1; rw [k2]; exact h3, by show s.entry = en; rw [k3]; exact h4⟩
  · exact ⟨e, by rw [hf]; simp [he], h2, h3, h4⟩
theorem Settled.ask {E : List En} (hn : (E.map (·.2.1)).Nodup) {id : Int} {en : List Value} (S : Settled E id en) (T : Tk) (a cl : Nat) : Settled (askE E T a cl) id en := by
  unfold askE
  split
  · exact S
  · split
    · rename_i e he
      split
      · exact S
      · rename_i ha
        refine S.set hn (find_mem he).1 rfl (fun h => absurd h ha) (fun h e' => ?_)
        obtain ⟨e2, h1, h2, _⟩ := S
        have : T.id = id := by rw [← (find_mem he).2]; exact e'
        rw [this, h1] at he
        cases he
        exact ha h2
    · split
      · exact S
      · obtain ⟨e, h1, h2⟩ := S
        exact ⟨e, find_app h1, h2⟩
theorem Settled.hear {E : List En} (hn : (E.map (·.2.1)).Nodup) {id : Int} {en : List Value} (S : Settled E id en) (T : Tk) (a cl : Nat) : Settled (hearE E T a cl) id en := by
  unfold hearE
  split
  · exact S
  · split
    · rename_i e he
      split
      · exact S
      · rename_i ha
        obtain ⟨e2, h1, h2, h3, h4⟩ := S
        have hf := find_setS hn (find_mem he).1 (s := e.1.heard T) rfl id
        rw [h1] at hf
        by_cases hx : e2.2.1 = e.2.1
        · have := inj_ad hn (find_mem h1).1 (find_mem he).1 hx
          subst this
          exact ⟨(e2.1.heard T, e2.2), by rw [hf]; simp, h2, h3, h4⟩
        · exact ⟨e2, by rw [hf]; simp [hx], h2, h3, h4⟩
    · split
      · exact S
      · obtain ⟨e, h1, h2⟩ := S
        exact ⟨e, find_app h1, h2⟩
theorem foot_set (t m : Nat) (E : List En) (a : Nat) (s : Slt) : foot t m (setS E a s) = foot t m E := by unfold foot; rw [setS_ads]
theorem foot_ask {t m : Nat} {E : List En} {T : Tk} {a cl d : Nat} (h : d ∈ foot t m (askE E T a cl)) : d ∈ foot t m E ∨ d = a := by
  unfold askE at h
  split at h
  · exact .inl h
  · split at h
    · split at h
      · exact .inl h
      · rw [foot_set] at h; exact .inl h
    · split at h
      · exact .inl h
      · simp only [foot, List.map_append, List.map_cons, List.map_nil, List.mem_cons, List.mem_append, List.not_mem_nil, or_false] at h ⊢
        rcases h with h | h | h | h
        · exact .inl (.inl h)
        · exact .inl (.inr (.inl h))
        · exact .inl (.inr (.inr h))
        · exact .inr h
theorem foot_hear {t m : Nat} {E : List En} {T : Tk} {a cl d : Nat} (h : d ∈ foot t m (hearE E T a cl)) : d ∈ foot t m E ∨ d = a := by
  unfold hearE at h
  split at h
  · exact .inl h
  · split at h
    · split at h
      · exact .inl h
      · rw [foot_set] at h; exact .inl h
    · split at h
      · exact .inl h
      · simp only [foot, List.map_append, List.map_cons, List.map_nil, List.mem_cons, List.mem_append, List.not_mem_nil, or_false] at h ⊢
        rcases h with h | h | h | h
        · exact .inl (.inl h)
        · exact .inl (.inr (.inl h))
        · exact .inl (.inr (.inr h))
        · exact .inr h
/-- entries are alike to themselves -/
def entryT : PT := .st [(0, 7, true, (.st [(0, 1, false, .int), (1, 5, true, (.st [(0, 1, false, .int), (1, 1, false, .int), (2, 1, false, .int), (3, 1, false, .int), (4, 1, false, .int)])), (6, 1, false, .int)])), (7, 1, false, .int), (8, 1, false, .int), (9, 3, true, (.st [(0, 1, false, .int), (1, 1, false, .int), (2, 1, false, .int)]))]
theorem eqI (a : Int) : eqPT .int (.int .i64 a) (.int .i64 a) = some true := by show (if IntKind.i64 = IntKind.i64 then some (a == a) else none) = _; simp
theorem eqS (off size : Nat) (agg : Bool) (p : PT) (fs : List (Nat × Nat × Bool × PT)) (xs ys : Array Value) (h1 : eqPT p (if agg then .agg (xs.extract off (off + size)) else xs.getD off unk) (if agg then .agg (ys.extract off (off + size)) else ys.getD off unk) = some true) (h2 : eqPTs fs xs ys = some true) : eqPTs ((off, size, agg, p) :: fs) xs ys = some true := by
  rw [eqPTs, h1]; exact h2
theorem eqR (e f c : Int) : eqPT (.st [(0, 1, false, .int), (1, 1, false, .int), (2, 1, false, .int)]) (.agg #[.int .i64 e, .int .i64 f, .int .i64 c]) (.agg #[.int .i64 e, .int .i64 f, .int .i64 c]) = some true := by
  show eqPTs _ _ _ = _
  refine eqS _ _ _ _ _ _ _ (eqI e) (eqS _ _ _ _ _ _ _ (eqI f) (eqS _ _ _ _ _ _ _ (eqI c) rfl))
theorem eqEntry (s : Slt) : eqPT entryT (.agg s.entry.toArray) (.agg s.entry.toArray) = some true := by
  show eqPTs _ _ _ = _
  refine eqS _ _ _ _ _ _ _ ?_ (eqS _ _ _ _ _ _ _ (eqI _) (eqS _ _ _ _ _ _ _ (eqI _) (eqS _ _ _ _ _ _ _ ?_ rfl)))
  · show eqPTs _ _ _ = _
    refine eqS _ _ _ _ _ _ _ (eqI _) (eqS _ _ _ _ _ _ _ ?_ (eqS _ _ _ _ _ _ _ (eqI _) rfl))
    show eqPTs _ _ _ = _
    exact eqS _ _ _ _ _ _ _ (eqI _) (eqS _ _ _ _ _ _ _ (eqI _) (eqS _ _ _ _ _ _ _ (eqI _) (eqS _ _ _ _ _ _ _ (eqI _) (eqS _ _ _ _ _ _ _ (eqI _) rfl))))
  · exact eqR s.e s.f s.c
end Go.Proofs.Ytfbhmogjnjejmaa
