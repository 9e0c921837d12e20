/- The canonical machine: rules to walk where truths are not known: what has been asked once is known from then on. Conditions: none. -/
import Derived.Test.YtboioafflppnfaaCm27
namespace Go.Cm
open Go.RowKit
set_option linter.unusedVariables false
set_option linter.unusedSimpArgs false

section
variable {M : Prg} {Q : Ex → Fr → Heap → Prop} {K : Fr → Heap → Prop} {T : List Tr → Fr → Heap → Prop} {f : Fr} {h : Heap}

theorem w_condY {c : Operand} {a b : MCode} {t : Bool} (hc : evO f c = some (.bool t)) (ht : t = true) (H : wp M a Q f h) : wp M (.cond c a b) Q f h := w_condT (by rw [hc, ht]) H
theorem w_condN {c : Operand} {a b : MCode} {t : Bool} (hc : evO f c = some (.bool t)) (ht : t = false) (H : wp M b Q f h) : wp M (.cond c a b) Q f h := w_condF (by rw [hc, ht]) H

theorem wanted_eq {t : Nat} {w b : Bool} (hl : f.look t = some (.bool b)) : wantedC f (some (t, w)) = some (b == w) := by simp only [wantedC, Fr.look_get hl]
theorem o_gdY {d : Option Nat} {op : MOp} {t : Nat} {w b : Bool} {r : List MO} (hl : f.look t = some (.bool b)) (hb : b = w) (H : wpO M (⟨d, op, none⟩ :: r) K f h) : wpO M (⟨d, op, some (t, w)⟩ :: r) K f h := by
  obtain ⟨trs, f1, h1, he, hk⟩ := H
  cases he with
  | run hw ho hr => exact ⟨_, f1, h1, .run (by rw [wanted_eq hl, hb]; simp) ho hr, hk⟩
  | pass hw hr => simp [wantedC] at hw
theorem o_gdN {d : Nat} {op : MOp} {t : Nat} {w b : Bool} {r : List MO} (hl : f.look t = some (.bool b)) (hb : b = !w) (H : wpO M r K ((d, undef) :: f) h) : wpO M (⟨some d, op, some (t, w)⟩ :: r) K f h :=
  o_pass (by rw [wanted_eq hl, hb]; cases w <;> rfl) H
theorem o_gd {d : Nat} {op : MOp} {t : Nat} {w b : Bool} {r : List MO} (hl : f.look t = some (.bool b)) (H1 : b = w → wpO M (⟨some d, op, none⟩ :: r) K f h) (H2 : b = !w → wpO M r K ((d, undef) :: f) h) : wpO M (⟨some d, op, some (t, w)⟩ :: r) K f h := by
  by_cases hb : b = w
  · exact o_gdY hl hb (H1 hb)
  · have hb' : b = !w := by revert hb; cases b <;> cases w <;> simp
    exact o_gdN hl hb' (H2 hb')
theorem o_pickY {t : Nat} {c x y : Operand} {g : Option (Nat × Bool)} {r : List MO} {v : Value} {b : Bool} (hw : wantedC f g = some true) (hc : evO f c = some (.bool b)) (hb : b = true) (hx : evO f x = some v) (H : wpO M r K ((t, v) :: f) h) : wpO M (⟨some t, .pick c x y, g⟩ :: r) K f h :=
  o_pickT hw (by rw [hc, hb]) hx H
theorem o_pickN {t : Nat} {c x y : Operand} {g : Option (Nat × Bool)} {r : List MO} {v : Value} {b : Bool} (hw : wantedC f g = some true) (hc : evO f c = some (.bool b)) (hb : b = false) (hx : evO f y = some v) (H : wpO M r K ((t, v) :: f) h) : wpO M (⟨some t, .pick c x y, g⟩ :: r) K f h :=
  o_pickF hw (by rw [hc, hb]) hx H

/-! the same, where what each did is kept -/
theorem t_gdY {d : Option Nat} {op : MOp} {t : Nat} {w b : Bool} {r : List MO} (hl : f.look t = some (.bool b)) (hb : b = w) (H : wpT M (⟨d, op, none⟩ :: r) T f h) : wpT M (⟨d, op, some (t, w)⟩ :: r) T f h := by
  obtain ⟨trs, f1, h1, he, hk⟩ := H
  cases he with
  | run hw ho hr => exact ⟨_, f1, h1, .run (by rw [wanted_eq hl, hb]; simp) ho hr, hk⟩
  | pass hw hr => simp [wantedC] at hw
theorem t_gdN {d : Nat} {op : MOp} {t : Nat} {w b : Bool} {r : List MO} (hl : f.look t = some (.bool b)) (hb : b = !w) (H : wpT M r (fun trs => T (⟨false, f, h, h, undef⟩ :: trs)) ((d, undef) :: f) h) : wpT M (⟨some d, op, some (t, w)⟩ :: r) T f h :=
  t_pass (by rw [wanted_eq hl, hb]; cases w <;> rfl) H
theorem t_gd {d : Nat} {op : MOp} {t : Nat} {w b : Bool} {r : List MO} (hl : f.look t = some (.bool b)) (H1 : b = w → wpT M (⟨some d, op, none⟩ :: r) T f h) (H2 : b = !w → wpT M r (fun trs => T (⟨false, f, h, h, undef⟩ :: trs)) ((d, undef) :: f) h) : wpT M (⟨some d, op, some (t, w)⟩ :: r) T f h := by
  by_cases hb : b = w
  · exact t_gdY hl hb (H1 hb)
  · have hb' : b = !w := by revert hb; cases b <;> cases w <;> simp
    exact t_gdN hl hb' (H2 hb')
theorem t_pickY {t : Nat} {c x y : Operand} {g : Option (Nat × Bool)} {r : List MO} {v : Value} {b : Bool} (hw : wantedC f g = some true) (hc : evO f c = some (.bool b)) (hb : b = true) (hx : evO f x = some v) (H : wpT M r (fun trs => T (⟨true, f, h, h, v⟩ :: trs)) ((t, v) :: f) h) : wpT M (⟨some t, .pick c x y, g⟩ :: r) T f h :=
  t_pickT hw (by rw [hc, hb]) hx H
theorem t_pickN {t : Nat} {c x y : Operand} {g : Option (Nat × Bool)} {r : List MO} {v : Value} {b : Bool} (hw : wantedC f g = some true) (hc : evO f c = some (.bool b)) (hb : b = false) (hx : evO f y = some v) (H : wpT M r (fun trs => T (⟨true, f, h, h, v⟩ :: trs)) ((t, v) :: f) h) : wpT M (⟨some t, .pick c x y, g⟩ :: r) T f h :=
  t_pickF hw (by rw [hc, hb]) hx H
theorem t_any {t : Nat} {op : MOp} {g : Option (Nat × Bool)} {r : List MO} {v : Value} {h' : Heap} (hw : wantedC f g = some true) (hc : cop f.ev h op = some (v, h')) (H : wpT M r (fun trs => T (⟨true, f, h, h', v⟩ :: trs)) ((t, v) :: f) h') : wpT M (⟨some t, op, g⟩ :: r) T f h := t_op hw (.prim hc) H
theorem t_anyN {op : MOp} {g : Option (Nat × Bool)} {r : List MO} {v : Value} {h' : Heap} (hw : wantedC f g = some true) (hc : cop f.ev h op = some (v, h')) (H : wpT M r (fun trs => T (⟨true, f, h, h', v⟩ :: trs)) f h') : wpT M (⟨none, op, g⟩ :: r) T f h := t_op hw (.prim hc) H
theorem o_anyN {op : MOp} {g : Option (Nat × Bool)} {r : List MO} {v : Value} {h' : Heap} (hw : wantedC f g = some true) (hc : cop f.ev h op = some (v, h')) (H : wpO M r K f h') : wpO M (⟨none, op, g⟩ :: r) K f h := o_op hw (.prim hc) H

/-- what an open order asks, reckoned -/
def CrossV (l : List MO) (trs : List Tr) (ij : Nat × Nat) : Prop :=
  match l[ij.1]?, trs[ij.1]?, trs[ij.2]? with
  | some o, some ti, some tj => (match ti.ran, tj.ran with
    | true, true => reread ti.f.ev (match Nat.blt ij.1 ij.2 with | true => tj.h' | false => tj.h) o.op = some ti.v
    | _, _ => True)
  | _, _, _ => True
theorem CrossV.ok {l : List MO} {trs : List Tr} {ij : Nat × Nat} (h : CrossV l trs ij) : CrossOK l trs ij := by
  intro o ti tj h1 h2 h3 r1 r2
  unfold CrossV at h
  rw [h1, h2, h3] at h
  simp only [r1, r2] at h
  rw [← h]
  congr 1
  by_cases hl : ij.1 < ij.2
  · rw [if_pos hl, show Nat.blt ij.1 ij.2 = true from by simpa using hl]
  · rw [if_neg hl, show Nat.blt ij.1 ij.2 = false from by cases hb : Nat.blt ij.1 ij.2 with | false => rfl | true => exact absurd (by simpa using hb) hl]
def CrossAll (l : List MO) (trs : List Tr) : List (Nat × Nat) → Prop
  | [] => True
  | ij :: r => CrossV l trs ij ∧ CrossAll l trs r
theorem CrossAll.ok {l : List MO} {trs : List Tr} : ∀ {x : List (Nat × Nat)}, CrossAll l trs x → ∀ ij ∈ x, CrossOK l trs ij
  | [], _ => fun _ h => by cases h
  | ij :: r, h => fun k hk => by
    rcases List.mem_cons.1 hk with rfl | hk
    · exact h.1.ok
    · exact CrossAll.ok h.2 k hk
theorem w_opsX {l : List MO} {x : List (Nat × Nat)} (H : wpT M l (fun trs f' h' => CrossAll l trs x ∧ Q .norm f' h') f h) : wp M (.region l x) Q f h := by
  obtain ⟨trs, f1, h1, ho, hx, hq⟩ := H
  exact ⟨_, _, _, .region ho hx.ok, hq⟩

/-- sums, differences and products of numbers of 64 bits that stay within their bounds -/
theorem wrap64' {n : Int} (hn : -9223372036854775808 ≤ n ∧ n < 9223372036854775808) : IntKind.i64.wrap n = n := by
  simp only [IntKind.wrap, IntKind.bits, IntKind.signed]
  simp
  omega
theorem wrapU64 {n : Int} (hn : 0 ≤ n ∧ n < 18446744073709551616) : IntKind.u64.wrap n = n := by
  simp only [IntKind.wrap, IntKind.bits, IntKind.signed]
  simp
  omega
theorem wrapU32 {n : Int} (hn : 0 ≤ n ∧ n < 4294967296) : IntKind.u32.wrap n = n := by
  simp only [IntKind.wrap, IntKind.bits, IntKind.signed]
  simp
  omega
theorem wrapU8 {n : Int} (hn : 0 ≤ n ∧ n < 256) : IntKind.u8.wrap n = n := by
  simp only [IntKind.wrap, IntKind.bits, IntKind.signed]
  simp
  omega
theorem ar_quo {k : IntKind} {a b : Int} (ha : 0 ≤ a) (hb : 0 < b) (hn : k.wrap (a / b) = a / b) : arith .quo (.int k a) (.int k b) = some (.int k (a / b)) := by
  simp only [arith]
  rw [if_neg (by simp), if_neg (by omega), Int.tdiv_eq_ediv_of_nonneg ha, hn]
theorem ar_rem {k : IntKind} {a b : Int} (ha : 0 ≤ a) (hb : 0 < b) : arith .rem (.int k a) (.int k b) = some (.int k (a % b)) := by
  simp only [arith]
  rw [if_neg (by simp), if_neg (by omega), Int.tmod_eq_emod_of_nonneg ha]
theorem o_add {t : Nat} {x y : Operand} {g : Option (Nat × Bool)} {r : List MO} {k : IntKind} {a b : Int} (hw : wantedC f g = some true) (hx : evO f x = some (.int k a)) (hy : evO f y = some (.int k b)) (hn : k.wrap (a + b) = a + b)
    (H : wpO M r K ((t, .int k (a + b)) :: f) h) : wpO M (⟨some t, .ar .add x y, g⟩ :: r) K f h :=
  o_ar hw hx hy (w := .int k (k.wrap (a + b))) (by simp [arith]) (w' := .int k (a + b)) (by rw [hn]) H
theorem o_sub {t : Nat} {x y : Operand} {g : Option (Nat × Bool)} {r : List MO} {k : IntKind} {a b : Int} (hw : wantedC f g = some true) (hx : evO f x = some (.int k a)) (hy : evO f y = some (.int k b)) (hn : k.wrap (a - b) = a - b)
    (H : wpO M r K ((t, .int k (a - b)) :: f) h) : wpO M (⟨some t, .ar .sub x y, g⟩ :: r) K f h :=
  o_ar hw hx hy (w := .int k (k.wrap (a - b))) (by simp [arith]) (w' := .int k (a - b)) (by rw [hn]) H
theorem o_mul {t : Nat} {x y : Operand} {g : Option (Nat × Bool)} {r : List MO} {k : IntKind} {a b : Int} (hw : wantedC f g = some true) (hx : evO f x = some (.int k a)) (hy : evO f y = some (.int k b)) (hn : k.wrap (a * b) = a * b)
    (H : wpO M r K ((t, .int k (a * b)) :: f) h) : wpO M (⟨some t, .ar .mul x y, g⟩ :: r) K f h :=
  o_ar hw hx hy (w := .int k (k.wrap (a * b))) (by simp [arith]) (w' := .int k (a * b)) (by rw [hn]) H
theorem o_quo {t : Nat} {x y : Operand} {g : Option (Nat × Bool)} {r : List MO} {k : IntKind} {a b : Int} (hw : wantedC f g = some true) (hx : evO f x = some (.int k a)) (hy : evO f y = some (.int k b)) (ha : 0 ≤ a) (hb : 0 < b) (hn : k.wrap (a / b) = a / b)
    (H : wpO M r K ((t, .int k (a / b)) :: f) h) : wpO M (⟨some t, .ar .quo x y, g⟩ :: r) K f h :=
  o_ar hw hx hy (ar_quo ha hb hn) rfl H
theorem o_rem {t : Nat} {x y : Operand} {g : Option (Nat × Bool)} {r : List MO} {k : IntKind} {a b : Int} (hw : wantedC f g = some true) (hx : evO f x = some (.int k a)) (hy : evO f y = some (.int k b)) (ha : 0 ≤ a) (hb : 0 < b)
    (H : wpO M r K ((t, .int k (a % b)) :: f) h) : wpO M (⟨some t, .ar .rem x y, g⟩ :: r) K f h :=
  o_ar hw hx hy (ar_rem ha hb) rfl H
theorem o_conv {t : Nat} {x : Operand} {g : Option (Nat × Bool)} {r : List MO} {k k' : IntKind} {n : Int} (hw : wantedC f g = some true) (hx : evO f x = some (.int k' n)) (hn : k.wrap n = n)
    (H : wpO M r K ((t, .int k n) :: f) h) : wpO M (⟨some t, .conv k x, g⟩ :: r) K f h :=
  o_op hw (.prim (by simp only [cop, evO_ok hx]; rw [hn])) H
theorem t_add {t : Nat} {x y : Operand} {g : Option (Nat × Bool)} {r : List MO} {k : IntKind} {a b : Int} (hw : wantedC f g = some true) (hx : evO f x = some (.int k a)) (hy : evO f y = some (.int k b)) (hn : k.wrap (a + b) = a + b)
    (H : wpT M r (fun trs => T (⟨true, f, h, h, .int k (a + b)⟩ :: trs)) ((t, .int k (a + b)) :: f) h) : wpT M (⟨some t, .ar .add x y, g⟩ :: r) T f h :=
  t_ar hw hx hy (w := .int k (k.wrap (a + b))) (by simp [arith]) (w' := .int k (a + b)) (by rw [hn]) H
theorem t_sub {t : Nat} {x y : Operand} {g : Option (Nat × Bool)} {r : List MO} {k : IntKind} {a b : Int} (hw : wantedC f g = some true) (hx : evO f x = some (.int k a)) (hy : evO f y = some (.int k b)) (hn : k.wrap (a - b) = a - b)
    (H : wpT M r (fun trs => T (⟨true, f, h, h, .int k (a - b)⟩ :: trs)) ((t, .int k (a - b)) :: f) h) : wpT M (⟨some t, .ar .sub x y, g⟩ :: r) T f h :=
  t_ar hw hx hy (w := .int k (k.wrap (a - b))) (by simp [arith]) (w' := .int k (a - b)) (by rw [hn]) H
theorem t_mul {t : Nat} {x y : Operand} {g : Option (Nat × Bool)} {r : List MO} {k : IntKind} {a b : Int} (hw : wantedC f g = some true) (hx : evO f x = some (.int k a)) (hy : evO f y = some (.int k b)) (hn : k.wrap (a * b) = a * b)
    (H : wpT M r (fun trs => T (⟨true, f, h, h, .int k (a * b)⟩ :: trs)) ((t, .int k (a * b)) :: f) h) : wpT M (⟨some t, .ar .mul x y, g⟩ :: r) T f h :=
  t_ar hw hx hy (w := .int k (k.wrap (a * b))) (by simp [arith]) (w' := .int k (a * b)) (by rw [hn]) H
theorem t_quo {t : Nat} {x y : Operand} {g : Option (Nat × Bool)} {r : List MO} {k : IntKind} {a b : Int} (hw : wantedC f g = some true) (hx : evO f x = some (.int k a)) (hy : evO f y = some (.int k b)) (ha : 0 ≤ a) (hb : 0 < b) (hn : k.wrap (a / b) = a / b)
    (H : wpT M r (fun trs => T (⟨true, f, h, h, .int k (a / b)⟩ :: trs)) ((t, .int k (a / b)) :: f) h) : wpT M (⟨some t, .ar .quo x y, g⟩ :: r) T f h :=
  t_ar hw hx hy (ar_quo ha hb hn) rfl H
theorem t_rem {t : Nat} {x y : Operand} {g : Option (Nat × Bool)} {r : List MO} {k : IntKind} {a b : Int} (hw : wantedC f g = some true) (hx : evO f x = some (.int k a)) (hy : evO f y = some (.int k b)) (ha : 0 ≤ a) (hb : 0 < b)
    (H : wpT M r (fun trs => T (⟨true, f, h, h, .int k (a % b)⟩ :: trs)) ((t, .int k (a % b)) :: f) h) : wpT M (⟨some t, .ar .rem x y, g⟩ :: r) T f h :=
  t_ar hw hx hy (ar_rem ha hb) rfl H
theorem t_conv {t : Nat} {x : Operand} {g : Option (Nat × Bool)} {r : List MO} {k k' : IntKind} {n : Int} (hw : wantedC f g = some true) (hx : evO f x = some (.int k' n)) (hn : k.wrap n = n)
    (H : wpT M r (fun trs => T (⟨true, f, h, h, .int k n⟩ :: trs)) ((t, .int k n) :: f) h) : wpT M (⟨some t, .conv k x, g⟩ :: r) T f h :=
  t_op hw (.prim (by simp only [cop, evO_ok hx]; rw [hn])) H

/-- any operation that is reckoned -/
theorem o_any {t : Nat} {op : MOp} {g : Option (Nat × Bool)} {r : List MO} {v : Value} {h' : Heap} (hw : wantedC f g = some true) (hc : cop f.ev h op = some (v, h')) (H : wpO M r K ((t, v) :: f) h') : wpO M (⟨some t, op, g⟩ :: r) K f h := o_op hw (.prim hc) H
end
end Go.Cm
