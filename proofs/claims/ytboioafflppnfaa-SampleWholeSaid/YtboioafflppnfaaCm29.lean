/- The canonical machine: rules for slices whose lengths are not known. Conditions: none. -/
import Derived.Test.YtboioafflppnfaaCm28
namespace Go.Cm
open Go.RowKit
set_option linter.unusedVariables false
set_option linter.unusedSimpArgs false

theorem toBytes_take : ∀ (l : List UInt8) (n : Nat), toBytes ((l.map fun b => Value.int .u8 b.toNat).take n) = some (l.take n)
  | [], n => by simp [toBytes]
  | b :: l, 0 => by simp [toBytes]
  | b :: l, n + 1 => by simp [toBytes, toBytes_take l n]
theorem toBytes_of (l : List UInt8) : toBytes (l.map fun b => Value.int .u8 b.toNat) = some l := by
  have := toBytes_take l l.length
  rwa [List.take_of_length_le (by simp), List.take_of_length_le (Nat.le_refl _)] at this
theorem splice_zero {cs vs : List Value} : splice cs 0 vs = vs ++ cs.drop vs.length := by cases cs <;> rfl

theorem splice_mid (x v : Value) (B : List Value) : ∀ (A : List Value) (o : Nat), o = A.length → splice (A ++ x :: B) o [v] = A ++ v :: B
  | [], o, h => by subst h; rfl
  | a :: A, o, h => by subst h; simp only [List.cons_append, List.length_cons, splice]; rw [splice_mid x v B A _ rfl]
theorem splice_set : ∀ (cs : List Value) (o : Nat) (v : Value), o < cs.length → splice cs o [v] = cs.set o v
  | [], o, v, h => by simp at h
  | c :: cs, 0, v, h => by simp [splice]
  | c :: cs, o + 1, v, h => by simp only [splice, List.set_cons_succ]; rw [splice_set cs o v (by simpa using h)]

section
variable {M : Prg} {Q : Ex → Fr → Heap → Prop} {K : Fr → Heap → Prop} {T : List Tr → Fr → Heap → Prop} {f : Fr} {h : Heap}

theorem o_mkSl {t bytes : Nat} {zero : List Value} {l c : Operand} {g : Option (Nat × Bool)} {r : List MO} {k1 k2 : IntKind} {a b : Int} (hw : wantedC f g = some true) (hl : evO f l = some (.int k1 a)) (hc : evO f c = some (.int k2 b))
    (hb : 0 ≤ a ∧ a ≤ b ∧ bytes * b ≤ 281474976710656 ∧ b ≤ 9223372036854775807) (H : wpO M r K ((t, .slice (some ⟨h.n, 0, none⟩) a.toNat b.toNat) :: f) (h.push (.rw (repL zero b.toNat)))) : wpO M (⟨some t, .mkSl bytes zero l c, g⟩ :: r) K f h :=
  o_op hw (.prim (by simp only [cop, evO_ok hl, evO_ok hc]; rw [if_pos hb])) H
theorem o_ixS {t : Nat} {x i : Operand} {g : Option (Nat × Bool)} {r : List MO} {s : ByteArray} {k : IntKind} {n : Int} {b : UInt8} (hw : wantedC f g = some true) (hx : evO f x = some (.string s)) (hi : evO f i = some (.int k n)) (hn : 0 ≤ n) (hb : s[n.toNat]? = some b)
    (H : wpO M r K ((t, .int .u8 b.toNat) :: f) h) : wpO M (⟨some t, .ixS x i, g⟩ :: r) K f h :=
  o_op hw (.prim (by simp only [cop, evO_ok hx, evO_ok hi, hb]; rw [if_pos hn])) H
theorem o_convBS {t : Nat} {x : Operand} {g : Option (Nat × Bool)} {r : List MO} {a : Addr} {len cap : Nat} {cs : List Value} {l : List UInt8} (hw : wantedC f g = some true) (hx : evO f x = some (.slice (some a) len cap)) (hr : sliceCells h 1 len (.slice (some a) len cap) = some cs) (hl : toBytes cs = some l)
    (H : wpO M r K ((t, .string ⟨l.toArray⟩) :: f) h) : wpO M (⟨some t, .convBS x, g⟩ :: r) K f h :=
  o_op hw (.prim (by simp only [cop, evO_ok hx, hr, hl])) H
/-- an append of a text that fits -/
theorem o_appSfit {t : Nat} {x y : Operand} {g : Option (Nat × Bool)} {r : List MO} {a : Addr} {len cap : Nat} {s : ByteArray} {h' : Heap} (hw : wantedC f g = some true) (hx : evO f x = some (.slice (some a) len cap)) (hy : evO f y = some (.string s)) (hs : 0 < s.size)
    (hfit : len + s.size ≤ cap) (hmax : len + s.size ≤ 140737488355328) (hwr : h.wr ⟨a.block, a.off + len, a.spot⟩ (ofBytes s) = some h') (H : wpO M r K ((t, .slice (some a) (len + s.size) cap) :: f) h') : wpO M (⟨some t, .appS x y, g⟩ :: r) K f h := by
  refine o_op hw (.prim ?_) H
  simp only [cop, evO_ok hx, evO_ok hy, appendTo, ofBytes_length, Nat.mul_one]
  rw [if_neg (by omega), if_pos hfit, if_neg (by omega), hwr]

def objCells : CObj → Option (List Value)
  | .ro cs | .rw cs | .loose _ cs => some cs
  | _ => none
theorem rd1_obj {c off : Nat} {o : CObj} {cs : List Value} {v : Value} (hg : h.get? c = some o) (ho : objCells o = some cs) (hv : cs[off]? = some v) : h.rd1 ⟨c, off, none⟩ = some v := by
  unfold Heap.rd1 Heap.cells
  rw [hg]
  cases o <;> simp_all [objCells]
theorem rdN_obj {c off n : Nat} {o : CObj} {cs : List Value} (hg : h.get? c = some o) (ho : objCells o = some cs) (hn : off + n ≤ cs.length) : h.rdN ⟨c, off, none⟩ n = some ((cs.drop off).take n) := by
  unfold Heap.rdN Heap.cells
  rw [hg]
  cases o <;> simp_all [objCells]
theorem wr_rw {c off : Nat} {cs vs : List Value} (hg : h.get? c = some (.rw cs)) (hn : off + vs.length ≤ cs.length) : h.wr ⟨c, off, none⟩ vs = some (h.set c (.rw (splice cs off vs))) := by
  unfold Heap.wr
  rw [hg]
  simp [hn]
theorem wr_loose {c off e : Nat} {cs vs : List Value} (hg : h.get? c = some (.loose e cs)) (hn : off + vs.length ≤ cs.length) : h.wr ⟨c, off, none⟩ vs = some (h.set c (.loose e (splice cs off vs))) := by
  unfold Heap.wr
  rw [hg]
  simp [hn]
theorem o_load1R {t : Nat} {x : Operand} {g : Option (Nat × Bool)} {r : List MO} {c off : Nat} {o : CObj} {cs : List Value} {v : Value} (hw : wantedC f g = some true) (hx : evO f x = some (.pointer (some ⟨c, off, none⟩))) (hg : h.get? c = some o) (ho : objCells o = some cs) (hv : cs[off]? = some v)
    (H : wpO M r K ((t, v) :: f) h) : wpO M (⟨some t, .load1 x, g⟩ :: r) K f h := o_load1 hw hx (rd1_obj hg ho hv) H
theorem o_loadNR {t n : Nat} {x : Operand} {g : Option (Nat × Bool)} {r : List MO} {c off : Nat} {o : CObj} {cs vs : List Value} (hw : wantedC f g = some true) (hx : evO f x = some (.pointer (some ⟨c, off, none⟩))) (hg : h.get? c = some o) (ho : objCells o = some cs) (hn : off + n ≤ cs.length) (hv : (cs.drop off).take n = vs)
    (H : wpO M r K ((t, .agg vs.toArray) :: f) h) : wpO M (⟨some t, .loadN n x, g⟩ :: r) K f h := o_loadN hw hx (by rw [rdN_obj hg ho hn, hv]) H
theorem t_load1R {t : Nat} {x : Operand} {g : Option (Nat × Bool)} {r : List MO} {c off : Nat} {o : CObj} {cs : List Value} {v : Value} (hw : wantedC f g = some true) (hx : evO f x = some (.pointer (some ⟨c, off, none⟩))) (hg : h.get? c = some o) (ho : objCells o = some cs) (hv : cs[off]? = some v)
    (H : wpT M r (fun trs => T (⟨true, f, h, h, v⟩ :: trs)) ((t, v) :: f) h) : wpT M (⟨some t, .load1 x, g⟩ :: r) T f h := t_load1 hw hx (rd1_obj hg ho hv) H
theorem t_loadNR {t n : Nat} {x : Operand} {g : Option (Nat × Bool)} {r : List MO} {c off : Nat} {o : CObj} {cs vs : List Value} (hw : wantedC f g = some true) (hx : evO f x = some (.pointer (some ⟨c, off, none⟩))) (hg : h.get? c = some o) (ho : objCells o = some cs) (hn : off + n ≤ cs.length) (hv : (cs.drop off).take n = vs)
    (H : wpT M r (fun trs => T (⟨true, f, h, h, .agg vs.toArray⟩ :: trs)) ((t, .agg vs.toArray) :: f) h) : wpT M (⟨some t, .loadN n x, g⟩ :: r) T f h := t_loadN hw hx (by rw [rdN_obj hg ho hn, hv]) H
theorem o_storeR {n : Nat} {x y : Operand} {g : Option (Nat × Bool)} {r : List MO} {c off : Nat} {cs vs : List Value} {v : Value} (hw : wantedC f g = some true) (hx : evO f x = some (.pointer (some ⟨c, off, none⟩))) (hy : evO f y = some v) (hv : cellsOf v = some vs) (hl : vs.length = n) (hg : h.get? c = some (.rw cs)) (hn : off + vs.length ≤ cs.length)
    (H : wpO M r K f (h.set c (.rw (splice cs off vs)))) : wpO M (⟨none, .store n x y, g⟩ :: r) K f h := by
  refine o_op (v := undef) hw (.prim ?_) H
  simp only [cop, evO_ok hx, evO_ok hy, hv]
  rw [if_pos hl, wr_rw hg hn]

/-- memory in which one object alone has turned -/
structure Only (h h' : Heap) (c : Nat) : Prop where
  le : h.n ≤ h'.n
  old : ∀ d, d < h.n → d ≠ c → h'.get? d = h.get? d
theorem Only.refl {h : Heap} {c : Nat} : Only h h c := ⟨Nat.le_refl _, fun _ _ _ => rfl⟩
theorem Only.trans {a b e : Heap} {c : Nat} (h1 : Only a b c) (h2 : Only b e c) : Only a e c := ⟨Nat.le_trans h1.le h2.le, fun d hd hc => (h2.old d (Nat.lt_of_lt_of_le hd h1.le) hc).trans (h1.old d hd hc)⟩
theorem Only.of_le {a b : Heap} {c : Nat} (l : Le a b) : Only a b c := ⟨l.1, fun d hd _ => l.2 d hd⟩
theorem Only.set {a : Heap} {c : Nat} {o o' : CObj} (hg : a.get? c = some o') : Only a (a.set c o) c := ⟨Nat.le_refl _, fun d hd hc => Heap.get?_set_other (Heap.get?_lt hg) hc⟩
theorem Only.get {a b : Heap} {c d : Nat} {o : CObj} (h : Only a b c) (hc : d ≠ c) (ho : a.get? d = some o) : b.get? d = some o := by rw [h.old d (Heap.get?_lt ho) hc]; exact ho
theorem get_add_old {h h1 : Heap} (hm : madeOnly h1 = true) {c : Nat} {o : CObj} (ho : h.get? c = some o) : (h.add h1).get? c = some o := by
  rw [get_add (madeOnly_len hm), if_pos (Heap.get?_lt ho)]; exact ho
theorem get_add_new {h h1 : Heap} (hm : madeOnly h1 = true) {c : Nat} {o : CObj} (ho : h1.get? c = some o) : (h.add h1).get? (h.n + c) = some (shO h.n o) := by
  rw [get_add (madeOnly_len hm), if_neg (by omega), show h.n + c - h.n = c from by omega, ho]; rfl
/-- one more round -/
theorem rnd_again {live : List Nat} {again : Fr → Heap → Prop} {f' : Fr} (hk : keepO f live = some f') (H : again f' h) : Ex.round live again Q .norm f h := ⟨f', hk, H⟩
theorem bounds_lo {len cap : Nat} {k : IntKind} {a : Int} (h : 0 ≤ a ∧ a ≤ len ∧ len ≤ cap) : bounds len cap (some (.int k a)) none none = some (a.toNat, len, cap) := by
  simp only [bounds, asNat?]
  rw [if_pos h.1]
  simp only [Option.isSome_none, Bool.false_eq_true, if_false]
  rw [if_pos (by omega)]
theorem bounds_hi {len cap : Nat} {k : IntKind} {a : Int} (h : 0 ≤ a ∧ a ≤ cap) : bounds len cap none (some (.int k a)) none = some (0, a.toNat, cap) := by
  simp only [bounds, asNat?]
  rw [if_pos h.1]
  simp only
  rw [if_pos (by omega)]
  try simp
theorem bounds_both {len cap : Nat} {k k' : IntKind} {a b : Int} (h : 0 ≤ a ∧ a ≤ b ∧ b ≤ cap) : bounds len cap (some (.int k a)) (some (.int k' b)) none = some (a.toNat, b.toNat, cap) := by
  simp only [bounds, asNat?]
  rw [if_pos h.1, if_pos (show 0 ≤ b by omega)]
  simp only
  rw [if_pos (show b.toNat ≤ cap by omega)]
  simp only
  rw [if_pos (show a.toNat ≤ b.toNat by omega)]
/-- a part of a slice of an own block, or of one that is only read -/
theorem o_slV {t esz : Nat} {x : Operand} {lo hi : Option Operand} {g : Option (Nat × Bool)} {r : List MO} {a : Addr} {len cap l e m : Nat} {o : CObj} (hw : wantedC f g = some true) (hx : evO f x = some (.slice (some a) len cap)) (hb : bounds len cap (lo.map f.ev) (hi.map f.ev) none = some (l, e, m))
    (ho : h.get? a.block = some o) (hk : (∃ cs, o = .ro cs) ∨ ∃ cs, o = .rw cs) (H : wpO M r K ((t, .slice (some (if m = l then a else addOff a (l * esz))) (e - l) (m - l)) :: f) h) : wpO M (⟨some t, .slV esz x lo hi none, g⟩ :: r) K f h := by
  refine o_op hw (.prim ?_) H
  rcases hk with ⟨cs, rfl⟩ | ⟨cs, rfl⟩ <;> simp only [cop, evO_ok hx, hb, Option.map_none, ho, Option.isSome_none, Bool.false_eq_true, if_false]
/-- the same of a block that appends have made; the part does not begin behind its last place -/
theorem o_slVl {t esz : Nat} {x : Operand} {lo hi : Option Operand} {g : Option (Nat × Bool)} {r : List MO} {a : Addr} {len cap l e m : Nat} {cs : List Value} (hw : wantedC f g = some true) (hx : evO f x = some (.slice (some a) len cap)) (hb : bounds len cap (lo.map f.ev) (hi.map f.ev) none = some (l, e, m))
    (ho : h.get? a.block = some (.loose esz cs)) (hm : m ≠ l) (H : wpO M r K ((t, .slice (some (addOff a (l * esz))) (e - l) (m - l)) :: f) h) : wpO M (⟨some t, .slV esz x lo hi none, g⟩ :: r) K f h := by
  refine o_op hw (.prim ?_) H
  simp only [cop, evO_ok hx, hb, Option.map_none, ho, Option.isSome_none, Bool.false_eq_true, if_false]
  rw [if_neg hm, if_pos trivial]
theorem o_slS {t : Nat} {x : Operand} {lo hi : Option Operand} {g : Option (Nat × Bool)} {r : List MO} {s : ByteArray} {l e m : Nat} (hw : wantedC f g = some true) (hx : evO f x = some (.string s)) (hb : bounds s.size s.size (lo.map f.ev) (hi.map f.ev) none = some (l, e, m))
    (H : wpO M r K ((t, .string (s.extract l e)) :: f) h) : wpO M (⟨some t, .slS x lo hi, g⟩ :: r) K f h :=
  o_op hw (.prim (by simp only [cop, evO_ok hx, hb])) H
end
theorem sliceCells_of {h : Heap} {a : Addr} {esz n len cap : Nat} {vs : List Value} (hn : 0 < n) (hl : n ≤ len) (hr : h.rdN a (n * esz) = some vs) : sliceCells h esz n (.slice (some a) len cap) = some vs := by
  simp only [sliceCells]
  rw [if_neg (by omega), if_pos hl, hr]
end Go.Cm
