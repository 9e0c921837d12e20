/- The canonical machine's primitive operations, first part: values, blocks, loads, stores. Conditions: none. -/
import Derived.Test.YtboioafflppnfaaCm4
namespace Go.Cm
open Go.RowKit
set_option linter.unusedVariables false
set_option linter.unusedSimpArgs false

/-- what one operation of the model's comes to, against the canonical one -/
def Prim (B : Nat) (W0 : World) (φ : Emb) (H : Heap) (W : World) (r : Result Next) (v : Value) (H' : Heap) : Prop :=
  ∃ φ' v' W', (r = .ok (.value v') W' ∨ (r = .ok .skip W' ∧ v' = undef)) ∧ RelV φ' v v' ∧ Sim B W0 φ' H'.get? W' ∧ Ext φ φ' H H' W W'

section
variable {B : Nat} {W0 : World} {φ : Emb} {H H' : Heap} {W : World} {r : Result Next} {v v' : Value}

theorem Prim.pure (s : Sim B W0 φ H.get? W) (hr : r = .ok (.value v') W) (hv : RelV φ v v') : Prim B W0 φ H W r v H :=
  ⟨φ, v', W, .inl hr, hv, s, .refl⟩

/-- a new block that is the call's own alone -/
theorem Sim.allocRw {cs : List Value} {ar : Array Value} {e : TypeId} (s : Sim B W0 φ H.get? W) (hn : φ H.n = none) (ho : cs.all one = true) (hr : RelL φ cs ar.toList) :
    Sim B W0 (φ.add H.n ⟨W.heap.size, 0, none⟩) (H.push (.rw cs)).get? (W.alloc (.cells ar e)) ∧ Ext φ (φ.add H.n ⟨W.heap.size, 0, none⟩) H (H.push (.rw cs)) W (W.alloc (.cells ar e)) := by
  refine s.alloc hn rfl ⟨s.inB, rfl, ?_, ?_, rfl⟩
  · intro i v hv
    refine ⟨by rw [List.all_eq_true] at ho; exact ho v (List.mem_of_getElem? hv), ?_⟩
    obtain ⟨v', p, q⟩ := hr.get hv
    refine ⟨v', ?_, q.mono (Emb.sub_add hn)⟩
    show (W.alloc (.cells ar e)).cell? ⟨W.heap.size, 0 + i, none⟩ = some v'
    rw [Nat.zero_add, World.cell?_alloc_new]; simpa using p
  · intro j _ _; exact World.frozen?_alloc_new ..
/-- a new block behind an append or out of a string: cells, and room behind them -/
theorem Sim.allocLoose {cs : List Value} {ar : Array Value} {e : TypeId} {esz : Nat} {ob : Obj} (s : Sim B W0 φ H.get? W) (hn : φ H.n = none) (ho : cs.all one = true)
    (hr : ∃ rest : List Value, RelL φ cs rest ∧ ∀ (i : Nat) (u : Value), rest[i]? = some u → ar[i]? = some u) (he : 0 < esz) (hsz : cs.length ≤ ar.size)
    (hc : ∀ i, (W.alloc ob).cell? ⟨W.heap.size, i, none⟩ = ar[i]?) (hf : ∀ i, i < ar.size → (W.alloc ob).frozen? ⟨W.heap.size, i, none⟩ = false) :
    Sim B W0 (φ.add H.n ⟨W.heap.size, 0, some ⟨cs.length, esz, ar.size⟩⟩) (H.push (.loose esz cs)).get? (W.alloc ob) ∧
      Ext φ (φ.add H.n ⟨W.heap.size, 0, some ⟨cs.length, esz, ar.size⟩⟩) H (H.push (.loose esz cs)) W (W.alloc ob) := by
  refine s.alloc hn rfl ⟨s.inB, _, rfl, rfl, rfl, he, by simpa using hsz, ?_, ?_, ?_⟩
  · intro i v hv
    refine ⟨by rw [List.all_eq_true] at ho; exact ho v (List.mem_of_getElem? hv), ?_⟩
    obtain ⟨rest, hr1, hr2⟩ := hr
    obtain ⟨v', p, q⟩ := hr1.get hv
    exact ⟨v', by show (W.alloc ob).cell? ⟨W.heap.size, 0 + i, none⟩ = some v'; rw [Nat.zero_add, hc]; exact hr2 _ _ p, q.mono (Emb.sub_add hn)⟩
  · intro j _ h2; exact hf j h2
  · intro j _ h2
    show ((W.alloc ob).cell? ⟨W.heap.size, j, none⟩).isSome = true
    rw [hc, Array.getElem?_eq_getElem h2]; rfl

theorem cells_plain {z : Value} (h : plainV z = true) : z.cells.toList.all plain1 = true := by
  cases z <;> first | exact h | (simp only [Value.cells, List.all_cons, List.all_nil, Bool.and_true]; exact h)

variable {P : Program} {G : Nat} {ρ ρ' : Operand → Value}

theorem prim_new {e : TypeId} {z : Value} (s : Sim B W0 φ H.get? W) (free : Free φ H (H.push (.rw z.cells.toList))) (hz : zeroOf P e = some z) :
    Prim B W0 φ H W ((do pure (Next.value (← Instr.alloc e true (.tuple #[]))) : Sem Next).run P W) (.pointer (some ⟨H.n, 0, none⟩)) (H.push (.rw z.cells.toList)) := by
  obtain ⟨hr, hp⟩ := run_zv (W := W) hz
  have hn : φ H.n = none := free H.n (Nat.le_refl _) (by simp)
  obtain ⟨s', x'⟩ := s.allocRw (e := e) (ar := z.cells) hn (all_one_of_plain (cells_plain hp)) (RelL.plain (cells_plain hp))
  refine ⟨_, .pointer (some ⟨W.heap.size, 0, none⟩), _, .inl ?_, RelV.ptr (c := H.n) (o := 0) Emb.add_same, s', x'⟩
  simp [Instr.alloc, hr, newVar, newRow]

theorem prim_box {e : TypeId} {x : Operand} {cs : List Value} (s : Sim B W0 φ H.get? W) (free : Free φ H (H.push (.rw cs))) (hx : RelV φ (ρ x) (ρ' x)) (hc : cellsOf (ρ x) = some cs) :
    Prim B W0 φ H W ((do pure (Next.value (← Instr.box e (ρ' x))) : Sem Next).run P W) (.pointer (some ⟨H.n, 0, none⟩)) (H.push (.rw cs)) := by
  obtain ⟨ho, hr⟩ := hx.cells hc
  have hn : φ H.n = none := free H.n (Nat.le_refl _) (by simp)
  obtain ⟨s', x'⟩ := s.allocRw (e := e) (ar := (ρ' x).cells) hn ho hr
  refine ⟨_, .pointer (some ⟨W.heap.size, 0, none⟩), _, .inl ?_, RelV.ptr (c := H.n) (o := 0) Emb.add_same, s', x'⟩
  simp [Instr.box, newVar, newRow]

theorem prim_load1 {t : TypeId} {a : Addr} {x' : Value} (s : Sim B W0 φ H.get? W) (hx : RelV φ (.pointer (some a)) x') (ht : aggT P t = some false) (hv : H.rd1 a = some v) :
    Prim B W0 φ H W ((do pure (Next.value (← Instr.loadAt t x')) : Sem Next).run P W) v H := by
  obtain ⟨c, o, l, rfl, hl, rfl⟩ := relV_ptr hx
  obtain ⟨ho, v', hc, hr⟩ := s.rd1 hl hv
  refine Prim.pure s ?_ hr
  simp [Instr.loadAt, Instr.sureAddr, loadVar, run_ag ht, hc]

theorem prim_loadN {t : TypeId} {n : Nat} {a : Addr} {x' : Value} {vs : List Value} (s : Sim B W0 φ H.get? W) (hx : RelV φ (.pointer (some a)) x') (ht : aggT P t = some true) (hn : sizeT P t = some n)
    (hv : H.rdN a n = some vs) : Prim B W0 φ H W ((do pure (Next.value (← Instr.loadAt t x')) : Sem Next).run P W) (.agg vs.toArray) H := by
  obtain ⟨c, o, l, rfl, hl, rfl⟩ := relV_ptr hx
  obtain ⟨hlen, ho, vs', hr, hc⟩ := s.rdN hl hv
  refine Prim.pure (v' := .agg vs'.toArray) s ?_ (relV_agg.2 ⟨ho, hr⟩)
  simp [Instr.loadAt, Instr.sureAddr, loadVar, run_ag ht, run_sz hn, run_loadCells_at (P := P) (hr.1.symm.trans hlen) hc]

theorem prim_store {t : TypeId} {n : Nat} {a : Addr} {x' u u' : Value} {vs : List Value} (s : Sim B W0 φ H.get? W) (hx : RelV φ (.pointer (some a)) x') (hu : RelV φ u u') (hn : sizeT P t = some n)
    (hcs : cellsOf u = some vs) (hlen : vs.length = n) (hw : H.wr a vs = some H') :
    Prim B W0 φ H W ((do Instr.storeAt t x' u'; pure Next.skip : Sem Next).run P W) undef H' := by
  obtain ⟨c, o, l, rfl, hl, rfl⟩ := relV_ptr hx
  obtain ⟨ho, hr⟩ := hu.cells hcs
  obtain ⟨h1, h2, s', x'⟩ := s.write hl hw hr ho
  refine ⟨φ, undef, _, .inr ⟨?_, rfl⟩, relV_undef, s', x'⟩
  have hsize : u'.cells.size = n := by have := hr.1; simp at this; omega
  have hone : ∀ v ∈ u'.cells.toList, v.oneCell' = true := by
    intro v hv
    obtain ⟨i, hi⟩ := List.getElem?_of_mem hv
    obtain ⟨w, p, q⟩ := hr.get' hi
    rw [List.all_eq_true] at ho
    exact q.one (ho w (List.mem_of_getElem? p))
  have := run_storeCells (P := P) (b := l.b) (o := l.base + o) (vs := u'.cells.toList) (W := W) (i := 0) (by simpa using h1) (by simpa using h2) hone
  simp only [Nat.add_zero] at this
  simp [Instr.storeAt, Instr.sureAddr, storeVar, run_sz hn, hsize, this]

theorem prim_ixV {t : TypeId} {e : TypeId} {esz : Nat} {a : Addr} {len cap : Nat} {k : IntKind} {i : Int} {x' : Value} (s : Sim B W0 φ H.get? W) (hx : RelV φ (.slice (some a) len cap) x') (ht : P.underlying t = some (.slice e))
    (hs : sizeT P e = some esz) (h0 : 0 ≤ i) (h1 : i < len) :
    Prim B W0 φ H W ((do pure (Next.value (← Instr.indexAt t x' (.int k i))) : Sem Next).run P W) (.pointer (some (addOff a (i.toNat * esz)))) H := by
  rcases relV_sl hx with ⟨c, o, l, k', rfl, hl, hk, hn, rfl⟩ | ⟨c, o, a', k', rfl, rfl, rfl, rfl⟩
  · refine Prim.pure (v' := .pointer (some ⟨l.b, l.base + (o + i.toNat * esz), none⟩)) s ?_ (RelV.ptr hl)
    simp [Instr.indexAt, asIntOf, run_un ht, h0, h1, run_sz hs, Addr.add_at, Nat.add_assoc]
  · omega

theorem prim_ixA {t : TypeId} {e : TypeId} {esz len : Nat} {a : Addr} {k : IntKind} {i : Int} {x' : Value} (s : Sim B W0 φ H.get? W) (hx : RelV φ (.pointer (some a)) x') (ht : P.underlying t = some (.array len e))
    (hs : sizeT P e = some esz) (h0 : 0 ≤ i) (h1 : i < len) :
    Prim B W0 φ H W ((do pure (Next.value (← Instr.indexAt t x' (.int k i))) : Sem Next).run P W) (.pointer (some (addOff a (i.toNat * esz)))) H := by
  obtain ⟨c, o, l, rfl, hl, rfl⟩ := relV_ptr hx
  refine Prim.pure (v' := .pointer (some ⟨l.b, l.base + (o + i.toNat * esz), none⟩)) s ?_ (RelV.ptr hl)
  simp [Instr.indexAt, asIntOf, run_un ht, h0, h1, run_sz hs, Addr.add_at, Nat.add_assoc, Instr.sureAddr]

theorem prim_fld {t : TypeId} {fs : Array Field} {f n : Nat} {fd : Field} {a : Addr} {x' : Value} (s : Sim B W0 φ H.get? W) (hx : RelV φ (.pointer (some a)) x') (ht : P.underlying t = some (.struct fs))
    (hf : fs[f]? = some fd) (hs : sizeT P fd.type = some n) (hn : n ≠ 0) :
    Prim B W0 φ H W ((do pure (Next.value (← Instr.fieldAt t x' f)) : Sem Next).run P W) (.pointer (some (addOff a fd.offset))) H := by
  obtain ⟨c, o, l, rfl, hl, rfl⟩ := relV_ptr hx
  refine Prim.pure (v' := .pointer (some ⟨l.b, l.base + (o + fd.offset), none⟩)) s ?_ (RelV.ptr hl)
  simp [Instr.fieldAt, run_un ht, hf, Instr.sureAddr, fieldPlace, run_sz hs, hn, Addr.add_at, Nat.add_assoc]

theorem arith_sound {op : BinOp} {t : TypeId} {x y x' y' : Value} (hx : RelV φ x x') (hy : RelV φ y y') (h : arith op x y = some v) :
    (binOp op t x' y').run P W = .ok v W ∧ RelV φ v v := by
  cases x with
  | int k a =>
    cases y with
    | int k' b =>
      have := relV_int hx; subst this; have := relV_int hy; subst this
      simp only [arith] at h
      by_cases hk : k = k'
      · subst hk
        cases op <;> simp only [ne_eq, not_true_eq_false, if_false] at h <;> first
          | (split at h <;> first | (cases h; done) | (cases h; rename_i hb; refine ⟨?_, .int _ _⟩; simp [binOp, Op.shift, Op.intDiv, hb]; done))
          | (cases h; exact ⟨by simp [binOp, Op.intArith, Op.intBits, Op.intCmp], by first | exact .int _ _ | exact .bool _⟩)
          | cases h
      · cases op <;> simp only [ne_eq, hk, not_false_eq_true, if_true] at h <;> first
          | (split at h <;> first | (cases h; done) | (cases h; rename_i hb; refine ⟨?_, .int _ _⟩; simp [binOp, Op.shift, hb]; done))
          | cases h
    | _ => simp [arith] at h
  | string a =>
    cases y with
    | string b =>
      have := relV_str hx; subst this; have := relV_str hy; subst this
      cases op <;> simp only [arith] at h <;> first
        | (split at h <;> first | (cases h; done) | (cases h; rename_i hb; exact ⟨by simp only [binOp, Op.stringOp, IntKind.max_i64, hb, if_false]; rfl, .str _⟩))
        | (cases h; exact ⟨by simp [binOp, Op.stringOp], .bool _⟩)
        | cases h
    | _ => simp [arith] at h
  | _ => simp [arith] at h

theorem eqGuard_arith {op : BinOp} {t : TypeId} {x y : Operand} {a b a' b' : Value} (hx : RelV φ a a') (hy : RelV φ b b') (h : arith op a b = some v) : eqGuard op t x y a' b' = pure () := by
  cases a with
  | int k n => have := relV_int hx; subst this; exact eqGuard_at_int ..
  | string s => have := relV_str hx; subst this; exact eqGuard_at_string ..
  | _ => simp [arith] at h

theorem prim_ar {op : BinOp} {t : TypeId} {x y : Operand} (s : Sim B W0 φ H.get? W) (hx : RelV φ (ρ x) (ρ' x)) (hy : RelV φ (ρ y) (ρ' y)) (h : arith op (ρ x) (ρ y) = some v) :
    Prim B W0 φ H W ((do pure (Next.value (← (do eqGuard op t x y (ρ' x) (ρ' y); binOp op t (ρ' x) (ρ' y)))) : Sem Next).run P W) v H := by
  obtain ⟨h1, h2⟩ := arith_sound (P := P) (W := W) (t := t) hx hy h
  refine Prim.pure s ?_ h2
  simp [eqGuard_arith (t := t) (x := x) (y := y) hx hy h, h1]

theorem prim_un {op : UnOp} {x x' : Value} (s : Sim B W0 φ H.get? W) (hx : RelV φ x x') (h : unary op x = some v) :
    Prim B W0 φ H W ((do pure (Next.value (← Op.unary op x')) : Sem Next).run P W) v H := by
  cases x with
  | int k n =>
    have := relV_int hx; subst this
    cases op <;> simp only [unary] at h <;> first
      | (cases h; exact Prim.pure s (by simp [Op.unary, Op.intArith, Op.intBits]; done) (.int _ _))
      | cases h
  | bool b =>
    have := relV_bool hx; subst this
    cases op <;> simp only [unary] at h <;> first
      | (cases h; exact Prim.pure s (by simp [Op.unary]; done) (.bool _))
      | cases h
  | _ => simp [unary] at h

end
end Go.Cm
