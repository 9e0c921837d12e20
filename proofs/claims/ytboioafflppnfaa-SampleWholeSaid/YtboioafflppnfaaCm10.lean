/- The canonical machine's primitive operations, sixth part: lengths, copies, comparisons, maps. Conditions: none. -/
import Derived.Test.YtboioafflppnfaaCm9
import Derived.Laws.StructEq
namespace Go.Cm
open Go.RowKit
set_option linter.unusedVariables false
set_option linter.unusedSimpArgs false

section
variable {B : Nat} {W0 : World} {φ : Emb} {H H' : Heap} {W : World} {v v' : Value} {P : Program} {G : Nat} {ρ ρ' : Operand → Value}

theorem prim_app {t u ty e e2 : TypeId} {esz bytes len cap : Nat} {a : Option Addr} {x x' y' z : Value} {vs : List Value} {cs : Array Bool} (s : Sim B W0 φ H.get? W) (free : Free φ H H') (ht : P.underlying t = some (.slice e)) (hu : P.underlying u = some (.slice e2))
    (hs : sizeT P e = some esz) (hb : bytesT P e = some bytes) (hz : zeroOf P e = some z) (hzs : z.cells.size = esz) (he0 : 0 < esz) (hb0 : 0 < bytes) (hx : RelV φ x x') (hy : RelV φ (.slice a len cap) y')
    (hv : sliceCells H esz len (.slice a len cap) = some vs) (h : appendTo H esz bytes x len vs = some (v, H')) :
    Prim B W0 φ H W ((builtin .append #[t, u] ty cs #[x', y']).run P W) v H' := by
  obtain ⟨g1, g2, a', k', vs', rfl, g3, g4⟩ := sliceCells_all (P := P) s hy (Nat.le_refl _) hv
  obtain ⟨φ', v', W', r1, r2, r3, r4⟩ := append_ok (P := P) (ty := ty) (y' := .slice a' len k') s free ht hu (by simp) hs hb hz hzs he0 hb0 hx (by simp [Builtin.lenOf]) g4 g2 g3 h
  exact ⟨φ', v', W', .inl (by simp [builtin, r1]), r2, r3, r4⟩

theorem prim_appS {t u ty e : TypeId} {sv : ByteArray} {x x' y' z : Value} {cs : Array Bool} (s : Sim B W0 φ H.get? W) (free : Free φ H H') (ht : P.underlying t = some (.slice e)) (hu : P.underlying u = some .string)
    (hs : sizeT P e = some 1) (hb : bytesT P e = some 1) (hz : zeroOf P e = some z) (hzs : z.cells.size = 1) (hx : RelV φ x x') (hy : RelV φ (.string sv) y')
    (h : appendTo H 1 1 x sv.size (ofBytes sv) = some (v, H')) :
    Prim B W0 φ H W ((builtin .append #[t, u] ty cs #[x', y']).run P W) v H' := by
  have := relV_str hy; subst this
  obtain ⟨φ', v', W', r1, r2, r3, r4⟩ := append_ok (P := P) (ty := ty) (y' := .string sv) (vs' := ofBytes sv) s free ht hu (by simp) hs hb hz hzs (by omega) (by omega) hx (by simp [Builtin.lenOf]) (fun w _ => by
    have : sv.extract 0 sv.size = sv := by apply ByteArray.ext; simp
    simp only [Builtin.firstCells, this, Sem.run_pure]
    congr 1
    apply Array.ext'
    simp [ofBytes]) (ofBytes_one sv) (ofBytes_rel sv) h
  exact ⟨φ', v', W', .inl (by simp [builtin, r1]), r2, r3, r4⟩

theorem copy_core {t u ty e : TypeId} {esz n dl k' : Nat} {l : Loc} {c o : Nat} {y' : Value} {vs vs' : List Value} {H2 : Heap} (s : Sim B W0 φ H.get? W) (ht : P.underlying t = some (.slice e)) (hs : sizeT P e = some esz) {m : Nat} (hlen : (Builtin.lenOf y').run P W = .ok m W) (hn : Nat.min m dl = n)
    (hnew : (Builtin.firstCells esz n y').run P W = .ok vs'.toArray W) (ho : vs.all one = true) (hr : RelL φ vs vs') (hl : φ c = some l) (hw : H.wr ⟨c, o, none⟩ vs = some H2) :
    ∃ W', (Builtin.copy_ #[t, u] ty #[.slice (some ⟨l.b, l.base + o, none⟩) dl k', y']).run P W = .ok (.int .i64 n) W' ∧ Sim B W0 φ H2.get? W' ∧ Ext φ φ H H2 W W' := by
  have hone' : ∀ v ∈ vs', v.oneCell' = true := by
    intro v hv
    obtain ⟨i, hi⟩ := List.getElem?_of_mem hv
    obtain ⟨w, p, q⟩ := hr.get' hi
    rw [List.all_eq_true] at ho
    exact q.one (ho w (List.mem_of_getElem? p))
  obtain ⟨h1, h2, s', x'⟩ := s.write hl hw hr ho
  refine ⟨_, ?_, s', x'⟩
  have := run_storeCells (P := P) (b := l.b) (o := l.base + o) (vs := vs') (W := W) (i := 0) (by simpa using h1) (by simpa using h2) hone'
  simp only [Nat.add_zero] at this
  simp only [Builtin.copy_]
  simp [run_un ht, run_sz hs, hlen, hn, hnew, this, goInt]

theorem copy_none {t u ty e : TypeId} {esz dl k' m : Nat} {d : Option Addr} {y' : Value} (ht : P.underlying t = some (.slice e)) (hs : sizeT P e = some esz) (hlen : (Builtin.lenOf y').run P W = .ok m W) (hn : Nat.min m dl = 0)
    (hnew : (Builtin.firstCells esz 0 y').run P W = .ok #[] W) :
    (Builtin.copy_ #[t, u] ty #[.slice d dl k', y']).run P W = .ok (.int .i64 0) W := by
  simp only [Builtin.copy_]
  simp [run_un ht, run_sz hs, hlen, hn, hnew, goInt]
  cases d <;> simp [storeCells]

theorem prim_copyV {t u ty e : TypeId} {esz dl dc sl c : Nat} {d a : Option Addr} {x' y' : Value} {cs : Array Bool} (s : Sim B W0 φ H.get? W) (ht : P.underlying t = some (.slice e)) (hs : sizeT P e = some esz)
    (hx : RelV φ (.slice d dl dc) x') (hy : RelV φ (.slice a sl c) y')
    (h : (if min sl dl = 0 then some (Value.int .i64 0, H) else (match (generalizing := false) sliceCells H esz (min sl dl) (.slice a sl c), d with
      | some vs, some a => (match H.wr a vs with | some h' => some (.int .i64 (min sl dl : Nat), h') | none => none)
      | _, _ => none)) = some (v, H')) :
    Prim B W0 φ H W ((builtin .copy #[t, u] ty cs #[x', y']).run P W) v H' := by
  have hylen : ∃ a' k', y' = .slice a' sl k' := by
    cases a with
    | none => obtain ⟨rfl, rfl, rfl⟩ := relV_nils hy; exact ⟨_, _, rfl⟩
    | some a => rcases relV_sl hy with ⟨_, _, _, k', _, _, _, _, rfl⟩ | ⟨_, _, a', k', _, rfl, _, rfl⟩ <;> exact ⟨_, _, rfl⟩
  have hxlen : ∃ a' k', x' = .slice a' dl k' := by
    cases d with
    | none => obtain ⟨rfl, rfl, rfl⟩ := relV_nils hx; exact ⟨_, _, rfl⟩
    | some a => rcases relV_sl hx with ⟨_, _, _, k', _, _, _, _, rfl⟩ | ⟨_, _, a', k', _, rfl, _, rfl⟩ <;> exact ⟨_, _, rfl⟩
  by_cases h0 : min sl dl = 0
  · rw [if_pos h0] at h
    simp only [Option.some.injEq, Prod.mk.injEq] at h
    obtain ⟨rfl, rfl⟩ := h
    obtain ⟨a', k', rfl⟩ := hylen
    obtain ⟨d', kd, rfl⟩ := hxlen
    refine Prim.pure s ?_ (.int _ _)
    have := copy_none (P := P) (W := W) (u := u) (ty := ty) (d := d') (k' := kd) (y' := .slice a' sl k') ht hs (m := sl) (dl := dl) (by simp [Builtin.lenOf]) h0 (by cases a' <;> simp [Builtin.firstCells, loadCells, loadCellsFrom])
    simp [builtin, this]
  · rw [if_neg h0] at h
    cases hsc : sliceCells H esz (min sl dl) (.slice a sl c) with
    | none => rw [hsc] at h; simp at h
    | some vs =>
      rw [hsc] at h
      cases d with
      | none => simp at h
      | some d =>
        simp only at h
        split at h
        · rename_i H2 hw
          simp only [Option.some.injEq, Prod.mk.injEq] at h
          obtain ⟨rfl, rfl⟩ := h
          obtain ⟨g1, g2, a', k', vs', rfl, g3, g4⟩ := sliceCells_ok (P := P) s hy (Nat.min_le_left _ _) hsc
          rcases relV_sl hx with ⟨cd, o, l, kd, rfl, hl, hk, hn, rfl⟩ | ⟨_, _, _, _, _, rfl, _, _⟩
          · obtain ⟨W', r1, r2, r3⟩ := copy_core (P := P) (u := u) (ty := ty) (k' := kd) (dl := dl) (y' := .slice a' sl k') s ht hs (m := sl) (by simp [Builtin.lenOf]) rfl g4 g2 g3 hl hw
            exact ⟨φ, _, W', .inl (by simp only [builtin, Sem.run_bind, r1, Result.andThen_ok, Sem.run_pure]), .int _ _, r2, r3⟩
          · simp at h0
        · cases h

theorem prim_copyS {t u ty e : TypeId} {dl dc : Nat} {d : Option Addr} {sv : ByteArray} {x' y' : Value} {cs : Array Bool} (s : Sim B W0 φ H.get? W) (ht : P.underlying t = some (.slice e)) (hs : sizeT P e = some 1)
    (hx : RelV φ (.slice d dl dc) x') (hy : RelV φ (.string sv) y')
    (h : (if min sv.size dl = 0 then some (Value.int .i64 0, H) else (match (generalizing := false) d with
      | some a => (match H.wr a ((ofBytes sv).take dl) with | some h' => some (.int .i64 (min sv.size dl : Nat), h') | none => none)
      | none => none)) = some (v, H')) :
    Prim B W0 φ H W ((builtin .copy #[t, u] ty cs #[x', y']).run P W) v H' := by
  have := relV_str hy; subst this
  have hxlen : ∃ a' k', x' = .slice a' dl k' := by
    cases d with
    | none => obtain ⟨rfl, rfl, rfl⟩ := relV_nils hx; exact ⟨_, _, rfl⟩
    | some a => rcases relV_sl hx with ⟨_, _, _, k', _, _, _, _, rfl⟩ | ⟨_, _, a', k', _, rfl, _, rfl⟩ <;> exact ⟨_, _, rfl⟩
  have hfc : ∀ n, (Builtin.firstCells 1 n (.string sv)).run P W = .ok ((ofBytes sv).take n).toArray W := by
    intro n
    simp only [Builtin.firstCells, Sem.run_pure]
    congr 1
    apply Array.ext'
    simp [ofBytes, List.map_take]
  by_cases h0 : min sv.size dl = 0
  · rw [if_pos h0] at h
    simp only [Option.some.injEq, Prod.mk.injEq] at h
    obtain ⟨rfl, rfl⟩ := h
    obtain ⟨d', kd, rfl⟩ := hxlen
    refine Prim.pure s ?_ (.int _ _)
    have := copy_none (P := P) (W := W) (u := u) (ty := ty) (d := d') (k' := kd) (y' := .string sv) ht hs (m := sv.size) (dl := dl) (by simp [Builtin.lenOf]) h0 (by simpa using hfc 0)
    simp [builtin, this]
  · rw [if_neg h0] at h
    cases d with
    | none => simp at h
    | some d =>
      simp only at h
      split at h
      · rename_i H2 hw
        simp only [Option.some.injEq, Prod.mk.injEq] at h
        obtain ⟨rfl, rfl⟩ := h
        rcases relV_sl hx with ⟨cd, o, l, kd, rfl, hl, hk, hn, rfl⟩ | ⟨_, _, _, _, _, rfl, _, _⟩
        · have e1 : (ofBytes sv).take (min sv.size dl) = (ofBytes sv).take dl := by
            rw [← List.take_take, List.take_of_length_le (i := sv.size) (l := (ofBytes sv).take dl)]
            simp [ofBytes_length]; omega
          obtain ⟨W', r1, r2, r3⟩ := copy_core (P := P) (u := u) (ty := ty) (k' := kd) (dl := dl) (y' := .string sv) s ht hs (m := sv.size) (by simp [Builtin.lenOf]) rfl (by rw [show Nat.min sv.size dl = min sv.size dl from rfl, hfc, e1])
            (by rw [List.all_eq_true]; intro v hv; obtain ⟨n, rfl⟩ := ofBytes_mem (List.mem_of_mem_take hv); rfl) ((ofBytes_rel sv).take dl) hl hw
          exact ⟨φ, _, W', .inl (by simp only [builtin, Sem.run_bind, r1, Result.andThen_ok, Sem.run_pure]), .int _ _, r2, r3⟩
        · simp at h0
      · cases h

/-! ### comparisons -/

/-- the type that a comparison is made at -/
def EqTy (P : Program) (ty : TypeId) (ox oy : Operand) : EqT → Prop
  | .bool => P.underlying ty = some .bool
  | .ptr => ∃ e, P.underlying ty = some (.pointer e)
  | .slice => ∃ e, P.underlying ty = some (.slice e)
  | .map => ∃ k e, P.underlying ty = some (.map k e)
  | .func => ∃ a b c, P.underlying ty = some (.func a b c)
  | .iface => ∃ ms, P.underlying ty = some (.interface ms)
  | .ifaceC => (∃ ms, P.underlying ty = some (.interface ms)) ∧ (nilC ox || nilC oy) = true
  | .plain _ => False

theorem eqVal_sound {t : EqT} {x y x' y' : Value} {b : Bool} {ty : TypeId} {op : BinOp} {ox oy : Operand} (hx : RelV φ x x') (hy : RelV φ y y') (h : eqVal t x y = some b) (hty : EqTy P ty ox oy t) :
    (eqGuard op ty ox oy x' y').run P W = .ok () W ∧ (Op.equal ty x' y').run P W = .ok b W ∧ (∀ k n, x' ≠ .int k n) ∧ (∀ s, x' ≠ .string s) ∧ (∀ k n, x' ≠ .float k n) ∧ (∀ k n m, x' ≠ .complex k n m) := by
  have e1 : Op.equal ty x' y' = Op.equalIn (9999 + 1) ty x' y' := rfl
  rw [e1]
  generalize 9999 = d
  unfold eqVal at h
  split at h
  · cases h
    have := relV_bool hx; subst this; have := relV_bool hy; subst this
    have hty : P.underlying ty = some .bool := hty
    exact ⟨by rw [eqGuard_at_bool]; rfl, by simp [Op.equalIn, run_un hty], by simp, by simp, by simp, by simp⟩
  · cases h
    have := relV_nilp hx; subst this
    obtain ⟨e, hty⟩ := hty
    cases hy <;> exact ⟨by rw [eqGuard_at_pointer]; rfl, by simp [Op.equalIn, run_un hty], by simp, by simp, by simp, by simp⟩
  · cases h
    obtain ⟨_, _, _, _, _, rfl⟩ := relV_ptr hx
    have := relV_nilp hy; subst this
    obtain ⟨e, hty⟩ := hty
    exact ⟨by rw [eqGuard_at_pointer]; rfl, by simp [Op.equalIn, run_un hty], by simp, by simp, by simp, by simp⟩
  · cases h
    obtain ⟨_, _, rfl⟩ := relV_nils hx
    obtain ⟨e, hty⟩ := hty
    cases hy <;> exact ⟨by rw [eqGuard_at_slice]; rfl, by simp [Op.equalIn, run_un hty], by simp, by simp, by simp, by simp⟩
  · cases h
    obtain ⟨_, _, rfl⟩ := relV_nils hy
    obtain ⟨e, hty⟩ := hty
    rcases relV_sl hx with ⟨_, _, _, _, _, _, _, _, rfl⟩ | ⟨_, _, _, _, _, _, _, rfl⟩ <;> exact ⟨by rw [eqGuard_at_slice]; rfl, by simp [Op.equalIn, run_un hty], by simp, by simp, by simp, by simp⟩
  · cases h
    have := relV_nilm hx; subst this
    obtain ⟨k, e, hty⟩ := hty
    cases hy <;> exact ⟨by rw [eqGuard_at_map]; rfl, by simp [Op.equalIn, run_un hty], by simp, by simp, by simp, by simp⟩
  · cases h
    obtain ⟨_, _, _, rfl⟩ := relV_map hx
    have := relV_nilm hy; subst this
    obtain ⟨k, e, hty⟩ := hty
    exact ⟨by rw [eqGuard_at_map]; rfl, by simp [Op.equalIn, run_un hty], by simp, by simp, by simp, by simp⟩
  · cases h
    have := relV_nili hx; subst this
    obtain ⟨_, rfl, _⟩ := relV_iface hy
    obtain ⟨ms, hty⟩ := hty
    exact ⟨by rw [eqGuard_nil_iface]; rfl, by simp [Op.equalIn, run_un hty], by simp, by simp, by simp, by simp⟩
  · cases h
    have := relV_nili hy; subst this
    obtain ⟨_, rfl, _⟩ := relV_iface hx
    obtain ⟨ms, hty⟩ := hty
    exact ⟨by rw [eqGuard_at_iface]; rfl, by simp [Op.equalIn, run_un hty], by simp, by simp, by simp, by simp⟩
  · cases h
    have := relV_nili hx; subst this
    obtain ⟨_, rfl, _⟩ := relV_iface hy
    obtain ⟨⟨ms, hty⟩, _⟩ := hty
    exact ⟨by rw [eqGuard_nil_iface]; rfl, by simp [Op.equalIn, run_un hty], by simp, by simp, by simp, by simp⟩
  · cases h
    have := relV_nili hy; subst this
    obtain ⟨_, rfl, _⟩ := relV_iface hx
    obtain ⟨⟨ms, hty⟩, _⟩ := hty
    exact ⟨by rw [eqGuard_at_iface]; rfl, by simp [Op.equalIn, run_un hty], by simp, by simp, by simp, by simp⟩
  · cases h
    have := relV_nili hx; subst this
    have := relV_nili hy; subst this
    obtain ⟨⟨ms, hty⟩, hn⟩ := hty
    refine ⟨?_, by simp [Op.equalIn, run_un hty], by simp, by simp, by simp, by simp⟩
    simp only [Bool.or_eq_true] at hn
    rcases hn with hn | hn
    · cases ox with
      | const c => rw [eqGuard_nil_constL]; rfl
      | _ => simp [nilC] at hn
    · cases oy with
      | const c => rw [eqGuard_nil_constR]; rfl
      | _ => simp [nilC] at hn
  · cases h
    have := relV_nilf hx; subst this
    obtain ⟨a, b, c, hty⟩ := hty
    cases hy with
    | func => exact ⟨by rw [eqGuard_at_nilFunc]; rfl, by simp [Op.equalIn, run_un hty], by simp, by simp, by simp, by simp⟩
  · cases h
    have := relV_nilf hy; subst this
    obtain ⟨a, b, c, hty⟩ := hty
    cases hx with
    | func => exact ⟨by rw [eqGuard_at_func]; rfl, by simp [Op.equalIn, run_un hty], by simp, by simp, by simp, by simp⟩
  · cases h
    have := relV_nilf hx; subst this
    have := relV_nilf hy; subst this
    obtain ⟨a, b, c, hty⟩ := hty
    exact ⟨by rw [eqGuard_at_nilFunc]; rfl, by simp [Op.equalIn, run_un hty], by simp, by simp, by simp, by simp⟩
  · exact hty.elim
  · cases h

end
end Go.Cm
