/- The canonical machine's primitive operations, fourth part: conversions, lengths, appends, copies. Conditions: none. -/
import Derived.Test.YtboioafflppnfaaCm7
import Derived.Lib.ConvBytes
import Derived.Laws.BytesString
import Derived.Laws.Append
namespace Go.Cm
open Go.RowKit
set_option linter.unusedVariables false
set_option linter.unusedSimpArgs false

section
variable {B : Nat} {W0 : World} {φ : Emb} {H H' : Heap} {W : World} {r : Result Next} {v v' : Value} {P : Program} {G : Nat} {ρ ρ' : Operand → Value}

theorem prim_conv {src dst : TypeId} {k kk ks : IntKind} {n : Int} {x' : Value} (s : Sim B W0 φ H.get? W) (h1 : P.underlying src = some (.int ks)) (h2 : P.underlying dst = some (.int k)) (hx : RelV φ (.int kk n) x') :
    Prim B W0 φ H W ((do pure (Next.value (← convert src dst x')) : Sem Next).run P W) (.int k (k.wrap n)) H := by
  have := relV_int hx; subst this
  exact Prim.pure s (by simp [convert, run_un h1, run_un h2, Conv.intToInt]) (.int _ _)

theorem sliceCells_ok {esz n len cap : Nat} {a : Option Addr} {x' : Value} {vs : List Value} (s : Sim B W0 φ H.get? W) (hx : RelV φ (.slice a len cap) x') (hn : n ≤ len) (h : sliceCells H esz n (.slice a len cap) = some vs) :
    vs.length = n * esz ∧ vs.all one = true ∧ ∃ a' k' vs', x' = .slice a' len k' ∧ RelL φ vs vs' ∧ (Builtin.firstCells esz n x').run P W = .ok vs'.toArray W := by
  simp only [sliceCells] at h
  split at h
  · rename_i h0
    subst h0
    cases h
    refine ⟨by simp, rfl, ?_⟩
    cases a with
    | none => obtain ⟨rfl, rfl, rfl⟩ := relV_nils hx; exact ⟨none, 0, [], rfl, .nil, by simp [Builtin.firstCells]⟩
    | some a =>
      rcases relV_sl hx with ⟨c, o, lc, k', rfl, hl, hk, hn', rfl⟩ | ⟨c, o, a', k', rfl, rfl, rfl, rfl⟩
      · exact ⟨_, _, [], rfl, .nil, by simp [Builtin.firstCells, loadCells, loadCellsFrom]⟩
      · exact ⟨_, _, [], rfl, .nil, by simp [Builtin.firstCells, loadCells, loadCellsFrom]⟩
  · cases a with
    | none => cases h
    | some a =>
      simp only [hn, if_true] at h
      rcases relV_sl hx with ⟨c, o, lc, k', rfl, hl, hk, hn', rfl⟩ | ⟨c, o, a', k', rfl, rfl, rfl, rfl⟩
      · obtain ⟨g1, g2, vs', g3, g4⟩ := s.rdN hl h
        exact ⟨g1, g2, _, _, vs', rfl, g3, by simp only [Builtin.firstCells]; exact run_loadCells_at (g3.1.symm.trans g1) g4⟩
      · omega

theorem toBytes_rel {φ : Emb} : ∀ {cs cs' : List Value} {l : List UInt8}, RelL φ cs cs' → toBytes cs = some l → ∃ ns : List Int, cs' = ns.map (Value.int .u8) ∧ l = ns.map fun n => UInt8.ofNat n.toNat
  | [], cs', l, hr, h => by
    cases h
    have := hr.1
    simp at this
    exact ⟨[], by simp [List.length_eq_zero_iff.1 this.symm], rfl⟩
  | .int .u8 n :: cs, cs', l, hr, h => by
    simp only [toBytes] at h
    split at h
    · rename_i l' hl
      cases h
      cases cs' with
      | nil => have := hr.1; simp at this
      | cons c cs' =>
        have h0 : RelV φ (.int .u8 n) c := hr.2 0 _ _ rfl rfl
        have := relV_int h0; subst this
        obtain ⟨ns, e1, e2⟩ := toBytes_rel (by simpa using hr.drop 1) hl
        exact ⟨n :: ns, by simp [e1], by simp [e2]⟩
    · cases h
theorem push_foldl (f : Int → UInt8) : ∀ (ns : List Int) (s : ByteArray), (ns.foldl (fun r n => r.push (f n)) s) = ⟨(s.data.toList ++ ns.map f).toArray⟩
  | [], s => by simp
  | n :: ns, s => by
    simp only [List.foldl_cons]
    rw [push_foldl f ns]
    simp [ByteArray.push]

theorem prim_convBS {src dst e : TypeId} {len cap : Nat} {a : Option Addr} {x' : Value} {cs : List Value} {l : List UInt8} (s : Sim B W0 φ H.get? W) (h1 : P.underlying src = some (.slice e)) (h2 : P.underlying dst = some .string)
    (h3 : P.underlying e = some (.int .u8)) (hx : RelV φ (.slice a len cap) x') (hc : (match (generalizing := false) a with | none => cs = [] | some _ => sliceCells H 1 len (.slice a len cap) = some cs)) (hb : toBytes cs = some l) :
    Prim B W0 φ H W ((do pure (Next.value (← convert src dst x')) : Sem Next).run P W) (.string ⟨l.toArray⟩) H := by
  cases a with
  | none =>
    obtain ⟨rfl, rfl, rfl⟩ := relV_nils hx
    simp only at hc
    subst hc
    cases hb
    refine Prim.pure s ?_ (.str _)
    simp [run_convert_bytes_string W src dst e _ _ _ h1 h3 h2, Conv.bytesToString]
    rfl
  | some a =>
    simp only at hc
    obtain ⟨g1, g2, a', k', vs', rfl, g3, g4⟩ := sliceCells_ok (P := P) s hx (Nat.le_refl _) hc
    obtain ⟨ns, e1, e2⟩ := toBytes_rel g3 hb
    subst e1 e2
    cases a' with
    | none => cases hx
    | some a' =>
      simp only [Builtin.firstCells, Nat.mul_one] at g4
      refine Prim.pure s ?_ (.str _)
      simp only [Sem.run_bind, run_convert_bytes_string W src dst e _ _ _ h1 h3 h2, run_bytesToString W a' len k' ns g4, Result.andThen_ok, Sem.run_pure]
      rw [push_foldl]
      simp

theorem bytesWorld_eq (W : World) (e : TypeId) (sv : ByteArray) : Lib.bytesWorld W e sv = W.drew.alloc (.cells (Lib.bytesCells W e sv) e ((Lib.bytesCells W e sv).size, (Lib.bytesCells W e sv).size + 1)) := by
  have hh : (Lib.bytesWorld W e sv).heap = (W.drew.alloc (.cells (Lib.bytesCells W e sv) e ((Lib.bytesCells W e sv).size, (Lib.bytesCells W e sv).size + 1))).heap := by
    apply Array.ext_getElem?
    intro i
    rcases Nat.lt_trichotomy i W.heap.size with h | h | h
    · rw [Lib.bytesWorld_at_old _ _ _ _ h]
      show _ = (W.heap.push _)[i]?
      rw [Array.getElem?_push, if_neg (by omega)]
    · subst h
      rw [Lib.bytesWorld_at_new]
      show _ = (W.heap.push _)[W.heap.size]?
      simp
    · rw [Array.getElem?_eq_none (by rw [Lib.bytesWorld_size]; omega)]
      show _ = (W.heap.push _)[i]?
      rw [Array.getElem?_eq_none (by simp; omega)]
  have : ∀ (a b : World), a.heap = b.heap → a.tape = b.tape → a.drawn = b.drawn → a.os = b.os → a.output = b.output → a = b := by
    intro a b h1 h2 h3 h4 h5
    cases a; cases b; simp_all
  refine this _ _ hh ?_ ?_ ?_ ?_ <;> simp [Lib.bytesWorld, World.freeze, World.alloc, World.drew, -World.alloc_eq, -World.drew_eq]

theorem ofBytes_mem {sv : ByteArray} {v : Value} (h : v ∈ ofBytes sv) : ∃ n, v = .int .u8 n := by
  simp only [ofBytes, List.mem_map] at h
  obtain ⟨b, _, rfl⟩ := h
  exact ⟨_, rfl⟩
theorem ofBytes_one (sv : ByteArray) : (ofBytes sv).all one = true := by
  rw [List.all_eq_true]
  intro v hv
  obtain ⟨n, rfl⟩ := ofBytes_mem hv
  rfl
theorem ofBytes_rel {φ : Emb} (sv : ByteArray) : RelL φ (ofBytes sv) (ofBytes sv) := RelL.plain (by
  rw [List.all_eq_true]
  intro v hv
  obtain ⟨n, rfl⟩ := ofBytes_mem hv
  rfl)
theorem ofBytes_length (sv : ByteArray) : (ofBytes sv).length = sv.size := by
  simp only [ofBytes, List.length_map, Array.length_toList]; rfl
theorem alloc_at (W : World) (ob : Obj) : (W.alloc ob).heap[W.heap.size]? = some ob := by
  show (W.heap.push ob)[W.heap.size]? = _
  simp
theorem alloc_cell (W : World) (c : Array Value) (e : TypeId) (fz : Nat × Nat) (i : Nat) : (W.alloc (.cells c e fz)).cell? ⟨W.heap.size, i, none⟩ = c[i]? := by
  simp only [World.cell?, alloc_at]; rfl
theorem alloc_frozen (W : World) (c : Array Value) (e : TypeId) (lo hi : Nat) (i : Nat) : (W.alloc (.cells c e (lo, hi))).frozen? ⟨W.heap.size, i, none⟩ = (decide (lo ≤ i) && decide (i < hi)) := by
  simp only [World.frozen?, alloc_at]

theorem prim_convSB {src dst e : TypeId} {sv : ByteArray} {x' : Value} (s : Sim B W0 φ H.get? W) (free : Free φ H (H.push (.loose 1 (ofBytes sv)))) (h1 : P.underlying src = some .string) (h2 : P.underlying dst = some (.slice e))
    (h3 : P.underlying e = some (.int .u8)) (hx : RelV φ (.string sv) x') :
    Prim B W0 φ H W ((do pure (Next.value (← convert src dst x')) : Sem Next).run P W) (.slice (some ⟨H.n, 0, none⟩) sv.size sv.size) (H.push (.loose 1 (ofBytes sv))) := by
  have := relV_str hx; subst this
  have hn : φ H.n = none := free H.n (Nat.le_refl _) (by simp)
  have hsize : (Lib.bytesCells W e sv).size = sv.size + (grownCap W sv.size 0 e - sv.size) := by simp only [Lib.bytesCells, Array.size_append, Array.size_map, Array.size_replicate]; rfl
  have hg : sv.size ≤ grownCap W sv.size 0 e := by
    unfold grownCap
    simp only [Question.cut]
    omega
  obtain ⟨s', x'⟩ := s.drew.allocLoose (cs := ofBytes sv) (ar := Lib.bytesCells W e sv) (e := e) (esz := 1) (ob := .cells (Lib.bytesCells W e sv) e ((Lib.bytesCells W e sv).size, (Lib.bytesCells W e sv).size + 1)) hn (ofBytes_one sv)
    ⟨ofBytes sv, ofBytes_rel sv, fun i u hu => by
      have hi : i < (ofBytes sv).length := by
        rcases Nat.lt_or_ge i (ofBytes sv).length with g | g
        · exact g
        · rw [List.getElem?_eq_none g] at hu; cases hu
      rw [Lib.bytesCells, Array.getElem?_append_left (by simpa [ofBytes] using hi)]
      simpa [ofBytes] using hu⟩ (by omega) (by rw [ofBytes_length, hsize]; omega)
    (fun i => alloc_cell W.drew _ _ _ i)
    (fun i hi => (alloc_frozen W.drew _ _ _ _ i).trans (by simp; intro; omega))
  refine ⟨_, .slice (some ⟨W.heap.size, 0, none⟩) sv.size (grownCap W sv.size 0 e), _, .inl ?_, RelV.sl (c := H.n) (o := 0) Emb.add_same (.inr ⟨_, rfl, ?_, hg, ?_⟩) (Nat.le_refl _), s', Ext.drew.trans x' free⟩
  · simp only [Sem.run_bind, Lib.run_convert_string_bytes W src dst e sv h1 h2 h3, Result.andThen_ok, Sem.run_pure, bytesWorld_eq]
  · simp [ofBytes_length]
  · simp only [hsize]; omega

theorem prim_ixS {t : TypeId} {sv : ByteArray} {b : UInt8} {k : IntKind} {n : Int} {x' : Value} (s : Sim B W0 φ H.get? W) (ht : P.underlying t = some .string) (hx : RelV φ (.string sv) x') (h0 : 0 ≤ n) (hb : sv[n.toNat]? = some b) :
    Prim B W0 φ H W ((do pure (Next.value (← Instr.index t x' (.int k n))) : Sem Next).run P W) (.int .u8 b.toNat) H := by
  have := relV_str hx; subst this
  exact Prim.pure s (by simp [Instr.index, asIntOf, run_un ht, h0, hb]) (.int _ _)

theorem prim_ixG {t e : TypeId} {len sz : Nat} {ag : Bool} {cs : Array Value} {k : IntKind} {n : Int} {x' : Value} (s : Sim B W0 φ H.get? W) (ht : P.underlying t = some (.array len e)) (hs : sizeT P e = some sz) (ha : aggT P e = some ag)
    (hx : RelV φ (.agg cs) x') (h0 : 0 ≤ n) (h1 : n < len) (hv : (if ag then some (Value.agg (cs.extract (n.toNat * sz) (n.toNat * sz + sz))) else cs[n.toNat * sz]?) = some v) :
    Prim B W0 φ H W ((do pure (Next.value (← Instr.index t x' (.int k n))) : Sem Next).run P W) v H := by
  obtain ⟨cs', rfl, ho, hr⟩ := relV_agg_left hx
  have hi : (0 ≤ n ∧ n < (len : Int)) := ⟨h0, h1⟩
  cases ag with
  | true =>
    simp only [if_true, Option.some.injEq] at hv
    subst hv
    refine Prim.pure (v' := .agg (cs'.extract (n.toNat * sz) (n.toNat * sz + sz))) s ?_ (relV_agg.2 ⟨?_, ?_⟩)
    · simp [Instr.index, asIntOf, run_un ht, hi, run_sz hs, part, run_ag ha]
    · rw [List.all_eq_true] at *
      intro v hv
      simp only [Array.toList_extract, List.extract_eq_take_drop] at hv
      exact ho v (List.mem_of_mem_drop (List.mem_of_mem_take hv))
    · simp only [Array.toList_extract, List.extract_eq_take_drop]
      exact (hr.drop _).take _
  | false =>
    simp only [Bool.false_eq_true, if_false] at hv
    obtain ⟨v', p, q⟩ := hr.get (i := n.toNat * sz) (v := v) (by simpa using hv)
    have p' : cs'[n.toNat * sz]? = some v' := by simpa using p
    exact Prim.pure s (by simp [Instr.index, asIntOf, run_un ht, hi, run_sz hs, part, run_ag ha, p']) q

theorem prim_ext {vs : Array Value} {i : Nat} {x' : Value} (s : Sim B W0 φ H.get? W) (hx : RelV φ (.tuple vs) x') (hv : vs[i]? = some v) :
    Prim B W0 φ H W ((do pure (Next.value (← Instr.extract x' i)) : Sem Next).run P W) v H := by
  obtain ⟨b, rfl, hr⟩ := relV_tuple hx
  obtain ⟨v', p, q⟩ := hr.get (i := i) (v := v) (by simpa using hv)
  have p' : b[i]? = some v' := by simpa using p
  exact Prim.pure s (by simp [Instr.extract, p']) q

theorem prim_tyA {t xt : TypeId} {z x x' : Value} {ok : Bool} (s : Sim B W0 φ H.get? W) {d : TypeDesc} (ht : P.underlying t = some d) (hd : ∀ ms, d ≠ .interface ms) (hz : zeroOf P t = some z) (hx : RelV φ x x')
    (hv : (match (generalizing := false) x with
      | .nilIface => if ok then some (Value.tuple #[z, .bool false], H) else none
      | .iface u v => if u = t then some (if ok then .tuple #[v, .bool true] else v, H) else if ok then some (.tuple #[z, .bool false], H) else none
      | _ => none) = some (v, H')) :
    Prim B W0 φ H W ((do pure (Next.value (← Instr.typeAssert x' xt t ok)) : Sem Next).run P W) v H' := by
  obtain ⟨hr, hp⟩ := run_zv (W := W) hz
  have rel2 : ∀ {a a' : Value} (c : Bool), RelV φ a a' → RelV φ (.tuple #[a, .bool c]) (.tuple #[a', .bool c]) := fun c h => relV_tuple_mk (RelL.cons h (RelL.cons (.bool c) .nil))
  cases x with
  | nilIface =>
    have := relV_nili hx; subst this
    cases ok with
    | false => simp at hv
    | true =>
      simp only [if_true, Option.some.injEq, Prod.mk.injEq] at hv
      obtain ⟨rfl, rfl⟩ := hv
      refine Prim.pure s ?_ (rel2 false (.plain hp))
      cases d <;> simp [Instr.typeAssert, run_un ht, hr]
      all_goals exact absurd rfl (hd _)
  | iface u w =>
    obtain ⟨w', rfl, hw⟩ := relV_iface hx
    simp only at hv
    by_cases hu : u = t
    · rw [if_pos hu] at hv
      simp only [Option.some.injEq, Prod.mk.injEq] at hv
      obtain ⟨rfl, rfl⟩ := hv
      refine Prim.pure (v' := if ok then .tuple #[w', .bool true] else w') s ?_ (by cases ok; exact hw; exact rel2 true hw)
      cases d <;> simp [Instr.typeAssert, run_un ht, hu]
      all_goals exact absurd rfl (hd _)
    · rw [if_neg hu] at hv
      cases ok with
      | false => simp at hv
      | true =>
        simp only [if_true, Option.some.injEq, Prod.mk.injEq] at hv
        obtain ⟨rfl, rfl⟩ := hv
        refine Prim.pure s ?_ (rel2 false (.plain hp))
        cases d <;> simp [Instr.typeAssert, run_un ht, hr, hu]
        all_goals exact absurd rfl (hd _)
  | _ => simp at hv

end
end Go.Cm
