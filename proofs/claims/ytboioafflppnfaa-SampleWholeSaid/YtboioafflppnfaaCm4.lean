/- The canonical machine's primitive operations against the model's: each that succeeds is one step of the model's. Conditions: none. -/
import Derived.Test.YtboioafflppnfaaCm3
namespace Go.Cm
open Go.RowKit
set_option linter.unusedVariables false
set_option linter.unusedSimpArgs false

def RelF (φ : Emb) (f : Fr) (tmps : Array Value) : Prop := ∀ t, RelV φ (f.get t) (tmps.getD t undef)
def Glob (G : Nat) (φ : Emb) : Prop := ∀ g, g < G → φ g = some ⟨g, 0, none⟩

theorem RelF.mono {φ φ' : Emb} (h : Sub φ φ') {f : Fr} {t : Array Value} (r : RelF φ f t) : RelF φ' f t := fun i => (r i).mono h
theorem Glob.mono {G : Nat} {φ φ' : Emb} (h : Sub φ φ') (r : Glob G φ) : Glob G φ' := fun g hg => h _ _ (r g hg)
theorem RelF.ev {G : Nat} {φ : Emb} {f : Fr} {a : Act} (r : RelF φ f a.tmps) (hg : Glob G φ) {x : Operand} (hx : okX G x = true) : RelV φ (f.ev x) (a.eval x) := by
  cases x with
  | tmp t => exact r t
  | const v => exact .plain hx
  | global g =>
    have := hg g (by simpa [okX] using hx)
    exact RelV.ptr (c := g) (o := 0) this
  | func g => exact .func rfl (fun i v v' p => by simp at p) rfl (fun i v v' p => by simp at p)

/-! ### what a related value looks like -/
section
variable {φ : Emb} {v' : Value}
theorem relV_ptr {a : Addr} (h : RelV φ (.pointer (some a)) v') : ∃ c o l, a = ⟨c, o, none⟩ ∧ φ c = some l ∧ v' = .pointer (some ⟨l.b, l.base + o, none⟩) := by
  cases h with
  | ptr hc => exact ⟨_, _, _, rfl, hc, rfl⟩
theorem relV_nilp (h : RelV φ (.pointer none) v') : v' = .pointer none := by cases h; rfl
theorem relV_sl {a : Addr} {n k : Nat} (h : RelV φ (.slice (some a) n k) v') : (∃ c o l k', a = ⟨c, o, none⟩ ∧ φ c = some l ∧ CapRel l o k k' ∧ n ≤ k ∧ v' = .slice (some ⟨l.b, l.base + o, none⟩) n k') ∨
    (∃ c o a' k', a = ⟨c, o, some 0⟩ ∧ n = 0 ∧ k = 0 ∧ v' = .slice (some a') 0 k') := by
  cases h with
  | sl hc hk hn => exact .inl ⟨_, _, _, _, rfl, hc, hk, hn, rfl⟩
  | slz => exact .inr ⟨_, _, _, _, rfl, rfl, rfl, rfl⟩
theorem relV_nils {n k : Nat} (h : RelV φ (.slice none n k) v') : n = 0 ∧ k = 0 ∧ v' = .slice none 0 0 := by cases h; exact ⟨rfl, rfl, rfl⟩
theorem relV_int {k : IntKind} {n : Int} (h : RelV φ (.int k n) v') : v' = .int k n := by cases h; rfl
theorem relV_bool {b : Bool} (h : RelV φ (.bool b) v') : v' = .bool b := by cases h; rfl
theorem relV_str {s : ByteArray} (h : RelV φ (.string s) v') : v' = .string s := by cases h; rfl
theorem relV_nilm (h : RelV φ (.map none) v') : v' = .map none := by cases h; rfl
theorem relV_map {c : Nat} (h : RelV φ (.map (some c)) v') : ∃ l, φ c = some l ∧ l.base = 0 ∧ v' = .map (some l.b) := by
  cases h with
  | map hc hb => exact ⟨_, hc, hb, rfl⟩
theorem relV_nili (h : RelV φ .nilIface v') : v' = .nilIface := by cases h; rfl
theorem relV_nilf (h : RelV φ .nilFunc v') : v' = .nilFunc := by cases h; rfl
theorem relV_iface {t : TypeId} {v : Value} (h : RelV φ (.iface t v) v') : ∃ u, v' = .iface t u ∧ RelV φ v u := by
  cases h with
  | iface h => exact ⟨_, rfl, h⟩
theorem relL_arr {a b : Array Value} (hs : a.size = b.size) (h : ∀ (i : Nat) (v v' : Value), a[i]? = some v → b[i]? = some v' → RelV φ v v') : RelL φ a.toList b.toList :=
  ⟨by simpa using hs, fun i v v' p q => h i v v' (by simpa using p) (by simpa using q)⟩
theorem relV_tuple {a : Array Value} (h : RelV φ (.tuple a) v') : ∃ b, v' = .tuple b ∧ RelL φ a.toList b.toList := by
  cases h with
  | tuple hs h => exact ⟨_, rfl, relL_arr hs h⟩
theorem relV_tuple_mk {a b : Array Value} (h : RelL φ a.toList b.toList) : RelV φ (.tuple a) (.tuple b) :=
  .tuple (by simpa using h.1) fun i v v' p q => h.2 i v v' (by simpa using p) (by simpa using q)
theorem relV_func {f : FuncId} {a c : Array Value} (h : RelV φ (.func (.func f) a c) v') : ∃ b d, v' = .func (.func f) b d ∧ RelL φ a.toList b.toList ∧ RelL φ c.toList d.toList := by
  cases h with
  | func hs h hs' h' => exact ⟨_, _, rfl, relL_arr hs h, relL_arr hs' h'⟩
theorem relV_func_mk {f : FuncId} {a b c d : Array Value} (h : RelL φ a.toList b.toList) (h' : RelL φ c.toList d.toList) : RelV φ (.func (.func f) a c) (.func (.func f) b d) :=
  .func (by simpa using h.1) (fun i v v' p q => h.2 i v v' (by simpa using p) (by simpa using q)) (by simpa using h'.1) (fun i v v' p q => h'.2 i v v' (by simpa using p) (by simpa using q))
theorem relV_undef : RelV φ undef undef := relV_tuple_mk RelL.nil
theorem relV_undef' (h : RelV φ undef v') : v' = undef := by
  obtain ⟨b, rfl, hr⟩ := relV_tuple h
  have := hr.1
  simp at this
  show Value.tuple b = Value.tuple #[]
  rw [Array.size_eq_zero_iff.1 this.symm]
end

/-! ### reading -/

theorem Addr.add_at (b o n : Nat) : (⟨b, o, none⟩ : Addr).add n = ⟨b, o + n, none⟩ := by unfold Addr.add; split <;> simp_all

theorem Sim.cells {B : Nat} {W0 : World} {φ : Emb} {H : Heap} {W : World} {c : Nat} {l : Loc} {cs : List Value} (s : Sim B W0 φ H.get? W) (hl : φ c = some l)
    (h : H.cells c = some cs) : CellsRel φ W l cs := by
  unfold Heap.cells at h
  split at h
  · rename_i g; cases h; exact (s.obj c l _ hl g).2.2
  · rename_i g; cases h; exact (s.obj c l _ hl g).2.2.1
  · rename_i g; cases h; obtain ⟨_, lo, _, _, _, _, _, h7, _⟩ := s.obj c l _ hl g; exact h7
  · cases h
theorem Sim.rd1 {B : Nat} {W0 : World} {φ : Emb} {H : Heap} {W : World} {c o : Nat} {l : Loc} {v : Value} (s : Sim B W0 φ H.get? W) (hl : φ c = some l)
    (h : H.rd1 ⟨c, o, none⟩ = some v) : one v = true ∧ ∃ v', W.cell? ⟨l.b, l.base + o, none⟩ = some v' ∧ RelV φ v v' := by
  simp only [Heap.rd1, Option.isSome_none, Bool.false_eq_true, if_false] at h
  split at h
  · rename_i cs hc; exact s.cells hl hc o v h
  · cases h
theorem CellsRel.list {φ : Emb} {W : World} {l : Loc} {cs : List Value} (h : CellsRel φ W l cs) :
    cs.all one = true ∧ ∃ vs', RelL φ cs vs' ∧ ∀ j u, vs'[j]? = some u → W.cell? ⟨l.b, l.base + j, none⟩ = some u := by
  refine ⟨?_, (List.range cs.length).map fun i => (W.cell? ⟨l.b, l.base + i, none⟩).getD undef, ⟨by simp, fun i v v' p q => ?_⟩, fun j u hu => ?_⟩
  · rw [List.all_eq_true]
    intro v hv
    obtain ⟨i, hi⟩ := List.getElem?_of_mem hv
    exact (h i v hi).1
  · obtain ⟨_, u, g1, g2⟩ := h i v p
    rw [List.getElem?_map] at q
    cases hi : (List.range cs.length)[i]? with
    | none => rw [hi] at q; cases q
    | some k =>
      rw [hi] at q
      have hk : k = i := by
        rw [List.getElem?_range] at hi
        · cases hi; rfl
        · rcases Nat.lt_or_ge i cs.length with g | g
          · exact g
          · rw [List.getElem?_eq_none g] at p; cases p
      subst hk
      simp only [Option.map_some, g1, Option.getD_some, Option.some.injEq] at q
      subst q; exact g2
  · rw [List.getElem?_map] at hu
    have hj : j < cs.length := by
      rcases Nat.lt_or_ge j cs.length with g | g
      · exact g
      · rw [List.getElem?_eq_none (by simpa using g)] at hu; cases hu
    rw [List.getElem?_range hj] at hu
    obtain ⟨_, u', g1, g2⟩ := h j _ (List.getElem?_eq_getElem hj)
    simp only [Option.map_some, g1, Option.getD_some, Option.some.injEq] at hu
    subst hu; exact g1
theorem Sim.rdN {B : Nat} {W0 : World} {φ : Emb} {H : Heap} {W : World} {c o n : Nat} {l : Loc} {vs : List Value} (s : Sim B W0 φ H.get? W) (hl : φ c = some l)
    (h : H.rdN ⟨c, o, none⟩ n = some vs) : vs.length = n ∧ vs.all one = true ∧ ∃ vs', RelL φ vs vs' ∧ ∀ j u, vs'[j]? = some u → W.cell? ⟨l.b, l.base + o + j, none⟩ = some u := by
  simp only [Heap.rdN, Option.isSome_none, Bool.false_eq_true, if_false] at h
  split at h
  · rename_i cs hc
    split at h
    · rename_i hle
      cases h
      obtain ⟨ho, vs', hr, hcell⟩ := (s.cells hl hc).list
      refine ⟨by simp; omega, ?_, (vs'.drop o).take n, (hr.drop o).take n, fun j u hu => ?_⟩
      · rw [List.all_eq_true] at *
        exact fun v hv => ho v (List.mem_of_mem_drop (List.mem_of_mem_take hv))
      · rw [List.getElem?_take] at hu
        split at hu
        · rw [List.getElem?_drop] at hu
          rw [show l.base + o + j = l.base + (o + j) from by omega]
          exact hcell _ u hu
        · cases hu
    · cases h
  · cases h

/-! ### the model's small runs -/
section
variable {P : Program} {W : World}
theorem run_ti {t : TypeId} {i : TypeInfo} (h : P.info? t = some i) : (typeInfo t).run P W = .ok i W := by simp [typeInfo, h]
theorem run_un {t : TypeId} {d : TypeDesc} (h : P.underlying t = some d) : (underlying t).run P W = .ok d W := run_underlying h W
theorem run_sz {t : TypeId} {n : Nat} (h : sizeT P t = some n) : (sizeOf t).run P W = .ok n W := by
  unfold sizeT at h
  cases hi : P.info? t with
  | none => rw [hi] at h; cases h
  | some i => rw [hi] at h; cases h; simp [sizeOf, run_ti hi]
theorem run_zv {t : TypeId} {z : Value} (h : zeroOf P t = some z) : (zeroValue t).run P W = .ok z W ∧ plainV z = true := by
  unfold zeroOf at h
  split at h
  · rename_i i hi
    split at h
    · rename_i v hv
      split at h
      · rename_i hp; cases h; exact ⟨by simp [zeroValue, run_ti hi, hv], hp⟩
      · cases h
    · cases h
  · cases h
theorem run_ag {t : TypeId} {b : Bool} (h : aggT P t = some b) : (isAgg t).run P W = .ok b W := by
  unfold aggT at h
  split at h <;> (first | (rename_i g; cases h; simp [isAgg, run_un g]) | cases h)
theorem run_by {t : TypeId} {n : Nat} (h : bytesT P t = some n) : ∃ i, P.info? t = some i ∧ i.bytes = n := by
  unfold bytesT at h
  cases hi : P.info? t with
  | none => rw [hi] at h; cases h
  | some i => rw [hi] at h; cases h; exact ⟨i, rfl, rfl⟩
theorem run_loadCells_at {b o n : Nat} {vs : List Value} (hn : vs.length = n) (h : ∀ j u, vs[j]? = some u → W.cell? ⟨b, o + j, none⟩ = some u) :
    (loadCells ⟨b, o, none⟩ n).run P W = .ok vs.toArray W := by
  subst hn
  exact run_loadCells_list W _ vs fun j v hv => by rw [Addr.add_at]; exact h j v hv
end

end Go.Cm
