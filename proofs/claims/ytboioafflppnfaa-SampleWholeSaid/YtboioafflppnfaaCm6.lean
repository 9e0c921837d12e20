/- The canonical machine's primitive operations, second part: composites, slices, conversions. Conditions: none. -/
import Derived.Test.YtboioafflppnfaaCm5
namespace Go.Cm
open Go.RowKit
set_option linter.unusedVariables false
set_option linter.unusedSimpArgs false

section
variable {B : Nat} {W0 : World} {φ : Emb} {H H' : Heap} {W : World} {r : Result Next} {v v' : Value} {P : Program} {G : Nat} {ρ ρ' : Operand → Value}

/-! ### composites -/

theorem foldl_zipIdx (off : Nat) : ∀ (vs : List Value) (k : Nat) (cs : Array Value),
    ((vs.zipIdx k).foldl (fun cs (p : Value × Nat) => cs.setIfInBounds (off + p.2) p.1) cs).toList = (vs.zipIdx k).foldl (fun cs (p : Value × Nat) => cs.set (off + p.2) p.1) cs.toList
  | [], k, cs => rfl
  | v :: vs, k, cs => by simp only [List.zipIdx_cons, List.foldl_cons]; rw [foldl_zipIdx off vs (k + 1)]; simp
theorem foldl_set (off : Nat) : ∀ (vs : List Value) (k : Nat) (cs : List Value) (i : Nat), off + k + vs.length ≤ cs.length →
    ((vs.zipIdx k).foldl (fun cs (p : Value × Nat) => cs.set (off + p.2) p.1) cs)[i]? = if off + k ≤ i ∧ i < off + k + vs.length then vs[i - (off + k)]? else cs[i]?
  | [], k, cs, i, _ => by simp; intro h1 h2; omega
  | v :: vs, k, cs, i, h => by
    simp only [List.zipIdx_cons, List.foldl_cons]
    rw [foldl_set off vs (k + 1) _ i (by simp at h ⊢; omega)]
    by_cases hi : i = off + k
    · subst hi
      rw [if_neg (by omega), if_pos ⟨by omega, by simp⟩, List.getElem?_set_self (by simp at h; omega)]; simp
    · rw [List.getElem?_set_ne (by omega)]
      by_cases hc : off + (k + 1) ≤ i ∧ i < off + (k + 1) + vs.length
      · rw [if_pos hc, if_pos ⟨by omega, by simp; omega⟩, show i - (off + k) = (i - (off + (k + 1))) + 1 from by omega, List.getElem?_cons_succ]
      · rw [if_neg hc, if_neg (by simp; omega)]
theorem fill_splice (off : Nat) (vs : Array Value) (cs : Array Value) (h : off + vs.size ≤ cs.size) :
    (vs.zipIdx.foldl (fun cs (p : Value × Nat) => cs.setIfInBounds (off + p.2) p.1) cs).toList = splice cs.toList off vs.toList := by
  apply List.ext_getElem?
  intro i
  rw [← Array.foldl_toList, Array.toList_zipIdx, foldl_zipIdx, foldl_set off vs.toList 0 cs.toList i (by simpa using h), splice_get _ _ _ _ (by simpa using h)]
  simp

theorem lay_fill {place : Nat → Option (Nat × Nat)} : ∀ {ps : List (Nat × Operand)} {l : List (Nat × Nat × Operand)} {cs cs2 : List Value} {cs' : Array Value},
    l = ps.map (fun p => ((place p.1).getD (0, 0)).1 |> fun a => (a, ((place p.1).getD (0, 0)).2, p.2)) → (∀ p ∈ ps, (place p.1).isSome = true) →
    (∀ p ∈ ps, RelV φ (ρ p.2) (ρ' p.2)) → lay ρ l cs = some cs2 → cs.all one = true → RelL φ cs cs'.toList →
    cs2.all one = true ∧ ∃ cs2', Instr.fill place cs' (ps.map fun p => (p.1, ρ' p.2)) = some cs2' ∧ RelL φ cs2 cs2'.toList
  | [], l, cs, cs2, cs', hl, _, _, h, ho, hr => by
    subst hl
    simp only [List.map_nil, lay, Option.some.injEq] at h
    subst h
    exact ⟨ho, cs', rfl, hr⟩
  | (i, x) :: ps, l, cs, cs2, cs', hl, hp, hx, h, ho, hr => by
    subst hl
    obtain ⟨⟨off, size⟩, hpl⟩ := Option.isSome_iff_exists.1 (hp (i, x) (by simp))
    simp only [List.map_cons, hpl, Option.getD_some, lay] at h
    split at h
    · rename_i vs hvs
      split at h
      · rename_i hc
        obtain ⟨hv1, hv2⟩ := (hx (i, x) (by simp)).cells hvs
        have hsz : (ρ' x).cells.size = size := by have := hv2.1; simp at this; omega
        have hcs : cs'.size = cs.length := by have := hr.1; simp at this; omega
        have hsp := fill_splice off (ρ' x).cells cs' (by omega)
        have hr' : RelL φ (splice cs off vs) ((ρ' x).cells.zipIdx.foldl (fun cs (p : Value × Nat) => cs.setIfInBounds (off + p.2) p.1) cs').toList := by
          rw [hsp]; exact RelL.splice hv2 off hr
        have ho' : (splice cs off vs).all one = true := by
          rw [List.all_eq_true] at *
          intro v hv
          obtain ⟨j, hj⟩ := List.getElem?_of_mem hv
          rw [splice_get _ _ _ _ (by omega)] at hj
          split at hj
          · exact hv1 v (List.mem_of_getElem? hj)
          · exact ho v (List.mem_of_getElem? hj)
        obtain ⟨g1, cs2', g2, g3⟩ := lay_fill rfl (fun p hm => hp p (by simp [hm])) (fun p hm => hx p (by simp [hm])) h ho' hr'
        refine ⟨g1, cs2', ?_, g3⟩
        simp only [List.map_cons, Instr.fill, hpl]
        rw [if_neg (by simp; omega)]
        exact g2
      · cases h
    · cases h

theorem mapM_places : ∀ {fs : List Field} (_ : fs.all (fun f => (sizeT P f.type).isSome) = true),
    (fs.mapM fun f => (do pure (f.offset, ← sizeOf f.type) : Sem (Nat × Nat))).run P W = .ok (fs.map fun f => (f.offset, (sizeT P f.type).getD 0)) W
  | [], _ => rfl
  | f :: fs, h => by
    simp only [List.all_cons, Bool.and_eq_true] at h
    obtain ⟨n, hn⟩ := Option.isSome_iff_exists.1 h.1
    have ih := mapM_places h.2
    simp only [List.mapM_cons, Sem.run_bind, run_sz hn, Result.andThen_ok, Sem.run_pure, ih, List.map_cons, hn, Option.getD_some]

theorem resParts_eq {fs : Array Field} : ∀ {ps : List (Nat × Operand)} {l : List (Nat × Nat × Operand)}, resParts P fs ps = some l →
    (∀ p ∈ ps, (((fs.toList.map fun f => (f.offset, (sizeT P f.type).getD 0)).toArray)[p.1]?).isSome = true) ∧
    l = ps.map (fun p => (((((fs.toList.map fun f => (f.offset, (sizeT P f.type).getD 0)).toArray)[p.1]?).getD (0, 0)).1, ((((fs.toList.map fun f => (f.offset, (sizeT P f.type).getD 0)).toArray)[p.1]?).getD (0, 0)).2, p.2))
  | [], l, h => by simp [resParts] at h; subst h; simp
  | (i, x) :: ps, l, h => by
    simp only [resParts] at h
    split at h
    · rename_i f l' hf hl'
      split at h
      · rename_i n hn
        cases h
        obtain ⟨g1, g2⟩ := resParts_eq hl'
        have e : ((fs.toList.map fun f => (f.offset, (sizeT P f.type).getD 0)).toArray)[i]? = some (f.offset, n) := by
          simp [hf, hn]
        refine ⟨fun p hp => ?_, ?_⟩
        · rcases List.mem_cons.1 hp with rfl | hp
          · rw [e]; rfl
          · exact g1 p hp
        · rw [List.map_cons, ← g2, e]; rfl
      · cases h
    · cases h

theorem prim_buildSt {t : TypeId} {fs : Array Field} {z : Value} {ps : Array (Nat × Operand)} {l : List (Nat × Nat × Operand)} {cs : List Value} (s : Sim B W0 φ H.get? W)
    (ht : P.underlying t = some (.struct fs)) (hz : zeroOf P t = some z) (ha : allSizes P fs = true) (hl : resParts P fs ps.toList = some l)
    (hx : ∀ p ∈ ps.toList, RelV φ (ρ p.2) (ρ' p.2)) (h : lay ρ l z.cells.toList = some cs) :
    Prim B W0 φ H W ((do pure (Next.value (← Instr.build t (ps.map fun (i, x) => (i, ρ' x)))) : Sem Next).run P W) (.agg cs.toArray) H := by
  obtain ⟨hr, hp⟩ := run_zv (W := W) hz
  obtain ⟨g1, g2⟩ := resParts_eq hl
  obtain ⟨ho, cs2', hf, hrel⟩ := lay_fill (φ := φ) (ρ' := ρ') (place := fun i => ((fs.toList.map fun f => (f.offset, (sizeT P f.type).getD 0)).toArray)[i]?) (cs' := z.cells) g2 g1 hx h
    (all_one_of_plain (cells_plain hp)) (RelL.plain (cells_plain hp))
  refine Prim.pure (v' := .agg cs2') s ?_ (relV_agg.2 ⟨ho, hrel⟩)
  have hm : (fs.mapM fun f => (do pure (f.offset, ← sizeOf f.type) : Sem (Nat × Nat))).run P W = .ok ((fs.toList.map fun f => (f.offset, (sizeT P f.type).getD 0)).toArray) W := by
    rw [Array.mapM_eq_mapM_toList]
    simp only [Sem.run_map, mapM_places ha, Result.andThen_ok]
  simp only [Instr.build, Sem.run_bind, hr, Result.andThen_ok, run_un ht, hm]
  rw [show (ps.map fun (i, x) => (i, ρ' x)).toList = ps.toList.map fun p => (p.1, ρ' p.2) from by simp]
  rw [hf]
  rfl

theorem prim_buildAr {t e : TypeId} {n sz : Nat} {z : Value} {ps : Array (Nat × Operand)} {cs : List Value} (s : Sim B W0 φ H.get? W)
    (ht : P.underlying t = some (.array n e)) (hz : zeroOf P t = some z) (hs : sizeT P e = some sz)
    (hx : ∀ p ∈ ps.toList, RelV φ (ρ p.2) (ρ' p.2)) (h : lay ρ (ps.toList.map fun (i, x) => (i * sz, sz, x)) z.cells.toList = some cs) :
    Prim B W0 φ H W ((do pure (Next.value (← Instr.build t (ps.map fun (i, x) => (i, ρ' x)))) : Sem Next).run P W) (.agg cs.toArray) H := by
  obtain ⟨hr, hp⟩ := run_zv (W := W) hz
  obtain ⟨ho, cs2', hf, hrel⟩ := lay_fill (φ := φ) (ρ' := ρ') (place := fun i => some (i * sz, sz)) (ps := ps.toList) (cs' := z.cells) (by simp) (by simp) hx h
    (all_one_of_plain (cells_plain hp)) (RelL.plain (cells_plain hp))
  refine Prim.pure (v' := .agg cs2') s ?_ (relV_agg.2 ⟨ho, hrel⟩)
  simp only [Instr.build, Sem.run_bind, hr, Result.andThen_ok, run_un ht, run_sz hs]
  rw [show (ps.map fun (i, x) => (i, ρ' x)).toList = ps.toList.map fun p => (p.1, ρ' p.2) from by simp]
  rw [hf]
  rfl

theorem repL_length (z : List Value) : ∀ n, (repL z n).length = n * z.length
  | 0 => by simp [repL]
  | n + 1 => by simp [repL, repL_length z n, Nat.succ_mul, Nat.add_comm]
theorem repL_get (z : List Value) (hz : 0 < z.length) : ∀ (n i : Nat), i < n * z.length → (repL z n)[i]? = z[i % z.length]?
  | 0, i, h => by simp at h
  | n + 1, i, h => by
    simp only [repL]
    by_cases hi : i < z.length
    · rw [List.getElem?_append_left hi, Nat.mod_eq_of_lt hi]
    · rw [List.getElem?_append_right (by omega), repL_get z hz n _ (by rw [Nat.succ_mul] at h; omega)]
      congr 1
      rw [Nat.mod_eq_sub_mod (by omega : z.length ≤ i)]
theorem repL_all {z : List Value} {p : Value → Bool} (h : z.all p = true) : ∀ n, (repL z n).all p = true
  | 0 => rfl
  | n + 1 => by simp [repL, h, repL_all h n]
theorem zeros_eq (z : Array Value) (hz : 0 < z.size) (n : Nat) : ((Array.range (n * z.size)).map (z[· % z.size]!)).toList = repL z.toList n := by
  apply List.ext_getElem?
  intro i
  by_cases hi : i < n * z.size
  · rw [repL_get _ (by simpa using hz) _ _ (by simpa using hi)]
    have hm : i % z.size < z.size := Nat.mod_lt _ hz
    simp [hi, hm]
  · rw [List.getElem?_eq_none (by simpa using hi), List.getElem?_eq_none (by rw [repL_length]; simpa using hi)]

theorem prim_buildSlice {t e : TypeId} {len sz : Nat} {z : Value} {ps : Array (Nat × Operand)} {cs : List Value} (s : Sim B W0 φ H.get? W) (free : Free φ H (H.push (.rw cs)))
    (ht : P.underlying t = some (.slice e)) (hz : zeroOf P e = some z) (hs : sizeT P e = some sz) (h24 : len * sz ≤ 16777216) (hzs : z.cells.size = sz) (hpos : 0 < sz)
    (hx : ∀ p ∈ ps.toList, RelV φ (ρ p.2) (ρ' p.2)) (h : lay ρ (ps.toList.map fun (i, x) => (i * sz, sz, x)) (repL z.cells.toList len) = some cs) :
    Prim B W0 φ H W ((do pure (Next.value (← Instr.buildSlice t len (ps.map fun (i, x) => (i, ρ' x)))) : Sem Next).run P W) (.slice (some ⟨H.n, 0, none⟩) len len) (H.push (.rw cs)) := by
  obtain ⟨hr, hp⟩ := run_zv (W := W) hz
  have hp1 := repL_all (cells_plain hp) len
  have hzc : RelL φ (repL z.cells.toList len) ((Array.range (len * z.cells.size)).map (z.cells[· % z.cells.size]!)).toList := by
    rw [zeros_eq _ (by omega)]; exact RelL.plain hp1
  obtain ⟨ho, cs2', hf, hrel⟩ := lay_fill (φ := φ) (ρ' := ρ') (place := fun i => some (i * sz, sz)) (ps := ps.toList) (by simp) (by simp) hx h (all_one_of_plain hp1) hzc
  have hn : φ H.n = none := free H.n (Nat.le_refl _) (by simp)
  obtain ⟨s', x'⟩ := s.allocRw (e := e) (ar := cs2') hn ho hrel
  refine ⟨_, .slice (some ⟨W.heap.size, 0, none⟩) len len, _, .inl ?_, RelV.sl (c := H.n) (o := 0) Emb.add_same (.inl rfl) (Nat.le_refl _), s', x'⟩
  simp only [Instr.buildSlice, Sem.run_bind, run_un ht, Result.andThen_ok, run_sz hs]
  rw [if_neg (by omega)]
  simp only [Sem.run_pure, Result.andThen_ok, Sem.run_ite, Sem.run_bind, hr]
  rw [show len * z.cells.size = len * sz from by rw [hzs]] at hf
  rw [show (ps.map fun (i, x) => (i, ρ' x)).toList = ps.toList.map fun p => (p.1, ρ' p.2) from by simp]
  by_cases h0 : len * sz = 0
  · have hempty : Array.range (len * sz) = #[] := by rw [h0]; rfl
    rw [hempty, Array.map_empty] at hf
    rw [if_pos h0, hempty, Array.map_empty, hf]
    simp [newRow]
  · rw [if_neg h0, hf]
    simp [newRow]

end
end Go.Cm
