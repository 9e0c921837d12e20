/- The canonical machine: an answer known ahead: slices.Sort of numbers of the kind int, in an own block. Conditions: the library's functions lie as the shelf lays them. -/
import Derived.Test.YtboioafflppnfaaCm27
import Derived.Shelf.SortM.Plain
import Derived.Shelf.SortM.SortNone
namespace Go.Cm
open Go.RowKit Go.Proofs Go.Shelf Go.Maps Go.Sort
set_option linter.unusedVariables false
set_option linter.unusedSimpArgs false

/-- what slices.Sort answers -/
def SortAns (fS : Nat) (g : FuncId) (args : List Value) (h : Heap) (v : Value) (h' : Heap) : Prop :=
  g = fS ∧ v = .tuple #[] ∧ ∃ a len cap, args = [.slice a len cap] ∧ ((len = 0 ∧ h' = h) ∨
    ∃ c o cs zs, a = some ⟨c, o, none⟩ ∧ h.get? c = some (.rw cs) ∧ o + len ≤ cs.length ∧ (cs.drop o).take len = zs.map (Value.int .i64) ∧ zs.length = len ∧ len < 4611686018427387904 ∧ h' = h.set c (.rw (splice cs o ((isort zs).map (Value.int .i64)))))

section
variable {P : Program} {G : Nat}

theorem heap_sorted {α : Type} {w : World} {g n off : Nat} {os : Array Obj} {cur : Array Value} {e : TypeId} {fr : Nat × Nat} (enc : α → Value) [Inhabited α] (d : Array α) (hb : w.heap[g]? = some (.cells cur e fr)) :
    (grow (putRow enc (Sort.ahead w n) g off d) os).heap[g]? = some (.cells (putCells enc off d cur) e fr) := by
  have hg : g < w.heap.size := (Array.getElem?_eq_some_iff.1 hb).1
  rw [heap_grow_old _ _ (by simpa using hg)]
  simp [putRow, mapBlock, Sort.ahead, Array.getElem?_modify, hb, onCells]
theorem heap_sorted_other {α : Type} {w : World} {g n off : Nat} {os : Array Obj} (enc : α → Value) [Inhabited α] (d : Array α) {k : Nat} (hk : k < w.heap.size) (hne : k ≠ g) :
    (grow (putRow enc (Sort.ahead w n) g off d) os).heap[k]? = w.heap[k]? := by
  rw [heap_grow_old _ _ (by simpa using hk)]
  simp [putRow, mapBlock, Sort.ahead, Array.getElem?_modify, Ne.symm hne]

theorem sort_good {ρ : Ren} (Ly : SlLaysM.n5 P ρ) (hcall : Callable P (ρ.f 5)) {B : Nat} {W0 : World} {g : FuncId} {args : List Value} {h h' : Heap} {v : Value} (H : SortAns (ρ.f 5) g args h v h') : h.n ≤ h'.n ∧ GoodCall P G B W0 g args h v h' := by
  obtain ⟨rfl, rfl, a, len, cap, rfl, H⟩ := H
  have hle : h.n ≤ h'.n := by
    rcases H with ⟨_, rfl⟩ | ⟨c, o, cs, zs, _, _, _, _, _, _, rfl⟩
    · exact Nat.le_refl _
    · exact Nat.le_refl _
  refine ⟨hle, hcall, fun φ W args' s gl hr free => ?_⟩
  obtain ⟨args'⟩ := args'
  have hlen : args'.length = 1 := hr.1.symm
  match args', hlen with
  | [v0], _ =>
    have hv0 := hr.2 0 _ _ rfl rfl
    have tup : ∀ φ : Emb, RelV φ (.tuple #[]) (.tuple #[]) := fun φ => .tuple rfl fun i v v' p q => by simp at p
    rcases H with ⟨rfl, rfl⟩ | ⟨c, o, cs, zs, rfl, hc, ho, hz, hzl, hmax, rfl⟩
    · have : ∃ p k', v0 = .slice p 0 k' := by
        cases hv0 with
        | nils => exact ⟨_, _, rfl⟩
        | sl _ _ _ => exact ⟨_, _, rfl⟩
        | slz => exact ⟨_, _, rfl⟩
      obtain ⟨p, k', rfl⟩ := this
      refine (AnyM.slices_Sort_int_none Ly p k' W).mono ?_
      rintro e W' ⟨rfl, rfl⟩
      exact ⟨φ, _, rfl, tup φ, s, .refl⟩
    · by_cases hl0 : len = 0
      · have hzn : zs = [] := List.eq_nil_of_length_eq_zero (by omega)
        subst hzn
        have hsp : splice cs o ([] : List Value) = cs := by
          apply List.ext_getElem?
          intro i
          rw [splice_get _ _ _ _ (by simpa using (by omega : o ≤ cs.length))]
          rw [if_neg (by simp)]
        have : ∃ p k', v0 = .slice p 0 k' := by
          subst hl0
          cases hv0 with
          | sl _ _ _ => exact ⟨_, _, rfl⟩
        obtain ⟨p, k', rfl⟩ := this
        refine (AnyM.slices_Sort_int_none Ly p k' W).mono ?_
        rintro e W' ⟨rfl, rfl⟩
        have hset : ∀ d, (h.set c (.rw (splice cs o ((isort ([] : List Int)).map (Value.int .i64))))).get? d = h.get? d := by
          intro d
          show (h.set c (.rw (splice cs o []))).get? d = h.get? d
          rw [hsp]
          by_cases hd : d = c
          · subst hd; rw [Heap.get?_set_same hc, hc]
          · exact Heap.get?_set_other (Heap.get?_lt hc) hd
        refine ⟨φ, _, rfl, tup φ, ⟨s.below, s.inB, s.lt, fun c2 l2 o2 h1 h2 => s.obj c2 l2 o2 h1 (by rw [hset] at h2; exact h2), fun c1 c2 l1 l2 o1 o2 g1 g2 p1 p2 => s.inj c1 c2 l1 l2 o1 o2 g1 g2 (by rw [hset] at p1; exact p1) (by rw [hset] at p2; exact p2)⟩,
          ⟨fun _ _ h => h, fun c2 l h1 h2 => (by rw [h1] at h2; cases h2), fun c2 l h1 h2 => (by rw [h1] at h2; cases h2), fun _ _ _ => rfl, fun c2 h1 h2 => hset c2, fun c2 o' h1 h2 h3 => ⟨o', by rw [hset] at h2; exact h2, h3⟩, Nat.le_refl _, Nat.le_refl _⟩⟩
      · cases hv0 with
        | @sl _ _ _ _ k' l hl hcap hn =>
        obtain ⟨hB, hlo, hcs, hth, hb0⟩ := s.obj c l _ hl hc
        have hlt := s.lt c l hl
        have hzc : ∀ i, i < len → cs[o + i]? = (zs.map (Value.int .i64))[i]? := by
          intro i hi
          rw [← hz, List.getElem?_take_of_lt hi, List.getElem?_drop]
        have hcell : ∀ i u, cs[i]? = some u → W.cell? ⟨l.b, i, none⟩ = some u ∨ plain1 u = false := by
          intro i u hu
          obtain ⟨u', hu', hr'⟩ := cells_rd hcs hu
          rw [hb0, Nat.zero_add] at hu'
          cases hp : plain1 u with
          | false => exact .inr rfl
          | true =>
            refine .inl ?_
            rw [hu']
            congr 1
            unfold plain1 at hp
            split at hp <;> first | (cases hr'; rfl) | cases hp
        have hH : Holds (Value.int .i64) W l.b o zs.toArray := by
          intro j hj
          have hj' : j < zs.length := by simpa using hj
          have h1 := hzc j (by omega)
          rw [List.getElem?_map, List.getElem?_eq_getElem hj'] at h1
          refine ⟨?_, ?_⟩
          · rcases hcell (o + j) _ h1 with h2 | h2
            · rw [h2]; simp [hj']
            · cases h2
          · have := hth (l.base + (o + j)) (by omega) (by omega)
            rwa [hb0, Nat.zero_add] at this
        subst hzl
        have hcall' := AnyM.slices_Sort_int Ly l.b o k' zs W hH hlt hmax
        rw [hb0, Nat.zero_add]
        refine hcall'.mono ?_
        rintro e W' ⟨rfl, nn, os, rfl⟩
        rw [isort_eq]
        have hil : (isort zs).length = zs.length := (isort_perm zs).length_eq
        obtain ⟨u0, hu0, _⟩ := cells_rd hcs (i := o) (v := cs[o]'(by omega)) (List.getElem?_eq_getElem _)
        obtain ⟨cur, e0, fr, hblk⟩ : ∃ cur e0 fr, W.heap[l.b]? = some (.cells cur e0 fr) := by
          rw [World.cell?] at hu0
          simp only [Option.isSome_none, Bool.false_eq_true, if_false] at hu0
          split at hu0
          · rename_i cur e0 fr hh; exact ⟨_, _, _, hh⟩
          · cases hu0
        have hnew := heap_sorted (n := nn) (off := o) (os := os) (Value.int .i64) (isort zs).toArray hblk
        have hoth := fun k (hk : k < W.heap.size) (hne : k ≠ l.b) => heap_sorted_other (g := l.b) (n := nn) (off := o) (os := os) (Value.int .i64) (isort zs).toArray hk hne
        generalize hW' : grow (putRow (Value.int .i64) (Sort.ahead W nn) l.b o (isort zs).toArray) os = W' at hnew hoth
        have hsz : W.heap.size ≤ W'.heap.size := by rw [← hW']; simp [grow, putRow, mapBlock, Sort.ahead]
        have hbelow : Below B W W' := by
          rw [← hW']
          refine ⟨rfl, rfl, rfl, by simp [grow, putRow, mapBlock, Sort.ahead], fun k hk => ?_⟩
          rw [hW']
          exact hoth k (Nat.lt_of_lt_of_le hk s.inB) (by omega)
        have hget : ∀ c2 o2, (h.set c (.rw (splice cs o ((isort zs).map (Value.int .i64))))).get? c2 = some o2 → (c2 = c ∧ o2 = .rw (splice cs o ((isort zs).map (Value.int .i64)))) ∨ (c2 ≠ c ∧ h.get? c2 = some o2) := by
          intro c2 o2 h2
          by_cases hd : c2 = c
          · subst hd; rw [Heap.get?_set_same hc] at h2; cases h2; exact .inl ⟨rfl, rfl⟩
          · rw [Heap.get?_set_other (Heap.get?_lt hc) hd] at h2; exact .inr ⟨hd, h2⟩
        have hblkne : ∀ c2 l2 o2, φ c2 = some l2 → h.get? c2 = some o2 → c2 ≠ c → o2 ≠ .dead → l2.b ≠ l.b := by
          intro c2 l2 o2 h1 h2 hne hd e
          cases ho2 : o2.excl with
          | true => exact hne (s.inj c2 c l2 l o2 _ h1 hl h2 hc ho2 rfl e)
          | false =>
            cases o2 with
            | ro cs2 => have := (s.obj c2 l2 _ h1 h2).1; omega
            | dead => exact hd rfl
            | _ => cases ho2
        refine ⟨φ, _, rfl, tup φ, ⟨s.below.trans (hbelow.mono (Nat.le_refl _)), Nat.le_trans s.inB hsz, fun c2 l2 h1 => Nat.lt_of_lt_of_le (s.lt c2 l2 h1) hsz, ?_, ?_⟩, ⟨fun _ _ h => h, fun c2 l h1 h2 => (by rw [h1] at h2; cases h2), fun c2 l h1 h2 => (by rw [h1] at h2; cases h2), ?_, ?_, ?_, hsz, Nat.le_refl _⟩⟩
        · intro c2 l2 o2 h1 h2
          rcases hget c2 o2 h2 with ⟨rfl, rfl⟩ | ⟨hne, h3⟩
          · rw [hl] at h1; cases h1
            refine ⟨hB, hlo, ?_, ?_, hb0⟩
            · intro i u hu
              rw [hb0, Nat.zero_add]
              have hcur : ∀ j, W'.cell? ⟨l.b, j, none⟩ = (putCells (Value.int .i64) o (isort zs).toArray cur)[j]? := by
                intro j
                rw [World.cell?]
                simp only [Option.isSome_none, Bool.false_eq_true, if_false, hnew]
              have hold : ∀ j, W.cell? ⟨l.b, j, none⟩ = cur[j]? := by
                intro j
                rw [World.cell?]
                simp only [Option.isSome_none, Bool.false_eq_true, if_false, hblk]
              rw [splice_get _ _ _ _ (by rw [List.length_map, hil]; exact ho)] at hu
              rw [hcur i]
              simp only [putCells, Array.getElem?_mapIdx]
              rw [List.length_map, hil] at hu
              by_cases hi : o ≤ i ∧ i < o + zs.length
              · rw [if_pos hi] at hu
                have hj : i - o < (isort zs).length := by omega
                rw [List.getElem?_map, List.getElem?_eq_getElem hj] at hu
                cases hu
                obtain ⟨u1, hu1, _⟩ := cells_rd hcs (i := i) (v := cs[i]'(by omega)) (List.getElem?_eq_getElem _)
                rw [hb0, Nat.zero_add, hold] at hu1
                refine ⟨rfl, .int .i64 ((isort zs)[i - o]), ?_, .int _ _⟩
                rw [hu1, Option.map_some, if_pos (by simpa [hil] using hi)]
                simp [hj]
              · rw [if_neg hi] at hu
                obtain ⟨ho1, u1, hu1, hr1⟩ := hcs i u hu
                rw [hb0, Nat.zero_add, hold] at hu1
                refine ⟨ho1, u1, ?_, hr1⟩
                rw [hu1, Option.map_some, if_neg (by simpa [hil] using hi)]
            · intro j h1 h2
              rw [splice_length _ _ _ (by rw [List.length_map, hil]; exact ho)] at h2
              have := hth j h1 h2
              simp only [World.frozen?, hblk] at this
              simp only [World.frozen?, hnew]
              exact this
          · by_cases hd : o2 = .dead
            · subst hd; exact trivial
            · exact (s.obj c2 l2 o2 h1 h3).keep (fun _ _ h => h) (hoth l2.b (s.lt c2 l2 h1) (hblkne c2 l2 o2 h1 h3 hne hd))
        · intro c1 c2 l1 l2 o1 o2 g1 g2 p1 p2 e1 e2 e
          have hx : ∀ c2 o2, (h.set c (.rw (splice cs o ((isort zs).map (Value.int .i64))))).get? c2 = some o2 → o2.excl = true → ∃ o3, h.get? c2 = some o3 ∧ o3.excl = true := by
            intro c2 o2 h2 h3
            rcases hget c2 o2 h2 with ⟨rfl, rfl⟩ | ⟨_, h4⟩
            · exact ⟨_, hc, rfl⟩
            · exact ⟨_, h4, h3⟩
          obtain ⟨o3, q1, q2⟩ := hx c1 o1 p1 e1
          obtain ⟨o4, q3, q4⟩ := hx c2 o2 p2 e2
          exact s.inj c1 c2 l1 l2 o3 o4 g1 g2 q1 q3 q2 q4 e
        · intro b hb hne
          exact hoth b hb (fun e => hne c l _ hl hc rfl e.symm)
        · intro c2 hlt2 hn2
          exact Heap.get?_set_other (Heap.get?_lt hc) (fun e => by rw [e, hl] at hn2; cases hn2)
        · intro c2 o' hlt2 h2 h3
          rcases hget c2 o' h2 with ⟨rfl, rfl⟩ | ⟨_, h4⟩
          · exact ⟨_, hc, rfl⟩
          · exact ⟨_, h4, h3⟩
end
end Go.Cm
