/- The canonical machine: a law's arguments, opened: numbers, truths, texts, and structs, arrays and slices of these. Conditions: none. -/
import Derived.Test.YtboioafflppnfaaCm18
namespace Go.Cm
open Go.RowKit Go.ChangeShapes Go.WideShapes
set_option linter.unusedVariables false
set_option linter.unusedSimpArgs false

/-- what a cell of an argument is -/
inductive Sh where
  | int (k : IntKind)
  | bool
  | str
  | sl (e : List Sh)

mutual
/-- a canonical value of that shape, over memory that is only read -/
def Is (h : Heap) : Sh → Value → Prop
  | .int k, v => ∃ n, v = .int k n ∧ (Lit.int k n).wf = true
  | .bool, v => ∃ b, v = .bool b
  | .str, v => ∃ s : ByteArray, v = .string s ∧ s.size ≤ maxLen
  | .sl e, v => v = .slice none 0 0 ∨ (∃ c, v = .slice (some ⟨c, 0, some 0⟩) 0 0) ∨
      ∃ c len cap cs, v = .slice (some ⟨c, 0, none⟩) len cap ∧ 0 < len ∧ len ≤ cap ∧ cap ≤ maxLen ∧ h.get? c = some (.ro cs) ∧ cs.length = len * e.length ∧ ∀ i, i < len → IsAll h e ((cs.drop (i * e.length)).take e.length)
def IsAll (h : Heap) : List Sh → List Value → Prop
  | [], [] => True
  | s :: ss, v :: vs => Is h s v ∧ IsAll h ss vs
  | _, _ => False
end

def shFields (P : Program) (rec : TypeId → Option (List Sh)) : List Field → Nat → Option (List Sh)
  | [], _ => some []
  | f :: fs, o => if f.offset = o then (match rec f.type with
    | some l => if l.length = P.cellsOf f.type then (match shFields P rec fs (o + l.length) with | some r => some (l ++ r) | none => none) else none
    | none => none) else none
def shTimes (l : List Sh) : Nat → List Sh
  | 0 => []
  | n + 1 => l ++ shTimes l n
def shOf (P : Program) : Nat → TypeId → Option (List Sh)
  | 0, _ => none
  | n + 1, t => match P.underlying t with
    | some .bool => some [.bool]
    | some (.int k) => some [.int k]
    | some .string => some [.str]
    | some (.slice e) => (match shOf P n e with | some l => if l.length = P.cellsOf e ∧ 0 < l.length then some [.sl l] else none | none => none)
    | some (.struct fs) => (match shFields P (shOf P n) fs.toList 0 with | some r => if r.length = P.cellsOf t then some r else none | none => none)
    | some (.array m e) => (match shOf P n e with | some l => if l.length = P.cellsOf e ∧ (shTimes l m).length = P.cellsOf t then some (shTimes l m) else none | none => none)
    | _ => none

/-- memory has grown -/
structure Gr (φ φ' : Emb) (h h' : Heap) : Prop where
  sub : Sub φ φ'
  le : h.n ≤ h'.n
  get : ∀ c, c < h.n → h'.get? c = h.get? c
theorem Gr.refl {φ : Emb} {h : Heap} : Gr φ φ h h := ⟨fun _ _ h => h, Nat.le_refl _, fun _ _ => rfl⟩
theorem Gr.trans {φ φ1 φ2 : Emb} {h h1 h2 : Heap} (a : Gr φ φ1 h h1) (b : Gr φ1 φ2 h1 h2) : Gr φ φ2 h h2 :=
  ⟨fun c l g => b.sub c l (a.sub c l g), Nat.le_trans a.le b.le, fun c g => (b.get c (Nat.lt_of_lt_of_le g a.le)).trans (a.get c g)⟩
theorem Gr.some {φ φ' : Emb} {h h' : Heap} (g : Gr φ φ' h h') {c : Nat} {o : CObj} (ho : h.get? c = some o) : h'.get? c = some o := by rw [g.get c (Heap.get?_lt ho)]; exact ho

mutual
theorem Is.mono {h h' : Heap} (g : ∀ c o, h.get? c = some o → h'.get? c = some o) : ∀ (s : Sh) (v : Value), Is h s v → Is h' s v
  | .int k, v, H => by unfold Is at H ⊢; exact H
  | .bool, v, H => by unfold Is at H ⊢; exact H
  | .str, v, H => by unfold Is at H ⊢; exact H
  | .sl e, v, H => by
    unfold Is at H ⊢
    rcases H with H | H | ⟨c, len, cap, cs, h1, h2, h3, h4, h5, h6, h7⟩
    · exact .inl H
    · exact .inr (.inl H)
    · exact .inr (.inr ⟨c, len, cap, cs, h1, h2, h3, h4, g _ _ h5, h6, fun i hi => IsAll.mono g e _ (h7 i hi)⟩)
theorem IsAll.mono {h h' : Heap} (g : ∀ c o, h.get? c = some o → h'.get? c = some o) : ∀ (ss : List Sh) (vs : List Value), IsAll h ss vs → IsAll h' ss vs
  | [], [], _ => by unfold IsAll; trivial
  | [], _ :: _, H => by unfold IsAll at H; exact H.elim
  | _ :: _, [], H => by unfold IsAll at H; exact H.elim
  | s :: ss, v :: vs, H => by unfold IsAll at H ⊢; exact ⟨Is.mono g s v H.1, IsAll.mono g ss vs H.2⟩
end

theorem IsAll.length {h : Heap} : ∀ {ss : List Sh} {vs : List Value}, IsAll h ss vs → vs.length = ss.length
  | [], [], _ => rfl
  | [], _ :: _, H => by unfold IsAll at H; exact H.elim
  | _ :: _, [], H => by unfold IsAll at H; exact H.elim
  | s :: ss, v :: vs, H => by unfold IsAll at H; simp [IsAll.length H.2]
theorem IsAll.append {h : Heap} : ∀ {ss ts : List Sh} {us vs : List Value}, IsAll h ss us → IsAll h ts vs → IsAll h (ss ++ ts) (us ++ vs)
  | [], ts, [], vs, _, H => H
  | [], _, _ :: _, _, H, _ => by unfold IsAll at H; exact H.elim
  | _ :: _, _, [], _, H, _ => by unfold IsAll at H; exact H.elim
  | s :: ss, ts, u :: us, vs, H, H2 => by
    unfold IsAll at H
    show IsAll h (s :: (ss ++ ts)) (u :: (us ++ vs))
    unfold IsAll
    exact ⟨H.1, IsAll.append H.2 H2⟩
theorem Is.one {h : Heap} : ∀ {s : Sh} {v : Value}, Is h s v → Cm.one v = true
  | .int k, v, H => by unfold Is at H; obtain ⟨n, rfl, _⟩ := H; rfl
  | .bool, v, H => by unfold Is at H; obtain ⟨n, rfl⟩ := H; rfl
  | .str, v, H => by unfold Is at H; obtain ⟨n, rfl, _⟩ := H; rfl
  | .sl e, v, H => by
    unfold Is at H
    rcases H with rfl | ⟨c, rfl⟩ | ⟨c, len, cap, cs, rfl, _⟩ <;> rfl
theorem IsAll.one {h : Heap} : ∀ {ss : List Sh} {vs : List Value}, IsAll h ss vs → vs.all Cm.one = true
  | [], [], _ => rfl
  | [], _ :: _, H => by unfold IsAll at H; exact H.elim
  | _ :: _, [], H => by unfold IsAll at H; exact H.elim
  | s :: ss, v :: vs, H => by unfold IsAll at H; simp [H.1.one, IsAll.one H.2]

/-- the arguments' memory: blocks that are read -/
structure RO (W : World) (φ : Emb) (h : Heap) : Prop where
  sim : Sim W.heap.size W φ h.get? W
  dom : ∀ c l, φ c = some l → c < h.n
  ro : ∀ c o, h.get? c = some o → ∃ cs, o = .ro cs

theorem RO.start (W : World) : RO W (fun _ => none) ⟨0, []⟩ := ⟨Sim.nothing W 0, fun c l h => (by cases h), fun c o h => (by simp [Heap.get?] at h)⟩

theorem RO.push {W : World} {φ : Emb} {h : Heap} (r : RO W φ h) {l : Loc} {cs : List Value} (hb : l.b < W.heap.size) (hlo : l.lo = none) (hc : CellsRel φ W l cs) :
    RO W (fun c => if c = h.n then some l else φ c) (h.push (.ro cs)) ∧ Gr φ (fun c => if c = h.n then some l else φ c) h (h.push (.ro cs)) := by
  have hnew : φ h.n = none := by
    cases hh : φ h.n with
    | none => rfl
    | some l' => have := r.dom _ _ hh; omega
  have hsub : Sub φ (fun c => if c = h.n then some l else φ c) := by
    intro c l' hc'
    by_cases he : c = h.n
    · subst he; rw [hnew] at hc'; cases hc'
    · simp only [if_neg he]; exact hc'
  have hro : ∀ c o, (h.push (.ro cs)).get? c = some o → ∃ cs, o = .ro cs := by
    intro c o ho
    by_cases he : c = h.n
    · subst he; rw [Heap.get?_push_new] at ho; cases ho; exact ⟨_, rfl⟩
    · have := Heap.get?_lt ho
      rw [Heap.get?_push_old (by simp [Heap.push] at this; omega)] at ho
      exact r.ro c o ho
  refine ⟨⟨⟨r.sim.below, r.sim.inB, ?_, ?_, ?_⟩, ?_, hro⟩, ⟨hsub, by simp [Heap.push], fun c hc => Heap.get?_push_old hc⟩⟩
  · intro c l' hc'
    by_cases he : c = h.n
    · rw [if_pos he] at hc'; cases hc'; exact hb
    · rw [if_neg he] at hc'; exact r.sim.lt c l' hc'
  · intro c l' o hc' ho
    by_cases he : c = h.n
    · subst he
      rw [if_pos rfl] at hc'; cases hc'
      rw [Heap.get?_push_new] at ho; cases ho
      exact ⟨hb, hlo, fun i v hv => (hc i v hv).imp_right fun ⟨v', p, q⟩ => ⟨v', p, q.mono hsub⟩⟩
    · rw [if_neg he] at hc'
      have := r.dom c l' hc'
      rw [Heap.get?_push_old this] at ho
      exact (r.sim.obj c l' o hc' ho).keep hsub rfl
  · intro c1 c2 l1 l2 o1 o2 _ _ h1 _ e1
    obtain ⟨cs', rfl⟩ := hro c1 o1 h1
    cases e1
  · intro c l' hc'
    by_cases he : c = h.n
    · subst he; simp [Heap.push]
    · rw [if_neg he] at hc'
      have := r.dom c l' hc'
      simp [Heap.push]; omega

theorem RelL.append' {φ : Emb} {a b c d : List Value} (h1 : RelL φ a b) (h2 : RelL φ c d) : RelL φ (a ++ c) (b ++ d) := h1.append h2

section
variable {H : Type} {enc : TypeId × Value → H} {P : Program}


def Opens (enc : TypeId × Value → H) (P : Program) (W : World) (t : TypeId) (shs : List Sh) : Prop :=
  ∀ (fuel : Nat) (cs : List Value) (x : DataW H × List MemPlace), DataW.trod enc P W 0 (fun _ => true) true fuel t cs = some x → ∀ φ h, RO W φ h → ∃ φ' h' us, RO W φ' h' ∧ Gr φ φ' h h' ∧ RelL φ' us cs ∧ IsAll h' shs us

theorem isAll_nil {h : Heap} : IsAll h [] [] := by unfold IsAll; trivial
theorem isAll_one {h : Heap} {s : Sh} {v : Value} (hs : Is h s v) : IsAll h [s] [v] := by unfold IsAll; exact ⟨hs, isAll_nil⟩

theorem open_fields {W : World} {rec : TypeId → Option (List Sh)} (hrec : ∀ t l, rec t = some l → Opens enc P W t l) {m : Nat} {cs : List Value} : ∀ (fs : List Field) (o : Nat) (shs : List Sh), shFields P rec fs o = some shs →
    (∀ f ∈ fs, ∃ x, DataW.trod enc P W 0 (fun _ => true) true m f.type ((cs.drop f.offset).take (P.cellsOf f.type)) = some x) → ∀ φ h, RO W φ h →
    ∃ φ' h' us, RO W φ' h' ∧ Gr φ φ' h h' ∧ RelL φ' us ((cs.drop o).take shs.length) ∧ IsAll h' shs us
  | [], o, shs, hs, _, φ, h, r => by
    cases hs
    exact ⟨φ, h, [], r, .refl, by simpa using RelL.nil, isAll_nil⟩
  | f :: fs, o, shs, hs, hx, φ, h, r => by
    simp only [shFields] at hs
    split at hs
    rotate_left
    · cases hs
    rename_i ho
    split at hs
    rotate_left
    · cases hs
    rename_i l hl
    split at hs
    rotate_left
    · cases hs
    rename_i hlen
    split at hs
    rotate_left
    · cases hs
    rename_i r2 hr2
    cases hs
    obtain ⟨x, hx1⟩ := hx f (by simp)
    obtain ⟨φ1, h1, us, r1, g1, e1, i1⟩ := hrec _ _ hl _ _ _ hx1 φ h r
    obtain ⟨φ2, h2, vs, r2', g2, e2, i2⟩ := open_fields hrec fs (o + l.length) r2 hr2 (fun q hq => hx q (by simp [hq])) φ1 h1 r1
    refine ⟨φ2, h2, us ++ vs, r2', g1.trans g2, ?_, (IsAll.mono (fun c o h => g2.some h) _ _ i1).append i2⟩
    rw [List.length_append, List.take_add, List.drop_drop]
    rw [ho, ← hlen] at e1
    exact (e1.mono g2.sub).append e2

theorem open_times {W : World} {e : TypeId} {l : List Sh} (hrec : Opens enc P W e l) (hl : l.length = P.cellsOf e) {m : Nat} {cs : List Value} : ∀ (n o : Nat),
    (∀ i, i < n → ∃ x, DataW.trod enc P W 0 (fun _ => true) true m e ((cs.drop ((o + i) * P.cellsOf e)).take (P.cellsOf e)) = some x) → ∀ φ h, RO W φ h →
    ∃ φ' h' us, RO W φ' h' ∧ Gr φ φ' h h' ∧ RelL φ' us ((cs.drop (o * P.cellsOf e)).take (shTimes l n).length) ∧ IsAll h' (shTimes l n) us
  | 0, o, _, φ, h, r => ⟨φ, h, [], r, .refl, by simpa [shTimes] using RelL.nil, isAll_nil⟩
  | n + 1, o, hx, φ, h, r => by
    obtain ⟨x, hx1⟩ := hx 0 (by omega)
    obtain ⟨φ1, h1, us, r1, g1, e1, i1⟩ := hrec _ _ _ hx1 φ h r
    obtain ⟨φ2, h2, vs, r2', g2, e2, i2⟩ := open_times hrec hl n (o + 1) (fun i hi => by have := hx (i + 1) (by omega); rwa [show o + (i + 1) = o + 1 + i from by omega] at this) φ1 h1 r1
    refine ⟨φ2, h2, us ++ vs, r2', g1.trans g2, ?_, (IsAll.mono (fun c o h => g2.some h) _ _ i1).append i2⟩
    simp only [shTimes]
    rw [List.length_append, List.take_add, List.drop_drop]
    rw [Nat.add_zero, ← hl] at e1
    rw [← hl] at e2 ⊢
    rw [show o * l.length + l.length = (o + 1) * l.length from by rw [Nat.add_mul]; omega]
    exact (e1.mono g2.sub).append e2

theorem open_row {W : World} {e : TypeId} {l : List Sh} (hrec : Opens enc P W e l) (hl : l.length = P.cellsOf e) (hpos : 0 < l.length) {m : Nat} {a : Addr} (hspot : a.spot = none) : ∀ (n : Nat),
    (∀ i, i < n → ∃ x, (W.cells? 0 (a.add (i * P.cellsOf e)) (P.cellsOf e)).bind (DataW.trod enc P W 0 (fun _ => true) true m e) = some x) → ∀ φ h, RO W φ h →
    ∃ φ' h' us, RO W φ' h' ∧ Gr φ φ' h h' ∧ us.length = n * l.length ∧ CellsRel φ' W ⟨a.block, a.off, none⟩ us ∧ ∀ i, i < n → IsAll h' l ((us.drop (i * l.length)).take l.length)
  | 0, _, φ, h, r => ⟨φ, h, [], r, .refl, by simp, fun i v hv => by simp at hv, fun i hi => by omega⟩
  | n + 1, hx, φ, h, r => by
    obtain ⟨φ1, h1, us, r1, g1, len1, e1, i1⟩ := open_row hrec hl hpos hspot n (fun i hi => hx i (by omega)) φ h r
    obtain ⟨x, hx1⟩ := hx n (by omega)
    cases hc : W.cells? 0 (a.add (n * P.cellsOf e)) (P.cellsOf e) with
    | none => rw [hc] at hx1; cases hx1
    | some cs =>
      rw [hc] at hx1
      obtain ⟨_, hcl, hat⟩ := World.cells?_some hc
      obtain ⟨φ2, h2, vs, r2, g2, e2, i2⟩ := hrec _ _ _ hx1 φ1 h1 r1
      have hvl : vs.length = l.length := i2.length
      have haddr : ∀ k : Nat, (a.add k) = ⟨a.block, a.off + k, none⟩ := fun k => by
        obtain ⟨b, o, sp⟩ := a
        simp only at hspot
        subst hspot
        exact Addr.add_at _ _ _
      refine ⟨φ2, h2, us ++ vs, r2, g1.trans g2, by rw [List.length_append, len1, hvl, Nat.add_mul]; omega, ?_, ?_⟩
      · intro i v hv
        by_cases hi : i < us.length
        · rw [List.getElem?_append_left hi] at hv
          obtain ⟨p, v', q, rr⟩ := e1 i v hv
          exact ⟨p, v', q, rr.mono g2.sub⟩
        · rw [List.getElem?_append_right (by omega)] at hv
          obtain ⟨v', p, q⟩ := e2.get hv
          have hk : i - us.length < P.cellsOf e := by
            rcases Nat.lt_or_ge (i - us.length) vs.length with g | g
            · omega
            · rw [List.getElem?_eq_none g] at hv; cases hv
          have := hat (i - us.length) hk
          rw [p, haddr, Addr.add_at, len1, ← hl] at this
          rw [show a.off + n * l.length + (i - n * l.length) = a.off + i from by omega] at this
          refine ⟨?_, v', this, q⟩
          have := IsAll.one i2
          rw [List.all_eq_true] at this
          exact this v (List.mem_of_getElem? hv)
      · intro i hi
        by_cases hin : i = n
        · subst hin
          rw [← len1, List.drop_left, List.take_of_length_le (by omega)]
          exact i2
        · have hmul : i * l.length + l.length ≤ n * l.length := by
            have : (i + 1) * l.length ≤ n * l.length := Nat.mul_le_mul_right _ (by omega)
            rw [Nat.add_mul] at this; omega
          rw [List.drop_append_of_le_length (by omega), List.take_append_of_le_length (by rw [List.length_drop]; omega)]
          exact IsAll.mono (fun c o h => g2.some h) _ _ (i1 i (by omega))

theorem open_cells {W : World} : ∀ (n : Nat) (t : TypeId) (shs : List Sh), shOf P n t = some shs → Opens enc P W t shs
  | 0, t, shs, hs => by cases hs
  | n + 1, t, shs, hs => by
    intro fuel cs x hx φ h r
    simp only [shOf] at hs
    split at hs
    · rename_i ht
      cases hs
      obtain ⟨b, rfl, _⟩ := DataW.trod_bool ht hx
      exact ⟨φ, h, [.bool b], r, .refl, .cons (.bool b) .nil, isAll_one (by unfold Is; exact ⟨b, rfl⟩)⟩
    · rename_i k ht
      cases hs
      obtain ⟨b, rfl, _, hw⟩ := DataW.trod_int ht hx
      exact ⟨φ, h, [.int k b], r, .refl, .cons (.int k b) .nil, isAll_one (by unfold Is; exact ⟨b, rfl, hw⟩)⟩
    · rename_i ht
      cases hs
      obtain ⟨b, rfl, _, hw⟩ := DataW.trod_string ht hx
      exact ⟨φ, h, [.string b], r, .refl, .cons (.str b) .nil, isAll_one (by unfold Is; exact ⟨b, rfl, hw⟩)⟩
    · rename_i e ht
      split at hs
      rotate_left
      · cases hs
      rename_i l hl
      split at hs
      rotate_left
      · cases hs
      rename_i hlen
      cases hs
      rcases DataW.trod_slice ht hx with ⟨rfl, _⟩ | ⟨a, len, cap, elems, rest, m, _, rfl, _, _, hle, hcap, hel, hget, _⟩
      · exact ⟨φ, h, [.slice none 0 0], r, .refl, .cons .nils .nil, isAll_one (by unfold Is; exact .inl rfl)⟩
      · by_cases hz : len = 0
        · subst hz
          exact ⟨φ, h, [.slice (some ⟨0, 0, some 0⟩) 0 0], r, .refl, .cons .slz .nil, isAll_one (by unfold Is; exact .inr (.inl ⟨0, rfl⟩))⟩
        · have hex : ∀ i, i < len → ∃ x, (W.cells? 0 (a.add (i * P.cellsOf e)) (P.cellsOf e)).bind (DataW.trod enc P W 0 (fun _ => true) true m e) = some x := by
            intro i hi
            rw [hget i hi, List.getElem?_eq_getElem (by omega)]
            exact ⟨_, rfl⟩
          have hspot : a.spot = none := by
            obtain ⟨x, hx0⟩ := hex 0 (by omega)
            cases hc : W.cells? 0 (a.add (0 * P.cellsOf e)) (P.cellsOf e) with
            | none => rw [hc] at hx0; cases hx0
            | some cs =>
              obtain ⟨_, hcl, hat⟩ := World.cells?_some hc
              have := hat 0 (by omega)
              rw [List.getElem?_eq_getElem (by omega)] at this
              have := World.cell?_spot this
              obtain ⟨b, o, sp⟩ := a
              cases sp with
              | none => rfl
              | some q =>
                exfalso
                revert this
                unfold Addr.add
                repeat' split
                all_goals simp_all
          obtain ⟨φ1, h1, us, r1, g1, len1, e1, i1⟩ := open_row (open_cells n e l hl) hlen.1 hlen.2 hspot len hex φ h r
          have hb : a.block < W.heap.size := by
            obtain ⟨_, v', hv', _⟩ := e1 0 (us[0]'(by rw [len1]; exact Nat.mul_pos (by omega) hlen.2)) (List.getElem?_eq_getElem _)
            have hv2 : W.cell? ⟨a.block, a.off, none⟩ = some v' := hv'
            rcases Nat.lt_or_ge a.block W.heap.size with g | g
            · exact g
            · exfalso
              unfold World.cell? at hv2
              rw [Array.getElem?_eq_none (by exact g)] at hv2
              simp at hv2
          obtain ⟨r2, g2⟩ := r1.push (l := ⟨a.block, a.off, none⟩) (cs := us) hb rfl e1
          refine ⟨_, _, [.slice (some ⟨h1.n, 0, none⟩) len cap], r2, g1.trans g2, .cons ?_ .nil, isAll_one ?_⟩
          · have : a = ⟨a.block, a.off + 0, none⟩ := by obtain ⟨b, o, sp⟩ := a; simp only at hspot; subst hspot; rfl
            have hv := RelV.sl (φ := fun c => if c = h1.n then some ⟨a.block, a.off, none⟩ else φ1 c) (c := h1.n) (o := 0) (n := len) (k := cap) (k' := cap) (l := ⟨a.block, a.off, none⟩) (by simp) (.inl rfl) hle
            simp only at hv
            rwa [← this] at hv
          · unfold Is
            refine .inr (.inr ⟨h1.n, len, cap, us, rfl, by omega, hle, hcap, Heap.get?_push_new, len1, fun i hi => ?_⟩)
            exact IsAll.mono (fun c o h => g2.some h) _ _ (i1 i hi)
    · rename_i fs ht
      split at hs
      rotate_left
      · cases hs
      rename_i r0 hr0
      split at hs
      rotate_left
      · cases hs
      rename_i hlen
      cases hs
      obtain ⟨xs, m, _, _, hcl, hxl, hf⟩ := DataW.trod_struct ht hx
      obtain ⟨φ1, h1, us, r1, g1, e1, i1⟩ := open_fields (cs := cs) (m := m) (fun t l ht => open_cells n t l ht) fs.toList 0 _ hr0 (fun f hf' => by
        obtain ⟨i, hi⟩ := List.getElem?_of_mem hf'
        have hi' : fs[i]? = some f := by simpa using hi
        have hlt : i < xs.length := by
          rw [hxl]
          rcases Nat.lt_or_ge i fs.size with g | g
          · exact g
          · rw [Array.getElem?_eq_none g] at hi'; cases hi'
        rw [hf i f hi', List.getElem?_eq_getElem hlt]
        exact ⟨_, rfl⟩) φ h r
      refine ⟨φ1, h1, us, r1, g1, ?_, i1⟩
      rw [List.drop_zero, hlen, ← hcl, List.take_length] at e1
      exact e1
    · rename_i k e ht
      split at hs
      rotate_left
      · cases hs
      rename_i l hl
      split at hs
      rotate_left
      · cases hs
      rename_i hlen
      cases hs
      obtain ⟨xs, m, _, _, hcl, hxl, hf⟩ := DataW.trod_array ht hx
      obtain ⟨φ1, h1, us, r1, g1, e1, i1⟩ := open_times (cs := cs) (m := m) (open_cells n e l hl) hlen.1 k 0 (fun i hi => by
        rw [Nat.zero_add, hf i hi, List.getElem?_eq_getElem (by omega)]
        exact ⟨_, rfl⟩) φ h r
      refine ⟨φ1, h1, us, r1, g1, ?_, i1⟩
      rw [Nat.zero_mul, List.drop_zero, hlen.2, ← hcl, List.take_length] at e1
      exact e1
    · cases hs

/-- an argument's shape: is it a row of cells? which? -/
def shArg (P : Program) (t : TypeId) : Option (Bool × List Sh) :=
  match P.underlying t, shOf P 9 t with
  | some (.struct _), some l => some (true, l)
  | some (.array _ _), some l => some (true, l)
  | some _, some l => some (false, l)
  | _, _ => none
def shArgs (P : Program) : List TypeId → Option (List (Bool × List Sh))
  | [] => some []
  | t :: ts => match shArg P t, shArgs P ts with | some a, some l => some (a :: l) | _, _ => none
def IsArg (h : Heap) (a : Bool × List Sh) (v : Value) : Prop := if a.1 then ∃ us, v = .agg us ∧ IsAll h a.2 us.toList else IsAll h a.2 [v]
def IsArgs (h : Heap) : List (Bool × List Sh) → List Value → Prop
  | [], [] => True
  | a :: r, v :: vs => IsArg h a v ∧ IsArgs h r vs
  | _, _ => False
theorem IsArg.mono {h h' : Heap} (g : ∀ c o, h.get? c = some o → h'.get? c = some o) {a : Bool × List Sh} {v : Value} (H : IsArg h a v) : IsArg h' a v := by
  unfold IsArg at H ⊢
  split
  · rename_i hc; rw [if_pos hc] at H; obtain ⟨us, e, i⟩ := H; exact ⟨us, e, IsAll.mono g _ _ i⟩
  · rename_i hc; rw [if_neg hc] at H; exact IsAll.mono g _ _ H

theorem cells_one {v : Value} (h : ∀ cs, v ≠ .agg cs) : v.cells = #[v] := by
  cases v <;> simp_all [Value.cells]

theorem open_arg {W : World} {r0 : Reach} {b0 : Nat} {t : TypeId} {a : Bool × List Sh} {v : Value} {d : DataW H} {p : List MemPlace} (ha : shArg P t = some a) (hok : Value.okWide P W r0 b0 t v) (hd : DataW.Trod enc P W 0 (fun _ => true) true t v d p) :
    ∀ φ h, RO W φ h → ∃ φ' h' u, RO W φ' h' ∧ Gr φ φ' h h' ∧ RelV φ' u v ∧ IsArg h' a u := by
  intro φ h r
  obtain ⟨fuel, hf⟩ := hd
  have agg : ∀ l, shOf P 9 t = some l → a = (true, l) → (∃ cs, v = .agg cs) → ∃ φ' h' u, RO W φ' h' ∧ Gr φ φ' h h' ∧ RelV φ' u v ∧ IsArg h' a u := by
    rintro l hl rfl ⟨cs, rfl⟩
    obtain ⟨φ1, h1, us, r1, g1, e1, i1⟩ := open_cells 9 t l hl _ _ _ hf φ h r
    simp only [Value.cells] at e1
    refine ⟨φ1, h1, .agg us.toArray, r1, g1, relV_agg.2 ⟨by simpa using IsAll.one i1, by simpa using e1⟩, ?_⟩
    unfold IsArg
    rw [if_pos rfl]
    exact ⟨us.toArray, rfl, by simpa using i1⟩
  have one : ∀ l, shOf P 9 t = some l → a = (false, l) → (∀ cs, v ≠ .agg cs) → ∃ φ' h' u, RO W φ' h' ∧ Gr φ φ' h h' ∧ RelV φ' u v ∧ IsArg h' a u := by
    rintro l hl rfl hne
    obtain ⟨φ1, h1, us, r1, g1, e1, i1⟩ := open_cells 9 t l hl _ _ _ hf φ h r
    rw [cells_one hne] at e1
    have hlen := e1.1
    match us, hlen with
    | [u], _ =>
      refine ⟨φ1, h1, u, r1, g1, e1.2 0 u v rfl rfl, ?_⟩
      unfold IsArg
      rw [if_neg (by simp)]
      exact i1
  unfold shArg at ha
  split at ha
  · rename_i fs l ht hl
    cases ha
    obtain ⟨cs, rfl, _⟩ := okWide_struct ht hok
    exact agg l hl rfl ⟨cs, rfl⟩
  · rename_i n e l ht hl
    cases ha
    simp only [Value.okWide, ht] at hok
    obtain ⟨cs, rfl, _⟩ := hok
    exact agg l hl rfl ⟨cs, rfl⟩
  · rename_i d l hn1 hn2 ht hl
    cases ha
    refine one l hl rfl ?_
    rintro cs rfl
    cases hd : d with
    | bool => subst hd; obtain ⟨b, e⟩ := okWide_bool ht hok; cases e
    | int k => subst hd; obtain ⟨b, e⟩ := okWide_int ht hok; cases e
    | string => subst hd; obtain ⟨b, e⟩ := okWide_string ht hok; cases e
    | slice q => subst hd; obtain ⟨b, c, d, e⟩ := okWide_slice ht hok; cases e
    | struct fs => exact hn1 _ hd
    | array n e => exact hn2 _ _ hd
    | _ =>
      subst hd
      simp only [shOf, ht] at hl
      cases hl
  · cases ha

theorem open_args {W : World} {r0 : Reach} {b0 : Nat} : ∀ {ts : List TypeId} {shs : List (Bool × List Sh)} {vs : List Value} {ds : List (DataW H)} {p : List MemPlace}, shArgs P ts = some shs →
    (∀ (j : Nat) (t : TypeId) (v : Value), ts[j]? = some t → vs[j]? = some v → Value.okWide P W r0 b0 t v) → DataW.TrodAll enc P W 0 (fun _ => true) true ts vs ds p →
    ∀ φ h, RO W φ h → ∃ φ' h' us, RO W φ' h' ∧ Gr φ φ' h h' ∧ RelL φ' us vs ∧ IsArgs h' shs us
  | [], shs, vs, ds, p, ha, hok, hd, φ, h, r => by
    cases ha
    obtain ⟨rfl, rfl, rfl⟩ := trodAll_nil hd
    exact ⟨φ, h, [], r, .refl, .nil, trivial⟩
  | t :: ts, shs, vs, ds, p, ha, hok, hd, φ, h, r => by
    simp only [shArgs] at ha
    split at ha
    · rename_i a l h1 h2
      cases ha
      obtain ⟨v, vs1, d, ds1, p1, q1, rfl, rfl, rfl, hd1, hd2⟩ := trodAll_cons hd
      obtain ⟨φ1, g1, u, r1, gr1, e1, i1⟩ := open_arg h1 (hok 0 t v rfl rfl) hd1 φ h r
      obtain ⟨φ2, g2, us, r2, gr2, e2, i2⟩ := open_args h2 (fun j t v p q => hok (j + 1) t v p q) hd2 φ1 g1 r1
      exact ⟨φ2, g2, u :: us, r2, gr1.trans gr2, .cons (e1.mono gr2.sub) e2, i1.mono (fun c o h => gr2.some h), i2⟩
    · cases ha

end
end Go.Cm
