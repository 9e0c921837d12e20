/- The canonical machine's primitive operations, fifth part: append and copy. Conditions: none. -/
import Derived.Test.YtboioafflppnfaaCm8
namespace Go.Cm
open Go.RowKit
set_option linter.unusedVariables false
set_option linter.unusedSimpArgs false

section
variable {B : Nat} {W0 : World} {φ : Emb} {H H' : Heap} {W : World} {v v' : Value} {P : Program} {G : Nat} {ρ ρ' : Operand → Value}

/-- the first elements of a slice that came, in any memory with the same cells -/
theorem sliceCells_all {esz n len cap : Nat} {a : Option Addr} {x' : Value} {vs : List Value} (s : Sim B W0 φ H.get? W) (hx : RelV φ (.slice a len cap) x') (hn : n ≤ len) (h : sliceCells H esz n (.slice a len cap) = some vs) :
    vs.length = n * esz ∧ vs.all one = true ∧ ∃ a' k' vs', x' = .slice a' len k' ∧ RelL φ vs vs' ∧ ∀ w : World, (∀ a, w.cell? a = W.cell? a) → (Builtin.firstCells esz n x').run P w = .ok vs'.toArray w := by
  simp only [sliceCells] at h
  split at h
  · rename_i h0
    subst h0
    cases h
    refine ⟨by simp, rfl, ?_⟩
    cases a with
    | none => obtain ⟨rfl, rfl, rfl⟩ := relV_nils hx; exact ⟨none, 0, [], rfl, .nil, fun w _ => by simp [Builtin.firstCells]⟩
    | some a =>
      rcases relV_sl hx with ⟨c, o, lc, k', rfl, hl, hk, hn', rfl⟩ | ⟨c, o, a', k', rfl, rfl, rfl, rfl⟩
      · exact ⟨_, _, [], rfl, .nil, fun w _ => by simp [Builtin.firstCells, loadCells, loadCellsFrom]⟩
      · exact ⟨_, _, [], rfl, .nil, fun w _ => by simp [Builtin.firstCells, loadCells, loadCellsFrom]⟩
  · cases a with
    | none => cases h
    | some a =>
      simp only [hn, if_true] at h
      rcases relV_sl hx with ⟨c, o, lc, k', rfl, hl, hk, hn', rfl⟩ | ⟨c, o, a', k', rfl, rfl, rfl, rfl⟩
      · obtain ⟨g1, g2, vs', g3, g4⟩ := s.rdN hl h
        exact ⟨g1, g2, _, _, vs', rfl, g3, fun w hw => by simp only [Builtin.firstCells]; exact run_loadCells_at (g3.1.symm.trans g1) (fun j u hu => by rw [hw]; exact g4 j u hu)⟩
      · omega

theorem append_room {t u ty e : TypeId} {esz n sLen sCap : Nat} {base : Option Addr} {y' : Value} {vs' : List Value} (ht : P.underlying t = some (.slice e)) {du : TypeDesc} (hu : P.underlying u = some du) (hdu : ∀ k, du ≠ .int k)
    (hs : sizeT P e = some esz) (hlen : (Builtin.lenOf y').run P W = .ok n W) (hnew : (Builtin.firstCells esz n y').run P W = .ok vs'.toArray W) (hroom : sLen + n ≤ sCap) :
    (Builtin.append_ #[t, u] ty #[.slice base sLen sCap, y']).run P W = match base with
      | none => .ok (.slice none (sLen + n) sCap) W
      | some a => ((storeCells (a.add (sLen * esz)) vs').run P W).andThen fun _ w => .ok (.slice (some a) (sLen + n) sCap) w := by
  have hz : (match du with | .int _ => true | _ => false) = false := by
    cases du <;> first | rfl | exact absurd rfl (hdu _)
  simp only [Builtin.append_]
  simp [run_un ht, run_sz hs, run_un hu, hz, hlen, hroom, hnew]
  cases base <;> simp

theorem append_more {t u ty e : TypeId} {esz bytes n sLen sCap : Nat} {base : Option Addr} {y' z : Value} {old' vs' : List Value} (ht : P.underlying t = some (.slice e)) {du : TypeDesc} (hu : P.underlying u = some du) (hdu : ∀ k, du ≠ .int k)
    (hs : sizeT P e = some esz) (hb : bytesT P e = some bytes) (hz : zeroOf P e = some z) (hlen : (Builtin.lenOf y').run P W = .ok n W)
    (hnew : ∀ w : World, (∀ a, w.cell? a = W.cell? a) → (Builtin.firstCells esz n y').run P w = .ok vs'.toArray w)
    (hold : ∀ w : World, (∀ a, w.cell? a = W.cell? a) → (Builtin.firstCells esz sLen (.slice base sLen sCap)).run P w = .ok old'.toArray w)
    (hroom : ¬ sLen + n ≤ sCap) (hbytes : (sLen + n) * bytes ≤ 140737488355328) (hb0 : 0 < bytes) :
    ∃ c, sLen + n ≤ c ∧ (Builtin.append_ #[t, u] ty #[.slice base sLen sCap, y']).run P W =
      .ok (.slice (some ⟨W.heap.size, 0, none⟩) (sLen + n) c) (W.drew.alloc (.cells (old'.toArray ++ (vs'.toArray ++ Builtin.zeroCells z.cells (c - (sLen + n)))) e)) := by
  have hdz : (match du with | .int _ => true | _ => false) = false := by
    cases du <;> first | rfl | exact absurd rfl (hdu _)
  obtain ⟨i, hi, hib⟩ := run_by hb
  have hfit := growslice_fits (need := sLen + n) (old := sCap) (bytes := bytes) (by omega) hbytes
  have hle : sLen + n ≤ 140737488355328 := Nat.le_trans (Nat.le_mul_of_pos_right _ hb0) hbytes
  have hnm : ¬ (((sLen + n : Nat) : Int) > 9223372036854775807 ∧ i.bytes = 0) := by rw [hib]; omega
  refine ⟨(Question.appendCap (sLen + n) sCap e).cut (W.tape W.drawn (Question.appendCap (sLen + n) sCap e)), by simp [Question.cut], ?_⟩
  have hn' := hnew W.drew (fun a => rfl)
  have ho' := hold W.drew (fun a => rfl)
  have hmaxf : ¬ (9223372036854775807 < ((sLen : Nat) : Int) + (n : Int) ∧ i.bytes = 0) := by
    intro h
    exact hnm ⟨by have := h.1; omega, h.2⟩
  have hbig : ¬ (281474976710656 < Builtin.nextslicecap (sLen + n) sCap * i.bytes) := by rw [hib]; omega
  have hfo : (Question.appendCap (sLen + n) sCap e).forced = false := rfl
  simp only [Builtin.append_]
  simp only [List.getElem?_toArray, Sem.run_bind, run_un ht, Result.andThen_ok]
  simp [run_un ht, run_sz hs, run_un hu, hdz, hlen, hroom, run_ti hi, (run_zv (P := P) hz).1, hn', ho', newRow, hmaxf, hbig, hfo]

theorem zeroCells_size (z : Array Value) (n : Nat) : (Builtin.zeroCells z n).size = n * z.size := by simp [Builtin.zeroCells]

theorem Sim.kill {c : Nat} {l : Loc} {ob : CObj} (s : Sim B W0 φ H.get? W) (hl : φ c = some l) (hg : H.get? c = some ob) :
    Sim B W0 φ (H.set c .dead).get? W ∧ Ext φ φ H (H.set c .dead) W W := by
  have hc := Heap.get?_lt hg
  have back : ∀ d od, (H.set c .dead).get? d = some od → od.excl = true → H.get? d = some od := by
    intro d od hd he
    by_cases hdc : d = c
    · subst hdc; rw [Heap.get?_set_same hg] at hd; cases hd; cases he
    · rwa [Heap.get?_set_other hc hdc] at hd
  refine ⟨⟨s.below, s.inB, s.lt, ?_, ?_⟩, ⟨fun _ _ h => h, fun _ _ h h' => (by rw [h] at h'; cases h'), fun _ _ h h' => (by rw [h] at h'; cases h'), fun _ _ _ => rfl, ?_, ?_, Nat.le_refl _, Nat.le_refl _⟩⟩
  · intro d k o h h'
    by_cases hdc : d = c
    · subst hdc; rw [Heap.get?_set_same hg] at h'; cases h'; trivial
    · rw [Heap.get?_set_other hc hdc] at h'; exact s.obj d k o h h'
  · intro c1 c2 l1 l2 o1 o2 g1 g2 h1 h2 e1 e2 e
    exact s.inj c1 c2 l1 l2 o1 o2 g1 g2 (back _ _ h1 e1) (back _ _ h2 e2) e1 e2 e
  · intro d _ hd
    exact Heap.get?_set_other hc fun e => by subst e; rw [hl] at hd; cases hd
  · intro d o _ hd he
    exact ⟨o, back d o hd he, he⟩

/-- an append that grows into the room behind its block: the block goes on under a new number -/
theorem Sim.regrow {c o esz m n k' : Nat} {l : Loc} {cs old vs vs' : List Value} {lo : Lo} (s : Sim B W0 φ H.get? W) (hn : φ H.n = none) (hl : φ c = some l) (hg : H.get? c = some (.loose esz cs)) (hlo : l.lo = some lo)
    (hold : H.rdN ⟨c, o, none⟩ (m * esz) = some old) (hvl : vs.length = n * esz) (ho : vs.all one = true) (hr : RelL φ vs vs') (hk : m + n ≤ k') (htot : l.base + o + k' * esz ≤ lo.tot) :
    (∀ j, j < vs'.length → (W.cell? ⟨l.b, l.base + o + m * esz + j, none⟩).isSome = true) ∧ (∀ j, j < vs'.length → W.frozen? ⟨l.b, l.base + o + m * esz + j, none⟩ = false) ∧
    Sim B W0 (φ.add H.n ⟨l.b, l.base + o, some ⟨(m + n) * esz, esz, lo.tot⟩⟩) ((H.set c .dead).push (.loose esz (old ++ vs))).get? (storeAll W l.b (l.base + o + m * esz) vs') ∧
    Ext φ (φ.add H.n ⟨l.b, l.base + o, some ⟨(m + n) * esz, esz, lo.tot⟩⟩) H ((H.set c .dead).push (.loose esz (old ++ vs))) W (storeAll W l.b (l.base + o + m * esz) vs') := by
  have hc := Heap.get?_lt hg
  obtain ⟨hB, lo', hlo', h3, h4, h5, h6, h7, h8, h9⟩ := s.obj c l _ hl hg
  rw [hlo] at hlo'; cases hlo'
  have hvl' : vs'.length = n * esz := hr.1.symm.trans hvl
  have hmn : m * esz + n * esz ≤ k' * esz := by rw [← Nat.add_mul]; exact Nat.mul_le_mul_right _ hk
  obtain ⟨hol, hoo, old', hro, hoc⟩ := s.rdN hl hold
  have hol' : old'.length = m * esz := hro.1.symm.trans hol
  have hsome : ∀ j, j < vs'.length → (W.cell? ⟨l.b, l.base + o + m * esz + j, none⟩).isSome = true := fun j hj => h9 _ (by omega) (by omega)
  have hfz : ∀ j, j < vs'.length → W.frozen? ⟨l.b, l.base + o + m * esz + j, none⟩ = false := fun j hj => h8 _ (by omega) (by omega)
  have hother : ∀ k, k ≠ l.b → (storeAll W l.b (l.base + o + m * esz) vs').heap[k]? = W.heap[k]? := fun k hk => storeAll_other hk
  have hget : ∀ d, d ≠ c → d < H.n → ((H.set c .dead).push (.loose esz (old ++ vs))).get? d = H.get? d := fun d h1 h2 => by
    rw [Heap.get?_push_old (by simpa using h2), Heap.get?_set_other hc h1]
  have hgetc : ((H.set c .dead).push (.loose esz (old ++ vs))).get? c = some .dead := by
    rw [Heap.get?_push_old (by simpa using hc), Heap.get?_set_same hg]
  have hgetn : ((H.set c .dead).push (.loose esz (old ++ vs))).get? H.n = some (.loose esz (old ++ vs)) := by
    have := Heap.get?_push_new (H := H.set c .dead) (o := .loose esz (old ++ vs)); simpa using this
  have hnew : ObjRel B (φ.add H.n ⟨l.b, l.base + o, some ⟨(m + n) * esz, esz, lo.tot⟩⟩) (storeAll W l.b (l.base + o + m * esz) vs') ⟨l.b, l.base + o, some ⟨(m + n) * esz, esz, lo.tot⟩⟩ (.loose esz (old ++ vs)) := by
    refine ⟨hB, _, rfl, ?_, rfl, h5, ?_, ?_, ?_, ?_⟩
    · show (m + n) * esz = (old ++ vs).length
      rw [List.length_append, hol, hvl, Nat.add_mul]
    · show l.base + o + (old ++ vs).length ≤ lo.tot
      rw [List.length_append, hol, hvl]; omega
    · intro i v hv
      by_cases hi : i < old.length
      · rw [List.getElem?_append_left hi] at hv
        refine ⟨by rw [List.all_eq_true] at hoo; exact hoo v (List.mem_of_getElem? hv), ?_⟩
        obtain ⟨v', p, q⟩ := hro.get hv
        refine ⟨v', ?_, q.mono (Emb.sub_add hn)⟩
        show (storeAll W l.b (l.base + o + m * esz) vs').cell? ⟨l.b, l.base + o + i, none⟩ = some v'
        rw [storeAll_cell hsome, if_neg (by omega)]
        exact hoc i v' p
      · rw [List.getElem?_append_right (by omega)] at hv
        refine ⟨by rw [List.all_eq_true] at ho; exact ho v (List.mem_of_getElem? hv), ?_⟩
        have hilt : i - old.length < vs.length := by
          rcases Nat.lt_or_ge (i - old.length) vs.length with g | g
          · exact g
          · rw [List.getElem?_eq_none g] at hv; cases hv
        obtain ⟨v', p, q⟩ := hr.get hv
        refine ⟨v', ?_, q.mono (Emb.sub_add hn)⟩
        show (storeAll W l.b (l.base + o + m * esz) vs').cell? ⟨l.b, l.base + o + i, none⟩ = some v'
        rw [storeAll_cell hsome, if_pos (by omega)]
        rw [show l.base + o + i - (l.base + o + m * esz) = i - old.length from by omega]
        exact p
    · intro j p q; rw [storeAll_frozen]; exact h8 j (by have : l.base + o ≤ j := p; omega) q
    · intro j p q
      have p' : l.base + o ≤ j := p
      have q' : j < lo.tot := q
      show ((storeAll W l.b (l.base + o + m * esz) vs').cell? ⟨l.b, j, none⟩).isSome = true
      rw [storeAll_cell hsome]
      split
      · rw [List.getElem?_eq_getElem (by omega)]; rfl
      · exact h9 j (by omega) q'
  refine ⟨hsome, hfz, ⟨storeAll_below hB s.below, by rw [storeAll_size]; exact s.inB, ?_, ?_, ?_⟩, ⟨Emb.sub_add hn, ?_, ?_, ?_, ?_, ?_, by rw [storeAll_size]; exact Nat.le_refl _, by simp⟩⟩
  · intro d k h
    rw [storeAll_size]
    by_cases hd : d = H.n
    · subst hd; rw [Emb.add_same] at h; cases h; exact s.lt c l hl
    · rw [Emb.add_other hd] at h; exact s.lt d k h
  · intro d k ob h h'
    by_cases hd : d = H.n
    · subst hd; rw [Emb.add_same] at h; cases h; rw [hgetn] at h'; cases h'; exact hnew
    · rw [Emb.add_other hd] at h
      by_cases hdc : d = c
      · subst hdc; rw [hgetc] at h'; cases h'; trivial
      · have hlt : d < H.n := by have := Heap.get?_lt h'; simp at this; omega
        rw [hget d hdc hlt] at h'
        have old := s.obj d k ob h h'
        by_cases hb : k.b = l.b
        · cases ob with
          | dead => trivial
          | ro cs' => have := old.1; omega
          | rw cs' => exact absurd (s.inj d c k l _ _ h hl h' hg rfl rfl hb) hdc
          | loose e cs' => exact absurd (s.inj d c k l _ _ h hl h' hg rfl rfl hb) hdc
          | map es q => exact absurd (s.inj d c k l _ _ h hl h' hg rfl rfl hb) hdc
        · exact old.keep (Emb.sub_add hn) (hother _ hb)
  · intro c1 c2 l1 l2 o1 o2 g1 g2 p1 p2 e1 e2 e
    have back : ∀ d k od, φ.add H.n ⟨l.b, l.base + o, some ⟨(m + n) * esz, esz, lo.tot⟩⟩ d = some k → ((H.set c .dead).push (.loose esz (old ++ vs))).get? d = some od → od.excl = true →
        (d = H.n ∧ k.b = l.b) ∨ (d ≠ H.n ∧ d ≠ c ∧ φ d = some k ∧ H.get? d = some od) := by
      intro d k od gk gd ge
      by_cases hd : d = H.n
      · subst hd; rw [Emb.add_same] at gk; cases gk; exact .inl ⟨rfl, rfl⟩
      · rw [Emb.add_other hd] at gk
        by_cases hdc : d = c
        · subst hdc; rw [hgetc] at gd; cases gd; cases ge
        · have hlt : d < H.n := by have := Heap.get?_lt gd; simp at this; omega
          rw [hget d hdc hlt] at gd
          exact .inr ⟨hd, hdc, gk, gd⟩
    rcases back c1 l1 o1 g1 p1 e1 with ⟨a1, b1⟩ | ⟨a1, b1, d1, f1⟩ <;> rcases back c2 l2 o2 g2 p2 e2 with ⟨a2, b2⟩ | ⟨a2, b2, d2, f2⟩
    · rw [a1, a2]
    · exact absurd (s.inj c2 c l2 l _ _ d2 hl f2 hg e2 rfl (by omega)) b2
    · exact absurd (s.inj c1 c l1 l _ _ d1 hl f1 hg e1 rfl (by omega)) b1
    · exact s.inj c1 c2 l1 l2 _ _ d1 d2 f1 f2 e1 e2 e
  · intro d k h h'
    by_cases hd : d = H.n
    · subst hd; simp
    · rw [Emb.add_other hd, h] at h'; cases h'
  · intro d k h h'
    by_cases hd : d = H.n
    · subst hd; rw [Emb.add_same] at h'; cases h'; exact .inr ⟨c, l, _, hl, hg, rfl, rfl⟩
    · rw [Emb.add_other hd, h] at h'; cases h'
  · intro b _ hno
    exact hother b fun e => hno c l _ hl hg rfl e.symm
  · intro d hd hn'
    exact hget d (fun e => by subst e; rw [hl] at hn'; cases hn') hd
  · intro d ob hd hgd he
    by_cases hdc : d = c
    · subst hdc; rw [hgetc] at hgd; cases hgd; cases he
    · rw [hget d hdc hd] at hgd; exact ⟨ob, hgd, he⟩

/-- a canonical append, and the model's -/
theorem append_ok {t u ty e : TypeId} {esz bytes n : Nat} {x x' y' z : Value} {vs vs' : List Value} {res : Value} (s : Sim B W0 φ H.get? W) (free : Free φ H H') (ht : P.underlying t = some (.slice e)) {du : TypeDesc} (hu : P.underlying u = some du)
    (hdu : ∀ k, du ≠ .int k) (hs : sizeT P e = some esz) (hb : bytesT P e = some bytes) (hz : zeroOf P e = some z) (hzs : z.cells.size = esz) (he0 : 0 < esz) (hb0 : 0 < bytes) (hx : RelV φ x x')
    (hlen : (Builtin.lenOf y').run P W = .ok n W) (hnew : ∀ w : World, (∀ a, w.cell? a = W.cell? a) → (Builtin.firstCells esz n y').run P w = .ok vs'.toArray w)
    (ho : vs.all one = true) (hr : RelL φ vs vs') (h : appendTo H esz bytes x n vs = some (res, H')) :
    ∃ φ' v' W', (Builtin.append_ #[t, u] ty #[x', y']).run P W = .ok v' W' ∧ RelV φ' res v' ∧ Sim B W0 φ' H'.get? W' ∧ Ext φ φ' H H' W W' := by
  cases x with
  | slice base sLen sCap =>
    simp only [appendTo] at h
    split at h
    · cases h
    rename_i hcond
    have hvl : vs.length = n * esz := by
      rcases Nat.decEq vs.length (n * esz) with g | g
      · exact absurd (Or.inl g) hcond
      · exact g
    have hbytes : (sLen + n) * bytes ≤ 140737488355328 := by
      rcases Nat.lt_or_ge 140737488355328 ((sLen + n) * bytes) with g | g
      · exact absurd (Or.inr g) hcond
      · exact g
    have hone' : ∀ v ∈ vs', v.oneCell' = true := by
      intro v hv
      obtain ⟨i, hi⟩ := List.getElem?_of_mem hv
      obtain ⟨w, p, q⟩ := hr.get' hi
      rw [List.all_eq_true] at ho
      exact q.one (ho w (List.mem_of_getElem? p))
    have hvl' : vs'.length = n * esz := hr.1.symm.trans hvl
    -- a fresh block
    have fresh : ∀ (old old' : List Value) (H1 : Heap) (base' : Option Addr) (sC : Nat), old.length = sLen * esz → old.all one = true → RelL φ old old' →
        (∀ w : World, (∀ a, w.cell? a = W.cell? a) → (Builtin.firstCells esz sLen (.slice base' sLen sC)).run P w = .ok old'.toArray w) → ¬ sLen + n ≤ sC →
        Sim B W0 φ H1.get? W → H1.n = H.n → φ H.n = none → Ext φ φ H H1 W W → H' = H1.push (.loose esz (old ++ vs)) →
        ∃ φ' v' W', (Builtin.append_ #[t, u] ty #[.slice base' sLen sC, y']).run P W = .ok v' W' ∧ RelV φ' (.slice (some ⟨H.n, 0, none⟩) (sLen + n) (sLen + n)) v' ∧ Sim B W0 φ' H'.get? W' ∧ Ext φ φ' H H' W W' := by
      intro old old' H1 base' sC hol hoo hro hold hroom s1 hn1 hn x1 hH'
      obtain ⟨c, hc1, hc2⟩ := append_more (P := P) (W := W) (ty := ty) (t := t) (u := u) ht hu hdu hs hb hz hlen hnew hold hroom hbytes hb0
      have hol' : old'.length = sLen * esz := hro.1.symm.trans hol
      have hsz : (old'.toArray ++ (vs'.toArray ++ Builtin.zeroCells z.cells (c - (sLen + n)))).size = c * esz := by
        simp only [Array.size_append, List.size_toArray, zeroCells_size, hol', hvl', hzs]
        rw [← Nat.add_assoc, ← Nat.add_mul, ← Nat.add_mul]
        congr 1
        omega
      obtain ⟨s', x'⟩ := s1.drew.allocLoose (cs := old ++ vs) (ar := old'.toArray ++ (vs'.toArray ++ Builtin.zeroCells z.cells (c - (sLen + n)))) (e := e) (esz := esz)
        (ob := .cells (old'.toArray ++ (vs'.toArray ++ Builtin.zeroCells z.cells (c - (sLen + n)))) e) (by rw [hn1]; exact hn) (by rw [List.all_append, hoo, ho]; rfl)
        ⟨old' ++ vs', hro.append hr, fun i u hu => by
          have hi : i < (old' ++ vs').length := by
            rcases Nat.lt_or_ge i (old' ++ vs').length with g | g
            · exact g
            · rw [List.getElem?_eq_none g] at hu; cases hu
          rw [← Array.append_assoc, Array.getElem?_append_left (by simpa using hi)]
          simpa using hu⟩ he0
        (by rw [hsz, List.length_append, hol, hvl, ← Nat.add_mul]; exact Nat.mul_le_mul_right _ hc1)
        (fun i => alloc_cell W.drew _ _ _ i)
        (fun i _ => World.frozen?_alloc_new ..)
      subst hH'
      refine ⟨_, .slice (some ⟨W.heap.size, 0, none⟩) (sLen + n) c, _, hc2, ?_, s', ?_⟩
      · refine RelV.sl (c := H.n) (o := 0) (l := ⟨W.heap.size, 0, some ⟨(old ++ vs).length, esz, _⟩⟩) (by rw [← hn1]; exact Emb.add_same) (.inr ⟨_, rfl, ?_, hc1, ?_⟩) (Nat.le_refl _)
        · show 0 + (sLen + n) * esz = (old ++ vs).length
          rw [List.length_append, hol, hvl, Nat.add_mul]; omega
        · show 0 + 0 + c * esz ≤ Array.size _
          rw [hsz]; omega
      · exact (x1.trans (Ext.drew.trans x' (fun c _ _ => by rw [show (H1.push (CObj.loose esz (old ++ vs))).n = H1.n + 1 from rfl] at *; exact free c (by omega) (by simpa using ‹_›))) free)
    split at h
    · rename_i hroom
      cases base with
      | none =>
        obtain ⟨rfl, rfl, rfl⟩ := relV_nils hx
        simp only [Option.some.injEq, Prod.mk.injEq] at h
        obtain ⟨rfl, rfl⟩ := h
        obtain rfl : n = 0 := by omega
        refine ⟨φ, .slice none 0 0, W, ?_, .nils, s, .refl⟩
        rw [append_room (P := P) (W := W) (ty := ty) ht hu hdu hs hlen (hnew W fun _ => rfl) (by omega)]
      | some a =>
        simp only at h
        rcases relV_sl hx with ⟨c, o, l, k', rfl, hl, hk, hn, rfl⟩ | ⟨c, o, a', k', rfl, rfl, rfl, rfl⟩
        · have hle : sCap ≤ k' := by
            rcases hk with h | ⟨_, _, _, h, _⟩
            · omega
            · exact h
          by_cases hn0 : n = 0
          · subst hn0
            rw [if_pos rfl] at h
            simp only [Option.some.injEq, Prod.mk.injEq] at h
            obtain ⟨rfl, rfl⟩ := h
            refine ⟨φ, _, W, ?_, hx, s, .refl⟩
            rw [append_room (P := P) (W := W) (ty := ty) ht hu hdu hs hlen (hnew W fun _ => rfl) (by omega)]
            have : vs' = [] := List.length_eq_zero_iff.1 (by omega)
            subst this
            simp [storeCells]
          · rw [if_neg hn0] at h
            split at h
            · rename_i H2 hw
              simp only [Option.some.injEq, Prod.mk.injEq] at h
              obtain ⟨rfl, rfl⟩ := h
              obtain ⟨h1, h2, s', x'⟩ := s.write hl hw hr ho
              refine ⟨φ, .slice (some ⟨l.b, l.base + o, none⟩) (sLen + n) k', _, ?_, RelV.sl hl hk hroom, s', x'⟩
              rw [append_room (P := P) (W := W) (ty := ty) ht hu hdu hs hlen (hnew W fun _ => rfl) (by omega)]
              simp only [Addr.add_at, Nat.add_assoc]
              rw [run_storeCells (P := P) (b := l.b) (o := l.base + (o + sLen * esz)) (vs := vs') (W := W) (i := 0) (by simpa using h1) (by simpa using h2) hone']
              rfl
            · cases h
        · by_cases hn0 : n = 0
          · subst hn0
            rw [if_pos rfl] at h
            simp only [Option.some.injEq, Prod.mk.injEq] at h
            obtain ⟨rfl, rfl⟩ := h
            refine ⟨φ, _, W, ?_, hx, s, .refl⟩
            rw [append_room (P := P) (W := W) (ty := ty) ht hu hdu hs hlen (hnew W fun _ => rfl) (by omega)]
            have : vs' = [] := List.length_eq_zero_iff.1 (by omega)
            subst this
            simp [storeCells]
          · omega
    · rename_i hroom
      cases base with
      | none =>
        obtain ⟨rfl, rfl, rfl⟩ := relV_nils hx
        simp only [Option.some.injEq, Prod.mk.injEq] at h
        obtain ⟨rfl, rfl⟩ := h
        have := fresh [] [] H none 0 (by simp) rfl .nil (fun w _ => by simp [Builtin.firstCells]) hroom s rfl (free H.n (Nat.le_refl _) (by simp)) .refl rfl
        simpa using this
      | some a =>
        simp only at h
        rcases relV_sl hx with ⟨c, o, l, k', rfl, hl, hk, hn, rfl⟩ | ⟨c, o, a', k', rfl, rfl, rfl, rfl⟩
        · cases hrd : H.rdN ⟨c, o, none⟩ (sLen * esz) with
          | none => rw [hrd] at h; cases h
          | some old =>
            rw [hrd] at h
            simp only at h
            obtain ⟨hol, hoo, old', hro, hoc⟩ := s.rdN hl hrd
            have hold : ∀ w : World, (∀ a, w.cell? a = W.cell? a) → (Builtin.firstCells esz sLen (.slice (some ⟨l.b, l.base + o, none⟩) sLen k')).run P w = .ok old'.toArray w := fun w hw => by
              simp only [Builtin.firstCells]; exact run_loadCells_at (hro.1.symm.trans hol) (fun j u hu => by rw [hw]; exact hoc j u hu)
            have hnH : H'.n = H.n + 1 := by
              split at h
              · split at h
                · split at h
                  · cases h; rfl
                  · cases h
                · cases h; rfl
              · cases h; rfl
            have hn0 : φ H.n = none := free H.n (Nat.le_refl _) (by omega)
            have plain : k' = sCap → some (Value.slice (some ⟨H.n, 0, none⟩) (sLen + n) (sLen + n), H.push (.loose esz (old ++ vs))) = some (res, H') →
                ∃ φ' v' W', (Builtin.append_ #[t, u] ty #[.slice (some ⟨l.b, l.base + o, none⟩) sLen k', y']).run P W = .ok v' W' ∧ RelV φ' res v' ∧ Sim B W0 φ' H'.get? W' ∧ Ext φ φ' H H' W W' := by
              rintro rfl h
              simp only [Option.some.injEq, Prod.mk.injEq] at h
              obtain ⟨rfl, rfl⟩ := h
              exact fresh old old' H _ _ hol hoo hro hold hroom s rfl hn0 .refl rfl
            split at h
            · rename_i e' cs hg
              obtain ⟨hB, lo, hlo, h3, h4, h5, h6, h7, h8, h9⟩ := s.obj c l _ hl hg
              split at h
              · rename_i hend
                split at h
                · rename_i hee
                  subst hee
                  simp only [Option.some.injEq, Prod.mk.injEq] at h
                  obtain ⟨rfl, rfl⟩ := h
                  by_cases hin : sLen + n ≤ k'
                  · have htot : l.base + o + k' * e' ≤ lo.tot := by
                      rcases hk with h | ⟨q, g1, g2, g3, g4⟩
                      · subst h; omega
                      · rw [hlo] at g1; cases g1; rw [h4] at g4; exact g4
                    obtain ⟨h1, h2, s', x'⟩ := s.regrow hn0 hl hg hlo hrd hvl ho hr hin htot
                    refine ⟨_, .slice (some ⟨l.b, l.base + o, none⟩) (sLen + n) k', _, ?_, RelV.sl (c := H.n) (o := 0) Emb.add_same (.inr ⟨_, rfl, ?_, hin, ?_⟩) (Nat.le_refl _), s', x'⟩
                    · rw [append_room (P := P) (W := W) (ty := ty) ht hu hdu hs hlen (hnew W fun _ => rfl) hin]
                      simp only [Addr.add_at]
                      rw [run_storeCells (P := P) (b := l.b) (o := l.base + o + sLen * e') (vs := vs') (W := W) (i := 0) (by simpa using h1) (by simpa using h2) hone']
                      rfl
                    · show 0 + (sLen + n) * e' = (sLen + n) * e'
                      omega
                    · show l.base + o + 0 + k' * e' ≤ lo.tot
                      omega
                  · obtain ⟨s1, x1⟩ := s.kill hl hg
                    exact fresh old old' (H.set c .dead) _ _ hol hoo hro hold hin s1 rfl hn0 x1 rfl
                · cases h
              · rename_i hend
                refine plain ?_ h
                rcases hk with h | ⟨q, g1, g2, g3, g4⟩
                · exact h
                · rw [hlo] at g1; cases g1; rw [h4, h3] at g2; exact absurd g2 hend
            · rename_i hnl
              refine plain ?_ h
              have : (∃ cs, H.get? c = some (.ro cs)) ∨ (∃ cs, H.get? c = some (.rw cs)) := by
                simp only [Heap.rdN, Option.isSome_none, Bool.false_eq_true, if_false, Heap.cells] at hrd
                cases hg : H.get? c with
                | none => rw [hg] at hrd; cases hrd
                | some ob =>
                  cases ob with
                  | ro cs => exact .inl ⟨cs, rfl⟩
                  | rw cs => exact .inr ⟨cs, rfl⟩
                  | loose e cs => exact absurd hg (hnl _ _)
                  | dead => rw [hg] at hrd; cases hrd
                  | map es q => rw [hg] at hrd; cases hrd
              exact s.tight hl this hk
        · simp [Heap.rdN] at h
  | _ => simp [appendTo] at h

end
end Go.Cm
