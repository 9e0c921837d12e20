/- The canonical machine: lists that a call makes by appends; lists that are read. Conditions: none. -/
import Derived.Test.YtboioafflppnfaaCm29
namespace Go.Cm
open Go.RowKit
set_option linter.unusedVariables false
set_option linter.unusedSimpArgs false

/-- a slice that appends alone have made: its cells -/
def Own (h : Heap) (esz : Nat) (v : Value) (cs : List Value) : Prop :=
  (v = .slice none 0 0 ∧ cs = []) ∨ ∃ c m, v = .slice (some ⟨c, 0, none⟩) m m ∧ h.get? c = some (.loose esz cs) ∧ cs.length = m * esz ∧ 0 < m
/-- what an append onto v leaves as it was -/
def AppRel (h h' : Heap) (v : Value) : Prop := h.n ≤ h'.n ∧ ∀ d, d < h.n → (∀ m k, v ≠ .slice (some ⟨d, 0, none⟩) m k) → h'.get? d = h.get? d

theorem Own.nil {h : Heap} {esz : Nat} : Own h esz (.slice none 0 0) [] := .inl ⟨rfl, rfl⟩
theorem Own.keep {h h' : Heap} {esz : Nat} {v : Value} {cs : List Value} (H : Own h esz v cs) (k : ∀ c m n, v = .slice (some ⟨c, 0, none⟩) m n → h'.get? c = h.get? c) : Own h' esz v cs := by
  rcases H with H | ⟨c, m, rfl, h1, h2, h3⟩
  · exact .inl H
  · exact .inr ⟨c, m, rfl, by rw [k c m m rfl]; exact h1, h2, h3⟩
theorem Own.le {h h' : Heap} {esz : Nat} {v : Value} {cs : List Value} (H : Own h esz v cs) (l : Le h h') : Own h' esz v cs := by
  rcases H with H | ⟨c, m, rfl, h1, h2, h3⟩
  · exact .inl H
  · exact .inr ⟨c, m, rfl, l.get h1, h2, h3⟩
theorem Own.lt {h : Heap} {esz : Nat} {v : Value} {cs : List Value} (H : Own h esz v cs) {c m n : Nat} (e : v = .slice (some ⟨c, 0, none⟩) m n) : c < h.n := by
  rcases H with ⟨rfl, _⟩ | ⟨c', m', rfl, h1, _, _⟩
  · cases e
  · cases e; exact Heap.get?_lt h1

theorem app_own {h : Heap} {esz bytes n : Nat} {v : Value} {cs ys : List Value} (H : Own h esz v cs) (he : 0 < esz) (hn : 0 < n) (hy : ys.length = n * esz) (hb : ∀ m, cs.length = m * esz → (m + n) * bytes ≤ 140737488355328) :
    ∃ m h', appendTo h esz bytes v n ys = some (.slice (some ⟨h.n, 0, none⟩) m m, h') ∧ Own h' esz (.slice (some ⟨h.n, 0, none⟩) m m) (cs ++ ys) ∧ h'.n = h.n + 1 ∧ AppRel h h' v := by
  rcases H with ⟨rfl, rfl⟩ | ⟨c, m, rfl, h1, h2, h3⟩
  · have := hb 0 (by simp)
    refine ⟨n, h.push (.loose esz ys), ?_, .inr ⟨h.n, n, rfl, by rw [Heap.get?_push_new]; rfl, by simpa using hy, hn⟩, rfl, by simp [Heap.push], fun d hd _ => Heap.get?_push_old hd⟩
    simp only [appendTo]
    rw [if_neg (by omega), if_neg (by omega)]
  · have := hb m h2
    have hlt := Heap.get?_lt h1
    refine ⟨m + n, (h.set c .dead).push (.loose esz (cs ++ ys)), ?_, .inr ⟨h.n, m + n, rfl, ?_, ?_, by omega⟩, rfl, by simp [Heap.push, Heap.set], ?_⟩
    · simp only [appendTo]
      rw [if_neg (by omega), if_neg (by omega)]
      rw [rdN_obj h1 rfl (by simp; omega)]
      simp only [h1]
      rw [if_pos (by simp; omega), if_pos trivial]
      simp only [List.drop_zero]
      rw [← h2, List.take_length]
    · have : (h.set c .dead).n = h.n := rfl
      rw [← this, Heap.get?_push_new]
    · rw [List.length_append, h2, hy, Nat.add_mul]
    · intro d hd hne
      have e1 : d < (h.set c .dead).n := hd
      rw [Heap.get?_push_old e1]
      exact Heap.get?_set_other hlt (fun e => hne m m (by rw [e]))

section
variable {M : Prg} {Q : Ex → Fr → Heap → Prop} {K : Fr → Heap → Prop} {T : List Tr → Fr → Heap → Prop} {f : Fr} {h : Heap}

/-- one element appended: the list of one, then the append -/
theorem o_push {t1 t2 esz bytes : Nat} {zero : List Value} {parts : List (Nat × Nat × Operand)} {x : Operand} {r : List MO} {vx : Value} {cs ys : List Value} (hl : lay f.ev parts zero = some ys) (hy : ys.length = esz) (he : 0 < esz) (hx : evO ((t1, .slice (some ⟨h.n, 0, none⟩) 1 1) :: f) x = some vx) (H : Own h esz vx cs)
    (hb : ∀ m, cs.length = m * esz → (m + 1) * bytes ≤ 140737488355328) (hk : ∀ m h', Own h' esz (.slice (some ⟨h.n + 1, 0, none⟩) m m) (cs ++ ys) → h'.n = h.n + 2 → AppRel h h' vx → wpO M r K ((t2, .slice (some ⟨h.n + 1, 0, none⟩) m m) :: (t1, .slice (some ⟨h.n, 0, none⟩) 1 1) :: f) h') :
    wpO M (⟨some t1, .buildSlice zero 1 parts, none⟩ :: ⟨some t2, .app esz bytes x (.tmp t1), none⟩ :: r) K f h := by
  have H1 : Own (h.push (.rw ys)) esz vx cs := H.le Le.push
  obtain ⟨m, h', e1, e2, e3, e4⟩ := app_own (bytes := bytes) (n := 1) (ys := ys) H1 he Nat.one_pos (by omega) hb
  refine o_op (v := .slice (some ⟨h.n, 0, none⟩) 1 1) (h' := h.push (.rw ys)) rfl (.prim (by simp only [cop, hl])) ?_
  refine o_op (v := .slice (some ⟨h.n + 1, 0, none⟩) m m) (h' := h') rfl (.prim ?_) ?_
  · show cop (Fr.ev ((t1, .slice (some ⟨h.n, 0, none⟩) 1 1) :: f)) (h.push (.rw ys)) (.app esz bytes x (.tmp t1)) = _
    have ht : Fr.ev ((t1, .slice (some ⟨h.n, 0, none⟩) 1 1) :: f) (.tmp t1) = .slice (some ⟨h.n, 0, none⟩) 1 1 := by simp [Fr.ev, Fr.get]
    simp only [cop, ht, evO_ok hx]
    rw [sliceCells_of (vs := ys) Nat.one_pos (Nat.le_refl _) (by rw [rdN_obj (c := h.n) (off := 0) (n := 1 * esz) (cs := ys) Heap.get?_push_new rfl (by omega)]; rw [List.drop_zero, Nat.one_mul, ← hy, List.take_length])]
    exact e1
  · refine hk m h' e2 (by rw [e3]; rfl) ⟨by rw [e3]; simp [Heap.push]; omega, fun d hd hne => ?_⟩
    rw [e4.2 d (by simp [Heap.push]; omega) hne, Heap.get?_push_old hd]
/-- an append of one element, of a list of one that has just been made -/
theorem o_app1 {t esz bytes : Nat} {x y : Operand} {r : List MO} {vx : Value} {cs ys : List Value} {c : Nat} (hx : evO f x = some vx) (hy : evO f y = some (.slice (some ⟨c, 0, none⟩) 1 1)) (hg : h.get? c = some (.rw ys)) (hl : ys.length = esz) (he : 0 < esz) (H : Own h esz vx cs)
    (hb : ∀ m, cs.length = m * esz → (m + 1) * bytes ≤ 140737488355328) (hk : ∀ m h', Own h' esz (.slice (some ⟨h.n, 0, none⟩) m m) (cs ++ ys) → h'.n = h.n + 1 → AppRel h h' vx → wpO M r K ((t, .slice (some ⟨h.n, 0, none⟩) m m) :: f) h') :
    wpO M (⟨some t, .app esz bytes x y, none⟩ :: r) K f h := by
  obtain ⟨m, h', e1, e2, e3, e4⟩ := app_own (bytes := bytes) (n := 1) (ys := ys) H he Nat.one_pos (by omega) hb
  refine o_op (v := .slice (some ⟨h.n, 0, none⟩) m m) (h' := h') rfl (.prim ?_) (hk m h' e2 e3 e4)
  simp only [cop, evO_ok hx, evO_ok hy]
  rw [sliceCells_of (vs := ys) Nat.one_pos (Nat.le_refl _) (by rw [rdN_obj (n := 1 * esz) (cs := ys) hg rfl (by omega)]; rw [List.drop_zero, Nat.one_mul, ← hl, List.take_length])]
  exact e1
theorem o_ixA {t e len : Nat} {x i : Operand} {g : Option (Nat × Bool)} {r : List MO} {a : Addr} {k : IntKind} {n : Int} (hw : wantedC f g = some true) (hx : evO f x = some (.pointer (some a))) (hi : evO f i = some (.int k n)) (hb : 0 ≤ n ∧ n < len)
    (H : wpO M r K ((t, .pointer (some (addOff a (n.toNat * e)))) :: f) h) : wpO M (⟨some t, .ixA e len x i, g⟩ :: r) K f h :=
  o_op hw (.prim (by simp only [cop, evO_ok hx, evO_ok hi]; rw [if_pos hb])) H
end

/-- a list that is read: elements of esz cells -/
def Sl (h : Heap) (esz : Nat) (v : Value) (n : Nat) (cs : List Value) : Prop :=
  (∃ a cap, v = .slice a 0 cap ∧ n = 0 ∧ cs = []) ∨ ∃ c off cap o all, v = .slice (some ⟨c, off, none⟩) n cap ∧ h.get? c = some o ∧ objCells o = some all ∧ off + n * esz ≤ all.length ∧ (all.drop off).take (n * esz) = cs ∧ 0 < n
theorem Sl.length {h : Heap} {esz n : Nat} {v : Value} {cs : List Value} (H : Sl h esz v n cs) : cs.length = n * esz := by
  rcases H with ⟨_, _, _, rfl, rfl⟩ | ⟨c, off, cap, o, all, rfl, h1, h2, h3, rfl, h4⟩
  · simp
  · rw [List.length_take, List.length_drop]; omega
theorem Sl.keep {h h' : Heap} {esz n : Nat} {v : Value} {cs : List Value} (H : Sl h esz v n cs) (k : ∀ c off m cap, v = .slice (some ⟨c, off, none⟩) m cap → h'.get? c = h.get? c) : Sl h' esz v n cs := by
  rcases H with H | ⟨c, off, cap, o, all, rfl, h1, h2, h3, h4, h5⟩
  · exact .inl H
  · exact .inr ⟨c, off, cap, o, all, rfl, by rw [k c off n cap rfl]; exact h1, h2, h3, h4, h5⟩
theorem Sl.le {h h' : Heap} {esz n : Nat} {v : Value} {cs : List Value} (H : Sl h esz v n cs) (l : Le h h') : Sl h' esz v n cs := by
  rcases H with H | ⟨c, off, cap, o, all, rfl, h1, h2, h3, h4, h5⟩
  · exact .inl H
  · exact .inr ⟨c, off, cap, o, all, rfl, l.get h1, h2, h3, h4, h5⟩
theorem Sl.only {h h' : Heap} {esz n s : Nat} {v : Value} {cs : List Value} (H : Sl h esz v n cs) (o : Only h h' s) (hne : ∀ c off m k, v = .slice (some ⟨c, off, none⟩) m k → 0 < n → c ≠ s) : Sl h' esz v n cs := by
  rcases H with H | ⟨c, off, cap, ob, all, rfl, h1, h2, h3, h4, h5⟩
  · exact .inl H
  · exact .inr ⟨c, off, cap, ob, all, rfl, o.get (hne c off n cap rfl h5) h1, h2, h3, h4, h5⟩
theorem Own.sl {h : Heap} {esz : Nat} {v : Value} {cs : List Value} (H : Own h esz v cs) : ∃ n, cs.length = n * esz ∧ Sl h esz v n cs := by
  rcases H with ⟨rfl, rfl⟩ | ⟨c, m, rfl, h1, h2, h3⟩
  · exact ⟨0, by simp, .inl ⟨_, _, rfl, rfl, rfl⟩⟩
  · exact ⟨m, h2, .inr ⟨c, 0, m, _, cs, rfl, h1, rfl, by omega, by rw [List.drop_zero, ← h2, List.take_length], h3⟩⟩
/-- the slice's value -/
theorem Sl.val {h : Heap} {esz n : Nat} {v : Value} {cs : List Value} (H : Sl h esz v n cs) : ∃ a cap, v = .slice a n cap := by
  rcases H with ⟨a, cap, rfl, rfl, rfl⟩ | ⟨c, off, cap, o, all, rfl, _⟩
  · exact ⟨a, cap, rfl⟩
  · exact ⟨_, cap, rfl⟩
/-- an element of one cell -/
theorem Sl.at1 {h : Heap} {n : Nat} {v : Value} {cs : List Value} (H : Sl h 1 v n cs) {i : Nat} {u : Value} (hu : cs[i]? = some u) : ∃ a cap, v = .slice (some a) n cap ∧ i < n ∧ h.rd1 (addOff a (i * 1)) = some u := by
  have hl := H.length
  rcases H with ⟨a, cap, rfl, rfl, rfl⟩ | ⟨c, off, cap, o, all, rfl, h1, h2, h3, rfl, h4⟩
  · simp at hu
  · have hi : i < n := by
      rcases Nat.lt_or_ge i (n * 1) with g | g
      · omega
      · rw [List.getElem?_eq_none (by omega)] at hu; cases hu
    refine ⟨_, cap, rfl, hi, rd1_obj h1 h2 ?_⟩
    rw [List.getElem?_take_of_lt (by omega), List.getElem?_drop] at hu
    simpa using hu
/-- an element of several cells -/
theorem Sl.atN {h : Heap} {esz n : Nat} {v : Value} {cs : List Value} (H : Sl h esz v n cs) {i k m : Nat} (hi : i < n) (hk : k + m ≤ esz) : ∃ a cap, v = .slice (some a) n cap ∧ h.rdN (addOff (addOff a (i * esz)) k) m = some ((cs.drop (i * esz + k)).take m) := by
  rcases H with ⟨a, cap, rfl, rfl, rfl⟩ | ⟨c, off, cap, o, all, rfl, h1, h2, h3, rfl, h4⟩
  · omega
  · have h5 : (i + 1) * esz ≤ n * esz := Nat.mul_le_mul_right _ hi
    rw [Nat.add_mul, Nat.one_mul] at h5
    refine ⟨_, cap, rfl, ?_⟩
    rw [show addOff (addOff (⟨c, off, none⟩ : Addr) (i * esz)) k = ⟨c, off + i * esz + k, none⟩ from rfl, rdN_obj h1 h2 (by omega)]
    congr 1
    rw [List.drop_take, List.drop_drop, List.take_take, Nat.min_eq_left (by omega), show off + (i * esz + k) = off + i * esz + k by omega]
end Go.Cm
