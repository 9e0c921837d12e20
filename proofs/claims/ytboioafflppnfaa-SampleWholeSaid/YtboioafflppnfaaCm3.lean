/- The canonical machine's values and memory against the model's: the relation, and how it is kept. Conditions: none. -/
import Derived.Test.YtboioafflppnfaaCm2
namespace Go.Cm
open Go.RowKit
set_option linter.unusedVariables false

structure Lo where
  sz : Nat
  esz : Nat
  tot : Nat
structure Loc where
  b : Nat
  base : Nat
  lo : Option Lo
abbrev Emb := Nat → Option Loc

def CapRel (l : Loc) (o k k' : Nat) : Prop :=
  k' = k ∨ ∃ e, l.lo = some e ∧ o + k * e.esz = e.sz ∧ k ≤ k' ∧ l.base + o + k' * e.esz ≤ e.tot

/-- a value of one cell that is known -/
def one : Value → Bool
  | .agg _ | .tuple _ | .chan _ => false
  | _ => true

inductive RelV (φ : Emb) : Value → Value → Prop
  | top (v : Value) : RelV φ unk v
  | bool (b : Bool) : RelV φ (.bool b) (.bool b)
  | int (k : IntKind) (n : Int) : RelV φ (.int k n) (.int k n)
  | str (s : ByteArray) : RelV φ (.string s) (.string s)
  | nilp : RelV φ (.pointer none) (.pointer none)
  | ptr {c o : Nat} {l : Loc} : φ c = some l → RelV φ (.pointer (some ⟨c, o, none⟩)) (.pointer (some ⟨l.b, l.base + o, none⟩))
  | nils : RelV φ (.slice none 0 0) (.slice none 0 0)
  | sl {c o n k k' : Nat} {l : Loc} : φ c = some l → CapRel l o k k' → n ≤ k → RelV φ (.slice (some ⟨c, o, none⟩) n k) (.slice (some ⟨l.b, l.base + o, none⟩) n k')
  | slz {c o : Nat} {a : Addr} {k' : Nat} : RelV φ (.slice (some ⟨c, o, some 0⟩) 0 0) (.slice (some a) 0 k')
  | nilm : RelV φ (.map none) (.map none)
  | map {c : Nat} {l : Loc} : φ c = some l → l.base = 0 → RelV φ (.map (some c)) (.map (some l.b))
  | nilf : RelV φ .nilFunc .nilFunc
  | nili : RelV φ .nilIface .nilIface
  | iface {t : TypeId} {v v' : Value} : RelV φ v v' → RelV φ (.iface t v) (.iface t v')
  | agg {a b : Array Value} : a.toList.all one = true → a.size = b.size → (∀ (i : Nat) (v v' : Value), a[i]? = some v → b[i]? = some v' → RelV φ v v') → RelV φ (.agg a) (.agg b)
  | tuple {a b : Array Value} : a.size = b.size → (∀ (i : Nat) (v v' : Value), a[i]? = some v → b[i]? = some v' → RelV φ v v') → RelV φ (.tuple a) (.tuple b)
  | func {f : FuncId} {a b c d : Array Value} : a.size = b.size → (∀ (i : Nat) (v v' : Value), a[i]? = some v → b[i]? = some v' → RelV φ v v') →
      c.size = d.size → (∀ (i : Nat) (v v' : Value), c[i]? = some v → d[i]? = some v' → RelV φ v v') → RelV φ (.func (.func f) a c) (.func (.func f) b d)

def RelL (φ : Emb) (a b : List Value) : Prop := a.length = b.length ∧ ∀ (i : Nat) (v v' : Value), a[i]? = some v → b[i]? = some v' → RelV φ v v'

def Sub (φ φ' : Emb) : Prop := ∀ c l, φ c = some l → φ' c = some l

theorem RelV.mono {φ φ' : Emb} (h : Sub φ φ') {v v' : Value} (r : RelV φ v v') : RelV φ' v v' := by
  induction r with
  | top v => exact .top v
  | bool b => exact .bool b
  | int k n => exact .int k n
  | str s => exact .str s
  | nilp => exact .nilp
  | ptr hc => exact .ptr (h _ _ hc)
  | nils => exact .nils
  | sl hc hk hn => exact .sl (h _ _ hc) hk hn
  | slz => exact .slz
  | nilm => exact .nilm
  | map hc hb => exact .map (h _ _ hc) hb
  | nilf => exact .nilf
  | nili => exact .nili
  | iface _ ih => exact .iface ih
  | agg ho hs _ ih => exact .agg ho hs ih
  | tuple hs _ ih => exact .tuple hs ih
  | func hs _ hs' _ ih ih' => exact .func hs ih hs' ih'

theorem RelL.mono {φ φ' : Emb} (h : Sub φ φ') {a b : List Value} (r : RelL φ a b) : RelL φ' a b := ⟨r.1, fun i v v' p q => (r.2 i v v' p q).mono h⟩
theorem RelL.nil {φ : Emb} : RelL φ [] [] := ⟨rfl, fun i v v' p => by simp at p⟩
theorem RelL.cons {φ : Emb} {v v' : Value} {a b : List Value} (h : RelV φ v v') (r : RelL φ a b) : RelL φ (v :: a) (v' :: b) := by
  refine ⟨by simp [r.1], fun i x x' p q => ?_⟩
  cases i with
  | zero => simp at p q; subst p; subst q; exact h
  | succ i => simp at p q; exact r.2 i x x' p q
theorem RelL.append {φ : Emb} {a b c d : List Value} (h : RelL φ a b) (r : RelL φ c d) : RelL φ (a ++ c) (b ++ d) := by
  refine ⟨by simp [h.1, r.1], fun i x x' p q => ?_⟩
  by_cases hi : i < a.length
  · rw [List.getElem?_append_left hi] at p; rw [List.getElem?_append_left (by rw [← h.1]; exact hi)] at q; exact h.2 i x x' p q
  · rw [List.getElem?_append_right (by omega)] at p; rw [List.getElem?_append_right (by rw [← h.1]; omega), ← h.1] at q; exact r.2 _ x x' p q
theorem RelL.take {φ : Emb} {a b : List Value} (h : RelL φ a b) (n : Nat) : RelL φ (a.take n) (b.take n) := by
  refine ⟨by simp [h.1], fun i x x' p q => ?_⟩
  rw [List.getElem?_take] at p q
  split at p
  · rename_i hi; rw [if_pos hi] at q; exact h.2 i x x' p q
  · simp at p
theorem RelL.drop {φ : Emb} {a b : List Value} (h : RelL φ a b) (n : Nat) : RelL φ (a.drop n) (b.drop n) := by
  refine ⟨by simp [h.1], fun i x x' p q => ?_⟩
  rw [List.getElem?_drop] at p q
  exact h.2 _ x x' p q
theorem RelL.get {φ : Emb} {a b : List Value} (h : RelL φ a b) {i : Nat} {v : Value} (p : a[i]? = some v) : ∃ v', b[i]? = some v' ∧ RelV φ v v' := by
  have hi : i < a.length := by
    rcases Nat.lt_or_ge i a.length with h | h
    · exact h
    · rw [List.getElem?_eq_none h] at p; cases p
  have hb : i < b.length := by rw [← h.1]; exact hi
  exact ⟨b[i], List.getElem?_eq_getElem hb, h.2 i v _ p (List.getElem?_eq_getElem hb)⟩
theorem RelL.get' {φ : Emb} {a b : List Value} (h : RelL φ a b) {i : Nat} {v' : Value} (p : b[i]? = some v') : ∃ v, a[i]? = some v ∧ RelV φ v v' := by
  have hi : i < b.length := by
    rcases Nat.lt_or_ge i b.length with h | h
    · exact h
    · rw [List.getElem?_eq_none h] at p; cases p
  have ha : i < a.length := by rw [h.1]; exact hi
  exact ⟨a[i], List.getElem?_eq_getElem ha, h.2 i _ v' (List.getElem?_eq_getElem ha) p⟩
theorem RelL.splice {φ : Emb} {vs vs' : List Value} (hv : RelL φ vs vs') : ∀ (o : Nat) {a b : List Value}, RelL φ a b → RelL φ (splice a o vs) (splice b o vs') := by
  intro o
  induction o with
  | zero =>
    intro a b h
    have e1 : Cm.splice a 0 vs = vs ++ a.drop vs.length := by cases a <;> rfl
    have e2 : Cm.splice b 0 vs' = vs' ++ b.drop vs'.length := by cases b <;> rfl
    rw [e1, e2, ← hv.1]
    exact hv.append (h.drop _)
  | succ o ih =>
    intro a b h
    cases a with
    | nil =>
      cases b with
      | nil => exact RelL.nil
      | cons y b => have := h.1; simp at this
    | cons x a =>
      cases b with
      | nil => have := h.1; simp at this
      | cons y b =>
        simp only [Cm.splice]
        have h0 : RelV φ x y := h.2 0 x y rfl rfl
        exact RelL.cons h0 (ih (by simpa using h.drop 1))

theorem splice_length (vs : List Value) : ∀ (o : Nat) (a : List Value), o + vs.length ≤ a.length → (splice a o vs).length = a.length := by
  intro o
  induction o with
  | zero => intro a h; cases a <;> simp_all [splice] <;> omega
  | succ o ih =>
    intro a h
    cases a with
    | nil => simp at h
    | cons x a => simp only [splice, List.length_cons]; rw [ih a (by simp at h; omega)]
theorem splice_get (vs : List Value) : ∀ (o : Nat) (a : List Value) (i : Nat), o + vs.length ≤ a.length →
    (splice a o vs)[i]? = if o ≤ i ∧ i < o + vs.length then vs[i - o]? else a[i]? := by
  intro o
  induction o with
  | zero =>
    intro a i h
    have e : splice a 0 vs = vs ++ a.drop vs.length := by cases a <;> rfl
    rw [e]
    by_cases hi : i < vs.length
    · rw [List.getElem?_append_left hi, if_pos ⟨by omega, by omega⟩]; simp
    · rw [List.getElem?_append_right (by omega), if_neg (by omega), List.getElem?_drop]; congr 1; omega
  | succ o ih =>
    intro a i h
    cases a with
    | nil => simp at h
    | cons x a =>
      simp only [splice]
      cases i with
      | zero => simp
      | succ i =>
        simp only [List.getElem?_cons_succ]
        rw [ih a i (by simp at h; omega)]
        by_cases hc : o ≤ i ∧ i < o + vs.length
        · rw [if_pos hc, if_pos ⟨by omega, by omega⟩]; congr 1; omega
        · rw [if_neg hc, if_neg (by omega)]

theorem relV_agg {φ : Emb} {a b : Array Value} : RelV φ (.agg a) (.agg b) ↔ a.toList.all one = true ∧ RelL φ a.toList b.toList := by
  constructor
  · intro h
    cases h with
    | agg ho hs h => exact ⟨ho, by simpa using hs, fun i v v' p q => h i v v' (by simpa using p) (by simpa using q)⟩
  · intro h
    exact .agg h.1 (by simpa using h.2.1) fun i v v' p q => h.2.2 i v v' (by simpa using p) (by simpa using q)
theorem relV_agg_left {φ : Emb} {a : Array Value} {v' : Value} (h : RelV φ (.agg a) v') : ∃ b, v' = .agg b ∧ a.toList.all one = true ∧ RelL φ a.toList b.toList := by
  cases h with
  | agg ho hs h => exact ⟨_, rfl, relV_agg.1 (.agg ho hs h)⟩
theorem RelV.one {φ : Emb} {v v' : Value} (h : RelV φ v v') (ho : Cm.one v = true) : v'.oneCell' = true := by
  cases h <;> simp_all [Cm.one, Value.oneCell', unk]

theorem RelV.plain1 {φ : Emb} {v : Value} (h : plain1 v = true) : RelV φ v v := by
  cases v with
  | bool b => exact .bool b
  | int k n => exact .int k n
  | string s => exact .str s
  | pointer a => cases a <;> simp [Cm.plain1] at h; exact .nilp
  | slice a n m =>
    cases a with
    | some a => simp [Cm.plain1] at h
    | none =>
      cases n with
      | succ n => simp [Cm.plain1] at h
      | zero =>
        cases m with
        | succ m => simp [Cm.plain1] at h
        | zero => exact .nils
  | map r => cases r <;> simp [Cm.plain1] at h; exact .nilm
  | nilFunc => exact .nilf
  | nilIface => exact .nili
  | _ => simp [Cm.plain1] at h
theorem one_of_plain1 {v : Value} (h : plain1 v = true) : one v = true := by
  cases v <;> simp_all [Cm.plain1, Cm.one]
theorem all_one_of_plain {l : List Value} (h : l.all Cm.plain1 = true) : l.all one = true := by
  rw [List.all_eq_true] at *
  exact fun v hv => one_of_plain1 (h v hv)
theorem RelL.plain {φ : Emb} : ∀ {l : List Value}, l.all Cm.plain1 = true → RelL φ l l
  | [], _ => .nil
  | v :: l, h => by simp only [List.all_cons, Bool.and_eq_true] at h; exact .cons (.plain1 h.1) (RelL.plain h.2)
theorem RelV.plain {φ : Emb} {v : Value} (h : plainV v = true) : RelV φ v v := by
  cases v with
  | agg cs => exact relV_agg.2 ⟨all_one_of_plain h, RelL.plain h⟩
  | _ => exact .plain1 h

/-- the cells of a known value -/
theorem RelV.cells {φ : Emb} {v v' : Value} {cs : List Value} (h : RelV φ v v') (hc : cellsOf v = some cs) : cs.all Cm.one = true ∧ RelL φ cs v'.cells.toList := by
  cases h with
  | top v => cases hc
  | agg ho hs h => cases hc; exact ⟨ho, (relV_agg.1 (.agg ho hs h)).2⟩
  | tuple => cases hc
  | _ =>
    cases hc
    refine ⟨rfl, ?_⟩
    simp only [Value.cells]
    refine RelL.cons ?_ .nil
    first | exact .bool _ | exact .int _ _ | exact .str _ | exact .nilp | exact .nils | exact .slz | exact .nilm | exact .nilf | exact .nili | (constructor <;> assumption)

/-! ### memory -/

def CellsRel (φ : Emb) (W : World) (l : Loc) (cs : List Value) : Prop :=
  ∀ (i : Nat) (v : Value), cs[i]? = some v → one v = true ∧ ∃ v', W.cell? ⟨l.b, l.base + i, none⟩ = some v' ∧ RelV φ v v'
def Thawed (W : World) (b lo hi : Nat) : Prop := ∀ j, lo ≤ j → j < hi → W.frozen? ⟨b, j, none⟩ = false
def EntRel (φ : Emb) : List (Value × Value × Nat) → List MapEntry → Prop
  | [], [] => True
  | (k, v, n) :: es, e :: es' => RelV φ k e.key ∧ RelV φ v e.val ∧ e.born = n ∧ EntRel φ es es'
  | _, _ => False

def ObjRel (B : Nat) (φ : Emb) (W : World) (l : Loc) : CObj → Prop
  | .ro cs => l.b < B ∧ l.lo = none ∧ CellsRel φ W l cs
  | .rw cs => B ≤ l.b ∧ l.lo = none ∧ CellsRel φ W l cs ∧ Thawed W l.b l.base (l.base + cs.length) ∧ l.base = 0
  | .loose e cs => B ≤ l.b ∧ ∃ lo, l.lo = some lo ∧ lo.sz = cs.length ∧ lo.esz = e ∧ 0 < e ∧ l.base + cs.length ≤ lo.tot ∧ CellsRel φ W l cs ∧
      Thawed W l.b l.base lo.tot ∧ ∀ j, l.base ≤ j → j < lo.tot → (W.cell? ⟨l.b, j, none⟩).isSome = true
  | .dead => True
  | .map es k => B ≤ l.b ∧ l.lo = none ∧ l.base = 0 ∧ ∃ es', W.heap[l.b]? = some (.map es' k) ∧ EntRel φ es es'.toList

abbrev HF := Nat → Option CObj

structure Sim (B : Nat) (W0 : World) (φ : Emb) (H : HF) (W : World) : Prop where
  below : Below B W0 W
  inB : B ≤ W.heap.size
  lt : ∀ c l, φ c = some l → l.b < W.heap.size
  obj : ∀ c l o, φ c = some l → H c = some o → ObjRel B φ W l o
  inj : ∀ c1 c2 l1 l2 o1 o2, φ c1 = some l1 → φ c2 = some l2 → H c1 = some o1 → H c2 = some o2 → o1.excl = true → o2.excl = true → l1.b = l2.b → c1 = c2

structure Ext (φ φ' : Emb) (H H' : Heap) (W W' : World) : Prop where
  sub : Sub φ φ'
  dom : ∀ c l, φ c = none → φ' c = some l → H.n ≤ c ∧ c < H'.n
  img : ∀ c l, φ c = none → φ' c = some l → W.heap.size ≤ l.b ∨ ∃ c0 l0 o0, φ c0 = some l0 ∧ H.get? c0 = some o0 ∧ o0.excl = true ∧ l0.b = l.b
  keepW : ∀ b, b < W.heap.size → (∀ c l o, φ c = some l → H.get? c = some o → o.excl = true → l.b ≠ b) → W'.heap[b]? = W.heap[b]?
  keepH : ∀ c, c < H.n → φ c = none → H'.get? c = H.get? c
  excl : ∀ c o', c < H.n → H'.get? c = some o' → o'.excl = true → ∃ o, H.get? c = some o ∧ o.excl = true
  size : W.heap.size ≤ W'.heap.size
  le : H.n ≤ H'.n

/-- no number that the step may give out is taken -/
def Free (φ : Emb) (H H' : Heap) : Prop := ∀ c, H.n ≤ c → c < H'.n → φ c = none

theorem Heap.get?_lt {H : Heap} {c : Nat} {o : CObj} (h : H.get? c = some o) : c < H.n := by
  unfold Heap.get? at h
  split at h
  · assumption
  · cases h

theorem Ext.refl {φ : Emb} {H : Heap} {W : World} : Ext φ φ H H W W where
  sub := fun _ _ h => h
  dom := fun c l h h' => by rw [h] at h'; cases h'
  img := fun c l h h' => by rw [h] at h'; cases h'
  keepW := fun _ _ _ => rfl
  keepH := fun _ _ _ => rfl
  excl := fun c o' _ h e => ⟨o', h, e⟩
  size := Nat.le_refl _
  le := Nat.le_refl _

theorem Ext.old {φ φ1 : Emb} {H H1 : Heap} {W W1 : World} (a : Ext φ φ1 H H1 W W1) (hf : Free φ H H1) {c : Nat} {l : Loc} {o : CObj}
    (g1 : φ1 c = some l) (g2 : H1.get? c = some o) (g3 : o.excl = true) :
    W.heap.size ≤ l.b ∨ ∃ c0 l0 o0, φ c0 = some l0 ∧ H.get? c0 = some o0 ∧ o0.excl = true ∧ l0.b = l.b := by
  cases h0 : φ c with
  | none => exact a.img c l h0 g1
  | some l' =>
    have e := a.sub c l' h0; rw [g1] at e; cases e
    have hc1 := Heap.get?_lt g2
    have hc : c < H.n := by
      rcases Nat.lt_or_ge c H.n with h | h
      · exact h
      · have := hf c h hc1; rw [h0] at this; cases this
    obtain ⟨o', p1, p2⟩ := a.excl c o hc g2 g3
    exact .inr ⟨c, l, o', h0, p1, p2, rfl⟩

theorem Ext.trans {φ φ1 φ2 : Emb} {H H1 H2 : Heap} {W W1 W2 : World} (a : Ext φ φ1 H H1 W W1) (b : Ext φ1 φ2 H1 H2 W1 W2) (hf : Free φ H H2) :
    Ext φ φ2 H H2 W W2 where
  sub := fun c l h => b.sub c l (a.sub c l h)
  dom := fun c l h h' => by
    cases h1 : φ1 c with
    | none => have := b.dom c l h1 h'; have := a.le; omega
    | some l1 => have := a.dom c l1 h h1; have := b.le; omega
  img := fun c l h h' => by
    cases h1 : φ1 c with
    | some l1 => have e := b.sub c l1 h1; rw [h'] at e; cases e; exact a.img c l h h1
    | none =>
      rcases b.img c l h1 h' with g | ⟨c0, l0, o0, g1, g2, g3, g4⟩
      · exact .inl (Nat.le_trans a.size g)
      · rw [← g4]
        exact a.old (fun c x y => hf c x (Nat.lt_of_lt_of_le y b.le)) g1 g2 g3
  keepW := fun k hk hno => by
    rw [b.keepW k (Nat.lt_of_lt_of_le hk a.size) ?_, a.keepW k hk hno]
    intro c l o g1 g2 g3 e
    rcases a.old (fun c x y => hf c x (Nat.lt_of_lt_of_le y b.le)) g1 g2 g3 with g | ⟨c0, l0, o0, k1, k2, k3, k4⟩
    · omega
    · exact hno c0 l0 o0 k1 k2 k3 (k4.trans e)
  keepH := fun c hc hn => by
    have h1 : φ1 c = none := by
      cases h1 : φ1 c with
      | none => rfl
      | some l => have := (a.dom c l hn h1).1; omega
    rw [b.keepH c (Nat.lt_of_lt_of_le hc a.le) h1, a.keepH c hc hn]
  excl := fun c o' hc h e => by
    obtain ⟨o1, p, q⟩ := b.excl c o' (Nat.lt_of_lt_of_le hc a.le) h e
    exact a.excl c o1 hc p q
  size := Nat.le_trans a.size b.size
  le := Nat.le_trans a.le b.le

theorem Free.left {φ : Emb} {H H1 H2 : Heap} (h : Free φ H H2) (le : H1.n ≤ H2.n) : Free φ H H1 := fun c x y => h c x (Nat.lt_of_lt_of_le y le)
theorem Free.right {φ φ1 : Emb} {H H1 H2 : Heap} {W W1 : World} (h : Free φ H H2) (a : Ext φ φ1 H H1 W W1) : Free φ1 H1 H2 := by
  intro c x y
  cases h1 : φ1 c with
  | none => rfl
  | some l =>
    have h0 := h c (Nat.le_trans a.le x) y
    have := (a.dom c l h0 h1).2
    omega

/-! ### heap laws -/

theorem Heap.get?_push_old {H : Heap} {o : CObj} {c : Nat} (h : c < H.n) : (H.push o).get? c = H.get? c := by
  show (if c < H.n + 1 then (o :: H.l)[H.n + 1 - 1 - c]? else none) = (if c < H.n then H.l[H.n - 1 - c]? else none)
  rw [if_pos (by omega), if_pos h, show H.n + 1 - 1 - c = (H.n - 1 - c) + 1 from by omega, List.getElem?_cons_succ]
theorem Heap.get?_push_new {H : Heap} {o : CObj} : (H.push o).get? H.n = some o := by
  simp [Heap.get?, Heap.push]
theorem Heap.get?_ge {H : Heap} {c : Nat} (h : H.n ≤ c) : H.get? c = none := by
  show (if c < H.n then H.l[H.n - 1 - c]? else none) = none
  rw [if_neg (by omega)]
theorem Heap.get?_set_other {H : Heap} {o : CObj} {c d : Nat} (hd : d < H.n) (h : c ≠ d) : (H.set d o).get? c = H.get? c := by
  show (if c < H.n then (H.l.set (H.n - 1 - d) o)[H.n - 1 - c]? else none) = (if c < H.n then H.l[H.n - 1 - c]? else none)
  by_cases hc : c < H.n
  · rw [if_pos hc, if_pos hc, List.getElem?_set_ne (by omega)]
  · rw [if_neg hc, if_neg hc]
theorem Heap.get?_set_same {H : Heap} {o o' : CObj} {c : Nat} (h : H.get? c = some o') : (H.set c o).get? c = some o := by
  have hc := Heap.get?_lt h
  have h2 : H.l[H.n - 1 - c]? = some o' := by
    have : (if c < H.n then H.l[H.n - 1 - c]? else none) = some o' := h
    rwa [if_pos hc] at this
  show (if c < H.n then (H.l.set (H.n - 1 - c) o)[H.n - 1 - c]? else none) = some o
  rw [if_pos hc, List.getElem?_set_self]
  rcases Nat.lt_or_ge (H.n - 1 - c) H.l.length with g | g
  · exact g
  · rw [List.getElem?_eq_none g] at h2; cases h2
@[simp] theorem Heap.n_push {H : Heap} {o : CObj} : (H.push o).n = H.n + 1 := rfl
@[simp] theorem Heap.n_set {H : Heap} {o : CObj} {c : Nat} : (H.set c o).n = H.n := rfl

/-! ### objects in a memory that has grown or was written elsewhere -/

theorem cell?_of_block {W W' : World} {b o : Nat} (h : W'.heap[b]? = W.heap[b]?) : W'.cell? ⟨b, o, none⟩ = W.cell? ⟨b, o, none⟩ := by
  simp only [World.cell?, h]
theorem frozen?_of_block {W W' : World} {b o : Nat} (h : W'.heap[b]? = W.heap[b]?) : W'.frozen? ⟨b, o, none⟩ = W.frozen? ⟨b, o, none⟩ := by
  simp only [World.frozen?, h]
theorem CellsRel.keep {φ φ' : Emb} {W W' : World} {l : Loc} {cs : List Value} (hs : Sub φ φ') (h : W'.heap[l.b]? = W.heap[l.b]?) (r : CellsRel φ W l cs) :
    CellsRel φ' W' l cs := by
  intro i v hv
  obtain ⟨ho, v', p, q⟩ := r i v hv
  exact ⟨ho, v', by rw [cell?_of_block h]; exact p, q.mono hs⟩
theorem Thawed.keep {W W' : World} {b lo hi : Nat} (h : W'.heap[b]? = W.heap[b]?) (r : Thawed W b lo hi) : Thawed W' b lo hi := by
  intro j p q
  rw [frozen?_of_block h]; exact r j p q
theorem EntRel.mono {φ φ' : Emb} (hs : Sub φ φ') : ∀ {es : List (Value × Value × Nat)} {es' : List MapEntry}, EntRel φ es es' → EntRel φ' es es'
  | [], [], _ => trivial
  | (k, v, n) :: es, e :: es', h => ⟨h.1.mono hs, h.2.1.mono hs, h.2.2.1, EntRel.mono hs h.2.2.2⟩
  | [], _ :: _, h => h.elim
  | _ :: _, [], h => h.elim
theorem ObjRel.keep {B : Nat} {φ φ' : Emb} {W W' : World} {l : Loc} {o : CObj} (hs : Sub φ φ') (h : W'.heap[l.b]? = W.heap[l.b]?) (r : ObjRel B φ W l o) :
    ObjRel B φ' W' l o := by
  cases o with
  | ro cs => exact ⟨r.1, r.2.1, r.2.2.keep hs h⟩
  | rw cs => exact ⟨r.1, r.2.1, r.2.2.1.keep hs h, r.2.2.2.1.keep h, r.2.2.2.2⟩
  | loose e cs =>
    obtain ⟨h1, lo, h2, h3, h4, h5, h6, h7, h8, h9⟩ := r
    exact ⟨h1, lo, h2, h3, h4, h5, h6, h7.keep hs h, h8.keep h, fun j p q => by rw [cell?_of_block h]; exact h9 j p q⟩
  | dead => trivial
  | map es k =>
    obtain ⟨h1, h2, h3, es', h4, h5⟩ := r
    exact ⟨h1, h2, h3, es', by rw [h]; exact h4, h5.mono hs⟩

/-- only the tape's count has turned -/
theorem Sim.drew {B : Nat} {W0 : World} {φ : Emb} {H : HF} {W : World} (s : Sim B W0 φ H W) : Sim B W0 φ H W.drew where
  below := s.below.drew
  inB := s.inB
  lt := s.lt
  obj := fun c l o h h' => (s.obj c l o h h').keep (fun _ _ h => h) rfl
  inj := s.inj
theorem Ext.drew {φ : Emb} {H : Heap} {W : World} : Ext φ φ H H W W.drew where
  sub := fun _ _ h => h
  dom := fun c l h h' => by rw [h] at h'; cases h'
  img := fun c l h h' => by rw [h] at h'; cases h'
  keepW := fun _ _ _ => rfl
  keepH := fun _ _ _ => rfl
  excl := fun c o' _ h e => ⟨o', h, e⟩
  size := Nat.le_refl _
  le := Nat.le_refl _

def Emb.add (φ : Emb) (c : Nat) (l : Loc) : Emb := fun d => if d = c then some l else φ d
theorem Emb.sub_add {φ : Emb} {c : Nat} {l : Loc} (h : φ c = none) : Sub φ (φ.add c l) := by
  intro d k hk
  unfold Emb.add
  split
  · rename_i e; subst e; rw [h] at hk; cases hk
  · exact hk
theorem Emb.add_same {φ : Emb} {c : Nat} {l : Loc} : φ.add c l c = some l := by simp [Emb.add]
theorem Emb.add_other {φ : Emb} {c d : Nat} {l : Loc} (h : d ≠ c) : φ.add c l d = φ d := by simp [Emb.add, h]

/-- one new block for one new object -/
theorem Sim.alloc {B : Nat} {W0 : World} {φ : Emb} {H : Heap} {W : World} {o : CObj} {ob : Obj} {l : Loc} (s : Sim B W0 φ H.get? W) (hn : φ H.n = none)
    (hb : l.b = W.heap.size) (ho : ObjRel B (φ.add H.n l) (W.alloc ob) l o) :
    Sim B W0 (φ.add H.n l) (H.push o).get? (W.alloc ob) ∧ Ext φ (φ.add H.n l) H (H.push o) W (W.alloc ob) := by
  have keep : ∀ b, b < W.heap.size → (W.alloc ob).heap[b]? = W.heap[b]? := fun b h => Below.heap_alloc _ _ _ h
  refine ⟨⟨s.below.alloc s.inB ob, Nat.le_trans s.inB (by simp), ?_, ?_, ?_⟩, ⟨Emb.sub_add hn, ?_, ?_, fun b h _ => keep b h, fun c h _ => Heap.get?_push_old h, ?_, by simp, by simp⟩⟩
  · intro c k h
    by_cases hc : c = H.n
    · subst hc; rw [Emb.add_same] at h; cases h; simp; omega
    · rw [Emb.add_other hc] at h; have := s.lt c k h; simp; omega
  · intro c k o' h h'
    by_cases hc : c = H.n
    · subst hc; rw [Emb.add_same] at h; cases h; rw [Heap.get?_push_new] at h'; cases h'; exact ho
    · rw [Emb.add_other hc] at h
      have hlt : c < H.n := by have := Heap.get?_lt h'; simp at this; omega
      rw [Heap.get?_push_old hlt] at h'
      exact (s.obj c k o' h h').keep (Emb.sub_add hn) (keep _ (s.lt c k h))
  · intro c1 c2 l1 l2 o1 o2 g1 g2 h1 h2 e1 e2 e
    by_cases hc1 : c1 = H.n
    · by_cases hc2 : c2 = H.n
      · rw [hc1, hc2]
      · rw [Emb.add_other hc2] at g2; subst hc1; rw [Emb.add_same] at g1; cases g1
        have := s.lt c2 l2 g2; omega
    · by_cases hc2 : c2 = H.n
      · rw [Emb.add_other hc1] at g1; subst hc2; rw [Emb.add_same] at g2; cases g2
        have := s.lt c1 l1 g1; omega
      · rw [Emb.add_other hc1] at g1; rw [Emb.add_other hc2] at g2
        have hl1 : c1 < H.n := by have := Heap.get?_lt h1; simp at this; omega
        have hl2 : c2 < H.n := by have := Heap.get?_lt h2; simp at this; omega
        rw [Heap.get?_push_old hl1] at h1; rw [Heap.get?_push_old hl2] at h2
        exact s.inj c1 c2 l1 l2 o1 o2 g1 g2 h1 h2 e1 e2 e
  · intro c k h h'
    by_cases hc : c = H.n
    · subst hc; simp
    · rw [Emb.add_other hc, h] at h'; cases h'
  · intro c k h h'
    by_cases hc : c = H.n
    · subst hc; rw [Emb.add_same] at h'; cases h'; left; omega
    · rw [Emb.add_other hc, h] at h'; cases h'
  · intro c o' hc h e
    rw [Heap.get?_push_old hc] at h
    exact ⟨o', h, e⟩


/-! ### writing cells -/

def storeAll (W : World) (b o : Nat) : List Value → World
  | [] => W
  | v :: vs => storeAll (W.setCell ⟨b, o, none⟩ v) b (o + 1) vs

theorem storeAll_size {b : Nat} : ∀ {vs : List Value} {W : World} {o : Nat}, (storeAll W b o vs).heap.size = W.heap.size
  | [], W, o => rfl
  | v :: vs, W, o => by simp only [storeAll]; rw [storeAll_size]; simp
theorem storeAll_other {b k : Nat} (hk : k ≠ b) : ∀ {vs : List Value} {W : World} {o : Nat}, (storeAll W b o vs).heap[k]? = W.heap[k]?
  | [], W, o => rfl
  | v :: vs, W, o => by simp only [storeAll]; rw [storeAll_other hk]; exact Below.heap_setCell _ _ _ _ hk
theorem storeAll_frozen {b : Nat} {a : Addr} : ∀ {vs : List Value} {W : World} {o : Nat}, (storeAll W b o vs).frozen? a = W.frozen? a
  | [], W, o => rfl
  | v :: vs, W, o => by simp only [storeAll]; rw [storeAll_frozen]; simp
theorem storeAll_below {B b : Nat} {W0 : World} (hB : B ≤ b) : ∀ {vs : List Value} {W : World} {o : Nat}, Below B W0 W → Below B W0 (storeAll W b o vs)
  | [], W, o, h => h
  | v :: vs, W, o, h => by simp only [storeAll]; exact storeAll_below hB (h.setCell hB v)
theorem storeAll_cell {b j : Nat} : ∀ {vs : List Value} {W : World} {o : Nat}, (∀ i, i < vs.length → (W.cell? ⟨b, o + i, none⟩).isSome = true) →
    (storeAll W b o vs).cell? ⟨b, j, none⟩ = if o ≤ j ∧ j < o + vs.length then vs[j - o]? else W.cell? ⟨b, j, none⟩
  | [], W, o, _ => by simp [storeAll]; intro h1 h2; omega
  | v :: vs, W, o, h => by
    have h0 : (W.cell? ⟨b, o, none⟩).isSome = true := h 0 (by simp)
    obtain ⟨u, hu⟩ := Option.isSome_iff_exists.1 h0
    have hne : ∀ i, i ≠ o → (W.setCell ⟨b, o, none⟩ v).cell? ⟨b, i, none⟩ = W.cell? ⟨b, i, none⟩ := fun i hi =>
      World.cell?_setCell_other _ _ _ _ (by intro e; injection e with _ e2; exact hi e2.symm)
    simp only [storeAll]
    rw [storeAll_cell (fun i hi => by rw [hne _ (by omega)]; have := h (i + 1) (by simp; omega); rwa [show o + (i + 1) = o + 1 + i from by omega] at this)]
    by_cases hj : j = o
    · subst hj
      rw [if_neg (by omega), if_pos ⟨by omega, by simp⟩, World.cell?_setCell_same _ _ _ hu]; simp
    · rw [hne j hj]
      by_cases hc : o + 1 ≤ j ∧ j < o + 1 + vs.length
      · rw [if_pos hc, if_pos ⟨by omega, by simp; omega⟩, show j - o = (j - (o + 1)) + 1 from by omega, List.getElem?_cons_succ]
      · rw [if_neg hc, if_neg (by simp; omega)]

theorem run_storeCells {P : Program} {b o : Nat} : ∀ {vs : List Value} {W : World} {i : Nat}, (∀ j, j < vs.length → (W.cell? ⟨b, o + i + j, none⟩).isSome = true) →
    (∀ j, j < vs.length → W.frozen? ⟨b, o + i + j, none⟩ = false) → (∀ v ∈ vs, v.oneCell' = true) →
    (storeCells ⟨b, o, none⟩ vs i).run P W = .ok () (storeAll W b (o + i) vs)
  | [], W, i, _, _, _ => rfl
  | v :: vs, W, i, hc, hf, ho => by
    have h0 := hc 0 (by simp)
    obtain ⟨u, hu⟩ := Option.isSome_iff_exists.1 h0
    have hf0 := hf 0 (by simp)
    simp only [Nat.add_zero] at hu hf0
    have ea : (⟨b, o, none⟩ : Addr).add i = ⟨b, o + i, none⟩ := by unfold Addr.add; split <;> simp_all
    simp only [storeCells, Sem.run_bind, ea, run_store P W _ v _ (ho v (by simp)), hu, hf0, Bool.false_eq_true, if_false, Result.andThen_ok, storeAll]
    have hne : ∀ k, k ≠ o + i → (W.setCell ⟨b, o + i, none⟩ v).cell? ⟨b, k, none⟩ = W.cell? ⟨b, k, none⟩ := fun k hk =>
      World.cell?_setCell_other _ _ _ _ (by intro e; injection e with _ e2; exact hk e2.symm)
    rw [run_storeCells (i := i + 1)]
    · rfl
    · intro j hj; rw [hne _ (by omega)]; have := hc (j + 1) (by simp; omega); rwa [show o + i + (j + 1) = o + (i + 1) + j from by omega] at this
    · intro j hj; rw [World.frozen?_setCell]; have := hf (j + 1) (by simp; omega); rwa [show o + i + (j + 1) = o + (i + 1) + j from by omega] at this
    · intro u hu; exact ho u (by simp [hu])

/-- a canonical write, and the model's -/
theorem Sim.write {B : Nat} {W0 : World} {φ : Emb} {H H' : Heap} {W : World} {c o : Nat} {l : Loc} {vs vs' : List Value} (s : Sim B W0 φ H.get? W)
    (hl : φ c = some l) (hw : H.wr ⟨c, o, none⟩ vs = some H') (hr : RelL φ vs vs') (ho : vs.all one = true) :
    (∀ j, j < vs'.length → (W.cell? ⟨l.b, l.base + o + j, none⟩).isSome = true) ∧ (∀ j, j < vs'.length → W.frozen? ⟨l.b, l.base + o + j, none⟩ = false) ∧
      Sim B W0 φ H'.get? (storeAll W l.b (l.base + o) vs') ∧ Ext φ φ H H' W (storeAll W l.b (l.base + o) vs') := by
  have key : ∃ cs ob ob', H.get? c = some ob ∧ ob.excl = true ∧ ob'.excl = true ∧ H' = H.set c ob' ∧ o + vs.length ≤ cs.length ∧ CellsRel φ W l cs ∧ B ≤ l.b ∧ Thawed W l.b l.base (l.base + cs.length) ∧
      (∀ W', (∀ k, k ≠ l.b → W'.heap[k]? = W.heap[k]?) → (∀ a, W'.frozen? a = W.frozen? a) → (∀ j, (W.cell? ⟨l.b, j, none⟩).isSome = true → (W'.cell? ⟨l.b, j, none⟩).isSome = true) →
        CellsRel φ W' l (splice cs o vs) → ObjRel B φ W' l ob') := by
    simp only [Heap.wr, Option.isSome_none, Bool.false_eq_true, if_false] at hw
    split at hw
    · rename_i cs hg
      split at hw
      · rename_i hle
        cases hw
        obtain ⟨h1, h2, h3, h4, h5⟩ := s.obj c l _ hl hg
        refine ⟨cs, _, .rw (splice cs o vs), hg, rfl, rfl, rfl, hle, h3, h1, h4, fun W' _ hfz _ hcr => ⟨h1, h2, hcr, ?_, h5⟩⟩
        rw [splice_length _ _ _ hle]
        exact fun j p q => by rw [hfz]; exact h4 j p q
      · cases hw
    · rename_i e cs hg
      split at hw
      · rename_i hle
        cases hw
        obtain ⟨h1, lo, h2, h3, h4, h5, h6, h7, h8, h9⟩ := s.obj c l _ hl hg
        refine ⟨cs, _, .loose e (splice cs o vs), hg, rfl, rfl, rfl, hle, h7, h1, fun j p q => h8 j p (by omega), fun W' _ hfz hsm hcr => ⟨h1, lo, h2, ?_, h4, h5, ?_, hcr, ?_, ?_⟩⟩
        · rw [splice_length _ _ _ hle]; exact h3
        · rw [splice_length _ _ _ hle]; exact h6
        · exact fun j p q => by rw [hfz]; exact h8 j p q
        · exact fun j p q => hsm j (h9 j p q)
      · cases hw
    · cases hw
  obtain ⟨cs, ob, ob', hg, hex, hex', rfl, hle, hcells, hB, hth, hmk⟩ := key
  have hlen : vs'.length = vs.length := hr.1.symm
  have hsome : ∀ j, j < vs'.length → (W.cell? ⟨l.b, l.base + o + j, none⟩).isSome = true := by
    intro j hj
    obtain ⟨_, v', p, _⟩ := hcells (o + j) (cs[o + j]'(by omega)) (List.getElem?_eq_getElem _)
    rw [show l.base + o + j = l.base + (o + j) from by omega, p]; rfl
  have hcd := Heap.get?_lt hg
  have hother : ∀ k, k ≠ l.b → (storeAll W l.b (l.base + o) vs').heap[k]? = W.heap[k]? := fun k hk => storeAll_other hk
  refine ⟨hsome, fun j hj => hth _ (by omega) (by omega), ⟨storeAll_below hB s.below, by rw [storeAll_size]; exact s.inB, fun c' l' h => by rw [storeAll_size]; exact s.lt c' l' h, ?_, ?_⟩,
    ⟨fun _ _ h => h, fun c' l' h h' => (by rw [h] at h'; cases h'), fun c' l' h h' => (by rw [h] at h'; cases h'), ?_, ?_, ?_, (by rw [storeAll_size]; exact Nat.le_refl _), Nat.le_refl _⟩⟩
  · intro c' l' o' h h'
    by_cases hc : c' = c
    · subst hc
      rw [hl] at h; cases h
      rw [Heap.get?_set_same hg] at h'; cases h'
      refine hmk _ hother (fun a => storeAll_frozen) ?_ ?_
      · intro j hj
        rw [storeAll_cell hsome]
        split
        · rw [List.getElem?_eq_getElem (by omega)]; rfl
        · exact hj
      · intro i v hv
        rw [splice_get _ _ _ _ hle] at hv
        rw [storeAll_cell hsome]
        by_cases hi : o ≤ i ∧ i < o + vs.length
        · rw [if_pos hi] at hv
          rw [if_pos ⟨by omega, by omega⟩]
          refine ⟨?_, ?_⟩
          · rw [List.all_eq_true] at ho; exact ho v (List.mem_of_getElem? hv)
          · obtain ⟨v', p, q⟩ := hr.get hv
            exact ⟨v', by rw [show l.base + i - (l.base + o) = i - o from by omega]; exact p, q⟩
        · rw [if_neg hi] at hv
          rw [if_neg (by omega)]
          exact hcells i v hv
    · rw [Heap.get?_set_other hcd hc] at h'
      by_cases hb : l'.b = l.b
      · have old := s.obj c' l' o' h h'
        cases o' with
        | dead => trivial
        | ro cs' => have := old.1; omega
        | rw cs' => exact absurd (s.inj c' c l' l _ ob h hl h' hg rfl hex hb) hc
        | loose e cs' => exact absurd (s.inj c' c l' l _ ob h hl h' hg rfl hex hb) hc
        | map es k => exact absurd (s.inj c' c l' l _ ob h hl h' hg rfl hex hb) hc
      · exact (s.obj c' l' o' h h').keep (fun _ _ h => h) (hother _ hb)
  · intro c1 c2 l1 l2 o1 o2 g1 g2 h1 h2 e1 e2 e
    have back : ∀ d od, (H.set c ob').get? d = some od → od.excl = true → ∃ od', H.get? d = some od' ∧ od'.excl = true := by
      intro d od hd he
      by_cases hdc : d = c
      · subst hdc; exact ⟨ob, hg, hex⟩
      · rw [Heap.get?_set_other hcd hdc] at hd; exact ⟨od, hd, he⟩
    obtain ⟨o1', p1, q1⟩ := back c1 o1 h1 e1
    obtain ⟨o2', p2, q2⟩ := back c2 o2 h2 e2
    exact s.inj c1 c2 l1 l2 o1' o2' g1 g2 p1 p2 q1 q2 e
  · intro b hb hno
    exact hother b fun e => hno c l ob hl hg hex e.symm
  · intro c' _ hn
    exact Heap.get?_set_other hcd fun e => by subst e; rw [hl] at hn; cases hn
  · intro c' o' _ h e
    by_cases hc : c' = c
    · subst hc; exact ⟨ob, hg, hex⟩
    · rw [Heap.get?_set_other hcd hc] at h; exact ⟨o', h, e⟩

end Go.Cm
