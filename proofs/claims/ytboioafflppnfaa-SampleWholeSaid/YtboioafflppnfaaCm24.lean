/- The canonical machine: a call whose arguments have no addresses, known on no memory, is known on every memory: what it made lies behind. Conditions: none. -/
import Derived.Test.YtboioafflppnfaaCm23
namespace Go.Cm
open Go.RowKit
set_option linter.unusedVariables false
set_option linter.unusedSimpArgs false

/-- one cell's value, its addresses moved -/
def shC (n : Nat) (k : Nat) : Value → Value := match k with
  | 0 => fun v => match v with
    | .pointer (some a) => .pointer (some ⟨n + a.block, a.off, a.spot⟩)
    | .slice (some a) l c => .slice (some ⟨n + a.block, a.off, a.spot⟩) l c
    | .map (some c) => .map (some (n + c))
    | .iface t _ => .iface t unk
    | .func f a b => .func f (a.map fun _ => unk) (b.map fun _ => unk)
    | .agg _ => unk
    | .tuple _ => unk
    | v => v
  | k + 1 => fun v => match v with
    | .pointer (some a) => .pointer (some ⟨n + a.block, a.off, a.spot⟩)
    | .slice (some a) l c => .slice (some ⟨n + a.block, a.off, a.spot⟩) l c
    | .map (some c) => .map (some (n + c))
    | .iface t v => .iface t (match v with | .agg cs => .agg (cs.map (shC n k)) | v => shC n k v)
    | .func f a b => .func f (a.map fun v => match v with | .agg cs => .agg (cs.map (shC n k)) | v => shC n k v) (b.map fun v => match v with | .agg cs => .agg (cs.map (shC n k)) | v => shC n k v)
    | .agg _ => unk
    | .tuple _ => unk
    | v => v
def shX (n : Nat) (k : Nat) (v : Value) : Value := match v with
  | .agg cs => .agg (cs.map (shC n k))
  | v => shC n k v
def shR (n : Nat) : Value → Value
  | .tuple vs => .tuple (vs.map (shX n 3))
  | v => shX n 3 v
def shO (n : Nat) : CObj → CObj
  | .ro cs => .ro (cs.map (shC n 3))
  | .rw cs => .rw (cs.map (shC n 3))
  | .loose e cs => .loose e (cs.map (shC n 3))
  | .dead => .dead
  | .map es k => .map (es.map fun e => (shX n 3 e.1, shX n 3 e.2.1, e.2.2)) k
def Heap.add (h h1 : Heap) : Heap := ⟨h.n + h1.n, h1.l.map (shO h.n) ++ h.l⟩

section
variable {φ ψ : Emb} {n : Nat} (hφ : ∀ c l, φ c = some l → ψ (n + c) = some l)
include hφ

theorem shC_rel : ∀ (k : Nat) (u v : Value), RelV φ u v → RelV ψ (shC n k u) v ∧ (one u = true → one (shC n k u) = true)
  | 0, u, v, h => by
    cases h with
    | top v => exact ⟨.top v, id⟩
    | bool b => exact ⟨.bool b, id⟩
    | int q m => exact ⟨.int q m, id⟩
    | str s => exact ⟨.str s, id⟩
    | nilp => exact ⟨.nilp, id⟩
    | ptr hc => exact ⟨.ptr (hφ _ _ hc), fun _ => rfl⟩
    | nils => exact ⟨.nils, id⟩
    | sl hc hk hn => exact ⟨.sl (hφ _ _ hc) hk hn, fun _ => rfl⟩
    | slz => exact ⟨.slz, fun _ => rfl⟩
    | nilm => exact ⟨.nilm, id⟩
    | map hc hb => exact ⟨.map (hφ _ _ hc) hb, fun _ => rfl⟩
    | nilf => exact ⟨.nilf, id⟩
    | nili => exact ⟨.nili, id⟩
    | iface h => exact ⟨.iface (.top _), fun _ => rfl⟩
    | agg => exact ⟨.top _, fun e => by cases e⟩
    | tuple => exact ⟨.top _, fun e => by cases e⟩
    | func h1 h2 h3 h4 =>
      refine ⟨.func (by simpa using h1) (fun i p q e1 e2 => ?_) (by simpa using h3) (fun i p q e1 e2 => ?_), fun _ => rfl⟩
      · simp only [Array.getElem?_map, Option.map_eq_some_iff] at e1
        obtain ⟨_, _, rfl⟩ := e1; exact .top _
      · simp only [Array.getElem?_map, Option.map_eq_some_iff] at e1
        obtain ⟨_, _, rfl⟩ := e1; exact .top _
  | k + 1, u, v, h => by
    have inner : ∀ p q, RelV φ p q → RelV ψ (match p with | .agg cs => .agg (cs.map (shC n k)) | v => shC n k v) q := by
      intro p q hpq
      cases hpq with
      | @agg a b ho hs hh =>
        refine .agg ?_ (by simpa using hs) fun i v v' e1 e2 => ?_
        · rw [List.all_eq_true] at ho ⊢
          intro x hx
          simp only [Array.toList_map, List.mem_map] at hx
          obtain ⟨y, hy, rfl⟩ := hx
          obtain ⟨i, hi⟩ := List.getElem?_of_mem hy
          have hlt : i < b.size := by
            rw [← hs]
            rcases Nat.lt_or_ge i a.size with g | g
            · exact g
            · rw [List.getElem?_eq_none (by simpa using g)] at hi; cases hi
          exact (shC_rel k y b[i] (hh i y b[i] (by simpa using hi) (Array.getElem?_eq_getElem hlt))).2 (ho y hy)
        · simp only [Array.getElem?_map, Option.map_eq_some_iff] at e1
          obtain ⟨y, e3, rfl⟩ := e1
          exact (shC_rel k y v' (hh i y v' e3 e2)).1
      | top v => exact (shC_rel k (.chan none) _ (.top _)).1
      | bool b => exact (shC_rel k _ _ (.bool b)).1
      | int a b => exact (shC_rel k _ _ (.int a b)).1
      | str s => exact (shC_rel k _ _ (.str s)).1
      | nilp => exact (shC_rel k _ _ .nilp).1
      | ptr hc => exact (shC_rel k _ _ (.ptr hc)).1
      | nils => exact (shC_rel k _ _ .nils).1
      | sl hc hk hn => exact (shC_rel k _ _ (.sl hc hk hn)).1
      | slz => exact (shC_rel k _ _ .slz).1
      | nilm => exact (shC_rel k _ _ .nilm).1
      | map hc hb => exact (shC_rel k _ _ (.map hc hb)).1
      | nilf => exact (shC_rel k _ _ .nilf).1
      | nili => exact (shC_rel k _ _ .nili).1
      | iface h => exact (shC_rel k _ _ (.iface h)).1
      | tuple h1 h2 => exact (shC_rel k _ _ (.tuple h1 h2)).1
      | func h1 h2 h3 h4 => exact (shC_rel k _ _ (.func h1 h2 h3 h4)).1
    cases h with
    | top v => exact ⟨.top v, id⟩
    | bool b => exact ⟨.bool b, id⟩
    | int q m => exact ⟨.int q m, id⟩
    | str s => exact ⟨.str s, id⟩
    | nilp => exact ⟨.nilp, id⟩
    | ptr hc => exact ⟨.ptr (hφ _ _ hc), fun _ => rfl⟩
    | nils => exact ⟨.nils, id⟩
    | sl hc hk hn => exact ⟨.sl (hφ _ _ hc) hk hn, fun _ => rfl⟩
    | slz => exact ⟨.slz, fun _ => rfl⟩
    | nilm => exact ⟨.nilm, id⟩
    | map hc hb => exact ⟨.map (hφ _ _ hc) hb, fun _ => rfl⟩
    | nilf => exact ⟨.nilf, id⟩
    | nili => exact ⟨.nili, id⟩
    | iface h => exact ⟨.iface (inner _ _ h), fun _ => rfl⟩
    | agg => exact ⟨.top _, fun e => by cases e⟩
    | tuple => exact ⟨.top _, fun e => by cases e⟩
    | func h1 h2 h3 h4 =>
      refine ⟨.func (by simpa using h1) (fun i p q e1 e2 => ?_) (by simpa using h3) (fun i p q e1 e2 => ?_), fun _ => rfl⟩
      · simp only [Array.getElem?_map, Option.map_eq_some_iff] at e1
        obtain ⟨y, e3, rfl⟩ := e1; exact inner _ _ (h2 i y q e3 e2)
      · simp only [Array.getElem?_map, Option.map_eq_some_iff] at e1
        obtain ⟨y, e3, rfl⟩ := e1; exact inner _ _ (h4 i y q e3 e2)

theorem shX_rel (k : Nat) {u v : Value} (h : RelV φ u v) : RelV ψ (shX n k u) v := by
  unfold shX
  cases h with
  | @agg a b ho hs hh =>
    refine .agg ?_ (by simpa using hs) fun i v v' e1 e2 => ?_
    · rw [List.all_eq_true] at ho ⊢
      intro x hx
      simp only [Array.toList_map, List.mem_map] at hx
      obtain ⟨y, hy, rfl⟩ := hx
      obtain ⟨i, hi⟩ := List.getElem?_of_mem hy
      have hlt : i < b.size := by
        rw [← hs]
        rcases Nat.lt_or_ge i a.size with g | g
        · exact g
        · rw [List.getElem?_eq_none (by simpa using g)] at hi; cases hi
      exact (shC_rel hφ k y b[i] (hh i y b[i] (by simpa using hi) (Array.getElem?_eq_getElem hlt))).2 (ho y hy)
    · simp only [Array.getElem?_map, Option.map_eq_some_iff] at e1
      obtain ⟨y, e3, rfl⟩ := e1
      exact (shC_rel hφ k y v' (hh i y v' e3 e2)).1
  | top v => exact (shC_rel hφ k _ _ (.top v)).1
  | bool b => exact (shC_rel hφ k _ _ (.bool b)).1
  | int a b => exact (shC_rel hφ k _ _ (.int a b)).1
  | str s => exact (shC_rel hφ k _ _ (.str s)).1
  | nilp => exact (shC_rel hφ k _ _ .nilp).1
  | ptr hc => exact (shC_rel hφ k _ _ (.ptr hc)).1
  | nils => exact (shC_rel hφ k _ _ .nils).1
  | sl hc hk hn => exact (shC_rel hφ k _ _ (.sl hc hk hn)).1
  | slz => exact (shC_rel hφ k _ _ .slz).1
  | nilm => exact (shC_rel hφ k _ _ .nilm).1
  | map hc hb => exact (shC_rel hφ k _ _ (.map hc hb)).1
  | nilf => exact (shC_rel hφ k _ _ .nilf).1
  | nili => exact (shC_rel hφ k _ _ .nili).1
  | iface h => exact (shC_rel hφ k _ _ (.iface h)).1
  | tuple h1 h2 => exact (shC_rel hφ k _ _ (.tuple h1 h2)).1
  | func h1 h2 h3 h4 => exact (shC_rel hφ k _ _ (.func h1 h2 h3 h4)).1

theorem shR_rel {u v : Value} (h : RelV φ u v) : RelV ψ (shR n u) v := by
  cases h with
  | tuple hs hh =>
    refine .tuple (by simpa using hs) fun i v v' e1 e2 => ?_
    simp only [Array.getElem?_map, Option.map_eq_some_iff] at e1
    obtain ⟨y, e3, rfl⟩ := e1
    exact shX_rel hφ 3 (hh i y v' e3 e2)
  | top v => exact shX_rel hφ 3 (.top v)
  | bool b => exact shX_rel hφ 3 (.bool b)
  | int a b => exact shX_rel hφ 3 (.int a b)
  | str s => exact shX_rel hφ 3 (.str s)
  | nilp => exact shX_rel hφ 3 .nilp
  | ptr hc => exact shX_rel hφ 3 (.ptr hc)
  | nils => exact shX_rel hφ 3 .nils
  | sl hc hk hn => exact shX_rel hφ 3 (.sl hc hk hn)
  | slz => exact shX_rel hφ 3 .slz
  | nilm => exact shX_rel hφ 3 .nilm
  | map hc hb => exact shX_rel hφ 3 (.map hc hb)
  | nilf => exact shX_rel hφ 3 .nilf
  | nili => exact shX_rel hφ 3 .nili
  | iface h => exact shX_rel hφ 3 (.iface h)
  | agg h1 h2 h3 => exact shX_rel hφ 3 (.agg h1 h2 h3)
  | func h1 h2 h3 h4 => exact shX_rel hφ 3 (.func h1 h2 h3 h4)

theorem shCells_rel {W : World} {l : Loc} {cs : List Value} (h : CellsRel φ W l cs) : CellsRel ψ W l (cs.map (shC n 3)) := by
  intro i v hv
  rw [List.getElem?_map, Option.map_eq_some_iff] at hv
  obtain ⟨u, hu, rfl⟩ := hv
  obtain ⟨ho, v', hc, hr⟩ := h i u hu
  obtain ⟨r1, r2⟩ := shC_rel hφ 3 u v' hr
  exact ⟨r2 ho, v', hc, r1⟩

theorem shEnt_rel : ∀ {es : List (Value × Value × Nat)} {es' : List MapEntry}, EntRel φ es es' → EntRel ψ (es.map fun e => (shX n 3 e.1, shX n 3 e.2.1, e.2.2)) es'
  | [], [], _ => trivial
  | [], _ :: _, h => h.elim
  | _ :: _, [], h => h.elim
  | (k, v, m) :: es, e :: es', h => ⟨shX_rel hφ 3 h.1, shX_rel hφ 3 h.2.1, h.2.2.1, shEnt_rel h.2.2.2⟩

theorem shO_rel {B B' : Nat} {W : World} {l : Loc} {o : CObj} (hb : B' ≤ B) (hro : ∀ cs, o ≠ .ro cs) (h : ObjRel B φ W l o) : ObjRel B' ψ W l (shO n o) := by
  cases o with
  | ro cs => exact absurd rfl (hro cs)
  | rw cs =>
    obtain ⟨h1, h2, h3, h4, h5⟩ := h
    exact ⟨Nat.le_trans hb h1, h2, shCells_rel hφ h3, by rw [List.length_map]; exact h4, h5⟩
  | loose e cs =>
    obtain ⟨h1, lo, h2, h3, h4, h5, h6, h7, h8, h9⟩ := h
    exact ⟨Nat.le_trans hb h1, lo, h2, by rw [List.length_map]; exact h3, h4, h5, by rw [List.length_map]; exact h6, shCells_rel hφ h7, h8, h9⟩
  | dead => trivial
  | map es k =>
    obtain ⟨h1, h2, h3, es', h4, h5⟩ := h
    exact ⟨Nat.le_trans hb h1, h2, h3, es', h4, shEnt_rel hφ h5⟩
end

theorem get_add {h h1 : Heap} (hl : h1.l.length = h1.n) (c : Nat) : (h.add h1).get? c = if c < h.n then h.get? c else (h1.get? (c - h.n)).map (shO h.n) := by
  unfold Heap.add Heap.get?
  by_cases hc : c < h.n
  · rw [if_pos hc]
    simp only
    rw [if_pos (by omega), if_pos hc, List.getElem?_append_right (by simp; omega)]
    congr 1
    simp; omega
  · rw [if_neg hc]
    simp only
    by_cases hc2 : c < h.n + h1.n
    · rw [if_pos hc2, if_pos (by omega), List.getElem?_append_left (by simp; omega), List.getElem?_map]
      congr 2
      omega
    · rw [if_neg hc2, if_neg (by omega)]; rfl

/-- nothing in it is only read; its list is as long as it says -/
def madeOnly (h : Heap) : Bool := Nat.beq h.l.length h.n && h.l.all fun | .ro _ => false | _ => true
theorem madeOnly_ro {h : Heap} (hm : madeOnly h = true) {c : Nat} {o : CObj} (ho : h.get? c = some o) : ∀ cs, o ≠ .ro cs := by
  rintro cs rfl
  unfold madeOnly at hm
  rw [Bool.and_eq_true, List.all_eq_true] at hm
  unfold Heap.get? at ho
  split at ho
  · have := hm.2 _ (List.mem_of_getElem? ho)
    cases this
  · cases ho

theorem made_call {P : Program} {M : Prg} {g : FuncId} {args : List Value} {v : Value} {h1 : Heap} (hmix : P.follows .mixedOrders = true) (hM : Knows P 0 M) (hev : Ev M (.call g args ⟨0, []⟩ v h1)) (hargs : args.all flat = true) (hm : madeOnly h1 = true)
    (B : Nat) (W0 : World) (h : Heap) : GoodCall P 0 B W0 g args h (shR h.n v) (h.add h1) := by
  have hs := fun B W0 => (sound (B := B) (W0 := W0) hmix hM.fn (hM.orac B W0) hev).2
  have hl : h1.l.length = h1.n := by
    unfold madeOnly at hm
    rw [Bool.and_eq_true] at hm
    exact Nat.eq_of_beq_eq_true hm.1
  refine ⟨(hs B W0).1, fun φ W args' s gl hr free => ?_⟩
  refine ((hs W.heap.size W).2 (fun _ => none) W args' (Sim.nothing W 0) (Glob.none _) (relL_flat hr hargs) (fun _ _ _ => rfl)).mono ?_
  rintro e W' ⟨φ1, v', rfl, hv', s', x'⟩
  have hdom : ∀ c l, φ1 c = some l → c < h1.n ∧ W.heap.size ≤ l.b := by
    intro c l hc
    refine ⟨(x'.dom c l rfl hc).2, ?_⟩
    rcases x'.img c l rfl hc with g | ⟨c0, l0, o0, k1, _⟩
    · exact g
    · cases k1
  let ψ : Emb := fun c => if c < h.n then φ c else if c < h.n + h1.n then φ1 (c - h.n) else φ c
  have hψ1 : ∀ c l, φ1 c = some l → ψ (h.n + c) = some l := by
    intro c l hc
    have := (hdom c l hc).1
    simp only [ψ]
    rw [if_neg (by omega), if_pos (by omega), show h.n + c - h.n = c from by omega]; exact hc
  have hψ0 : ∀ c l, φ c = some l → ψ c = some l := by
    intro c l hc
    simp only [ψ]
    by_cases h0 : c < h.n
    · rw [if_pos h0]; exact hc
    · rw [if_neg h0]
      by_cases h2 : c < h.n + h1.n
      · have := free c (by omega) h2
        rw [hc] at this; cases this
      · rw [if_neg h2]; exact hc
  have hget : ∀ c o, (h.add h1).get? c = some o → (c < h.n ∧ h.get? c = some o) ∨ (h.n ≤ c ∧ c < h.n + h1.n ∧ ∃ o1, h1.get? (c - h.n) = some o1 ∧ o = shO h.n o1) := by
    intro c o ho
    rw [get_add hl] at ho
    split at ho
    · rename_i hc; exact .inl ⟨hc, ho⟩
    · rename_i hc
      rw [Option.map_eq_some_iff] at ho
      obtain ⟨o1, q1, q2⟩ := ho
      have := Heap.get?_lt q1
      exact .inr ⟨by omega, by omega, o1, q1, q2.symm⟩
  have hψlo : ∀ c l, c < h.n → ψ c = some l → φ c = some l := by
    intro c l hc hl'
    simp only [ψ] at hl'
    rwa [if_pos hc] at hl'
  have hψhi : ∀ c l, h.n ≤ c → c < h.n + h1.n → ψ c = some l → φ1 (c - h.n) = some l := by
    intro c l hc hc2 hl'
    simp only [ψ] at hl'
    rwa [if_neg (by omega), if_pos hc2] at hl'
  have hexcl : ∀ o : CObj, (shO h.n o).excl = o.excl := by intro o; cases o <;> rfl
  have sold := s.below' s'.below
  refine ⟨ψ, v', rfl, shR_rel hψ1 hv', ⟨sold.below, sold.inB, ?_, ?_, ?_⟩, ⟨hψ0, ?_, ?_, fun b hb _ => s'.below.block b hb, ?_, ?_, s'.below.size, by simp [Heap.add]⟩⟩
  · intro c l hc
    simp only [ψ] at hc
    split at hc
    · exact sold.lt c l hc
    · split at hc
      · exact s'.lt _ l hc
      · exact sold.lt c l hc
  · intro c l o hc ho
    rcases hget c o ho with ⟨q1, q2⟩ | ⟨q1, q2, o1, q3, rfl⟩
    · exact (sold.obj c l o (hψlo c l q1 hc) q2).keep hψ0 rfl
    · exact shO_rel hψ1 s.inB (madeOnly_ro hm q3) (s'.obj _ l o1 (hψhi c l q1 q2 hc) q3)
  · intro c1 c2 l1 l2 o1 o2 g1 g2 p1 p2 e1 e2 e
    rcases hget c1 o1 p1 with ⟨a1, a2⟩ | ⟨a1, a2, x1, a3, rfl⟩ <;> rcases hget c2 o2 p2 with ⟨b1, b2⟩ | ⟨b1, b2, x2, b3, rfl⟩
    · exact s.inj c1 c2 l1 l2 o1 o2 (hψlo _ _ a1 g1) (hψlo _ _ b1 g2) a2 b2 e1 e2 e
    · have k1 := s.lt _ _ (hψlo _ _ a1 g1)
      have k2 := (hdom _ _ (hψhi _ _ b1 b2 g2)).2
      omega
    · have k1 := s.lt _ _ (hψlo _ _ b1 g2)
      have k2 := (hdom _ _ (hψhi _ _ a1 a2 g1)).2
      omega
    · rw [hexcl] at e1 e2
      have := s'.inj _ _ l1 l2 x1 x2 (hψhi _ _ a1 a2 g1) (hψhi _ _ b1 b2 g2) a3 b3 e1 e2 e
      omega
  · intro c l hn hc
    simp only [ψ] at hc
    split at hc
    · rw [hn] at hc; cases hc
    · split at hc
      · refine ⟨by omega, ?_⟩
        show c < h.n + h1.n
        assumption
      · rw [hn] at hc; cases hc
  · intro c l hn hc
    simp only [ψ] at hc
    split at hc
    · rw [hn] at hc; cases hc
    · split at hc
      · exact .inl (hdom _ _ hc).2
      · rw [hn] at hc; cases hc
  · intro c hc _
    rw [get_add hl, if_pos hc]
  · intro c o' hc ho e
    rw [get_add hl, if_pos hc] at ho
    exact ⟨o', ho, e⟩

end Go.Cm
