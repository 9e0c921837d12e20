/- The canonical machine: a region in any order comes to what it comes to in the order of the text. Conditions: none. -/
import Derived.Test.YtboioafflppnfaaCm14
namespace Go.Cm
open Go.RowKit
set_option linter.unusedVariables false
set_option linter.unusedSimpArgs false

section
variable {P : Program} {G B : Nat} {W0 : World}

/-- a chain, by its places -/
structure Steps' (P : Program) (G B : Nat) (W0 : World) (l : List MO) (trs : List Tr) (fs : Nat → Fr) (hs : Nat → Heap) (vs : Nat → Value) (rn : Nat → Bool) : Prop where
  tr : ∀ i o, l[i]? = some o → trs[i]? = some (Tr.mk (rn i) (fs i) (hs i) (hs (i + 1)) (vs i))
  fr : ∀ i o, l[i]? = some o → fs (i + 1) = (fs i).put o.dst (vs i)
  le : ∀ i o, l[i]? = some o → (hs i).n ≤ (hs (i + 1)).n
  ran : ∀ i o, l[i]? = some o → rn i = true → wantedC (fs i) o.guard = some true ∧ GoodOp P G B W0 o.op (fs i) (hs i) (vs i) (hs (i + 1))
  not : ∀ i o, l[i]? = some o → rn i = false → wantedC (fs i) o.guard = some false ∧ hs (i + 1) = hs i ∧ vs i = undef

theorem chain_fns : ∀ {l : List MO} {f : Fr} {h : Heap} {trs : List Tr} {f' : Fr} {h' : Heap}, Chain P G B W0 l f h trs f' h' →
    ∃ fs hs vs rn, fs 0 = f ∧ hs 0 = h ∧ fs l.length = f' ∧ hs l.length = h' ∧ Steps' P G B W0 l trs fs hs vs rn
  | [], f, h, [], f', h', hc => by
    obtain ⟨rfl, rfl⟩ := hc
    exact ⟨fun _ => f', fun _ => h', fun _ => undef, fun _ => false, rfl, rfl, rfl, rfl, ⟨by simp, by simp, by simp, by simp, by simp⟩⟩
  | [], _, _, _ :: _, _, _, hc => hc.elim
  | _ :: _, _, _, [], _, _, hc => hc.elim
  | o :: r, f, h, t :: trs, f', h', hc => by
    obtain ⟨h1, h2, h3, hle, h4⟩ := hc
    obtain ⟨fs, hs, vs, rn, e1, e2, e3, e4, st⟩ := chain_fns h4
    refine ⟨fun i => match i with | 0 => f | i + 1 => fs i, fun i => match i with | 0 => h | i + 1 => hs i, fun i => match i with | 0 => t.v | i + 1 => vs i, fun i => match i with | 0 => t.ran | i + 1 => rn i, rfl, rfl, e3, e4, ⟨?_, ?_, ?_, ?_, ?_⟩⟩
    · intro i o' ho
      cases i with
      | zero =>
        obtain ⟨tr, tf, th, th', tv⟩ := t
        simp only at h1 h2 e2
        simp only [List.getElem?_cons_zero, h1, h2, e2]
      | succ i => simp only [List.getElem?_cons_succ] at ho ⊢; exact st.tr i o' ho
    · intro i o' ho
      cases i with
      | zero => simp only [List.getElem?_cons_zero, Option.some.injEq] at ho; subst ho; exact e1
      | succ i => simp only [List.getElem?_cons_succ] at ho ⊢; exact st.fr i o' ho
    · intro i o' ho
      cases i with
      | zero => show h.n ≤ (hs 0).n; rw [e2]; exact hle
      | succ i => simp only [List.getElem?_cons_succ] at ho ⊢; exact st.le i o' ho
    · intro i o' ho hr
      cases i with
      | zero =>
        simp only [List.getElem?_cons_zero, Option.some.injEq] at ho; subst ho
        rcases h3 with ⟨g1, g2, g3⟩ | ⟨g1, _⟩
        · refine ⟨g2, ?_⟩
          show GoodOp P G B W0 o.op f h t.v (hs 0)
          rw [e2]; exact g3
        · simp only at hr; rw [g1] at hr; cases hr
      | succ i => simp only [List.getElem?_cons_succ] at ho ⊢; exact st.ran i o' ho hr
    · intro i o' ho hr
      cases i with
      | zero =>
        simp only [List.getElem?_cons_zero, Option.some.injEq] at ho; subst ho
        rcases h3 with ⟨g1, _⟩ | ⟨g1, g2, g3, g4⟩
        · simp only at hr; rw [g1] at hr; cases hr
        · refine ⟨g2, ?_, g4⟩
          show hs 0 = h
          rw [e2]; exact g3
      | succ i => simp only [List.getElem?_cons_succ] at ho ⊢; exact st.not i o' ho hr

/-- the frame of those operations that have been done -/
def frS (f0 : Fr) (dst : Nat → Option Nat) (vs : Nat → Value) (S : Nat → Bool) : Nat → Fr
  | 0 => f0
  | m + 1 => if S m then (frS f0 dst vs S m).put (dst m) (vs m) else frS f0 dst vs S m

theorem get_put {f : Fr} {d : Option Nat} {v : Value} {t : Nat} : (f.put d v).get t = if d = some t then v else f.get t := by
  cases d with
  | none => simp [Fr.put]
  | some s =>
    simp only [Fr.put, Fr.get, Option.some.injEq]
    by_cases h : s = t
    · subst h; simp
    · rw [if_neg (Ne.symm h), if_neg h]

theorem frS_agree {f0 : Fr} {dst : Nat → Option Nat} {vs : Nat → Value} {S S' : Nat → Bool} {t : Nat} : ∀ (m : Nat), (∀ j, j < m → dst j = some t → S j = S' j) → (frS f0 dst vs S m).get t = (frS f0 dst vs S' m).get t
  | 0, _ => rfl
  | m + 1, h => by
    have ih := frS_agree (f0 := f0) (vs := vs) m (fun j hj => h j (by omega))
    simp only [frS]
    by_cases hd : dst m = some t
    · have hS := h m (by omega) hd
      rw [hS]
      split
      · rw [get_put, get_put, if_pos hd, if_pos hd]
      · exact ih
    · split <;> split <;> (try rw [get_put, if_neg hd]) <;> (try rw [get_put, if_neg hd]) <;> exact ih
theorem frS_none {f0 : Fr} {dst : Nat → Option Nat} {vs : Nat → Value} {S : Nat → Bool} {t i : Nat} : ∀ (m : Nat), i ≤ m → (∀ j, i ≤ j → j < m → dst j = some t → S j = false) → (frS f0 dst vs S m).get t = (frS f0 dst vs S i).get t
  | 0, hi, _ => by
    have h0 : i = 0 := by omega
    rw [h0]
  | m + 1, hi, h => by
    by_cases he : i = m + 1
    · subst he; rfl
    · have ih := frS_none (f0 := f0) (vs := vs) (S := S) m (by omega) (fun j h1 h2 => h j h1 (by omega))
      simp only [frS]
      split
      · rename_i hS
        rw [get_put, if_neg (fun hd => by have := h m (by omega) (by omega) hd; rw [this] at hS; cases hS)]
        exact ih
      · exact ih

/-- an object, as it was when it was made -/
def bth (hs : Nat → Heap) : Nat → Nat → Option CObj
  | 0, c => (hs 0).get? c
  | m + 1, c => if c < (hs m).n then bth hs m c else (hs (m + 1)).get? c

theorem bth_at {hs : Nat → Heap} {n : Nat} (hle : ∀ i, i < n → (hs i).n ≤ (hs (i + 1)).n) {i c : Nat} (h1 : (hs i).n ≤ c) (h2 : c < (hs (i + 1)).n) : ∀ (m : Nat), i < m → m ≤ n → bth hs m c = (hs (i + 1)).get? c := by
  intro m
  induction m with
  | zero => intro h; omega
  | succ m ih =>
    intro hi hm
    by_cases he : i = m
    · subst he; simp only [bth]; rw [if_neg (by omega)]
    · simp only [bth]
      have hmono : ∀ d, i + 1 + d ≤ m → (hs (i + 1)).n ≤ (hs (i + 1 + d)).n := by
        intro d
        induction d with
        | zero => intro _; exact Nat.le_refl _
        | succ d ihd => intro hd; exact Nat.le_trans (ihd (by omega)) (hle _ (by omega))
      have := hmono (m - (i + 1)) (by omega)
      rw [show i + 1 + (m - (i + 1)) = m from by omega] at this
      rw [if_pos (by omega)]
      exact ih (by omega) (by omega)

/-- memory, as the model's stands: the effects up to place N done, later blocks as they were made -/
def gf (hs : Nat → Heap) (n N : Nat) : HF := fun c => if c < (hs N).n then (hs N).get? c else bth hs n c

/-- the generic step: an operation that was run over memory Hx -/
theorem step_sim {φ φ' : Emb} {Gm Gm' : HF} {Hx Hx' : Heap} {W W' : World} (s : Sim B W0 φ Gm W) (s' : Sim B W0 φ' Hx'.get? W') (x' : Ext φ φ' Hx Hx' W W') (free : Free φ Hx Hx')
    (h1 : ∀ c l o, φ c = some l → Hx.get? c = some o → Gm c = some o)
    (h2 : ∀ c l o, φ' c = some l → Gm' c = some o → Hx'.get? c = some o ∨ (φ c = some l ∧ Gm c = some o ∧ Hx.get? c = none ∧ Hx'.get? c = none)) :
    Sim B W0 φ' Gm' W' := by
  have keepObj : ∀ c l o, φ c = some l → Gm c = some o → Hx.get? c = none → ObjRel B φ' W' l o := by
    intro c l o g1 g2 g3
    have old := s.obj c l o g1 g2
    have hblk : o.excl = true ∨ l.b < B → W'.heap[l.b]? = W.heap[l.b]? := by
      intro hor
      refine x'.keepW l.b (s.lt c l g1) ?_
      intro c1 l1 o1 k1 k2 k3 e
      have k4 := h1 c1 l1 o1 k1 k2
      rcases hor with he | hB
      · have := s.inj c1 c l1 l o1 o k1 g1 k4 g2 k3 he e
        subst this
        rw [k2] at g3; cases g3
      · have := s.obj c1 l1 o1 k1 k4
        cases o1 with
        | ro _ => cases k3
        | dead => cases k3
        | rw _ => have := this.1; omega
        | loose _ _ => have := this.1; omega
        | map _ _ => have := this.1; omega
    cases o with
    | dead => trivial
    | ro cs => exact old.keep x'.sub (hblk (.inr old.1))
    | rw cs => exact old.keep x'.sub (hblk (.inl rfl))
    | loose e cs => exact old.keep x'.sub (hblk (.inl rfl))
    | map es k => exact old.keep x'.sub (hblk (.inl rfl))
  refine ⟨s'.below, s'.inB, s'.lt, ?_, ?_⟩
  · intro c l o g1 g2
    rcases h2 c l o g1 g2 with g | ⟨g3, g4, g5, _⟩
    · exact s'.obj c l o g1 g
    · exact keepObj c l o g3 g4 g5
  · intro c1 c2 l1 l2 o1 o2 g1 g2 p1 p2 e1 e2 e
    have mixed : ∀ c1 c2 l1 l2 o1 o2, φ' c1 = some l1 → Hx'.get? c1 = some o1 → o1.excl = true → φ c2 = some l2 → Gm c2 = some o2 → o2.excl = true → Hx.get? c2 = none → l1.b ≠ l2.b := by
      intro c1 c2 l1 l2 o1 o2 a1 a2 a3 b1 b2 b3 b4 e
      rcases x'.old free a1 a2 a3 with g | ⟨c0, l0, o0, k1, k2, k3, k4⟩
      · have := s.lt c2 l2 b1; omega
      · have := s.inj c0 c2 l0 l2 o0 o2 k1 b1 (h1 c0 l0 o0 k1 k2) b2 k3 b3 (by omega)
        subst this
        rw [k2] at b4; cases b4
    rcases h2 c1 l1 o1 g1 p1 with q1 | ⟨q1, q2, q3, q4⟩ <;> rcases h2 c2 l2 o2 g2 p2 with r1 | ⟨r1, r2, r3, r4⟩
    · exact s'.inj c1 c2 l1 l2 o1 o2 g1 g2 q1 r1 e1 e2 e
    · exact absurd e (mixed c1 c2 l1 l2 o1 o2 g1 q1 e1 r1 r2 e2 r3)
    · exact absurd e.symm (mixed c2 c1 l2 l1 o2 o1 g2 r1 e2 q1 q2 e1 q3)
    · exact s.inj c1 c2 l1 l2 o1 o2 q1 r1 q2 r2 e1 e2 e


structure DInv (B : Nat) (W0 : World) (G nt n : Nat) (K : Nat → Nat) (dst : Nat → Option Nat) (fs : Nat → Fr) (hs : Nat → Heap) (vs : Nat → Value) (φ0 : Emb) (a0 : Act) (Wz : World)
    (S : Nat → Bool) (N : Nat) (φ : Emb) (a : Act) (W : World) : Prop where
  rel : RelF φ (frS (fs 0) dst vs S n) a.tmps
  size : a.tmps.size = nt
  defers : a.defers = a0.defers
  glob : Glob G φ
  sim : Sim B W0 φ (gf hs n N) W
  sub : Sub φ0 φ
  dom : ∀ c l, φ c = some l → φ0 c = some l ∨ ∃ i, i < n ∧ S i = true ∧ (hs i).n ≤ c ∧ c < (hs (i + 1)).n
  keep : ∀ i, i < n → S i = true → ∀ c, c < (hs i).n → φ c = none → (hs (i + 1)).get? c = (hs i).get? c
  excl : ∀ i, i < n → S i = true → ∀ c o', c < (hs i).n → (hs (i + 1)).get? c = some o' → o'.excl = true → ∃ o, (hs i).get? c = some o ∧ o.excl = true
  keepW : ∀ b, b < Wz.heap.size → (∀ c l o, φ0 c = some l → (hs 0).get? c = some o → o.excl = true → l.b ≠ b) → W.heap[b]? = Wz.heap[b]?
  img : ∀ c l, φ0 c = none → φ c = some l → Wz.heap.size ≤ l.b ∨ ∃ c0 l0 o0, φ0 c0 = some l0 ∧ (hs 0).get? c0 = some o0 ∧ o0.excl = true ∧ l0.b = l.b
  old : ∀ c l o, φ c = some l → gf hs n N c = some o → o.excl = true → Wz.heap.size ≤ l.b ∨ ∃ c0 l0 o0, φ0 c0 = some l0 ∧ (hs 0).get? c0 = some o0 ∧ o0.excl = true ∧ l0.b = l.b
  wsize : Wz.heap.size ≤ W.heap.size
  Nle : N ≤ n
  n1 : ∀ j, j < N → K j = 4 → S j = true
  n2 : N < n → K N = 4 ∧ S N = false

theorem dinv_step {nt n : Nat} {K : Nat → Nat} {dst : Nat → Option Nat} {fs : Nat → Fr} {hs : Nat → Heap} {vs : Nat → Value} {φ0 : Emb} {a0 : Act} {Wz : World}
    {S S' : Nat → Bool} {N N' : Nat} {φ φ' : Emb} {a : Act} {W W' : World} {i : Nat} {Hx Hx' : Heap} {v' : Value} (d : DInv B W0 G nt n K dst fs hs vs φ0 a0 Wz S N φ a W)
    (hi : i < n) (hSi : S i = false) (hS' : ∀ j, S' j = if j = i then true else S j) (hdst : ∀ t, dst i = some t → t < nt)
    (s' : Sim B W0 φ' Hx'.get? W') (x' : Ext φ φ' Hx Hx' W W') (free : Free φ Hx Hx') (hv : RelV φ' (vs i) v')
    (h1 : ∀ c l o, φ c = some l → Hx.get? c = some o → gf hs n N c = some o)
    (h2 : ∀ c l o, φ' c = some l → gf hs n N' c = some o → Hx'.get? c = some o ∨ (φ c = some l ∧ gf hs n N c = some o ∧ Hx.get? c = none ∧ Hx'.get? c = none))
    (hdom : ∀ c, Hx.n ≤ c → c < Hx'.n → (hs i).n ≤ c ∧ c < (hs (i + 1)).n)
    (hkeep : ∀ c, c < (hs i).n → φ' c = none → (hs (i + 1)).get? c = (hs i).get? c)
    (hexcl : ∀ c o', c < (hs i).n → (hs (i + 1)).get? c = some o' → o'.excl = true → ∃ o, (hs i).get? c = some o ∧ o.excl = true)
    (hw : ∀ j t, j < n → j ≠ i → dst j = some t → dst i = some t → S j = decide (j < i))
    (hN : N' ≤ n) (m1 : ∀ j, j < N' → K j = 4 → S' j = true) (m2 : N' < n → K N' = 4 ∧ S' N' = false) :
    DInv B W0 G nt n K dst fs hs vs φ0 a0 Wz S' N' φ' (a.put (dst i) v') W' := by
  have hblocks : ∀ b, b < Wz.heap.size → (∀ c l o, φ0 c = some l → (hs 0).get? c = some o → o.excl = true → l.b ≠ b) → W'.heap[b]? = W.heap[b]? := by
    intro b hb hno
    refine x'.keepW b (Nat.lt_of_lt_of_le hb d.wsize) ?_
    intro c l o g1 g2 g3 e
    rcases d.old c l o g1 (h1 c l o g1 g2) g3 with g | ⟨c0, l0, o0, k1, k2, k3, k4⟩
    · omega
    · exact hno c0 l0 o0 k1 k2 k3 (k4.trans e)
  refine ⟨?_, put_size.trans d.size, put_defers.trans d.defers, d.glob.mono x'.sub, step_sim d.sim s' x' free h1 h2, fun c l h => x'.sub c l (d.sub c l h), ?_, ?_, ?_, ?_, ?_, ?_, Nat.le_trans d.wsize x'.size, hN, m1, m2⟩
  · intro t
    have hput : (a.put (dst i) v').tmps.getD t undef = if dst i = some t then v' else a.tmps.getD t undef := by
      cases hdi : dst i with
      | none => simp [Act.put]
      | some u =>
        have hu := hdst u hdi
        rw [← d.size] at hu
        simp only [Act.put, Option.some.injEq]
        by_cases hut : u = t
        · subst hut; simp [Array.getD_eq_getD_getElem?, hu]
        · rw [if_neg hut]; simp [Array.getD_eq_getD_getElem?, Array.getElem?_setIfInBounds_ne hut]
    rw [hput]
    by_cases hdt : dst i = some t
    · rw [if_pos hdt]
      have : (frS (fs 0) dst vs S' n).get t = vs i := by
        have e1 := frS_none (f0 := fs 0) (dst := dst) (vs := vs) (S := S') (t := t) (i := i + 1) n (by omega) (fun j g1 g2 g3 => by
          rw [hS', if_neg (by omega), hw j t g2 (by omega) g3 hdt]; simp; omega)
        rw [e1]
        simp only [frS]
        rw [if_pos (by rw [hS', if_pos rfl]), get_put, if_pos hdt]
      rw [this]; exact hv
    · rw [if_neg hdt]
      have : (frS (fs 0) dst vs S' n).get t = (frS (fs 0) dst vs S n).get t := frS_agree n (fun j g1 g2 => by
        rw [hS']
        by_cases hj : j = i
        · subst hj; exact absurd g2 hdt
        · rw [if_neg hj])
      rw [this]; exact (d.rel t).mono x'.sub
  · intro c l h
    cases hc : φ c with
    | some l' =>
      have := x'.sub c l' hc
      rw [h] at this; cases this
      rcases d.dom c l hc with g | ⟨j, g1, g2, g3, g4⟩
      · exact .inl g
      · exact .inr ⟨j, g1, by rw [hS']; split <;> first | rfl | exact g2, g3, g4⟩
    | none =>
      obtain ⟨g1, g2⟩ := x'.dom c l hc h
      obtain ⟨g3, g4⟩ := hdom c g1 g2
      exact .inr ⟨i, hi, by rw [hS', if_pos rfl], g3, g4⟩
  · intro j hj hSj c hc hn
    by_cases hji : j = i
    · subst hji; exact hkeep c hc hn
    · rw [hS', if_neg hji] at hSj
      refine d.keep j hj hSj c hc ?_
      cases hcc : φ c with
      | none => rfl
      | some l => rw [x'.sub c l hcc] at hn; cases hn
  · intro j hj hSj c o' hc g e
    by_cases hji : j = i
    · subst hji; exact hexcl c o' hc g e
    · rw [hS', if_neg hji] at hSj
      exact d.excl j hj hSj c o' hc g e
  · intro b hb hno
    rw [hblocks b hb hno, d.keepW b hb hno]
  · intro c l g1 g2
    cases hc : φ c with
    | some l' =>
      have := x'.sub c l' hc
      rw [g2] at this; cases this
      exact d.img c l g1 hc
    | none =>
      rcases x'.img c l hc g2 with g | ⟨c0, l0, o0, k1, k2, k3, k4⟩
      · exact .inl (Nat.le_trans d.wsize g)
      · rw [← k4]
        exact d.old c0 l0 o0 k1 (h1 c0 l0 o0 k1 k2) k3
  · intro c l o g1 g2 g3
    rcases h2 c l o g1 g2 with q | ⟨q1, q2, q3, q4⟩
    · rcases x'.old free g1 q g3 with g | ⟨c0, l0, o0, k1, k2, k3, k4⟩
      · exact .inl (Nat.le_trans d.wsize g)
      · rw [← k4]
        exact d.old c0 l0 o0 k1 (h1 c0 l0 o0 k1 k2) k3
    · exact d.old c l o q1 q2 g3

/-- memory between two effects: made longer, nothing else -/
theorem gf_quiet {hs : Nat → Heap} {n N k : Nat} (hle : ∀ i, i < n → (hs i).n ≤ (hs (i + 1)).n) (hk : N ≤ k) (hkn : k ≤ n)
    (hq : ∀ j, N ≤ j → j < k → ∀ c, c < (hs j).n → (hs (j + 1)).get? c = (hs j).get? c) : ∀ c, c < (hs k).n → gf hs n N c = (hs k).get? c := by
  have hmono : ∀ d, N + d ≤ n → (hs N).n ≤ (hs (N + d)).n := by
    intro d
    induction d with
    | zero => intro _; exact Nat.le_refl _
    | succ d ih => intro h; exact Nat.le_trans (ih (by omega)) (hle _ (by omega))
  have key : ∀ d, N + d ≤ k → ∀ c, c < (hs (N + d)).n → gf hs n N c = (hs (N + d)).get? c := by
    intro d
    induction d with
    | zero =>
      intro _ c hc
      have hc' : c < (hs N).n := hc
      show (if c < (hs N).n then (hs N).get? c else bth hs n c) = _
      rw [if_pos hc']; rfl
    | succ d ih =>
      intro hd c hc
      by_cases hc' : c < (hs (N + d)).n
      · rw [ih (by omega) c hc', ← hq (N + d) (by omega) (by omega) c hc']; rfl
      · have h0 := hmono d (by omega)
        show (if c < (hs N).n then (hs N).get? c else bth hs n c) = _
        rw [if_neg (by omega), bth_at (n := n) hle (i := N + d) (by omega) hc n (by omega) (Nat.le_refl _)]; rfl
  have := key (k - N) (by omega)
  rw [show N + (k - N) = k from by omega] at this
  exact this

theorem gf_same {hs : Nat → Heap} {n N k : Nat} (hle : ∀ i, i < n → (hs i).n ≤ (hs (i + 1)).n) (hk : N ≤ k) (hkn : k ≤ n)
    (hq : ∀ j, N ≤ j → j < k → ∀ c, c < (hs j).n → (hs (j + 1)).get? c = (hs j).get? c) (c : Nat) : gf hs n k c = gf hs n N c := by
  by_cases hc : c < (hs k).n
  · rw [gf_quiet hle hk hkn hq c hc]
    show (if c < (hs k).n then (hs k).get? c else bth hs n c) = _
    rw [if_pos hc]
  · have hm : ∀ d, N + d ≤ n → (hs N).n ≤ (hs (N + d)).n := by
      intro d
      induction d with
      | zero => intro _; exact Nat.le_refl _
      | succ d ih => intro h; exact Nat.le_trans (ih (by omega)) (hle _ (by omega))
    have h1 := hm (k - N) (by omega)
    rw [show N + (k - N) = k from by omega] at h1
    show (if c < (hs k).n then (hs k).get? c else bth hs n c) = (if c < (hs N).n then (hs N).get? c else bth hs n c)
    rw [if_neg hc, if_neg (by omega)]

theorem bth_lt {hs : Nat → Heap} {n : Nat} (hle : ∀ i, i < n → (hs i).n ≤ (hs (i + 1)).n) {c : Nat} {o : CObj} : ∀ (m : Nat), m ≤ n → bth hs m c = some o → c < (hs m).n
  | 0, _, h => Heap.get?_lt h
  | m + 1, hm, h => by
    simp only [bth] at h
    split at h
    · exact Nat.lt_of_lt_of_le (by assumption) (hle m (by omega))
    · exact Heap.get?_lt h

theorem sim_less {B : Nat} {W0 : World} {φ : Emb} {H1 H2 : HF} {W : World} (s : Sim B W0 φ H1 W) (h : ∀ c l o, φ c = some l → H2 c = some o → H1 c = some o) : Sim B W0 φ H2 W :=
  ⟨s.below, s.inB, s.lt, fun c l o g1 g2 => s.obj c l o g1 (h c l o g1 g2), fun c1 c2 l1 l2 o1 o2 g1 g2 p1 p2 => s.inj c1 c2 l1 l2 o1 o2 g1 g2 (h _ _ _ g1 p1) (h _ _ _ g2 p2)⟩

theorem countP_less {p q : Nat → Bool} {i : Nat} (hpq : ∀ j, q j = true → p j = true) (hp : p i = true) (hq : q i = false) : ∀ (l : List Nat), i ∈ l → l.countP q < l.countP p
  | [], h => by cases h
  | x :: l, h => by
    have hle : l.countP q ≤ l.countP p := List.countP_mono_left fun j _ => hpq j
    simp only [List.countP_cons]
    rcases List.mem_cons.1 h with rfl | h
    · rw [hp, hq]; simp; omega
    · have := countP_less hpq hp hq l h
      cases hqx : q x with
      | true => rw [hpq x hqx]; simp; omega
      | false => simp; split <;> omega

theorem first_effect {K : Nat → Nat} {S : Nat → Bool} {n : Nat} : ∀ (d m : Nat), m + d = n → (∀ j, j < m → K j = 4 → S j = true) → ∃ N, m ≤ N ∧ N ≤ n ∧ (∀ j, j < N → K j = 4 → S j = true) ∧ (N < n → K N = 4 ∧ S N = false) ∧ (∀ j, m ≤ j → j < N → K j = 4 → S j = true)
  | 0, m, hm, h => ⟨m, Nat.le_refl _, by omega, h, fun h1 => absurd h1 (by omega), fun j h1 h2 => absurd h1 (by omega)⟩
  | d + 1, m, hm, h => by
    by_cases hk : K m = 4 ∧ S m = false
    · exact ⟨m, Nat.le_refl _, by omega, h, fun _ => hk, fun j h1 h2 => absurd h1 (by omega)⟩
    · have hm' : ∀ j, j < m + 1 → K j = 4 → S j = true := by
        intro j hj hKj
        by_cases hjm : j = m
        · subst hjm
          cases hS : S j with
          | true => rfl
          | false => exact absurd ⟨hKj, hS⟩ hk
        · exact h j (by omega) hKj
      have he : m + 1 + d = n := by omega
      obtain ⟨N, g1, g2, g3, g4, _⟩ := first_effect d (m + 1) he hm'
      exact ⟨N, Nat.le_of_succ_le g1, g2, g3, g4, fun j _ hj hK => g3 j hj hK⟩


theorem crosses_mem {ops : Array Oper} {ms : List MOp} {b : Array Nat} {i j : Nat} (hj : j < ops.size) (hij : i < j) (hb : (b.getD j 0).testBit i = false) :
    (kindOf (ms.getD i .bad) = 2 → kindOf (ms.getD j .bad) = 4 → (i, j) ∈ crossesOf ops ms b) ∧ (kindOf (ms.getD i .bad) = 4 → kindOf (ms.getD j .bad) = 2 → (j, i) ∈ crossesOf ops ms b) := by
  constructor
  · intro h1 h2
    unfold crossesOf
    rw [List.mem_flatMap]
    refine ⟨j, by simpa using hj, ?_⟩
    rw [List.mem_filterMap]
    refine ⟨i, by simpa using hij, ?_⟩
    rw [if_neg (by rw [hb]; simp), if_pos ⟨h1, h2⟩]
  · intro h1 h2
    unfold crossesOf
    rw [List.mem_flatMap]
    refine ⟨j, by simpa using hj, ?_⟩
    rw [List.mem_filterMap]
    refine ⟨i, by simpa using hij, ?_⟩
    rw [if_neg (by rw [hb]; simp), if_neg (by rw [h1]; simp), if_pos ⟨h1, h2⟩]

theorem draw_pairs {ops : Array Oper} {ms : List MOp} {b : Array Nat} (hd : drawOK ops ms b = true) {i j : Nat} (hj : j < ops.size) (hij : i < j) (hb : (b.getD j 0).testBit i = false) :
    freePair ops (kindOf (ms.getD i .bad)) (kindOf (ms.getD j .bad)) (ops.getD i default) (ops.getD j default) = true := by
  unfold drawOK at hd
  rw [List.all_eq_true] at hd
  have h1 := hd j (by simpa using hj)
  rw [List.all_eq_true] at h1
  have h2 := h1 i (by simpa using hij)
  rw [hb] at h2
  simpa using h2

theorem free_spec {ops : Array Oper} {ki kj : Nat} {oi oj : Oper} (h : freePair ops ki kj oi oj = true) : (∀ d, oi.dst = some d → d ∉ looks ops oj ∧ oj.dst ≠ some d) ∧ (∀ d, oj.dst = some d → d ∉ looks ops oi) ∧
    ¬ (ki = 4 ∧ kj = 4) ∧ ¬ (ki = 4 ∧ kj = 3) ∧ ¬ (ki = 3 ∧ kj = 4) := by
  unfold freePair at h
  simp only [Bool.and_eq_true, Bool.not_eq_true', Bool.and_eq_false_iff, beq_eq_false_iff_ne] at h
  obtain ⟨⟨⟨⟨h1, h2⟩, h3⟩, h4⟩, h5⟩ := h
  refine ⟨fun d hd => ?_, fun d hd => ?_, by omega, by omega, by omega⟩
  · rw [hd] at h1; simp at h1; exact ⟨h1.1, h1.2⟩
  · rw [hd] at h2; simpa using h2

theorem looks_operand {ops : Array Oper} {o : Oper} {t : Nat} (h : Operand.tmp t ∈ o.op.operands.toList) : t ∈ looks ops o := by
  unfold looks
  exact List.mem_append_left _ (by unfold tmpsOf; rw [List.mem_filterMap]; exact ⟨_, h, rfl⟩)
theorem looks_guard {ops : Array Oper} {o : Oper} {t : Nat} {want : Bool} (h : resGuard ops o.guard = some (some (t, want))) : t ∈ looks ops o := by
  unfold looks
  refine List.mem_append_right _ ?_
  unfold resGuard at h
  split at h
  · cases h
  · rename_i j w hg
    split at h
    · rename_i u hu
      cases h
      simp only [hg, hu]; simp
    · cases h

/-- a region whose order is drawn -/
theorem draw_ok {nt id : Nat} {ops : Array Oper} {f f' : Fr} {h h' : Heap} {trs : List Tr} {φ0 : Emb} {a0 : Act} {Wz : World} {Q : Exit → Act → World → Prop} (hmix : P.follows .mixedOrders = true)
    (hchain : Chain P G B W0 (ops.toList.map (resMO P G nt ops)) f h trs f' h') (hed : edgesOK ops = true) (hdr : drawOK ops (ops.toList.map (resOp P G ·.op)) (Region.before ops) = true)
    (hcr : ∀ ij ∈ crossesOf ops (ops.toList.map (resOp P G ·.op)) (Region.before ops), CrossOK (ops.toList.map (resMO P G nt ops)) trs ij) (st : St B W0 G nt φ0 f h a0 Wz) (free : Free φ0 h h')
    (hq : ∀ φ' a' W', St B W0 G nt φ' f' h' a' W' → Ext φ0 φ' h h' Wz W' → a'.defers = a0.defers → Q .normal a' W') : (Code.region id ops true).wp P Q a0 Wz := by
  obtain ⟨fs, hs, vs, rn, e1, e2, e3, e4, sp⟩ := chain_fns hchain
  subst e1 e2 e3 e4
  have hlen : (ops.toList.map (resMO P G nt ops)).length = ops.size := by simp
  rw [hlen] at free hq
  -- the operations
  have hl : ∀ i (hi : i < ops.size), (ops.toList.map (resMO P G nt ops))[i]? = some (resMO P G nt ops ops[i]) := fun i hi => by simp [hi]
  have hle : ∀ i, i < ops.size → (hs i).n ≤ (hs (i + 1)).n := fun i hi => sp.le i _ (hl i hi)
  have hmono : ∀ i j, i ≤ j → j ≤ ops.size → (hs i).n ≤ (hs j).n := by
    intro i j hij hj
    induction j with
    | zero => obtain rfl : i = 0 := by omega
              exact Nat.le_refl _
    | succ j ih =>
      by_cases he : i = j + 1
      · subst he; exact Nat.le_refl _
      · exact Nat.le_trans (ih (by omega) (by omega)) (hle j (by omega))
  have hinv : ∀ i (hi : i < ops.size), ∃ g, resGuard ops ops[i].guard = some g ∧ (∀ t, ops[i].dst = some t → t < nt) ∧ resMO P G nt ops ops[i] = ⟨ops[i].dst, resOp P G ops[i].op, g⟩ := by
    intro i hi
    refine resMO_inv ?_
    cases hr : rn i with
    | true => left; exact (sp.ran i _ (hl i hi) hr).2.1
    | false => right; intro e; have := (sp.not i _ (hl i hi) hr).1; rw [e] at this; simp [wantedC] at this
  -- kinds
  let K : Nat → Nat := fun i => kindOf ((ops.toList.map (resOp P G ·.op)).getD i .bad)
  let dst : Nat → Option Nat := fun i => (ops.getD i default).dst
  have hK : ∀ i (hi : i < ops.size), K i = kindOf (resOp P G ops[i].op) := fun i hi => by simp [K, hi]
  have hD : ∀ i (hi : i < ops.size), dst i = ops[i].dst := fun i hi => by simp [dst, hi]
  have hfs : ∀ i, i ≤ ops.size → fs i = frS (fs 0) dst vs (fun _ => true) i := by
    intro i
    induction i with
    | zero => intro _; rfl
    | succ i ih =>
      intro hi
      obtain ⟨g, _, _, hmo⟩ := hinv i (by omega)
      have := sp.fr i _ (hl i (by omega))
      rw [hmo] at this
      simp only [frS, if_true]
      rw [← ih (by omega), this, hD i (by omega)]
  -- a non-effect that ran: memory is made longer at most
  have hcop : ∀ i (hi : i < ops.size), rn i = true → K i ≠ 4 → cop (fs i).ev (hs i) (resOp P G ops[i].op) = some (vs i, hs (i + 1)) := by
    intro i hi hr hk
    obtain ⟨g, _, _, hmo⟩ := hinv i hi
    have := (sp.ran i _ (hl i hi) hr).2
    rw [hmo] at this
    refine this.2.1 ?_
    cases hc : isCall (resOp P G ops[i].op) with
    | false => rfl
    | true =>
      exfalso
      apply hk
      rw [hK i hi]
      generalize resOp P G ops[i].op = o at hc ⊢
      cases o <;> simp [isCall] at hc <;> rfl
  have hgrow : ∀ i (hi : i < ops.size), (K i ≠ 4 ∨ rn i = false) → hs (i + 1) = hs i ∨ (rn i = true ∧ K i = 1 ∧ ∃ ob, hs (i + 1) = (hs i).push ob ∧ ob.excl = true) := by
    intro i hi hor
    cases hr : rn i with
    | false => exact .inl (sp.not i _ (hl i hi) hr).2.1
    | true =>
      have hk : K i ≠ 4 := by rcases hor with g | g; exact g; rw [hr] at g; cases g
      have hc := hcop i hi hr hk
      have hk' := hK i hi
      have hlt : kindOf (resOp P G ops[i].op) = 0 ∨ kindOf (resOp P G ops[i].op) = 1 ∨ kindOf (resOp P G ops[i].op) = 2 ∨ kindOf (resOp P G ops[i].op) = 3 := by
        have : kindOf (resOp P G ops[i].op) ≤ 4 := by generalize resOp P G ops[i].op = o; cases o <;> simp [kindOf]
        omega
      rcases hlt with h0 | h1 | h2 | h3
      · exact .inl (kind0 h0 hc).1
      · obtain ⟨ob, q1, q2, _⟩ := kind1 h1 hc; exact .inr ⟨rfl, by omega, ob, q1, q2⟩
      · exact .inl (kind2 h2 hc).1
      · exact .inl (kind3 h3 hc)
  have hquiet : ∀ i (hi : i < ops.size), (K i ≠ 4 ∨ rn i = false) → ∀ c, c < (hs i).n → (hs (i + 1)).get? c = (hs i).get? c := by
    intro i hi hor c hc
    rcases hgrow i hi hor with g | ⟨_, _, ob, g, _⟩
    · rw [g]
    · rw [g, Heap.get?_push_old hc]
  have hpair : ∀ i j (hi : i < ops.size) (hj : j < ops.size), i < j → ((Region.before ops).getD j 0).testBit i = false →
      (∀ d, ops[i].dst = some d → d ∉ looks ops ops[j] ∧ ops[j].dst ≠ some d) ∧ (∀ d, ops[j].dst = some d → d ∉ looks ops ops[i]) ∧ ¬ (K i = 4 ∧ K j = 4) ∧ ¬ (K i = 4 ∧ K j = 3) ∧ ¬ (K i = 3 ∧ K j = 4) := by
    intro i j hi hj hij hb
    have := free_spec (draw_pairs hdr hj hij hb)
    rw [show ops.getD i default = ops[i] from by simp [hi], show ops.getD j default = ops[j] from by simp [hj]] at this
    exact this
  have hnone : ∀ m c, Heap.get? ⟨m, []⟩ c = none := by
    intro m c; unfold Heap.get?; split <;> simp
  have hrel : ∀ i (hi : i < ops.size), rn i = true → (ops.toList.map (resMO P G nt ops))[i]? = some ⟨ops[i].dst, resOp P G ops[i].op, (resMO P G nt ops ops[i]).guard⟩ := by
    intro i hi _
    obtain ⟨g, _, _, hmo⟩ := hinv i hi
    rw [hl i hi, hmo]
  -- a step
  have hstep : ∀ (S : Nat → Bool) (N : Nat) (φ : Emb) (a : Act) (W : World) (i : Nat) (hi : i < ops.size), DInv B W0 G nt ops.size K dst fs hs vs φ0 a0 Wz S N φ a W →
      (∀ j o, ops[j]? = some o → S j = true → ∀ e ∈ o.after.toList, Region.binds .any e = true → S e.on = true) → S i = false → (∀ e ∈ ops[i].after.toList, Region.binds .any e = true → S e.on = true) →
      ∀ (K' : Act → World → Prop), (∀ N' φ' a' W', DInv B W0 G nt ops.size K dst fs hs vs φ0 a0 Wz (fun j => if j = i then true else S j) N' φ' a' W' → K' a' W') → wpOp P ops Q i K' a W := by
    intro S N φ a W i hi d hclo hSi hrdy K' hK'
    have later : ∀ j, i < j → j < ops.size → S j = true → ((Region.before ops).getD j 0).testBit i = false := by
      intro j _ hj hSj
      cases hb : ((Region.before ops).getD j 0).testBit i with
      | false => rfl
      | true => have := closed_before hed hclo j i hSj hb; rw [hSi] at this; cases this
    have earlier : ∀ j, j < i → S j = false → ((Region.before ops).getD i 0).testBit j = false := by
      intro j _ hSj
      cases hb : ((Region.before ops).getD i 0).testBit j with
      | false => rfl
      | true => have := ready_before hed hclo (Array.getElem?_eq_getElem hi) hrdy hb; rw [hSj] at this; cases this
    have hlook : ∀ t, t ∈ looks ops ops[i] → (frS (fs 0) dst vs S ops.size).get t = (fs i).get t := by
      intro t ht
      rw [hfs i (by omega), frS_none (i := i) ops.size (by omega) (fun j g1 g2 g3 => ?_)]
      · refine frS_agree i fun j g1 g2 => ?_
        cases hSj : S j with
        | true => rfl
        | false => exact absurd ht ((hpair j i (by omega) hi g1 (earlier j g1 hSj)).1 t (by rw [← hD j (by omega)]; exact g2)).1
      · by_cases hji : j = i
        · subst hji; exact hSi
        · cases hSj : S j with
          | false => rfl
          | true => exact absurd ht ((hpair i j hi g2 (by omega) (later j (by omega) g2 hSj)).2.1 t (by rw [← hD j g2]; exact g3))
    have hevx : ∀ x ∈ ops[i].op.operands.toList, okX G x = true → RelV φ ((fs i).ev x) (a.eval x) := by
      intro x hx hok
      have h1 := d.rel.ev d.glob hok
      have h2 : (frS (fs 0) dst vs S ops.size).ev x = (fs i).ev x := by
        cases x with
        | tmp t => exact hlook t (looks_operand hx)
        | _ => rfl
      rwa [h2] at h1
    have hwr : ∀ j t, j < ops.size → j ≠ i → dst j = some t → dst i = some t → S j = decide (j < i) := by
      intro j t hj hne h1 h2
      rw [hD j hj] at h1; rw [hD i hi] at h2
      rcases Nat.lt_or_ge j i with hji | hji
      · rw [decide_eq_true hji]
        cases hSj : S j with
        | true => rfl
        | false => exact absurd h2 ((hpair j i hj hi hji (earlier j hji hSj)).1 t h1).2
      · rw [decide_eq_false (by omega)]
        cases hSj : S j with
        | false => rfl
        | true => exact absurd h1 ((hpair i j hi hj (by omega) (later j (by omega) hj hSj)).1 t h2).2
    have hafter : ∀ j, N < j → j < ops.size → K j = 4 → S j = false := by
      intro j h1 h2 h3
      cases hSj : S j with
      | false => rfl
      | true =>
        obtain ⟨k1, k2⟩ := d.n2 (by omega)
        exfalso
        cases hb : ((Region.before ops).getD j 0).testBit N with
        | true => have := closed_before hed hclo j N hSj hb; rw [k2] at this; cases this
        | false => exact (hpair N j (by omega) h2 h1 hb).2.2.1 ⟨k1, h3⟩
    have hiN : K i = 4 → i = N := by
      intro h4
      rcases Nat.lt_trichotomy i N with h | h | h
      · have := d.n1 i h h4; rw [hSi] at this; cases this
      · exact h
      · obtain ⟨k1, k2⟩ := d.n2 (by omega)
        exact absurd ⟨k1, h4⟩ (hpair N i (by omega) hi h (earlier N h k2)).2.2.1
    obtain ⟨g, hg1, hg2, hmo⟩ := hinv i hi
    have hfree : ∀ c, (hs i).n ≤ c → c < (hs (i + 1)).n → φ c = none := by
      intro c h1 h2
      cases hc : φ c with
      | none => rfl
      | some l =>
        exfalso
        rcases d.dom c l hc with h | ⟨j, k1, k2, k3, k4⟩
        · have := free c (Nat.le_trans (hmono 0 i (by omega) (by omega)) h1) (Nat.lt_of_lt_of_le h2 (hmono (i + 1) _ (by omega) (by omega)))
          rw [h] at this; cases this
        · rcases Nat.lt_trichotomy j i with q | q | q
          · have := hmono (j + 1) i (by omega) (by omega); omega
          · subst q; rw [hSi] at k2; cases k2
          · have := hmono (i + 1) j (by omega) (by omega); omega
    -- the next effect
    have hnext : ∃ N', N ≤ N' ∧ N' ≤ ops.size ∧ (∀ j, j < N' → K j = 4 → (if j = i then true else S j) = true) ∧ (N' < ops.size → K N' = 4 ∧ (if N' = i then true else S N') = false) ∧
        (K i ≠ 4 → N' = N) ∧ (K i = 4 → N + 1 ≤ N' ∧ ∀ j, N + 1 ≤ j → j < N' → K j ≠ 4) := by
      by_cases h4 : K i = 4
      · have hi' := hiN h4
        obtain ⟨N', p1, p2, p3, p4, p5⟩ := first_effect (K := K) (S := fun j => if j = i then true else S j) (n := ops.size) (ops.size - (N + 1)) (N + 1) (by omega) (by
          intro j hj hKj
          by_cases hji : j = i
          · simp [hji]
          · simp only [hji, if_false]; exact d.n1 j (by omega) hKj)
        refine ⟨N', by omega, p2, p3, p4, fun h => absurd h4 h, fun _ => ⟨p1, fun j q1 q2 q3 => ?_⟩⟩
        have := p5 j q1 q2 q3
        simp only [show j ≠ i from by omega, if_false] at this
        rw [hafter j (by omega) (by omega) q3] at this; cases this
      · refine ⟨N, Nat.le_refl _, d.Nle, fun j hj hKj => ?_, fun hN => ?_, fun _ => rfl, fun h => absurd h h4⟩
        · split
          · rfl
          · exact d.n1 j hj hKj
        · obtain ⟨k1, k2⟩ := d.n2 hN
          refine ⟨k1, ?_⟩
          rw [if_neg (fun e => by rw [e] at k1; exact h4 k1)]; exact k2
    obtain ⟨N', p1, p2, p3, p4, p5, p6⟩ := hnext
    have hwant : ∀ b, wantedC (fs i) g = some b → Region.wanted ops[i] (yielded ops a.tmps) = b := fun b hb =>
      wanted_ok (nt := nt) hg1 (fun t want e => by rw [← hlook t (looks_guard (by rw [hg1, e]))]; exact d.rel t) hb
    unfold wpOp
    rw [Array.getElem?_eq_getElem hi]
    simp only
    cases hr : rn i with
    | false =>
      obtain ⟨w1, w2, w3⟩ := sp.not i _ (hl i hi) hr
      rw [hmo] at w1
      rw [if_neg (by rw [hwant _ w1]; simp)]
      have hgf : ∀ c, gf hs ops.size N' c = gf hs ops.size N c := by
        refine gf_same hle p1 p2 fun j q1 q2 c hc => ?_
        by_cases h4 : K i = 4
        · by_cases hji : j = N
          · subst hji; rw [← hiN h4]; rw [w2]
          · exact hquiet j (by omega) (.inl ((p6 h4).2 j (by omega) q2)) c hc
        · rw [p5 h4] at q2; omega
      have key := dinv_step (S' := fun j => if j = i then true else S j) (N' := N') (φ' := φ) (W' := W) (Hx := ⟨(hs i).n, []⟩) (Hx' := ⟨(hs i).n, []⟩) (v' := undef) d hi hSi (fun _ => rfl)
        (by rw [hD i hi]; exact hg2) (sim_less d.sim (fun c l o _ h => by rw [hnone] at h; cases h)) Ext.refl (fun c h1 h2 => absurd h1 (by simp only; omega)) (by rw [w3]; exact relV_undef)
        (fun c l o _ h => by rw [hnone] at h; cases h) (fun c l o h1 h2 => .inr ⟨h1, by rw [← hgf]; exact h2, hnone _ _, hnone _ _⟩) (fun c h1 h2 => absurd h1 (by simp only at h2; simp only; omega))
        (fun c _ _ => by rw [w2]) (fun c o' _ h e => ⟨o', by rw [← w2]; exact h, e⟩) hwr p2 p3 p4
      rw [hD i hi] at key
      exact hK' _ _ _ _ key
    | true =>
      obtain ⟨w1, w2⟩ := sp.ran i _ (hl i hi) hr
      rw [hmo] at w1 w2
      simp only at w1 w2
      rw [if_pos (hwant _ w1)]
      left
      -- the memory that it is run over
      have hmem : ∃ Hx Hx', GoodOp P G B W0 (resOp P G ops[i].op) (fs i) Hx (vs i) Hx' ∧ Free φ Hx Hx' ∧ (∀ c l o, φ c = some l → Hx.get? c = some o → gf hs ops.size N c = some o) ∧
          (∀ φ', (∀ c l, φ c = none → φ' c = some l → Hx.n ≤ c ∧ c < Hx'.n) → Sub φ φ' → ∀ c l o, φ' c = some l → gf hs ops.size N' c = some o → Hx'.get? c = some o ∨ (φ c = some l ∧ gf hs ops.size N c = some o ∧ Hx.get? c = none ∧ Hx'.get? c = none)) ∧
          (∀ c, Hx.n ≤ c → c < Hx'.n → (hs i).n ≤ c ∧ c < (hs (i + 1)).n) ∧ (K i = 4 → Hx = hs i ∧ Hx' = hs (i + 1)) := by
        have same : ∀ Hx, K i ≠ 4 → cop (fs i).ev Hx (resOp P G ops[i].op) = some (vs i, Hx) → (∀ c l o, φ c = some l → Hx.get? c = some o → gf hs ops.size N c = some o) →
            ∃ Hx Hx', GoodOp P G B W0 (resOp P G ops[i].op) (fs i) Hx (vs i) Hx' ∧ Free φ Hx Hx' ∧ (∀ c l o, φ c = some l → Hx.get? c = some o → gf hs ops.size N c = some o) ∧
            (∀ φ', (∀ c l, φ c = none → φ' c = some l → Hx.n ≤ c ∧ c < Hx'.n) → Sub φ φ' → ∀ c l o, φ' c = some l → gf hs ops.size N' c = some o → Hx'.get? c = some o ∨ (φ c = some l ∧ gf hs ops.size N c = some o ∧ Hx.get? c = none ∧ Hx'.get? c = none)) ∧
            (∀ c, Hx.n ≤ c → c < Hx'.n → (hs i).n ≤ c ∧ c < (hs (i + 1)).n) ∧ (K i = 4 → Hx = hs i ∧ Hx' = hs (i + 1)) := by
          intro Hx h4 hc h3
          refine ⟨Hx, Hx, goodOp_prim hc, fun c q1 q2 => by omega, h3, ?_, fun c q1 q2 => by omega, fun h => absurd h h4⟩
          intro φ' hdom hsub c l o q1 q2
          rw [p5 h4] at q2
          have hc : φ c = some l := by
            cases hcc : φ c with
            | none => have := hdom c l hcc q1; omega
            | some l' => have := hsub c l' hcc; rw [q1] at this; cases this; rfl
          cases hx : Hx.get? c with
          | none => exact .inr ⟨hc, q2, rfl, rfl⟩
          | some o' => have := h3 c l o' hc hx; rw [q2] at this; cases this; exact .inl rfl
        have atk : ∀ k, k ≤ ops.size → K i ≠ 4 → cop (fs i).ev (hs k) (resOp P G ops[i].op) = some (vs i, hs k) → N ≤ k → (∀ j, N ≤ j → j < k → K j ≠ 4 ∨ rn j = false) → _ := fun k hk h4 hc hNk hq =>
          same (hs k) h4 hc fun c l o _ h => by
            rw [gf_quiet hle hNk hk (fun j q1 q2 c hc => hquiet j (by omega) (hq j q1 q2) c hc) c (Heap.get?_lt h)]; exact h
        have hkk := hK i hi
        have hlt : K i = 0 ∨ K i = 1 ∨ K i = 2 ∨ K i = 3 ∨ K i = 4 := by
          have : kindOf (resOp P G ops[i].op) ≤ 4 := by generalize resOp P G ops[i].op = o; cases o <;> simp [kindOf]
          omega
        rcases hlt with h0 | h1 | h2 | h3 | h4
        · exact same ⟨0, []⟩ (by omega) ((kind0 (by omega) (hcop i hi hr (by omega))).2 _) (fun c l o _ h => by rw [hnone] at h; cases h)
        · obtain ⟨ob, q1, q2, q3⟩ := kind1 (by omega) (hcop i hi hr (by omega))
          have hpn : (hs (i + 1)).n = (hs i).n + 1 := by rw [q1]; rfl
          have hpg : (hs (i + 1)).get? (hs i).n = some ob := by rw [q1]; exact Heap.get?_push_new
          have hgfN : φ (hs i).n = none → gf hs ops.size N (hs i).n = some ob := by
            intro hnn
            by_cases hc : (hs i).n < (hs N).n
            · have hiN' : i < N := by
                rcases Nat.lt_or_ge i N with q | q
                · exact q
                · have := hmono N i q (by omega); omega
              have walk : ∀ e, i + 1 + e ≤ N → (hs (i + 1 + e)).get? (hs i).n = some ob := by
                intro e
                induction e with
                | zero => intro _; exact hpg
                | succ e ih =>
                  intro he
                  have := ih (by omega)
                  have hltc : (hs i).n < (hs (i + 1 + e)).n := Heap.get?_lt this
                  have hNle := d.Nle
                  show (hs (i + 1 + e + 1)).get? _ = _
                  by_cases h4 : K (i + 1 + e) = 4
                  · rw [d.keep _ (by omega) (d.n1 _ (by omega) h4) _ hltc hnn]; exact this
                  · rw [hquiet _ (by omega) (.inl h4) _ hltc]; exact this
              have := walk (N - (i + 1)) (by omega)
              rw [show i + 1 + (N - (i + 1)) = N from by omega] at this
              show (if (hs i).n < (hs N).n then (hs N).get? (hs i).n else bth hs ops.size (hs i).n) = _
              rw [if_pos hc]; exact this
            · show (if (hs i).n < (hs N).n then (hs N).get? (hs i).n else bth hs ops.size (hs i).n) = _
              rw [if_neg hc, bth_at hle (i := i) (Nat.le_refl _) (by omega) ops.size (by omega) (Nat.le_refl _)]; exact hpg
          refine ⟨⟨(hs i).n, []⟩, Heap.push ⟨(hs i).n, []⟩ ob, goodOp_prim (q3 _ rfl), fun c k1 k2 => hfree c k1 (by rw [hpn]; exact k2), fun c l o _ h => (by rw [hnone] at h; cases h), ?_, fun c k1 k2 => ⟨k1, by rw [hpn]; exact k2⟩, fun h => by omega⟩
          intro φ' hdom hsub c l o k1 k2
          rw [p5 (by omega)] at k2
          cases hcc : φ c with
          | none =>
            have := hdom c l hcc k1
            have hce : c = (hs i).n := by have h1 := this.1; have h2 := this.2; simp only [Heap.push] at h1 h2; omega
            subst hce
            left
            rw [hgfN hcc] at k2
            rw [← k2]; exact Heap.get?_push_new
          | some l' =>
            have := hsub c l' hcc
            rw [k1] at this; cases this
            right
            refine ⟨rfl, k2, hnone _ _, ?_⟩
            by_cases hce : c < (hs i).n
            · rw [Heap.get?_push_old (H := ⟨(hs i).n, []⟩) hce]; exact hnone _ _
            · by_cases hce2 : c = (hs i).n
              · subst hce2; rw [hfree _ (Nat.le_refl _) (by omega)] at hcc; cases hcc
              · cases hg : (Heap.push ⟨(hs i).n, []⟩ ob).get? c with
                | none => rfl
                | some o' => have h9 := Heap.get?_lt hg; simp only [Heap.push] at h9; omega
        · have hci := hcop i hi hr (by omega)
          obtain ⟨hsame, hre⟩ := kind2 (by omega) hci
          rw [hsame] at hci
          have hNle := d.Nle
          rcases Nat.lt_or_ge i N with hlo | hge
          · -- forward, over the effects that have been done
            have walk : ∀ e, i + 1 + e ≤ N → cop (fs i).ev (hs (i + 1 + e)) (resOp P G ops[i].op) = some (vs i, hs (i + 1 + e)) := by
              intro e
              induction e with
              | zero => intro _; show cop (fs i).ev (hs (i + 1)) _ = some (vs i, hs (i + 1)); rw [hsame]; exact hci
              | succ e ih =>
                intro he
                have ih := ih (by omega)
                show cop (fs i).ev (hs (i + 1 + e + 1)) _ = some (vs i, hs (i + 1 + e + 1))
                by_cases hor : K (i + 1 + e) ≠ 4 ∨ rn (i + 1 + e) = false
                · exact read_ext (by omega) (hquiet _ (by omega) hor) ih
                · have hj4 : K (i + 1 + e) = 4 := by
                    by_cases q : K (i + 1 + e) = 4
                    · exact q
                    · exact absurd (.inl q) hor
                  have hjr : rn (i + 1 + e) = true := by
                    cases q : rn (i + 1 + e) with
                    | true => rfl
                    | false => exact absurd (.inr q) hor
                  have hje : i + 1 + e < ops.size := by omega
                  have hSj := d.n1 (i + 1 + e) (by omega) hj4
                  have hmem := (crosses_mem (ms := ops.toList.map (resOp P G ·.op)) (i := i) (j := i + 1 + e) hje (by omega) (later (i + 1 + e) (by omega) hje hSj)).1 h2 hj4
                  have hx := hcr _ hmem _ _ _ (hrel i hi hr) (sp.tr i _ (hl i hi)) (sp.tr (i + 1 + e) _ (hl (i + 1 + e) hje)) hr hjr
                  simp only at hx
                  rw [if_pos (by omega)] at hx
                  exact reread_cop (by omega) hx
            have hw := walk (N - (i + 1)) (by omega)
            rw [show i + 1 + (N - (i + 1)) = N from by omega] at hw
            exact atk N d.Nle (by omega) hw (Nat.le_refl _) (fun j q1 q2 => by omega)
          · by_cases hex : ∃ j, N ≤ j ∧ j < i ∧ K j = 4 ∧ rn j = true
            · -- back, over an effect that has not been done
              have hfirst : ∃ j, (N ≤ j ∧ j < i ∧ K j = 4 ∧ rn j = true) ∧ ∀ k, N ≤ k → k < j → K k ≠ 4 ∨ rn k = false := by
                obtain ⟨j, hj⟩ := hex
                induction j using Nat.strongRecOn with
                | _ j ih =>
                  by_cases hk : ∃ k, N ≤ k ∧ k < j ∧ K k = 4 ∧ rn k = true
                  · obtain ⟨k, k1, k2, k3, k4⟩ := hk
                    exact ih k k2 ⟨k1, by omega, k3, k4⟩
                  · refine ⟨j, hj, fun k k1 k2 => ?_⟩
                    by_cases q : K k = 4
                    · cases q2 : rn k with
                      | false => exact .inr rfl
                      | true => exact absurd ⟨k, k1, k2, q, q2⟩ hk
                    · exact .inl q
              obtain ⟨j, ⟨j1, j2, j3, j4⟩, j5⟩ := hfirst
              have hSj : S j = false := by
                by_cases hjN : j = N
                · rw [hjN]; exact (d.n2 (by omega)).2
                · exact hafter j (by omega) (by omega) j3
              have hmem := (crosses_mem (ms := ops.toList.map (resOp P G ·.op)) hi j2 (earlier j j2 hSj)).2 j3 h2
              have hx := hcr _ hmem _ _ _ (hrel i hi hr) (sp.tr i _ (hl i hi)) (sp.tr j _ (hl j (by omega))) hr j4
              simp only at hx
              rw [if_neg (by omega)] at hx
              exact atk j (by omega) (by omega) (reread_cop (by omega) hx) j1 j5
            · refine atk i (by omega) (by omega) hci hge fun j q1 q2 => ?_
              by_cases q : K j = 4
              · cases q3 : rn j with
                | false => exact .inr rfl
                | true => exact absurd ⟨j, q1, q2, q, q3⟩ hex
              · exact .inl q
        · have hci := hcop i hi hr (by omega)
          have hsame := kind3 (by omega) hci
          rw [hsame] at hci
          have hNle := d.Nle
          have hlo : i < N := by
            rcases Nat.lt_or_ge i N with q | q
            · exact q
            · obtain ⟨k1, k2⟩ := d.n2 (by omega)
              by_cases hiN' : i = N
              · rw [hiN'] at h3; omega
              · exact absurd ⟨k1, h3⟩ (hpair N i (by omega) hi (by omega) (earlier N (by omega) k2)).2.2.2.1
          refine same (hs i) (by omega) hci fun c l o _ h => ?_
          have hnoeff : ∀ j, i ≤ j → j < N → K j ≠ 4 := by
            intro j q1 q2 q3
            by_cases hji : j = i
            · subst hji; omega
            · exact (hpair i j hi (by omega) (by omega) (later j (by omega) (by omega) (d.n1 j q2 q3))).2.2.2.2 ⟨h3, q3⟩
          have hgs := gf_same hle (Nat.le_of_lt hlo) hNle (fun j q1 q2 c hc => hquiet j (by omega) (.inl (hnoeff j q1 q2)) c hc) c
          rw [hgs]
          show (if c < (hs i).n then (hs i).get? c else bth hs ops.size c) = _
          rw [if_pos (Heap.get?_lt h)]; exact h
        · have hiN' := hiN h4
          have hNle := d.Nle
          refine ⟨hs i, hs (i + 1), w2, hfree, fun c l o _ h => ?_, ?_, fun c q1 q2 => ⟨q1, q2⟩, fun _ => ⟨rfl, rfl⟩⟩
          · show (if c < (hs N).n then (hs N).get? c else bth hs ops.size c) = _
            rw [← hiN', if_pos (Heap.get?_lt h)]; exact h
          · intro φ' hdom hsub c l o q1 q2
            have hgs := gf_same hle (p6 h4).1 p2 (fun j k1 k2 c hc => hquiet j (by omega) (.inl ((p6 h4).2 j k1 k2)) c hc) c
            rw [hgs, ← hiN'] at q2
            have q2' : (if c < (hs (i + 1)).n then (hs (i + 1)).get? c else bth hs ops.size c) = some o := q2
            by_cases hc : c < (hs (i + 1)).n
            · rw [if_pos hc] at q2'; exact .inl q2'
            · rw [if_neg hc] at q2'
              have hle' := hle i hi
              have hcc : φ c = some l := by
                cases hcc : φ c with
                | none => have := hdom c l hcc q1; omega
                | some l' => have := hsub c l' hcc; rw [q1] at this; cases this; rfl
              refine .inr ⟨hcc, ?_, ?_, ?_⟩
              · show (if c < (hs N).n then (hs N).get? c else bth hs ops.size c) = _
                rw [← hiN', if_neg (by omega)]; exact q2'
              · cases hg : (hs i).get? c with
                | none => rfl
                | some o' => have := Heap.get?_lt hg; omega
              · cases hg : (hs (i + 1)).get? c with
                | none => rfl
                | some o' => have := Heap.get?_lt hg; omega
      obtain ⟨Hx, Hx', m1, m2, m3, m4, m5, m6⟩ := hmem
      refine m1.2.2 ops[i] rfl φ W a ?_ d.glob (fun x hx => hevx x hx (resOp_ok w2.1 x hx)) m2 _ Q ?_
      · exact sim_less d.sim m3
      intro φ' v' W' hv s' x'
      have key := dinv_step (S' := fun j => if j = i then true else S j) (N' := N') (φ' := φ') (W' := W') (Hx := Hx) (Hx' := Hx') (v' := v') d hi hSi (fun _ => rfl)
        (by rw [hD i hi]; exact hg2) s' x' m2 hv m3 (m4 φ' x'.dom x'.sub) m5
        (fun c hc hn => by
          by_cases h4 : K i = 4
          · obtain ⟨q1, q2⟩ := m6 h4
            rw [q1, q2] at x'
            refine x'.keepH c hc ?_
            cases hcc : φ c with
            | none => rfl
            | some l => rw [x'.sub c l hcc] at hn; cases hn
          · exact hquiet i hi (.inl h4) c hc)
        (fun c o' hc h e => by
          by_cases h4 : K i = 4
          · obtain ⟨q1, q2⟩ := m6 h4
            rw [q1, q2] at x'
            exact x'.excl c o' hc h e
          · rw [hquiet i hi (.inl h4) c hc] at h; exact ⟨o', h, e⟩) hwr p2 p3 p4
      rw [hD i hi] at key
      exact hK' _ _ _ _ key
  -- the whole
  have hall : ∀ (fuel : Nat) (listed : Array Bool) (N : Nat) (φ : Emb) (a : Act) (W : World), listed.size = ops.size →
      (∀ j o, ops[j]? = some o → listed.getD j false = true → ∀ e ∈ o.after.toList, Region.binds .any e = true → listed.getD e.on false = true) →
      (List.range ops.size).countP (fun j => !listed.getD j false) ≤ fuel →
      DInv B W0 G nt ops.size K dst fs hs vs φ0 a0 Wz (fun j => listed.getD j false) N φ a W → wpAny P .any ops Q fuel listed a W := by
    intro fuel
    have hdone : ∀ (listed : Array Bool) (N : Nat) (φ : Emb) (a : Act) (W : World), (∀ j, j < ops.size → listed.getD j false = true) →
        DInv B W0 G nt ops.size K dst fs hs vs φ0 a0 Wz (fun j => listed.getD j false) N φ a W → Q .normal a W := by
      intro listed N φ a W hS d
      have hN : N = ops.size := by
        have := d.Nle
        by_cases h : N < ops.size
        · obtain ⟨_, k⟩ := d.n2 h
          rw [hS N h] at k; cases k
        · omega
      have hgn : ∀ c o, (hs ops.size).get? c = some o → gf hs ops.size N c = some o := by
        intro c o h
        show (if c < (hs N).n then (hs N).get? c else bth hs ops.size c) = _
        rw [hN, if_pos (Heap.get?_lt h)]; exact h
      refine hq φ a W ⟨sim_less d.sim (fun c l o _ h => hgn c o h), d.glob, ?_, d.size⟩ ?_ d.defers
      · intro t
        have := d.rel t
        rwa [frS_agree (S' := fun _ => true) ops.size (fun j hj _ => hS j hj), ← hfs ops.size (Nat.le_refl _)] at this
      · refine ⟨d.sub, ?_, d.img, d.keepW, ?_, ?_, d.wsize, hmono 0 ops.size (by omega) (Nat.le_refl _)⟩
        · intro c l h1 h2
          rcases d.dom c l h2 with g | ⟨i, g1, g2, g3, g4⟩
          · rw [h1] at g; cases g
          · exact ⟨Nat.le_trans (hmono 0 i (by omega) (by omega)) g3, Nat.lt_of_lt_of_le g4 (hmono (i + 1) _ (by omega) (Nat.le_refl _))⟩
        · intro c hc hn
          have hφ : φ c = none := by
            cases hcc : φ c with
            | none => rfl
            | some l =>
              rcases d.dom c l hcc with g | ⟨i, g1, g2, g3, g4⟩
              · rw [hn] at g; cases g
              · have := hmono 0 i (by omega) (by omega); omega
          have walk : ∀ m, m ≤ ops.size → (hs m).get? c = (hs 0).get? c := by
            intro m
            induction m with
            | zero => intro _; rfl
            | succ m ih =>
              intro hm
              have := hmono 0 m (by omega) (by omega)
              rw [d.keep m (by omega) (hS m (by omega)) c (by omega) hφ]; exact ih (by omega)
          exact walk _ (Nat.le_refl _)
        · intro c o' hc
          have walk : ∀ m, m ≤ ops.size → ∀ o', (hs m).get? c = some o' → o'.excl = true → ∃ o, (hs 0).get? c = some o ∧ o.excl = true := by
            intro m
            induction m with
            | zero => intro _ o' h e; exact ⟨o', h, e⟩
            | succ m ih =>
              intro hm o' h e
              have := hmono 0 m (by omega) (by omega)
              obtain ⟨o1, k1, k2⟩ := d.excl m (by omega) (hS m (by omega)) c o' (by omega) h e
              exact ih (by omega) o1 k1 k2
          exact walk _ (Nat.le_refl _) o'
    induction fuel with
    | zero =>
      intro listed N φ a W hsz hclo hcnt d
      have hS : ∀ j, j < ops.size → listed.getD j false = true := by
        intro j hj
        have h0 : (List.range ops.size).countP (fun j => !listed.getD j false) = 0 := by omega
        rw [List.countP_eq_zero] at h0
        have := h0 j (by simpa using hj)
        simpa using this
      refine ⟨?_, hdone listed N φ a W hS d⟩
      unfold Region.ready
      rw [List.filter_eq_nil_iff]
      intro j hj
      have hj' : j < ops.size := by simpa using hj
      have := hS j hj'
      have h1 : listed.getD j true = true := by
        have hjl : j < listed.size := by omega
        simp only [Array.getD_eq_getD_getElem?, Array.getElem?_eq_getElem hjl, Option.getD_some] at this ⊢
        exact this
      simp [h1]
    | succ fuel ih =>
      intro listed N φ a W hsz hclo hcnt d
      have hgetD : ∀ j, j < ops.size → listed.getD j true = listed.getD j false := by
        intro j hj
        have hjl : j < listed.size := by omega
        simp [Array.getD_eq_getD_getElem?, Array.getElem?_eq_getElem hjl]
      have hready : ∀ i, i ∈ Region.ready .any ops listed ↔ (i < ops.size ∧ listed.getD i false = false ∧ ∀ o, ops[i]? = some o → ∀ e ∈ o.after.toList, Region.binds .any e = true → listed.getD e.on false = true) := by
        intro i
        unfold Region.ready
        rw [List.mem_filter]
        constructor
        · rintro ⟨h1, h2⟩
          have hi : i < ops.size := by simpa using h1
          simp only [Bool.and_eq_true, Bool.not_eq_true', Array.getElem?_eq_getElem hi, Option.map_some, Option.getD_some] at h2
          refine ⟨hi, by rw [← hgetD i hi]; exact h2.1, fun o ho e he hb => ?_⟩
          rw [Array.getElem?_eq_getElem hi] at ho
          cases ho
          have := h2.2
          rw [← Array.all_toList, List.all_eq_true] at this
          have := this e he
          simpa [hb] using this
        · rintro ⟨hi, h1, h2⟩
          refine ⟨by simpa using hi, ?_⟩
          simp only [Bool.and_eq_true, Bool.not_eq_true', Array.getElem?_eq_getElem hi, Option.map_some, Option.getD_some]
          refine ⟨by rw [hgetD i hi]; exact h1, ?_⟩
          rw [← Array.all_toList, List.all_eq_true]
          intro e he
          cases hb : Region.binds .any e with
          | false => rfl
          | true => simpa using h2 _ (Array.getElem?_eq_getElem hi) e he hb
      refine ⟨fun hnil => hdone listed N φ a W (fun j hj => ?_) d, fun i hi => ?_⟩
      · induction j using Nat.strongRecOn with
        | _ j ihj =>
          cases hjl : listed.getD j false with
          | true => rfl
          | false =>
            have : j ∈ Region.ready .any ops listed := (hready j).2 ⟨hj, hjl, fun o ho e he hb => by
              have hlt : e.on < j := by
                unfold edgesOK at hed
                rw [List.all_eq_true] at hed
                have := hed j (by simpa using hj)
                rw [List.all_eq_true] at this
                have hd : ops.getD j default = o := by simp [Array.getD_eq_getD_getElem?, ho]
                rw [hd] at this
                have := this e he
                simpa [hb] using this
              exact ihj e.on hlt (by omega)⟩
            rw [hnil] at this; cases this
      · obtain ⟨h1, h2, h3⟩ := (hready i).1 hi
        refine hstep (fun j => listed.getD j false) N φ a W i h1 d hclo h2 (fun e he hb => h3 _ (Array.getElem?_eq_getElem h1) e he hb) _ fun N' φ' a' W' d' => ?_
        have hset : ∀ j, (listed.setIfInBounds i true).getD j false = if j = i then true else listed.getD j false := by
          intro j
          by_cases hji : j = i
          · subst hji
            have hjl : j < listed.size := by omega
            simp [Array.getD_eq_getD_getElem?, hjl]
          · simp [Array.getD_eq_getD_getElem?, Array.getElem?_setIfInBounds_ne (Ne.symm hji), hji]
        have hsf : (fun j => (listed.setIfInBounds i true).getD j false) = fun j => if j = i then true else listed.getD j false := funext hset
        refine ih _ N' φ' a' W' (by simpa using hsz) ?_ ?_ (by rw [hsf]; exact d')
        · intro j o ho hj e he hb
          rw [hset] at hj ⊢
          by_cases heo : e.on = i
          · rw [if_pos heo]
          · rw [if_neg heo]
            by_cases hji : j = i
            · subst hji; exact h3 o ho e he hb
            · rw [if_neg hji] at hj; exact hclo j o ho hj e he hb
        · have := countP_less (p := fun j => !listed.getD j false) (q := fun j => !(listed.setIfInBounds i true).getD j false) (i := i) (fun j hj => by
            simp only [Bool.not_eq_true'] at hj ⊢
            rw [hset] at hj
            split at hj
            · cases hj
            · exact hj) (by simp only [Bool.not_eq_true']; exact h2) (by simp only [Bool.not_eq_false']; rw [hset, if_pos rfl]) (List.range ops.size) (by simpa using h1)
          omega
  -- the beginning
  refine wp_region_any hmix ?_
  have hrep : ∀ j, (Array.replicate ops.size false).getD j false = false := by
    intro j
    by_cases hj : j < ops.size <;> simp [Array.getD_eq_getD_getElem?, hj]
  obtain ⟨N, p1, p2, p3, p4, p5⟩ := first_effect (K := K) (S := fun j => (Array.replicate ops.size false).getD j false) (n := ops.size) ops.size 0 (by omega) (fun j hj => by omega)
  have hnoeff : ∀ j, j < N → K j ≠ 4 := by
    intro j hj h4
    have := p3 j hj h4
    simp only [hrep] at this; cases this
  have hgf : ∀ c l o, φ0 c = some l → gf hs ops.size N c = some o → (hs 0).get? c = some o := by
    intro c l o h1 h2
    rw [gf_same hle (Nat.zero_le N) p2 (fun j _ k2 c hc => hquiet j (by omega) (.inl (hnoeff j k2)) c hc) c] at h2
    have h2' : (if c < (hs 0).n then (hs 0).get? c else bth hs ops.size c) = some o := h2
    by_cases hc : c < (hs 0).n
    · rw [if_pos hc] at h2'; exact h2'
    · rw [if_neg hc] at h2'
      have := bth_lt hle ops.size (Nat.le_refl _) h2'
      have := free c (by omega) this
      rw [h1] at this; cases this
  refine hall ops.size _ N φ0 a0 _ (by simp) ?_ ?_ ?_
  · intro j o _ h; rw [hrep] at h; cases h
  · exact Nat.le_trans List.countP_le_length (by simp)
  · refine ⟨?_, st.size, rfl, st.glob, sim_less st.sim.drew hgf, fun _ _ h => h, fun c l h => .inl h, ?_, ?_, fun b _ _ => rfl, fun c l h1 h2 => (by rw [h1] at h2; cases h2),
      fun c l o h1 h2 h3 => .inr ⟨c, l, o, h1, hgf c l o h1 h2, h3, rfl⟩, Nat.le_refl _, p2, p3, p4⟩
    · intro t
      rw [frS_none (i := 0) ops.size (Nat.zero_le _) (fun j _ _ _ => hrep j)]
      exact st.rel t
    · intro i _ h; simp only [hrep] at h; cases h
    · intro i _ h; simp only [hrep] at h; cases h

end
end Go.Cm
