/- The canonical machine: an answer known ahead: slices.Sorted(maps.Keys(m)) at keys of the kind int: the keys, rising. Conditions: the library's functions lie as the shelf lays them. -/
import Derived.Test.YtboioafflppnfaaCm25
import Derived.Shelf.SlIterI.Nil
namespace Go.Cm
open Go.RowKit Go.Proofs Go.Shelf Go.Maps Go.Sort Go.WideElems
set_option linter.unusedVariables false
set_option linter.unusedSimpArgs false

def insI (x : Int) : List Int → List Int
  | [] => [x]
  | y :: r => match decide (x ≤ y) with | true => x :: y :: r | false => y :: insI x r
/-- a list of numbers, rising -/
def isort : List Int → List Int
  | [] => []
  | x :: r => insI x (isort r)
theorem insI_perm (x : Int) : ∀ l, (insI x l).Perm (x :: l)
  | [] => .refl _
  | y :: r => by
    unfold insI
    split
    · exact .refl _
    · exact ((insI_perm x r).cons y).trans (.swap x y r)
theorem isort_perm : ∀ l, (isort l).Perm l
  | [] => .refl _
  | x :: r => (insI_perm x _).trans ((isort_perm r).cons x)
theorem insI_sorted (x : Int) : ∀ l : List Int, l.Pairwise (· ≤ ·) → (insI x l).Pairwise (· ≤ ·)
  | [], _ => by simp [insI]
  | y :: r, h => by
    unfold insI
    split
    · rename_i hd
      have hd := of_decide_eq_true hd
      refine List.pairwise_cons.2 ⟨fun z hz => ?_, h⟩
      rcases List.mem_cons.1 hz with rfl | hz
      · exact hd
      · exact Int.le_trans hd ((List.pairwise_cons.1 h).1 z hz)
    · rename_i hd
      have hd := of_decide_eq_false hd
      obtain ⟨h1, h2⟩ := List.pairwise_cons.1 h
      refine List.pairwise_cons.2 ⟨fun z hz => ?_, insI_sorted x r h2⟩
      rcases List.mem_cons.1 ((insI_perm x r).mem_iff.1 hz) with rfl | hz
      · omega
      · exact h1 z hz
theorem isort_sorted : ∀ l, (isort l).Pairwise (· ≤ ·)
  | [] => .nil
  | x :: r => insI_sorted x _ (isort_sorted r)
theorem isort_eq (l : List Int) : (l.mergeSort fun x y => decide (x ≤ y)) = isort l := by
  refine List.Perm.eq_of_pairwise (le := fun a b : Int => a ≤ b) (fun a b _ _ h1 h2 => Int.le_antisymm h1 h2) ?_ (isort_sorted l) ((List.mergeSort_perm l _).trans (isort_perm l).symm)
  have := List.pairwise_mergeSort (le := fun x y : Int => decide (x ≤ y)) (fun a b c h1 h2 => by simp only [decide_eq_true_eq] at *; exact Int.le_trans h1 h2) (fun a b => by simp only [Bool.or_eq_true, decide_eq_true_eq]; exact Int.le_total a b) l
  exact this.imp (fun h => of_decide_eq_true h)
theorem isort_of_perm {l l' : List Int} (h : l.Perm l') : isort l = isort l' :=
  List.Perm.eq_of_pairwise (le := fun a b : Int => a ≤ b) (fun a b _ _ h1 h2 => Int.le_antisymm h1 h2) (isort_sorted l) (isort_sorted l') (((isort_perm l).trans h).trans (isort_perm l').symm)

/-- a map's entries: their keys are these numbers, each once; its times are as they must be -/
structure KeysOK (es : List (Value × Value × Nat)) (clock : Nat) (ks : List Int) : Prop where
  keys : es.map (·.1) = ks.map (Value.int .i64)
  nodup : ks.Nodup
  wf : ∀ x ∈ ks, (Lit.int .i64 x).wf = true
  few : es.length ≤ 1099511627776
  born : ∀ e ∈ es, e.2.2 < clock
  once : (es.map (·.2.2)).Nodup

def sortedRes (h : Heap) (l : List Int) : Value × Heap := match l with
  | [] => (.slice none 0 0, h)
  | x :: r => (.slice (some ⟨h.n, 0, none⟩) (x :: r).length (x :: r).length, h.push (.loose 1 ((x :: r).map (Value.int .i64))))

/-- what the call answers -/
def SortedAns (fS fK : Nat) (g : FuncId) (args : List Value) (h : Heap) (v : Value) (h' : Heap) : Prop :=
  g = fS ∧ ∃ c, args = [.func (.func fK) #[] #[.pointer (some ⟨c, 0, none⟩)]] ∧
    ((h.get? c = some (.rw [.map none]) ∧ (v, h') = sortedRes h []) ∨
      ∃ m es clock ks, h.get? c = some (.rw [.map (some m)]) ∧ h.get? m = some (.map es clock) ∧ KeysOK es clock ks ∧ (v, h') = sortedRes h (isort ks))

theorem relFn {φ : Emb} {f c : Nat} {v' : Value} (h : RelV φ (.func (.func f) #[] #[.pointer (some ⟨c, 0, none⟩)]) v') : ∃ l, φ c = some l ∧ v' = .func (.func f) #[] #[.pointer (some ⟨l.b, l.base, none⟩)] := by
  cases h with
  | @func _ a b cc d h1 h2 h3 h4 =>
    obtain ⟨b⟩ := b
    obtain ⟨d⟩ := d
    have hb : b = [] := List.eq_nil_of_length_eq_zero h1.symm
    have hd : d.length = 1 := h3.symm
    match d, hd with
    | [d0], _ =>
      have := h4 0 _ _ rfl rfl
      cases this with
      | ptr hc => exact ⟨_, hc, by rw [hb]; rfl⟩

theorem entRel_keys {φ : Emb} : ∀ {es : List (Value × Value × Nat)} {es' : List MapEntry}, EntRel φ es es' → ∀ {ks : List Int}, es.map (·.1) = ks.map (Value.int .i64) → es'.map (·.key) = ks.map (Value.int .i64) ∧ es'.map (·.born) = es.map (·.2.2) ∧ es'.length = es.length
  | [], [], _, ks, hk => ⟨hk, rfl, rfl⟩
  | [], _ :: _, h, _, _ => h.elim
  | _ :: _, [], h, _, _ => h.elim
  | (k, v, n) :: es, e :: es', h, [], hk => by simp at hk
  | (k, v, n) :: es, e :: es', h, x :: ks, hk => by
      obtain ⟨h1, h2, h3, h4⟩ := h
      simp only [List.map_cons, List.cons.injEq] at hk
      obtain ⟨rfl, hk'⟩ := hk
      obtain ⟨i1, i2, i3⟩ := entRel_keys h4 hk'
      cases h1' : e.key with
      | int q a =>
        rw [h1'] at h1
        cases h1
        exact ⟨by simp [h1', i1], by simp [h3, i2], by simp [i3]⟩
      | _ => rw [h1'] at h1; cases h1

theorem cells_rd {φ : Emb} {W : World} {l : Loc} {cs : List Value} (h : CellsRel φ W l cs) {i : Nat} {v : Value} (hv : cs[i]? = some v) : ∃ v', W.cell? ⟨l.b, l.base + i, none⟩ = some v' ∧ RelV φ v v' := (h i v hv).2

section
variable {P : Program} {G : Nat}

/-- memory to which the model has added blocks of which nothing is known, and one row -/
theorem good_row {B : Nat} {W0 : World} {φ : Emb} {h : Heap} {W W' : World} (s : Sim B W0 φ h.get? W) {cs : List Value} (free : Free φ h (h.push (.loose 1 cs))) (hb : Below W.heap.size W W') {e : TypeId} {v' : Value} (hne : cs ≠ []) (hone : cs.all plain1 = true)
    (hrow : W'.ownsRow W.heap.size e 1 v' cs.length cs) :
    ∃ φ', RelV φ' (.slice (some ⟨h.n, 0, none⟩) cs.length cs.length) v' ∧ Sim B W0 φ' (h.push (.loose 1 cs)).get? W' ∧ Ext φ φ' h (h.push (.loose 1 cs)) W W' := by
  obtain ⟨_, hr⟩ := hrow
  rcases hr with ⟨_, hz⟩ | ⟨gb, cap, cur, rfl, hbase, hgb, r1, r2, r3, r4⟩
  · exact absurd (List.eq_nil_of_length_eq_zero hz) hne
  have hgl : gb < W'.heap.size := (Array.getElem?_eq_some_iff.1 hgb).1
  rw [Nat.mul_one] at r3 r4
  let L : Loc := ⟨gb, 0, some ⟨cs.length, 1, cap⟩⟩
  let ψ : Emb := fun c => if c = h.n then some L else φ c
  have hfree : φ h.n = none := free h.n (Nat.le_refl _) (by simp [Heap.push])
  have hψ0 : ∀ c l, φ c = some l → ψ c = some l := by
    intro c l hc
    simp only [ψ]
    by_cases h0 : c = h.n
    · subst h0; rw [hfree] at hc; cases hc
    · rw [if_neg h0]; exact hc
  have hψn : ψ h.n = some L := by simp [ψ]
  have hψo : ∀ c l, c ≠ h.n → ψ c = some l → φ c = some l := by
    intro c l hc hl
    simp only [ψ] at hl
    rwa [if_neg hc] at hl
  have hcell : ∀ i v, cs[i]? = some v → W'.cell? ⟨gb, i, none⟩ = some v := by
    intro i v hv
    have hi : i < cs.length := by
      rcases Nat.lt_or_ge i cs.length with g | g
      · exact g
      · rw [List.getElem?_eq_none g] at hv; cases hv
    have : cur.toList[i]? = some v := by rw [← r4, List.getElem?_take_of_lt hi] at hv; exact hv
    rw [World.cell?]
    simp only [hgb, Option.isSome_none, Bool.false_eq_true, if_false]
    simpa using this
  refine ⟨ψ, .sl (l := L) hψn ?_ (Nat.le_refl _), ⟨(s.below' hb).below, Nat.le_trans s.inB hb.size, ?_, ?_, ?_⟩, ⟨hψ0, ?_, ?_, fun b hlt _ => hb.block b hlt, ?_, ?_, hb.size, by simp [Heap.push]⟩⟩
  · exact .inr ⟨⟨cs.length, 1, cap⟩, rfl, by simp, r1, by simp [L]⟩
  · intro c l hc
    by_cases h0 : c = h.n
    · subst h0; rw [hψn] at hc; cases hc; exact hgl
    · exact Nat.lt_of_lt_of_le (s.lt c l (hψo c l h0 hc)) hb.size
  · intro c l o hc ho
    by_cases h0 : c = h.n
    · subst h0
      rw [hψn] at hc; cases hc
      rw [Heap.get?_push_new] at ho; cases ho
      refine ⟨Nat.le_trans s.inB hbase, ⟨cs.length, 1, cap⟩, rfl, rfl, rfl, Nat.one_pos, by simpa [L] using r1, ?_, ?_, ?_⟩
      · intro i v hv
        have hp := (List.all_eq_true.1 hone) v (List.mem_of_getElem? hv)
        refine ⟨?_, v, by simpa [L] using hcell i v hv, ?_⟩
        · unfold plain1 at hp; unfold one; split at hp <;> first | rfl | cases hp
        · unfold plain1 at hp; split at hp <;> first | (constructor; done) | cases hp
      · intro j _ _
        simp [L, World.frozen?, hgb]
      · intro j _ hj
        simp only [L] at hj ⊢
        rw [World.cell?]
        simp only [hgb, Option.isSome_none, Bool.false_eq_true, if_false]
        rw [Array.getElem?_eq_getElem (by omega)]
        rfl
    · have ho' : h.get? c = some o := by rw [Heap.get?_push, if_neg h0] at ho; exact ho
      exact ((s.below' hb).obj c l o (hψo c l h0 hc) ho').keep hψ0 rfl
  · intro c1 c2 l1 l2 o1 o2 g1 g2 p1 p2 e1 e2 e
    by_cases a1 : c1 = h.n
    · by_cases a2 : c2 = h.n
      · rw [a1, a2]
      · subst a1
        rw [hψn] at g1; cases g1
        have := s.lt c2 l2 (hψo c2 l2 a2 g2)
        simp only [L] at e
        omega
    · by_cases a2 : c2 = h.n
      · subst a2
        rw [hψn] at g2; cases g2
        have := s.lt c1 l1 (hψo c1 l1 a1 g1)
        simp only [L] at e
        omega
      · rw [Heap.get?_push, if_neg a1] at p1
        rw [Heap.get?_push, if_neg a2] at p2
        exact s.inj c1 c2 l1 l2 o1 o2 (hψo c1 l1 a1 g1) (hψo c2 l2 a2 g2) p1 p2 e1 e2 e
  · intro c l hn hc
    by_cases h0 : c = h.n
    · subst h0; exact ⟨Nat.le_refl _, by simp [Heap.push]⟩
    · rw [hψo c l h0 hc] at hn; cases hn
  · intro c l hn hc
    by_cases h0 : c = h.n
    · subst h0; rw [hψn] at hc; cases hc; exact .inl hbase
    · rw [hψo c l h0 hc] at hn; cases hn
  · intro c hc _
    exact Heap.get?_push_old hc
  · intro c o' hc ho e
    rw [Heap.get?_push_old hc] at ho
    exact ⟨o', ho, e⟩

theorem sorted_good {ρk ρs : Ren} (K : SlLaysZI.n10 P ρk) (S : SlLaysZI.n6 P ρs) (hcall : Callable P (ρs.f 6)) (hsort : ∀ m, AnyZI.SortsIn P ρs Fence.wide m)
    (e9 : ∀ args w, (callFunc (ρs.f 9) args).run P w = .ok (.enter (ρs.f 9) args) w) (eK : ∀ args w, (callFunc (ρk.f 10) args).run P w = .ok (.enter (ρk.f 10) args) w)
    {B : Nat} {W0 : World} {g : FuncId} {args : List Value} {h h' : Heap} {v : Value} (H : SortedAns (ρs.f 6) (ρk.f 10) g args h v h') : h.n ≤ h'.n ∧ GoodCall P G B W0 g args h v h' := by
  obtain ⟨rfl, c, rfl, H⟩ := H
  have hle : h.n ≤ h'.n := by
    rcases H with ⟨_, H⟩ | ⟨_, _, _, ks, _, _, _, H⟩
    · cases H; exact Nat.le_refl _
    · unfold sortedRes at H
      split at H <;> cases H
      · exact Nat.le_refl _
      · simp [Heap.push]
  refine ⟨hle, hcall, fun φ W args' s gl hr free => ?_⟩
  obtain ⟨args'⟩ := args'
  have hlen : args'.length = 1 := hr.1.symm
  match args', hlen with
  | [v0], _ =>
    obtain ⟨l, hl, rfl⟩ := relFn (hr.2 0 _ _ rfl rfl)
    have hlt := s.lt c l hl
    rcases H with ⟨hc, H⟩ | ⟨m, es, clock, ks, hc, hm, hk, H⟩
    · obtain ⟨_, hlo, hcs, _, hb0⟩ := s.obj c l _ hl hc
      obtain ⟨u, hu, hru⟩ := cells_rd hcs (i := 0) rfl
      cases hru
      rw [hb0] at hu ⊢
      refine (callsIn_wide (n := 5)).1 ((AnyZI.sorted_in S Fence.wide 5 trivial trivial trivial trivial rfl (by omega) (hsort _) e9 (ρk.f 10) #[.pointer (some ⟨l.b, 0, none⟩)] trivial eK _ 0 (Nat.zero_le _) (by omega) W
        (AnyZI.keys_gives_nil K Fence.wide 2 trivial rfl l.b W hlt (by simpa using hu))).mono ?_)
      rintro e W' ⟨v, ss, rfl, rfl, hrow, hnil, hb⟩
      cases H
      exact ⟨φ, v, rfl, by rw [hnil.2 rfl]; exact .nils, s.below' hb, .below hb⟩
    · obtain ⟨_, hlo, hcs, _, hb0⟩ := s.obj c l _ hl hc
      obtain ⟨u, hu, hru⟩ := cells_rd hcs (i := 0) rfl
      cases hru with
      | @map _ lm hlm hbm =>
      rw [hb0] at hu ⊢
      obtain ⟨_, _, _, es', hes, hent⟩ := s.obj m lm _ hlm hm
      obtain ⟨k1, k2, k3⟩ := entRel_keys hent hk.keys
      have hint : P.underlying (ρs.t 26) = P.underlying (ρs.t 26) := rfl
      have u26 := K.t26
      have hlen : ks.length = es.length := by
        have := congrArg List.length hk.keys
        simpa using this.symm
      let R : Value → Option (DataW Unit × List MemPlace) := fun _ => some (.nil, [])
      let D : DataW Unit := .map ((es'.toList.map (rg P (ρk.t 26) R)).foldr DataW.insert [])
      have hwf : ∀ x ∈ es'.toList, ∃ a, x.key = .int .i64 a ∧ a ∈ ks ∧ (Lit.int .i64 a).wf = true := by
        intro x hx
        have : x.key ∈ es'.toList.map (·.key) := List.mem_map.2 ⟨x, hx, rfl⟩
        rw [k1, List.mem_map] at this
        obtain ⟨a, ha, e⟩ := this
        exact ⟨a, e.symm, ha, hk.wf a ha⟩
      have hkeyOf : ∀ a, (Lit.int .i64 a).wf = true → keyOf P (ρk.t 26) (.int .i64 a) = some (.int .i64 a) := fun a ha => keyOf_int_mk u26 ha
      have hown : W.ownsMap P (ρk.t 26) R lm.b es.length D := by
        refine ⟨es', clock, hes, ⟨?_, ⟨?_, ?_, ?_⟩, ?_⟩, ?_, rfl⟩
        · have := hk.few
          rw [← Array.length_toList, k3]
          simp only [maxLen]; omega
        · intro x hx
          have : x.born ∈ es'.toList.map (·.born) := List.mem_map.2 ⟨x, hx, rfl⟩
          rw [k2, List.mem_map] at this
          obtain ⟨e, he, h1⟩ := this
          rw [← h1]; exact hk.born e he
        · rw [k2]; exact hk.once
        · rw [k1]; exact List.Pairwise.map _ (fun a b hab e => hab (by simpa using e)) hk.nodup
        · intro x hx
          obtain ⟨a, e1, _, e2⟩ := hwf x hx
          obtain ⟨xk, xv, xb⟩ := x
          simp only at e1
          subst e1
          exact ⟨_, rd_mk (hkeyOf a e2) rfl⟩
        · rw [← Array.length_toList, k3]; exact Nat.le_refl _
      have hsize : Maps.size D = es.length := by
        show ((es'.toList.map (rg P (ρk.t 26) R)).foldr DataW.insert []).length = _
        rw [length_sorted, List.length_map, k3]
      have hkeys : (intKeys D).Perm ks := by
        refine (List.perm_ext_iff_of_nodup ?_ hk.nodup).2 fun x => ?_
        · obtain ⟨es2, hD, hpw, _⟩ := hown.entries (int_keyed u26)
          obtain ⟨es3, hD3, hko⟩ := hown.keysOf
          obtain rfl : es2 = es3 := by rw [hD] at hD3; simpa using hD3
          rw [hD]
          show (es2.map fun p => intOf p.1).Nodup
          refine List.pairwise_map.2 (hpw.imp_of_mem fun {p q} hp' hq' hne e => hne ?_)
          obtain ⟨vp, hvp⟩ := hko p hp'
          obtain ⟨vq, hvq⟩ := hko q hq'
          obtain ⟨a, _, ha, _⟩ := Maps.keyOf_i64 u26 hvp
          obtain ⟨b, _, hb, _⟩ := Maps.keyOf_i64 u26 hvq
          rw [ha, hb] at e ⊢
          exact congrArg _ e
        · show x ∈ ((es'.toList.map (rg P (ρk.t 26) R)).foldr DataW.insert []).map (fun p => intOf p.1) ↔ _
          have hmem : ∀ (l : List (Lit × DataW Unit)) (p : Lit × DataW Unit), p ∈ l.foldr DataW.insert [] ↔ p ∈ l := by
            have hins : ∀ (q : Lit × DataW Unit) (l : List (Lit × DataW Unit)) (p : Lit × DataW Unit), p ∈ DataW.insert q l ↔ p = q ∨ p ∈ l := by
              intro q l p
              induction l with
              | nil => simp [DataW.insert]
              | cons y r ih =>
                unfold DataW.insert
                split
                · simp
                · simp only [List.mem_cons, ih]
                  constructor
                  · rintro (h | h | h) <;> simp [h]
                  · rintro (h | h | h) <;> simp [h]
            intro l p
            induction l with
            | nil => simp
            | cons y r ih => rw [List.foldr_cons, hins, ih]; simp
          rw [List.mem_map]
          constructor
          · rintro ⟨p, hp, rfl⟩
            rw [hmem, List.mem_map] at hp
            obtain ⟨y, hy, rfl⟩ := hp
            obtain ⟨a, e1, e3, e2⟩ := hwf y hy
            obtain ⟨yk, yv, yb⟩ := y
            simp only at e1
            subst e1
            rw [rg_of (rd_mk (hkeyOf a e2) rfl)]
            exact e3
          · intro hx
            have : Value.int .i64 x ∈ es'.toList.map (·.key) := by rw [k1]; exact List.mem_map.2 ⟨x, hx, rfl⟩
            rw [List.mem_map] at this
            obtain ⟨y, hy, e1⟩ := this
            refine ⟨rg P (ρk.t 26) R y, by rw [hmem]; exact List.mem_map.2 ⟨y, hy, rfl⟩, ?_⟩
            obtain ⟨yk, yv, yb⟩ := y
            simp only at e1
            subst e1
            rw [rg_of (rd_mk (hkeyOf x (hk.wf x hx)) rfl)]
            rfl
      have hfew := hk.few
      refine (callsIn_wide (n := 5)).1 ((AnyZI.sorted_in S Fence.wide 5 trivial trivial trivial trivial rfl (by omega) (hsort _) e9 (ρk.f 10) #[.pointer (some ⟨l.b, 0, none⟩)] trivial eK _ (Maps.size D) (by rw [hsize]; simp only [maxLen]; omega) (by rw [hsize]; omega) W
        (AnyZI.keys_gives K Fence.wide 2 trivial rfl (by omega) l.b lm.b es.length D W hlt (by simpa using hu) hown)).mono ?_)
      rintro e W' ⟨v', ss, rfl, hperm, hrow, hnil, hb⟩
      have hss : isort ss = isort ks := isort_of_perm (hperm.trans hkeys)
      rw [isort_eq, hss] at hrow
      have hsl : ss.length = (isort ks).length := ((hperm.trans hkeys).trans (isort_perm ks).symm).length_eq
      rw [hsl] at hrow
      cases hi : isort ks with
      | nil =>
        rw [hi] at H hsl
        cases H
        have : ss = [] := List.eq_nil_of_length_eq_zero hsl
        exact ⟨φ, v', rfl, by rw [hnil.2 this]; exact .nils, s.below' hb, .below hb⟩
      | cons x r =>
        rw [hi] at H hrow
        cases H
        have hrow2 : W'.ownsRow W.heap.size (ρs.t 26) 1 v' ((x :: r).map (Value.int .i64)).length ((x :: r).map (Value.int .i64)) := by rw [List.length_map]; exact hrow
        obtain ⟨φ', g1, g2, g3⟩ := good_row (cs := (x :: r).map (Value.int .i64)) s free hb (by simp) (by rw [List.all_eq_true]; intro y hy; obtain ⟨a, _, rfl⟩ := List.mem_map.1 hy; rfl) hrow2
        exact ⟨φ', v', rfl, by simpa using g1, g2, g3⟩
end
end Go.Cm
