/- The canonical machine's primitive operations, third part: slices, strings, appends, copies. Conditions: none. -/
import Derived.Test.YtboioafflppnfaaCm6
namespace Go.Cm
open Go.RowKit
set_option linter.unusedVariables false
set_option linter.unusedSimpArgs false

section
variable {B : Nat} {W0 : World} {φ : Emb} {H H' : Heap} {W : World} {r : Result Next} {v v' : Value} {P : Program} {G : Nat} {ρ ρ' : Operand → Value}

theorem prim_mkMap {t : TypeId} (s : Sim B W0 φ H.get? W) (free : Free φ H (H.push (.map [] 0))) :
    Prim B W0 φ H W ((do pure (Next.value (← Instr.makeMap t none)) : Sem Next).run P W) (.map (some H.n)) (H.push (.map [] 0)) := by
  have hn : φ H.n = none := free H.n (Nat.le_refl _) (by simp)
  obtain ⟨s', x'⟩ := s.alloc (o := .map [] 0) (ob := .map #[] 0) (l := ⟨W.heap.size, 0, none⟩) hn rfl ⟨s.inB, rfl, rfl, #[], (by show (W.heap.push _)[W.heap.size]? = _; simp), trivial⟩
  refine ⟨_, .map (some W.heap.size), _, .inl ?_, RelV.map (c := H.n) Emb.add_same rfl, s', x'⟩
  simp [Instr.makeMap]

theorem prim_mkSl {t e : TypeId} {sz b : Nat} {z : Value} {kl kc : IntKind} {l c : Int} (s : Sim B W0 φ H.get? W) (free : Free φ H (H.push (.rw (repL z.cells.toList c.toNat))))
    (ht : P.underlying t = some (.slice e)) (hz : zeroOf P e = some z) (hs : sizeT P e = some sz) (hb : bytesT P e = some b) (hzs : z.cells.size = sz) (hpos : 0 < sz)
    (h0 : 0 ≤ l) (h1 : l ≤ c) (h2 : (b : Int) * c ≤ 281474976710656) (h3 : c ≤ 9223372036854775807) :
    Prim B W0 φ H W ((do pure (Next.value (← Instr.makeSlice t (.int kl l) (.int kc c))) : Sem Next).run P W) (.slice (some ⟨H.n, 0, none⟩) l.toNat c.toNat) (H.push (.rw (repL z.cells.toList c.toNat))) := by
  obtain ⟨hr, hp⟩ := run_zv (W := W) hz
  obtain ⟨i, hi, hib⟩ := run_by hb
  have hp1 := repL_all (cells_plain hp) c.toNat
  have hn : φ H.n = none := free H.n (Nat.le_refl _) (by simp)
  obtain ⟨s', x'⟩ := s.allocRw (e := e) (ar := (Array.range (c.toNat * z.cells.size)).map (z.cells[· % z.cells.size]!)) hn (all_one_of_plain hp1) (by rw [zeros_eq _ (by omega)]; exact RelL.plain hp1)
  refine ⟨_, .slice (some ⟨W.heap.size, 0, none⟩) l.toNat c.toNat, _, .inl ?_, RelV.sl (c := H.n) (o := 0) Emb.add_same (.inl rfl) (by omega), s', x'⟩
  have wl : IntKind.i64.wrap l = l := by simp [IntKind.wrap, IntKind.bits, IntKind.signed]; omega
  have wc : IntKind.i64.wrap c = c := by simp [IntKind.wrap, IntKind.bits, IntKind.signed]; omega
  have hbig : ¬ ((c < 0 ∨ (i.bytes : Int) * c > 2 ^ 48) ∨ l < 0 ∨ c < l) := by
    rw [hib]; intro h; rcases h with (h | h) | h | h <;> omega
  have hlarge : (decide (c < 0) || decide ((i.bytes : Int) * c > 2 ^ 48) || decide (l < 0) || decide (l > c)) = false := by
    rw [hib]; simp; omega
  simp only [Instr.makeSlice, asInt, asIntOf, Sem.run_bind, run_un ht, Result.andThen_ok, Sem.run_pure, run_ti hi, wl, wc, hlarge, run_sz hs, hr, run_askRoom]
  simp only [Bool.false_eq_true, if_false, Sem.run_pure, Result.andThen_ok, Sem.run_bind, run_askRoom, run_sz hs, Sem.run_ite, hr]
  have hze : (Array.range (c.toNat * sz)).map (z.cells[· % z.cells.size]!) = (Array.range (c.toNat * z.cells.size)).map (z.cells[· % z.cells.size]!) := by rw [hzs]
  by_cases h0' : c.toNat * sz = 0
  · have hempty : Array.range (c.toNat * sz) = #[] := by rw [h0']; rfl
    have : Array.range (c.toNat * z.cells.size) = #[] := by rw [hzs]; exact hempty
    rw [if_pos h0']
    simp [newRow, hempty, this]
  · rw [if_neg h0']
    simp [newRow, hzs]

theorem bound_ok {y n : Nat} {x x' : Value} {code : BoundsCode} (hx : RelV φ x x') (h : asNat? x = some n) (hle : n ≤ y) : (Instr.sliceBound x' y code).run P W = .ok n W := by
  cases x with
  | int k i =>
    have := relV_int hx; subst this
    simp only [asNat?] at h
    split at h
    · rename_i h0
      cases h
      rw [Instr.sliceBound]
      simp [asIntOf, h0, show i ≤ (y : Int) from by omega]
    · cases h
  | _ => simp [asNat?] at h

theorem relO {x : Option Operand} (hx : ∀ y, x = some y → RelV φ (ρ y) (ρ' y)) : ∀ a, x.map ρ = some a → ∃ a', x.map ρ' = some a' ∧ RelV φ a a' := by
  intro a ha
  cases x with
  | none => cases ha
  | some y => cases ha; exact ⟨_, rfl, hx y rfl⟩

/-- the bounds of a slice expression; the capacity may be greater than is known -/
theorem bounds_ok {isS : Bool} {len cap cap' l e m : Nat} {lo hi mx : Option Operand} (hlo : ∀ y, lo = some y → RelV φ (ρ y) (ρ' y)) (hhi : ∀ y, hi = some y → RelV φ (ρ y) (ρ' y)) (hmx : ∀ y, mx = some y → RelV φ (ρ y) (ρ' y))
    (hlen : len ≤ cap) (hcap : cap ≤ cap') (h : bounds len cap (lo.map ρ) (hi.map ρ) (mx.map ρ) = some (l, e, m)) :
    l ≤ e ∧ e ≤ m ∧ m ≤ cap ∧ (mx = none → m = cap) ∧
    (Instr.sliceBounds isS len cap' (lo.map ρ') (hi.map ρ') (mx.map ρ')).run P W = .ok (l, e, if mx.isSome then m else cap') W := by
  unfold bounds at h
  cases hm : mx with
  | none =>
    subst hm
    simp only [Option.map_none] at h
    cases hh : hi with
    | none =>
      subst hh
      simp only [Option.map_none, Option.isSome_none, Bool.false_eq_true, if_false] at h
      cases hl : lo with
      | none =>
        subst hl
        simp only [Option.map_none, Option.some.injEq, Prod.mk.injEq] at h
        obtain ⟨rfl, rfl, rfl⟩ := h
        exact ⟨by omega, by omega, by omega, fun _ => rfl, by simp [Instr.sliceBounds]⟩
      | some y =>
        subst hl
        simp only [Option.map_some] at h
        cases ha : asNat? (ρ y) with
        | none => simp [ha] at h
        | some n =>
          simp only [ha] at h
          by_cases hk : n ≤ len
          · simp only [hk, if_true, Option.some.injEq, Prod.mk.injEq] at h
            obtain ⟨rfl, rfl, rfl⟩ := h
            refine ⟨by omega, by omega, by omega, fun _ => rfl, ?_⟩
            simp [Instr.sliceBounds, bound_ok (P := P) (W := W) (hlo y rfl) ha hk]
          · simp [hk] at h
    | some z =>
      subst hh
      simp only [Option.map_some] at h
      cases hb : asNat? (ρ z) with
      | none => simp [hb] at h
      | some n =>
        simp only [hb] at h
        by_cases hn : n ≤ cap
        · simp only [hn, if_true] at h
          cases hl : lo with
          | none =>
            subst hl
            simp only [Option.map_none, Option.some.injEq, Prod.mk.injEq] at h
            obtain ⟨rfl, rfl, rfl⟩ := h
            refine ⟨by omega, by omega, by omega, fun _ => rfl, ?_⟩
            simp [Instr.sliceBounds, bound_ok (P := P) (W := W) (y := cap') (hhi z rfl) hb (by omega)]
          | some y =>
            subst hl
            simp only [Option.map_some] at h
            cases ha : asNat? (ρ y) with
            | none => simp [ha] at h
            | some k =>
              simp only [ha] at h
              by_cases hk : k ≤ n
              · simp only [hk, if_true, Option.some.injEq, Prod.mk.injEq] at h
                obtain ⟨rfl, rfl, rfl⟩ := h
                refine ⟨by omega, by omega, by omega, fun _ => rfl, ?_⟩
                simp [Instr.sliceBounds, bound_ok (P := P) (W := W) (y := cap') (hhi z rfl) hb (by omega), bound_ok (P := P) (W := W) (hlo y rfl) ha hk]
              · simp [hk] at h
        · simp [hn] at h
  | some x =>
    subst hm
    simp only [Option.map_some] at h
    cases hc : asNat? (ρ x) with
    | none => simp [hc] at h
    | some q =>
      simp only [hc] at h
      by_cases hq : q ≤ cap
      · simp only [hq, if_true] at h
        cases hh : hi with
        | none => subst hh; simp at h
        | some z =>
          subst hh
          simp only [Option.map_some] at h
          cases hb : asNat? (ρ z) with
          | none => simp [hb] at h
          | some n =>
            simp only [hb] at h
            by_cases hn : n ≤ q
            · simp only [hn, if_true] at h
              cases hl : lo with
              | none =>
                subst hl
                simp only [Option.map_none, Option.some.injEq, Prod.mk.injEq] at h
                obtain ⟨rfl, rfl, rfl⟩ := h
                refine ⟨by omega, by omega, by omega, fun h => (by cases h), ?_⟩
                simp [Instr.sliceBounds, bound_ok (P := P) (W := W) (y := cap') (hmx x rfl) hc (by omega), bound_ok (P := P) (W := W) (hhi z rfl) hb hn]
              | some y =>
                subst hl
                simp only [Option.map_some] at h
                cases ha : asNat? (ρ y) with
                | none => simp [ha] at h
                | some k =>
                  simp only [ha] at h
                  by_cases hk : k ≤ n
                  · simp only [hk, if_true, Option.some.injEq, Prod.mk.injEq] at h
                    obtain ⟨rfl, rfl, rfl⟩ := h
                    refine ⟨by omega, by omega, by omega, fun h => (by cases h), ?_⟩
                    simp [Instr.sliceBounds, bound_ok (P := P) (W := W) (y := cap') (hmx x rfl) hc (by omega), bound_ok (P := P) (W := W) (hhi z rfl) hb hn, bound_ok (P := P) (W := W) (hlo y rfl) ha hk]
                  · simp [hk] at h
            · simp [hn] at h
      · simp [hq] at h

theorem prim_slS {t : TypeId} {sv : ByteArray} {x' : Value} {lo hi : Option Operand} {l e m : Nat} (s : Sim B W0 φ H.get? W) (ht : P.underlying t = some .string) (hx : RelV φ (.string sv) x')
    (hlo : ∀ y, lo = some y → RelV φ (ρ y) (ρ' y)) (hhi : ∀ y, hi = some y → RelV φ (ρ y) (ρ' y)) (h : bounds sv.size sv.size (lo.map ρ) (hi.map ρ) none = some (l, e, m)) :
    Prim B W0 φ H W ((do pure (Next.value (← Instr.sliceAt t x' (lo.map ρ') (hi.map ρ') none)) : Sem Next).run P W) (.string (sv.extract l e)) H := by
  have := relV_str hx; subst this
  obtain ⟨_, _, _, _, hb⟩ := bounds_ok (P := P) (W := W) (isS := false) (mx := none) hlo hhi (by simp) (Nat.le_refl _) (Nat.le_refl _) h
  refine Prim.pure s ?_ (.str _)
  simp only [Option.map_none] at hb
  simp [Instr.sliceAt, Instr.slice, run_un ht, hb]

theorem prim_slA {t el : TypeId} {n sz : Nat} {a : Addr} {x' : Value} {lo hi : Option Operand} {l e m : Nat} (s : Sim B W0 φ H.get? W) (ht : P.underlying t = some (.array n el)) (hs : sizeT P el = some sz)
    (hx : RelV φ (.pointer (some a)) x') (hlo : ∀ y, lo = some y → RelV φ (ρ y) (ρ' y)) (hhi : ∀ y, hi = some y → RelV φ (ρ y) (ρ' y)) (h : bounds n n (lo.map ρ) (hi.map ρ) none = some (l, e, m)) :
    Prim B W0 φ H W ((do pure (Next.value (← Instr.sliceAt t x' (lo.map ρ') (hi.map ρ') none)) : Sem Next).run P W) (.slice (some (if m = l then a else addOff a (l * sz))) (e - l) (m - l)) H := by
  obtain ⟨c, o, lc, rfl, hl, rfl⟩ := relV_ptr hx
  obtain ⟨h1, h2, h3, h4, hb⟩ := bounds_ok (P := P) (W := W) (isS := false) (mx := none) hlo hhi (by simp) (Nat.le_refl _) (Nat.le_refl _) h
  have hm := h4 rfl; subst hm
  simp only [Option.map_none, Option.isSome_none, Bool.false_eq_true, if_false] at hb
  by_cases hml : m = l
  · subst hml
    refine Prim.pure (v' := .slice (some ⟨lc.b, lc.base + o, none⟩) (e - m) (m - m)) s ?_ (by rw [if_pos rfl]; exact RelV.sl hl (.inl rfl) (by omega))
    simp [Instr.sliceAt, Instr.sureAddr, run_un ht, hb, run_sz hs]
  · refine Prim.pure (v' := .slice (some ⟨lc.b, lc.base + (o + l * sz), none⟩) (e - l) (m - l)) s ?_ (by rw [if_neg hml]; exact RelV.sl hl (.inl rfl) (by omega))
    simp [Instr.sliceAt, Instr.sureAddr, run_un ht, hb, run_sz hs, hml, Addr.add_at, Nat.add_assoc]

theorem capRel_sub {lc : Loc} {o k k' l sz : Nat} (h : CapRel lc o k k') (hk : l ≤ k) (he : ∀ e, lc.lo = some e → o + k * e.esz = e.sz → k ≠ k' → e.esz = sz) : CapRel lc (o + l * sz) (k - l) (k' - l) := by
  rcases h with h | ⟨e, h1, h2, h3, h4⟩
  · left; omega
  · by_cases hkk : k' = k
    · left; omega
    · right
      have hsz := he e h1 h2 (fun h => hkk h.symm)
      subst hsz
      refine ⟨e, h1, ?_, by omega, ?_⟩
      · rw [← h2, Nat.sub_mul]
        have : l * e.esz ≤ k * e.esz := Nat.mul_le_mul_right _ hk
        omega
      · rw [Nat.sub_mul]
        have : l * e.esz ≤ k' * e.esz := Nat.mul_le_mul_right _ (by omega)
        omega


theorem Sim.tight {c : Nat} {l : Loc} {o k k' : Nat} (s : Sim B W0 φ H.get? W) (hl : φ c = some l) (ho : (∃ cs, H.get? c = some (.ro cs)) ∨ (∃ cs, H.get? c = some (.rw cs))) (hk : CapRel l o k k') : k' = k := by
  have hlo : l.lo = none := by
    rcases ho with ⟨cs, h⟩ | ⟨cs, h⟩
    · exact (s.obj c l _ hl h).2.1
    · exact (s.obj c l _ hl h).2.1
  rcases hk with h | ⟨e, h, _⟩
  · exact h
  · rw [hlo] at h; cases h

theorem prim_slV {t el : TypeId} {sz len cap : Nat} {a : Option Addr} {x' : Value} {lo hi mx : Option Operand} {l e m : Nat} (s : Sim B W0 φ H.get? W) (ht : P.underlying t = some (.slice el)) (hs : sizeT P el = some sz)
    (hx : RelV φ (.slice a len cap) x') (hlo : ∀ y, lo = some y → RelV φ (ρ y) (ρ' y)) (hhi : ∀ y, hi = some y → RelV φ (ρ y) (ρ' y)) (hmx : ∀ y, mx = some y → RelV φ (ρ y) (ρ' y))
    (h : bounds len cap (lo.map ρ) (hi.map ρ) (mx.map ρ) = some (l, e, m))
    (hv : (match (generalizing := false) a with
        | none => some (.slice none (e - l) (m - l), H)
        | some a =>
          if mx.isSome then some (.slice (some (if m = l then a else addOff a (l * sz))) (e - l) (m - l), H) else
          match H.get? a.block with
          | some (.ro _) | some (.rw _) => some (.slice (some (if m = l then a else addOff a (l * sz))) (e - l) (m - l), H)
          | some (.loose k _) => if m = l then some (.slice (some ⟨a.block, a.off, some 0⟩) 0 0, H) else if k = sz then some (.slice (some (addOff a (l * sz))) (e - l) (m - l), H) else none
          | some .dead => if m = l then some (.slice (some ⟨a.block, a.off, some 0⟩) 0 0, H) else none
          | _ => none) = some (v, H')) :
    Prim B W0 φ H W ((do pure (Next.value (← Instr.sliceAt t x' (lo.map ρ') (hi.map ρ') (mx.map ρ'))) : Sem Next).run P W) v H' := by
  have hsl : ∀ (b : Option Addr) (n k : Nat) (ll ee mm : Nat), (Instr.sliceBounds true n k (lo.map ρ') (hi.map ρ') (mx.map ρ')).run P W = .ok (ll, ee, mm) W →
      (do pure (Next.value (← Instr.sliceAt t (.slice b n k) (lo.map ρ') (hi.map ρ') (mx.map ρ'))) : Sem Next).run P W = .ok (.value (.slice (if mm = ll then b else b.map (·.add (ll * sz))) (ee - ll) (mm - ll))) W := by
    intro b n k ll ee mm hb
    simp [Instr.sliceAt, Instr.slice, run_un ht, hb, run_sz hs]
  cases a with
  | none =>
    obtain ⟨rfl, rfl, rfl⟩ := relV_nils hx
    obtain ⟨h1, h2, h3, h4, hb⟩ := bounds_ok (P := P) (W := W) (isS := true) hlo hhi hmx (Nat.le_refl _) (Nat.le_refl _) h
    obtain rfl : m = 0 := by omega
    obtain rfl : e = 0 := by omega
    obtain rfl : l = 0 := by omega
    simp only [Option.some.injEq, Prod.mk.injEq] at hv
    obtain ⟨rfl, rfl⟩ := hv
    refine Prim.pure (v' := .slice none 0 0) s ?_ .nils
    rw [hsl _ _ _ _ _ _ hb]
    simp
  | some a =>
    simp only at hv
    rcases relV_sl hx with ⟨c, o, lc, k', rfl, hl, hk, hn, rfl⟩ | ⟨c, o, a', k', rfl, rfl, rfl, rfl⟩
    · have hle : cap ≤ k' := by
        rcases hk with h | ⟨_, _, _, h, _⟩
        · omega
        · exact h
      obtain ⟨h1, h2, h3, h4, hb⟩ := bounds_ok (P := P) (W := W) (isS := true) hlo hhi hmx hn hle h
      by_cases hsome : mx.isSome = true
      · rw [if_pos hsome] at hv hb
        simp only [Option.some.injEq, Prod.mk.injEq] at hv
        obtain ⟨rfl, rfl⟩ := hv
        by_cases hml : m = l
        · refine Prim.pure (v' := .slice (some ⟨lc.b, lc.base + o, none⟩) (e - l) (m - l)) s ?_ (by rw [if_pos hml]; exact RelV.sl hl (.inl rfl) (by omega))
          rw [hsl _ _ _ _ _ _ hb, if_pos hml]
        · refine Prim.pure (v' := .slice (some ⟨lc.b, lc.base + (o + l * sz), none⟩) (e - l) (m - l)) s ?_ (by rw [if_neg hml]; exact RelV.sl hl (.inl rfl) (by omega))
          rw [hsl _ _ _ _ _ _ hb, if_neg hml]
          simp [Addr.add_at, Nat.add_assoc]
      · rw [if_neg hsome] at hv hb
        have hm := h4 (by cases mx <;> simp_all)
        subst hm
        have exact_ : k' = m → v = .slice (some (if m = l then ⟨c, o, none⟩ else addOff ⟨c, o, none⟩ (l * sz))) (e - l) (m - l) → H' = H →
            Prim B W0 φ H W ((do pure (Next.value (← Instr.sliceAt t (.slice (some ⟨lc.b, lc.base + o, none⟩) len k') (lo.map ρ') (hi.map ρ') (mx.map ρ'))) : Sem Next).run P W) v H' := by
          rintro rfl rfl rfl
          by_cases hml : k' = l
          · refine Prim.pure (v' := .slice (some ⟨lc.b, lc.base + o, none⟩) (e - l) (k' - l)) s ?_ (by rw [if_pos hml]; exact RelV.sl hl (.inl rfl) (by omega))
            rw [hsl _ _ _ _ _ _ hb, if_pos hml]
          · refine Prim.pure (v' := .slice (some ⟨lc.b, lc.base + (o + l * sz), none⟩) (e - l) (k' - l)) s ?_ (by rw [if_neg hml]; exact RelV.sl hl (.inl rfl) (by omega))
            rw [hsl _ _ _ _ _ _ hb, if_neg hml]
            simp [Addr.add_at, Nat.add_assoc]
        have empty_ : m = l → v = .slice (some ⟨c, o, some 0⟩) 0 0 → H' = H →
            Prim B W0 φ H W ((do pure (Next.value (← Instr.sliceAt t (.slice (some ⟨lc.b, lc.base + o, none⟩) len k') (lo.map ρ') (hi.map ρ') (mx.map ρ'))) : Sem Next).run P W) v H' := by
          rintro rfl rfl rfl
          obtain rfl : e = m := by omega
          by_cases hml : k' = e
          · refine Prim.pure (v' := .slice (some ⟨lc.b, lc.base + o, none⟩) 0 (k' - e)) s ?_ .slz
            rw [hsl _ _ _ _ _ _ hb, if_pos hml]; simp
          · refine Prim.pure (v' := .slice (some ⟨lc.b, lc.base + o + e * sz, none⟩) 0 (k' - e)) s ?_ .slz
            rw [hsl _ _ _ _ _ _ hb, if_neg hml]
            simp [Addr.add_at]
        split at hv
        · rename_i cs hg
          simp only [Option.some.injEq, Prod.mk.injEq] at hv
          exact exact_ (s.tight hl (.inl ⟨cs, hg⟩) hk) hv.1.symm hv.2.symm
        · rename_i cs hg
          simp only [Option.some.injEq, Prod.mk.injEq] at hv
          exact exact_ (s.tight hl (.inr ⟨cs, hg⟩) hk) hv.1.symm hv.2.symm
        · rename_i k cs hg
          by_cases hml : m = l
          · rw [if_pos hml] at hv
            simp only [Option.some.injEq, Prod.mk.injEq] at hv
            exact empty_ hml hv.1.symm hv.2.symm
          · rw [if_neg hml] at hv
            split at hv
            · rename_i hksz
              simp only [Option.some.injEq, Prod.mk.injEq] at hv
              obtain ⟨rfl, rfl⟩ := hv
              obtain ⟨g1, lo', g2, g3, g4, _⟩ := s.obj c lc _ hl hg
              refine Prim.pure (v' := .slice (some ⟨lc.b, lc.base + (o + l * sz), none⟩) (e - l) (k' - l)) s ?_ (RelV.sl hl (capRel_sub hk (by omega) (fun e' he' _ _ => by rw [g2] at he'; cases he'; omega)) (by omega))
              rw [hsl _ _ _ _ _ _ hb, if_neg (by omega)]
              simp [Addr.add_at, Nat.add_assoc]
            · cases hv
        · by_cases hml : m = l
          · rw [if_pos hml] at hv
            simp only [Option.some.injEq, Prod.mk.injEq] at hv
            exact empty_ hml hv.1.symm hv.2.symm
          · rw [if_neg hml] at hv; cases hv
        · cases hv
    · obtain ⟨h1, h2, h3, h4, hb⟩ := bounds_ok (P := P) (W := W) (isS := true) hlo hhi hmx (Nat.le_refl _) (Nat.zero_le k') h
      obtain rfl : m = 0 := by omega
      obtain rfl : e = 0 := by omega
      obtain rfl : l = 0 := by omega
      have hv' : v = .slice (some ⟨c, o, some 0⟩) 0 0 ∧ H' = H := by
        simp only [if_true, Nat.sub_self] at hv
        split at hv
        · cases hv; exact ⟨rfl, rfl⟩
        · split at hv <;> first | (cases hv; exact ⟨rfl, rfl⟩) | cases hv
      obtain ⟨rfl, rfl⟩ := hv'
      by_cases hz : (if mx.isSome then 0 else k') = 0
      · refine Prim.pure (v' := .slice (some a') 0 0) s ?_ .slz
        rw [hsl _ _ _ _ _ _ hb, if_pos hz, hz]
      · refine Prim.pure (v' := .slice (some (a'.add (0 * sz))) 0 (if mx.isSome then 0 else k')) s ?_ .slz
        rw [hsl _ _ _ _ _ _ hb, if_neg hz]
        simp

end
end Go.Cm
