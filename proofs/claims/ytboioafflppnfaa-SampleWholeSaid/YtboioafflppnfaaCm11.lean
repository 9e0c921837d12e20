/- The canonical machine's primitive operations, seventh part: plain comparisons and maps. Conditions: none. -/
import Derived.Test.YtboioafflppnfaaCm10
namespace Go.Cm
open Go.RowKit
set_option linter.unusedVariables false
set_option linter.unusedSimpArgs false

section
variable {B : Nat} {W0 : World} {φ : Emb} {H H' : Heap} {W : World} {v v' : Value} {P : Program} {G : Nat} {ρ ρ' : Operand → Value}

/-- a part of a struct's cells, canonical -/
def partC (agg : Bool) (off size : Nat) (xs : Array Value) : Value := if agg then .agg (xs.extract off (off + size)) else xs.getD off unk

theorem part_ok {t : TypeId} {agg : Bool} {off size : Nat} {xs xs' : Array Value} (ha : aggT P t = some agg) (hs : sizeT P t = some size) (ho : xs.toList.all one = true) (hr : RelL φ xs.toList xs'.toList)
    (hne : agg = false → off < xs.size) : ∃ v', (part t xs' off).run P W = .ok v' W ∧ RelV φ (partC agg off size xs) v' := by
  cases agg with
  | true =>
    refine ⟨.agg (xs'.extract off (off + size)), by simp [part, run_ag ha, run_sz hs], ?_⟩
    simp only [partC, if_true]
    refine relV_agg.2 ⟨?_, ?_⟩
    · rw [List.all_eq_true] at *
      intro v hv
      simp only [Array.toList_extract, List.extract_eq_take_drop] at hv
      exact ho v (List.mem_of_mem_drop (List.mem_of_mem_take hv))
    · simp only [Array.toList_extract, List.extract_eq_take_drop]
      exact (hr.drop _).take _
  | false =>
    have hlt := hne rfl
    obtain ⟨v', p, q⟩ := hr.get (i := off) (v := xs[off]) (by simp [hlt])
    have p' : xs'[off]? = some v' := by simpa using p
    refine ⟨v', by simp [part, run_ag ha, p'], ?_⟩
    simp only [partC, Bool.false_eq_true, if_false, Array.getD, hlt, dite_true]
    exact q

theorem eqPT_unk {p : PT} {y : Value} : eqPT p unk y = none := by cases p <;> simp [eqPT, unk]
theorem partC_in {p : PT} {agg : Bool} {off size : Nat} {xs : Array Value} {y : Value} (h : (eqPT p (partC agg off size xs) y).isSome = true) : agg = false → off < xs.size := by
  intro ha
  subst ha
  rcases Nat.lt_or_ge off xs.size with g | g
  · exact g
  · simp only [partC, Bool.false_eq_true, if_false, Array.getD, show ¬ off < xs.size from by omega, dite_false, eqPT_unk] at h
    cases h
theorem partC_in' {p : PT} {agg : Bool} {off size : Nat} {xs : Array Value} {y : Value} (h : (eqPT p y (partC agg off size xs)).isSome = true) : agg = false → off < xs.size := by
  intro ha
  subst ha
  rcases Nat.lt_or_ge off xs.size with g | g
  · exact g
  · simp only [partC, Bool.false_eq_true, if_false, Array.getD, show ¬ off < xs.size from by omega, dite_false] at h
    cases p <;> cases y <;> simp [eqPT, unk] at h

theorem eqPTs_cons {off size : Nat} {agg : Bool} {p : PT} {fs : List (Nat × Nat × Bool × PT)} {xs ys : Array Value} {b : Bool} (h : eqPTs ((off, size, agg, p) :: fs) xs ys = some b) :
    ∃ b1, eqPT p (partC agg off size xs) (partC agg off size ys) = some b1 ∧ (b1 = false → b = false) ∧ ∃ b2, eqPTs fs xs ys = some b2 ∧ (b1 = true → b = b2) := by
  simp only [eqPTs] at h
  cases hq : eqPT p (if agg = true then .agg (xs.extract off (off + size)) else xs.getD off unk) (if agg = true then .agg (ys.extract off (off + size)) else ys.getD off unk) with
  | none => rw [hq] at h; cases h
  | some b1 =>
    rw [hq] at h
    cases b1 with
    | true => exact ⟨true, hq, by simp, b, h, fun _ => rfl⟩
    | false =>
      simp only at h
      split at h
      · rename_i hs
        cases h
        obtain ⟨b2, hb2⟩ := Option.isSome_iff_exists.1 hs
        exact ⟨false, hq, fun _ => rfl, b2, hb2, by simp⟩
      · cases h

theorem eqPT_sound : ∀ (d : Nat) {t : TypeId} {p : PT} {x y x' y' : Value} {b : Bool} (k : Nat), d ≤ k → ptOf P d t = some p → eqPT p x y = some b → RelV φ x x' → RelV φ y y' →
    (Op.equalIn k t x' y').run P W = .ok b W := by
  intro d
  induction d with
  | zero => intro t p x y x' y' b k _ h; simp [ptOf] at h
  | succ d ih =>
    intro t p x y x' y' b k hk h he hx hy
    obtain ⟨k, rfl⟩ : ∃ m, k = m + 1 := ⟨k - 1, by omega⟩
    have hk' : d ≤ k := by omega
    simp only [ptOf] at h
    split at h
    · rename_i ik hu
      cases h
      cases x <;> cases y <;> simp only [eqPT] at he <;> first | (cases he; done) | skip
      have := relV_int hx; subst this; have := relV_int hy; subst this
      split at he
      · rename_i hkk
        cases he
        subst hkk
        simp [Op.equalIn, run_un hu]
      · cases he
    · rename_i hu
      cases h
      cases x <;> cases y <;> simp only [eqPT] at he <;> first | (cases he; done) | skip
      have := relV_bool hx; subst this; have := relV_bool hy; subst this
      cases he
      simp [Op.equalIn, run_un hu]
    · rename_i hu
      cases h
      cases x <;> cases y <;> simp only [eqPT] at he <;> first | (cases he; done) | skip
      have := relV_str hx; subst this; have := relV_str hy; subst this
      cases he
      simp [Op.equalIn, run_un hu]
    · rename_i fs hu
      split at h
      · cases h
      rename_i hst
      split at h
      · rename_i l hl
        cases h
        cases x <;> cases y <;> simp only [eqPT] at he <;> first | (cases he; done) | skip
        rename_i xs ys
        obtain ⟨xs', rfl, hox, hrx⟩ := relV_agg_left hx
        obtain ⟨ys', rfl, hoy, hry⟩ := relV_agg_left hy
        have hfo : P.fieldsOf t = fs := by simp [Program.fieldsOf, hu]
        rw [run_equalIn_struct W k t xs' ys' (by rw [hfo]; exact hu) (by simpa using hst), hfo]
        generalize fs.toList = fl at hl
        clear hfo hu hx hy
        induction fl generalizing l b with
        | nil =>
          simp only [ptFields, Option.some.injEq] at hl
          subst hl
          simp only [eqPTs, Option.some.injEq] at he
          subst he
          rfl
        | cons f fl ih2 =>
          simp only [ptFields] at hl
          split at hl
          · cases hl
          rename_i hname
          split at hl
          · rename_i p a n r hp ha hn hr
            cases hl
            obtain ⟨b1, h1, h2, b2, h3, h4⟩ := eqPTs_cons he
            obtain ⟨u, hu1, hu2⟩ := part_ok (P := P) (W := W) (t := f.type) (off := f.offset) ha hn hox hrx (partC_in (by rw [h1]; rfl))
            obtain ⟨w, hw1, hw2⟩ := part_ok (P := P) (W := W) (t := f.type) (off := f.offset) ha hn hoy hry (partC_in' (by rw [h1]; rfl))
            have hq := ih k hk' hp h1 hu2 hw2
            simp only [Op.eqFields, ne_eq, hname, not_false_eq_true, if_true, Sem.run_bind, hu1, hw1, hq, Result.andThen_ok]
            cases b1 with
            | true =>
              simp only [Bool.not_true, Bool.false_eq_true, if_false]
              rw [h4 rfl]
              first | exact ih2 _ h3 hr | exact ih2 _ _ h3 hr | exact ih2 _ hr _ h3 | exact ih2 _ hr h3
            | false =>
              simp only [Bool.not_false, if_true, Sem.run_pure]
              rw [h2 rfl]
          · cases hl
      · cases h
    · cases h

theorem checkKey_sound (em : Bool) : ∀ (d : Nat) {t : TypeId} {p : PT} {x x' : Value} (k : Nat), d ≤ k → ptOf P d t = some p → (eqPT p x x).isSome = true → RelV φ x x' →
    (Instr.checkKey em k t x').run P W = .ok () W := by
  intro d
  induction d with
  | zero => intro t p x x' k _ h; simp [ptOf] at h
  | succ d ih =>
    intro t p x x' k hk h he hx
    obtain ⟨k, rfl⟩ : ∃ m, k = m + 1 := ⟨k - 1, by omega⟩
    have hk' : d ≤ k := by omega
    simp only [ptOf] at h
    split at h
    · rename_i ik hu
      cases h
      cases x <;> simp [eqPT] at he
      have := relV_int hx; subst this
      simp [Instr.checkKey, run_un hu]
    · rename_i hu
      cases h
      cases x <;> simp [eqPT] at he
      have := relV_bool hx; subst this
      simp [Instr.checkKey, run_un hu]
    · rename_i hu
      cases h
      cases x <;> simp [eqPT] at he
      have := relV_str hx; subst this
      simp [Instr.checkKey, run_un hu]
    · rename_i fs hu
      split at h
      · cases h
      split at h
      · rename_i l hl
        cases h
        cases x <;> simp only [eqPT] at he <;> first | (cases he; done) | skip
        rename_i xs
        obtain ⟨xs', rfl, hox, hrx⟩ := relV_agg_left hx
        obtain ⟨b, hb⟩ := Option.isSome_iff_exists.1 he
        simp only [Instr.checkKey, Sem.run_bind, run_un hu, Result.andThen_ok]
        rw [← Array.forIn_toList]
        generalize fs.toList = fl at hl
        clear hu hx he
        induction fl generalizing l b with
        | nil => rfl
        | cons f fl ih2 =>
          simp only [ptFields] at hl
          split at hl
          · cases hl
          rename_i hname
          split at hl
          · rename_i p a n r hp ha hn hr
            cases hl
            obtain ⟨b1, h1, h2, b2, h3, h4⟩ := eqPTs_cons hb
            obtain ⟨u, hu1, hu2⟩ := part_ok (P := P) (W := W) (t := f.type) (off := f.offset) ha hn hox hrx (partC_in (by rw [h1]; rfl))
            have hq := ih k hk' hp (by rw [h1]; rfl) hu2
            have hrest := (by first | exact ih2 _ hr _ h3 | exact ih2 _ _ h3 hr | exact ih2 _ h3 hr : _)
            simp only [List.forIn_cons, ne_eq, hname, not_false_eq_true, if_true, Sem.run_bind, hu1, hq, Result.andThen_ok, Sem.run_pure]
            exact hrest
          · cases hl
      · cases h
    · cases h

theorem ptOf_kind {d : Nat} {t : TypeId} {p : PT} (h : ptOf P d t = some p) : ∃ u, P.underlying t = some u ∧
    ((p = .int ∧ ∃ k, u = .int k) ∨ (p = .bool ∧ u = .bool) ∨ (p = .str ∧ u = .string) ∨ ((∃ l, p = .st l) ∧ ∃ fs, u = .struct fs)) := by
  cases d with
  | zero => simp [ptOf] at h
  | succ d =>
    simp only [ptOf] at h
    split at h
    · rename_i k hu; cases h; exact ⟨_, hu, .inl ⟨rfl, k, rfl⟩⟩
    · rename_i hu; cases h; exact ⟨_, hu, .inr (.inl ⟨rfl, rfl⟩)⟩
    · rename_i hu; cases h; exact ⟨_, hu, .inr (.inr (.inl ⟨rfl, rfl⟩))⟩
    · rename_i fs hu
      split at h
      · cases h
      split at h
      · rename_i l hl; cases h; exact ⟨_, hu, .inr (.inr (.inr ⟨⟨l, rfl⟩, fs, rfl⟩))⟩
      · cases h
    · cases h

/-- what a search found, both ways -/
def FoundRel (φ : Emb) : Option (Nat × Value) → Option (Nat × Value) → Prop
  | none, none => True
  | some (i, v), some (j, w) => i = j ∧ RelV φ v w
  | _, _ => False

theorem findAsking_sound {kt : TypeId} {p : PT} (hp : ptOf P 20 kt = some p) {k k' : Value} (hk : RelV φ k k') : ∀ {es : List (Value × Value × Nat)} {es' : List MapEntry} {i : Nat} {r : Option (Nat × Value)}, EntRel φ es es' → findE p k es i = some r →
    ∃ r', (Instr.findAsking kt k' es' i).run P W = .ok r' W ∧ FoundRel φ r r'
  | [], [], i, r, _, h => by cases h; exact ⟨none, rfl, trivial⟩
  | (x, v, n) :: es, e :: es', i, r, hr, h => by
    simp only [findE] at h
    cases hq : eqPT p k x with
    | none => rw [hq] at h; cases h
    | some b =>
      rw [hq] at h
      have hs := eqPT_sound (P := P) (W := W) 20 10000 (by omega) hp hq hk hr.1
      have hs' : (Op.equal kt k' e.key).run P W = .ok b W := hs
      simp only [Instr.findAsking, Sem.run_bind, hs', Result.andThen_ok]
      cases b with
      | true => cases h; exact ⟨_, rfl, rfl, hr.2.1⟩
      | false =>
        simp only [Bool.false_eq_true, if_false]
        exact findAsking_sound hp hk hr.2.2.2 h
  | [], _ :: _, _, _, hr, _ => hr.elim
  | _ :: _, [], _, _, hr, _ => hr.elim

theorem findNow_some {u : TypeDesc} {p : PT} (hk : (p = .int ∧ ∃ k, u = .int k) ∨ (p = .bool ∧ u = .bool) ∨ (p = .str ∧ u = .string)) {k k' : Value} (hkr : RelV φ k k') : ∀ {es : List (Value × Value × Nat)} {es' : List MapEntry} {i : Nat} {r : Option (Nat × Value)},
    EntRel φ es es' → findE p k es i = some r → ∃ r', Instr.findNow u k' es' i = some r' ∧ FoundRel φ r r'
  | [], [], i, r, _, h => by cases h; exact ⟨none, rfl, trivial⟩
  | (x, v, n) :: es, e :: es', i, r, hr, h => by
    simp only [findE] at h
    cases hq : eqPT p k x with
    | none => rw [hq] at h; cases h
    | some b =>
      rw [hq] at h
      have hsame : Instr.sameNow u k' e.key = some b := by
        have hx := hr.1
        rcases hk with ⟨rfl, kk, rfl⟩ | ⟨rfl, rfl⟩ | ⟨rfl, rfl⟩
        · cases k <;> cases x <;> simp only [eqPT] at hq <;> first | (cases hq; done) | skip
          have := relV_int hkr; subst this
          have := relV_int hx
          rw [this]
          split at hq
          · rename_i hkk; cases hq; simp [Instr.sameNow, hkk]
          · cases hq
        · cases k <;> cases x <;> simp only [eqPT] at hq <;> first | (cases hq; done) | skip
          have := relV_bool hkr; subst this
          have := relV_bool hx
          rw [this]
          cases hq; rfl
        · cases k <;> cases x <;> simp only [eqPT] at hq <;> first | (cases hq; done) | skip
          have := relV_str hkr; subst this
          have := relV_str hx
          rw [this]
          cases hq; rfl
      simp only [Instr.findNow, hsame]
      cases b with
      | true => cases h; exact ⟨_, rfl, rfl, hr.2.1⟩
      | false => exact findNow_some hk hkr hr.2.2.2 h
  | [], _ :: _, _, _, hr, _ => hr.elim
  | _ :: _, [], _, _, hr, _ => hr.elim

theorem findKey_sound {kt : TypeId} {p : PT} (hp : ptOf P 20 kt = some p) {k k' : Value} (hkr : RelV φ k k') {es : List (Value × Value × Nat)} {es' : List MapEntry} {r : Option (Nat × Value)} (hr : EntRel φ es es') (h : findE p k es 0 = some r) :
    ∃ r', (Instr.findKey kt k' es').run P W = .ok r' W ∧ FoundRel φ r r' := by
  obtain ⟨u, hu, hkind⟩ := ptOf_kind hp
  simp only [Instr.findKey, Sem.run_bind, run_un hu, Result.andThen_ok]
  by_cases h3 : (p = .int ∧ ∃ k, u = .int k) ∨ (p = .bool ∧ u = .bool) ∨ (p = .str ∧ u = .string)
  · obtain ⟨r', g1, g2⟩ := findNow_some h3 hkr hr h
    exact ⟨r', by rw [g1]; rfl, g2⟩
  · have hst : ∃ fs, u = .struct fs := by
      rcases hkind with g | g | g | ⟨_, g⟩
      · exact absurd (.inl g) h3
      · exact absurd (.inr (.inl g)) h3
      · exact absurd (.inr (.inr g)) h3
      · exact g
    obtain ⟨fs, rfl⟩ := hst
    cases es' with
    | nil =>
      cases es with
      | nil => cases h; exact ⟨none, rfl, trivial⟩
      | cons x es => exact hr.elim
    | cons e es' =>
      have hn : Instr.findNow (.struct fs) k' (e :: es') 0 = none := by
        simp [Instr.findNow, Instr.sameNow]
      rw [hn]
      exact findAsking_sound hp hkr hr h

theorem getMap {c : Nat} {l : Loc} {es : List (Value × Value × Nat)} {ck : Nat} (s : Sim B W0 φ H.get? W) (hl : φ c = some l) (hg : H.get? c = some (.map es ck)) :
    ∃ es', W.heap[l.b]? = some (.map es' ck) ∧ EntRel φ es es'.toList ∧ (getObj l.b).run P W = .ok (.map es' ck) W := by
  obtain ⟨h1, h2, h3, es', h4, h5⟩ := s.obj c l _ hl hg
  exact ⟨es', h4, h5, by simp [getObj, Sem.run, h4]⟩

theorem EntRel.length {φ : Emb} : ∀ {es : List (Value × Value × Nat)} {es' : List MapEntry}, EntRel φ es es' → es.length = es'.length
  | [], [], _ => rfl
  | (k, v, n) :: es, e :: es', h => by simp [EntRel.length h.2.2.2]
  | [], _ :: _, h => h.elim
  | _ :: _, [], h => h.elim

theorem prim_look {t kt e : TypeId} {p : PT} {z x x' k k' : Value} {ok : Bool} (s : Sim B W0 φ H.get? W) (ht : P.underlying t = some (.map kt e)) (hp : ptOf P 20 kt = some p) (hz : zeroOf P e = some z) (hx : RelV φ x x') (hk : RelV φ k k')
    (hks : (eqPT p k k).isSome = true)
    (h : (match (generalizing := false) x with
      | .map none => some (if ok then Value.tuple #[z, .bool false] else z, H)
      | .map (some c) => (match H.get? c with
        | some (.map es _) => (match findE p k es 0 with
          | some (some (_, v)) => some (if ok then .tuple #[v, .bool true] else v, H)
          | some none => some (if ok then .tuple #[z, .bool false] else z, H)
          | none => none)
        | _ => none)
      | _ => none) = some (v, H')) :
    Prim B W0 φ H W ((do pure (Next.value (← Instr.lookup t x' k' ok)) : Sem Next).run P W) v H' := by
  obtain ⟨hr, hpz⟩ := run_zv (W := W) hz
  have rel2 : ∀ {a a' : Value} (c : Bool), RelV φ a a' → RelV φ (if ok then .tuple #[a, .bool c] else a) (if ok then .tuple #[a', .bool c] else a') := fun c hv0 => by
    clear h
    cases ok
    · exact hv0
    · exact relV_tuple_mk (RelL.cons hv0 (RelL.cons (.bool c) .nil))
  have hck : ∀ em, (Instr.checkKey em 10000 kt k').run P W = .ok () W := fun em => checkKey_sound em 20 10000 (by omega) hp hks hk
  cases x with
  | map r =>
    cases r with
    | none =>
      have := relV_nilm hx; subst this
      simp only [Option.some.injEq, Prod.mk.injEq] at h
      obtain ⟨rfl, rfl⟩ := h
      obtain ⟨r', g1, g2⟩ := findKey_sound (P := P) (W := W) hp hk (es := []) (es' := []) trivial (r := none) rfl
      cases r' with
      | some q => exact g2.elim
      | none =>
        refine Prim.pure s ?_ (rel2 false (.plain hpz))
        simp only [Instr.lookup, Sem.run_bind, run_un ht, Result.andThen_ok, Sem.run_pure, hck, g1, hr]
    | some c =>
      obtain ⟨l, hl, hb, rfl⟩ := relV_map hx
      simp only at h
      split at h
      · rename_i es ck hg
        obtain ⟨es', h4, h5, h6⟩ := getMap (P := P) s hl hg
        cases hf : findE p k es 0 with
        | none => rw [hf] at h; cases h
        | some r =>
          rw [hf] at h
          obtain ⟨r', g1, g2⟩ := findKey_sound (P := P) (W := W) hp hk h5 hf
          cases r with
          | none =>
            simp only [Option.some.injEq, Prod.mk.injEq] at h
            obtain ⟨rfl, rfl⟩ := h
            cases r' with
            | some q => exact g2.elim
            | none =>
              refine Prim.pure s ?_ (rel2 false (.plain hpz))
              simp only [Instr.lookup, Sem.run_bind, run_un ht, h6, Result.andThen_ok, Sem.run_pure, hck, g1, hr]
          | some q =>
            obtain ⟨i, u⟩ := q
            simp only [Option.some.injEq, Prod.mk.injEq] at h
            obtain ⟨rfl, rfl⟩ := h
            cases r' with
            | none => exact g2.elim
            | some q' =>
              obtain ⟨j, u'⟩ := q'
              refine Prim.pure s ?_ (rel2 true g2.2)
              simp only [Instr.lookup, Sem.run_bind, run_un ht, h6, Result.andThen_ok, Sem.run_pure, hck, g1]
      · cases h
  | _ => simp at h


theorem beqL_sound {n : Nat} (h : ∀ a b, beqV n a b = true → a = b) : ∀ aS bs, beqL n aS bs = true → aS = bs
  | [], [], _ => rfl
  | a :: aS, b :: bs, g => by
    simp only [beqL, Bool.and_eq_true] at g
    rw [h a b g.1, beqL_sound h aS bs g.2]
  | [], _ :: _, g => by simp [beqL] at g
  | _ :: _, [], g => by simp [beqL] at g
theorem bytes_eq {a b : ByteArray} (h : (a == b) = true) : a = b := by
  rw [beq_toListBytes] at h
  simp only [beq_iff_eq, ByteArray.toList_eq] at h
  exact ByteArray.ext (Array.ext' h)
theorem bytes_refl (a : ByteArray) : (a == a) = true := by rw [beq_toListBytes]; simp
theorem beqV_sound : ∀ (n : Nat) (a b : Value), beqV n a b = true → a = b
  | 0, a, b, h => by simp [beqV] at h
  | n + 1, .bool a, b, h => by cases b <;> simp [beqV] at h; rw [h]
  | n + 1, .int k a, b, h => by cases b <;> simp [beqV] at h; rw [h.1, h.2]
  | n + 1, .string a, b, h => by
    cases b <;> simp only [beqV] at h <;> first | (cases h; done) | skip
    rw [bytes_eq h]
  | n + 1, .pointer a, b, h => by cases b <;> simp [beqV] at h; rw [h]
  | n + 1, .slice a i j, b, h => by cases b <;> simp [beqV] at h; rw [h.1.1, h.1.2, h.2]
  | n + 1, .map a, b, h => by cases b <;> simp [beqV] at h; rw [h]
  | n + 1, .nilFunc, b, h => by cases b <;> simp [beqV] at h; rfl
  | n + 1, .nilIface, b, h => by cases b <;> simp [beqV] at h; rfl
  | n + 1, .iface t v, b, h => by
    cases b <;> simp [beqV] at h
    rw [h.1, beqV_sound n _ _ h.2]
  | n + 1, .agg a, b, h => by
    cases b <;> simp only [beqV] at h <;> first | (cases h; done) | skip
    rename_i ys
    have := beqL_sound (beqV_sound n) _ _ h
    rw [show a = ys from Array.ext' this]
  | n + 1, .float _ _, b, h => by cases b <;> simp [beqV] at h
  | n + 1, .complex _ _ _, b, h => by cases b <;> simp [beqV] at h
  | n + 1, .chan _, b, h => by cases b <;> simp [beqV] at h
  | n + 1, .func _ _ _, b, h => by cases b <;> simp [beqV] at h
  | n + 1, .tuple _, b, h => by cases b <;> simp [beqV] at h

theorem rel_plain1 {v v' : Value} (h : plain1 v = true) (r : RelV φ v v') : v' = v := by
  cases r <;> first | rfl | (simp [plain1, unk] at h)
theorem rel_plain {v v' : Value} (h : plainV v = true) (r : RelV φ v v') : v' = v := by
  cases v with
  | agg cs =>
    obtain ⟨b, rfl, ho, hr⟩ := relV_agg_left r
    congr 1
    apply Array.ext'
    apply List.ext_getElem?
    intro i
    have hall : cs.toList.all plain1 = true := h
    rw [List.all_eq_true] at hall
    cases hc : cs.toList[i]? with
    | none =>
      rw [List.getElem?_eq_none_iff] at hc ⊢
      rw [← hr.1]; exact hc
    | some v =>
      obtain ⟨w, p, q⟩ := hr.get hc
      rw [p, rel_plain1 (hall v (List.mem_of_getElem? hc)) q]
  | _ => exact rel_plain1 h r
theorem plain1_of_key1 {v : Value} (h : key1 v = true) : plain1 v = true := by cases v <;> simp_all [key1, plain1]
theorem plainV_of_keyV {v : Value} (h : keyV v = true) : plainV v = true := by
  cases v with
  | agg cs =>
    have h' : cs.toList.all key1 = true := h
    show cs.toList.all plain1 = true
    rw [List.all_eq_true] at *
    exact fun v hv => plain1_of_key1 (h' v hv)
  | _ => first | (cases h; done) | rfl
theorem sameBits_key1 (n : Nat) {v : Value} (h : key1 v = true) : Instr.sameBits n v v = true := by
  cases v with
  | bool b => cases n <;> simp [Instr.sameBits]
  | int k m => cases n <;> simp [Instr.sameBits]
  | string b => cases n <;> simp only [Instr.sameBits] <;> exact bytes_refl b
  | _ => simp [key1] at h
theorem sameBits_key {k : Value} (h : keyV k = true) : Instr.sameBits 10000 k k = true := by
  generalize hn : 9999 = n
  have e : 10000 = n + 1 := by omega
  rw [e]
  cases k with
  | agg cs =>
    have h' : cs.toList.all key1 = true := h
    simp only [Instr.sameBits, beq_self_eq_true, Bool.true_and]
    rw [List.all_eq_true] at *
    rintro ⟨x, y⟩ hxy
    obtain ⟨i, hi⟩ := List.getElem?_of_mem hxy
    rw [List.getElem?_zip_eq_some] at hi
    have hx : x = y := by have := hi.1.symm.trans hi.2; simpa using this
    subst hx
    exact sameBits_key1 n (h' x (List.mem_of_getElem? hi.1))
  | _ => exact sameBits_key1 _ h

theorem Sim.setMap {c : Nat} {l : Loc} {es es2 : List (Value × Value × Nat)} {ck ck2 : Nat} {es2' : Array MapEntry} (s : Sim B W0 φ H.get? W) (hl : φ c = some l) (hg : H.get? c = some (.map es ck)) (he : EntRel φ es2 es2'.toList) :
    Sim B W0 φ (H.set c (.map es2 ck2)).get? { W with heap := W.heap.setIfInBounds l.b (.map es2' ck2) } ∧ Ext φ φ H (H.set c (.map es2 ck2)) W { W with heap := W.heap.setIfInBounds l.b (.map es2' ck2) } := by
  have hcd := Heap.get?_lt hg
  obtain ⟨h1, h2, h3, es', h4, h5⟩ := s.obj c l _ hl hg
  have hlt := s.lt c l hl
  have hother : ∀ k, k ≠ l.b → (W.heap.setIfInBounds l.b (.map es2' ck2))[k]? = W.heap[k]? := fun k hk => by
    rw [Array.getElem?_setIfInBounds_ne (by omega)]
  refine ⟨⟨?_, by simp; exact s.inB, fun c' l' h => by simp; exact s.lt c' l' h, ?_, ?_⟩,
    ⟨fun _ _ h => h, fun c' l' h h' => (by rw [h] at h'; cases h'), fun c' l' h h' => (by rw [h] at h'; cases h'), ?_, ?_, ?_, by simp, Nat.le_refl _⟩⟩
  · exact s.below.trans ⟨rfl, rfl, rfl, by simp, fun k hk => hother k (by omega)⟩
  · intro c' l' o' h h'
    by_cases hc : c' = c
    · subst hc
      rw [hl] at h; cases h
      rw [Heap.get?_set_same hg] at h'; cases h'
      exact ⟨h1, h2, h3, es2', by simp [hlt], he⟩
    · rw [Heap.get?_set_other hcd hc] at h'
      by_cases hb : l'.b = l.b
      · have old := s.obj c' l' o' h h'
        cases o' with
        | dead => trivial
        | ro cs' => have := old.1; omega
        | rw cs' => exact absurd (s.inj c' c l' l _ _ h hl h' hg rfl rfl hb) hc
        | loose e cs' => exact absurd (s.inj c' c l' l _ _ h hl h' hg rfl rfl hb) hc
        | map es k => exact absurd (s.inj c' c l' l _ _ h hl h' hg rfl rfl hb) hc
      · exact (s.obj c' l' o' h h').keep (fun _ _ h => h) (hother _ hb)
  · intro c1 c2 l1 l2 o1 o2 g1 g2 p1 p2 e1 e2 e
    have back : ∀ d od, (H.set c (.map es2 ck2)).get? d = some od → od.excl = true → ∃ od', H.get? d = some od' ∧ od'.excl = true := by
      intro d od hd he
      by_cases hdc : d = c
      · subst hdc; exact ⟨_, hg, rfl⟩
      · rw [Heap.get?_set_other hcd hdc] at hd; exact ⟨od, hd, he⟩
    obtain ⟨o1', q1, r1⟩ := back c1 o1 p1 e1
    obtain ⟨o2', q2, r2⟩ := back c2 o2 p2 e2
    exact s.inj c1 c2 l1 l2 o1' o2' g1 g2 q1 q2 r1 r2 e
  · intro b _ hno
    exact hother b fun e => hno c l _ hl hg rfl e.symm
  · intro c' _ hn
    exact Heap.get?_set_other hcd fun e => by subst e; rw [hl] at hn; cases hn
  · intro c' o' _ h e
    by_cases hc : c' = c
    · subst hc; exact ⟨_, hg, rfl⟩
    · rw [Heap.get?_set_other hcd hc] at h; exact ⟨o', h, e⟩

theorem EntRel.get {φ : Emb} : ∀ {es : List (Value × Value × Nat)} {es' : List MapEntry} {i : Nat} {x v : Value} {n : Nat}, EntRel φ es es' → es[i]? = some (x, v, n) → ∃ e, es'[i]? = some e ∧ RelV φ x e.key ∧ RelV φ v e.val ∧ e.born = n
  | (k, v, n) :: es, e :: es', 0, x, w, m, h, g => by simp at g; obtain ⟨rfl, rfl, rfl⟩ := g; exact ⟨e, rfl, h.1, h.2.1, h.2.2.1⟩
  | (k, v, n) :: es, e :: es', i + 1, x, w, m, h, g => by simp at g; simpa using EntRel.get h.2.2.2 g
  | [], [], _, _, _, _, _, g => by simp at g
  | [], _ :: _, _, _, _, _, h, _ => h.elim
  | _ :: _, [], _, _, _, _, h, _ => h.elim
theorem EntRel.modify {φ : Emb} {u u' : Value} (hu : RelV φ u u') (key : Value) : ∀ {es : List (Value × Value × Nat)} {es' : List MapEntry} {i : Nat}, EntRel φ es es' → (∀ e, es'[i]? = some e → key = e.key) →
    EntRel φ (es.modify i fun e => (e.1, u, e.2.2)) (es'.modify i fun e => { e with key := key, val := u' })
  | [], [], i, _, _ => by simp [EntRel]
  | (k, v, n) :: es, e :: es', 0, h, hk => by
    simp only [List.modify_zero_cons]
    have := hk e rfl
    subst this
    exact ⟨h.1, hu, h.2.2.1, h.2.2.2⟩
  | (k, v, n) :: es, e :: es', i + 1, h, hk => by
    simp only [List.modify_succ_cons]
    exact ⟨h.1, h.2.1, h.2.2.1, EntRel.modify hu key h.2.2.2 (fun e' he => hk e' (by simpa using he))⟩
  | [], _ :: _, _, h, _ => h.elim
  | _ :: _, [], _, h, _ => h.elim
theorem EntRel.snoc {φ : Emb} {k k' v v' : Value} {n : Nat} (hk : RelV φ k k') (hv : RelV φ v v') : ∀ {es : List (Value × Value × Nat)} {es' : List MapEntry}, EntRel φ es es' → EntRel φ (es ++ [(k, v, n)]) (es' ++ [{ key := k', val := v', born := n }])
  | [], [], _ => ⟨hk, hv, rfl, trivial⟩
  | (a, b, m) :: es, e :: es', h => ⟨h.1, h.2.1, h.2.2.1, EntRel.snoc hk hv h.2.2.2⟩
  | [], _ :: _, h => h.elim
  | _ :: _, [], h => h.elim

theorem prim_mset {t kt e : TypeId} {p : PT} {c ck : Nat} {x' k k' u u' : Value} {es : List (Value × Value × Nat)} (s : Sim B W0 φ H.get? W) (ht : P.underlying t = some (.map kt e)) (hp : ptOf P 20 kt = some p)
    (hx : RelV φ (.map (some c)) x') (hk : RelV φ k k') (hu : RelV φ u u') (hks : (eqPT p k k).isSome = true) (hg : H.get? c = some (.map es ck))
    (h : (match findE p k es 0 with
          | some (some (i, _)) => (match es[i]? with
            | some (x, _, _) => if keyV x && beqV 9 x k then some (undef, H.set c (.map (es.modify i fun e => (e.1, u, e.2.2)) ck)) else none
            | none => none)
          | some none => some (undef, H.set c (.map (es ++ [(k, u, ck)]) (ck + 1)))
          | none => none) = some (v, H')) :
    Prim B W0 φ H W ((do Instr.mapUpdate t x' k' u'; pure Next.skip : Sem Next).run P W) v H' := by
  obtain ⟨l, hl, hb, rfl⟩ := relV_map hx
  obtain ⟨es', h4, h5, h6⟩ := getMap (P := P) s hl hg
  have hck : (Instr.checkKey false 10000 kt k').run P W = .ok () W := checkKey_sound false 20 10000 (by omega) hp hks hk
  have hset : ∀ o, (setObj l.b o).run P W = .ok () { W with heap := W.heap.setIfInBounds l.b o } := fun o => by simp [setObj, Sem.run, h4]
  cases hf : findE p k es 0 with
  | none => rw [hf] at h; cases h
  | some r =>
    rw [hf] at h
    obtain ⟨r', g1, g2⟩ := findKey_sound (P := P) (W := W) hp hk h5 hf
    cases r with
    | none =>
      simp only [Option.some.injEq, Prod.mk.injEq] at h
      obtain ⟨rfl, rfl⟩ := h
      cases r' with
      | some q => exact g2.elim
      | none =>
        obtain ⟨s', x'⟩ := s.setMap (es2 := es ++ [(k, u, ck)]) (ck2 := ck + 1) (es2' := es'.push { key := k', val := u', born := ck }) hl hg (by simpa using EntRel.snoc hk hu h5)
        refine ⟨φ, undef, _, .inr ⟨?_, rfl⟩, relV_undef, s', x'⟩
        simp only [Instr.mapUpdate, Sem.run_bind, run_un ht, Result.andThen_ok, h6, hck, g1, hset, Sem.run_pure]
    | some q =>
      obtain ⟨i, w⟩ := q
      simp only at h
      cases hi : es[i]? with
      | none => rw [hi] at h; cases h
      | some q =>
        obtain ⟨x, w0, m⟩ := q
        rw [hi] at h
        simp only at h
        split at h
        · rename_i hcond
          simp only [Option.some.injEq, Prod.mk.injEq] at h
          obtain ⟨rfl, rfl⟩ := h
          simp only [Bool.and_eq_true] at hcond
          have hxk := beqV_sound _ _ _ hcond.2
          subst hxk
          cases r' with
          | none => exact g2.elim
          | some q' =>
            obtain ⟨j, w'⟩ := q'
            obtain ⟨rfl, hw⟩ := g2
            obtain ⟨en, he1, he2, he3, he4⟩ := EntRel.get h5 hi
            have hp1 := plainV_of_keyV hcond.1
            have hk1 := rel_plain hp1 hk
            have hk2 := rel_plain hp1 he2
            subst hk1
            have hkeep : (Instr.keyThatStays (((es'[i]?).map (·.key)).getD k') k').run P W = .ok k' W := by
              have : es'[i]? = some en := by simpa using he1
              rw [this]
              simp only [Option.map_some, Option.getD_some, hk2, Instr.keyThatStays, sameBits_key hcond.1, if_true, Sem.run_pure]
            obtain ⟨s', x'⟩ := s.setMap (es2 := es.modify i fun e => (e.1, u, e.2.2)) (ck2 := ck) (es2' := es'.modify i fun e => { e with key := k', val := u' }) hl hg (by
              rw [Array.toList_modify]
              exact EntRel.modify hu k' h5 (fun e he => by rw [he1] at he; cases he; exact hk2.symm))
            refine ⟨φ, undef, _, .inr ⟨?_, rfl⟩, relV_undef, s', x'⟩
            simp only [Instr.mapUpdate, Sem.run_bind, run_un ht, Result.andThen_ok, h6, hck, g1, hkeep, hset, Sem.run_pure]
        · cases h

end
end Go.Cm
