/- The canonical machine: rules to walk through its code. Conditions: none. -/
import Derived.Test.YtboioafflppnfaaCm21
namespace Go.Cm
open Go.RowKit
set_option linter.unusedVariables false
set_option linter.unusedSimpArgs false

def Fr.look : Fr → Nat → Option Value
  | [], _ => none
  | (t, v) :: r, s => match Nat.beq s t with | true => some v | false => Fr.look r s
def evO (f : Fr) : Operand → Option Value
  | .tmp t => f.look t
  | .const v => some v
  | .global g => some (.pointer (some ⟨g, 0, none⟩))
  | .func g => some (.func (.func g) #[] #[])
def evL (f : Fr) : List Operand → Option (List Value)
  | [] => some []
  | x :: xs => match evO f x, evL f xs with | some v, some vs => some (v :: vs) | _, _ => none
def keepO (f : Fr) : List Nat → Option Fr
  | [] => some []
  | t :: l => match f.look t, keepO f l with | some v, some r => some ((t, v) :: r) | none, some r => some ((t, unk) :: r) | _, none => none

theorem Fr.look_get {f : Fr} {t : Nat} {v : Value} (h : f.look t = some v) : f.get t = v := by
  induction f with
  | nil => cases h
  | cons p r ih =>
    obtain ⟨s, w⟩ := p
    simp only [Fr.look] at h
    simp only [Fr.get]
    split at h
    · rename_i hb
      rw [if_pos (Nat.eq_of_beq_eq_true hb)]
      cases h; rfl
    · rename_i hb
      rw [if_neg (Nat.ne_of_beq_eq_false hb)]
      exact ih h
theorem Fr.look_none {f : Fr} {t : Nat} (h : f.look t = none) : f.get t = unk := by
  induction f with
  | nil => rfl
  | cons p r ih =>
    obtain ⟨s, w⟩ := p
    simp only [Fr.look] at h
    simp only [Fr.get]
    split at h
    · cases h
    · rename_i hb
      rw [if_neg (Nat.ne_of_beq_eq_false hb)]
      exact ih h
theorem evO_ok {f : Fr} {x : Operand} {v : Value} (h : evO f x = some v) : f.ev x = v := by
  cases x with
  | tmp t => exact Fr.look_get h
  | const c => cases h; rfl
  | global g => cases h; rfl
  | func g => cases h; rfl
theorem evL_ok {f : Fr} : ∀ {xs : List Operand} {vs : List Value}, evL f xs = some vs → xs.map f.ev = vs
  | [], vs, h => by cases h; rfl
  | x :: xs, vs, h => by
    simp only [evL] at h
    split at h
    · rename_i v ws h1 h2
      cases h
      rw [List.map_cons, evO_ok h1, evL_ok h2]
    · cases h
theorem keepO_ok {f : Fr} : ∀ {l : List Nat} {r : Fr}, keepO f l = some r → f.keep l = r
  | [], r, h => by cases h; rfl
  | t :: l, r, h => by
    simp only [keepO] at h
    split at h
    · rename_i v r' h1 h2
      cases h
      rw [Fr.keep, Fr.look_get h1, keepO_ok h2]
    · rename_i r' h1 h2
      cases h
      rw [Fr.keep, Fr.look_none h1, keepO_ok h2]
    · cases h

def resOneL (f : Fr) (h : Heap) : MRes → Option Value
  | .tmp t => f.look t
  | .cell1 t => match f.look t with | some (.pointer (some a)) => h.rd1 a | _ => none
  | .cellN t n => match f.look t with | some (.pointer (some a)) => (match h.rdN a n with | some vs => some (.agg vs.toArray) | none => none) | _ => none
def resAllL (f : Fr) (h : Heap) : List MRes → Option (List Value)
  | [] => some []
  | r :: rs => match resOneL f h r, resAllL f h rs with | some v, some vs => some (v :: vs) | _, _ => none
def resL (rs : List MRes) (f : Fr) (h : Heap) : Option Value :=
  match resAllL f h rs with
  | some [v] => some v
  | some vs => some (.tuple vs.toArray)
  | none => none
theorem resOneL_ok {f : Fr} {h : Heap} {r : MRes} {v : Value} (H : resOneL f h r = some v) : resOne f h r = some v := by
  cases r with
  | tmp t => simp only [resOneL] at H; simp only [resOne, Fr.look_get H]
  | cell1 t =>
    simp only [resOneL] at H
    split at H
    · rename_i a ha; simp only [resOne, Fr.look_get ha, H]
    · cases H
  | cellN t n =>
    simp only [resOneL] at H
    split at H
    · rename_i a ha; simp only [resOne, Fr.look_get ha]; exact H
    · cases H
theorem resAllL_ok {f : Fr} {h : Heap} : ∀ {rs : List MRes} {vs : List Value}, resAllL f h rs = some vs → resAll f h rs = some vs
  | [], vs, H => H
  | r :: rs, vs, H => by
    simp only [resAllL] at H
    split at H
    · rename_i v ws h1 h2
      cases H
      simp only [resAll, resOneL_ok h1, resAllL_ok h2]
    · cases H
theorem resL_ok {rs : List MRes} {f : Fr} {h : Heap} {v : Value} (H : resL rs f h = some v) : resC rs f h = some v := by
  unfold resL at H
  unfold resC
  split at H
  · rename_i u hu; rw [resAllL_ok hu]; exact H
  · rename_i vs hne hu
    rw [resAllL_ok hu]
    cases H
    split
    · rename_i u e; cases e; exact (hne u rfl).elim
    · rename_i e; cases e; rfl
    · rename_i e; cases e
  · cases H

section
variable (M : Prg)

/-- a piece of code is left in a state that satisfies Q -/
def wp (c : MCode) (Q : Ex → Fr → Heap → Prop) (f : Fr) (h : Heap) : Prop := ∃ e f' h', Ev M (.code c f h e f' h') ∧ Q e f' h'
def wpR (live : List Nat) (c : MCode) (Q : Ex → Fr → Heap → Prop) (f : Fr) (h : Heap) : Prop := ∃ e f' h', Ev M (.rounds live c f h e f' h') ∧ Q e f' h'
def wpO (l : List MO) (K : Fr → Heap → Prop) (f : Fr) (h : Heap) : Prop := ∃ trs f' h', Ev M (.ops l f h trs f' h') ∧ K f' h'
/-- with what each did -/
def wpT (l : List MO) (K : List Tr → Fr → Heap → Prop) (f : Fr) (h : Heap) : Prop := ∃ trs f' h', Ev M (.ops l f h trs f' h') ∧ K trs f' h'
/-- a call -/
def Cl (g : FuncId) (args : List Value) (h : Heap) (K : Value → Heap → Prop) : Prop := ∃ v h', Ev M (.call g args h v h') ∧ K v h'

variable {M}

theorem Cl.mono {g : FuncId} {args : List Value} {h : Heap} {K K' : Value → Heap → Prop} (H : Cl M g args h K) (hk : ∀ v h', K v h' → K' v h') : Cl M g args h K' :=
  let ⟨v, h', e, k⟩ := H; ⟨v, h', e, hk v h' k⟩
theorem Cl.of {g : FuncId} {args : List Value} {h h' : Heap} {v : Value} (H : Ev M (.call g args h v h')) : Cl M g args h fun u k => u = v ∧ k = h' := ⟨v, h', H, rfl, rfl⟩
theorem Cl.eq {g : FuncId} {args : List Value} {h h' : Heap} {v : Value} (H : Cl M g args h fun u k => u = v ∧ k = h') : Ev M (.call g args h v h') := by
  obtain ⟨u, k, e, rfl, rfl⟩ := H; exact e

variable {Q : Ex → Fr → Heap → Prop} {K : Fr → Heap → Prop} {f : Fr} {h : Heap}

/-- what is asked behind the first of two -/
def Ex.then (Q1 : Fr → Heap → Prop) (Q : Ex → Fr → Heap → Prop) : Ex → Fr → Heap → Prop
  | .norm, f, h => Q1 f h
  | e, f, h => Q e f h

theorem w_skip (H : Q .norm f h) : wp M .skip Q f h := ⟨_, _, _, .skip, H⟩
theorem w_ret (H : Q .ret f h) : wp M .ret Q f h := ⟨_, _, _, .ret, H⟩
theorem w_exit {i : Nat} (H : Q (.exit i) f h) : wp M (.exit i) Q f h := ⟨_, _, _, .exit, H⟩
theorem w_seq {a b : MCode} (H : wp M a (Ex.then (wp M b Q) Q) f h) : wp M (.seq a b) Q f h := by
  obtain ⟨e, f1, h1, ha, hq⟩ := H
  cases e with
  | norm => obtain ⟨e2, f2, h2, hb, hq2⟩ := hq; exact ⟨e2, f2, h2, .seqN ha hb, hq2⟩
  | exit i => exact ⟨_, f1, h1, .seqX ha (by simp), hq⟩
  | ret => exact ⟨_, f1, h1, .seqX ha (by simp), hq⟩
theorem w_ops {l : List MO} (H : wpO M l (Q .norm) f h) : wp M (.region l []) Q f h := by
  obtain ⟨trs, f1, h1, ho, hq⟩ := H
  exact ⟨_, _, _, .region ho (fun _ hij => by cases hij), hq⟩
theorem w_opsT {l : List MO} {x : List (Nat × Nat)} (H : wpT M l (fun trs f' h' => (∀ ij ∈ x, CrossOK l trs ij) ∧ Q .norm f' h') f h) : wp M (.region l x) Q f h := by
  obtain ⟨trs, f1, h1, ho, hx, hq⟩ := H
  exact ⟨_, _, _, .region ho hx, hq⟩
theorem w_opsS {l : List MO} {b : MCode} (H : wpO M l (wp M b Q) f h) : wp M (.seq (.region l []) b) Q f h := w_seq (w_ops H)
theorem w_cond {c : Operand} {a b : MCode} {t : Bool} (hc : evO f c = some (.bool t)) (ht : t = true → wp M a Q f h) (hf : t = false → wp M b Q f h) : wp M (.cond c a b) Q f h := by
  cases t with
  | true => obtain ⟨e, f1, h1, ha, hq⟩ := ht rfl; exact ⟨e, f1, h1, .condT (evO_ok hc) ha, hq⟩
  | false => obtain ⟨e, f1, h1, ha, hq⟩ := hf rfl; exact ⟨e, f1, h1, .condF (evO_ok hc) ha, hq⟩
theorem w_condT {c : Operand} {a b : MCode} (hc : evO f c = some (.bool true)) (H : wp M a Q f h) : wp M (.cond c a b) Q f h := w_cond hc (fun _ => H) (fun e => by cases e)
theorem w_condF {c : Operand} {a b : MCode} (hc : evO f c = some (.bool false)) (H : wp M b Q f h) : wp M (.cond c a b) Q f h := w_cond hc (fun e => by cases e) (fun _ => H)

def Ex.inB (i : Nat) (Q : Ex → Fr → Heap → Prop) : Ex → Fr → Heap → Prop
  | .exit j, f, h => if j = i then Q .norm f h else Q (.exit j) f h
  | e, f, h => Q e f h
theorem w_block {i : Nat} {b : MCode} (H : wp M b (Ex.inB i Q) f h) : wp M (.block i b) Q f h := by
  obtain ⟨e, f1, h1, hb, hq⟩ := H
  cases e with
  | norm => exact ⟨_, f1, h1, .blockO hb (by simp), hq⟩
  | ret => exact ⟨_, f1, h1, .blockO hb (by simp), hq⟩
  | exit j =>
    simp only [Ex.inB] at hq
    by_cases hj : j = i
    · rw [if_pos hj] at hq; subst hj; exact ⟨_, f1, h1, .blockX hb, hq⟩
    · rw [if_neg hj] at hq; exact ⟨_, f1, h1, .blockO hb (by simpa using hj), hq⟩
theorem w_loop {live : List Nat} {b : MCode} {f' : Fr} (hk : keepO f live = some f') (H : wpR M live b Q f' h) : wp M (.loop live b) Q f h := by
  obtain ⟨e, f1, h1, hr, hq⟩ := H
  refine ⟨e, f1, h1, .loop ?_, hq⟩
  rw [keepO_ok hk]; exact hr
/-- a round; 'again': what is asked at the loop's head -/
def Ex.round (live : List Nat) (again : Fr → Heap → Prop) (Q : Ex → Fr → Heap → Prop) : Ex → Fr → Heap → Prop
  | .norm, f, h => ∃ f', keepO f live = some f' ∧ again f' h
  | e, f, h => Q e f h
theorem w_round {live : List Nat} {b : MCode} (H : wp M b (Ex.round live (wpR M live b Q) Q) f h) : wpR M live b Q f h := by
  obtain ⟨e, f1, h1, hb, hq⟩ := H
  cases e with
  | norm =>
    obtain ⟨f2, hk, e2, f3, h3, hr, hq⟩ := hq
    refine ⟨e2, f3, h3, .again hb ?_, hq⟩
    rw [keepO_ok hk]; exact hr
  | exit i => exact ⟨_, f1, h1, .out hb (by simp), hq⟩
  | ret => exact ⟨_, f1, h1, .out hb (by simp), hq⟩
theorem w_call {g : FuncId} {F : MFun} {args : List Value} {R : Value → Heap → Prop} (hF : M.fn g = some F) (hl : args.length = F.nargs)
    (H : wp M F.body (fun e f h => (e = .norm ∨ e = .ret) ∧ ∃ v, resL F.res f h = some v ∧ R v h) (initF 0 args) h) : Cl M g args h R := by
  obtain ⟨e, f1, h1, hb, he, v, hv, hr⟩ := H
  exact ⟨v, h1, .fcall hF hl hb he (resL_ok hv), hr⟩
theorem wp_mono {c : MCode} {Q' : Ex → Fr → Heap → Prop} (H : wp M c Q f h) (hq : ∀ e f h, Q e f h → Q' e f h) : wp M c Q' f h :=
  let ⟨e, f1, h1, hb, q⟩ := H; ⟨e, f1, h1, hb, hq _ _ _ q⟩

/-! ### operations -/

theorem o_nil (H : K f h) : wpO M [] K f h := ⟨_, _, _, .nil, H⟩
theorem o_op {o : MO} {r : List MO} {v : Value} {h' : Heap} (hw : wantedC f o.guard = some true) (ho : Ev M (.op o.op f h v h')) (H : wpO M r K (f.put o.dst v) h') : wpO M (o :: r) K f h := by
  obtain ⟨trs, f1, h1, he, hk⟩ := H
  exact ⟨_, f1, h1, .run hw ho he, hk⟩
theorem o_pass {t : Nat} {op : MOp} {g : Option (Nat × Bool)} {r : List MO} (hw : wantedC f g = some false) (H : wpO M r K ((t, undef) :: f) h) : wpO M (⟨some t, op, g⟩ :: r) K f h := by
  obtain ⟨trs, f1, h1, he, hk⟩ := H
  exact ⟨_, f1, h1, .pass hw he, hk⟩
theorem o_passN {op : MOp} {g : Option (Nat × Bool)} {r : List MO} (hw : wantedC f g = some false) (H : wpO M r K f h) : wpO M (⟨none, op, g⟩ :: r) K f h := by
  obtain ⟨trs, f1, h1, he, hk⟩ := H
  exact ⟨_, f1, h1, .pass hw he, hk⟩
/-- an operation that is reckoned -/
theorem o_prim {t : Nat} {op : MOp} {g : Option (Nat × Bool)} {r : List MO} {v : Value} {h' : Heap} (hw : wantedC f g = some true) (hc : cop f.ev h op = some (v, h')) (H : wpO M r K ((t, v) :: f) h') : wpO M (⟨some t, op, g⟩ :: r) K f h := o_op hw (.prim hc) H
theorem o_primN {op : MOp} {g : Option (Nat × Bool)} {r : List MO} {v : Value} {h' : Heap} (hw : wantedC f g = some true) (hc : cop f.ev h op = some (v, h')) (H : wpO M r K f h') : wpO M (⟨none, op, g⟩ :: r) K f h := o_op hw (.prim hc) H
theorem o_mv {t : Nat} {x : Operand} {g : Option (Nat × Bool)} {r : List MO} {v : Value} (hw : wantedC f g = some true) (hx : evO f x = some v) (H : wpO M r K ((t, v) :: f) h) : wpO M (⟨some t, .mv x, g⟩ :: r) K f h :=
  o_op hw (.prim (by simp only [cop, evO_ok hx])) H
theorem o_pickT {t : Nat} {c x y : Operand} {g : Option (Nat × Bool)} {r : List MO} {v : Value} (hw : wantedC f g = some true) (hc : evO f c = some (.bool true)) (hx : evO f x = some v) (H : wpO M r K ((t, v) :: f) h) : wpO M (⟨some t, .pick c x y, g⟩ :: r) K f h :=
  o_op hw (.prim (by simp only [cop, evO_ok hx, evO_ok hc, if_true])) H
theorem o_pickF {t : Nat} {c x y : Operand} {g : Option (Nat × Bool)} {r : List MO} {v : Value} (hw : wantedC f g = some true) (hc : evO f c = some (.bool false)) (hx : evO f y = some v) (H : wpO M r K ((t, v) :: f) h) : wpO M (⟨some t, .pick c x y, g⟩ :: r) K f h :=
  o_op hw (.prim (by simp [cop, evO_ok hx, evO_ok hc])) H
theorem o_lenV {t : Nat} {x : Operand} {g : Option (Nat × Bool)} {r : List MO} {a : Option Addr} {len cap : Nat} (hw : wantedC f g = some true) (hx : evO f x = some (.slice a len cap)) (H : wpO M r K ((t, .int .i64 len) :: f) h) : wpO M (⟨some t, .lenV x, g⟩ :: r) K f h :=
  o_op hw (.prim (by simp only [cop, evO_ok hx])) H
theorem o_ixV {t : Nat} {e : Nat} {x i : Operand} {g : Option (Nat × Bool)} {r : List MO} {a : Addr} {len cap : Nat} {k : IntKind} {n : Int} (hw : wantedC f g = some true) (hx : evO f x = some (.slice (some a) len cap)) (hi : evO f i = some (.int k n)) (hb : 0 ≤ n ∧ n < len)
    (H : wpO M r K ((t, .pointer (some (addOff a (n.toNat * e)))) :: f) h) : wpO M (⟨some t, .ixV e x i, g⟩ :: r) K f h :=
  o_op hw (.prim (by simp only [cop, evO_ok hx, evO_ok hi]; rw [if_pos hb])) H
theorem o_load1 {t : Nat} {x : Operand} {g : Option (Nat × Bool)} {r : List MO} {a : Addr} {v : Value} (hw : wantedC f g = some true) (hx : evO f x = some (.pointer (some a))) (hr : h.rd1 a = some v) (H : wpO M r K ((t, v) :: f) h) : wpO M (⟨some t, .load1 x, g⟩ :: r) K f h :=
  o_op hw (.prim (by simp only [cop, evO_ok hx, hr])) H
theorem o_loadN {t : Nat} {n : Nat} {x : Operand} {g : Option (Nat × Bool)} {r : List MO} {a : Addr} {vs : List Value} (hw : wantedC f g = some true) (hx : evO f x = some (.pointer (some a))) (hr : h.rdN a n = some vs) (H : wpO M r K ((t, .agg vs.toArray) :: f) h) : wpO M (⟨some t, .loadN n x, g⟩ :: r) K f h :=
  o_op hw (.prim (by simp only [cop, evO_ok hx, hr])) H
/-- a comparison of numbers, its outcome known ahead -/
theorem o_cmp {t : Nat} {op : BinOp} {x y : Operand} {g : Option (Nat × Bool)} {r : List MO} {k : IntKind} {a b : Int} {c d : Bool} (hw : wantedC f g = some true) (hx : evO f x = some (.int k a)) (hy : evO f y = some (.int k b))
    (hc : arith op (.int k a) (.int k b) = some (.bool c)) (hd : c = d) (H : wpO M r K ((t, .bool d) :: f) h) : wpO M (⟨some t, .ar op x y, g⟩ :: r) K f h :=
  o_op hw (.prim (by simp only [cop, evO_ok hx, evO_ok hy, hc, hd])) H
theorem o_ar {t : Nat} {op : BinOp} {x y : Operand} {g : Option (Nat × Bool)} {r : List MO} {u v w w' : Value} (hw : wantedC f g = some true) (hx : evO f x = some u) (hy : evO f y = some v)
    (hc : arith op u v = some w) (hd : w = w') (H : wpO M r K ((t, w') :: f) h) : wpO M (⟨some t, .ar op x y, g⟩ :: r) K f h :=
  o_op hw (.prim (by simp only [cop, evO_ok hx, evO_ok hy, hc, hd])) H
theorem o_call {t : Nat} {k : FuncId} {xs : List Operand} {g : Option (Nat × Bool)} {r : List MO} {vs : List Value} {R : Value → Heap → Prop} (hw : wantedC f g = some true) (hx : evL f xs = some vs) (hc : Cl M k vs h R)
    (H : ∀ v h', R v h' → wpO M r K ((t, v) :: f) h') : wpO M (⟨some t, .call k xs, g⟩ :: r) K f h := by
  obtain ⟨v, h', he, hr⟩ := hc
  refine o_op (v := v) (h' := h') hw (.opcall ?_) (H v h' hr)
  rw [evL_ok hx]; exact he
theorem o_callN {k : FuncId} {xs : List Operand} {g : Option (Nat × Bool)} {r : List MO} {vs : List Value} {R : Value → Heap → Prop} (hw : wantedC f g = some true) (hx : evL f xs = some vs) (hc : Cl M k vs h R)
    (H : ∀ v h', R v h' → wpO M r K f h') : wpO M (⟨none, .call k xs, g⟩ :: r) K f h := by
  obtain ⟨v, h', he, hr⟩ := hc
  refine o_op (v := v) (h' := h') hw (.opcall ?_) (H v h' hr)
  rw [evL_ok hx]; exact he


/-- operations whose outcome is better told by a rule of their own -/
def isCmp : MOp → Bool
  | .mv _ | .pick .. | .eq .. => true
  | .ar op _ _ => match op with | .eql | .neq | .lss | .leq | .gtr | .geq => true | _ => false
  | _ => false
theorem o_primS {t : Nat} {op : MOp} {g : Option (Nat × Bool)} {r : List MO} {v : Value} {h' : Heap} (hs : isCmp op = false) (hw : wantedC f g = some true) (hc : cop f.ev h op = some (v, h')) (H : wpO M r K ((t, v) :: f) h') : wpO M (⟨some t, op, g⟩ :: r) K f h := o_op hw (.prim hc) H
theorem t_primS {T : List Tr → Fr → Heap → Prop} {t : Nat} {op : MOp} {g : Option (Nat × Bool)} {r : List MO} {v : Value} {h' : Heap} (hs : isCmp op = false) (hw : wantedC f g = some true) (hc : cop f.ev h op = some (v, h')) (H : wpT M r (fun trs => T (⟨true, f, h, h', v⟩ :: trs)) ((t, v) :: f) h') : wpT M (⟨some t, op, g⟩ :: r) T f h := by
  obtain ⟨trs, f1, h1, he, hk⟩ := H
  exact ⟨_, f1, h1, .run (o := ⟨some t, op, g⟩) hw (.prim hc) he, hk⟩
theorem o_eqB {t : Nat} {neg : Bool} {e : EqT} {x y : Operand} {g : Option (Nat × Bool)} {r : List MO} {u v : Value} {b d : Bool} (hw : wantedC f g = some true) (hx : evO f x = some u) (hy : evO f y = some v) (hc : eqVal e u v = some b) (hd : (if neg then !b else b) = d)
    (H : wpO M r K ((t, .bool d) :: f) h) : wpO M (⟨some t, .eq neg e x y, g⟩ :: r) K f h :=
  o_op hw (.prim (by simp only [cop, evO_ok hx, evO_ok hy, hc, hd])) H
/-- a string's comparison and the like: any value that is told -/
theorem o_is {t : Nat} {op : MOp} {g : Option (Nat × Bool)} {r : List MO} {v w : Value} {h' : Heap} (hw : wantedC f g = some true) (hc : cop f.ev h op = some (v, h')) (hv : v = w) (H : wpO M r K ((t, w) :: f) h') : wpO M (⟨some t, op, g⟩ :: r) K f h := by
  subst hv; exact o_op hw (.prim hc) H

/-! ### the same, where what each did is kept -/
section
variable {T : List Tr → Fr → Heap → Prop}
theorem t_nil (H : T [] f h) : wpT M [] T f h := ⟨_, _, _, .nil, H⟩
theorem t_op {o : MO} {r : List MO} {v : Value} {h' : Heap} (hw : wantedC f o.guard = some true) (ho : Ev M (.op o.op f h v h')) (H : wpT M r (fun trs => T (⟨true, f, h, h', v⟩ :: trs)) (f.put o.dst v) h') : wpT M (o :: r) T f h := by
  obtain ⟨trs, f1, h1, he, hk⟩ := H
  exact ⟨_, f1, h1, .run hw ho he, hk⟩
theorem t_pass {t : Nat} {op : MOp} {g : Option (Nat × Bool)} {r : List MO} (hw : wantedC f g = some false) (H : wpT M r (fun trs => T (⟨false, f, h, h, undef⟩ :: trs)) ((t, undef) :: f) h) : wpT M (⟨some t, op, g⟩ :: r) T f h := by
  obtain ⟨trs, f1, h1, he, hk⟩ := H
  exact ⟨_, f1, h1, .pass hw he, hk⟩
theorem t_prim {t : Nat} {op : MOp} {g : Option (Nat × Bool)} {r : List MO} {v : Value} {h' : Heap} (hw : wantedC f g = some true) (hc : cop f.ev h op = some (v, h')) (H : wpT M r (fun trs => T (⟨true, f, h, h', v⟩ :: trs)) ((t, v) :: f) h') : wpT M (⟨some t, op, g⟩ :: r) T f h := t_op hw (.prim hc) H
theorem t_primN {op : MOp} {g : Option (Nat × Bool)} {r : List MO} {v : Value} {h' : Heap} (hw : wantedC f g = some true) (hc : cop f.ev h op = some (v, h')) (H : wpT M r (fun trs => T (⟨true, f, h, h', v⟩ :: trs)) f h') : wpT M (⟨none, op, g⟩ :: r) T f h := t_op hw (.prim hc) H
theorem t_mv {t : Nat} {x : Operand} {g : Option (Nat × Bool)} {r : List MO} {v : Value} (hw : wantedC f g = some true) (hx : evO f x = some v) (H : wpT M r (fun trs => T (⟨true, f, h, h, v⟩ :: trs)) ((t, v) :: f) h) : wpT M (⟨some t, .mv x, g⟩ :: r) T f h :=
  t_op hw (.prim (by simp only [cop, evO_ok hx])) H
theorem t_pickT {t : Nat} {c x y : Operand} {g : Option (Nat × Bool)} {r : List MO} {v : Value} (hw : wantedC f g = some true) (hc : evO f c = some (.bool true)) (hx : evO f x = some v) (H : wpT M r (fun trs => T (⟨true, f, h, h, v⟩ :: trs)) ((t, v) :: f) h) : wpT M (⟨some t, .pick c x y, g⟩ :: r) T f h :=
  t_op hw (.prim (by simp only [cop, evO_ok hx, evO_ok hc, if_true])) H
theorem t_pickF {t : Nat} {c x y : Operand} {g : Option (Nat × Bool)} {r : List MO} {v : Value} (hw : wantedC f g = some true) (hc : evO f c = some (.bool false)) (hx : evO f y = some v) (H : wpT M r (fun trs => T (⟨true, f, h, h, v⟩ :: trs)) ((t, v) :: f) h) : wpT M (⟨some t, .pick c x y, g⟩ :: r) T f h :=
  t_op hw (.prim (by simp [cop, evO_ok hx, evO_ok hc])) H
theorem t_load1 {t : Nat} {x : Operand} {g : Option (Nat × Bool)} {r : List MO} {a : Addr} {v : Value} (hw : wantedC f g = some true) (hx : evO f x = some (.pointer (some a))) (hr : h.rd1 a = some v) (H : wpT M r (fun trs => T (⟨true, f, h, h, v⟩ :: trs)) ((t, v) :: f) h) : wpT M (⟨some t, .load1 x, g⟩ :: r) T f h :=
  t_op hw (.prim (by simp only [cop, evO_ok hx, hr])) H
theorem t_loadN {t : Nat} {n : Nat} {x : Operand} {g : Option (Nat × Bool)} {r : List MO} {a : Addr} {vs : List Value} (hw : wantedC f g = some true) (hx : evO f x = some (.pointer (some a))) (hr : h.rdN a n = some vs) (H : wpT M r (fun trs => T (⟨true, f, h, h, .agg vs.toArray⟩ :: trs)) ((t, .agg vs.toArray) :: f) h) : wpT M (⟨some t, .loadN n x, g⟩ :: r) T f h :=
  t_op hw (.prim (by simp only [cop, evO_ok hx, hr])) H
theorem t_ar {t : Nat} {op : BinOp} {x y : Operand} {g : Option (Nat × Bool)} {r : List MO} {u v w w' : Value} (hw : wantedC f g = some true) (hx : evO f x = some u) (hy : evO f y = some v)
    (hc : arith op u v = some w) (hd : w = w') (H : wpT M r (fun trs => T (⟨true, f, h, h, w'⟩ :: trs)) ((t, w') :: f) h) : wpT M (⟨some t, .ar op x y, g⟩ :: r) T f h :=
  t_op hw (.prim (by simp only [cop, evO_ok hx, evO_ok hy, hc, hd])) H
theorem t_call {t : Nat} {k : FuncId} {xs : List Operand} {g : Option (Nat × Bool)} {r : List MO} {vs : List Value} {R : Value → Heap → Prop} (hw : wantedC f g = some true) (hx : evL f xs = some vs) (hc : Cl M k vs h R)
    (H : ∀ v h', R v h' → wpT M r (fun trs => T (⟨true, f, h, h', v⟩ :: trs)) ((t, v) :: f) h') : wpT M (⟨some t, .call k xs, g⟩ :: r) T f h := by
  obtain ⟨v, h', he, hr⟩ := hc
  refine t_op (v := v) (h' := h') hw (.opcall ?_) (H v h' hr)
  rw [evL_ok hx]; exact he
end

/-! ### memory -/
theorem Heap.get?_push {h : Heap} {o : CObj} {c : Nat} : (h.push o).get? c = if c = h.n then some o else h.get? c := by
  by_cases hc : c = h.n
  · rw [if_pos hc, hc]; exact Heap.get?_push_new
  · rw [if_neg hc]
    by_cases hl : c < h.n
    · exact Heap.get?_push_old hl
    · have h1 : (h.push o).get? c = none := by
        cases hg : (h.push o).get? c with
        | none => rfl
        | some x => have := Heap.get?_lt hg; simp [Heap.push] at this; omega
      have h2 : h.get? c = none := by
        cases hg : h.get? c with
        | none => rfl
        | some x => exact absurd (Heap.get?_lt hg) hl
      rw [h1, h2]
theorem Heap.push_n {h : Heap} {o : CObj} : (h.push o).n = h.n + 1 := rfl
theorem Heap.set_n {h : Heap} {o : CObj} {c : Nat} : (h.set c o).n = h.n := rfl

/-- memory that has only been made longer -/
def Le (h h' : Heap) : Prop := h.n ≤ h'.n ∧ ∀ c, c < h.n → h'.get? c = h.get? c
theorem Le.refl {h : Heap} : Le h h := ⟨Nat.le_refl _, fun _ _ => rfl⟩
theorem Le.trans {a b c : Heap} (h1 : Le a b) (h2 : Le b c) : Le a c := ⟨Nat.le_trans h1.1 h2.1, fun k hk => (h2.2 k (Nat.lt_of_lt_of_le hk h1.1)).trans (h1.2 k hk)⟩
theorem Le.push {h : Heap} {o : CObj} : Le h (h.push o) := ⟨by simp [Heap.push], fun c hc => Heap.get?_push_old hc⟩
theorem Le.get {h h' : Heap} (l : Le h h') {c : Nat} {o : CObj} (ho : h.get? c = some o) : h'.get? c = some o := by rw [l.2 c (Heap.get?_lt ho)]; exact ho
theorem Le.cells {h h' : Heap} (l : Le h h') {c : Nat} {cs : List Value} (hc : h.cells c = some cs) : h'.cells c = some cs := by
  unfold Heap.cells at hc ⊢
  cases hg : h.get? c with
  | none => rw [hg] at hc; cases hc
  | some o => rw [l.get hg]; rw [hg] at hc; exact hc
theorem Le.rd1 {h h' : Heap} (l : Le h h') {a : Addr} {v : Value} (hr : h.rd1 a = some v) : h'.rd1 a = some v := by
  unfold Heap.rd1 at hr ⊢
  split at hr
  · cases hr
  · rename_i hs
    rw [if_neg hs]
    split at hr
    · rename_i cs hc; rw [l.cells hc]; exact hr
    · cases hr
theorem Le.rdN {h h' : Heap} (l : Le h h') {a : Addr} {n : Nat} {vs : List Value} (hr : h.rdN a n = some vs) : h'.rdN a n = some vs := by
  unfold Heap.rdN at hr ⊢
  split at hr
  · cases hr
  · rename_i hs
    rw [if_neg hs]
    split at hr
    · rename_i cs hc; rw [l.cells hc]; exact hr
    · cases hr
theorem Heap.cells_push {h : Heap} {cs : List Value} : (h.push (.rw cs)).cells h.n = some cs := by unfold Heap.cells; rw [Heap.get?_push_new]
theorem Heap.rdN_all {h : Heap} {c : Nat} {cs : List Value} (hc : h.cells c = some cs) : h.rdN ⟨c, 0, none⟩ cs.length = some cs := by
  unfold Heap.rdN
  simp [hc]
theorem Heap.rd1_at {h : Heap} {c o : Nat} {cs : List Value} (hc : h.cells c = some cs) : h.rd1 ⟨c, o, none⟩ = cs[o]? := by
  unfold Heap.rd1
  simp [hc]
theorem Heap.cells_of {h : Heap} {c : Nat} {cs : List Value} (hg : h.get? c = some (.rw cs)) : h.cells c = some cs := by unfold Heap.cells; rw [hg]

end
end Go.Cm
