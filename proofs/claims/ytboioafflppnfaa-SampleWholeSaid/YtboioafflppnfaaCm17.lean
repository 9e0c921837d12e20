/- The canonical machine: the evaluator's answers are answers; the door from an answer to the model's call. Conditions: none. -/
import Derived.Test.YtboioafflppnfaaCm16
namespace Go.Cm
open Go.RowKit
set_option linter.unusedVariables false
set_option linter.unusedSimpArgs false

section
variable {M : Prg}

theorem opC_ev {call : CallF} (hcall : ∀ g args h v h', call g args h = some (v, h') → Ev M (.call g args h v h')) {f : Fr} {h h' : Heap} {o : MOp} {v : Value} (hc : opC call f h o = some (v, h')) : Ev M (.op o f h v h') := by
  cases o <;> first
    | exact .opcall (hcall _ _ _ _ _ hc)
    | exact .prim hc
    | skip
  rename_i x args
  simp only [opC] at hc
  split at hc
  · rename_i g first caps hx
    exact .opcallV hx (hcall _ _ _ _ _ hc)
  · cases hc

theorem runOps_ev {call : CallF} (hcall : ∀ g args h v h', call g args h = some (v, h') → Ev M (.call g args h v h')) : ∀ {l : List MO} {f : Fr} {h : Heap} {f' : Fr} {h' : Heap}, runOps call l f h = some (f', h') → ∃ trs, Ev M (.ops l f h trs f' h')
  | [], f, h, f', h', hr => by simp only [runOps, Option.some.injEq, Prod.mk.injEq] at hr; obtain ⟨rfl, rfl⟩ := hr; exact ⟨[], .nil⟩
  | o :: r, f, h, f', h', hr => by
    simp only [runOps] at hr
    split at hr
    · rename_i hw
      split at hr
      · rename_i v h1 ho
        obtain ⟨trs, ht⟩ := runOps_ev hcall hr
        exact ⟨_, .run hw (opC_ev hcall ho) ht⟩
      · cases hr
    · rename_i hw
      obtain ⟨trs, ht⟩ := runOps_ev hcall hr
      exact ⟨_, .pass hw ht⟩
    · cases hr

theorem runT_ev {call : CallF} (hcall : ∀ g args h v h', call g args h = some (v, h') → Ev M (.call g args h v h')) : ∀ {l : List MO} {f : Fr} {h : Heap} {trs : List Tr} {f' : Fr} {h' : Heap}, runT call l f h = some (trs, f', h') → Ev M (.ops l f h trs f' h')
  | [], f, h, trs, f', h', hr => by simp only [runT, Option.some.injEq, Prod.mk.injEq] at hr; obtain ⟨rfl, rfl, rfl⟩ := hr; exact .nil
  | o :: r, f, h, trs, f', h', hr => by
    simp only [runT] at hr
    split at hr
    · rename_i hw
      split at hr
      · rename_i v h1 ho
        split at hr
        · rename_i t2 f2 h2 hr2
          simp only [Option.some.injEq, Prod.mk.injEq] at hr
          obtain ⟨rfl, rfl, rfl⟩ := hr
          exact .run hw (opC_ev hcall ho) (runT_ev hcall hr2)
        · cases hr
      · cases hr
    · rename_i hw
      split at hr
      · rename_i t2 f2 h2 hr2
        simp only [Option.some.injEq, Prod.mk.injEq] at hr
        obtain ⟨rfl, rfl, rfl⟩ := hr
        exact .pass hw (runT_ev hcall hr2)
      · cases hr
    · cases hr

theorem crossB_ok {l : List MO} {trs : List Tr} {ij : Nat × Nat} (h : crossB l trs ij = true) : CrossOK l trs ij := by
  intro o ti tj h1 h2 h3 r1 r2
  unfold crossB at h
  rw [h1, h2, h3] at h
  simp only [r1, r2, Bool.and_self, if_true] at h
  split at h
  · rename_i v hv
    rw [hv, beqV_sound _ _ _ h]
  · cases h

theorem iter_ev {b : MCode} {body : Fr → Heap → Option (Ex × Fr × Heap)} {live : List Nat} (hb : ∀ f h e f' h', body f h = some (e, f', h') → Ev M (.code b f h e f' h')) :
    ∀ (k : Nat) {f : Fr} {h : Heap} {e : Ex} {f' : Fr} {h' : Heap}, iter body live k f h = some (e, f', h') → Ev M (.rounds live b f h e f' h')
  | 0, f, h, e, f', h', hi => by cases hi
  | k + 1, f, h, e, f', h', hi => by
    simp only [iter] at hi
    split at hi
    · rename_i f1 h1 hb1
      exact .again (hb _ _ _ _ _ hb1) (iter_ev hb k hi)
    · rename_i hne
      refine .out (hb _ _ _ _ _ hi) fun e1 => ?_
      subst e1
      exact hne _ _ hi

theorem code_ev {call : CallF} (hcall : ∀ g args h v h', call g args h = some (v, h') → Ev M (.call g args h v h')) {n : Nat} : ∀ {c : MCode} {f : Fr} {h : Heap} {e : Ex} {f' : Fr} {h' : Heap}, evalCode call n c f h = some (e, f', h') → Ev M (.code c f h e f' h')
  | .skip, f, h, e, f', h', hr => by simp only [evalCode, Option.some.injEq, Prod.mk.injEq] at hr; obtain ⟨rfl, rfl, rfl⟩ := hr; exact .skip
  | .region l [], f, h, e, f', h', hr => by
    simp only [evalCode] at hr
    split at hr
    · rename_i f2 h2 hr2
      simp only [Option.some.injEq, Prod.mk.injEq] at hr
      obtain ⟨rfl, rfl, rfl⟩ := hr
      obtain ⟨trs, ht⟩ := runOps_ev hcall hr2
      exact .region ht (fun ij hij => by cases hij)
    · cases hr
  | .region l (x :: xs), f, h, e, f', h', hr => by
    simp only [evalCode] at hr
    split at hr
    · rename_i trs f2 h2 hr2
      split at hr
      · rename_i hx
        simp only [Option.some.injEq, Prod.mk.injEq] at hr
        obtain ⟨rfl, rfl, rfl⟩ := hr
        refine .region (runT_ev hcall hr2) fun ij hij => crossB_ok ?_
        rw [List.all_eq_true] at hx
        exact hx ij hij
      · cases hr
    · cases hr
  | .seq a b, f, h, e, f', h', hr => by
    simp only [evalCode] at hr
    split at hr
    · rename_i f1 h1 ha
      exact .seqN (code_ev hcall ha) (code_ev hcall hr)
    · rename_i hne
      refine .seqX (code_ev hcall hr) fun e1 => ?_
      subst e1
      exact hne _ _ hr
  | .cond c a b, f, h, e, f', h', hr => by
    simp only [evalCode] at hr
    split at hr
    · rename_i hc; exact .condT hc (code_ev hcall hr)
    · rename_i hc; exact .condF hc (code_ev hcall hr)
    · cases hr
  | .block i b, f, h, e, f', h', hr => by
    simp only [evalCode] at hr
    split at hr
    · rename_i j f1 h1 hb
      split at hr
      · rename_i hj
        subst hj
        simp only [Option.some.injEq, Prod.mk.injEq] at hr
        obtain ⟨rfl, rfl, rfl⟩ := hr
        exact .blockX (code_ev hcall hb)
      · rename_i hj
        simp only [Option.some.injEq, Prod.mk.injEq] at hr
        obtain ⟨rfl, rfl, rfl⟩ := hr
        exact .blockO (code_ev hcall hb) (fun e => hj (by cases e; rfl))
    · rename_i hne
      refine .blockO (code_ev hcall hr) fun e1 => ?_
      subst e1
      exact hne _ _ _ hr
  | .loop live b, f, h, e, f', h', hr => by
    simp only [evalCode] at hr
    exact .loop (iter_ev (fun f h e f' h' hb => code_ev hcall hb) n hr)
  | .exit i, f, h, e, f', h', hr => by simp only [evalCode, Option.some.injEq, Prod.mk.injEq] at hr; obtain ⟨rfl, rfl, rfl⟩ := hr; exact .exit
  | .ret, f, h, e, f', h', hr => by simp only [evalCode, Option.some.injEq, Prod.mk.injEq] at hr; obtain ⟨rfl, rfl, rfl⟩ := hr; exact .ret
  | .bad, f, h, e, f', h', hr => by cases hr

theorem call_ev : ∀ (k : Nat) {g : FuncId} {args : List Value} {h : Heap} {v : Value} {h' : Heap}, evalCall M.fn k g args h = some (v, h') → Ev M (.call g args h v h')
  | 0, g, args, h, v, h', hr => by cases hr
  | k + 1, g, args, h, v, h', hr => by
    simp only [evalCall] at hr
    split at hr
    · cases hr
    rename_i F hF
    split at hr
    rotate_left
    · cases hr
    rename_i hlen
    split at hr
    · cases hr
    · rename_i e f1 h1 hne hb
      split at hr
      rotate_left
      · cases hr
      rename_i v1 hv
      simp only [Option.some.injEq, Prod.mk.injEq] at hr
      obtain ⟨rfl, rfl⟩ := hr
      refine .fcall hF hlen (code_ev (fun g args h v h' hc => call_ev k hc) hb) ?_ hv
      cases e with
      | norm => exact .inl rfl
      | ret => exact .inr rfl
      | exit i => exact absurd rfl (hne i)
    · cases hr
end

/-! ### the door -/

/-- nothing is known of memory -/
theorem Sim.nothing (W : World) (n : Nat) : Sim W.heap.size W (fun _ => none) (Heap.get? ⟨n, []⟩) W :=
  { below := Below.refl _ _
    inB := Nat.le_refl _
    lt := fun c l h => (by cases h)
    obj := fun c l o h => (by cases h)
    inj := fun c1 c2 l1 l2 o1 o2 h => (by cases h) }

theorem Glob.none (φ : Emb) : Glob 0 φ := fun g h => absurd h (Nat.not_lt_zero g)

/-- a law's call, of which the canonical machine says that it is true -/
theorem door {P : Program} {G : Nat} {M : Prg} {g : FuncId} {args : List Value} {h h' : Heap} {φ : Emb} {args' : Array Value} {W : World}
    (hmix : P.follows .mixedOrders = true) (hM : ∀ g F, M.fn g = some F → ∃ fn lives, P.funcs[g]? = some fn ∧ resFun P G lives fn = some F)
    (hO : ∀ g args h v h', M.orac g args h v h' → h.n ≤ h'.n ∧ GoodCall P G W.heap.size W g args h v h') (hev : Ev M (.call g args h (.bool true) h'))
    (s : Sim W.heap.size W φ h.get? W) (gl : Glob G φ) (hr : RelL φ args args'.toList) (free : Free φ h h') :
    Calls P g args' W fun e W' => e = .returned (.bool true) ∧ Below W.heap.size W W' := by
  refine ((sound hmix hM hO hev).2.2 φ W args' s gl hr free).mono ?_
  rintro e W' ⟨φ', v', rfl, hv, s', x'⟩
  rw [relV_bool hv]
  exact ⟨rfl, s'.below⟩

/-- a table of functions -/
def lookF : List (Nat × MFun) → FuncId → Option MFun
  | [], _ => none
  | (k, F) :: r, g => match Nat.beq k g with | true => some F | false => lookF r g

def InProg (P : Program) (G : Nat) (k : Nat) (F : MFun) : Prop := ∃ fn lives, P.funcs[k]? = some fn ∧ resFun P G lives fn = some F
def AllIn (P : Program) (G : Nat) : List (Nat × MFun) → Prop
  | [] => True
  | (k, F) :: r => InProg P G k F ∧ AllIn P G r
theorem lookF_ok {P : Program} {G : Nat} : ∀ {tab : List (Nat × MFun)}, AllIn P G tab → ∀ g F, lookF tab g = some F → InProg P G g F
  | [], _, g, F, h => by cases h
  | (k, E) :: r, ha, g, F, h => by
    simp only [lookF] at h
    split at h
    · rename_i hk
      have := Nat.eq_of_beq_eq_true hk
      subst this
      cases h
      exact ha.1
    · exact lookF_ok ha.2 g F h

/-- no oracle -/
def bare (tab : List (Nat × MFun)) : Prg := ⟨lookF tab, fun _ _ _ _ _ => False⟩

/-- a law's call whose canonical run is reckoned, with nothing known of memory -/
theorem door_run {P : Program} {G : Nat} {tab : List (Nat × MFun)} {g : FuncId} {args : List Value} {args' : Array Value} {k : Nat} (W : World)
    (hmix : P.follows .mixedOrders = true) (hG : G = 0) (hM : AllIn P G tab) (hev : (evalCall (lookF tab) k g args ⟨0, []⟩).map (·.1) = some (.bool true)) (hr : RelL (fun _ => none) args args'.toList) :
    Calls P g args' W fun e W' => e = .returned (.bool true) ∧ Below W.heap.size W W' := by
  cases he : evalCall (lookF tab) k g args ⟨0, []⟩ with
  | none => rw [he] at hev; cases hev
  | some r =>
    obtain ⟨v, h'⟩ := r
    rw [he] at hev
    simp only [Option.map_some, Option.some.injEq] at hev
    subst hev
    subst hG
    exact door (M := bare tab) hmix (lookF_ok hM) (fun _ _ _ _ _ h => h.elim) (call_ev (M := bare tab) k he) (Sim.nothing W 0) (Glob.none _) hr (fun _ _ _ => rfl)

end Go.Cm
