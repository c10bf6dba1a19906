/- Symbolic states for walks, part K: code, loops, calls. -/
import Derived.Test.YtfdmlpdhngmbiaaSxJ
namespace Go.Sx
open Go.RowKit

def evalC (step : Step) : Code → St → (Exit → St → Tree) → Tree
  | .skip, S, k => k .normal S
  | .label _, S, k => k .normal S
  | .region _ ops draw, S, k => evalRegion step ops draw S fun S' => k .normal S'
  | .seq x y, S, k => evalC step x S fun e S' => match e with | .normal => evalC step y S' k | e => k e S'
  | .cond c x y, S, k => match S.ev c with | some (.cv (.one (.raw (.bool b)))) => .cond b (evalC step x S k) (evalC step y S k) | _ => .fail
  | .block id body, S, k => evalC step body S fun e S' => match e with | .exit id' => bif Nat.beq id' id then k .normal S' else k (.exit id') S' | e => k e S'
  | .loop body, S, k => .loop body S k
  | .exit id, S, k => k (.exit id) S
  | .ret, S, k => k .ret S
  | _, _, _ => .fail

section
variable {P : Program} {C : Ctx} {Q : Exit → St → Prop} {step : Step}

theorem evalC_sound (hm : P.follows .mixedOrders = true) (hstep : StepSound P step) : ∀ (c : Code) (S : St) (k : Exit → St → Tree) (a : Act) (w : World), wpT P C Q (evalC step c S k) → SatC C S a w →
    c.wp P (fun e a' w' => ∃ S', SatC C S' a' w' ∧ wpT P C Q (k e S')) a w
  | .skip, S, k, a, w, h, hs => wp_skip ⟨S, hs, h⟩
  | .label _, S, k, a, w, h, hs => wp_label ⟨S, hs, h⟩
  | .region id ops draw, S, k, a, w, h, hs => region_sound hm hstep h hs fun a' w' S' h1 h2 => ⟨S', h1, h2⟩
  | .seq x y, S, k, a, w, h, hs => by
    refine wp_seq (wp_mono (evalC_sound hm hstep x S _ a w h hs) ?_)
    rintro e a' w' ⟨S', h1, h2⟩
    cases e with
    | normal => exact evalC_sound hm hstep y S' k a' w' h2 h1
    | _ => exact ⟨S', h1, h2⟩
  | .cond c x y, S, k, a, w, h, hs => by
    simp only [evalC] at h
    split at h
    · rename_i b hc
      simp only [wpT] at h
      have hb : a.eval c = .bool b := by
        obtain ⟨β, ow, h1, _⟩ := hs
        simpa [XV.rel, CV.rel, SV.rel] using h1.ev hc
      exact wp_cond_split hb (fun e => evalC_sound hm hstep x S k a w (h.1 e) hs) (fun e => evalC_sound hm hstep y S k a w (h.2 e) hs)
    · simp only [wpT] at h
  | .block id body, S, k, a, w, h, hs => by
    refine wp_block (wp_mono (evalC_sound hm hstep body S _ a w h hs) ?_)
    rintro e a' w' ⟨S', h1, h2⟩
    cases e with
    | exit id' =>
      simp only [nbeq] at h2
      simp only [Exit.inBlock]
      by_cases hid : id' = id
      · simp only [hid, decide_true, cond_true] at h2
        rw [if_pos hid]
        exact ⟨S', h1, h2⟩
      · simp only [hid, decide_false, cond_false] at h2
        rw [if_neg hid]
        exact ⟨S', h1, h2⟩
    | _ => exact ⟨S', h1, h2⟩
  | .loop body, S, k, a, w, h, hs => by
    simp only [evalC, wpT] at h
    exact h a w hs
  | .exit id, S, k, a, w, h, hs => wp_exit ⟨S, hs, h⟩
  | .ret, S, k, a, w, h, hs => wp_ret ⟨S, hs, h⟩
  | .rangeFunc _ _ _ _, S, k, a, w, h, hs => by simp only [evalC, wpT] at h
  | .scope _, S, k, a, w, h, hs => by simp only [evalC, wpT] at h
  | .goto _, S, k, a, w, h, hs => by simp only [evalC, wpT] at h
  | .refuse _, S, k, a, w, h, hs => by simp only [evalC, wpT] at h

/-- Whatever fits S fits S'. -/
def Ent (C : Ctx) (S S' : St) : Prop := ∀ a w, SatC C S a w → SatC C S' a w

theorem Ent.refl (S : St) : Ent C S S := fun _ _ h => h
theorem Ent.trans {A B D : St} (h : Ent C A B) (k : Ent C B D) : Ent C A D := fun a w hs => k a w (h a w hs)

/-- A loop by what holds at its head: a family of states, and a measure that every round lowers. -/
theorem loop_rule {α : Type} (St : α → St) (μ : α → Nat) (a0 : α) {body : Code} {S : Sx.St} {k : Exit → Sx.St → Tree} (hm : P.follows .mixedOrders = true) (hstep : StepSound P step) (h0 : Ent C S (St a0))
    (round : ∀ x, wpT P C (fun e S' => match e with | .normal => ∃ y, μ y < μ x ∧ Ent C S' (St y) | e => wpT P C Q (k e S')) (evalC step body (St x) Tree.done)) : wpT P C Q (.loop body S k) := by
  intro a w hs
  refine wp_mono (wp_loop (fun a w => ∃ x, SatC C (St x) a w) (fun a w => Classical.epsilon fun n => ∃ x, SatC C (St x) a w ∧ n = μ x ∧ ∀ y, SatC C (St y) a w → μ x ≤ μ y) ⟨a0, h0 a w hs⟩ ?_) (fun e a' w' h => h)
  rintro a w hI
  have pick : ∀ (n : Nat) (a : Act) (w : World) (x : α), SatC C (St x) a w → μ x ≤ n → ∃ x, SatC C (St x) a w ∧ ∀ y, SatC C (St y) a w → μ x ≤ μ y := by
    intro n
    induction n with
    | zero => exact fun a w x hx hle => ⟨x, hx, fun y _ => by omega⟩
    | succ n ih =>
      intro a w x hx hle
      by_cases hex : ∃ y, SatC C (St y) a w ∧ μ y < μ x
      · obtain ⟨y, hy, hlt⟩ := hex
        exact ih a w y hy (by omega)
      · exact ⟨x, hx, fun y hy => Nat.le_of_not_lt fun hlt => hex ⟨y, hy, hlt⟩⟩
  have least : ∀ (a : Act) (w : World), (∃ x, SatC C (St x) a w) → ∃ x, SatC C (St x) a w ∧ (∀ y, SatC C (St y) a w → μ x ≤ μ y) ∧ (Classical.epsilon fun n => ∃ x, SatC C (St x) a w ∧ n = μ x ∧ ∀ y, SatC C (St y) a w → μ x ≤ μ y) = μ x := by
    rintro a w ⟨x0, hx0⟩
    obtain ⟨x, hx, hmin⟩ := pick _ a w x0 hx0 (Nat.le_refl _)
    have := Classical.epsilon_spec (p := fun n => ∃ x, SatC C (St x) a w ∧ n = μ x ∧ ∀ y, SatC C (St y) a w → μ x ≤ μ y) ⟨μ x, x, hx, rfl, hmin⟩
    obtain ⟨z, hz, he, hzm⟩ := this
    exact ⟨z, hz, hzm, he⟩
  obtain ⟨x, hx, hmin, hμ⟩ := least a w hI
  refine wp_mono (evalC_sound hm hstep body (St x) Tree.done a w (round x) hx) ?_
  rintro e a' w' ⟨S', h1, h2⟩
  simp only [wpT] at h2
  cases e with
  | normal =>
    obtain ⟨y, hlt, hent⟩ := h2
    have hy := hent a' w' h1
    obtain ⟨z, hz, hzm, hze⟩ := least a' w' ⟨y, hy⟩
    refine ⟨⟨y, hy⟩, ?_⟩
    show (Classical.epsilon fun n => ∃ x, SatC C (St x) a' w' ∧ n = μ x ∧ ∀ y, SatC C (St y) a' w' → μ x ≤ μ y) < (Classical.epsilon fun n => ∃ x, SatC C (St x) a w ∧ n = μ x ∧ ∀ y, SatC C (St y) a w → μ x ≤ μ y)
    rw [hμ, hze]
    exact Nat.lt_of_le_of_lt (hzm y hy) hlt
  | _ => exact ⟨S', h1, h2⟩
end

/-! ### results -/
def resOf (T : TyTab) (S : St) : ResultVar → Option CV
  | .tmp t => match lget S.slots t with | some (.cv c) => some c | _ => none
  | .cell t ty => match lget S.slots t with | some (.cv (.one s)) => (match s with | .ptr _ _ _ _ => (match loadX T S.mem ty s with | some (none, v, _) => some v | _ => none) | _ => none) | _ => none
def resAll (T : TyTab) (S : St) : List ResultVar → Option (List CV)
  | [] => some []
  | r :: l => match resOf T S r, resAll T S l with | some v, some vs => some (v :: vs) | _, _ => none
def resX (T : TyTab) (S : St) (rs : List ResultVar) : Option XV :=
  match resAll T S rs with
  | some [v] => some (.cv v)
  | some l => some (.tup l)
  | none => none

def resRun (tmps : Array Value) : ResultVar → Sem Value
  | .tmp t => pure (tmps.getD t undef)
  | .cell ad t => do loadVar t (← asAddr (tmps.getD ad undef))

theorem resOf_ok {P : Program} {T : TyTab} (hT : TabOK P T) {β : Nat → Loc} {ow : Nat → Option Nat} {w : World} {S : St} {a : Act} (H : Sat β ow w S a) {r : ResultVar} {v : CV} (h : resOf T S r = some v) :
    ∃ x, (resRun a.tmps r).run P w = .ok x w ∧ v.rel β x := by
  cases r with
  | tmp t =>
    simp only [resOf] at h
    split at h
    · rename_i c hc
      cases h
      exact ⟨_, rfl, H.slots t _ hc⟩
    · cases h
  | cell t ty =>
    simp only [resOf] at h
    split at h
    · rename_i s hs
      split at h
      · rename_i c i sz j
        split at h
        · rename_i v' c' hl
          cases h
          have h1 := H.slots t _ hs
          simp only [XV.rel, CV.rel] at h1
          obtain ⟨y, h2, h3⟩ := loadX_ok (P := P) (w := w) (ow := ow) hT hl (fun _ e => by cases e) h1 (fun ch hc => H.mem _ ch hc)
          simp only [SV.rel] at h1
          refine ⟨y, ?_, h3⟩
          rw [h1] at h2
          simp only [Instr.loadAt, Instr.sureAddr, Sem.run_bind, Sem.run_pure, Result.andThen_ok] at h2
          simp only [resRun, h1, asAddr, Sem.run_bind, Sem.run_pure, Result.andThen_ok, h2]
        · cases h
      · cases h
    · cases h

theorem resAll_ok {P : Program} {T : TyTab} (hT : TabOK P T) {β : Nat → Loc} {ow : Nat → Option Nat} {w : World} {S : St} {a : Act} (H : Sat β ow w S a) : ∀ (rs : List ResultVar) (vs : List CV), resAll T S rs = some vs →
    ∃ xs : List Value, (rs.mapM (resRun a.tmps)).run P w = .ok xs w ∧ CVs β vs xs
  | [], vs, h => by simp only [resAll, Option.some.injEq] at h; subst h; exact ⟨[], by simp, rfl⟩
  | r :: l, vs, h => by
    simp only [resAll] at h
    split at h
    · rename_i v vs' h1 h2
      cases h
      obtain ⟨x, e1, e2⟩ := resOf_ok hT H h1
      obtain ⟨xs, e3, e4⟩ := resAll_ok hT H l vs' h2
      refine ⟨x :: xs, ?_, x, xs, rfl, e2, e4⟩
      simp [List.mapM_cons, e1, e3]
    · cases h

theorem resX_ok {P : Program} {T : TyTab} (hT : TabOK P T) {β : Nat → Loc} {ow : Nat → Option Nat} {w : World} {S : St} {a : Act} (H : Sat β ow w S a) {fn : Func} {X : XV} (h : resX T S fn.results.toList = some X) :
    ∃ x, (results fn a.tmps).run P w = .ok x w ∧ X.rel β x := by
  unfold resX at h
  cases hr : resAll T S fn.results.toList with
  | none => simp [hr] at h
  | some vs =>
    obtain ⟨xs, h1, h2⟩ := resAll_ok (P := P) hT H _ _ hr
    have hm : (fn.results.mapM (resRun a.tmps)).run P w = .ok xs.toArray w := by
      rw [Array.mapM_eq_mapM_toList]
      simp [h1]
    have e0 : (results fn a.tmps).run P w = .ok (if h : xs.toArray.size = 1 then xs.toArray[0] else .tuple xs.toArray) w := by
      have e : results fn a.tmps = (do let vs ← fn.results.mapM (resRun a.tmps); pure (if h : vs.size = 1 then vs[0] else .tuple vs)) := rfl
      rw [e, Sem.run_bind, hm]
      rfl
    refine ⟨_, e0, ?_⟩
    rw [hr] at h
    match vs, h, h2 with
    | [], h, h2 =>
      simp only [Option.some.injEq] at h
      subst h
      have : xs = [] := h2
      subst this
      exact ⟨#[], rfl, rfl⟩
    | [v], h, h2 =>
      simp only [Option.some.injEq] at h
      subst h
      obtain ⟨x, r, rfl, hx, hr'⟩ := h2
      have : r = [] := hr'
      subst this
      exact hx
    | v :: u :: l, h, h2 =>
      simp only [Option.some.injEq] at h
      subst h
      obtain ⟨x, r, rfl, hx, y, r', rfl, hy, hl⟩ := h2
      refine ⟨(x :: y :: r').toArray, by simp, ?_⟩
      exact ⟨x, _, rfl, hx, y, r', rfl, hy, hl⟩

/-- A call's slots at its beginning. -/
def slots0 (n : Nat) (args : List XV) : List (Option XV) := args.map some ++ List.replicate (n - args.length) none

/-- What a call comes to. -/
def Post (C : Ctx) (R : XV → St → Prop) (e : Ending) (w : World) : Prop :=
  ∃ v X S β ow a, e = .returned v ∧ X.rel β v ∧ Sat β ow w S a ∧ Grow C β ow w ∧ R X S

theorem calls_sound {P : Program} {T : TyTab} {C : Ctx} {f : FuncId} {fn : Func} {c : Code} {vs : Array Value} {w : World} {R : XV → St → Prop} (hm : P.follows .mixedOrders = true) (hT : TabOK P T) (hf : P.funcs[f]? = some fn) (hb : fn.body = some c)
    {S : St} (hs : SatC C S { tmps := vs ++ Array.replicate (fn.ntmps - vs.size) undef, defers := [] } w)
    (h : wpT P C (fun e S' => (e = .normal ∨ e = .ret) ∧ ∃ X, resX T S' fn.results.toList = some X ∧ R X S') (evalC (stepOp T) c S Tree.done)) : Calls P f vs w (Post C R) := by
  refine calls_of_wp hf hb (wp_mono (evalC_sound hm (stepOp_sound hT) c S Tree.done _ w h hs) ?_)
  rintro e a w' ⟨S', ⟨β, ow, h1, _, h3, _⟩, h2⟩
  simp only [wpT] at h2
  obtain ⟨he, X, hX, hR⟩ := h2
  obtain ⟨x, hx, hrel⟩ := resX_ok hT h1 hX
  rcases he with rfl | rfl
  · exact ⟨h1.defers, x, hx, x, X, S', β, ow, a, rfl, hrel, h1, h3, hR⟩
  · exact ⟨h1.defers, x, hx, x, X, S', β, ow, a, rfl, hrel, h1, h3, hR⟩
end Go.Sx
