/- Symbolic states for walks, part R: the same reckoning with everything that is left to do kept as data, so that the kernel can hold it against what is written down. -/
import Derived.Test.YtfdmlpdhngmbiaaSxK
namespace Go.Sx
open Go.RowKit

inductive Fr where
  | seq (y : Code)
  | block (id : Nat)

/-- Where a reckoning stands. 'sk': is it known already whether the next operation is passed over? -/
inductive Cfg where
  | ops (sk : Option Bool) (ops : Array Oper) (b : Nat) (draw : Bool) (l : List Oper) (i : Nat) (S : St) (recs : List Rec) (stk : List Fr)
  | code (c : Code) (S : St) (stk : List Fr)
  | ex (e : Exit) (S : St) (stk : List Fr)

/-- Where it comes to a stand. -/
inductive Node where
  | cond (b : Bool) (t e : Cfg)
  | need (p : Prop) (c : Cfg)
  | prim (o : Oper) (S : St) (d : Nat) (ops : Array Oper) (b : Nat) (draw : Bool) (l : List Oper) (i : Nat) (recs : List Rec) (stk : List Fr)
  | loop (body : Code) (S : St) (stk : List Fr)
  | done (e : Exit) (S : St)
  | more (c : Cfg)
  | fail

/-- One op's result laid down. -/
def lay (ih : Cfg → Node) (ops : Array Oper) (b : Nat) (draw : Bool) (l : List Oper) (i : Nat) (S : St) (recs : List Rec) (stk : List Fr) (o : Oper) (d : Nat) (np : Option Prop) (r : Res) (rd : List Nat) : Node :=
  resK r fun r =>
    bif Rec.ok (fun c => Nat.blt c (d + 1)) d ⟨false, r, rd⟩ then
      stK (S.app o.dst r) fun S' =>
        match np with
        | none => ih (.ops none ops b draw l (i + 1) S' (⟨false, r, rd⟩ :: recs) stk)
        | some p => .need p (.ops none ops b draw l (i + 1) S' (⟨false, r, rd⟩ :: recs) stk)
    else .fail

def exec (step : Step) (ih : Cfg → Node) (ops : Array Oper) (b : Nat) (draw : Bool) (l : List Oper) (i : Nat) (S : St) (recs : List Rec) (stk : List Fr) (o : Oper) (skip : Bool) : Node :=
  natK (b + i) fun d =>
    match skip with
    | true => stK (S.app o.dst skipRes) fun S' => ih (.ops none ops b draw l (i + 1) S' (skipRec :: recs) stk)
    | false =>
      match step S d o with
      | some (np, r, rd) => lay ih ops b draw l i S recs stk o d np r rd
      | none => .prim o S d ops b draw l i recs stk

def stp (step : Step) (ih : Cfg → Node) : Cfg → Node
  | .ops sk ops b draw l i S recs stk =>
    match l with
    | [] => natK (b + ops.size) fun nx =>
      match S with
      | ⟨sl, m, _⟩ => match draw with | true => .need (orderB ops recs.reverse b = true) (.ex .normal ⟨sl, m, nx⟩ stk) | false => ih (.ex .normal ⟨sl, m, nx⟩ stk)
    | o :: l =>
      match sk with
      | some skip => exec step ih ops b draw l i S recs stk o skip
      | none =>
        match o.guard with
        | none => exec step ih ops b draw l i S recs stk o false
        | some (g, want) =>
          match (ops[g]?).bind (·.dst) with
          | none => .fail
          | some dg =>
            match lget S.slots dg with
            | some (.cv (.one (.raw (.bool t)))) =>
              stK (S.set1 dg (XV.bool true)) fun S1 => stK (S.set1 dg (XV.bool false)) fun S2 =>
                .cond t (.ops (some (!want)) ops b draw (o :: l) i S1 recs stk) (.ops (some want) ops b draw (o :: l) i S2 recs stk)
            | some (.cv (.one (.raw v))) => bif isBoolV v then .fail else exec step ih ops b draw l i S recs stk o true
            | _ => .fail
  | .code c S stk =>
    match c with
    | .skip | .label _ => ih (.ex .normal S stk)
    | .region _ ops draw => match S with | ⟨sl, m, nx⟩ => ih (.ops none ops nx draw ops.toList 0 ⟨sl, m, nx⟩ [] stk)
    | .seq x y => ih (.code x S (.seq y :: stk))
    | .cond c x y => match S.ev c with | some (.cv (.one (.raw (.bool t)))) => .cond t (.code x S stk) (.code y S stk) | _ => .fail
    | .block id body => ih (.code body S (.block id :: stk))
    | .loop body => .loop body S stk
    | .exit id => ih (.ex (.exit id) S stk)
    | .ret => ih (.ex .ret S stk)
    | _ => .fail
  | .ex e S stk =>
    match stk with
    | [] => .done e S
    | .seq y :: r => match e with | .normal => ih (.code y S r) | e => ih (.ex e S r)
    | .block id :: r => match e with | .exit id' => (match Nat.beq id' id with | true => ih (.ex .normal S r) | false => ih (.ex (.exit id') S r)) | e => ih (.ex e S r)

def run (step : Step) (n : Nat) : Cfg → Node := Nat.rec (fun c => .more c) (fun _ ih c => stp step ih c) n

/-! ### what it stands for -/
def stkK (step : Step) : List Fr → Exit → St → Tree
  | [] => Tree.done
  | .seq y :: r => fun e S => match e with | .normal => evalC step y S (stkK step r) | e => stkK step r e S
  | .block id :: r => fun e S => match e with | .exit id' => bif Nat.beq id' id then stkK step r .normal S else stkK step r (.exit id') S | e => stkK step r e S

def endK (step : Step) (ops : Array Oper) (b : Nat) (draw : Bool) (stk : List Fr) : List Rec → St → Tree := fun recs S' =>
  bif draw then .need (orderB ops recs b = true) (stkK step stk .normal ⟨S'.slots, S'.mem, b + ops.size⟩) else stkK step stk .normal ⟨S'.slots, S'.mem, b + ops.size⟩

def bodyT (step : Step) (ops : Array Oper) (b : Nat) (l : List Oper) (i : Nat) (recs : List Rec) (k : List Rec → St → Tree) (o : Oper) (S : St) (skip : Bool) : Tree :=
  match skip with
  | true => evalOps step ops b l (i + 1) (S.app o.dst skipRes) (skipRec :: recs) k
  | false =>
    match step S (b + i) o with
    | some (np, r, rd) => needs np (chk (Rec.ok (fun c => Nat.blt c (b + i + 1)) (b + i) ⟨false, r, rd⟩) (evalOps step ops b l (i + 1) (S.app o.dst r) (⟨false, r, rd⟩ :: recs) k))
    | none => .prim o S (b + i) fun r rd => chk (Rec.ok (fun c => Nat.blt c (b + i + 1)) (b + i) ⟨false, r, rd⟩) (evalOps step ops b l (i + 1) (S.app o.dst r) (⟨false, r, rd⟩ :: recs) k)

theorem evalOps_cons (step : Step) (ops : Array Oper) (b : Nat) (o : Oper) (l : List Oper) (i : Nat) (S : St) (recs : List Rec) (k : List Rec → St → Tree) :
    evalOps step ops b (o :: l) i S recs k = guarded ops S o (bodyT step ops b l i recs k o) := by
  simp only [evalOps, natK_eq, stK_eq, resK_eq]
  rfl

def Cfg.tree (step : Step) : Cfg → Tree
  | .ops none os b draw l i S recs stk => evalOps step os b l i S recs (endK step os b draw stk)
  | .ops (some _) os b draw [] i S recs stk => evalOps step os b [] i S recs (endK step os b draw stk)
  | .ops (some skip) os b draw (o :: l) i S recs stk => bodyT step os b l i recs (endK step os b draw stk) o S skip
  | .code c S stk => evalC step c S (stkK step stk)
  | .ex e S stk => stkK step stk e S

section
variable {P : Program} {C : Ctx} {Q : Exit → St → Prop} {step : Step}

/-- What is owed where it stands. -/
def wpN (P : Program) (C : Ctx) (Q : Exit → St → Prop) (step : Step) : Node → Prop
  | .cond b t e => (b = true → wpT P C Q (t.tree step)) ∧ (b = false → wpT P C Q (e.tree step))
  | .need p c => p ∧ (p → wpT P C Q (c.tree step))
  | .prim o S d ops b draw l i recs stk => ∃ r rd, OpSound P S d o r rd ∧ Rec.ok (fun c => Nat.blt c (b + i + 1)) (b + i) ⟨false, r, rd⟩ = true ∧ wpT P C Q ((Cfg.ops none ops b draw l (i + 1) (S.app o.dst r) (⟨false, r, rd⟩ :: recs) stk).tree step)
  | .loop body S stk => wpT P C Q (.loop body S (stkK step stk))
  | .done e S => Q e S
  | .more c => wpT P C Q (c.tree step)
  | .fail => False

theorem exec_sound {ih : Cfg → Node} (hih : ∀ c, wpN P C Q step (ih c) → wpT P C Q (c.tree step)) {ops : Array Oper} {b : Nat} {draw : Bool} {l : List Oper} {i : Nat} {S : St} {recs : List Rec} {stk : List Fr} {o : Oper} {skip : Bool}
    (h : wpN P C Q step (exec step ih ops b draw l i S recs stk o skip)) : wpT P C Q (bodyT step ops b l i recs (endK step ops b draw stk) o S skip) := by
  simp only [exec, natK_eq] at h
  cases skip with
  | true =>
    simp only [stK_eq] at h
    exact hih _ h
  | false =>
    simp only at h
    simp only [bodyT]
    cases hst : step S (b + i) o with
    | none =>
      simp only [hst, wpN] at h
      obtain ⟨r, rd, h1, h2, h3⟩ := h
      refine ⟨r, rd, h1, ?_⟩
      simp only [chk, h2, cond_true]
      exact h3
    | some y =>
      obtain ⟨np, r, rd⟩ := y
      simp only [hst, lay, resK_eq] at h
      cases hok : Rec.ok (fun c => Nat.blt c (b + i + 1)) (b + i) ⟨false, r, rd⟩ with
      | false => simp only [hok, cond_false, wpN] at h
      | true =>
        simp only [hok, cond_true, stK_eq] at h
        simp only [chk, hok, cond_true]
        cases np with
        | none => exact hih _ h
        | some p => exact ⟨h.1, fun hp => h.2 hp⟩

theorem stp_sound {ih : Cfg → Node} (hih : ∀ c, wpN P C Q step (ih c) → wpT P C Q (c.tree step)) : ∀ c, wpN P C Q step (stp step ih c) → wpT P C Q (c.tree step)
  | .ops sk ops b draw [] i S recs stk, h => by
    have main : wpT P C Q (evalOps step ops b [] i S recs (endK step ops b draw stk)) := by
      simp only [stp, natK_eq] at h
      simp only [evalOps, endK]
      cases draw with
      | true => simp only [cond_true]; exact ⟨h.1, fun hp => h.2 hp⟩
      | false => simp only [cond_false]; exact hih _ h
    cases sk <;> exact main
  | .ops (some skip) ops b draw (o :: l) i S recs stk, h => exec_sound hih h
  | .ops none ops b draw (o :: l) i S recs stk, h => by
    simp only [Cfg.tree, evalOps_cons, guarded]
    simp only [stp] at h
    cases hg : o.guard with
    | none =>
      simp only [hg] at h ⊢
      exact exec_sound hih h
    | some gw =>
      obtain ⟨g, want⟩ := gw
      simp only [hg] at h ⊢
      cases hd : (ops[g]?).bind (·.dst) with
      | none => simp only [hd, wpN] at h
      | some dg =>
        simp only [hd] at h ⊢
        split at h
        · rename_i t ht
          simp only [stK_eq, wpN, Cfg.tree] at h
          rw [ht]
          exact h
        · rename_i v hnb ht
          rw [ht]
          cases hb : isBoolV v with
          | true => simp only [hb, cond_true, wpN] at h
          | false =>
            simp only [hb, cond_false] at h
            simp only [hb, cond_false]
            exact exec_sound hih h
        · simp only [wpN] at h
  | .code c S stk, h => by
    cases c with
    | skip => simp only [stp] at h; have h' := hih _ h; exact h'
    | label l => simp only [stp] at h; have h' := hih _ h; exact h'
    | region id ops draw =>
      simp only [stp] at h
      have := hih _ h
      simp only [Cfg.tree, evalC, evalRegion, natK_eq] at this ⊢
      exact this
    | seq x y => simp only [stp] at h; have h' := hih _ h; exact h'
    | cond c x y =>
      simp only [stp] at h
      simp only [Cfg.tree, evalC]
      split at h
      · rename_i t ht
        simp only [ht]
        exact h
      · simp only [wpN] at h
    | block id body => simp only [stp] at h; have h' := hih _ h; exact h'
    | loop body => simp only [stp] at h; exact h
    | exit id => simp only [stp] at h; have h' := hih _ h; exact h'
    | ret => simp only [stp] at h; have h' := hih _ h; exact h'
    | rangeFunc f p a b => simp only [stp, wpN] at h
    | scope b => simp only [stp, wpN] at h
    | goto l => simp only [stp, wpN] at h
    | refuse w => simp only [stp, wpN] at h
  | .ex e S [], h => by simp only [stp] at h; exact h
  | .ex e S (.seq y :: r), h => by
    cases e <;> (simp only [stp] at h; have h' := hih _ h; exact h')
  | .ex e S (.block id :: r), h => by
    cases e with
    | exit id' =>
      simp only [stp] at h
      simp only [Cfg.tree, stkK]
      cases hb : Nat.beq id' id with
      | true => simp only [hb, cond_true] at h ⊢; have h' := hih _ h; exact h'
      | false => simp only [hb, cond_false] at h ⊢; have h' := hih _ h; exact h'
    | _ => simp only [stp] at h; have h' := hih _ h; exact h'

theorem run_sound : ∀ (n : Nat) (c : Cfg), wpN P C Q step (run step n c) → wpT P C Q (c.tree step)
  | 0, _, h => h
  | n + 1, c, h => stp_sound (run_sound n) c h

/-! ### the words of a walk -/
/-- Go on to the next stand. -/
theorem wGo {c : Cfg} (h : wpN P C Q step (run step 4000 c)) : wpT P C Q (c.tree step) := run_sound 4000 c h
theorem wT {t e : Cfg} (h : wpT P C Q (t.tree step)) : wpN P C Q step (.cond true t e) := ⟨fun _ => h, fun h => (by cases h)⟩
theorem wF {t e : Cfg} (h : wpT P C Q (e.tree step)) : wpN P C Q step (.cond false t e) := ⟨fun h => (by cases h), fun _ => h⟩
theorem wC {b : Bool} {t e : Cfg} (h1 : b = true → wpT P C Q (t.tree step)) (h2 : b = false → wpT P C Q (e.tree step)) : wpN P C Q step (.cond b t e) := ⟨h1, h2⟩
theorem wN {p : Prop} {c : Cfg} (hp : p) (h : wpT P C Q (c.tree step)) : wpN P C Q step (.need p c) := ⟨hp, fun _ => h⟩
theorem wO {ops : Array Oper} {recs : List Rec} {b : Nat} {c : Cfg} (hp : orderB ops recs b = true) (h : wpT P C Q (c.tree step)) : wpN P C Q step (.need (orderB ops recs b = true) c) := ⟨hp, fun _ => h⟩
theorem wP {o : Oper} {S : St} {d : Nat} {ops : Array Oper} {b : Nat} {draw : Bool} {l : List Oper} {i : Nat} {recs : List Rec} {stk : List Fr} (r : Res) (rd : List Nat) (h : OpSound P S d o r rd)
    (hk : wpN P C Q step (lay (run step 4000) ops b draw l i S recs stk o (b + i) none r rd)) : wpN P C Q step (.prim o S d ops b draw l i recs stk) := by
  refine ⟨r, rd, h, ?_⟩
  simp only [lay, resK_eq, stK_eq] at hk
  cases hok : Rec.ok (fun c => Nat.blt c (b + i + 1)) (b + i) ⟨false, r, rd⟩ with
  | false => simp only [hok, cond_false, wpN] at hk
  | true =>
    simp only [hok, cond_true] at hk
    exact ⟨rfl, run_sound 4000 _ hk⟩
theorem wL {body : Code} {S : St} {stk : List Fr} (h : wpT P C Q (.loop body S (stkK step stk))) : wpN P C Q step (.loop body S stk) := h
theorem wD {e : Exit} {S : St} (h : Q e S) : wpN P C Q step (.done e S) := h
/-- The beginning: the slots written out. -/
theorem wBegin {c : Code} {S : St} (h : wpN P C Q step (stK S fun S => run step 4000 (.code c S []))) : wpT P C Q (evalC step c S Tree.done) := by
  rw [stK_eq] at h
  exact run_sound 4000 _ h
end
end Go.Sx
