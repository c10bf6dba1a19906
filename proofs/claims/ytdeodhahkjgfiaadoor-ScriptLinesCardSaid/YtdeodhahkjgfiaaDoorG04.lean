/- Parts SxR SxM SxN SxO SxP SxQ SxS. -/
import Derived.Test.YtdeodhahkjgfiaaDoorG03
import Derived.KernelRfl
import Derived.Laws.Bits64
import Derived.Laws.BitsLemmas
import Derived.Maps.Keyed
import Derived.DeepKeys5
import Derived.Laws.AppendOwn
set_option linter.unusedSimpArgs false
set_option linter.unusedVariables false
namespace Go.Sx
open Go.RowKit
inductive Fr where
  | seq (y : Code)
  | block (id : Nat)
inductive Cfg where
  | ops (sk : Option Bool) (ops : Array Oper) (b : Nat) (draw : Bool) (l : List Oper) (i : Nat) (S : St) (recs : List Rec) (stk : List Fr)
  | code (c : Code) (S : St) (stk : List Fr)
  | ex (e : Exit) (S : St) (stk : List Fr)
inductive Node where
  | cond (b : Bool) (t e : Cfg)
  | need (p : Prop) (c : Cfg)
  | prim (o : Oper) (S : St) (d : Nat) (ops : Array Oper) (b : Nat) (draw : Bool) (l : List Oper) (i : Nat) (recs : List Rec) (stk : List Fr)
  | loop (body : Code) (S : St) (stk : List Fr)
  | done (e : Exit) (S : St)
  | more (c : Cfg)
  | fail
def lay (ih : Cfg → Node) (ops : Array Oper) (b : Nat) (draw : Bool) (l : List Oper) (i : Nat) (S : St) (recs : List Rec) (stk : List Fr) (o : Oper) (d : Nat) (np : Option Prop) (r : Res) (rd : List Nat) : Node :=
  resK r fun r =>
    bif Rec.ok (fun c => Nat.blt c (d + 1)) d ⟨false, r, rd⟩ then
      stK (S.app o.dst r) fun S' =>
        match np with
        | none => ih (.ops none ops b draw l (i + 1) S' (⟨false, r, rd⟩ :: recs) stk)
        | some p => .need p (.ops none ops b draw l (i + 1) S' (⟨false, r, rd⟩ :: recs) stk)
    else .fail
def exec (step : Step) (ih : Cfg → Node) (ops : Array Oper) (b : Nat) (draw : Bool) (l : List Oper) (i : Nat) (S : St) (recs : List Rec) (stk : List Fr) (o : Oper) (skip : Bool) : Node :=
  natK (b + i) fun d =>
    match skip with
    | true => stK (S.app o.dst skipRes) fun S' => ih (.ops none ops b draw l (i + 1) S' (skipRec :: recs) stk)
    | false =>
      match step S d o with
      | some (np, r, rd) => lay ih ops b draw l i S recs stk o d np r rd
      | none => .prim o S d ops b draw l i recs stk
def stp (step : Step) (ih : Cfg → Node) : Cfg → Node
  | .ops sk ops b draw l i S recs stk =>
    match l with
    | [] => natK (b + ops.size) fun nx =>
      match S with
      | ⟨sl, m, _⟩ => match draw with | true => .need (orderB ops recs.reverse b = true) (.ex .normal ⟨sl, m, nx⟩ stk) | false => ih (.ex .normal ⟨sl, m, nx⟩ stk)
    | o :: l =>
      match sk with
      | some skip => exec step ih ops b draw l i S recs stk o skip
      | none =>
        match o.guard with
        | none => exec step ih ops b draw l i S recs stk o false
        | some (g, want) =>
          match (ops[g]?).bind (·.dst) with
          | none => .fail
          | some dg =>
            match lget S.slots dg with
            | some (.cv (.one (.raw (.bool t)))) =>
              stK (S.set1 dg (XV.bool true)) fun S1 => stK (S.set1 dg (XV.bool false)) fun S2 =>
                .cond t (.ops (some (!want)) ops b draw (o :: l) i S1 recs stk) (.ops (some want) ops b draw (o :: l) i S2 recs stk)
            | some (.cv (.one (.raw v))) => bif isBoolV v then .fail else exec step ih ops b draw l i S recs stk o true
            | _ => .fail
  | .code c S stk =>
    match c with
    | .skip | .label _ => ih (.ex .normal S stk)
    | .region _ ops draw => match S with | ⟨sl, m, nx⟩ => ih (.ops none ops nx draw ops.toList 0 ⟨sl, m, nx⟩ [] stk)
    | .seq x y => ih (.code x S (.seq y :: stk))
    | .cond c x y => match S.ev c with | some (.cv (.one (.raw (.bool t)))) => .cond t (.code x S stk) (.code y S stk) | _ => .fail
    | .block id body => ih (.code body S (.block id :: stk))
    | .loop body => .loop body S stk
    | .exit id => ih (.ex (.exit id) S stk)
    | .ret => ih (.ex .ret S stk)
    | _ => .fail
  | .ex e S stk =>
    match stk with
    | [] => .done e S
    | .seq y :: r => match e with | .normal => ih (.code y S r) | e => ih (.ex e S r)
    | .block id :: r => match e with | .exit id' => (match Nat.beq id' id with | true => ih (.ex .normal S r) | false => ih (.ex (.exit id') S r)) | e => ih (.ex e S r)
def run (step : Step) (n : Nat) : Cfg → Node := Nat.rec (fun c => .more c) (fun _ ih c => stp step ih c) n
def stkK (step : Step) : List Fr → Exit → St → Tree
  | [] => Tree.done
  | .seq y :: r => fun e S => match e with | .normal => evalC step y S (stkK step r) | e => stkK step r e S
  | .block id :: r => fun e S => match e with | .exit id' => bif Nat.beq id' id then stkK step r .normal S else stkK step r (.exit id') S | e => stkK step r e S
def endK (step : Step) (ops : Array Oper) (b : Nat) (draw : Bool) (stk : List Fr) : List Rec → St → Tree := fun recs S' =>
  bif draw then .need (orderB ops recs b = true) (stkK step stk .normal ⟨S'.slots, S'.mem, b + ops.size⟩) else stkK step stk .normal ⟨S'.slots, S'.mem, b + ops.size⟩
def bodyT (step : Step) (ops : Array Oper) (b : Nat) (l : List Oper) (i : Nat) (recs : List Rec) (k : List Rec → St → Tree) (o : Oper) (S : St) (skip : Bool) : Tree :=
  match skip with
  | true => evalOps step ops b l (i + 1) (S.app o.dst skipRes) (skipRec :: recs) k
  | false =>
    match step S (b + i) o with
    | some (np, r, rd) => needs np (chk (Rec.ok (fun c => Nat.blt c (b + i + 1)) (b + i) ⟨false, r, rd⟩) (evalOps step ops b l (i + 1) (S.app o.dst r) (⟨false, r, rd⟩ :: recs) k))
    | none => .prim o S (b + i) fun r rd => chk (Rec.ok (fun c => Nat.blt c (b + i + 1)) (b + i) ⟨false, r, rd⟩) (evalOps step ops b l (i + 1) (S.app o.dst r) (⟨false, r, rd⟩ :: recs) k)
theorem evalOps_cons (step : Step) (ops : Array Oper) (b : Nat) (o : Oper) (l : List Oper) (i : Nat) (S : St) (recs : List Rec) (k : List Rec → St → Tree) :
    evalOps step ops b (o :: l) i S recs k = guarded ops S o (bodyT step ops b l i recs k o) := by
  simp only [evalOps, natK_eq, stK_eq, resK_eq]
  rfl
def Cfg.tree (step : Step) : Cfg → Tree
  | .ops none os b draw l i S recs stk => evalOps step os b l i S recs (endK step os b draw stk)
  | .ops (some _) os b draw [] i S recs stk => evalOps step os b [] i S recs (endK step os b draw stk)
  | .ops (some skip) os b draw (o :: l) i S recs stk => bodyT step os b l i recs (endK step os b draw stk) o S skip
  | .code c S stk => evalC step c S (stkK step stk)
  | .ex e S stk => stkK step stk e S
section
variable {P : Program} {C : Ctx} {Q : Exit → St → Prop} {step : Step}
def wpN (P : Program) (C : Ctx) (Q : Exit → St → Prop) (step : Step) : Node → Prop
  | .cond b t e => (b = true → wpT P C Q (t.tree step)) ∧ (b = false → wpT P C Q (e.tree step))
  | .need p c => p ∧ (p → wpT P C Q (c.tree step))
  | .prim o S d ops b draw l i recs stk => ∃ r rd, OpSound P S d o r rd ∧ Rec.ok (fun c => Nat.blt c (b + i + 1)) (b + i) ⟨false, r, rd⟩ = true ∧ wpT P C Q ((Cfg.ops none ops b draw l (i + 1) (S.app o.dst r) (⟨false, r, rd⟩ :: recs) stk).tree step)
  | .loop body S stk => wpT P C Q (.loop body S (stkK step stk))
  | .done e S => Q e S
  | .more c => wpT P C Q (c.tree step)
  | .fail => False
theorem exec_sound {ih : Cfg → Node} (hih : ∀ c, wpN P C Q step (ih c) → wpT P C Q (c.tree step)) {ops : Array Oper} {b : Nat} {draw : Bool} {l : List Oper} {i : Nat} {S : St} {recs : List Rec} {stk : List Fr} {o : Oper} {skip : Bool}
    (h : wpN P C Q step (exec step ih ops b draw l i S recs stk o skip)) : wpT P C Q (bodyT step ops b l i recs (endK step ops b draw stk) o S skip) := by
  simp only [exec, natK_eq] at h
  cases skip with
  | true =>
    simp only [stK_eq] at h
    exact hih _ h
  | false =>
    simp only at h
    simp only [bodyT]
    cases hst : step S (b + i) o with
    | none =>
      simp only [hst, wpN] at h
      obtain ⟨r, rd, h1, h2, h3⟩ := h
      refine ⟨r, rd, h1, ?_⟩
      simp only [chk, h2, cond_true]
      exact h3
    | some y =>
      obtain ⟨np, r, rd⟩ := y
      simp only [hst, lay, resK_eq] at h
      cases hok : Rec.ok (fun c => Nat.blt c (b + i + 1)) (b + i) ⟨false, r, rd⟩ with
      | false => simp only [hok, cond_false, wpN] at h
      | true =>
        simp only [hok, cond_true, stK_eq] at h
        simp only [chk, hok, cond_true]
        cases np with
        | none => exact hih _ h
        | some p => exact ⟨h.1, fun hp => h.2 hp⟩
theorem stp_sound {ih : Cfg → Node} (hih : ∀ c, wpN P C Q step (ih c) → wpT P C Q (c.tree step)) : ∀ c, wpN P C Q step (stp step ih c) → wpT P C Q (c.tree step)
  | .ops sk ops b draw [] i S recs stk, h => by
    have main : wpT P C Q (evalOps step ops b [] i S recs (endK step ops b draw stk)) := by
      simp only [stp, natK_eq] at h
      simp only [evalOps, endK]
      cases draw with
      | true => simp only [cond_true]; exact ⟨h.1, fun hp => h.2 hp⟩
      | false => simp only [cond_false]; exact hih _ h
    cases sk <;> exact main
  | .ops (some skip) ops b draw (o :: l) i S recs stk, h => exec_sound hih h
  | .ops none ops b draw (o :: l) i S recs stk, h => by
    simp only [Cfg.tree, evalOps_cons, guarded]
    simp only [stp] at h
    cases hg : o.guard with
    | none =>
      simp only [hg] at h ⊢
      exact exec_sound hih h
    | some gw =>
      obtain ⟨g, want⟩ := gw
      simp only [hg] at h ⊢
      cases hd : (ops[g]?).bind (·.dst) with
      | none => simp only [hd, wpN] at h
      | some dg =>
        simp only [hd] at h ⊢
        split at h
        · rename_i t ht
          simp only [stK_eq, wpN, Cfg.tree] at h
          rw [ht]
          exact h
        · rename_i v hnb ht
          rw [ht]
          cases hb : isBoolV v with
          | true => simp only [hb, cond_true, wpN] at h
          | false =>
            simp only [hb, cond_false] at h
            simp only [hb, cond_false]
            exact exec_sound hih h
        · simp only [wpN] at h
  | .code c S stk, h => by
    cases c with
    | skip => simp only [stp] at h; have h' := hih _ h; exact h'
    | label l => simp only [stp] at h; have h' := hih _ h; exact h'
    | region id ops draw =>
      simp only [stp] at h
      have := hih _ h
      simp only [Cfg.tree, evalC, evalRegion, natK_eq] at this ⊢
      exact this
    | seq x y => simp only [stp] at h; have h' := hih _ h; exact h'
    | cond c x y =>
      simp only [stp] at h
      simp only [Cfg.tree, evalC]
      split at h
      · rename_i t ht
        simp only [ht]
        exact h
      · simp only [wpN] at h
    | block id body => simp only [stp] at h; have h' := hih _ h; exact h'
    | loop body => simp only [stp] at h; exact h
    | exit id => simp only [stp] at h; have h' := hih _ h; exact h'
    | ret => simp only [stp] at h; have h' := hih _ h; exact h'
    | rangeFunc f p a b => simp only [stp, wpN] at h
    | scope b => simp only [stp, wpN] at h
    | goto l => simp only [stp, wpN] at h
    | refuse w => simp only [stp, wpN] at h
  | .ex e S [], h => by simp only [stp] at h; exact h
  | .ex e S (.seq y :: r), h => by
    cases e <;> (simp only [stp] at h; have h' := hih _ h; exact h')
  | .ex e S (.block id :: r), h => by
    cases e with
    | exit id' =>
      simp only [stp] at h
      simp only [Cfg.tree, stkK]
      cases hb : Nat.beq id' id with
      | true => simp only [hb, cond_true] at h ⊢; have h' := hih _ h; exact h'
      | false => simp only [hb, cond_false] at h ⊢; have h' := hih _ h; exact h'
    | _ => simp only [stp] at h; have h' := hih _ h; exact h'
theorem run_sound : ∀ (n : Nat) (c : Cfg), wpN P C Q step (run step n c) → wpT P C Q (c.tree step)
  | 0, _, h => h
  | n + 1, c, h => stp_sound (run_sound n) c h
theorem wGo {c : Cfg} (h : wpN P C Q step (run step 4000 c)) : wpT P C Q (c.tree step) := run_sound 4000 c h
theorem wT {t e : Cfg} (h : wpT P C Q (t.tree step)) : wpN P C Q step (.cond true t e) := ⟨fun _ => h, fun h => (by cases h)⟩
theorem wF {t e : Cfg} (h : wpT P C Q (e.tree step)) : wpN P C Q step (.cond false t e) := ⟨fun h => (by cases h), fun _ => h⟩
theorem wC {b : Bool} {t e : Cfg} (h1 : b = true → wpT P C Q (t.tree step)) (h2 : b = false → wpT P C Q (e.tree step)) : wpN P C Q step (.cond b t e) := ⟨h1, h2⟩
theorem wN {p : Prop} {c : Cfg} (hp : p) (h : wpT P C Q (c.tree step)) : wpN P C Q step (.need p c) := ⟨hp, fun _ => h⟩
theorem wO {ops : Array Oper} {recs : List Rec} {b : Nat} {c : Cfg} (hp : orderB ops recs b = true) (h : wpT P C Q (c.tree step)) : wpN P C Q step (.need (orderB ops recs b = true) c) := ⟨hp, fun _ => h⟩
theorem wP {o : Oper} {S : St} {d : Nat} {ops : Array Oper} {b : Nat} {draw : Bool} {l : List Oper} {i : Nat} {recs : List Rec} {stk : List Fr} (r : Res) (rd : List Nat) (h : OpSound P S d o r rd)
    (hk : wpN P C Q step (lay (run step 4000) ops b draw l i S recs stk o (b + i) none r rd)) : wpN P C Q step (.prim o S d ops b draw l i recs stk) := by
  refine ⟨r, rd, h, ?_⟩
  simp only [lay, resK_eq, stK_eq] at hk
  cases hok : Rec.ok (fun c => Nat.blt c (b + i + 1)) (b + i) ⟨false, r, rd⟩ with
  | false => simp only [hok, cond_false, wpN] at hk
  | true =>
    simp only [hok, cond_true] at hk
    exact ⟨rfl, run_sound 4000 _ hk⟩
theorem wD {e : Exit} {S : St} (h : Q e S) : wpN P C Q step (.done e S) := h
theorem wBegin {c : Code} {S : St} (h : wpN P C Q step (stK S fun S => run step 4000 (.code c S []))) : wpT P C Q (evalC step c S Tree.done) := by
  rw [stK_eq] at h
  exact run_sound 4000 _ h
end
theorem wTd {P : Program} {C : Ctx} {Q : Exit → St → Prop} {step : Step} {b : Bool} {t e : Cfg} (hb : b = true) (h : wpT P C Q (t.tree step)) : wpN P C Q step (.cond b t e) := ⟨fun _ => h, fun h => (by rw [hb] at h; cases h)⟩
theorem wFd {P : Program} {C : Ctx} {Q : Exit → St → Prop} {step : Step} {b : Bool} {t e : Cfg} (hb : b = false) (h : wpT P C Q (e.tree step)) : wpN P C Q step (.cond b t e) := ⟨fun h => (by rw [hb] at h; cases h), fun _ => h⟩
section
variable {P : Program} {C : Ctx} {Q : Exit → St → Prop} {step : Step}
theorem xT {t e : Cfg} (h : wpN P C Q step (run step 4000 t)) : wpN P C Q step (.cond true t e) := wT (wGo h)
theorem xF {t e : Cfg} (h : wpN P C Q step (run step 4000 e)) : wpN P C Q step (.cond false t e) := wF (wGo h)
theorem xO {ops : Array Oper} {recs : List Rec} {b : Nat} {c : Cfg} (h : wpN P C Q step (run step 4000 c)) (hp : orderB ops recs b = true := by kernel_rfl) : wpN P C Q step (.need (orderB ops recs b = true) c) := wO hp (wGo h)
theorem xN {p : Prop} {c : Cfg} (h : wpN P C Q step (run step 4000 c)) (hp : p := by decide) : wpN P C Q step (.need p c) := wN hp (wGo h)
theorem xU {b : Bool} {t e : Cfg} (h : wpN P C Q step (run step 4000 t)) (hb : b = true := by decide) : wpN P C Q step (.cond b t e) := wTd hb (wGo h)
theorem xV {b : Bool} {t e : Cfg} (h : wpN P C Q step (run step 4000 e)) (hb : b = false := by decide) : wpN P C Q step (.cond b t e) := wFd hb (wGo h)
end
theorem ww1 (n : Int) : IntKind.i64.wrap n = (n + 9223372036854775808) % 18446744073709551616 - 9223372036854775808 := IntKind.wrap_i64 n
theorem ww2 (n : Int) : IntKind.u64.wrap n = n % 18446744073709551616 := IntKind.wrap_u64 n
theorem ww3 (n : Int) : IntKind.u32.wrap n = n % 4294967296 := IntKind.wrap_u32 n
theorem ww4 (n : Int) : IntKind.u8.wrap n = n % 256 := IntKind.wrap_u8 n
theorem ww5 {p : Prop} [Decidable p] : (decide p = true) = p := decide_eq_true_eq
theorem ww6 {p : Prop} [Decidable p] : (decide p = false) = ¬p := propext decide_eq_false_iff_not
theorem ww7 (n : Nat) : ((n : Int)).toNat = n := Int.toNat_natCast n
inductive Nx : Node → Cfg → Prop where
  | t {t e : Cfg} : Nx (.cond true t e) t
  | f {t e : Cfg} : Nx (.cond false t e) e
  | o {ops : Array Oper} {recs : List Rec} {b : Nat} {c : Cfg} (hp : orderB ops recs b = true) : Nx (.need (orderB ops recs b = true) c) c
  | n {p : Prop} {c : Cfg} (hp : p) : Nx (.need p c) c
  | u {b : Bool} {t e : Cfg} (hb : b = true) : Nx (.cond b t e) t
  | v {b : Bool} {t e : Cfg} (hb : b = false) : Nx (.cond b t e) e
theorem xS {P : Program} {C : Ctx} {Q : Exit → St → Prop} {step : Step} {n : Node} {c : Cfg} (h : wpN P C Q step (run step 4000 c)) (hn : Nx n c := by with_reducible first | exact .t | exact .f | exact .o (by kernel_rfl) | exact .n (by decide) | exact .u (by decide) | exact .v (by decide)) : wpN P C Q step n := by
  cases hn with
  | t => exact xT h
  | f => exact xF h
  | o hp => exact xO h hp
  | n hp => exact xN h hp
  | u hb => exact xU h hb
  | v hb => exact xV h hb
theorem ww : (∀ n : Int, IntKind.i64.wrap n = (n + 9223372036854775808) % 18446744073709551616 - 9223372036854775808) ∧ (∀ n : Int, IntKind.u64.wrap n = n % 18446744073709551616) ∧ (∀ n : Int, IntKind.u32.wrap n = n % 4294967296) ∧ (∀ n : Int, IntKind.u8.wrap n = n % 256) ∧ (∀ (p : Prop) [Decidable p], (decide p = true) = p) ∧ (∀ (p : Prop) [Decidable p], (decide p = false) = ¬p) ∧ (∀ n : Nat, ((n : Int)).toNat = n) :=
  ⟨ww1, ww2, ww3, ww4, fun _ _ => ww5, fun _ _ => ww6, ww7⟩
theorem xZ {p q : Prop} (h : q) (e : q → p := by (intro h; (conv => arg 5; whnf); (repeat (refine xS ?_; conv => arg 5; whnf)); exact h)) : p := e h
theorem xG {p q : Prop} (h : q) (e : q → p := by (intro h; refine wGo ?_; (conv => arg 5; whnf); (repeat (refine xS ?_; conv => arg 5; whnf)); exact h)) : p := e h
theorem xB {p q : Prop} (h : q) (e : q → p := by (intro h; refine wBegin ?_; (conv => arg 5; whnf); (repeat (refine xS ?_; conv => arg 5; whnf)); exact h)) : p := e h
theorem xW {p : Prop} (h : p := by (try simp only [ww] at *); omega) : p := h
open Go.RowKit
def Tri (P : Program) (C : Ctx) (c : Code) (S : St) (Q : Exit → St → Prop) : Prop := ∀ a w, SatC C S a w → c.wp P (fun e a' w' => ∃ S', SatC C S' a' w' ∧ Q e S') a w
theorem Tri.of {P : Program} {C : Ctx} {T : TyTab} {c : Code} {S : St} {Q : Exit → St → Prop} (hm : P.follows .mixedOrders = true) (hT : TabOK P T) (h : wpT P C Q (evalC (stepOp T) c S Tree.done)) : Tri P C c S Q :=
  fun a w hs => wp_mono (evalC_sound hm (stepOp_sound hT) c S Tree.done a w h hs) fun _ _ _ ⟨S', h1, h2⟩ => ⟨S', h1, h2⟩
theorem Tri.ent {P : Program} {C : Ctx} {c : Code} {S S' : St} {Q : Exit → St → Prop} (h : Ent C S S') (k : Tri P C c S' Q) : Tri P C c S Q := fun a w hs => k a w (h a w hs)
def CallSpec (P : Program) (f : FuncId) (Xs : List CV) (M : Mem) (d : Nat) (r : Res) (rd : List Nat) : Prop :=
  ∀ (β : Nat → Loc) (ow : Nat → Option Nat) (w : World) (vs : List Value), WF ow w → (∀ k, ow k ≠ some d) → CVs β Xs vs → (∀ c ∈ rd, ∀ ch, M.get c = some ch → Holds β ow w c ch) →
    Calls P f vs.toArray w fun e w' => ∃ v β' ow', e = .returned v ∧ Eff β ow w β' ow' w' r.wr d ∧ r.v.rel β' v ∧ ∀ c ch, Mem.get r.upd c = some ch → Holds β' ow' w' c ch
def entersB (P : Program) (f : FuncId) : Bool :=
  match P.funcs[f]? with
  | some fn => !(fn.name == "runtime.NumGoroutine") && fn.body.isSome
  | none => false
theorem enters {P : Program} {f : FuncId} (h : entersB P f = true) (args : Array Value) (w : World) : (callFunc f args).run P w = .ok (.enter f args) w := by
  unfold entersB at h
  split at h
  · rename_i fn hf
    simp only [Bool.and_eq_true, Bool.not_eq_true'] at h
    obtain ⟨h1, h2⟩ := h
    have h3 : fn.body.isNone = false := by cases hb : fn.body <;> simp_all
    unfold callFunc
    simp only [Sem.run_bind, run_program, Result.andThen_ok, hf, h1, h3, Bool.false_eq_true, if_false, Sem.run_pure]
  · cases h
theorem entersB_of {P : Program} {f : FuncId} {fn : Func} (hf : P.funcs[f]? = some fn) (h : (!(fn.name == "runtime.NumGoroutine") && fn.body.isSome) = true) : entersB P f = true := by
  unfold entersB
  rw [hf]
  exact h
def evs (S : St) : List Operand → Option (List CV)
  | [] => some []
  | x :: r => match S.ev x, evs S r with | some (.cv c), some l => some (c :: l) | _, _ => none
theorem evs_ok {β : Nat → Loc} {S : St} {ρ : Operand → Value} : ∀ (xs : List Operand) (Xs : List CV), evs S xs = some Xs → (∀ x ∈ xs, ∀ X, S.ev x = some X → X.rel β (ρ x)) → CVs β Xs (xs.map ρ)
  | [], Xs, h, _ => by simp only [evs, Option.some.injEq] at h; subst h; rfl
  | x :: r, Xs, h, hx => by
    simp only [evs] at h
    split at h
    · rename_i c l h1 h2
      cases h
      exact ⟨_, _, rfl, hx x (by simp) _ h1, evs_ok r l h2 (fun y hy => hx y (by simp [hy]))⟩
    · cases h
theorem call_op {P : Program} {S : St} {d : Nat} {o : Oper} {f : FuncId} {args : Array Operand} {argTypes : Array TypeId} {Xs : List CV} {r : Res} {rd : List Nat} (ho : o.op = .call { callee := .value (.func f), args := args, argTypes := argTypes })
    (hf : entersB P f = true) (hx : evs S args.toList = some Xs) (h : CallSpec P f Xs S.mem d r rd) : OpSound P S d o r rd := by
  intro β ow w a K Q hw hd hops hr hK
  have hvs := evs_ok (β := β) (ρ := a.eval) args.toList Xs hx (fun x hx X hX => hops x (by rw [ho]; simp [Op.operands, Call.operands]; exact .inr (Array.mem_toList_iff.1 hx)) X hX)
  have hc := h β ow w _ hw hd hvs hr
  have hrun : (execOp a.eval o).run P w = .ok (.enter f (args.toList.map a.eval).toArray) w := by
    have e1 : (args.toList.map a.eval).toArray = args.map a.eval := by rw [← Array.toList_map, Array.toArray_toList]
    rw [e1]
    simp only [execOp, ho, resolve, Act.eval, Deferred.ofValue, Sem.run_bind, Sem.run_pure, Result.andThen_ok, invoke]
    simp [enters hf]
  unfold Oper.wp
  rw [hrun]
  refine hc.mono ?_
  rintro e w' ⟨v, β', ow', rfl, h1, h2, h3⟩
  exact hK β' ow' w' v h1 h2 h3
def SV.ren (ρ : Nat → Nat) : SV → SV
  | .raw v => .raw v
  | .ptr c i sz j => .ptr (ρ c) i sz j
  | .slc c sz lo len => .slc (ρ c) sz lo len
  | .map c => .map (ρ c)
  | .inn c j => .inn (ρ c) j
  | .sla c off sz len cap => .sla (ρ c) off sz len cap
  | .ins c m j len => .ins (ρ c) m j len
  | .fn f caps => .fn f (caps.map ρ)
def CV.ren (ρ : Nat → Nat) : CV → CV
  | .one s => .one (s.ren ρ)
  | .agg cs => .agg (cs.map (SV.ren ρ))
def XV.ren (ρ : Nat → Nat) : XV → XV
  | .cv c => .cv (c.ren ρ)
  | .tup l => .tup (l.map (CV.ren ρ))
section
variable {β : Nat → Loc} {ρ : Nat → Nat}
theorem SV.ren_rel (s : SV) (v : Value) : (s.ren ρ).rel β v ↔ s.rel (fun c => β (ρ c)) v := by
  cases s with
  | fn f caps => simp only [SV.ren, SV.rel, List.map_map]; rfl
  | _ => rfl
theorem Rels.ren : ∀ (ss : List SV) (vs : List Value), Rels β (ss.map (SV.ren ρ)) vs ↔ Rels (fun c => β (ρ c)) ss vs
  | [], vs => Iff.rfl
  | s :: ss, vs => by
    simp only [List.map_cons, Rels, SV.ren_rel, Rels.ren ss]
theorem CV.ren_rel (s : CV) (v : Value) : (s.ren ρ).rel β v ↔ s.rel (fun c => β (ρ c)) v := by
  cases s with
  | one s => exact SV.ren_rel s v
  | agg cs => simp only [CV.ren, CV.rel, Rels.ren]
theorem CVs.ren : ∀ (ss : List CV) (vs : List Value), CVs β (ss.map (CV.ren ρ)) vs ↔ CVs (fun c => β (ρ c)) ss vs
  | [], vs => Iff.rfl
  | s :: ss, vs => by
    simp only [List.map_cons, CVs, CV.ren_rel, CVs.ren ss]
theorem XV.ren_rel (s : XV) (v : Value) : (s.ren ρ).rel β v ↔ s.rel (fun c => β (ρ c)) v := by
  cases s with
  | cv s => exact CV.ren_rel s v
  | tup l => simp only [XV.ren, XV.rel, CVs.ren]
end
def Chunk.closed : Chunk → Bool
  | .cells _ cs => cs.all (SV.ok fun _ => false)
  | _ => true
def Chunk.isRo : Chunk → Bool
  | .ro _ _ _ => true
  | .ext _ => true
  | _ => false
theorem Holds.move {β β' : Nat → Loc} {ow ow' : Nat → Option Nat} {w : World} {c c' : Nat} {ch : Chunk} (hc : ch.closed = true) (hl : β' c' = β c) (ho : ch.isRo = false → ∀ k, ow' k = some c' ↔ ow k = some c)
    (hn : ch.isRo = true → ∀ k, ow k = none → ow' k = none) (h : Holds β ow w c ch) : Holds β' ow' w c' ch := by
  cases ch with
  | cells e cs =>
    obtain ⟨h0, h1, h2, arr, h3, h4⟩ := h
    exact ⟨by rw [hl]; exact h0, by rw [hl]; exact h1, by rw [hl]; exact (ho rfl _).2 h2, arr, by rw [hl]; exact h3, Rels.congr (p := fun _ => false) (fun _ h => by cases h) hc h4⟩
  | vec e sz n f =>
    simp only [Holds] at h ⊢
    rw [hl]
    by_cases hn' : (β c).nil = true
    · rw [if_pos hn'] at h ⊢; exact h
    · rw [if_neg hn'] at h ⊢
      obtain ⟨h1, h2, h3⟩ := h
      exact ⟨h1, (ho rfl _).2 h2, h3⟩
  | ro sz n f =>
    simp only [Holds] at h ⊢
    rw [hl]
    by_cases hn' : (β c).nil = true
    · rw [if_pos hn'] at h ⊢; exact h
    · rw [if_neg hn'] at h ⊢
      exact ⟨hn rfl _ h.1, h.2⟩
  | abs A =>
    obtain ⟨h0, h1, h2⟩ := h
    refine ⟨by rw [hl]; exact h0, by rw [hl]; exact h1, ?_⟩
    rw [hl]
    exact A.loc (fun _ _ => rfl) (fun k => ho rfl k) h2
  | ext A =>
    obtain ⟨O, h1, h2⟩ := h
    exact ⟨O, fun k hk => ⟨hn rfl _ (h1 k hk).1, (h1 k hk).2⟩, by rw [hl]; exact h2⟩
def lidx (c : Nat) : List Nat → Option Nat
  | [] => none
  | x :: r => if x = c then some 0 else (lidx c r).map (· + 1)
theorem lidx_get {c : Nat} : ∀ {l : List Nat} {i : Nat}, lidx c l = some i → l[i]? = some c
  | [], i, h => by simp [lidx] at h
  | x :: r, i, h => by
    simp only [lidx] at h
    by_cases hx : x = c
    · rw [if_pos hx] at h; cases h; simp [hx]
    · rw [if_neg hx] at h
      cases hr : lidx c r with
      | none => simp [hr] at h
      | some j => simp [hr] at h; subst h; simpa using lidx_get hr
theorem lidx_nodup {l : List Nat} (hl : l.Nodup) {c : Nat} {i : Nat} (h : l[i]? = some c) : lidx c l = some i := by
  induction l generalizing i with
  | nil => simp at h
  | cons x r ih =>
    obtain ⟨h1, h2⟩ := List.nodup_cons.1 hl
    cases i with
    | zero => simp at h; simp [lidx, h]
    | succ i =>
      have h' : r[i]? = some c := by simpa using h
      have hx : ¬ x = c := fun e => h1 (e ▸ List.mem_of_getElem? h')
      simp [lidx, hx, ih h2 h']
structure Out where
  v : XV
  upd : List (Nat × Chunk) := []
  fr : Option (Nat × Chunk) := none
def Ends (C : Ctx) (T : TyTab) (rs : List ResultVar) (k1 n0 : Nat) (out : Out) (e : Exit) (S : St) : Prop :=
  (e = .normal ∨ e = .ret) ∧ ∃ S', Ent C S S' ∧ resX T S' rs = some out.v ∧ (∀ i ch, Mem.get out.upd i = some ch → i < k1 ∧ S'.mem.get i = some ch) ∧ (∀ i ch, out.fr = some (i, ch) → n0 ≤ i ∧ S'.mem.get i = some ch)
def renOut (ids : List Nat) (d : Nat) (fr : Option (Nat × Chunk)) (c : Nat) : Nat :=
  match fr with
  | some (i, _) => if c = i then d else (ids[c]?).getD d
  | none => (ids[c]?).getD d
theorem spec_of_text {P : Program} {T : TyTab} {f : FuncId} {fn : Func} {c : Code} (hT : TabOK P T) (hf : P.funcs[f]? = some fn) (hb : fn.body = some c)
    {Xl : List CV} {M0 : Mem} {k1 n0 : Nat} {ids rids : List Nat} {d : Nat} {M : Mem} {out : Out} (hids : ids.Nodup) (hk1 : ids.length = k1) (hn0 : k1 + rids.length = n0) (hd : d ∉ ids ++ rids)
    (hXl : Xl.all (CV.ok fun i => Nat.blt i n0) = true) (hM0 : ∀ i ch, M0.get i = some ch → i < n0 ∧ ch.closed = true ∧ (k1 ≤ i → ch.isRo = true) ∧ ∀ ci, (ids ++ rids)[i]? = some ci → M.get ci = some ch)
    (hup : ∀ i ch, Mem.get out.upd i = some ch → ch.closed = true ∧ ch.isRo = false) (hfr : ∀ i ch, out.fr = some (i, ch) → ch.closed = true ∧ ch.isRo = false)
    (hv : out.v.ok (fun i => Nat.blt i n0 || (match out.fr with | some (j, _) => Nat.beq j i | none => false)) = true)
    (h : ∀ C : Ctx, C.n0 = n0 → Tri P C c ⟨slots0 fn.ntmps (Xl.map .cv), M0, n0⟩ (Ends C T fn.results.toList k1 n0 out))
    {Xs : List CV} (hXs : Xs = Xl.map (CV.ren fun i => ((ids ++ rids)[i]?).getD d)) {r : Res} (hrv : r.v = out.v.ren (renOut (ids ++ rids) d out.fr)) (hwr : r.wr = ids)
    (hru : ∀ c ch, Mem.get r.upd c = some ch → (∃ i, ids[i]? = some c ∧ Mem.get out.upd i = some ch) ∨ (c = d ∧ ∃ i, out.fr = some (i, ch))) : CallSpec P f Xs M d r (ids ++ rids) := by
  intro β ow w vs hw hfresh hvs hr
  subst hXs
  let ρ : Nat → Nat := fun i => ((ids ++ rids)[i]?).getD d
  let βl : Nat → Loc := fun i => β (ρ i)
  let owl : Nat → Option Nat := fun k => (ow k).bind fun c => lidx c ids
  have hargs : CVs βl Xl vs := (CVs.ren Xl vs).1 hvs
  have hdi : d ∉ ids := fun h => hd (List.mem_append_left _ h)
  have hwl : WF owl w := fun k hk => hw k (fun e => hk (by simp [owl, e]))
  have hown : ∀ k i, owl k = some i ↔ ∃ ci, ids[i]? = some ci ∧ ow k = some ci := by
    intro k i
    constructor
    · intro hk
      cases ho : ow k with
      | none => simp [owl, ho] at hk
      | some ci => exact ⟨ci, lidx_get (by simpa [owl, ho] using hk), rfl⟩
    · rintro ⟨ci, h1, h2⟩
      simp only [owl, h2, Option.bind_some]
      exact lidx_nodup hids h1
  have hownlt : ∀ k i, owl k = some i → i < k1 := by
    intro k i hk
    obtain ⟨ci, e1, _⟩ := (hown k i).1 hk
    rw [← hk1]
    exact (List.getElem?_eq_some_iff.1 e1).1
  let C : Ctx := { w0 := w, own0 := fun k => owl k ≠ none, β0 := βl, n0 := n0 }
  have hheld : ∀ i ch, M0.get i = some ch → Holds βl owl w i ch := by
    intro i ch hi
    obtain ⟨h1, h2, h4, h3⟩ := hM0 i ch hi
    have hil : i < (ids ++ rids).length := by rw [List.length_append]; omega
    have hci : (ids ++ rids)[i]? = some (ids ++ rids)[i] := List.getElem?_eq_getElem hil
    have hm := hr (ids ++ rids)[i] (List.getElem_mem hil) ch (h3 _ hci)
    refine Holds.move (β := β) (ow := ow) (c := (ids ++ rids)[i]) h2 (by simp [βl, ρ, hci]) (fun hro k => ?_) (fun _ k hk => by simp [owl, hk]) hm
    have hik : i < k1 := by
      rcases Nat.lt_or_ge i k1 with h' | h'
      · exact h'
      · rw [h4 h'] at hro; cases hro
    have hci' : ids[i]? = some (ids ++ rids)[i] := by rw [← hci, List.getElem?_append_left (by omega)]
    rw [hown]
    constructor
    · rintro ⟨ci, e1, e2⟩; rw [hci'] at e1; cases e1; exact e2
    · intro e; exact ⟨_, hci', e⟩
  have hlenv : vs.length = Xl.length := by
    have : ∀ (a : List CV) (b : List Value), CVs βl a b → b.length = a.length := by
      intro a
      induction a with
      | nil => intro b hb; cases hb; rfl
      | cons x r ih => rintro b ⟨v, r', rfl, _, h2⟩; simp [ih r' h2]
    exact this _ _ hargs
  have hsat : SatC C ⟨slots0 fn.ntmps (Xl.map .cv), M0, n0⟩ { tmps := vs.toArray ++ Array.replicate (fn.ntmps - vs.toArray.size) undef, defers := [] } w := by
    have look : ∀ (a : List CV) (b : List Value) (m : Nat), CVs βl a b → ∀ t X, lget (a.map (fun c => some (XV.cv c)) ++ List.replicate m none) t = some X → ∃ v, b[t]? = some v ∧ X.rel βl v ∧ ∃ c ∈ a, X = .cv c := by
      intro a
      induction a with
      | nil =>
        intro b m _ t X hX
        exfalso
        have : ∀ m t, lget (List.replicate m none) t = none := by
          intro m
          induction m with
          | zero => intro t; rfl
          | succ m ih => intro t; cases t <;> simp [List.replicate_succ, lget, ih]
        simp [this] at hX
      | cons x r ih =>
        rintro b m ⟨v, r', rfl, h1, h2⟩ t X hX
        cases t with
        | zero => simp only [List.map_cons, List.cons_append, lget, Option.some.injEq] at hX; subst hX; exact ⟨v, rfl, h1, x, by simp, rfl⟩
        | succ t =>
          simp only [List.map_cons, List.cons_append, lget] at hX
          obtain ⟨v', e1, e2, c, e3, e4⟩ := ih r' m h2 t X hX
          exact ⟨v', by simpa using e1, e2, c, by simp [e3], e4⟩
    have hsl : slots0 fn.ntmps (Xl.map .cv) = Xl.map (fun c => some (XV.cv c)) ++ List.replicate (fn.ntmps - Xl.length) none := by simp [slots0]
    refine ⟨βl, owl, ⟨rfl, ?_, ?_, hheld, hwl⟩, ⟨?_, ?_⟩, ⟨rfl, rfl, rfl, Nat.le_refl _, fun k _ hk => ⟨rfl, by simpa [C] using hk⟩, fun _ _ => rfl⟩, Nat.le_refl _, ?_⟩
    · simp [hsl, hlenv]
    · intro t X hX
      rw [hsl] at hX
      obtain ⟨v, e1, e2, _⟩ := look Xl vs _ hargs t X hX
      have : (vs.toArray ++ Array.replicate (fn.ntmps - vs.toArray.size) undef).getD t undef = v := by
        have hlt : t < vs.length := (List.getElem?_eq_some_iff.1 e1).1
        rw [Array.getD_eq_getD_getElem?, Array.getElem?_append_left (by simpa using hlt)]
        simp [e1]
      rw [this]; exact e2
    · intro t X hX
      rw [hsl] at hX
      obtain ⟨v, _, _, cv, e3, rfl⟩ := look Xl vs _ hargs t X hX
      exact List.all_eq_true.1 hXl cv e3
    · intro i ch hi
      obtain ⟨h1, h2, _⟩ := hM0 i ch hi
      refine ⟨by simpa using h1, ?_⟩
      cases ch with
      | cells e cs => exact SVs.ok_mono (fun _ h => by cases h) h2
      | _ => rfl
    · intro k i hk
      have := hownlt k i hk
      simp only [Nat.blt_eq]; omega
  refine calls_of_wp hf hb (wp_mono (h C rfl _ w hsat) ?_)
  rintro e a w' ⟨S', hs', he⟩
  obtain ⟨hex, S2, hent, hres, hupd, hfre⟩ := he
  obtain ⟨β1, ow1, g1, g2, g3, g4, g5⟩ := hent a w' hs'
  obtain ⟨x, hx, hrel⟩ := resX_ok hT g1 hres
  have hg : a.defers = [] := g1.defers
  have key : ∃ v β' ow', Ending.returned x = .returned v ∧ Eff β ow w β' ow' w' r.wr d ∧ r.v.rel β' v ∧ ∀ c ch, Mem.get r.upd c = some ch → Holds β' ow' w' c ch := by
    let jf : Nat := match out.fr with | some (i, _) => i | none => n0
    let β' : Nat → Loc := setβ β d (β1 jf)
    -- who owns what, in the caller's numbers
    let ow' : Nat → Option Nat := fun k =>
      match ow1 k with
      | some i => if i < k1 then ids[i]? else (match out.fr with | some (j, _) => if i = j then some d else none | none => none)
      | none => if k < w.heap.size ∧ owl k = none then ow k else none
    have hβl : ∀ i, i < n0 → β1 i = β (ρ i) := fun i hi => g3.beta i hi
    have hfn : ∀ i ch, out.fr = some (i, ch) → n0 ≤ i := fun i ch hi => (hfre i ch hi).1
    have hmem : ∀ i, i < n0 → ∃ ci, (ids ++ rids)[i]? = some ci ∧ ci ∈ ids ++ rids := fun i hi => by
      have hil : i < (ids ++ rids).length := by rw [List.length_append]; omega
      exact ⟨(ids ++ rids)[i], List.getElem?_eq_getElem hil, List.getElem_mem hil⟩
    have hold : ∀ k, k < w.heap.size → (∀ c ∈ ids, ow k ≠ some c) → w'.heap[k]? = w.heap[k]? ∧ ow' k = ow k := by
      intro k hk hne
      have hno : owl k = none := by
        cases ho : owl k with
        | none => rfl
        | some i =>
          obtain ⟨ci, e1, e2⟩ := (hown k i).1 ho
          exact absurd e2 (hne ci (List.mem_of_getElem? e1))
      obtain ⟨e1, e2⟩ := g3.keep k hk (by simp [C, hno])
      exact ⟨e1, by simp [ow', e2, hk, hno]⟩
    have hβd : ∀ c, c ≠ d → β' c = β c := fun c hc => by simp [β', setβ, hc]
    refine ⟨x, β', ow', rfl, ⟨hβd, g3.os, g3.tape, g3.output, g3.size, ?_, ?_, ?_⟩, ?_, ?_⟩
    · intro k hk hne; rw [hwr] at hne; exact hold k hk hne
    · intro k hk c0 hc
      rw [hwr]
      rw [hwr] at hk
      simp only [ow'] at hc
      cases ho : ow1 k with
      | some i =>
        simp only [ho] at hc
        by_cases hi : i < k1
        · rw [if_pos hi] at hc
          exact .inl (List.mem_of_getElem? hc)
        · rw [if_neg hi] at hc
          split at hc
          · split at hc
            · cases hc; exact .inr rfl
            · cases hc
          · cases hc
      | none =>
        simp only [ho] at hc
        split at hc
        · rename_i hcond
          rcases hk with hk | ⟨c1, h1, h2⟩
          · omega
          · exfalso
            have hidx : ∃ i, ids[i]? = some c1 := List.getElem?_of_mem h1
            obtain ⟨i, hi⟩ := hidx
            have := (hown k i).2 ⟨c1, hi, h2⟩
            rw [hcond.2] at this; cases this
        · cases hc
    · intro k hk
      simp only [ow'] at hk
      cases ho : ow1 k with
      | some i => exact g1.wf k (by simp [ho])
      | none =>
        simp only [ho] at hk
        split at hk
        · rename_i hcond
          exact Nat.lt_of_lt_of_le hcond.1 g3.size
        · exact absurd rfl hk
    · rw [hrv, XV.ren_rel]
      refine XV.rel_congr (p := fun i => Nat.blt i n0 || (match out.fr with | some (j, _) => Nat.beq j i | none => false)) (fun i hi => ?_) hv hrel
      simp only [Bool.or_eq_true, Nat.blt_eq] at hi
      rcases hi with hi | hi
      · obtain ⟨ci, e1, e2⟩ := hmem i hi
        have hr : renOut (ids ++ rids) d out.fr i = ci := by
          unfold renOut
          split
          · rename_i j ch hj
            have := hfn j ch hj
            rw [if_neg (by omega), e1]; rfl
          · rw [e1]; rfl
        rw [hr, hβd ci (fun e => hd (e ▸ e2)), hβl i hi]
        simp [ρ, e1]
      · cases hfo : out.fr with
        | none => simp [hfo] at hi
        | some y =>
          obtain ⟨j, ch⟩ := y
          simp only [hfo, nbeq, decide_eq_true_eq] at hi
          subst hi
          simp [renOut, β', setβ, jf, hfo]
    · intro c0 ch hc
      rcases hru c0 ch hc with ⟨i, e1, e2⟩ | ⟨rfl, i, e2⟩
      · obtain ⟨h1, h2⟩ := hupd i ch e2
        have e1' : (ids ++ rids)[i]? = some c0 := by rw [List.getElem?_append_left (by omega)]; exact e1
        refine Holds.move (β := β1) (ow := ow1) (c := i) (hup i ch e2).1 ?_ (fun _ k => ?_) (fun hro => by rw [(hup i ch e2).2] at hro; cases hro) (g1.mem i ch h2)
        · have hm' : c0 ∈ ids := List.mem_of_getElem? e1
          rw [hβd c0 (fun e => hdi (e ▸ hm')), hβl i (by omega)]
          simp [ρ, e1']
        · simp only [ow']
          constructor
          · intro hk
            cases ho : ow1 k with
            | some i' =>
              simp only [ho] at hk
              by_cases hi' : i' < k1
              · rw [if_pos hi'] at hk
                have := lidx_nodup hids hk
                rw [lidx_nodup hids e1] at this
                cases this; rfl
              · rw [if_neg hi'] at hk
                split at hk
                · split at hk
                  · cases hk; exact absurd (List.mem_of_getElem? e1) hdi
                  · cases hk
                · cases hk
            | none =>
              simp only [ho] at hk
              split at hk
              · rename_i hcond
                have := (hown k i).2 ⟨c0, e1, hk⟩
                rw [hcond.2] at this; cases this
              · cases hk
          · intro hk
            rw [hk]
            simp only [if_pos h1, e1]
      · obtain ⟨h1, h2⟩ := hfre i ch e2
        refine Holds.move (β := β1) (ow := ow1) (c := i) (hfr i ch e2).1 (by simp [β', setβ, jf, e2]) (fun _ k => ?_) (fun hro => by rw [(hfr i ch e2).2] at hro; cases hro) (g1.mem i ch h2)
        simp only [ow']
        constructor
        · intro hk
          cases ho : ow1 k with
          | some i' =>
            simp only [ho] at hk
            by_cases hi' : i' < k1
            · rw [if_pos hi'] at hk
              exact absurd (List.mem_of_getElem? hk) hdi
            · rw [if_neg hi', e2] at hk
              simp only at hk
              split at hk
              · rename_i he; rw [he]
              · cases hk
          | none =>
            simp only [ho] at hk
            split at hk
            · exact absurd hk (hfresh k)
            · cases hk
        · intro hk
          rw [hk]
          have : ¬ i < k1 := by omega
          simp only [if_neg this, e2, if_true]
  rcases hex with rfl | rfl
  · exact ⟨hg, x, hx, key⟩
  · exact ⟨hg, x, hx, key⟩
open Go.RowKit
theorem SV.ren_on {p : Nat → Bool} {ρ : Nat → Nat} (h : ∀ c, p c = true → ρ c = c) {s : SV} (hs : s.ok p = true) : s.ren ρ = s := by
  cases s with
  | raw v => rfl
  | fn f caps =>
    simp only [SV.ok, List.all_eq_true] at hs
    simp only [SV.ren]
    congr 1
    exact (List.map_congr_left fun c hc => h c (hs c hc)).trans (List.map_id' caps)
  | _ => simp only [SV.ok] at hs; simp only [SV.ren]; rw [h _ hs]
theorem SV.ren_closed {ρ : Nat → Nat} {s : SV} (h : s.ok (fun _ => false) = true) : s.ren ρ = s := by
  cases s with
  | fn f caps =>
    simp only [SV.ok, List.all_eq_true] at h
    have : caps = [] := by
      cases caps with
      | nil => rfl
      | cons c r => exact absurd (h c (List.mem_cons_self ..)) (by simp)
    subst this
    rfl
  | raw v => rfl
  | _ => cases h
theorem SVs.ren_closed {ρ : Nat → Nat} : ∀ {l : List SV}, l.all (SV.ok fun _ => false) = true → l.map (SV.ren ρ) = l
  | [], _ => rfl
  | s :: r, h => by
    simp only [List.all_cons, Bool.and_eq_true] at h
    rw [List.map_cons, SV.ren_closed h.1, SVs.ren_closed h.2]
theorem CV.ren_closed {ρ : Nat → Nat} {s : CV} (h : s.ok (fun _ => false) = true) : s.ren ρ = s := by
  cases s with
  | one s => simp only [CV.ren, SV.ren_closed h]
  | agg cs => simp only [CV.ren, SVs.ren_closed h]
theorem CVs.ren_closed {ρ : Nat → Nat} : ∀ {l : List CV}, l.all (CV.ok fun _ => false) = true → l.map (CV.ren ρ) = l
  | [], _ => rfl
  | s :: r, h => by
    simp only [List.all_cons, Bool.and_eq_true] at h
    rw [List.map_cons, CV.ren_closed h.1, CVs.ren_closed h.2]
theorem XV.ren_closed {ρ : Nat → Nat} {s : XV} (h : s.ok (fun _ => false) = true) : s.ren ρ = s := by
  cases s with
  | cv s => simp only [XV.ren, CV.ren_closed h]
  | tup l => simp only [XV.ren, CVs.ren_closed h]
theorem Ends.plain {C : Ctx} {T : TyTab} {rs : List ResultVar} {n0 : Nat} {X v : XV} {S : St} {e : Exit} (he : e = .normal ∨ e = .ret) (hr : resX T S rs = some v) (hv : v = X) : Ends C T rs 0 n0 ⟨X, [], none⟩ e S :=
  ⟨he, S, Ent.refl S, by rw [hr, hv], fun i ch h => by simp [Mem.get] at h, fun i ch h => by cases h⟩
def Chunk.isCells : Chunk → Bool
  | .cells _ _ => true
  | _ => false
def Chunk.ren (ρ : Nat → Nat) : Chunk → Chunk
  | .cells e cs => .cells e (cs.map (SV.ren ρ))
  | ch => ch
def Mem.ren (ρ : Nat → Nat) : Mem → Mem
  | [] => []
  | (c, ch) :: r => (ρ c, ch.ren ρ) :: Mem.ren ρ r
def ChLe : Chunk → Chunk → Prop
  | .cells e cs, .cells e' cs' => e = e' ∧ cs = cs'
  | .vec e sz n f, .vec e' sz' n' f' => e = e' ∧ sz = sz' ∧ n' ≤ n ∧ ∀ i, i < n' → f i = f' i
  | .abs A, .abs A' => A = A'
  | _, _ => False
theorem ChLe.holds {a b : Chunk} (h : ChLe a b) {β : Nat → Loc} {ow : Nat → Option Nat} {w : World} {c : Nat} (H : Holds β ow w c a) : Holds β ow w c b := by
  cases a <;> cases b <;> simp only [ChLe] at h
  · obtain ⟨rfl, rfl⟩ := h; exact H
  · obtain ⟨rfl, rfl, hle, hf⟩ := h
    simp only [Holds] at H ⊢
    by_cases hn : (β c).nil = true
    · rw [if_pos hn] at H ⊢; omega
    · rw [if_neg hn] at H ⊢
      obtain ⟨h1, h2, h3, h4, arr, h5, h6, h7⟩ := H
      exact ⟨h1, h2, Nat.le_trans hle h3, h4, arr, h5, h6, fun i hi => by rw [← hf i hi]; exact h7 i (Nat.lt_of_lt_of_le hi hle)⟩
  · subst h; exact H
theorem ChLe.refl : ∀ (a : Chunk), a.isRo = false → ChLe a a
  | .cells _ _, _ => ⟨rfl, rfl⟩
  | .vec _ _ _ _, _ => ⟨rfl, rfl, Nat.le_refl _, fun _ _ => rfl⟩
  | .abs _, _ => rfl
theorem Holds.trans {β β' : Nat → Loc} {ow ow' : Nat → Option Nat} {w w' : World} {c c' : Nat} {ρ : Nat → Nat} {ch : Chunk} {p : Nat → Bool} (hp : ch.ok p = true) (hβ : ∀ i, p i = true → β' (ρ i) = β i) (hblk : (β' c').blk = (β c).blk) (hbase : (β' c').base = (β c).base) (hnil : (β' c').nil = (β c).nil)
    (hcap : ((β' c').cap = (β c).cap ∧ (β' c').sub = (β c).sub) ∨ ch.isCells = true) (hro : ch.isRo = false) (ho : ∀ k, ow' k = some c' ↔ ow k = some c) (hh : ∀ k, ow k = some c → w'.heap[k]? = w.heap[k]?) (h : Holds β ow w c ch) : Holds β' ow' w' c' (ch.ren ρ) := by
  cases ch with
  | cells e cs =>
    obtain ⟨h0, h1, h2, arr, h3, h4⟩ := h
    refine ⟨by rw [hnil]; exact h0, by rw [hbase]; exact h1, by rw [hblk]; exact (ho _).2 h2, arr, by rw [hblk, hh _ h2]; exact h3, ?_⟩
    rw [Rels.ren]
    exact Rels.congr (p := p) hβ hp h4
  | vec e sz n f =>
    have hcap : (β' c').cap = (β c).cap := by rcases hcap with h | h; exact h.1; cases h
    simp only [Chunk.ren, Holds] at h ⊢
    rw [hnil, hblk, hbase, hcap]
    by_cases hn' : (β c).nil = true
    · rw [if_pos hn'] at h ⊢; exact h
    · rw [if_neg hn'] at h ⊢
      obtain ⟨h1, h2, h3, h4, arr, h5, h6⟩ := h
      exact ⟨h1, (ho _).2 h2, h3, h4, arr, by rw [hh _ h2]; exact h5, h6⟩
  | ro sz n f => cases hro
  | ext A => cases hro
  | abs A =>
    obtain ⟨h0, h1, h2⟩ := h
    have hsub : subs (β' c') = subs (β c) := by
      rcases hcap with h | h
      · funext j
        cases j
        · exact h.1
        · simp only [subs, h.2]
      · cases h
    refine ⟨by rw [hnil]; exact h0, by rw [hbase]; exact h1, ?_⟩
    rw [hblk, hsub]
    exact A.loc (fun k hk => hh k hk) (fun k => ho k) h2
open Go.RowKit
theorem Holds.keep {β β' : Nat → Loc} {ow ow' : Nat → Option Nat} {w : World} {c : Nat} {ch : Chunk} {p : Nat → Bool} (hp : ch.ok p = true) (hβ : ∀ i, p i = true → β' i = β i) (hc : β' c = β c) (ho : ch.isRo = false → ∀ k, ow' k = some c ↔ ow k = some c)
    (hn : ch.isRo = true → ∀ k, ow k = none → ow' k = none) (h : Holds β ow w c ch) : Holds β' ow' w c ch := by
  cases ch with
  | cells e cs =>
    obtain ⟨h0, h1, h2, arr, h3, h4⟩ := h
    exact ⟨by rw [hc]; exact h0, by rw [hc]; exact h1, by rw [hc]; exact (ho rfl _).2 h2, arr, by rw [hc]; exact h3, Rels.congr (p := p) hβ hp h4⟩
  | vec e sz n f =>
    simp only [Holds] at h ⊢
    rw [hc]
    by_cases hn' : (β c).nil = true
    · rw [if_pos hn'] at h ⊢; exact h
    · rw [if_neg hn'] at h ⊢
      exact ⟨h.1, (ho rfl _).2 h.2.1, h.2.2⟩
  | ro sz n f =>
    simp only [Holds] at h ⊢
    rw [hc]
    by_cases hn' : (β c).nil = true
    · rw [if_pos hn'] at h ⊢; exact h
    · rw [if_neg hn'] at h ⊢
      exact ⟨hn rfl _ h.1, h.2⟩
  | abs A =>
    obtain ⟨h0, h1, h2⟩ := h
    refine ⟨by rw [hc]; exact h0, by rw [hc]; exact h1, ?_⟩
    rw [hc]
    exact A.loc (fun _ _ => rfl) (fun k => ho rfl k) h2
  | ext A =>
    obtain ⟨O, h1, h2⟩ := h
    exact ⟨O, fun k hk => ⟨hn rfl _ (h1 k hk).1, (h1 k hk).2⟩, by rw [hc]; exact h2⟩
theorem Holds.unren {β : Nat → Loc} {ow ow' : Nat → Option Nat} {w : World} {ρ : Nat → Nat} {j : Nat} {ch : Chunk} (hro : ch.isRo = false) (ho : ∀ k, ow' k = some j ↔ ow k = some (ρ j)) (h : Holds β ow w (ρ j) (ch.ren ρ)) : Holds (fun i => β (ρ i)) ow' w j ch := by
  cases ch with
  | cells e cs =>
    obtain ⟨h0, h1, h2, arr, h3, h4⟩ := h
    exact ⟨h0, h1, (ho _).2 h2, arr, h3, (Rels.ren cs _).1 h4⟩
  | vec e sz n f =>
    simp only [Chunk.ren, Holds] at h ⊢
    by_cases hn' : (β (ρ j)).nil = true
    · rw [if_pos hn'] at h ⊢; exact h
    · rw [if_neg hn'] at h ⊢
      exact ⟨h.1, (ho _).2 h.2.1, h.2.2⟩
  | ro sz n f => cases hro
  | ext A => cases hro
  | abs A => exact ⟨h.1, h.2.1, A.loc (fun _ _ => rfl) (fun k => ho k) h.2.2⟩
theorem SV.ok_ren {p : Nat → Bool} {ρ : Nat → Nat} (s : SV) : (s.ren ρ).ok p = s.ok (fun i => p (ρ i)) := by
  cases s with
  | fn f caps => simp only [SV.ren, SV.ok, List.all_map]; rfl
  | _ => rfl
theorem Chunk.ok_ren {p : Nat → Bool} {ρ : Nat → Nat} (ch : Chunk) : (ch.ren ρ).ok p = ch.ok (fun i => p (ρ i)) := by
  cases ch with
  | cells e cs =>
    simp only [Chunk.ren, Chunk.ok, List.all_map]
    congr 1
    funext s
    exact SV.ok_ren s
  | _ => rfl
def St.nilc (S : St) (c : Nat) (e : TypeId) (cs : List SV) (j : Nat) (e' sz : Nat) : St := ⟨S.slots, (c, .cells e (cs.set j (.slc S.nx sz 0 0))) :: (S.nx, .vec e' sz 0 fun _ => []) :: S.mem.del c, S.nx + 1⟩
theorem Rels.set {β : Nat → Loc} : ∀ {ss : List SV} {vs : List Value} (j : Nat) (s : SV) (v : Value), Rels β ss vs → vs[j]? = some v → s.rel β v → Rels β (ss.set j s) vs
  | [], vs, j, s, v, h, hv, _ => by cases h; simp at hv
  | x :: r, vs, 0, s, v, h, hv, hs => by
    obtain ⟨y, r', rfl, h1, h2⟩ := h
    simp only [List.getElem?_cons_zero, Option.some.injEq] at hv
    subst hv
    exact ⟨y, r', rfl, hs, h2⟩
  | x :: r, vs, j + 1, s, v, h, hv, hs => by
    obtain ⟨y, r', rfl, h1, h2⟩ := h
    exact ⟨y, r', rfl, h1, Rels.set j s v h2 (by simpa using hv) hs⟩
theorem Ent.nilc {C : Ctx} {S : St} {c : Nat} {e : TypeId} {cs : List SV} {j : Nat} (hc : S.mem.get c = some (.cells e cs)) (hj : cs[j]? = some (.raw (.slice none 0 0))) (e' sz : Nat) : Ent C S (S.nilc c e cs j e' sz) := by
  rintro a w ⟨β, ow, h1, h2, h3, h4, h5⟩
  let β' := setβ β S.nx ⟨0, 0, 0, true, fun _ => 0⟩
  have hold : ∀ i, Nat.blt i S.nx = true → β' i = β i := fun i hi => by
    have : i ≠ S.nx := by
        have : i < S.nx := by simpa using hi
        omega
    simp [β', setβ, this]
  have hcn := (h2.mem c _ hc).1
  refine ⟨β', ow, ⟨h1.defers, h1.size, fun t X hX => XV.rel_congr hold (h2.slots t X hX) (h1.slots t X hX), fun c' ch hc' => ?_, h1.wf⟩, ⟨fun t X hX => XV.ok_mono (fun i hi => by simp only [Nat.blt_eq, St.nilc] at hi ⊢; omega) (h2.slots t X hX), fun c' ch hc' => ?_⟩,
    ⟨h3.os, h3.tape, h3.output, h3.size, h3.keep, fun i hi => by rw [hold i (by simp only [Nat.blt_eq]; omega)]; exact h3.beta i hi⟩, by simp only [St.nilc]; omega, h5.mono (fun i hi => by simp only [Nat.blt_eq, St.nilc] at hi ⊢; omega)⟩
  · simp only [St.nilc, Mem.get, nbeq, Mem.get_del] at hc'
    by_cases hcc : c = c'
    · subst hcc
      simp only [decide_true, cond_true, Option.some.injEq] at hc'
      subst hc'
      obtain ⟨g0, g1, g2, arr, g3, g4⟩ := h1.mem c _ hc
      have e0 : β' c = β c := hold c hcn
      obtain ⟨v, f1, f2⟩ := g4.get j _ hj
      refine ⟨by rw [e0]; exact g0, by rw [e0]; exact g1, by rw [e0]; exact g2, arr, by rw [e0]; exact g3, ?_⟩
      refine Rels.set j _ v (Rels.congr hold (h2.mem c _ hc).2 g4) f1 ?_
      simp only [SV.rel] at f2
      subst f2
      simp [SV.rel, β', setβ]
    · simp only [hcc, decide_false, cond_false] at hc'
      by_cases hn : S.nx = c'
      · subst hn
        simp only [decide_true, cond_true, Option.some.injEq] at hc'
        subst hc'
        simp [Holds, β', setβ]
      · simp only [hn, decide_false, cond_false] at hc'
        split at hc'
        · cases hc'
        · obtain ⟨k1, k2⟩ := h2.mem c' ch hc'
          exact Holds.keep k2 hold (hold c' k1) (fun _ _ => Iff.rfl) (fun _ _ h => h) (h1.mem c' ch hc')
  · simp only [St.nilc, Mem.get, nbeq, Mem.get_del] at hc' ⊢
    by_cases hcc : c = c'
    · subst hcc
      simp only [decide_true, cond_true, Option.some.injEq] at hc'
      subst hc'
      refine ⟨by simp only [Nat.blt_eq] at hcn ⊢; omega, ?_⟩
      simp only [Chunk.ok, List.all_eq_true]
      intro s hs
      rcases List.mem_or_eq_of_mem_set hs with h | h
      · exact SV.ok_mono (fun i hi => by simp only [Nat.blt_eq] at hi ⊢; omega) (List.all_eq_true.1 (h2.mem c _ hc).2 s h)
      · subst h; simp [SV.ok]
    · simp only [hcc, decide_false, cond_false] at hc'
      by_cases hn : S.nx = c'
      · subst hn
        simp only [decide_true, cond_true, Option.some.injEq] at hc'
        subst hc'
        exact ⟨by simp, rfl⟩
      · simp only [hn, decide_false, cond_false] at hc'
        split at hc'
        · cases hc'
        · obtain ⟨k1, k2⟩ := h2.mem c' ch hc'
          exact ⟨by simp only [Nat.blt_eq] at k1 ⊢; omega, Chunk.ok_mono (fun i hi => by simp only [Nat.blt_eq] at hi ⊢; omega) k2⟩
open Go.RowKit Go.MapKept
structure KeyL (P : Program) (t : TypeId) {K : Type} (kx : K → Value) : Prop where
  inj : ∀ a b, kx a = kx b → a = b
  check : ∀ (w : World) (em : Bool) (a : K), (Instr.checkKey em 10000 t (kx a)).run P w = .ok () w
  find : ∀ (w : World) (a : K) (es : List MapEntry), (∀ e ∈ es, ∃ b, e.key = kx b) →
    ((Instr.findKey t (kx a) es).run P w = .ok none w ∧ ∀ e ∈ es, e.key ≠ kx a) ∨ ∃ j e, (Instr.findKey t (kx a) es).run P w = .ok (some (j, e.val)) w ∧ es[j]? = some e ∧ e.key = kx a
  stays : ∀ (w : World) (a : K), (Instr.keyThatStays (kx a) (kx a)).run P w = .ok (kx a) w
theorem KeyL.of {P : Program} {t : TypeId} {K : Type} {kx : K → Value} (L : Maps.Keyed P t) (hi : ∀ a b, kx a = kx b → a = b) (hk : ∀ a, ∃ l, keyOf P t (kx a) = some l) : KeyL P t kx where
  inj := hi
  check w em a := by obtain ⟨l, h⟩ := hk a; exact L.check w em h
  find w a es he := by
    obtain ⟨l, h⟩ := hk a
    exact L.find w h es fun e hm => by
      obtain ⟨b, hb⟩ := he e hm
      rw [hb]; exact hk b
  stays w a := by obtain ⟨l, h⟩ := hk a; exact L.stays w h
section
variable {K V : Type} [DecidableEq K]
end
section
variable {P : Program} {S : St} {d : Nat} {o : Oper} {K V : Type} [DecidableEq K] {kx : K → Value} {vx : V → Value} {l : List (K × V)} {t kt et : TypeId}
omit [DecidableEq K] in
omit [DecidableEq K] in
omit [DecidableEq K] in
omit [DecidableEq K] in
omit [DecidableEq K] in
omit [DecidableEq K] in
end
open Go.RowKit
section
variable {P : Program} {T : TyTab} {S : St} {d : Nat} {o : Oper}
end
open Go.RowKit
def cutQ (P : Program) (C : Ctx) (y : Code) (Q : Exit → St → Prop) (e : Exit) (S : St) : Prop := match e with | .normal => Tri P C y S Q | e => Q e S
theorem cutG {P : Program} {C : Ctx} {y : Code} {S : St} {Q : Exit → St → Prop} (h : Tri P C y S Q) : cutQ P C y Q .normal S := h
theorem cutR {P : Program} {C : Ctx} {y : Code} {S : St} {Q : Exit → St → Prop} (h : Q .ret S) : cutQ P C y Q .ret S := h
theorem cutE {P : Program} {C : Ctx} {y : Code} {S : St} {Q : Exit → St → Prop} {n : Nat} (h : Q (.exit n) S) : cutQ P C y Q (.exit n) S := h
theorem Tri.seq {P : Program} {C : Ctx} {x y : Code} {S : St} {Q : Exit → St → Prop} (h : Tri P C x S (cutQ P C y Q)) : Tri P C (.seq x y) S Q := by
  intro a w hs
  refine wp_seq (wp_mono (h a w hs) ?_)
  rintro e a' w' ⟨S', h1, h2⟩
  cases e with
  | normal => exact h2 a' w' h1
  | _ => exact ⟨S', h1, h2⟩
theorem Tri.cond {P : Program} {C : Ctx} {t : Operand} {x y : Code} {S : St} {Q : Exit → St → Prop} {b : Bool} (hb : S.ev t = some (XV.bool b)) (ht : b = true → Tri P C x S Q) (hf : b = false → Tri P C y S Q) : Tri P C (.cond t x y) S Q := by
  intro a w hs
  have hs' := hs
  obtain ⟨β, ow, h1, _⟩ := hs'
  have hv := h1.ev hb
  simp only [XV.rel, CV.rel, SV.rel] at hv
  exact wp_cond_split hv (fun h => ht h a w hs) (fun h => hf h a w hs)
theorem Tri.skip {P : Program} {C : Ctx} {S : St} {Q : Exit → St → Prop} (h : Q .normal S) : Tri P C .skip S Q := fun _ _ hs => wp_skip ⟨S, hs, h⟩
def takeC : Nat → Code → List Code
  | n + 1, .seq x y => x :: takeC n y
  | _, _ => []
def dropC : Nat → Code → Code
  | n + 1, .seq _ y => dropC n y
  | _, c => c
theorem stk_pass (step : Step) {e : Exit} (he : e ≠ .normal) (S : St) : ∀ l : List Code, stkK step (l.map Fr.seq) e S = Tree.done e S
  | [] => rfl
  | _ :: r => by
    have := stk_pass step he S r
    cases e <;> first | exact absurd rfl he | exact this
theorem cut_sound {P : Program} {C : Ctx} {T : TyTab} (hm : P.follows .mixedOrders = true) (hT : TabOK P T) {Q : Exit → St → Prop} : ∀ (n : Nat) (c : Code) (S : St),
    wpT P C (cutQ P C (dropC n c) Q) (stkK (stepOp T) ((takeC n c).map Fr.seq) .normal S) → Tri P C c S Q
  | 0, c, S, h => by
    have e : takeC 0 c = [] := by cases c <;> rfl
    have e2 : dropC 0 c = c := by cases c <;> rfl
    rw [e, e2] at h
    exact h
  | n + 1, c, S, h => by
    cases c with
    | seq x y =>
      intro a w hs
      refine wp_seq (wp_mono (evalC_sound hm (stepOp_sound hT) x S _ a w h hs) ?_)
      rintro e a' w' ⟨S', h1, h2⟩
      cases e with
      | normal => exact cut_sound hm hT n y S' h2 a' w' h1
      | _ =>
        rw [stk_pass _ (by simp)] at h2
        exact ⟨S', h1, h2⟩
    | _ => exact h
theorem Tri.cut {P : Program} {C : Ctx} {T : TyTab} {c : Code} {S : St} {Q : Exit → St → Prop} (n : Nat) (hm : P.follows .mixedOrders = true) (hT : TabOK P T)
    (h : wpN P C (cutQ P C (dropC n c) Q) (stepOp T) (stK S fun S => run (stepOp T) 4000 (.ex .normal S ((takeC n c).map Fr.seq)))) : Tri P C c S Q := by
  rw [stK_eq] at h
  exact cut_sound hm hT n c S (run_sound 4000 _ h)
theorem xC {P : Program} {C : Ctx} {Q : Exit → St → Prop} {step : Step} {o : Oper} {S : St} {d : Nat} {ops : Array Oper} {b : Nat} {draw : Bool} {l : List Oper} {i : Nat} {recs : List Rec} {stk : List Fr} {f : FuncId} {fn : Func} {args : Array Operand} {argTypes : Array TypeId} {Xs : List CV} {r : Res} {rd : List Nat} {q : Prop} (ho : o.op = .call { callee := .value (.func f), args := args, argTypes := argTypes }) (hf : P.funcs[f]? = some fn) (hx : evs S args.toList = some Xs) (h : CallSpec P f Xs S.mem d r rd) (hk : q) (hb : (!(fn.name == "runtime.NumGoroutine") && fn.body.isSome) = true := by kernel_rfl) (e : q → wpN P C Q step (lay (run step 4000) ops b draw l i S recs stk o (b + i) none r rd) := by (intro h; (conv => arg 5; whnf); (repeat (refine xS ?_; conv => arg 5; whnf)); exact h)) : wpN P C Q step (.prim o S d ops b draw l i recs stk) :=
  wP r rd (call_op ho (entersB_of hf hb) hx h) (e hk)
end Go.Sx
