/- Symbolic states for walks, part C: the tree of ways through a region, and that it tells what the region does, in the text's order and in whatever order the edges allow. -/
import Derived.Test.YtfdmlpdhngmbiaaSxB
namespace Go.Sx
open Go.RowKit

inductive Tree where
  | done (e : Exit) (S : St)
  | cond (b : Bool) (t e : Tree)
  | need (p : Prop) (t : Tree)
  | prim (o : Oper) (S : St) (d : Nat) (k : Res → List Nat → Tree)
  | loop (body : Code) (S : St) (k : Exit → St → Tree)
  | fail

/-- The world in which a call began, and what of it is the call's to turn. -/
structure Ctx where
  w0 : World
  own0 : Nat → Prop
  β0 : Nat → Loc
  n0 : Nat

structure Grow (C : Ctx) (β : Nat → Loc) (ow : Nat → Option Nat) (w : World) : Prop where
  os : w.os = C.w0.os
  tape : w.tape = C.w0.tape
  output : w.output = C.w0.output
  size : C.w0.heap.size ≤ w.heap.size
  keep : ∀ k, k < C.w0.heap.size → ¬ C.own0 k → w.heap[k]? = C.w0.heap[k]? ∧ ow k = none
  beta : ∀ c, c < C.n0 → β c = C.β0 c

theorem Grow.eff {C : Ctx} {β β' : Nat → Loc} {ow ow' : Nat → Option Nat} {w w' : World} {wr : List Nat} {d : Nat} (G : Grow C β ow w) (E : Eff β ow w β' ow' w' wr d) (hd : C.n0 ≤ d) : Grow C β' ow' w' :=
  ⟨E.os.trans G.os, E.tape.trans G.tape, E.output.trans G.output, Nat.le_trans G.size E.size, fun k hk hn => by
    obtain ⟨h1, h2⟩ := G.keep k hk hn
    obtain ⟨h3, h4⟩ := E.keep k (Nat.lt_of_lt_of_le hk G.size) (fun c _ e => by rw [h2] at e; cases e)
    exact ⟨h3.trans h1, h4.trans h2⟩, fun c hc => (E.beta c (by omega)).trans (G.beta c hc)⟩

/-- A world fits a state, and is what the call made of the world in which it began. -/
def SatC (C : Ctx) (S : St) (a : Act) (w : World) : Prop :=
  ∃ β ow, Sat β ow w S a ∧ SOK (fun c => Nat.blt c S.nx) S ∧ Grow C β ow w ∧ C.n0 ≤ S.nx ∧ OWN (fun c => Nat.blt c S.nx) ow

def wpT (P : Program) (C : Ctx) (Q : Exit → St → Prop) : Tree → Prop
  | .done e S => Q e S
  | .cond b t e => (b = true → wpT P C Q t) ∧ (b = false → wpT P C Q e)
  | .need p t => p ∧ (p → wpT P C Q t)
  | .prim o S d k => ∃ r rd, OpSound P S d o r rd ∧ wpT P C Q (k r rd)
  | .loop body S k => ∀ a w, SatC C S a w → (Code.loop body).wp P (fun e a' w' => ∃ S', SatC C S' a' w' ∧ wpT P C Q (k e S')) a w
  | .fail => False

def chk (b : Bool) (t : Tree) : Tree := bif b then t else .fail
def needs (p : Option Prop) (t : Tree) : Tree := match p with | none => t | some p => .need p t

def St.set1 (S : St) (t : Nat) (X : XV) : St := { S with slots := lset S.slots t (some X) }

def isBoolV : Value → Bool
  | .bool _ => true
  | _ => false

def guarded (ops : Array Oper) (S : St) (o : Oper) (k : St → Bool → Tree) : Tree :=
  match o.guard with
  | none => k S false
  | some (g, want) =>
    match (ops[g]?).bind (·.dst) with
    | none => .fail
    | some dg =>
      match lget S.slots dg with
      | some (.cv (.one (.raw (.bool b)))) => .cond b (k (S.set1 dg (XV.bool true)) (!want)) (k (S.set1 dg (XV.bool false)) want)
      | some (.cv (.one (.raw v))) => bif isBoolV v then .fail else k S true
      | _ => .fail

/-! ### what is reckoned is written out before it is handed on: so that nothing is reckoned twice -/
def spineK {α β : Type} : List α → (List α → β) → β
  | [], k => k []
  | x :: r, k => spineK r fun r' => k (x :: r')
theorem spineK_eq {α β : Type} : ∀ (l : List α) (k : List α → β), spineK l k = k l
  | [], k => rfl
  | x :: r, k => by rw [spineK, spineK_eq]
def svK {β : Type} (s : SV) (k : SV → β) : β :=
  match s with
  | .raw v => k (.raw v)
  | .ptr c i sz j => k (.ptr c i sz j)
  | .slc c sz lo len => k (.slc c sz lo len)
  | .map c => k (.map c)
  | .inn c j => k (.inn c j)
theorem svK_eq {β : Type} (s : SV) (k : SV → β) : svK s k = k s := by cases s <;> rfl
def cvK {β : Type} (c : CV) (k : CV → β) : β :=
  match c with
  | .one s => svK s fun s => k (.one s)
  | .agg cs => spineK cs fun cs => k (.agg cs)
theorem cvK_eq {β : Type} (c : CV) (k : CV → β) : cvK c k = k c := by cases c <;> simp [cvK, svK_eq, spineK_eq]
def cvsK {β : Type} : List CV → (List CV → β) → β
  | [], k => k []
  | x :: r, k => cvK x fun x' => cvsK r fun r' => k (x' :: r')
theorem cvsK_eq {β : Type} : ∀ (l : List CV) (k : List CV → β), cvsK l k = k l
  | [], k => rfl
  | x :: r, k => by rw [cvsK, cvK_eq, cvsK_eq]
def xvK {β : Type} (x : XV) (k : XV → β) : β :=
  match x with
  | .cv c => cvK c fun c => k (.cv c)
  | .tup l => cvsK l fun l => k (.tup l)
theorem xvK_eq {β : Type} (x : XV) (k : XV → β) : xvK x k = k x := by cases x <;> simp [xvK, cvK_eq, cvsK_eq]
def chK {β : Type} (x : Chunk) (k : Chunk → β) : β :=
  match x with
  | .cells e cs => spineK cs fun cs => k (.cells e cs)
  | .vec e sz n f => k (.vec e sz n f)
  | .ro sz n f => k (.ro sz n f)
  | .abs A => k (.abs A)
theorem chK_eq {β : Type} (x : Chunk) (k : Chunk → β) : chK x k = k x := by cases x <;> simp [chK, spineK_eq]
def memK {β : Type} : Mem → (Mem → β) → β
  | [], k => k []
  | (c, ch) :: r, k => chK ch fun ch' => memK r fun r' => k ((c, ch') :: r')
theorem memK_eq {β : Type} : ∀ (l : Mem) (k : Mem → β), memK l k = k l
  | [], k => rfl
  | (c, ch) :: r, k => by rw [memK, chK_eq, memK_eq]
def natK {β : Type} (n : Nat) (k : Nat → β) : β :=
  match n with
  | 0 => k 0
  | m + 1 => k (m + 1)
theorem natK_eq {β : Type} (n : Nat) (k : Nat → β) : natK n k = k n := by cases n <;> rfl
def resK {β : Type} (r : Res) (k : Res → β) : β :=
  match r with
  | ⟨v, upd, wr⟩ => xvK v fun v => memK upd fun upd => spineK wr fun wr => k ⟨v, upd, wr⟩
theorem resK_eq {β : Type} (r : Res) (k : Res → β) : resK r k = k r := by cases r; simp [resK, xvK_eq, memK_eq, spineK_eq]
def stK {β : Type} (S : St) (k : St → β) : β :=
  match S with
  | ⟨sl, m, nx⟩ => spineK sl fun sl => spineK m fun m => natK nx fun nx => k ⟨sl, m, nx⟩
theorem stK_eq {β : Type} (S : St) (k : St → β) : stK S k = k S := by cases S; simp [stK, spineK_eq, natK_eq]

abbrev Step := St → Nat → Oper → Option (Option Prop × Res × List Nat)

def evalOps (step : Step) (ops : Array Oper) (b : Nat) : List Oper → Nat → St → List Rec → (List Rec → St → Tree) → Tree
  | [], _, S, recs, k => k recs.reverse S
  | o :: l, i, S, recs, k => guarded ops S o fun S skip => natK (b + i) fun d =>
    match skip with
    | true => stK (S.app o.dst skipRes) fun S' => evalOps step ops b l (i + 1) S' (skipRec :: recs) k
    | false =>
      match step S d o with
      | some (np, r, rd) => resK r fun r => needs np (chk (Rec.ok (fun c => Nat.blt c (d + 1)) d ⟨false, r, rd⟩) (stK (S.app o.dst r) fun S' => evalOps step ops b l (i + 1) S' (⟨false, r, rd⟩ :: recs) k))
      | none => .prim o S d fun r rd => resK r fun r => chk (Rec.ok (fun c => Nat.blt c (d + 1)) d ⟨false, r, rd⟩) (stK (S.app o.dst r) fun S' => evalOps step ops b l (i + 1) S' (⟨false, r, rd⟩ :: recs) k)

def StepSound (P : Program) (step : Step) : Prop := ∀ S d o np r rd, step S d o = some (np, r, rd) → (∀ p, np = some p → p) → OpSound P S d o r rd

def GuardFact (ops : Array Oper) (S : St) (o : Oper) (skip : Bool) : Prop :=
  match o.guard with
  | none => skip = false
  | some (g, want) => ∃ dg, (ops[g]?).bind (·.dst) = some dg ∧ ((∃ t : Bool, lget S.slots dg = some (XV.bool t) ∧ skip = (t != want)) ∨ ∃ v : Value, lget S.slots dg = some (XV.val v) ∧ isBoolV v = false ∧ skip = true)

structure StepOK (P : Program) (ops : Array Oper) (b i : Nat) (S : St) (o : Oper) (x : Rec) : Prop where
  ok : x.ok (fun c => Nat.blt c (b + i + 1)) (b + i) = true
  guard : GuardFact ops S o x.skip
  run : x.skip = false → OpSound P S (b + i) o x.r x.rd
  pass : x.skip = true → x.r = skipRes

def Tr (P : Program) (ops : Array Oper) (b : Nat) : List Oper → Nat → St → List Rec → St → Prop
  | [], _, S, recs, S' => recs = [] ∧ S' = S
  | o :: l, i, S, recs, S' => ∃ x rest, recs = x :: rest ∧ StepOK P ops b i S o x ∧ Tr P ops b l (i + 1) (S.app o.dst x.r) rest S'

theorem lset_self : ∀ {l : List (Option XV)} {t : Nat} {X : XV}, lget l t = some X → lset l t (some X) = l
  | [], t, X, h => rfl
  | x :: r, 0, X, h => by simp only [lget] at h; subst h; rfl
  | x :: r, t + 1, X, h => by simp only [lget] at h; simp [lset, lset_self h]

theorem skipRec_ok (b i : Nat) : skipRec.ok (fun c => Nat.blt c (b + i + 1)) (b + i) = true := by
  simp [Rec.ok, skipRec, skipRes, XV.ok, CV.ok, SV.ok]

section
variable {P : Program} {C : Ctx} {Q : Exit → St → Prop} {step : Step} {ops : Array Oper} {b : Nat}

theorem evalOps_tr (hstep : StepSound P step) : ∀ (l : List Oper) (i : Nat) (S : St) (recs : List Rec) (k : List Rec → St → Tree), wpT P C Q (evalOps step ops b l i S recs k) →
    ∃ rs S', Tr P ops b l i S rs S' ∧ wpT P C Q (k (recs.reverse ++ rs) S')
  | [], i, S, recs, k, h => ⟨[], S, ⟨rfl, rfl⟩, by simpa [evalOps] using h⟩
  | o :: l, i, S, recs, k, h => by
    have main : ∀ skip, GuardFact ops S o skip → wpT P C Q (match skip with
        | true => evalOps step ops b l (i + 1) (S.app o.dst skipRes) (skipRec :: recs) k
        | false =>
          match step S (b + i) o with
          | some (np, r, rd) => needs np (chk (Rec.ok (fun c => Nat.blt c (b + i + 1)) (b + i) ⟨false, r, rd⟩) (evalOps step ops b l (i + 1) (S.app o.dst r) (⟨false, r, rd⟩ :: recs) k))
          | none => .prim o S (b + i) fun r rd => chk (Rec.ok (fun c => Nat.blt c (b + i + 1)) (b + i) ⟨false, r, rd⟩) (evalOps step ops b l (i + 1) (S.app o.dst r) (⟨false, r, rd⟩ :: recs) k)) →
        ∃ rs S', Tr P ops b (o :: l) i S rs S' ∧ wpT P C Q (k (recs.reverse ++ rs) S') := by
      intro skip hg hh
      have fin : ∀ (x : Rec), StepOK P ops b i S o x → wpT P C Q (evalOps step ops b l (i + 1) (S.app o.dst x.r) (x :: recs) k) → ∃ rs S', Tr P ops b (o :: l) i S rs S' ∧ wpT P C Q (k (recs.reverse ++ rs) S') := by
        intro x hx hw
        obtain ⟨rs, S', h1, h2⟩ := evalOps_tr hstep l (i + 1) _ _ k hw
        exact ⟨x :: rs, S', ⟨x, rs, rfl, hx, h1⟩, by simpa using h2⟩
      have ck : ∀ r rd, wpT P C Q (chk (Rec.ok (fun c => Nat.blt c (b + i + 1)) (b + i) ⟨false, r, rd⟩) (evalOps step ops b l (i + 1) (S.app o.dst r) (⟨false, r, rd⟩ :: recs) k)) → OpSound P S (b + i) o r rd →
          skip = false → ∃ rs S', Tr P ops b (o :: l) i S rs S' ∧ wpT P C Q (k (recs.reverse ++ rs) S') := by
        intro r rd hw hs he
        subst he
        unfold chk at hw
        cases hk : Rec.ok (fun c => Nat.blt c (b + i + 1)) (b + i) ⟨false, r, rd⟩ with
        | false => simp only [hk, cond_false, wpT] at hw
        | true =>
          simp only [hk, cond_true] at hw
          exact fin ⟨false, r, rd⟩ ⟨hk, hg, fun _ => hs, fun h => by cases h⟩ hw
      cases skip with
      | true => exact fin skipRec ⟨skipRec_ok b i, hg, fun h => by simp [skipRec] at h, fun _ => rfl⟩ hh
      | false =>
        simp only at hh
        split at hh
        · rename_i np r rd hst
          cases np with
          | none => exact ck r rd hh (hstep S (b + i) o none r rd hst (fun _ h => by cases h)) rfl
          | some p =>
            simp only [needs, wpT] at hh
            exact ck r rd (hh.2 hh.1) (hstep S (b + i) o (some p) r rd hst (fun q hq => by cases hq; exact hh.1)) rfl
        · simp only [wpT] at hh
          obtain ⟨r, rd, h1, h2⟩ := hh
          exact ck r rd h2 h1 rfl
    simp only [evalOps, guarded, natK_eq, stK_eq, resK_eq] at h
    cases hgd : o.guard with
    | none =>
      simp only [hgd] at h
      exact main false (by simp [GuardFact, hgd]) h
    | some gw =>
      obtain ⟨g, want⟩ := gw
      simp only [hgd] at h
      split at h
      · simp only [wpT] at h
      · rename_i dg hdg
        split at h
        · rename_i t ht
          simp only [wpT] at h
          have same : S.set1 dg (XV.bool t) = S := by simp only [St.set1, lset_self ht]
          cases t with
          | true =>
            have h' := h.1 rfl
            rw [same] at h'
            refine main (!want) ?_ h'
            simp only [GuardFact, hgd]
            exact ⟨dg, hdg, .inl ⟨true, ht, by cases want <;> rfl⟩⟩
          | false =>
            have h' := h.2 rfl
            rw [same] at h'
            refine main want ?_ h'
            simp only [GuardFact, hgd]
            exact ⟨dg, hdg, .inl ⟨false, ht, by cases want <;> rfl⟩⟩
        · rename_i v _ hv
          cases hb : isBoolV v with
          | true => simp only [hb, cond_true, wpT] at h
          | false =>
            simp only [hb, cond_false] at h
            refine main true ?_ h
            simp only [GuardFact, hgd]
            exact ⟨dg, hdg, .inr ⟨v, hv, by simpa using hb, by simp⟩⟩
        · simp only [wpT] at h

theorem wanted_of {β : Nat → Loc} {ow : Nat → Option Nat} {w : World} {S S1 : St} {a : Act} {o : Oper} {skip : Bool} (H : Sat β ow w S a) (hv : ∀ t ∈ o.looksAt ops, lget S.slots t = lget S1.slots t) (hg : GuardFact ops S1 o skip) :
    Region.wanted o (yielded ops a.tmps) = !skip := by
  unfold GuardFact at hg
  unfold Region.wanted
  cases hgd : o.guard with
  | none => simp only [hgd] at hg; simp [hg]
  | some gw =>
    obtain ⟨g, want⟩ := gw
    simp only [hgd] at hg
    obtain ⟨dg, h1, hor⟩ := hg
    have hin : dg ∈ o.looksAt ops := by simp [Oper.looksAt, hgd, h1]
    rcases hor with ⟨t, h2, h3⟩ | ⟨v, h2, h4, h3⟩
    · have h2' := h2
      rw [← hv dg hin] at h2'
      have hr : a.tmps.getD dg undef = .bool t := by
        have := H.slots dg _ h2'
        simpa [XV.bool, XV.rel, CV.rel, SV.rel] using this
      have hlt : dg < a.tmps.size := by rw [H.size]; exact lget_some_lt h2'
      have hget : a.tmps[dg]? = some (.bool t) := by
        rw [Array.getElem?_eq_getElem hlt]
        simp only [Array.getD, hlt, dite_true] at hr
        simpa using hr
      have hy : yielded ops a.tmps g = some t := by simp [yielded, h1, hget]
      simp only [hy, h3]
      cases t <;> cases want <;> rfl
    · have h2' := h2
      rw [← hv dg hin] at h2'
      have hr : a.tmps.getD dg undef = v := by
        have := H.slots dg _ h2'
        simpa [XV.rel, CV.rel, SV.rel] using this
      have hlt : dg < a.tmps.size := by rw [H.size]; exact lget_some_lt h2'
      have hget : a.tmps[dg]? = some v := by
        rw [Array.getElem?_eq_getElem hlt]
        simp only [Array.getD, hlt, dite_true] at hr
        simpa using hr
      have hy : yielded ops a.tmps g = none := by
        cases v <;> first | (simp [isBoolV] at h4; done) | simp [yielded, h1, hget]
      simp [hy, h3]

/-- In the text's order. -/
theorem seq_sound {Q' : Exit → Act → World → Prop} {n : Nat} (hn : C.n0 ≤ b) (hend : b + ops.size ≤ n) : ∀ (l : List Oper) (i : Nat) (S S' : St) (recs : List Rec), Tr P ops b l i S recs S' → (∀ j, l[j]? = ops[i + j]?) → i + l.length = ops.size →
    (∀ a w, SatC C { S' with nx := n } a w → Q' .normal a w) → ∀ β ow a w, Sat β ow w S a → SOK (fun c => Nat.blt c (b + i)) S → Grow C β ow w → OWN (fun c => Nat.blt c (b + i)) ow → wpOps P ops Q' (List.range' i l.length) a w
  | [], i, S, S', recs, h, _, hlen, hQ, β, ow, a, w, h1, h2, h3, h4 => by
    obtain ⟨_, rfl⟩ := h
    simp only [List.length_nil, List.range'_zero, wpOps]
    have hlt : ∀ c, Nat.blt c (b + i) = true → Nat.blt c n = true := fun c hc => by simp only [Nat.blt_eq] at hc ⊢; simp only [List.length_nil] at hlen; omega
    refine hQ a w ⟨β, ow, ⟨h1.defers, h1.size, h1.slots, h1.mem, h1.wf⟩, ?_, h3, Nat.le_trans hn (by simp only; omega), h4.mono hlt⟩
    have hm := h2.mono (q := fun c => Nat.blt c n) hlt
    exact ⟨hm.slots, hm.mem⟩
  | o :: l, i, S, S', recs, h, hl, hlen, hQ, β, ow, a, w, h1, h2, h3, h4 => by
    obtain ⟨x, rest, rfl, hx, htr⟩ := h
    have ho : ops[i]? = some o := by have := hl 0; simpa using this.symm
    have hlen' : i + 1 + l.length = ops.size := by simp only [List.length_cons] at hlen; omega
    have hne : ∀ c, Nat.blt c (b + i) = true → c ≠ b + i := fun c hc => by simp only [Nat.blt_eq] at hc; omega
    have ih := fun β ow a w => seq_sound hn hend l (i + 1) _ S' rest htr (fun j => by have := hl (j + 1); simpa [Nat.add_assoc, Nat.add_comm 1] using this) hlen' hQ β ow a w
    have hw := wanted_of (ops := ops) h1 (fun _ _ => rfl) hx.guard
    simp only [List.length_cons, List.range'_succ, wpOps, ho]
    have hmono : ∀ c, Nat.blt c (b + i) = true → Nat.blt c (b + i + 1) = true := fun c hc => by simp only [Nat.blt_eq] at hc ⊢; omega
    have hsok : SOK (fun c => Nat.blt c (b + (i + 1))) (S.app o.dst x.r) := SOK.app h2 hmono hx.ok o.dst
    by_cases hs : x.skip = true
    · rw [hs] at hw
      simp only [hw, Bool.not_true, Bool.false_eq_true, if_false]
      have hr := hx.pass hs
      refine ih β ow _ w ?_ (by rw [hr] at hsok ⊢; exact hsok) h3 (h4.mono hmono)
      rw [hr]
      exact h1.app h2 hne (r := skipRes) (Eff.refl h1.wf (b + i)) rfl (fun c ch h => by simp [skipRes, Mem.get] at h)
    · have hs' : x.skip = false := by simpa using hs
      rw [hs'] at hw
      simp only [hw, Bool.not_false, if_true]
      refine .inl (hx.run hs' β ow w a _ _ h1.wf (fun k e => hne _ (h4 k _ e) rfl) (fun y _ X hX => h1.ev hX) (fun c _ ch hc => h1.mem c ch hc) ?_)
      intro β' ow' w' v E hv hu
      exact ih β' ow' _ w' (h1.app h2 hne E hv hu) hsok (h3.eff E (by omega)) (h4.eff E hmono (Rec.wr_ok hx.ok).1 (Rec.wr_ok hx.ok).2)
end
end Go.Sx
