/- Symbolic states for walks, part M: a call by its contract; a contract out of a function's own text. -/
import Derived.Test.YtfdmlpdhngmbiaaSxL
import Derived.Test.YtfdmlpdhngmbiaaSxR
namespace Go.Sx
open Go.RowKit

/-- From whatever fits S the code comes to an end as Q says. -/
def Tri (P : Program) (C : Ctx) (c : Code) (S : St) (Q : Exit → St → Prop) : Prop := ∀ a w, SatC C S a w → c.wp P (fun e a' w' => ∃ S', SatC C S' a' w' ∧ Q e S') a w
theorem Tri.of {P : Program} {C : Ctx} {T : TyTab} {c : Code} {S : St} {Q : Exit → St → Prop} (hm : P.follows .mixedOrders = true) (hT : TabOK P T) (h : wpT P C Q (evalC (stepOp T) c S Tree.done)) : Tri P C c S Q :=
  fun a w hs => wp_mono (evalC_sound hm (stepOp_sound hT) c S Tree.done a w h hs) fun _ _ _ ⟨S', h1, h2⟩ => ⟨S', h1, h2⟩
theorem Tri.ent {P : Program} {C : Ctx} {c : Code} {S S' : St} {Q : Exit → St → Prop} (h : Ent C S S') (k : Tri P C c S' Q) : Tri P C c S Q := fun a w hs => k a w (h a w hs)

/-- What a call does, with the caller's own numbers: its arguments, the pieces that it reads, what it leaves. -/
def CallSpec (P : Program) (f : FuncId) (Xs : List CV) (M : Mem) (d : Nat) (r : Res) (rd : List Nat) : Prop :=
  ∀ (β : Nat → Loc) (ow : Nat → Option Nat) (w : World) (vs : List Value), WF ow w → (∀ k, ow k ≠ some d) → CVs β Xs vs → (∀ c ∈ rd, ∀ ch, M.get c = some ch → Holds β ow w c ch) →
    Calls P f vs.toArray w fun e w' => ∃ v β' ow', e = .returned v ∧ Eff β ow w β' ow' w' r.wr d ∧ r.v.rel β' v ∧ ∀ c ch, Mem.get r.upd c = some ch → Holds β' ow' w' c ch

/-- The function has a text of its own. -/
def entersB (P : Program) (f : FuncId) : Bool :=
  match P.funcs[f]? with
  | some fn => !(fn.name == "runtime.NumGoroutine") && fn.body.isSome
  | none => false
theorem enters {P : Program} {f : FuncId} (h : entersB P f = true) (args : Array Value) (w : World) : (callFunc f args).run P w = .ok (.enter f args) w := by
  unfold entersB at h
  split at h
  · rename_i fn hf
    simp only [Bool.and_eq_true, Bool.not_eq_true'] at h
    obtain ⟨h1, h2⟩ := h
    have h3 : fn.body.isNone = false := by cases hb : fn.body <;> simp_all
    unfold callFunc
    simp only [Sem.run_bind, run_program, Result.andThen_ok, hf, h1, h3, Bool.false_eq_true, if_false, Sem.run_pure]
  · cases h

theorem entersB_of {P : Program} {f : FuncId} {fn : Func} (hf : P.funcs[f]? = some fn) (h : (!(fn.name == "runtime.NumGoroutine") && fn.body.isSome) = true) : entersB P f = true := by
  unfold entersB
  rw [hf]
  exact h

def evs (S : St) : List Operand → Option (List CV)
  | [] => some []
  | x :: r => match S.ev x, evs S r with | some (.cv c), some l => some (c :: l) | _, _ => none
theorem evs_ok {β : Nat → Loc} {S : St} {ρ : Operand → Value} : ∀ (xs : List Operand) (Xs : List CV), evs S xs = some Xs → (∀ x ∈ xs, ∀ X, S.ev x = some X → X.rel β (ρ x)) → CVs β Xs (xs.map ρ)
  | [], Xs, h, _ => by simp only [evs, Option.some.injEq] at h; subst h; rfl
  | x :: r, Xs, h, hx => by
    simp only [evs] at h
    split at h
    · rename_i c l h1 h2
      cases h
      exact ⟨_, _, rfl, hx x (by simp) _ h1, evs_ok r l h2 (fun y hy => hx y (by simp [hy]))⟩
    · cases h

theorem call_op {P : Program} {S : St} {d : Nat} {o : Oper} {f : FuncId} {args : Array Operand} {argTypes : Array TypeId} {Xs : List CV} {r : Res} {rd : List Nat} (ho : o.op = .call { callee := .value (.func f), args := args, argTypes := argTypes })
    (hf : entersB P f = true) (hx : evs S args.toList = some Xs) (h : CallSpec P f Xs S.mem d r rd) : OpSound P S d o r rd := by
  intro β ow w a K Q hw hd hops hr hK
  have hvs := evs_ok (β := β) (ρ := a.eval) args.toList Xs hx (fun x hx X hX => hops x (by rw [ho]; simp [Op.operands, Call.operands]; exact .inr (Array.mem_toList_iff.1 hx)) X hX)
  have hc := h β ow w _ hw hd hvs hr
  have hrun : (execOp a.eval o).run P w = .ok (.enter f (args.toList.map a.eval).toArray) w := by
    have e1 : (args.toList.map a.eval).toArray = args.map a.eval := by rw [← Array.toList_map, Array.toArray_toList]
    rw [e1]
    simp only [execOp, ho, resolve, Act.eval, Deferred.ofValue, Sem.run_bind, Sem.run_pure, Result.andThen_ok, invoke]
    simp [enters hf]
  unfold Oper.wp
  rw [hrun]
  refine hc.mono ?_
  rintro e w' ⟨v, β', ow', rfl, h1, h2, h3⟩
  exact hK β' ow' w' v h1 h2 h3

/-! ### numbers renamed -/
def SV.ren (ρ : Nat → Nat) : SV → SV
  | .raw v => .raw v
  | .ptr c i sz j => .ptr (ρ c) i sz j
  | .slc c sz lo len => .slc (ρ c) sz lo len
  | .map c => .map (ρ c)
  | .inn c j => .inn (ρ c) j
def CV.ren (ρ : Nat → Nat) : CV → CV
  | .one s => .one (s.ren ρ)
  | .agg cs => .agg (cs.map (SV.ren ρ))
def XV.ren (ρ : Nat → Nat) : XV → XV
  | .cv c => .cv (c.ren ρ)
  | .tup l => .tup (l.map (CV.ren ρ))
section
variable {β : Nat → Loc} {ρ : Nat → Nat}
theorem SV.ren_rel (s : SV) (v : Value) : (s.ren ρ).rel β v ↔ s.rel (fun c => β (ρ c)) v := by cases s <;> rfl
theorem Rels.ren : ∀ (ss : List SV) (vs : List Value), Rels β (ss.map (SV.ren ρ)) vs ↔ Rels (fun c => β (ρ c)) ss vs
  | [], vs => Iff.rfl
  | s :: ss, vs => by
    simp only [List.map_cons, Rels, SV.ren_rel, Rels.ren ss]
theorem CV.ren_rel (s : CV) (v : Value) : (s.ren ρ).rel β v ↔ s.rel (fun c => β (ρ c)) v := by
  cases s with
  | one s => exact SV.ren_rel s v
  | agg cs => simp only [CV.ren, CV.rel, Rels.ren]
theorem CVs.ren : ∀ (ss : List CV) (vs : List Value), CVs β (ss.map (CV.ren ρ)) vs ↔ CVs (fun c => β (ρ c)) ss vs
  | [], vs => Iff.rfl
  | s :: ss, vs => by
    simp only [List.map_cons, CVs, CV.ren_rel, CVs.ren ss]
theorem XV.ren_rel (s : XV) (v : Value) : (s.ren ρ).rel β v ↔ s.rel (fun c => β (ρ c)) v := by
  cases s with
  | cv s => exact CV.ren_rel s v
  | tup l => simp only [XV.ren, XV.rel, CVs.ren]
end

/-- A piece that names no other. -/
def Chunk.closed : Chunk → Bool
  | .cells _ cs => cs.all (SV.ok fun _ => false)
  | _ => true

def Chunk.isRo : Chunk → Bool
  | .ro _ _ _ => true
  | _ => false

/-- A piece is what it is under whatever number, as long as the blocks that are its own are the same. -/
theorem Holds.move {β β' : Nat → Loc} {ow ow' : Nat → Option Nat} {w : World} {c c' : Nat} {ch : Chunk} (hc : ch.closed = true) (hl : β' c' = β c) (ho : ch.isRo = false → ∀ k, ow' k = some c' ↔ ow k = some c)
    (hn : ch.isRo = true → ∀ k, ow k = none → ow' k = none) (h : Holds β ow w c ch) : Holds β' ow' w c' ch := by
  cases ch with
  | cells e cs =>
    obtain ⟨h0, h1, h2, arr, h3, h4⟩ := h
    exact ⟨by rw [hl]; exact h0, by rw [hl]; exact h1, by rw [hl]; exact (ho rfl _).2 h2, arr, by rw [hl]; exact h3, Rels.congr (p := fun _ => false) (fun _ h => by cases h) hc h4⟩
  | vec e sz n f =>
    simp only [Holds] at h ⊢
    rw [hl]
    by_cases hn' : (β c).nil = true
    · rw [if_pos hn'] at h ⊢; exact h
    · rw [if_neg hn'] at h ⊢
      obtain ⟨h1, h2, h3⟩ := h
      exact ⟨h1, (ho rfl _).2 h2, h3⟩
  | ro sz n f =>
    simp only [Holds] at h ⊢
    rw [hl]
    by_cases hn' : (β c).nil = true
    · rw [if_pos hn'] at h ⊢; exact h
    · rw [if_neg hn'] at h ⊢
      exact ⟨hn rfl _ h.1, h.2⟩
  | abs A =>
    obtain ⟨h0, h1, h2⟩ := h
    refine ⟨by rw [hl]; exact h0, by rw [hl]; exact h1, ?_⟩
    rw [hl]
    exact A.loc (fun _ _ => rfl) (fun k => ho rfl k) h2

/-! ### a contract out of the function's own text -/
def lidx (c : Nat) : List Nat → Option Nat
  | [] => none
  | x :: r => if x = c then some 0 else (lidx c r).map (· + 1)
theorem lidx_get {c : Nat} : ∀ {l : List Nat} {i : Nat}, lidx c l = some i → l[i]? = some c
  | [], i, h => by simp [lidx] at h
  | x :: r, i, h => by
    simp only [lidx] at h
    by_cases hx : x = c
    · rw [if_pos hx] at h; cases h; simp [hx]
    · rw [if_neg hx] at h
      cases hr : lidx c r with
      | none => simp [hr] at h
      | some j => simp [hr] at h; subst h; simpa using lidx_get hr
theorem lidx_nodup {l : List Nat} (hl : l.Nodup) {c : Nat} {i : Nat} (h : l[i]? = some c) : lidx c l = some i := by
  induction l generalizing i with
  | nil => simp at h
  | cons x r ih =>
    obtain ⟨h1, h2⟩ := List.nodup_cons.1 hl
    cases i with
    | zero => simp at h; simp [lidx, h]
    | succ i =>
      have h' : r[i]? = some c := by simpa using h
      have hx : ¬ x = c := fun e => h1 (e ▸ List.mem_of_getElem? h')
      simp [lidx, hx, ih h2 h']
theorem lidx_none {c : Nat} : ∀ {l : List Nat}, lidx c l = none → c ∉ l
  | [], _ => by simp
  | x :: r, h => by
    simp only [lidx] at h
    by_cases hx : x = c
    · rw [if_pos hx] at h; cases h
    · rw [if_neg hx] at h
      cases hr : lidx c r with
      | some j => simp [hr] at h
      | none =>
        have := lidx_none hr
        simp only [List.mem_cons, not_or]
        exact ⟨fun e => hx e.symm, this⟩

/-- What a function leaves, with its own numbers: 0, 1, .. for the pieces that came in, 'fr' for a new one. -/
structure Out where
  v : XV
  upd : List (Nat × Chunk) := []
  fr : Option (Nat × Chunk) := none

/-- The end of a function's text fits what is promised of it: of the pieces below k1 (the call's to turn), and of the new one. -/
def Ends (C : Ctx) (T : TyTab) (rs : List ResultVar) (k1 n0 : Nat) (out : Out) (e : Exit) (S : St) : Prop :=
  (e = .normal ∨ e = .ret) ∧ ∃ S', Ent C S S' ∧ resX T S' rs = some out.v ∧ (∀ i ch, Mem.get out.upd i = some ch → i < k1 ∧ S'.mem.get i = some ch) ∧ (∀ i ch, out.fr = some (i, ch) → n0 ≤ i ∧ S'.mem.get i = some ch)

/-- How the function's own numbers are told by the caller's. -/
def renOut (ids : List Nat) (d : Nat) (fr : Option (Nat × Chunk)) (c : Nat) : Nat :=
  match fr with
  | some (i, _) => if c = i then d else (ids[c]?).getD d
  | none => (ids[c]?).getD d

/-- ids: the caller's numbers of the pieces that the call may turn (0, 1, .. in its own text); rids: of those that it only reads (the next numbers). -/
theorem spec_of_text {P : Program} {T : TyTab} {f : FuncId} {fn : Func} {c : Code} (hT : TabOK P T) (hf : P.funcs[f]? = some fn) (hb : fn.body = some c)
    {Xl : List CV} {M0 : Mem} {k1 n0 : Nat} {ids rids : List Nat} {d : Nat} {M : Mem} {out : Out} (hids : ids.Nodup) (hk1 : ids.length = k1) (hn0 : k1 + rids.length = n0) (hd : d ∉ ids ++ rids)
    (hXl : Xl.all (CV.ok fun i => Nat.blt i n0) = true) (hM0 : ∀ i ch, M0.get i = some ch → i < n0 ∧ ch.closed = true ∧ (k1 ≤ i → ch.isRo = true) ∧ ∀ ci, (ids ++ rids)[i]? = some ci → M.get ci = some ch)
    (hup : ∀ i ch, Mem.get out.upd i = some ch → ch.closed = true ∧ ch.isRo = false) (hfr : ∀ i ch, out.fr = some (i, ch) → ch.closed = true ∧ ch.isRo = false)
    (hv : out.v.ok (fun i => Nat.blt i n0 || (match out.fr with | some (j, _) => Nat.beq j i | none => false)) = true)
    (h : ∀ C : Ctx, C.n0 = n0 → Tri P C c ⟨slots0 fn.ntmps (Xl.map .cv), M0, n0⟩ (Ends C T fn.results.toList k1 n0 out))
    {Xs : List CV} (hXs : Xs = Xl.map (CV.ren fun i => ((ids ++ rids)[i]?).getD d)) {r : Res} (hrv : r.v = out.v.ren (renOut (ids ++ rids) d out.fr)) (hwr : r.wr = ids)
    (hru : ∀ c ch, Mem.get r.upd c = some ch → (∃ i, ids[i]? = some c ∧ Mem.get out.upd i = some ch) ∨ (c = d ∧ ∃ i, out.fr = some (i, ch))) : CallSpec P f Xs M d r (ids ++ rids) := by
  intro β ow w vs hw hfresh hvs hr
  subst hXs
  let ρ : Nat → Nat := fun i => ((ids ++ rids)[i]?).getD d
  let βl : Nat → Loc := fun i => β (ρ i)
  let owl : Nat → Option Nat := fun k => (ow k).bind fun c => lidx c ids
  have hargs : CVs βl Xl vs := (CVs.ren Xl vs).1 hvs
  have hdi : d ∉ ids := fun h => hd (List.mem_append_left _ h)
  have hwl : WF owl w := fun k hk => hw k (fun e => hk (by simp [owl, e]))
  have hown : ∀ k i, owl k = some i ↔ ∃ ci, ids[i]? = some ci ∧ ow k = some ci := by
    intro k i
    constructor
    · intro hk
      cases ho : ow k with
      | none => simp [owl, ho] at hk
      | some ci => exact ⟨ci, lidx_get (by simpa [owl, ho] using hk), rfl⟩
    · rintro ⟨ci, h1, h2⟩
      simp only [owl, h2, Option.bind_some]
      exact lidx_nodup hids h1
  have hownlt : ∀ k i, owl k = some i → i < k1 := by
    intro k i hk
    obtain ⟨ci, e1, _⟩ := (hown k i).1 hk
    rw [← hk1]
    exact (List.getElem?_eq_some_iff.1 e1).1
  let C : Ctx := { w0 := w, own0 := fun k => owl k ≠ none, β0 := βl, n0 := n0 }
  have hheld : ∀ i ch, M0.get i = some ch → Holds βl owl w i ch := by
    intro i ch hi
    obtain ⟨h1, h2, h4, h3⟩ := hM0 i ch hi
    have hil : i < (ids ++ rids).length := by rw [List.length_append]; omega
    have hci : (ids ++ rids)[i]? = some (ids ++ rids)[i] := List.getElem?_eq_getElem hil
    have hm := hr (ids ++ rids)[i] (List.getElem_mem hil) ch (h3 _ hci)
    refine Holds.move (β := β) (ow := ow) (c := (ids ++ rids)[i]) h2 (by simp [βl, ρ, hci]) (fun hro k => ?_) (fun _ k hk => by simp [owl, hk]) hm
    have hik : i < k1 := by
      rcases Nat.lt_or_ge i k1 with h' | h'
      · exact h'
      · rw [h4 h'] at hro; cases hro
    have hci' : ids[i]? = some (ids ++ rids)[i] := by rw [← hci, List.getElem?_append_left (by omega)]
    rw [hown]
    constructor
    · rintro ⟨ci, e1, e2⟩; rw [hci'] at e1; cases e1; exact e2
    · intro e; exact ⟨_, hci', e⟩
  have hlenv : vs.length = Xl.length := by
    have : ∀ (a : List CV) (b : List Value), CVs βl a b → b.length = a.length := by
      intro a
      induction a with
      | nil => intro b hb; cases hb; rfl
      | cons x r ih => rintro b ⟨v, r', rfl, _, h2⟩; simp [ih r' h2]
    exact this _ _ hargs
  have hsat : SatC C ⟨slots0 fn.ntmps (Xl.map .cv), M0, n0⟩ { tmps := vs.toArray ++ Array.replicate (fn.ntmps - vs.toArray.size) undef, defers := [] } w := by
    have look : ∀ (a : List CV) (b : List Value) (m : Nat), CVs βl a b → ∀ t X, lget (a.map (fun c => some (XV.cv c)) ++ List.replicate m none) t = some X → ∃ v, b[t]? = some v ∧ X.rel βl v ∧ ∃ c ∈ a, X = .cv c := by
      intro a
      induction a with
      | nil =>
        intro b m _ t X hX
        exfalso
        have : ∀ m t, lget (List.replicate m none) t = none := by
          intro m
          induction m with
          | zero => intro t; rfl
          | succ m ih => intro t; cases t <;> simp [List.replicate_succ, lget, ih]
        simp [this] at hX
      | cons x r ih =>
        rintro b m ⟨v, r', rfl, h1, h2⟩ t X hX
        cases t with
        | zero => simp only [List.map_cons, List.cons_append, lget, Option.some.injEq] at hX; subst hX; exact ⟨v, rfl, h1, x, by simp, rfl⟩
        | succ t =>
          simp only [List.map_cons, List.cons_append, lget] at hX
          obtain ⟨v', e1, e2, c, e3, e4⟩ := ih r' m h2 t X hX
          exact ⟨v', by simpa using e1, e2, c, by simp [e3], e4⟩
    have hsl : slots0 fn.ntmps (Xl.map .cv) = Xl.map (fun c => some (XV.cv c)) ++ List.replicate (fn.ntmps - Xl.length) none := by simp [slots0]
    refine ⟨βl, owl, ⟨rfl, ?_, ?_, hheld, hwl⟩, ⟨?_, ?_⟩, ⟨rfl, rfl, rfl, Nat.le_refl _, fun k _ hk => ⟨rfl, by simpa [C] using hk⟩, fun _ _ => rfl⟩, Nat.le_refl _, ?_⟩
    · simp [hsl, hlenv]
    · intro t X hX
      rw [hsl] at hX
      obtain ⟨v, e1, e2, _⟩ := look Xl vs _ hargs t X hX
      have : (vs.toArray ++ Array.replicate (fn.ntmps - vs.toArray.size) undef).getD t undef = v := by
        have hlt : t < vs.length := (List.getElem?_eq_some_iff.1 e1).1
        rw [Array.getD_eq_getD_getElem?, Array.getElem?_append_left (by simpa using hlt)]
        simp [e1]
      rw [this]; exact e2
    · intro t X hX
      rw [hsl] at hX
      obtain ⟨v, _, _, cv, e3, rfl⟩ := look Xl vs _ hargs t X hX
      exact List.all_eq_true.1 hXl cv e3
    · intro i ch hi
      obtain ⟨h1, h2, _⟩ := hM0 i ch hi
      refine ⟨by simpa using h1, ?_⟩
      cases ch with
      | cells e cs => exact SVs.ok_mono (fun _ h => by cases h) h2
      | _ => rfl
    · intro k i hk
      have := hownlt k i hk
      simp only [Nat.blt_eq]; omega
  refine calls_of_wp hf hb (wp_mono (h C rfl _ w hsat) ?_)
  rintro e a w' ⟨S', hs', he⟩
  obtain ⟨hex, S2, hent, hres, hupd, hfre⟩ := he
  obtain ⟨β1, ow1, g1, g2, g3, g4, g5⟩ := hent a w' hs'
  obtain ⟨x, hx, hrel⟩ := resX_ok hT g1 hres
  have hg : a.defers = [] := g1.defers
  have key : ∃ v β' ow', Ending.returned x = .returned v ∧ Eff β ow w β' ow' w' r.wr d ∧ r.v.rel β' v ∧ ∀ c ch, Mem.get r.upd c = some ch → Holds β' ow' w' c ch := by
    let jf : Nat := match out.fr with | some (i, _) => i | none => n0
    let β' : Nat → Loc := setβ β d (β1 jf)
    -- who owns what, in the caller's numbers
    let ow' : Nat → Option Nat := fun k =>
      match ow1 k with
      | some i => if i < k1 then ids[i]? else (match out.fr with | some (j, _) => if i = j then some d else none | none => none)
      | none => if k < w.heap.size ∧ owl k = none then ow k else none
    have hβl : ∀ i, i < n0 → β1 i = β (ρ i) := fun i hi => g3.beta i hi
    have hfn : ∀ i ch, out.fr = some (i, ch) → n0 ≤ i := fun i ch hi => (hfre i ch hi).1
    have hmem : ∀ i, i < n0 → ∃ ci, (ids ++ rids)[i]? = some ci ∧ ci ∈ ids ++ rids := fun i hi => by
      have hil : i < (ids ++ rids).length := by rw [List.length_append]; omega
      exact ⟨(ids ++ rids)[i], List.getElem?_eq_getElem hil, List.getElem_mem hil⟩
    have hold : ∀ k, k < w.heap.size → (∀ c ∈ ids, ow k ≠ some c) → w'.heap[k]? = w.heap[k]? ∧ ow' k = ow k := by
      intro k hk hne
      have hno : owl k = none := by
        cases ho : owl k with
        | none => rfl
        | some i =>
          obtain ⟨ci, e1, e2⟩ := (hown k i).1 ho
          exact absurd e2 (hne ci (List.mem_of_getElem? e1))
      obtain ⟨e1, e2⟩ := g3.keep k hk (by simp [C, hno])
      exact ⟨e1, by simp [ow', e2, hk, hno]⟩
    have hβd : ∀ c, c ≠ d → β' c = β c := fun c hc => by simp [β', setβ, hc]
    refine ⟨x, β', ow', rfl, ⟨hβd, g3.os, g3.tape, g3.output, g3.size, ?_, ?_, ?_⟩, ?_, ?_⟩
    · intro k hk hne; rw [hwr] at hne; exact hold k hk hne
    · intro k hk c0 hc
      rw [hwr]
      rw [hwr] at hk
      simp only [ow'] at hc
      cases ho : ow1 k with
      | some i =>
        simp only [ho] at hc
        by_cases hi : i < k1
        · rw [if_pos hi] at hc
          exact .inl (List.mem_of_getElem? hc)
        · rw [if_neg hi] at hc
          split at hc
          · split at hc
            · cases hc; exact .inr rfl
            · cases hc
          · cases hc
      | none =>
        simp only [ho] at hc
        split at hc
        · rename_i hcond
          rcases hk with hk | ⟨c1, h1, h2⟩
          · omega
          · exfalso
            have hidx : ∃ i, ids[i]? = some c1 := List.getElem?_of_mem h1
            obtain ⟨i, hi⟩ := hidx
            have := (hown k i).2 ⟨c1, hi, h2⟩
            rw [hcond.2] at this; cases this
        · cases hc
    · intro k hk
      simp only [ow'] at hk
      cases ho : ow1 k with
      | some i => exact g1.wf k (by simp [ho])
      | none =>
        simp only [ho] at hk
        split at hk
        · rename_i hcond
          exact Nat.lt_of_lt_of_le hcond.1 g3.size
        · exact absurd rfl hk
    · rw [hrv, XV.ren_rel]
      refine XV.rel_congr (p := fun i => Nat.blt i n0 || (match out.fr with | some (j, _) => Nat.beq j i | none => false)) (fun i hi => ?_) hv hrel
      simp only [Bool.or_eq_true, Nat.blt_eq] at hi
      rcases hi with hi | hi
      · obtain ⟨ci, e1, e2⟩ := hmem i hi
        have hr : renOut (ids ++ rids) d out.fr i = ci := by
          unfold renOut
          split
          · rename_i j ch hj
            have := hfn j ch hj
            rw [if_neg (by omega), e1]; rfl
          · rw [e1]; rfl
        rw [hr, hβd ci (fun e => hd (e ▸ e2)), hβl i hi]
        simp [ρ, e1]
      · cases hfo : out.fr with
        | none => simp [hfo] at hi
        | some y =>
          obtain ⟨j, ch⟩ := y
          simp only [hfo, nbeq, decide_eq_true_eq] at hi
          subst hi
          simp [renOut, β', setβ, jf, hfo]
    · intro c0 ch hc
      rcases hru c0 ch hc with ⟨i, e1, e2⟩ | ⟨rfl, i, e2⟩
      · obtain ⟨h1, h2⟩ := hupd i ch e2
        have e1' : (ids ++ rids)[i]? = some c0 := by rw [List.getElem?_append_left (by omega)]; exact e1
        refine Holds.move (β := β1) (ow := ow1) (c := i) (hup i ch e2).1 ?_ (fun _ k => ?_) (fun hro => by rw [(hup i ch e2).2] at hro; cases hro) (g1.mem i ch h2)
        · have hm' : c0 ∈ ids := List.mem_of_getElem? e1
          rw [hβd c0 (fun e => hdi (e ▸ hm')), hβl i (by omega)]
          simp [ρ, e1']
        · simp only [ow']
          constructor
          · intro hk
            cases ho : ow1 k with
            | some i' =>
              simp only [ho] at hk
              by_cases hi' : i' < k1
              · rw [if_pos hi'] at hk
                have := lidx_nodup hids hk
                rw [lidx_nodup hids e1] at this
                cases this; rfl
              · rw [if_neg hi'] at hk
                split at hk
                · split at hk
                  · cases hk; exact absurd (List.mem_of_getElem? e1) hdi
                  · cases hk
                · cases hk
            | none =>
              simp only [ho] at hk
              split at hk
              · rename_i hcond
                have := (hown k i).2 ⟨c0, e1, hk⟩
                rw [hcond.2] at this; cases this
              · cases hk
          · intro hk
            rw [hk]
            simp only [if_pos h1, e1]
      · obtain ⟨h1, h2⟩ := hfre i ch e2
        refine Holds.move (β := β1) (ow := ow1) (c := i) (hfr i ch e2).1 (by simp [β', setβ, jf, e2]) (fun _ k => ?_) (fun hro => by rw [(hfr i ch e2).2] at hro; cases hro) (g1.mem i ch h2)
        simp only [ow']
        constructor
        · intro hk
          cases ho : ow1 k with
          | some i' =>
            simp only [ho] at hk
            by_cases hi' : i' < k1
            · rw [if_pos hi'] at hk
              exact absurd (List.mem_of_getElem? hk) hdi
            · rw [if_neg hi', e2] at hk
              simp only at hk
              split at hk
              · rename_i he; rw [he]
              · cases hk
          | none =>
            simp only [ho] at hk
            split at hk
            · exact absurd hk (hfresh k)
            · cases hk
        · intro hk
          rw [hk]
          have : ¬ i < k1 := by omega
          simp only [if_neg this, e2, if_true]
  rcases hex with rfl | rfl
  · exact ⟨hg, x, hx, key⟩
  · exact ⟨hg, x, hx, key⟩
end Go.Sx
