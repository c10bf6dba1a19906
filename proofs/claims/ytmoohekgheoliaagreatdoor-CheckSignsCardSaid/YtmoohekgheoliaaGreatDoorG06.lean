/- Parts SxS SxT SxU SxV. -/
import Derived.Test.YtmoohekgheoliaaGreatDoorG05
import Derived.ProofKit
import Derived.OpenShut
import Derived.Deep.Slices
set_option linter.unusedSimpArgs false
set_option linter.unusedVariables false
namespace Go.Sx
open Go.RowKit
theorem spec_obj {P : Program} {T : TyTab} {f : FuncId} {fn : Func} {c : Code} (hT : TabOK P T) (hf : P.funcs[f]? = some fn) (hb : fn.body = some c) {A A' : AbsP} (Xl : List CV) (X : XV)
    (hXl : Xl.all (CV.ok fun _ => false) = true) (hX : X.ok (fun _ => false) = true) {M : Mem} {c0 d : Nat} (hM : M.get c0 = some (.abs A)) (hd : Nat.beq d c0 = false)
    (h : ∀ C : Ctx, C.n0 = 1 → Tri P C c ⟨slots0 fn.ntmps (.cv (.one (.ptr 0 0 0 0)) :: Xl.map .cv), [(0, .abs A)], 1⟩ (Ends C T fn.results.toList 1 1 ⟨X, [(0, .abs A')], none⟩)) :
    CallSpec P f (.one (.ptr c0 0 0 0) :: Xl) M d { v := X, upd := [(c0, .abs A')], wr := [c0] } [c0] := by
  have hd' : d ≠ c0 := by
    rw [nbeq] at hd
    simpa using hd
  have get1 : ∀ (k i : Nat) (x ch : Chunk), Mem.get [(k, x)] i = some ch → i = k ∧ ch = x := by
    intro k i x ch h
    simp only [Mem.get, nbeq] at h
    by_cases hk : k = i
    · simp only [hk, decide_true, cond_true, Option.some.injEq] at h; exact ⟨hk.symm, h.symm⟩
    · simp [hk] at h
  refine spec_of_text (ids := [c0]) (rids := []) (Xl := .one (.ptr 0 0 0 0) :: Xl) (M0 := [(0, .abs A)]) (out := ⟨X, [(0, .abs A')], none⟩) hT hf hb (by simp) rfl rfl (k1 := 1) (n0 := 1) (by simpa using hd') ?_ (fun i ch hi => ?_) (fun i ch hi => ?_) (fun i ch hi => by cases hi) ?_ h ?_ (XV.ren_closed hX).symm rfl (fun c ch hc => ?_)
  · simp only [List.all_cons, Bool.and_eq_true]
    refine ⟨by simp [CV.ok, SV.ok], ?_⟩
    simp only [List.all_eq_true] at hXl ⊢
    exact fun s hs => CV.ok_mono (fun _ h => by cases h) (hXl s hs)
  · obtain ⟨rfl, rfl⟩ := get1 _ _ _ _ hi
    refine ⟨by simp, rfl, fun h => by simp at h, fun ci hci => ?_⟩
    simp at hci
    subst hci
    exact hM
  · obtain ⟨rfl, rfl⟩ := get1 _ _ _ _ hi
    exact ⟨rfl, rfl⟩
  · exact XV.ok_mono (fun _ h => by cases h) hX
  · simp only [List.map_cons, CVs.ren_closed hXl]
    rfl
  · obtain ⟨rfl, rfl⟩ := get1 _ _ _ _ hc
    exact .inl ⟨0, rfl, rfl⟩
theorem Ends.shut {C : Ctx} {T : TyTab} {rs : List ResultVar} {X v : XV} {S : St} {e : Exit} {ids : List Nat} {M : Mem} {inv : Prop} (he : e = .normal ∨ e = .ret) (hE : Ent C S (S.shut 0 ids M inv)) (hr : resX T (S.shut 0 ids M inv) rs = some v) (hv : v = X) :
    Ends C T rs 1 1 ⟨X, [(0, .abs (packP M inv))], none⟩ e S := by
  refine ⟨he, _, hE, by rw [hr, hv], fun i ch h => ?_, fun i ch h => by cases h⟩
  simp only [Mem.get, nbeq] at h
  by_cases hk : 0 = i
  · subst hk
    simp only [decide_true, cond_true, Option.some.injEq] at h
    exact ⟨by omega, by rw [← h]; rfl⟩
  · simp [hk] at h
theorem Ent.shut3 {C : Ctx} {S : St} {i0 i1 i2 : Nat} {M : Mem} {inv : Prop} {a0 a1 a2 b0 b1 b2 : Chunk} (hids : (Nat.beq i0 i1 || Nat.beq i0 i2 || Nat.beq i1 i2) = false) (hinv : inv) (hM : memB 3 M = true) (g0 : M.get 0 = some a0) (g1 : M.get 1 = some a1) (g2 : M.get 2 = some a2)
    (k0 : S.mem.get i0 = some b0) (k1 : S.mem.get i1 = some b1) (k2 : S.mem.get i2 = some b2) (hc : b0.isCells = true) (l0 : ChLe b0 (a0.ren fun j => (([i0, i1, i2] : List Nat)[j]?).getD 0)) (l1 : ChLe b1 (a1.ren fun j => (([i0, i1, i2] : List Nat)[j]?).getD 0))
    (l2 : ChLe b2 (a2.ren fun j => (([i0, i1, i2] : List Nat)[j]?).getD 0)) : Ent C S (S.shut i0 [i0, i1, i2] M inv) := by
  refine Ent.shut ?_ rfl hinv ⟨b0, k0, hc⟩ hM (fun j i hj => ?_)
  · simp only [Bool.or_eq_false_iff, nbeq, decide_eq_false_iff_not] at hids
    obtain ⟨⟨h1, h2⟩, h3⟩ := hids
    simp [h1, h2, h3]
  · match j with
    | 0 => simp at hj; subst hj; exact ⟨a0, b0, g0, k0, l0⟩
    | 1 => simp at hj; subst hj; exact ⟨a1, b1, g1, k1, l1⟩
    | 2 => simp at hj; subst hj; exact ⟨a2, b2, g2, k2, l2⟩
    | j + 3 => simp at hj
def cutQ (P : Program) (C : Ctx) (y : Code) (Q : Exit → St → Prop) (e : Exit) (S : St) : Prop := match e with | .normal => Tri P C y S Q | e => Q e S
theorem cutG {P : Program} {C : Ctx} {y : Code} {S : St} {Q : Exit → St → Prop} (h : Tri P C y S Q) : cutQ P C y Q .normal S := h
theorem cutR {P : Program} {C : Ctx} {y : Code} {S : St} {Q : Exit → St → Prop} (h : Q .ret S) : cutQ P C y Q .ret S := h
theorem cutE {P : Program} {C : Ctx} {y : Code} {S : St} {Q : Exit → St → Prop} {n : Nat} (h : Q (.exit n) S) : cutQ P C y Q (.exit n) S := h
theorem Tri.seq {P : Program} {C : Ctx} {x y : Code} {S : St} {Q : Exit → St → Prop} (h : Tri P C x S (cutQ P C y Q)) : Tri P C (.seq x y) S Q := by
  intro a w hs
  refine wp_seq (wp_mono (h a w hs) ?_)
  rintro e a' w' ⟨S', h1, h2⟩
  cases e with
  | normal => exact h2 a' w' h1
  | _ => exact ⟨S', h1, h2⟩
theorem Tri.cond {P : Program} {C : Ctx} {t : Operand} {x y : Code} {S : St} {Q : Exit → St → Prop} {b : Bool} (hb : S.ev t = some (XV.bool b)) (ht : b = true → Tri P C x S Q) (hf : b = false → Tri P C y S Q) : Tri P C (.cond t x y) S Q := by
  intro a w hs
  have hs' := hs
  obtain ⟨β, ow, h1, _⟩ := hs'
  have hv := h1.ev hb
  simp only [XV.rel, CV.rel, SV.rel] at hv
  exact wp_cond_split hv (fun h => ht h a w hs) (fun h => hf h a w hs)
theorem Tri.skip {P : Program} {C : Ctx} {S : St} {Q : Exit → St → Prop} (h : Q .normal S) : Tri P C .skip S Q := fun _ _ hs => wp_skip ⟨S, hs, h⟩
def takeC : Nat → Code → List Code
  | n + 1, .seq x y => x :: takeC n y
  | _, _ => []
def dropC : Nat → Code → Code
  | n + 1, .seq _ y => dropC n y
  | _, c => c
theorem stk_pass (step : Step) {e : Exit} (he : e ≠ .normal) (S : St) : ∀ l : List Code, stkK step (l.map Fr.seq) e S = Tree.done e S
  | [] => rfl
  | _ :: r => by
    have := stk_pass step he S r
    cases e <;> first | exact absurd rfl he | exact this
theorem cut_sound {P : Program} {C : Ctx} {T : TyTab} (hm : P.follows .mixedOrders = true) (hT : TabOK P T) {Q : Exit → St → Prop} : ∀ (n : Nat) (c : Code) (S : St),
    wpT P C (cutQ P C (dropC n c) Q) (stkK (stepOp T) ((takeC n c).map Fr.seq) .normal S) → Tri P C c S Q
  | 0, c, S, h => by
    have e : takeC 0 c = [] := by cases c <;> rfl
    have e2 : dropC 0 c = c := by cases c <;> rfl
    rw [e, e2] at h
    exact h
  | n + 1, c, S, h => by
    cases c with
    | seq x y =>
      intro a w hs
      refine wp_seq (wp_mono (evalC_sound hm (stepOp_sound hT) x S _ a w h hs) ?_)
      rintro e a' w' ⟨S', h1, h2⟩
      cases e with
      | normal => exact cut_sound hm hT n y S' h2 a' w' h1
      | _ =>
        rw [stk_pass _ (by simp)] at h2
        exact ⟨S', h1, h2⟩
    | _ => exact h
theorem Tri.cut {P : Program} {C : Ctx} {T : TyTab} {c : Code} {S : St} {Q : Exit → St → Prop} (n : Nat) (hm : P.follows .mixedOrders = true) (hT : TabOK P T)
    (h : wpN P C (cutQ P C (dropC n c) Q) (stepOp T) (stK S fun S => run (stepOp T) 4000 (.ex .normal S ((takeC n c).map Fr.seq)))) : Tri P C c S Q := by
  rw [stK_eq] at h
  exact cut_sound hm hT n c S (run_sound 4000 _ h)
theorem spec_new {P : Program} {T : TyTab} {f : FuncId} {fn : Func} {c : Code} (hT : TabOK P T) (hf : P.funcs[f]? = some fn) (hb : fn.body = some c) {A' : AbsP} (Xl : List CV)
    (hXl : Xl.all (CV.ok fun _ => false) = true) {M : Mem} {d : Nat} (i : Nat)
    (h : ∀ C : Ctx, C.n0 = 0 → Tri P C c ⟨slots0 fn.ntmps (Xl.map .cv), [], 0⟩ (Ends C T fn.results.toList 0 0 ⟨XV.sv (.ptr i 0 0 0), [], some (i, .abs A')⟩)) :
    CallSpec P f Xl M d { v := XV.sv (.ptr d 0 0 0), upd := [(d, .abs A')] } [] := by
  refine spec_of_text (ids := []) (rids := []) (Xl := Xl) (M0 := []) (out := ⟨XV.sv (.ptr i 0 0 0), [], some (i, .abs A')⟩) (k1 := 0) (n0 := 0) hT hf hb (by simp) rfl rfl (by simp) ?_ (fun i ch hi => by simp [Mem.get] at hi) (fun i ch hi => by simp [Mem.get] at hi) (fun j ch hj => ?_) ?_ h (CVs.ren_closed hXl).symm ?_ rfl (fun c ch hc => ?_)
  · simp only [List.all_eq_true] at hXl ⊢
    exact fun s hs => CV.ok_mono (fun _ h => by cases h) (hXl s hs)
  · cases hj; exact ⟨rfl, rfl⟩
  · simp [XV.ok, CV.ok, SV.ok]
  · simp [XV.ren, CV.ren, SV.ren, renOut]
  · simp only [Mem.get, nbeq] at hc
    by_cases hk : d = c
    · simp only [hk, decide_true, cond_true, Option.some.injEq] at hc
      exact .inr ⟨hk.symm, i, by rw [hc]⟩
    · simp [hk] at hc
end Go.Sx
namespace Go.Sx
open Go.RowKit
def blockQ (id : Nat) (Q : Exit → St → Prop) (e : Exit) (S : St) : Prop := match e with | .exit id' => if id' = id then Q .normal S else Q (.exit id') S | e => Q e S
theorem blockN {id : Nat} {Q : Exit → St → Prop} {S : St} (h : Q .normal S) : blockQ id Q .normal S := h
theorem blockR {id : Nat} {Q : Exit → St → Prop} {S : St} (h : Q .ret S) : blockQ id Q .ret S := h
theorem blockX {id : Nat} {Q : Exit → St → Prop} {S : St} (h : Q .normal S) : blockQ id Q (.exit id) S := by
  simp only [blockQ, if_true]; exact h
theorem Tri.block {P : Program} {C : Ctx} {id : Nat} {c : Code} {S : St} {Q : Exit → St → Prop} (h : Tri P C c S (blockQ id Q)) : Tri P C (.block id c) S Q := by
  intro a w hs
  refine wp_block (wp_mono (h a w hs) ?_)
  rintro e a' w' ⟨S', h1, h2⟩
  cases e with
  | exit id' =>
    simp only [Exit.inBlock]
    simp only [blockQ] at h2
    by_cases hid : id' = id
    · rw [if_pos hid] at h2 ⊢; exact ⟨S', h1, h2⟩
    · rw [if_neg hid] at h2 ⊢; exact ⟨S', h1, h2⟩
  | _ => exact ⟨S', h1, h2⟩
def loopQ (Q : Exit → St → Prop) (next : St → Prop) (e : Exit) (S : St) : Prop := match e with | .normal => next S | e => Q e S
theorem loopN {Q : Exit → St → Prop} {next : St → Prop} {S : St} (h : next S) : loopQ Q next .normal S := h
theorem loopX {Q : Exit → St → Prop} {next : St → Prop} {S : St} {id : Nat} (h : Q (.exit id) S) : loopQ Q next (.exit id) S := h
theorem loopR {Q : Exit → St → Prop} {next : St → Prop} {S : St} (h : Q .ret S) : loopQ Q next .ret S := h
def nextQ {α : Type} (C : Ctx) (St : α → St) (μ : α → Nat) (x : α) (S' : Sx.St) : Prop := ∃ y, μ y < μ x ∧ Ent C S' (St y)
theorem Tri.loop {P : Program} {C : Ctx} {α : Type} (St : α → St) (μ : α → Nat) (a0 : α) {body : Code} {S : Sx.St} {Q : Exit → Sx.St → Prop} (h0 : Ent C S (St a0)) (round : ∀ x, Tri P C body (St x) (loopQ Q (nextQ C St μ x))) : Tri P C (.loop body) S Q := by
  intro a w hs
  refine wp_mono (wp_loop (fun a w => ∃ x, SatC C (St x) a w) (fun a w => Classical.epsilon fun n => ∃ x, SatC C (St x) a w ∧ n = μ x ∧ ∀ y, SatC C (St y) a w → μ x ≤ μ y) ⟨a0, h0 a w hs⟩ ?_) (fun e a' w' h => h)
  rintro a w hI
  have pick : ∀ (n : Nat) (a : Act) (w : World) (x : α), SatC C (St x) a w → μ x ≤ n → ∃ x, SatC C (St x) a w ∧ ∀ y, SatC C (St y) a w → μ x ≤ μ y := by
    intro n
    induction n with
    | zero => exact fun a w x hx hle => ⟨x, hx, fun y _ => by omega⟩
    | succ n ih =>
      intro a w x hx hle
      by_cases hex : ∃ y, SatC C (St y) a w ∧ μ y < μ x
      · obtain ⟨y, hy, hlt⟩ := hex
        exact ih a w y hy (by omega)
      · exact ⟨x, hx, fun y hy => Nat.le_of_not_lt fun hlt => hex ⟨y, hy, hlt⟩⟩
  have least : ∀ (a : Act) (w : World), (∃ x, SatC C (St x) a w) → ∃ x, SatC C (St x) a w ∧ (∀ y, SatC C (St y) a w → μ x ≤ μ y) ∧ (Classical.epsilon fun n => ∃ x, SatC C (St x) a w ∧ n = μ x ∧ ∀ y, SatC C (St y) a w → μ x ≤ μ y) = μ x := by
    rintro a w ⟨x0, hx0⟩
    obtain ⟨x, hx, hmin⟩ := pick _ a w x0 hx0 (Nat.le_refl _)
    have := Classical.epsilon_spec (p := fun n => ∃ x, SatC C (St x) a w ∧ n = μ x ∧ ∀ y, SatC C (St y) a w → μ x ≤ μ y) ⟨μ x, x, hx, rfl, hmin⟩
    obtain ⟨z, hz, he, hzm⟩ := this
    exact ⟨z, hz, hzm, he⟩
  obtain ⟨x, hx, hmin, hμ⟩ := least a w hI
  refine wp_mono (round x a w hx) ?_
  rintro e a' w' ⟨S', h1, h2⟩
  cases e with
  | normal =>
    obtain ⟨y, hlt, hent⟩ := h2
    have hy := hent a' w' h1
    obtain ⟨z, hz, hzm, hze⟩ := least a' w' ⟨y, hy⟩
    refine ⟨⟨y, hy⟩, ?_⟩
    show (Classical.epsilon fun n => ∃ x, SatC C (St x) a' w' ∧ n = μ x ∧ ∀ y, SatC C (St y) a' w' → μ x ≤ μ y) < (Classical.epsilon fun n => ∃ x, SatC C (St x) a w ∧ n = μ x ∧ ∀ y, SatC C (St y) a w → μ x ≤ μ y)
    rw [hμ, hze]
    exact Nat.lt_of_le_of_lt (hzm y hy) hlt
  | _ => exact ⟨S', h1, h2⟩
theorem Holds.unren' {β : Nat → Loc} {ow ow' : Nat → Option Nat} {w : World} {ρ : Nat → Nat} {j : Nat} {ch : Chunk} (ho : ∀ k, ow' k = some j ↔ ow k = some (ρ j)) (hn : ∀ k, ow k = none → ow' k = none) (h : Holds β ow w (ρ j) (ch.ren ρ)) : Holds (fun i => β (ρ i)) ow' w j ch := by
  cases ch with
  | ro sz n f =>
    simp only [Chunk.ren, Holds] at h ⊢
    by_cases hn' : (β (ρ j)).nil = true
    · rw [if_pos hn'] at h ⊢; exact h
    · rw [if_neg hn'] at h ⊢
      exact ⟨hn _ h.1, h.2⟩
  | ext A =>
    obtain ⟨O, h1, h2⟩ := h
    exact ⟨O, fun k hk => ⟨hn _ (h1 k hk).1, (h1 k hk).2⟩, h2⟩
  | _ => exact Holds.unren rfl ho h
def ChLe' : Chunk → Chunk → Prop
  | .ro sz n f, .ro sz' n' f' => sz = sz' ∧ n = n' ∧ ∀ i, i < n → f i = f' i
  | .ext A, .ext A' => A = A'
  | a, b => ChLe a b
theorem ChLe'.holds {a b : Chunk} (h : ChLe' a b) {β : Nat → Loc} {ow : Nat → Option Nat} {w : World} {c : Nat} (H : Holds β ow w c a) : Holds β ow w c b := by
  cases a <;> cases b <;> simp only [ChLe'] at h <;> first | exact ChLe.holds h H | (subst h; exact H) | skip
  obtain ⟨rfl, rfl, hf⟩ := h
  simp only [Holds] at H ⊢
  by_cases hn : (β c).nil = true
  · rw [if_pos hn] at H ⊢; exact H
  · rw [if_neg hn] at H ⊢
    exact ⟨H.1, H.2.1, fun i hi => by rw [← hf i hi]; exact H.2.2 i hi⟩
theorem ChLe'.refl : ∀ a : Chunk, ChLe' a a
  | .cells _ _ => ⟨rfl, rfl⟩
  | .vec _ _ _ _ => ⟨rfl, rfl, Nat.le_refl _, fun _ _ => rfl⟩
  | .ro _ _ _ => ⟨rfl, rfl, fun _ _ => rfl⟩
  | .ext _ => rfl
  | .abs _ => rfl
def slotsLe (ρ : Nat → Nat) : List (Option XV) → List (Option XV) → Prop
  | [], [] => True
  | none :: r, _ :: r' => slotsLe ρ r r'
  | some X :: r, y :: r' => y = some (X.ren ρ) ∧ slotsLe ρ r r'
  | _, _ => False
theorem slotsLe.get {ρ : Nat → Nat} : ∀ {l l' : List (Option XV)}, slotsLe ρ l l' → l.length = l'.length ∧ ∀ t X, lget l t = some X → lget l' t = some (X.ren ρ)
  | [], [], _ => ⟨rfl, fun t X h => by simp [lget] at h⟩
  | none :: r, y :: r', h => by
    obtain ⟨h1, h2⟩ := slotsLe.get (l := r) (l' := r') h
    refine ⟨by simp [h1], fun t X ht => ?_⟩
    cases t with
    | zero => simp [lget] at ht
    | succ t => exact h2 t X ht
  | some X :: r, y :: r', h => by
    obtain ⟨h1, h2⟩ := slotsLe.get (l := r) (l' := r') h.2
    refine ⟨by simp [h1], fun t X' ht => ?_⟩
    cases t with
    | zero => simp only [lget, Option.some.injEq] at ht ⊢; subst ht; exact h.1
    | succ t => exact h2 t X' ht
  | [], _ :: _, h => by cases h
  | none :: _, [], h => by cases h
  | some _ :: _, [], h => by cases h
def memLe (ρ : Nat → Nat) : Mem → Mem → Prop
  | [], _ => True
  | (c, ch) :: r, M => (∃ ch0, M.get (ρ c) = some ch0 ∧ ChLe' ch0 (ch.ren ρ)) ∧ memLe ρ r M
theorem memLe.get {ρ : Nat → Nat} {M : Mem} : ∀ {l : Mem}, memLe ρ l M → ∀ c ch, l.get c = some ch → ∃ ch0, M.get (ρ c) = some ch0 ∧ ChLe' ch0 (ch.ren ρ)
  | [], _, c, ch, h => by simp [Mem.get] at h
  | (k, x) :: r, hl, c, ch, h => by
    simp only [Mem.get, nbeq] at h
    by_cases hk : k = c
    · simp only [hk, decide_true, cond_true, Option.some.injEq] at h; subst hk; subst h; exact hl.1
    · simp only [hk, decide_false, cond_false] at h; exact memLe.get hl.2 c ch h
def okSlots (p : Nat → Bool) : List (Option XV) → Bool
  | [] => true
  | none :: r => okSlots p r
  | some X :: r => X.ok p && okSlots p r
theorem okSlots_get {p : Nat → Bool} : ∀ {l : List (Option XV)}, okSlots p l = true → ∀ t X, lget l t = some X → X.ok p = true
  | [], _, t, X, h => by simp [lget] at h
  | none :: r, hl, t, X, h => by
    cases t with
    | zero => simp [lget] at h
    | succ t => exact okSlots_get (l := r) hl t X h
  | some Y :: r, hl, t, X, h => by
    simp only [okSlots, Bool.and_eq_true] at hl
    cases t with
    | zero => simp only [lget, Option.some.injEq] at h; subst h; exact hl.1
    | succ t => exact okSlots_get hl.2 t X h
def nth0 (ids : List Nat) (i : Nat) : Nat := (ids[i]?).getD 0
theorem Ent.ren {C : Ctx} {S S' : St} (ids : List Nat) (hnd : ids.Nodup) (hnx : S'.nx = ids.length) (hn0 : ∀ i, i < C.n0 → ids[i]? = some i) (hn : C.n0 ≤ ids.length)
    (hok : (okSlots (fun i => Nat.blt i S'.nx) S'.slots && S'.mem.all fun x => Nat.blt x.1 S'.nx && x.2.ok fun i => Nat.blt i S'.nx) = true) (hs : slotsLe (nth0 ids) S'.slots S.slots) (hm : memLe (nth0 ids) S'.mem S.mem) : Ent C S S' := by
  rintro a w ⟨β, ow, h1, h2, h3, h4, h5⟩
  let ρ := nth0 ids
  let ow' : Nat → Option Nat := fun k => (ow k).bind fun c => lidx c ids
  simp only [Bool.and_eq_true] at hok
  obtain ⟨ok1, ok2⟩ := hok
  obtain ⟨s1, s2⟩ := hs.get
  have hown : ∀ i k, i < ids.length → (ow' k = some i ↔ ow k = some (ρ i)) := by
    intro i k hi
    have e : ids[i]? = some (ρ i) := by
      rw [List.getElem?_eq_getElem hi]
      simp [ρ, nth0, List.getElem?_eq_getElem hi]
    constructor
    · intro h
      cases ho : ow k with
      | none => simp [ow', ho] at h
      | some c =>
        have := lidx_get (l := ids) (c := c) (i := i) (by simpa [ow', ho] using h)
        rw [e] at this
        exact this.symm
    · intro h
      simp only [ow', h, Option.bind_some]
      exact lidx_nodup hnd e
  have hmem : ∀ c ch, S'.mem.get c = some ch → Nat.blt c S'.nx = true ∧ ch.ok (fun i => Nat.blt i S'.nx) = true := by
    intro c ch hc
    have : ∀ (l : Mem) c ch, l.get c = some ch → (c, ch) ∈ l := by
      intro l
      induction l with
      | nil => intro c ch h; simp [Mem.get] at h
      | cons z r ih =>
        obtain ⟨k, ck⟩ := z
        intro c ch h
        simp only [Mem.get, nbeq] at h
        by_cases hk : k = c
        · simp only [hk, decide_true, cond_true, Option.some.injEq] at h; subst hk; subst h; simp
        · simp only [hk, decide_false, cond_false] at h; exact List.mem_cons_of_mem _ (ih c ch h)
    have := List.all_eq_true.1 ok2 _ (this _ c ch hc)
    simpa only [Bool.and_eq_true] using this
  refine ⟨fun i => β (ρ i), ow', ⟨h1.defers, by rw [h1.size, s1], fun t X hX => ?_, fun c ch hc => ?_, fun k hk => ?_⟩, ⟨fun t X hX => okSlots_get ok1 t X hX, hmem⟩, ⟨h3.os, h3.tape, h3.output, h3.size, fun k hk1 hk2 => ?_, fun i hi => ?_⟩, by rw [hnx]; exact hn, fun k i hi => ?_⟩
  · exact (XV.ren_rel X _).1 (h1.slots t _ (s2 t X hX))
  · obtain ⟨ch0, e1, e2⟩ := hm.get c ch hc
    have hlt := (hmem c ch hc).1
    simp only [Nat.blt_eq, hnx] at hlt
    exact Holds.unren' (hown c · hlt) (fun k hk => by simp [ow', hk]) (e2.holds (h1.mem _ ch0 e1))
  · refine h1.wf k (fun e => hk ?_)
    simp [ow', e]
  · obtain ⟨e1, e2⟩ := h3.keep k hk1 hk2
    exact ⟨e1, by simp [ow', e2]⟩
  · have e : ρ i = i := by simp [ρ, nth0, hn0 i hi]
    simp only [e]
    exact h3.beta i hi
  · cases ho : ow k with
    | none => simp [ow', ho] at hi
    | some c =>
      have := lidx_get (l := ids) (c := c) (i := i) (by simpa [ow', ho] using hi)
      have := (List.getElem?_eq_some_iff.1 this).1
      simp only [Nat.blt_eq, hnx]; exact this
theorem Ent.renC {C : Ctx} {S S' : St} {k : Nat} (ids : List Nat) (hC : C.n0 = k) (hs : slotsLe (nth0 ids) S'.slots S.slots) (hm : memLe (nth0 ids) S'.mem S.mem) (hnd : ids.Nodup := by decide) (hnx : S'.nx = ids.length := by rfl) (hn0 : ∀ i, i < k → ids[i]? = some i := by decide) (hn : k ≤ ids.length := by decide)
    (hok : (okSlots (fun i => Nat.blt i S'.nx) S'.slots && S'.mem.all fun x => Nat.blt x.1 S'.nx && x.2.ok fun i => Nat.blt i S'.nx) = true := by rfl) : Ent C S S' :=
  Ent.ren ids hnd hnx (fun i hi => hn0 i (Nat.lt_of_lt_of_eq hi hC)) (Nat.le_trans (Nat.le_of_eq hC) hn) hok hs hm
end Go.Sx
namespace Go.Sx
open Go.RowKit
def PairP (A B : AbsP) : AbsP where
  Φ w b s O := ∃ O1 O2 s1 s2, (∀ k, O k ↔ O1 k ∨ O2 k) ∧ (∀ k, O1 k → ¬ O2 k) ∧ A.Φ w b s1 O1 ∧ B.Φ w (s 1) s2 O2
  loc := by
    rintro w w' b s O O' hk hO ⟨O1, O2, s1, s2, h1, h2, h3, h4⟩
    exact ⟨O1, O2, s1, s2, fun k => (hO k).trans (h1 k), h2, A.loc (fun k h => hk k ((h1 k).2 (.inl h))) (fun _ => Iff.rfl) h3, B.loc (fun k h => hk k ((h1 k).2 (.inr h))) (fun _ => Iff.rfl) h4⟩
  in_heap := by
    rintro w b s O ⟨O1, O2, s1, s2, h1, h2, h3, h4⟩ k hk
    rcases (h1 k).1 hk with h | h
    · exact A.in_heap h3 k h
    · exact B.in_heap h4 k h
def St.paired (S : St) (i j t1 t2 : Nat) (A B : AbsP) : St := ⟨lset (lset S.slots t1 (some (XV.sv (.ptr S.nx 0 0 0)))) t2 (some (XV.sv (.inn S.nx 0))), (S.nx, .abs (PairP A B)) :: S.mem.dels [i, j], S.nx + 1⟩
theorem Ent.pair {C : Ctx} {S : St} {i j t1 t2 : Nat} {A B : AbsP} (hij : Nat.beq i j = false) (hi : S.mem.get i = some (.abs A)) (hj : S.mem.get j = some (.abs B)) (h1 : lget S.slots t1 = some (XV.sv (.ptr i 0 0 0))) (h2 : lget S.slots t2 = some (XV.sv (.ptr j 0 0 0))) : Ent C S (S.paired i j t1 t2 A B) := by
  rintro a w ⟨β, ow, g1, g2, g3, g4, g5⟩
  have hne : i ≠ j := by rw [nbeq] at hij; simpa using hij
  have hin : i < S.nx := by simpa using (g2.mem i _ hi).1
  have hjn : j < S.nx := by simpa using (g2.mem j _ hj).1
  have hon : ∀ k c, ow k = some c → c < S.nx := fun k c h => by simpa using g5 k c h
  let β' := setβ β S.nx ⟨(β i).blk, 0, (β i).cap, false, fun _ => (β j).blk⟩
  let ow' : Nat → Option Nat := fun k => if ow k = some i ∨ ow k = some j then some S.nx else ow k
  have hold : ∀ c, Nat.blt c S.nx = true → β' c = β c := fun c hc => by
    have : c ≠ S.nx := by have : c < S.nx := by simpa using hc
                          omega
    simp [β', setβ, this]
  have hup : ∀ c, Nat.blt c S.nx = true → Nat.blt c (S.nx + 1) = true := fun c hc => by simp only [Nat.blt_eq] at hc ⊢; omega
  obtain ⟨a1, a2, a3⟩ := g1.mem i _ hi
  obtain ⟨b1, b2, b3⟩ := g1.mem j _ hj
  have hother : ∀ c k, c ≠ i → c ≠ j → c < S.nx → (ow' k = some c ↔ ow k = some c) := by
    intro c k e1 e2 e3
    simp only [ow']
    split
    · rename_i h
      constructor
      · intro e; simp only [Option.some.injEq] at e; omega
      · intro e; rw [e] at h; simp only [Option.some.injEq] at h; rcases h with h | h
        · exact absurd h e1
        · exact absurd h e2
    · exact Iff.rfl
  have hmine : ∀ k, ow' k = some S.nx ↔ (ow k = some i ∨ ow k = some j) := by
    intro k
    simp only [ow']
    split
    · rename_i h; simp [h]
    · rename_i h
      constructor
      · intro e; have := hon k _ e; omega
      · intro e; exact absurd e h
  refine ⟨β', ow', ⟨g1.defers, ?_, fun t X hX => ?_, fun c ch hc => ?_, fun k hk => ?_⟩, ⟨fun t X hX => ?_, fun c ch hc => ?_⟩, ⟨g3.os, g3.tape, g3.output, g3.size, fun k e1 e2 => ?_, fun c hc => by rw [hold c (by simp only [Nat.blt_eq]; omega)]; exact g3.beta c hc⟩, by simp only [St.paired]; omega, fun k c hc => ?_⟩
  · rw [g1.size]; simp [St.paired, lset_length]
  · simp only [St.paired, lget_lset, lset_length] at hX
    by_cases e2 : t = t2
    · subst e2
      rw [if_pos rfl] at hX
      split at hX
      · cases hX
        have := g1.slots t _ h2
        simp only [XV.rel, CV.rel, SV.rel] at this ⊢
        rw [this]
        simp [β', setβ, Loc.addr, b2]
      · cases hX
    · rw [if_neg e2] at hX
      by_cases e1 : t = t1
      · subst e1
        rw [if_pos rfl] at hX
        split at hX
        · cases hX
          have := g1.slots t _ h1
          simp only [XV.rel, CV.rel, SV.rel] at this ⊢
          rw [this]
          simp [β', setβ, Loc.addr, a2]
        · cases hX
      · rw [if_neg e1] at hX
        exact XV.rel_congr hold (g2.slots t X hX) (g1.slots t X hX)
  · simp only [St.paired, Mem.get, nbeq, Mem.get_dels] at hc
    by_cases hcc : S.nx = c
    · subst hcc
      simp only [decide_true, cond_true, Option.some.injEq] at hc
      subst hc
      refine ⟨by simp [β', setβ], by simp [β', setβ], fun k => ow k = some i, fun k => ow k = some j, subs (β i), subs (β j), hmine, fun k e1 e2 => ?_, ?_, ?_⟩
      · simp only at e1 e2
        rw [e1] at e2; cases e2; exact hne rfl
      · have : (β' S.nx).blk = (β i).blk := by simp [β', setβ]
        rw [this]; exact a3
      · have : subs (β' S.nx) 1 = (β j).blk := by simp [β', setβ, subs]
        rw [this]; exact b3
    · simp only [hcc, decide_false, cond_false] at hc
      split at hc
      · cases hc
      · rename_i hni
        simp only [List.mem_cons, List.not_mem_nil, or_false, not_or] at hni
        obtain ⟨k1, k2⟩ := g2.mem c ch hc
        have hlt : c < S.nx := by simpa using k1
        exact Holds.keep k2 hold (hold c k1) (fun _ k => hother c k hni.1 hni.2 hlt) (fun _ k hn => by simp [ow', hn]) (g1.mem c ch hc)
  · simp only [ow'] at hk
    split at hk
    · rename_i h
      rcases h with h | h <;> exact g1.wf k (by simp [h])
    · exact g1.wf k hk
  · simp only [St.paired, lget_lset, lset_length] at hX ⊢
    by_cases e2 : t = t2
    · rw [if_pos e2] at hX
      split at hX
      · cases hX; simp [XV.ok, CV.ok, SV.ok]
      · cases hX
    · rw [if_neg e2] at hX
      by_cases e1 : t = t1
      · rw [if_pos e1] at hX
        split at hX
        · cases hX; simp [XV.ok, CV.ok, SV.ok]
        · cases hX
      · rw [if_neg e1] at hX
        exact XV.ok_mono hup (g2.slots t X hX)
  · simp only [St.paired, Mem.get, nbeq, Mem.get_dels] at hc ⊢
    by_cases hcc : S.nx = c
    · subst hcc
      simp only [decide_true, cond_true, Option.some.injEq] at hc
      subst hc
      exact ⟨by simp, rfl⟩
    · simp only [hcc, decide_false, cond_false] at hc
      split at hc
      · cases hc
      · obtain ⟨k1, k2⟩ := g2.mem c ch hc
        exact ⟨hup c k1, Chunk.ok_mono hup k2⟩
  · obtain ⟨e3, e4⟩ := g3.keep k e1 e2
    exact ⟨e3, by simp [ow', e4]⟩
  · simp only [ow'] at hc
    split at hc
    · simp only [Option.some.injEq] at hc; subst hc; simp [St.paired]
    · exact hup c (g5 k c hc)
def St.nils (S : St) (t e sz : Nat) : St := ⟨lset S.slots t (some (XV.sv (.slc S.nx sz 0 0))), (S.nx, .vec e sz 0 fun _ => []) :: S.mem, S.nx + 1⟩
theorem Ent.nils {C : Ctx} {S : St} {t : Nat} (ht : lget S.slots t = some (XV.val (.slice none 0 0))) (e sz : Nat) : Ent C S (S.nils t e sz) := by
  rintro a w ⟨β, ow, h1, h2, h3, h4, h5⟩
  let β' := setβ β S.nx ⟨0, 0, 0, true, fun _ => 0⟩
  have hold : ∀ i, Nat.blt i S.nx = true → β' i = β i := fun i hi => by
    have : i ≠ S.nx := by have : i < S.nx := by simpa using hi
                          omega
    simp [β', setβ, this]
  have hup : ∀ c, Nat.blt c S.nx = true → Nat.blt c (S.nx + 1) = true := fun c hc => by simp only [Nat.blt_eq] at hc ⊢; omega
  refine ⟨β', ow, ⟨h1.defers, by rw [h1.size]; simp [St.nils, lset_length], fun t' X hX => ?_, fun c' ch hc' => ?_, h1.wf⟩, ⟨fun t' X hX => ?_, fun c' ch hc' => ?_⟩,
    ⟨h3.os, h3.tape, h3.output, h3.size, h3.keep, fun i hi => by rw [hold i (by simp only [Nat.blt_eq]; omega)]; exact h3.beta i hi⟩, by simp only [St.nils]; omega, h5.mono hup⟩
  · simp only [St.nils, lget_lset] at hX
    by_cases e1 : t' = t
    · subst e1
      rw [if_pos rfl] at hX
      split at hX
      · cases hX
        have := h1.slots t' _ ht
        simp only [XV.rel, CV.rel, SV.rel] at this ⊢
        rw [this]
        simp [β', setβ]
      · cases hX
    · rw [if_neg e1] at hX
      exact XV.rel_congr hold (h2.slots t' X hX) (h1.slots t' X hX)
  · simp only [St.nils, Mem.get, nbeq] at hc'
    by_cases hn : S.nx = c'
    · subst hn
      simp only [decide_true, cond_true, Option.some.injEq] at hc'
      subst hc'
      simp [Holds, β', setβ]
    · simp only [hn, decide_false, cond_false] at hc'
      obtain ⟨k1, k2⟩ := h2.mem c' ch hc'
      exact Holds.keep k2 hold (hold c' k1) (fun _ _ => Iff.rfl) (fun _ _ h => h) (h1.mem c' ch hc')
  · simp only [St.nils, lget_lset] at hX ⊢
    by_cases e1 : t' = t
    · rw [if_pos e1] at hX
      split at hX
      · cases hX; simp [XV.ok, CV.ok, SV.ok]
      · cases hX
    · rw [if_neg e1] at hX
      exact XV.ok_mono hup (h2.slots t' X hX)
  · simp only [St.nils, Mem.get, nbeq] at hc' ⊢
    by_cases hn : S.nx = c'
    · subst hn
      simp only [decide_true, cond_true, Option.some.injEq] at hc'
      subst hc'
      exact ⟨by simp, rfl⟩
    · simp only [hn, decide_false, cond_false] at hc'
      obtain ⟨k1, k2⟩ := h2.mem c' ch hc'
      exact ⟨hup c' k1, Chunk.ok_mono hup k2⟩
theorem spec_reads {P : Program} {T : TyTab} {f : FuncId} {fn : Func} {c : Code} (hT : TabOK P T) (hf : P.funcs[f]? = some fn) (hb : fn.body = some c) (Xl : List CV) (X : XV) (M0 : Mem) (n : Nat)
    (hXl : Xl.all (CV.ok fun i => Nat.blt i n) = true) (hX : X.ok (fun _ => false) = true) (hM0 : ∀ i ch, M0.get i = some ch → i < n ∧ ch.isRo = true)
    (h : ∀ C : Ctx, C.n0 = n → Tri P C c ⟨slots0 fn.ntmps (Xl.map .cv), M0, n⟩ (Ends C T fn.results.toList 0 n ⟨X, [], none⟩)) {M : Mem} {d : Nat} (hM : ∀ i ch, M0.get i = some ch → M.get i = some ch) (hd : n ≤ d) :
    CallSpec P f Xl M d { v := X } (List.range n) := by
  have hi : ∀ i, i < n → ([] ++ List.range n)[i]? = some i := fun i hi => by simp [hi]
  have hren : Xl = Xl.map (CV.ren fun i => (([] ++ List.range n)[i]?).getD d) := by
    have hsv : ∀ s : SV, s.ok (fun i => Nat.blt i n) = true → s.ren (fun i => (([] ++ List.range n)[i]?).getD d) = s := by
      intro s hs
      exact SV.ren_on (fun c hc => by rw [hi c (by simpa using hc)]; rfl) hs
    have hsvs : ∀ l : List SV, l.all (SV.ok fun i => Nat.blt i n) = true → l.map (SV.ren (fun i => (([] ++ List.range n)[i]?).getD d)) = l := by
      intro l
      induction l with
      | nil => intro _; rfl
      | cons s r ih => intro hl; simp only [List.all_cons, Bool.and_eq_true] at hl; rw [List.map_cons, hsv s hl.1, ih hl.2]
    have hcvs : ∀ l : List CV, l.all (CV.ok fun i => Nat.blt i n) = true → l.map (CV.ren (fun i => (([] ++ List.range n)[i]?).getD d)) = l := by
      intro l
      induction l with
      | nil => intro _; rfl
      | cons s r ih =>
        intro hl
        simp only [List.all_cons, Bool.and_eq_true] at hl
        rw [List.map_cons, ih hl.2]
        congr 1
        cases s with
        | one s => simp only [CV.ren]; rw [hsv s hl.1]
        | agg cs => simp only [CV.ren]; rw [hsvs cs hl.1]
    exact (hcvs Xl hXl).symm
  refine spec_of_text (ids := []) (rids := List.range n) (Xl := Xl) (M0 := M0) (out := ⟨X, [], none⟩) (k1 := 0) (n0 := n) hT hf hb (by simp) rfl (by simp) (by simp; omega) hXl (fun i ch hm => ?_) (fun i ch hi => by simp [Mem.get] at hi) (fun i ch hi => by cases hi) (XV.ok_mono (fun _ h => by cases h) hX) h hren (XV.ren_closed hX).symm rfl (fun c ch hc => by simp [Mem.get] at hc)
  obtain ⟨h1, h2⟩ := hM0 i ch hm
  refine ⟨h1, ?_, fun _ => h2, fun ci hci => ?_⟩
  · cases ch <;> first | rfl | cases h2
  · rw [hi i h1] at hci
    cases hci
    exact hM i ch hm
theorem Ends.made {C : Ctx} {T : TyTab} {rs : List ResultVar} {n0 i : Nat} {X : XV} {ch' : Chunk} {S S' : St} {e : Exit} (he : e = .normal ∨ e = .ret) (hE : Ent C S S') (hr : resX T S' rs = some X) (hn : n0 ≤ i) (hm : S'.mem.get i = some ch') :
    Ends C T rs 0 n0 ⟨X, [], some (i, ch')⟩ e S :=
  ⟨he, S', hE, hr, fun i ch h => by simp [Mem.get] at h, fun j ch h => by cases h; exact ⟨hn, hm⟩⟩
end Go.Sx
namespace Go.Sx
open Go.RowKit Go.ChangeShapes Go.WideShapes Go.Deep
inductive Kd where
  | int (k : IntKind)
  | bool
def Kd.fits : Kd → Value → Prop
  | .int k, v => ∃ n, v = .int k n ∧ (Lit.int k n).wf = true
  | .bool, v => ∃ b, v = .bool b
def Fits : List Kd → List Value → Prop
  | [], vs => vs = []
  | k :: ks, vs => ∃ v r, vs = v :: r ∧ k.fits v ∧ Fits ks r
theorem Fits.length : ∀ {ks : List Kd} {vs : List Value}, Fits ks vs → vs.length = ks.length
  | [], _, h => by cases h; rfl
  | _ :: _, _, h => by obtain ⟨v, r, rfl, _, h2⟩ := h; simp [Fits.length h2]
theorem Fits.append : ∀ {a b : List Kd} {x y : List Value}, Fits a x → Fits b y → Fits (a ++ b) (x ++ y)
  | [], _, _, _, h, k => by cases h; exact k
  | _ :: _, _, _, _, h, k => by obtain ⟨v, r, rfl, h1, h2⟩ := h; exact ⟨v, _, rfl, h1, Fits.append h2 k⟩
def kindsF (T : TyTab) (kf : TypeId → Option (List Kd)) : List (TypeId × Nat) → Nat → Option (List Kd)
  | [], _ => some []
  | (t, off) :: r, acc =>
    match T t, kf t with
    | some td, some ks => bif Nat.beq off acc && Nat.beq ks.length td.size then (match kindsF T kf r (acc + ks.length) with | some l => some (ks ++ l) | none => none) else none
    | _, _ => none
def kindsT (T : TyTab) : Nat → TypeId → Option (List Kd)
  | 0, _ => none
  | f + 1, t =>
    match T t with
    | some { desc := .int k, .. } => some [.int k]
    | some { desc := .bool, .. } => some [.bool]
    | some { desc := .struct fs, size, .. } => match kindsF T (kindsT T f) fs 0 with | some l => bif Nat.beq l.length size then some l else none | none => none
    | some { desc := .array n e, size, .. } =>
      match T e, kindsT T f e with
      | some te, some ks => bif Nat.beq ks.length te.size && Nat.beq (n * ks.length) size then some ((List.replicate n ks).flatten) else none
      | _, _ => none
    | _ => none
section
variable {P : Program} {T : TyTab} {H : Type} {enc : TypeId × Value → H} {w : World} {base : Nat} {spare : Nat → Bool} {held : Bool}
theorem cellsOf_T (hT : TabOK P T) {t : TypeId} {td : TyD} (h : T t = some td) : P.cellsOf t = td.size := by
  obtain ⟨i, u, h1, _, h3, _⟩ := info_of hT h
  simp [Program.cellsOf, h1, h3]
theorem kindsF_fits (hT : TabOK P T) {kf : TypeId → Option (List Kd)} {cs : List Value} (hk : ∀ t ks off, kf t = some ks → (∃ n x, DataW.trod enc P w base spare held n t ((cs.drop off).take (P.cellsOf t)) = some x) → Fits ks ((cs.drop off).take (P.cellsOf t))) :
    ∀ (fs : List (TypeId × Nat)) (acc : Nat) (l : List Kd), kindsF T kf fs acc = some l → (∀ f ∈ fs, ∃ n x, DataW.trod enc P w base spare held n f.1 ((cs.drop f.2).take (P.cellsOf f.1)) = some x) → Fits l ((cs.drop acc).take l.length)
  | [], acc, l, h, _ => by simp only [kindsF, Option.some.injEq] at h; subst h; simp [Fits]
  | (t, off) :: r, acc, l, h, hf => by
    simp only [kindsF] at h
    split at h
    · rename_i td ks h1 h2
      cases hb : (Nat.beq off acc && Nat.beq ks.length td.size) with
      | false => simp [hb] at h
      | true =>
        simp only [hb, cond_true] at h
        simp only [Bool.and_eq_true, nbeq, decide_eq_true_eq] at hb
        obtain ⟨rfl, b2⟩ := hb
        split at h
        · rename_i l' h3
          cases h
          have f1 := hk t ks off h2 (hf (t, off) (by simp))
          have f2 := kindsF_fits hT hk r (off + ks.length) l' h3 (fun f hm => hf f (by simp [hm]))
          have hc : P.cellsOf t = ks.length := by rw [cellsOf_T hT h1, b2]
          rw [hc] at f1
          rw [List.length_append, List.take_add, List.drop_drop]
          exact f1.append f2
        · cases h
    · cases h
theorem arr_fits {ks : List Kd} {cs : List Value} : ∀ (n : Nat), (∀ i, i < n → Fits ks ((cs.drop (i * ks.length)).take ks.length)) → Fits ((List.replicate n ks).flatten) (cs.take (n * ks.length))
  | 0, _ => by simp [Fits]
  | n + 1, h => by
    have ih := arr_fits n (fun i hi => h i (by omega))
    have hl := h n (by omega)
    rw [List.replicate_succ', List.flatten_append, Nat.add_mul, Nat.one_mul, List.take_add]
    simp only [List.flatten_cons, List.flatten_nil, List.append_nil]
    exact ih.append hl
theorem trod_fits (hT : TabOK P T) : ∀ (f : Nat) (t : TypeId) (ks : List Kd), kindsT T f t = some ks → ∀ (n : Nat) (cs : List Value) (x : DataW H × List MemPlace), DataW.trod enc P w base spare held n t cs = some x → Fits ks cs
  | 0, _, _, h => by simp [kindsT] at h
  | f + 1, t, ks, h => by
    intro n cs x hx
    simp only [kindsT] at h
    split at h
    · rename_i k h1
      cases h
      have hu := under_int hT h1 rfl
      cases n with
      | zero => simp [DataW.trod] at hx
      | succ n =>
        unfold DataW.trod at hx
        rw [hu] at hx
        split at hx <;> simp_all [Fits, Kd.fits]
    · rename_i h1
      cases h
      obtain ⟨u, hu, hd⟩ := desc_under hT h1
      cases u <;> simp [DescOK] at hd
      cases n with
      | zero => simp [DataW.trod] at hx
      | succ n =>
        unfold DataW.trod at hx
        rw [hu] at hx
        split at hx <;> simp_all [Fits, Kd.fits]
    · rename_i size bytes agg z fs h1
      split at h
      · rename_i l h2
        cases hb : Nat.beq l.length size with
        | false => simp [hb] at h
        | true =>
          simp only [hb, cond_true, Option.some.injEq] at h
          subst h
          obtain ⟨fl, hu, hfl⟩ := under_struct hT h1 rfl
          obtain ⟨xs, n', _, _, hlen, hxl, hfield⟩ := DataW.trod_struct hu hx
          have hsz : cs.length = l.length := by rw [hlen, cellsOf_T hT h1]; exact (Nat.eq_of_beq_eq_true hb).symm
          have key := kindsF_fits (enc := enc) (w := w) (base := base) (spare := spare) (held := held) (cs := cs) hT (kf := kindsT T f) (fun t' ks' off hk ⟨m, y, hy⟩ => trod_fits hT f t' ks' hk m _ y hy) fs 0 l h2 (fun p hp => by
            rw [← hfl] at hp
            obtain ⟨fd, hm, rfl⟩ := List.mem_map.1 hp
            obtain ⟨i, hi⟩ := List.getElem?_of_mem hm
            have hi' : fl[i]? = some fd := by simpa using hi
            have hil : i < fl.size := (Array.getElem?_eq_some_iff.1 hi').1
            have := hfield i fd hi'
            rw [List.getElem?_eq_getElem (by omega)] at this
            exact ⟨n', _, this⟩)
          rw [List.drop_zero, ← hsz, List.take_length] at key
          exact key
      · cases h
    · rename_i size bytes agg z m e h1
      split at h
      · rename_i te ks' h2 h3
        cases hb : (Nat.beq ks'.length te.size && Nat.beq (m * ks'.length) size) with
        | false => simp [hb] at h
        | true =>
          simp only [hb, cond_true, Option.some.injEq] at h
          subst h
          simp only [Bool.and_eq_true, nbeq, decide_eq_true_eq] at hb
          obtain ⟨b1, b2⟩ := hb
          have hu := under_array hT h1 rfl
          obtain ⟨xs, n', _, _, hlen, hxl, hel⟩ := DataW.trod_array hu hx
          have hc : P.cellsOf e = ks'.length := by rw [cellsOf_T hT h2, b1]
          have hsz : cs.length = m * ks'.length := by rw [hlen, cellsOf_T hT h1, b2]
          have key := arr_fits (ks := ks') (cs := cs) m (fun i hi => by
            have := hel i hi
            rw [List.getElem?_eq_getElem (by omega), hc] at this
            exact trod_fits hT f e ks' h3 n' _ _ this)
          rw [← hsz, List.take_length] at key
          exact key
      · cases h
    · cases h
end
def RowIn (W : World) (v : Value) (sz : Nat) (n : Nat) (f : Nat → List Value) : Prop :=
  ∃ L : Loc, (∀ β : Nat → Loc, ∀ c, β c = L → (SV.slc c sz 0 n).rel β v) ∧ (if L.nil = true then n = 0 else L.blk < W.heap.size ∧ ∀ i, i < n → (f i).length = sz ∧ ∀ j u, (f i)[j]? = some u → W.cell? (L.addr (i * sz + j)) = some u)
section
variable {P : Program} {T : TyTab} {H : Type} {enc : TypeId × Value → H} {W : World}
theorem open_row (hT : TabOK P T) {t e : TypeId} {td te : TyD} (ht : T t = some td) (hd : td.desc = .slice e) (he : T e = some te) {f : Nat} {ks : List Kd} (hk : kindsT T f e = some ks) {v : Value} {d : DataW H} {p : List MemPlace}
    (h : DataW.Trod enc P W 0 (fun _ => true) true t v d p) (hv : Value.okWide P W .any 0 t v) {E : Type} (cells : E → List Value) (dec : ∀ cs, Fits ks cs → ∃ x, cs = cells x) (dflt : E) :
    ∃ l : List E, l.length ≤ maxLen ∧ RowIn W v te.size l.length (fun i => cells (l.getD i dflt)) := by
  have hu := under_slice hT ht hd
  obtain ⟨fuel, hf⟩ := h
  have hvc : v.cells.toList = [v] := by
    simp only [Value.okWide, hu, Cell.okWide] at hv
    cases v <;> first | rfl | (simp_all [Cell.ok])
  rw [hvc] at hf
  have hc : P.cellsOf e = te.size := cellsOf_T hT he
  rcases open_slice hu hf with ⟨h1, _⟩ | ⟨a, len, cap, m, n, D, Pl, h1, _, hle, hm, hmm, _, hx⟩
  · simp only [List.cons.injEq, and_true] at h1
    subst h1
    refine ⟨[], Nat.zero_le _, ⟨0, 0, 0, true, fun _ => 0⟩, fun β c hβ => ?_, by simp⟩
    simp [SV.rel, hβ]
  · simp only [List.cons.injEq, and_true] at h1
    subst h1
    simp only [if_true] at hmm
    subst hmm
    have each : ∀ i, i < len → ∃ x : E, (cells x).length = te.size ∧ ∀ j u, (cells x)[j]? = some u → W.cell? (a.add (i * te.size + j)) = some u := by
      intro i hi
      obtain ⟨cs', h2, h3⟩ := hx i (by omega)
      have hfit := trod_fits hT f e ks hk n cs' _ h3
      obtain ⟨x, rfl⟩ := dec cs' hfit
      rw [hc] at h2
      obtain ⟨_, g2, g3⟩ := World.cells?_some h2
      refine ⟨x, g2, fun j u hj => ?_⟩
      have hjl : j < te.size := by rw [← g2]; exact (List.getElem?_eq_some_iff.1 hj).1
      have := g3 j hjl
      rw [hj] at this
      have ea : (a.add (i * te.size)).add j = a.add (i * te.size + j) := by
        unfold Addr.add
        split <;> split <;> simp_all [Nat.add_assoc]
      rw [ea] at this
      exact this
    have spot : a.spot = none ∧ a.block < W.heap.size := by
      simp only [Value.okWide, hu, Cell.okWide, Cell.ok] at hv
      obtain ⟨_, _, _, hs, row, cells', hsh, _⟩ := hv
      refine ⟨hs, ?_⟩
      unfold World.shape? at hsh
      split at hsh
      · rename_i hb
        exact (Array.getElem?_eq_some_iff.1 hb).1
      · cases hsh
    have pick : ∀ k, k ≤ len → ∃ l : List E, l.length = k ∧ ∀ i, i < k → (cells (l.getD i dflt)).length = te.size ∧ ∀ j u, (cells (l.getD i dflt))[j]? = some u → W.cell? (a.add (i * te.size + j)) = some u := by
      intro k
      induction k with
      | zero => intro _; exact ⟨[], rfl, fun i hi => by omega⟩
      | succ k ih =>
        intro hk'
        obtain ⟨l, h2, h3⟩ := ih (by omega)
        obtain ⟨x, h4, h5⟩ := each k (by omega)
        refine ⟨l ++ [x], by simp [h2], fun i hi => ?_⟩
        by_cases hik : i < k
        · have e1 : (l ++ [x]).getD i dflt = l.getD i dflt := by simp [List.getD_eq_getElem?_getD, List.getElem?_append_left (show i < l.length by omega)]
          rw [e1]; exact h3 i hik
        · have e0 : i = k := by omega
          subst e0
          have e1 : (l ++ [x]).getD i dflt = x := by simp [List.getD_eq_getElem?_getD, h2]
          rw [e1]; exact ⟨h4, h5⟩
    obtain ⟨l, hl, hcell⟩ := pick len (Nat.le_refl _)
    refine ⟨l, by rw [hl]; exact Nat.le_trans hle hm, ?_⟩
    rw [hl]
    obtain ⟨hs, hb⟩ := spot
    have ha : a = ⟨a.block, a.off, none⟩ := by cases a; simp_all
    have hadd : ∀ q, a.add q = ⟨a.block, a.off + q, none⟩ := by
      intro q
      unfold Addr.add
      split
      · rename_i h; subst h; rw [Nat.add_zero]; exact ha
      · rfl
    refine ⟨⟨a.block, a.off, m, false, fun _ => 0⟩, fun β c hβ => ?_, ?_⟩
    · simp only [SV.rel, hβ, Bool.false_eq_true, if_false]
      exact ⟨a, by rw [Nat.sub_zero], by omega, fun _ => by simp only [Loc.addr, Nat.zero_mul, Nat.add_zero]; exact ha⟩
    · simp only [Bool.false_eq_true, if_false]
      refine ⟨hb, fun i hi => ⟨(hcell i hi).1, fun j u hj => ?_⟩⟩
      have := (hcell i hi).2 j u hj
      rw [hadd] at this
      exact this
theorem below_all (hl : laidOutB P = true) {W W' : World} (hb : Below W.heap.size W W') : ∀ {ts : List TypeId} {vs : List Value} {ds : List (DataW H)} {p : List MemPlace}, (ts.all fun t => P.readableRec t && decide (t < P.types.size)) = true →
    DataW.TrodAll enc P W 0 (fun _ => true) true ts vs ds p → (∀ x ∈ p, x.block < W.heap.size) → DataW.TrodAll enc P W' 0 (fun b => decide (b < W.heap.size)) true ts vs ds p
  | [], _, _, _, _, h, _ => by
    obtain ⟨rfl, rfl, rfl⟩ := trodAll_nil h
    exact rfl
  | t :: ts, _, _, _, ht, h, hlt => by
    obtain ⟨v, vs1, d, ds1, a, b, rfl, rfl, rfl, h1, h2⟩ := trodAll_cons h
    simp only [List.all_cons, Bool.and_eq_true, decide_eq_true_eq] at ht
    exact ⟨a, b, Below.trod hl ht.1.1 ht.1.2 h1 hb (fun x hx => hlt x (by simp [hx])), below_all hl hb (by simpa using ht.2) h2 (fun x hx => hlt x (by simp [hx])), rfl⟩
theorem post_true {f : Func} {s : ChangeSpec} {apart fresh handsOn : Bool} {W W' : World} {args : Array Value} {v : Value} {ds gs : List (DataW H)} {before : List MemPlace} (hl : laidOutB P = true) (hW : DataW.Whole enc P f.params.toList s.vars apart W args.toList ds gs before) (hv : s.vars = [])
    (hty : (f.params.toList.all fun t => P.readableRec t && decide (t < P.types.size)) = true) (hb : Below W.heap.size W W') (hs : (s.fn H (ds ++ gs)).args = ds) (hsv : (s.fn H (ds ++ gs)).vars = [])
    (hres : ∀ (b : Nat) (sp : Nat → Bool), DataW.TrodAll enc P W' b sp handsOn f.resultTypes.toList (v.resultList f.resultTypes.size) (s.fn H (ds ++ gs)).results []) : s.post enc P f apart fresh handsOn false W args v W' := by
  have hlt := hW.lt
  have hW' := hW
  obtain ⟨p, q, hA, hV, rfl, _, _⟩ := hW
  rw [hv] at hV
  refine ⟨ds, gs, p ++ q, [], p, [], hW', hres _ _, ?_, ?_, hb.frame _, fun h => by cases h⟩
  · rw [hs]
    exact below_all hl hb hty hA (fun x hx => hlt x (by simp [hx]))
  · rw [hv, hsv]
    exact rfl
end
end Go.Sx
