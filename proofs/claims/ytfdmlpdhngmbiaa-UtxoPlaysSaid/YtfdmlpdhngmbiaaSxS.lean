/- Symbolic states for walks, part S: contracts of functions that work on one object, their first argument. -/
import Derived.Test.YtfdmlpdhngmbiaaSxQ
namespace Go.Sx
open Go.RowKit

theorem spec_obj {P : Program} {T : TyTab} {f : FuncId} {fn : Func} {c : Code} (hT : TabOK P T) (hf : P.funcs[f]? = some fn) (hb : fn.body = some c) {A A' : AbsP} (Xl : List CV) (X : XV)
    (hXl : Xl.all (CV.ok fun _ => false) = true) (hX : X.ok (fun _ => false) = true) {M : Mem} {c0 d : Nat} (hM : M.get c0 = some (.abs A)) (hd : Nat.beq d c0 = false)
    (h : ∀ C : Ctx, C.n0 = 1 → Tri P C c ⟨slots0 fn.ntmps (.cv (.one (.ptr 0 0 0 0)) :: Xl.map .cv), [(0, .abs A)], 1⟩ (Ends C T fn.results.toList 1 1 ⟨X, [(0, .abs A')], none⟩)) :
    CallSpec P f (.one (.ptr c0 0 0 0) :: Xl) M d { v := X, upd := [(c0, .abs A')], wr := [c0] } [c0] := by
  have hd' : d ≠ c0 := by
    rw [nbeq] at hd
    simpa using hd
  have get1 : ∀ (k i : Nat) (x ch : Chunk), Mem.get [(k, x)] i = some ch → i = k ∧ ch = x := by
    intro k i x ch h
    simp only [Mem.get, nbeq] at h
    by_cases hk : k = i
    · simp only [hk, decide_true, cond_true, Option.some.injEq] at h; exact ⟨hk.symm, h.symm⟩
    · simp [hk] at h
  refine spec_of_text (ids := [c0]) (rids := []) (Xl := .one (.ptr 0 0 0 0) :: Xl) (M0 := [(0, .abs A)]) (out := ⟨X, [(0, .abs A')], none⟩) hT hf hb (by simp) rfl rfl (k1 := 1) (n0 := 1) (by simpa using hd') ?_ (fun i ch hi => ?_) (fun i ch hi => ?_) (fun i ch hi => by cases hi) ?_ h ?_ (XV.ren_closed hX).symm rfl (fun c ch hc => ?_)
  · simp only [List.all_cons, Bool.and_eq_true]
    refine ⟨by simp [CV.ok, SV.ok], ?_⟩
    simp only [List.all_eq_true] at hXl ⊢
    exact fun s hs => CV.ok_mono (fun _ h => by cases h) (hXl s hs)
  · obtain ⟨rfl, rfl⟩ := get1 _ _ _ _ hi
    refine ⟨by simp, rfl, fun h => by simp at h, fun ci hci => ?_⟩
    simp at hci
    subst hci
    exact hM
  · obtain ⟨rfl, rfl⟩ := get1 _ _ _ _ hi
    exact ⟨rfl, rfl⟩
  · exact XV.ok_mono (fun _ h => by cases h) hX
  · simp only [List.map_cons, CVs.ren_closed hXl]
    rfl
  · obtain ⟨rfl, rfl⟩ := get1 _ _ _ _ hc
    exact .inl ⟨0, rfl, rfl⟩

/-- The object is shut at the end. -/
theorem Ends.shut {C : Ctx} {T : TyTab} {rs : List ResultVar} {X v : XV} {S : St} {e : Exit} {ids : List Nat} {M : Mem} {inv : Prop} (he : e = .normal ∨ e = .ret) (hE : Ent C S (S.shut 0 ids M inv)) (hr : resX T (S.shut 0 ids M inv) rs = some v) (hv : v = X) :
    Ends C T rs 1 1 ⟨X, [(0, .abs (packP M inv))], none⟩ e S := by
  refine ⟨he, _, hE, by rw [hr, hv], fun i ch h => ?_, fun i ch h => by cases h⟩
  simp only [Mem.get, nbeq] at h
  by_cases hk : 0 = i
  · subst hk
    simp only [decide_true, cond_true, Option.some.injEq] at h
    exact ⟨by omega, by rw [← h]; rfl⟩
  · simp [hk] at h

/-- Three pieces shut. -/
theorem Ent.shut3 {C : Ctx} {S : St} {i0 i1 i2 : Nat} {M : Mem} {inv : Prop} {a0 a1 a2 b0 b1 b2 : Chunk} (hids : (Nat.beq i0 i1 || Nat.beq i0 i2 || Nat.beq i1 i2) = false) (hinv : inv) (hM : memB 3 M = true) (g0 : M.get 0 = some a0) (g1 : M.get 1 = some a1) (g2 : M.get 2 = some a2)
    (k0 : S.mem.get i0 = some b0) (k1 : S.mem.get i1 = some b1) (k2 : S.mem.get i2 = some b2) (hc : b0.isCells = true) (l0 : ChLe b0 (a0.ren fun j => (([i0, i1, i2] : List Nat)[j]?).getD 0)) (l1 : ChLe b1 (a1.ren fun j => (([i0, i1, i2] : List Nat)[j]?).getD 0))
    (l2 : ChLe b2 (a2.ren fun j => (([i0, i1, i2] : List Nat)[j]?).getD 0)) : Ent C S (S.shut i0 [i0, i1, i2] M inv) := by
  refine Ent.shut ?_ rfl hinv ⟨b0, k0, hc⟩ hM (fun j i hj => ?_)
  · simp only [Bool.or_eq_false_iff, nbeq, decide_eq_false_iff_not] at hids
    obtain ⟨⟨h1, h2⟩, h3⟩ := hids
    simp [h1, h2, h3]
  · match j with
    | 0 => simp at hj; subst hj; exact ⟨a0, b0, g0, k0, l0⟩
    | 1 => simp at hj; subst hj; exact ⟨a1, b1, g1, k1, l1⟩
    | 2 => simp at hj; subst hj; exact ⟨a2, b2, g2, k2, l2⟩
    | j + 3 => simp at hj
/-! ### a walk in pieces -/
/-- What is owed at the end of the first piece. -/
def cutQ (P : Program) (C : Ctx) (y : Code) (Q : Exit → St → Prop) (e : Exit) (S : St) : Prop := match e with | .normal => Tri P C y S Q | e => Q e S
theorem cutG {P : Program} {C : Ctx} {y : Code} {S : St} {Q : Exit → St → Prop} (h : Tri P C y S Q) : cutQ P C y Q .normal S := h
theorem cutR {P : Program} {C : Ctx} {y : Code} {S : St} {Q : Exit → St → Prop} (h : Q .ret S) : cutQ P C y Q .ret S := h
theorem cutE {P : Program} {C : Ctx} {y : Code} {S : St} {Q : Exit → St → Prop} {n : Nat} (h : Q (.exit n) S) : cutQ P C y Q (.exit n) S := h

theorem Tri.seq {P : Program} {C : Ctx} {x y : Code} {S : St} {Q : Exit → St → Prop} (h : Tri P C x S (cutQ P C y Q)) : Tri P C (.seq x y) S Q := by
  intro a w hs
  refine wp_seq (wp_mono (h a w hs) ?_)
  rintro e a' w' ⟨S', h1, h2⟩
  cases e with
  | normal => exact h2 a' w' h1
  | _ => exact ⟨S', h1, h2⟩
theorem Tri.cond {P : Program} {C : Ctx} {t : Operand} {x y : Code} {S : St} {Q : Exit → St → Prop} {b : Bool} (hb : S.ev t = some (XV.bool b)) (ht : b = true → Tri P C x S Q) (hf : b = false → Tri P C y S Q) : Tri P C (.cond t x y) S Q := by
  intro a w hs
  have hs' := hs
  obtain ⟨β, ow, h1, _⟩ := hs'
  have hv := h1.ev hb
  simp only [XV.rel, CV.rel, SV.rel] at hv
  exact wp_cond_split hv (fun h => ht h a w hs) (fun h => hf h a w hs)
theorem Tri.skip {P : Program} {C : Ctx} {S : St} {Q : Exit → St → Prop} (h : Q .normal S) : Tri P C .skip S Q := fun _ _ hs => wp_skip ⟨S, hs, h⟩

def takeC : Nat → Code → List Code
  | n + 1, .seq x y => x :: takeC n y
  | _, _ => []
def dropC : Nat → Code → Code
  | n + 1, .seq _ y => dropC n y
  | _, c => c

theorem stk_pass (step : Step) {e : Exit} (he : e ≠ .normal) (S : St) : ∀ l : List Code, stkK step (l.map Fr.seq) e S = Tree.done e S
  | [] => rfl
  | _ :: r => by
    have := stk_pass step he S r
    cases e <;> first | exact absurd rfl he | exact this

theorem cut_sound {P : Program} {C : Ctx} {T : TyTab} (hm : P.follows .mixedOrders = true) (hT : TabOK P T) {Q : Exit → St → Prop} : ∀ (n : Nat) (c : Code) (S : St),
    wpT P C (cutQ P C (dropC n c) Q) (stkK (stepOp T) ((takeC n c).map Fr.seq) .normal S) → Tri P C c S Q
  | 0, c, S, h => by
    have e : takeC 0 c = [] := by cases c <;> rfl
    have e2 : dropC 0 c = c := by cases c <;> rfl
    rw [e, e2] at h
    exact h
  | n + 1, c, S, h => by
    cases c with
    | seq x y =>
      intro a w hs
      refine wp_seq (wp_mono (evalC_sound hm (stepOp_sound hT) x S _ a w h hs) ?_)
      rintro e a' w' ⟨S', h1, h2⟩
      cases e with
      | normal => exact cut_sound hm hT n y S' h2 a' w' h1
      | _ =>
        rw [stk_pass _ (by simp)] at h2
        exact ⟨S', h1, h2⟩
    | _ => exact h

/-- The first n pieces of a text; then what stands behind them. -/
theorem Tri.cut {P : Program} {C : Ctx} {T : TyTab} {c : Code} {S : St} {Q : Exit → St → Prop} (n : Nat) (hm : P.follows .mixedOrders = true) (hT : TabOK P T)
    (h : wpN P C (cutQ P C (dropC n c) Q) (stepOp T) (stK S fun S => run (stepOp T) 4000 (.ex .normal S ((takeC n c).map Fr.seq)))) : Tri P C c S Q := by
  rw [stK_eq] at h
  exact cut_sound hm hT n c S (run_sound 4000 _ h)

/-- A function of plain values that makes one object. -/
theorem spec_new {P : Program} {T : TyTab} {f : FuncId} {fn : Func} {c : Code} (hT : TabOK P T) (hf : P.funcs[f]? = some fn) (hb : fn.body = some c) {A' : AbsP} (Xl : List CV)
    (hXl : Xl.all (CV.ok fun _ => false) = true) {M : Mem} {d : Nat} (i : Nat)
    (h : ∀ C : Ctx, C.n0 = 0 → Tri P C c ⟨slots0 fn.ntmps (Xl.map .cv), [], 0⟩ (Ends C T fn.results.toList 0 0 ⟨XV.sv (.ptr i 0 0 0), [], some (i, .abs A')⟩)) :
    CallSpec P f Xl M d { v := XV.sv (.ptr d 0 0 0), upd := [(d, .abs A')] } [] := by
  refine spec_of_text (ids := []) (rids := []) (Xl := Xl) (M0 := []) (out := ⟨XV.sv (.ptr i 0 0 0), [], some (i, .abs A')⟩) (k1 := 0) (n0 := 0) hT hf hb (by simp) rfl rfl (by simp) ?_ (fun i ch hi => by simp [Mem.get] at hi) (fun i ch hi => by simp [Mem.get] at hi) (fun j ch hj => ?_) ?_ h (CVs.ren_closed hXl).symm ?_ rfl (fun c ch hc => ?_)
  · simp only [List.all_eq_true] at hXl ⊢
    exact fun s hs => CV.ok_mono (fun _ h => by cases h) (hXl s hs)
  · cases hj; exact ⟨rfl, rfl⟩
  · simp [XV.ok, CV.ok, SV.ok]
  · simp [XV.ren, CV.ren, SV.ren, renOut]
  · simp only [Mem.get, nbeq] at hc
    by_cases hk : d = c
    · simp only [hk, decide_true, cond_true, Option.some.injEq] at hc
      exact .inr ⟨hk.symm, i, by rw [hc]⟩
    · simp [hk] at hc
end Go.Sx
