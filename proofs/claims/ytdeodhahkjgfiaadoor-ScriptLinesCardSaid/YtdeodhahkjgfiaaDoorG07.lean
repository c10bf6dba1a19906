/- Parts SxZh SxZc SxZd SxZe SxZf SxZg. -/
import Derived.Test.YtdeodhahkjgfiaaDoorG06
import Derived.Test.YtdeodhahkjgfiaaDoorG05
import Derived.Lib.SmallJoins
import Derived.Lib.LaidTab
set_option linter.unusedSimpArgs false
set_option linter.unusedVariables false
namespace Go.Sx
open Go.RowKit Go.ChangeShapes Go.WideShapes Go.Deep
def Came (W : World) (v : Value) (a : AD) : Prop :=
  ∃ Ls : List Loc, Ls.length = a.wid ∧ ∀ (i : Nat) (β0 : Nat → Loc), (∀ k L, Ls[k]? = some L → β0 (i + k) = L) → (a.cv i).rel β0 v ∧ ∀ c ch, (a.mem i).get c = some ch → HoldsAt W (fun _ => True) (β0 c) ch
def CameL (W : World) : List Value → List AD → Prop
  | [], [] => True
  | v :: r, a :: l => Came W v a ∧ CameL W r l
  | _, _ => False
def CameX (W : World) : List ExtP → Prop
  | [] => True
  | A :: r => (∃ L, ExtAt W (fun _ => True) L A) ∧ CameX W r
theorem CameL.args {W : World} : ∀ {l : List AD} {vs : List Value}, CameL W vs l →
    ∃ Ls : List Loc, Ls.length = wids l ∧ ∀ (i : Nat) (β0 : Nat → Loc), (∀ k L, Ls[k]? = some L → β0 (i + k) = L) → CVs β0 (canX i l) vs ∧ ∀ c ch, (canL i l).get c = some ch → HoldsAt W (fun _ => True) (β0 c) ch
  | [], [], _ => ⟨[], rfl, fun i β0 _ => ⟨rfl, fun c ch h => by simp [canL, Mem.get] at h⟩⟩
  | a :: l, v :: t, hl => by
    obtain ⟨La, a1, a2⟩ := hl.1
    obtain ⟨Ls, e1, e2⟩ := CameL.args hl.2
    refine ⟨La ++ Ls, by simp [e1, a1, wids], fun i β0 hβ => ?_⟩
    obtain ⟨f1, f2⟩ := a2 i β0 (fun k L hk => hβ k L (by rw [List.getElem?_append_left (List.getElem?_eq_some_iff.1 hk).1]; exact hk))
    obtain ⟨g1, g2⟩ := e2 (i + a.wid) β0 (fun k L' hk => by
      have := hβ (a.wid + k) L' (by rw [List.getElem?_append_right (by omega), a1, Nat.add_sub_cancel_left]; exact hk)
      rwa [← Nat.add_assoc] at this)
    refine ⟨⟨v, t, rfl, f1, g1⟩, fun c ch hc => ?_⟩
    rw [canL, Mem.get_append] at hc
    cases hm : (a.mem i).get c with
    | some ch0 =>
      rw [hm] at hc
      simp only [Option.some_or, Option.some.injEq] at hc
      subst hc
      exact f2 c _ hm
    | none =>
      rw [hm] at hc
      exact g2 c ch (by simpa using hc)
  | [], _ :: _, hl => hl.elim
  | _ :: _, [], hl => hl.elim
theorem CameX.exts {W : World} : ∀ {es : List ExtP}, CameX W es →
    ∃ Ls : List Loc, Ls.length = es.length ∧ ∀ (k : Nat) (A : ExtP), es[k]? = some A → ∃ L, Ls[k]? = some L ∧ ExtAt W (fun _ => True) L A
  | [], _ => ⟨[], rfl, fun k A h => by simp at h⟩
  | A :: r, h => by
    obtain ⟨L, hL⟩ := h.1
    obtain ⟨Ls, e1, e2⟩ := CameX.exts h.2
    refine ⟨L :: Ls, by simp [e1], fun k B hk => ?_⟩
    cases k with
    | zero =>
      simp only [List.getElem?_cons_zero, Option.some.injEq] at hk
      subst hk
      exact ⟨L, by simp, hL⟩
    | succ k => simpa using e2 k B (by simpa using hk)
theorem Reads.calls {P : Program} {f : FuncId} {l : List AD} {es : List ExtP} {X : XV} (h : Reads P f l es X) {W : World} {vs : List Value} (ha : CameL W vs l) (he : CameX W es) :
    Calls P f vs.toArray W fun e W' => ∃ v β', e = .returned v ∧ X.rel β' v ∧ Below W.heap.size W W' := by
  obtain ⟨d, h1, _⟩ := h
  obtain ⟨Ls, e1, e2⟩ := ha.args
  obtain ⟨Es, f1, f2⟩ := he.exts
  let β0 : Nat → Loc := fun i => ((Ls ++ Es)[i]?).getD default
  obtain ⟨g1, g2⟩ := e2 0 β0 (fun k L hk => by
    have : k < Ls.length := (List.getElem?_eq_some_iff.1 hk).1
    simp only [β0]
    rw [Nat.zero_add, List.getElem?_append_left this, hk]
    rfl)
  refine (h1 β0 (fun _ => none) W vs (fun k h => absurd rfl h) (fun k h => by cases h) g1 (fun c _ ch hc => ?_)).mono ?_
  · obtain ⟨_, _, _, h4⟩ := canM_get hc
    rcases h4 with h4 | ⟨A, rfl, h5, h6⟩
    · exact (g2 c ch h4).holds fun _ _ => rfl
    · obtain ⟨L, k1, k2⟩ := f2 _ A h6
      have hb : β0 c = L := by
        simp only [β0]
        rw [List.getElem?_append_right (by omega), e1, show c - wids l = c - (0 + wids l) by omega, k1]
        rfl
      exact HoldsAt.holds (ch := .ext A) (by rw [hb]; exact k2) fun _ _ => rfl
  · rintro e W' ⟨v, β', ow', rfl, E, hv, _⟩
    exact ⟨v, β', rfl, hv, E.os, E.tape, E.output, E.size, fun k hk => (E.keep k hk (fun c hc => by cases hc)).1⟩
theorem RowIn.at {W : World} {v : Value} {sz n : Nat} {f : Nat → List Value} (h : RowIn W v sz n f) : ∃ L : Loc, (∀ (β : Nat → Loc) c, β c = L → (SV.slc c sz 0 n).rel β v) ∧ RoAt W (fun _ => True) L sz n f := by
  obtain ⟨L, h1, h2⟩ := h
  refine ⟨L, h1, ?_⟩
  unfold RoAt
  by_cases hn : L.nil = true
  · rw [if_pos hn] at h2 ⊢; exact h2
  · rw [if_neg hn] at h2 ⊢; exact ⟨⟨h2.1, trivial⟩, h2.2⟩
theorem came_raw {W : World} {v : Value} : Came W v (.plain (.one (.raw v))) := ⟨[default], rfl, fun i β0 _ => ⟨rfl, fun c ch h => by cases h⟩⟩
def CameC (W : World) : List Value → List AC → Prop
  | [], [] => True
  | v :: r, .raw u :: l => v = u ∧ CameC W r l
  | v :: r, .row sz n f :: l => RowIn W v sz n f ∧ CameC W r l
  | _, _ => False
theorem CameC.cells {W : World} : ∀ {l : List AC} {vs : List Value}, CameC W vs l →
    ∃ Ls : List Loc, Ls.length = boxW l ∧ ∀ (i : Nat) (β0 : Nat → Loc), (∀ k L, Ls[k]? = some L → β0 (i + k) = L) → Rels β0 (boxC i l) vs ∧ ∀ c ch, (boxM i l).get c = some ch → HoldsAt W (fun _ => True) (β0 c) ch
  | [], [], _ => ⟨[], rfl, fun i β0 _ => ⟨rfl, fun c ch h => by simp [boxM, Mem.get] at h⟩⟩
  | .raw x :: l, v :: t, hl => by
    obtain ⟨rfl, hl⟩ := hl
    obtain ⟨Ls, e1, e2⟩ := CameC.cells hl
    exact ⟨Ls, e1, fun i β0 hβ => ⟨⟨v, t, rfl, rfl, (e2 i β0 hβ).1⟩, (e2 i β0 hβ).2⟩⟩
  | .row sz n f :: l, v :: t, hl => by
    obtain ⟨L, a1, a2⟩ := hl.1.at
    obtain ⟨Ls, e1, e2⟩ := CameC.cells hl.2
    refine ⟨L :: Ls, by simp [e1, boxW], fun i β0 hβ => ?_⟩
    have hb : β0 i = L := by simpa using hβ 0 L rfl
    obtain ⟨g1, g2⟩ := e2 (i + 1) β0 (fun k L' hk => by
      have := hβ (k + 1) L' (by simpa using hk)
      rwa [Nat.add_right_comm, Nat.add_assoc])
    refine ⟨⟨v, t, rfl, a1 β0 i hb, g1⟩, fun c ch hc => ?_⟩
    simp only [boxM, Mem.get, nbeq] at hc
    by_cases hi : i = c
    · subst hi
      simp only [decide_true, cond_true, Option.some.injEq] at hc
      rw [hb, ← hc]; exact a2
    · simp only [hi, decide_false, cond_false] at hc
      exact g2 c ch hc
  | [], _ :: _, hl => hl.elim
  | .raw _ :: _, [], hl => hl.elim
  | .row _ _ _ :: _, [], hl => hl.elim
section
variable {P : Program} {T : TyTab} {H : Type} {enc : TypeId × Value → H} {W : World}
end
open Go.RowKit
section
variable {P : Program} {S : St} {d : Nat} {o : Oper}
def ptrs (caps : List Nat) : List CV := caps.map fun c => .one (.ptr c 0 0 0)
theorem CVs.append {β : Nat → Loc} : ∀ {a b : List CV} {x y : List Value}, CVs β a x → CVs β b y → CVs β (a ++ b) (x ++ y)
  | [], _, _, _, h, h' => by cases h; exact h'
  | _ :: _, _, _, _, h, h' => by obtain ⟨v, r, rfl, h1, h2⟩ := h; exact ⟨v, _, rfl, h1, h2.append h'⟩
theorem ptrs_ok (β : Nat → Loc) : ∀ caps : List Nat, CVs β (ptrs caps) (caps.map fun c => Value.pointer (some ((β c).addr 0)))
  | [] => rfl
  | c :: r => ⟨_, _, rfl, by simp [CV.rel, SV.rel], ptrs_ok β r⟩
end
def preM : Nat → List (Chunk × Chunk) → Mem
  | _, [] => []
  | i, x :: r => (i, x.1) :: preM (i + 1) r
def postM : Nat → List (Chunk × Chunk) → Mem
  | _, [] => []
  | i, x :: r => (i, x.2) :: postM (i + 1) r
def postC : List Nat → List (Chunk × Chunk) → Mem
  | c :: cs, x :: r => (c, x.2) :: postC cs r
  | _, _ => []
def ptrsF : Nat → List (Chunk × Chunk) → List CV
  | _, [] => []
  | i, _ :: r => .one (.ptr i 0 0 0) :: ptrsF (i + 1) r
def frM (d : Nat) : Option Chunk → Mem
  | some ch => [(d, ch)]
  | none => []
def okX (fr : Option Chunk) (X : XV) : Bool := match fr with | some ch => X.ok (fun j => Nat.beq 0 j) && ch.closed && !ch.isRo | none => X.ok fun _ => false
def okOs (os : List (Chunk × Chunk)) : Bool := os.all fun x => x.1.closed && x.2.closed && !x.1.isRo && !x.2.isRo
theorem preM_get : ∀ {os : List (Chunk × Chunk)} {i c : Nat} {ch : Chunk}, (preM i os).get c = some ch → i ≤ c ∧ c < i + os.length ∧ ∃ x, os[c - i]? = some x ∧ ch = x.1
  | [], i, c, ch, h => by simp [preM, Mem.get] at h
  | x :: r, i, c, ch, h => by
    simp only [preM, Mem.get, nbeq] at h
    by_cases hi : i = c
    · subst hi
      simp only [decide_true, cond_true, Option.some.injEq] at h
      exact ⟨Nat.le_refl _, by simp, x, by simp, h.symm⟩
    · simp only [hi, decide_false, cond_false] at h
      obtain ⟨h1, h2, y, h3, h4⟩ := preM_get h
      exact ⟨by omega, by simp only [List.length_cons]; omega, y, by rw [show c - i = (c - (i + 1)) + 1 by omega, List.getElem?_cons_succ]; exact h3, h4⟩
theorem postM_get : ∀ {os : List (Chunk × Chunk)} {i c : Nat} {ch : Chunk}, (postM i os).get c = some ch ↔ i ≤ c ∧ ∃ x, os[c - i]? = some x ∧ ch = x.2
  | [], i, c, ch => by simp [postM, Mem.get]
  | x :: r, i, c, ch => by
    simp only [postM, Mem.get, nbeq]
    by_cases hi : i = c
    · subst hi
      simp only [decide_true, cond_true, Option.some.injEq, Nat.le_refl, Nat.sub_self, List.getElem?_cons_zero, true_and]
      exact ⟨fun h => ⟨x, rfl, h.symm⟩, fun ⟨y, h1, h2⟩ => by rw [h2, h1]⟩
    · simp only [hi, decide_false, cond_false]
      rw [postM_get]
      constructor
      · rintro ⟨h1, y, h2, h3⟩
        exact ⟨by omega, y, by rw [show c - i = (c - (i + 1)) + 1 by omega, List.getElem?_cons_succ]; exact h2, h3⟩
      · rintro ⟨h1, y, h2, h3⟩
        exact ⟨by omega, y, by rw [show c - i = (c - (i + 1)) + 1 by omega, List.getElem?_cons_succ] at h2; exact h2, h3⟩
theorem postC_get : ∀ {cs : List Nat} {os : List (Chunk × Chunk)} {c : Nat} {ch : Chunk}, cs.Nodup → (postC cs os).get c = some ch → ∃ (i : Nat) (x : Chunk × Chunk), cs[i]? = some c ∧ os[i]? = some x ∧ ch = x.2
  | [], _, c, ch, _, h => by simp [postC, Mem.get] at h
  | _ :: _, [], c, ch, _, h => by simp [postC, Mem.get] at h
  | c0 :: cs, x :: r, c, ch, hn, h => by
    simp only [postC, Mem.get, nbeq] at h
    by_cases hi : c0 = c
    · subst hi
      simp only [decide_true, cond_true, Option.some.injEq] at h
      exact ⟨0, x, rfl, rfl, h.symm⟩
    · simp only [hi, decide_false, cond_false] at h
      obtain ⟨i, y, h1, h2, h3⟩ := postC_get (List.nodup_cons.1 hn).2 h
      exact ⟨i + 1, y, by simpa using h1, by simpa using h2, h3⟩
theorem frM_get {d c : Nat} {fr : Option Chunk} {ch : Chunk} : (frM d fr).get c = some ch ↔ c = d ∧ fr = some ch := by
  cases fr with
  | none => simp [frM, Mem.get]
  | some x =>
    simp only [frM, Mem.get, nbeq]
    by_cases h : d = c
    · subst h; simp
    · simp [h]; intro e; exact absurd e.symm h
theorem ptrsF_eq : ∀ (os : List (Chunk × Chunk)) (i : Nat), ptrsF i os = ptrs (List.range' i os.length)
  | [], i => rfl
  | _ :: r, i => by simp only [ptrsF, List.length_cons, List.range'_succ, ptrs, List.map_cons]; rw [ptrsF_eq r]; rfl
def Does (P : Program) (f : FuncId) (os : List (Chunk × Chunk)) (l : List AD) (es : List ExtP) (X : XV) (fr : Option Chunk) : Prop :=
  ∃ d, CallSpec P f (ptrsF 0 os ++ canX os.length l) (preM 0 os ++ canM es os.length l) d { v := X.ren fun _ => d, upd := postM 0 os ++ frM d fr, wr := List.range os.length } (List.range (os.length + (wids l + es.length))) ∧ os.length + (wids l + es.length) ≤ d ∧ okX fr X = true ∧ okOs os = true
theorem okX_fr {fr : Option Chunk} {X : XV} (h : okX fr X = true) : X.ok (fun j => Nat.beq 0 j) = true ∧ (fr = none → X.ok (fun _ => false) = true) ∧ (∀ ch, fr = some ch → ch.closed = true ∧ ch.isRo = false) := by
  cases fr with
  | none => exact ⟨XV.ok_mono (fun _ h => by cases h) h, fun _ => h, (fun _ h => by cases h)⟩
  | some ch =>
    simp only [okX, Bool.and_eq_true, Bool.not_eq_true'] at h
    exact ⟨h.1.1, (fun h => by cases h), (fun ch' e => by cases e; exact ⟨h.1.2, h.2⟩)⟩
theorem okOs_get {os : List (Chunk × Chunk)} (h : okOs os = true) {i : Nat} {x : Chunk × Chunk} (hx : os[i]? = some x) : x.1.closed = true ∧ x.2.closed = true ∧ x.1.isRo = false ∧ x.2.isRo = false := by
  simp only [okOs, List.all_eq_true, Bool.and_eq_true, Bool.not_eq_true'] at h
  obtain ⟨⟨⟨h1, h2⟩, h3⟩, h4⟩ := h x (List.mem_of_getElem? hx)
  exact ⟨h1, h2, h3, h4⟩
theorem lidx_iff {l : List Nat} (hl : l.Nodup) {c i : Nat} : lidx c l = some i ↔ l[i]? = some c := ⟨lidx_get, lidx_nodup hl⟩
theorem CVs.ptrs_inv {β : Nat → Loc} : ∀ {cs : List Nat} {Xs : List CV} {vs : List Value}, CVs β (ptrs cs ++ Xs) vs → ∃ t, vs = (cs.map fun c => Value.pointer (some ((β c).addr 0))) ++ t ∧ CVs β Xs t
  | [], _, vs, h => ⟨vs, rfl, h⟩
  | c :: cs, _, vs, h => by
    obtain ⟨v, r, rfl, h1, h2⟩ := h
    obtain ⟨t, rfl, h3⟩ := CVs.ptrs_inv h2
    refine ⟨t, ?_, h3⟩
    simp only [CV.rel, SV.rel] at h1
    rw [h1]; simp
theorem Does.at {P : Program} {f : FuncId} {os : List (Chunk × Chunk)} {l : List AD} {es : List ExtP} {X : XV} {fr : Option Chunk} (h : Does P f os l es X fr) {Xs : List CV} {M : Mem} {d : Nat} (cs rd : List Nat) (hcs : cs.length = os.length) (hnd : (cs ++ [d]).Nodup) (hrd : (cs.all fun c => !nmem c rd) = true)
    (hc : ∀ (i c : Nat) (x : Chunk × Chunk), cs[i]? = some c → os[i]? = some x → M.get c = some x.1) (ha : LendsL M rd Xs l) (he : LendsX M rd es) :
    CallSpec P f (ptrs cs ++ Xs) M d { v := X.ren fun _ => d, upd := postC cs os ++ frM d fr, wr := cs } (cs ++ rd) := by
  obtain ⟨d0, h1, hd0, h2, h3⟩ := h
  obtain ⟨x1, x2, x3⟩ := okX_fr h2
  have hn : cs.Nodup := (List.nodup_append.1 hnd).1
  have hcd : d ∉ cs := fun hm => (List.nodup_append.1 hnd).2.2 d hm d (by simp) rfl
  have hcr : ∀ c ∈ cs, c ∉ rd := fun c hc hm => by
    have := List.all_eq_true.1 hrd c hc
    rw [(nmem_iff c rd).2 hm] at this; cases this
  intro β ow w vs hw hfr hvs hr
  obtain ⟨t, rfl, ht⟩ := CVs.ptrs_inv hvs
  let ow0 : Nat → Option Nat := fun k => (ow k).bind fun c => lidx c cs
  have how0 : ∀ k i, ow0 k = some i ↔ ∃ c, ow k = some c ∧ cs[i]? = some c := fun k i => by
    simp only [ow0, Option.bind_eq_some_iff, lidx_iff hn]
  have hB : ∀ k, Free rd ow k → ow0 k = none := by
    intro k hk
    cases h0 : ow0 k with
    | none => rfl
    | some i =>
      obtain ⟨c, g1, g2⟩ := (how0 k i).1 h0
      rcases hk with hk | ⟨q, hq, hk⟩
      · rw [hk] at g1; cases g1
      · rw [hk] at g1; cases g1
        exact absurd hq (hcr c (List.mem_of_getElem? g2))
  obtain ⟨β0, e0, e1, e2⟩ := lend_at ha he os.length hw ht (fun q hq ch hch => hr q (by simp [hq]) ch hch) (fun i => β (cs.getD i 0)) ow0 hB
  have hb0 : ∀ i c, cs[i]? = some c → β0 i = β c := fun i c hi => by
    rw [e0 i (by rw [← hcs]; exact (List.getElem?_eq_some_iff.1 hi).1), List.getD_eq_getElem?_getD, hi]; rfl
  have hin : ∀ (i c : Nat) (x : Chunk × Chunk), cs[i]? = some c → os[i]? = some x → Holds β0 ow0 w i x.1 := fun i c x hi hx => by
    obtain ⟨k1, _, k3, _⟩ := okOs_get h3 hx
    refine Holds.move (β := β) (ow := ow) (c := c) k1 (hb0 i c hi) (fun _ k => ?_) (fun e => by rw [k3] at e; cases e) (hr c (by simp [List.mem_of_getElem? hi]) _ (hc i c x hi hx))
    rw [how0]
    exact ⟨fun ⟨c', g1, g2⟩ => by rw [hi] at g2; cases g2; exact g1, fun g => ⟨c, g, hi⟩⟩
  have hget : ∀ i, i < os.length → ∃ c, cs[i]? = some c := fun i hi => ⟨cs[i]'(by omega), List.getElem?_eq_getElem (by omega)⟩
  have hargs : CVs β0 (ptrsF 0 os ++ canX os.length l) ((cs.map fun c => Value.pointer (some ((β c).addr 0))) ++ t) := by
    rw [ptrsF_eq]
    refine CVs.append ?_ e1
    have e : (cs.map fun c => Value.pointer (some ((β c).addr 0))) = (List.range' 0 os.length).map fun c => Value.pointer (some ((β0 c).addr 0)) := by
      apply List.ext_getElem?
      intro i
      by_cases hi : i < os.length
      · obtain ⟨c, hci⟩ := hget i hi
        simp only [List.getElem?_map, hci, Option.map_some, List.getElem?_range' hi, Nat.zero_add, Nat.one_mul, hb0 i c hci]
      · rw [List.getElem?_eq_none (by simp; omega), List.getElem?_eq_none (by simp; omega)]
    rw [e]
    exact ptrs_ok β0 _
  refine (h1 β0 ow0 w _ (fun k hk => ?_) (fun k hk => ?_) hargs (fun q _ ch0 hq => ?_)).mono ?_
  · cases h0 : ow0 k with
    | none => exact absurd h0 hk
    | some i => obtain ⟨c, g1, _⟩ := (how0 k i).1 h0; exact hw k (by simp [g1])
  · obtain ⟨c, _, g2⟩ := (how0 k d0).1 hk
    have := (List.getElem?_eq_some_iff.1 g2).1
    omega
  · rw [Mem.get_append] at hq
    cases hm : (preM 0 os).get q with
    | some ch =>
      rw [hm] at hq
      simp only [Option.some_or, Option.some.injEq] at hq
      obtain ⟨_, g2, x, g3, g4⟩ := preM_get hm
      simp only [Nat.zero_add, Nat.sub_zero] at g2 g3
      obtain ⟨c, hci⟩ := hget q g2
      rw [← hq, g4]
      exact hin q c x hci g3
    | none =>
      rw [hm] at hq
      exact e2 q ch0 (by simpa using hq)
  rintro e w' ⟨v, β', ow', rfl, E, r1, r2⟩
  have hb' : ∀ i c, cs[i]? = some c → β' i = β c := fun i c hi => by
    have := (List.getElem?_eq_some_iff.1 hi).1
    rw [E.beta i (by omega), hb0 i c hi]
  let β2 := setβ β d (β' d0)
  let ow2 : Nat → Option Nat := fun k => match ow' k with | some i => if i = d0 then some d else cs[i]? | none => if (ow0 k).isSome then none else ow k
  have hlt : ∀ i c, cs[i]? = some c → i < os.length := fun i c hi => by rw [← hcs]; exact (List.getElem?_eq_some_iff.1 hi).1
  have ho2 : ∀ i c, cs[i]? = some c → ∀ k, ow2 k = some c ↔ ow' k = some i := fun i c hi k => by
    have hil := hlt i c hi
    have hcm : c ∈ cs := List.mem_of_getElem? hi
    cases hk : ow' k with
    | some j =>
      simp only [ow2, hk, Option.some.injEq]
      by_cases hj : j = d0
      · rw [if_pos hj]
        simp only [Option.some.injEq]
        exact ⟨fun e => absurd (e ▸ hcm) hcd, fun e => by omega⟩
      · rw [if_neg hj]
        exact ⟨fun e => by
          have a1 := lidx_nodup hn e
          have a2 := lidx_nodup hn hi
          rw [a1] at a2; cases a2; rfl, fun e => e ▸ hi⟩
    | none =>
      simp only [ow2, hk]
      refine ⟨fun h => ?_, fun h => by cases h⟩
      by_cases h0 : (ow0 k).isSome = true
      · rw [if_pos h0] at h; cases h
      · rw [if_neg h0] at h
        have : ow0 k = some i := (how0 k i).2 ⟨c, h, hi⟩
        rw [this] at h0; exact absurd rfl h0
  have hod : ∀ k, ow2 k = some d ↔ ow' k = some d0 := fun k => by
    cases hk : ow' k with
    | some j =>
      simp only [ow2, hk, Option.some.injEq]
      by_cases hj : j = d0
      · rw [if_pos hj]; simp [hj]
      · rw [if_neg hj]
        exact ⟨fun e => absurd (List.mem_of_getElem? e) hcd, fun e => absurd e hj⟩
    | none =>
      simp only [ow2, hk]
      refine ⟨fun h => ?_, fun h => by cases h⟩
      by_cases h0 : (ow0 k).isSome = true
      · rw [if_pos h0] at h; cases h
      · rw [if_neg h0] at h; exact absurd h (hfr k)
  have hnone : ∀ k, ow2 k ≠ none → ow' k ≠ none ∨ (ow2 k = ow k ∧ ow0 k = none) := fun k hk => by
    cases hk' : ow' k with
    | some j => exact .inl (by simp)
    | none =>
      right
      simp only [ow2, hk'] at hk ⊢
      by_cases h0 : (ow0 k).isSome = true
      · rw [if_pos h0] at hk; exact absurd rfl hk
      · rw [if_neg h0]
        exact ⟨rfl, by simpa using h0⟩
  refine ⟨v, β2, ow2, rfl, ⟨fun c hc => by simp [β2, setβ, hc], E.os, E.tape, E.output, E.size, fun k hk hn' => ?_, fun k hk c' hc' => ?_, fun k hk => ?_⟩, ?_, fun q chq hq => ?_⟩
  · have hz : ow0 k = none := by
      cases h0 : ow0 k with
      | none => rfl
      | some i => obtain ⟨c, g1, g2⟩ := (how0 k i).1 h0; exact absurd g1 (hn' c (List.mem_of_getElem? g2))
    obtain ⟨m1, m2⟩ := E.keep k hk (fun c0 _ e => by rw [hz] at e; cases e)
    refine ⟨m1, ?_⟩
    simp only [ow2, m2, hz]
    simp
  · cases hk' : ow' k with
    | some j =>
      simp only [ow2, hk'] at hc'
      by_cases hj : j = d0
      · rw [if_pos hj] at hc'; cases hc'; exact .inr rfl
      · rw [if_neg hj] at hc'; exact .inl (List.mem_of_getElem? hc')
    | none =>
      simp only [ow2, hk'] at hc'
      by_cases h0 : (ow0 k).isSome = true
      · rw [if_pos h0] at hc'; cases hc'
      · rw [if_neg h0] at hc'
        rcases hk with hk | ⟨c0, h0', hk⟩
        · have := hw k (by simp [hc']); omega
        · exfalso
          obtain ⟨i, hi⟩ := List.getElem?_of_mem h0'
          exact h0 (by rw [(how0 k i).2 ⟨c0, hk, hi⟩]; rfl)
  · rcases hnone k hk with h | ⟨h, _⟩
    · exact E.wf k h
    · rw [h] at hk; exact Nat.lt_of_lt_of_le (hw k hk) E.size
  · have e3 := (XV.ren_rel (β := β') (ρ := fun _ => d0) X v).1 r1
    refine (XV.ren_rel (β := β2) (ρ := fun _ => d) X v).2 ?_
    refine XV.rel_congr (p := fun j => Nat.beq 0 j) (fun c _ => ?_) x1 e3
    simp [β2, setβ]
  · rw [Mem.get_append] at hq
    cases hm : (postC cs os).get q with
    | some ch =>
      rw [hm] at hq
      simp only [Option.some_or, Option.some.injEq] at hq
      obtain ⟨i, x, g1, g2, g3⟩ := postC_get hn hm
      obtain ⟨_, k2, _, k4⟩ := okOs_get h3 g2
      have hqd : q ≠ d := fun e => hcd (e ▸ List.mem_of_getElem? g1)
      rw [← hq, g3]
      refine Holds.move (β := β') (ow := ow') (c := i) k2 (by simp [β2, setβ, hqd, hb' i q g1]) (fun _ k => ho2 i q g1 k) (fun e => by rw [k4] at e; cases e) (r2 i x.2 ?_)
      rw [Mem.get_append, postM_get.2 ⟨Nat.zero_le _, x, g2, rfl⟩]; rfl
    | none =>
      rw [hm] at hq
      obtain ⟨rfl, hf⟩ := frM_get.1 (show (frM d fr).get q = some chq by simpa using hq)
      obtain ⟨k1, k2⟩ := x3 chq hf
      refine Holds.move (β := β') (ow := ow') (c := d0) k1 (by simp [β2, setβ]) (fun _ k => hod k) (fun e => by rw [k2] at e; cases e) (r2 d0 chq ?_)
      have hp : (postM 0 os).get d0 = none := by
        cases hpp : (postM 0 os).get d0 with
        | none => rfl
        | some ch =>
          obtain ⟨_, x, g1, _⟩ := postM_get.1 hpp
          have := (List.getElem?_eq_some_iff.1 g1).1
          omega
      rw [Mem.get_append, hp, frM_get.2 ⟨rfl, hf⟩]; rfl
theorem Does.of {P : Program} {T : TyTab} {f : FuncId} {fn : Func} {c : Code} (hT : TabOK P T) (hf : P.funcs[f]? = some fn) (hb : fn.body = some c) (os : List (Chunk × Chunk)) (l : List AD) (es : List ExtP) (X : XV) (fr : Option Chunk) (hos : okOs os = true) (hX : okX fr X = true)
    (hXl : (canX os.length l).all (CV.ok fun i => Nat.blt i (os.length + (wids l + es.length))) = true) (i : Nat)
    (h : ∀ C : Ctx, C.n0 = os.length + (wids l + es.length) → Tri P C c ⟨slots0 fn.ntmps ((ptrsF 0 os ++ canX os.length l).map .cv), preM 0 os ++ canM es os.length l, os.length + (wids l + es.length)⟩ (Ends C T fn.results.toList os.length (os.length + (wids l + es.length)) ⟨X.ren fun _ => i, postM 0 os, fr.map fun ch => (i, ch)⟩)) : Does P f os l es X fr := by
  obtain ⟨x1, x2, x3⟩ := okX_fr hX
  let k := os.length
  let m := wids l + es.length
  have hi : ∀ i, i < k + m → (List.range k ++ (List.range m).map (· + k))[i]? = some i := by
    intro i hi
    by_cases h0 : i < k
    · rw [List.getElem?_append_left (by simpa using h0)]; simp [h0]
    · rw [List.getElem?_append_right (by simp; omega)]
      have : i - k < m := by omega
      simp [this]; omega
  have hall : (ptrsF 0 os ++ canX k l).all (CV.ok fun i => Nat.blt i (k + m)) = true := by
    rw [List.all_append, Bool.and_eq_true]
    refine ⟨?_, hXl⟩
    rw [ptrsF_eq, List.all_eq_true]
    intro x hx
    simp only [ptrs, List.mem_map, List.mem_range'_1] at hx
    obtain ⟨j, hj, rfl⟩ := hx
    simp only [CV.ok, SV.ok, Nat.blt_eq]; omega
  have hren : (ptrsF 0 os ++ canX k l) = (ptrsF 0 os ++ canX k l).map (CV.ren fun i => ((List.range k ++ (List.range m).map (· + k))[i]?).getD (k + m)) := by
    rw [CVs.ren_congr (ρ' := id) (p := fun i => Nat.blt i (k + m)) (fun c hc => by simp only [Nat.blt_eq] at hc; rw [hi c hc]; rfl) hall, CVs.ren_id]
  have hrange : List.range (k + m) = List.range k ++ (List.range m).map (· + k) := by
    apply List.ext_getElem?
    intro j
    by_cases hj : j < k + m
    · rw [hi j hj]; simp [hj]
    · rw [List.getElem?_eq_none (by simp; omega), List.getElem?_eq_none (by simp; omega)]
  refine ⟨k + m, ?_, Nat.le_refl _, hX, hos⟩
  have hupm : ∀ i ch, (postM 0 os).get i = some ch → i < k ∧ ∃ x, os[i]? = some x ∧ ch = x.2 := fun i ch hm => by
    obtain ⟨_, x, g1, g2⟩ := postM_get.1 hm
    exact ⟨(List.getElem?_eq_some_iff.1 g1).1, x, g1, g2⟩
  show CallSpec P f (ptrsF 0 os ++ canX k l) (preM 0 os ++ canM es k l) (k + m) _ (List.range (k + m))
  rw [hrange]
  refine spec_of_text (ids := List.range k) (rids := (List.range m).map (· + k)) (Xl := ptrsF 0 os ++ canX k l) (M0 := preM 0 os ++ canM es k l) (out := ⟨X.ren fun _ => i, postM 0 os, fr.map fun ch => (i, ch)⟩) (k1 := k) (n0 := k + m) hT hf hb List.nodup_range (by simp) (by simp) (by rw [← hrange]; simp) hall (fun j ch0 hm => ?_) (fun j ch0 hm => ?_) (fun j ch0 hm => ?_) ?_ h hren ?_ rfl (fun q chq hq => ?_)
  · have hm' := hm
    rw [Mem.get_append] at hm
    cases hp : (preM 0 os).get j with
    | some ch =>
      rw [hp] at hm
      simp only [Option.some_or, Option.some.injEq] at hm
      obtain ⟨_, g2, x, g3, g4⟩ := preM_get hp
      simp only [Nat.zero_add, Nat.sub_zero] at g2 g3
      obtain ⟨k1, _, k3, _⟩ := okOs_get hos g3
      refine ⟨by simp only [k]; omega, by rw [← hm, g4]; exact k1, fun h => by simp only [k] at h; omega, fun ci hci => ?_⟩
      rw [hi j (by simp only [k]; omega)] at hci
      cases hci; exact hm'
    | none =>
      rw [hp] at hm
      obtain ⟨q1, q2, q3, _⟩ := canM_get (show (canM es os.length l).get j = some ch0 by simpa using hm)
      refine ⟨by simp only [k, m]; omega, ?_, fun _ => q3, fun ci hci => ?_⟩
      · cases ch0 <;> first | rfl | cases q3
      · rw [hi j (by simp only [k, m]; omega)] at hci
        cases hci; exact hm'
  · obtain ⟨_, x, g1, g2⟩ := hupm j ch0 hm
    obtain ⟨_, k2, _, k4⟩ := okOs_get hos g1
    rw [g2]; exact ⟨k2, k4⟩
  · simp only [Option.map_eq_some_iff, Prod.mk.injEq] at hm
    obtain ⟨ch, g1, _, rfl⟩ := hm
    exact x3 ch g1
  · cases fr with
    | none =>
      have := x2 rfl
      rw [XV.ren_closed this]
      exact XV.ok_mono (fun _ h => by cases h) this
    | some ch =>
      have hs : ∀ s : SV, s.ok (fun j => Nat.beq 0 j) = true → (s.ren fun _ => i).ok (fun j => Nat.blt j (k + m) || Nat.beq i j) = true := by
        intro s _
        rw [SV.ok_ren]
        cases s with
        | fn f caps => simp [SV.ok]
        | _ => simp [SV.ok]
      have hc : ∀ s : CV, s.ok (fun j => Nat.beq 0 j) = true → (s.ren fun _ => i).ok (fun j => Nat.blt j (k + m) || Nat.beq i j) = true := by
        intro s hk
        cases s with
        | one s => exact hs s hk
        | agg cs =>
          simp only [CV.ren, CV.ok, List.all_map, List.all_eq_true] at hk ⊢
          exact fun s hm => hs s (hk s hm)
      show (X.ren fun _ => i).ok (fun j => Nat.blt j (k + m) || Nat.beq i j) = true
      cases X with
      | cv s => exact hc s x1
      | tup cs =>
        simp only [XV.ren, XV.ok, List.all_map, List.all_eq_true] at x1 ⊢
        exact fun s hm => hc s (x1 s hm)
  · show X.ren (fun _ => k + m) = (X.ren fun _ => i).ren _
    cases fr with
    | none =>
      have := x2 rfl
      rw [XV.ren_closed this, XV.ren_closed this, XV.ren_closed this]
    | some ch =>
      have hr : renOut (List.range k ++ (List.range m).map (· + k)) (k + m) ((some ch).map fun ch => (i, ch)) i = k + m := by simp [renOut]
      have hs : ∀ s : SV, (s.ren fun _ => i).ren (renOut (List.range k ++ (List.range m).map (· + k)) (k + m) ((some ch).map fun ch => (i, ch))) = s.ren fun _ => k + m := by
        intro s
        cases s with
        | fn f caps => simp only [SV.ren, List.map_map]; congr 1; apply List.map_congr_left; intro c _; exact hr
        | _ => simp only [SV.ren, hr]
      have hc : ∀ s : CV, (s.ren fun _ => i).ren (renOut (List.range k ++ (List.range m).map (· + k)) (k + m) ((some ch).map fun ch => (i, ch))) = s.ren fun _ => k + m := by
        intro s
        cases s with
        | one s => simp only [CV.ren, hs]
        | agg cs => simp only [CV.ren, List.map_map]; congr 1; apply List.map_congr_left; intro s _; exact hs s
      cases X with
      | cv s => simp only [XV.ren, hc]
      | tup cs => simp only [XV.ren, List.map_map]; congr 1; apply List.map_congr_left; intro s _; exact (hc s).symm
  · rw [Mem.get_append] at hq
    cases hp : (postM 0 os).get q with
    | some ch =>
      rw [hp] at hq
      simp only [Option.some_or, Option.some.injEq] at hq
      obtain ⟨g1, _⟩ := hupm q ch hp
      exact .inl ⟨q, by simp [g1], by rw [← hq]; exact hp⟩
    | none =>
      rw [hp] at hq
      obtain ⟨rfl, hf⟩ := frM_get.1 (show (frM (k + m) fr).get q = some chq by simpa using hq)
      exact .inr ⟨rfl, i, by simp [hf]⟩
open Go.RowKit
theorem Chunk.ren_closed {ρ : Nat → Nat} {ch : Chunk} (h : ch.closed = true) : ch.ren ρ = ch := by
  cases ch with
  | cells e cs => simp only [Chunk.ren, SVs.ren_closed h]
  | _ => rfl
theorem Chunk.closed_ok {p : Nat → Bool} {ch : Chunk} (h : ch.closed = true) : ch.ok p = true := by
  cases ch with
  | cells e cs => exact SVs.ok_mono (fun _ h => by cases h) h
  | _ => rfl
def PackP (l : List Chunk) : AbsP where
  Φ w b s O := ∃ (β : Nat → Loc) (ow : Nat → Option Nat), WF ow w ∧ (∀ k, O k ↔ ow k ≠ none) ∧ (∀ j, j < l.length → β j = (Loc.mk b 0 (s 0) false fun j => s (j + 1)).inner l.length j) ∧ (∀ k c, ow k = some c → c < l.length) ∧ (∀ (j : Nat) (ch : Chunk), l[j]? = some ch → ch.isRo = false ∧ ch.closed = true) ∧ ∀ (j : Nat) (ch : Chunk), l[j]? = some ch → Holds β ow w j ch
  loc := by
    rintro w w' b s O O' hk hO ⟨β, ow, h1, h2, h3, h4, h5, h6⟩
    have same : ∀ k, ow k ≠ none → w'.heap[k]? = w.heap[k]? := fun k h => hk k ((h2 k).2 h)
    refine ⟨β, ow, fun k h => ?_, fun k => (hO k).trans (h2 k), h3, h4, h5, fun j ch hj => ?_⟩
    · have e := same k h
      rw [Array.getElem?_eq_getElem (h1 k h)] at e
      exact (Array.getElem?_eq_some_iff.1 e).1
    · obtain ⟨k1, k2⟩ := h5 j ch hj
      have := Holds.trans (β := β) (β' := β) (ow := ow) (ow' := ow) (w := w) (w' := w') (c := j) (c' := j) (ρ := id) (ch := ch) (p := fun _ => true) (Chunk.closed_ok k2) (fun _ _ => rfl) rfl rfl rfl (.inl ⟨rfl, rfl⟩) k1 (fun _ => Iff.rfl) (fun k hk => same k (by simp [hk])) (h6 j ch hj)
      rwa [Chunk.ren_closed k2] at this
  in_heap := by
    rintro w b s O ⟨β, ow, h1, h2, _⟩ k hk
    exact h1 k ((h2 k).1 hk)
def isVec (l : List Chunk) (k : Nat) : Bool := match lnth l k with | some (.vec _ _ _ _) => true | _ => false
def packS (ids : List Nat) (l : List Chunk) (d : Nat) : SV → SV
  | .slc c sz lo len => match lidx c ids with | some j => bif Nat.beq lo 0 then .ins d ids.length j len else .slc c sz lo len | none => .slc c sz lo len
  | .ptr c i sz j => match lidx c ids with | some k => bif Nat.beq (i * sz + j) 0 && !isVec l k then .inn d k else .ptr c i sz j | none => .ptr c i sz j
  | s => s
def packC (ids : List Nat) (l : List Chunk) (d : Nat) : CV → CV
  | .one s => .one (packS ids l d s)
  | .agg cs => .agg (cs.map (packS ids l d))
def packX (ids : List Nat) (l : List Chunk) (d : Nat) : XV → XV
  | .cv c => .cv (packC ids l d c)
  | .tup cs => .tup (cs.map (packC ids l d))
section
variable {β β' : Nat → Loc} {ids : List Nat} {l : List Chunk} {d : Nat} {p : Nat → Bool}
structure Packs (β β' : Nat → Loc) (ids : List Nat) (l : List Chunk) (d : Nat) (p : Nat → Bool) : Prop where
  old : ∀ c, p c = true → β' c = β c
  inn : ∀ (j c : Nat), ids[j]? = some c → ((β' d).inner ids.length j).blk = (β c).blk ∧ ((β' d).inner ids.length j).cap = (β c).cap ∧ ((β' d).inner ids.length j).nil = (β c).nil
  base : ∀ c ∈ ids, (β c).nil = true ∨ (β c).base = 0
  obj : ∀ (k c : Nat), ids[k]? = some c → isVec l k = false → (β c).base = 0
theorem packS_rel (H : Packs β β' ids l d p) {s : SV} (hs : s.ok p = true) {v : Value} (h : s.rel β v) : (packS ids l d s).rel β' v := by
  cases s with
  | slc c sz lo len =>
    simp only [packS]
    cases hl : lidx c ids with
    | none => exact SV.rel_congr H.old hs h
    | some j =>
      have hj := lidx_get hl
      obtain ⟨g1, g2, g3⟩ := H.inn j c hj
      cases hb : Nat.beq lo 0 with
      | false => exact SV.rel_congr H.old hs h
      | true =>
        obtain rfl : lo = 0 := by simpa using hb
        simp only [cond_true, SV.rel] at h ⊢
        rw [g2, g3]
        by_cases hn : (β c).nil = true
        · rw [if_pos hn] at h ⊢
          exact ⟨h.1, h.2.2⟩
        · rw [if_neg hn] at h ⊢
          obtain ⟨a, h1, h2, h3⟩ := h
          refine ⟨a, by simpa using h1, by omega, fun h0 => ?_⟩
          rw [h3 h0]
          have hb := (H.base c (List.mem_of_getElem? hj)).resolve_left hn
          simp only [Loc.addr, g1, hb, Nat.zero_mul]
          rfl
  | ptr c i sz j =>
    simp only [packS]
    cases hl : lidx c ids with
    | none => exact SV.rel_congr H.old hs h
    | some k =>
      have hj := lidx_get hl
      obtain ⟨g1, g2, g3⟩ := H.inn k c hj
      dsimp only
      cases hb : Nat.beq (i * sz + j) 0 && !isVec l k with
      | false => exact SV.rel_congr H.old hs h
      | true =>
        simp only [Bool.and_eq_true, Bool.not_eq_true'] at hb
        have e0 : i * sz + j = 0 := by simpa using hb.1
        simp only [cond_true, SV.rel] at h ⊢
        have hb := H.obj k c hj hb.2
        rw [h, e0]
        simp only [Loc.addr, hb]
        rw [← g1]
        rfl
  | _ => exact SV.rel_congr H.old hs h
theorem packSs_rel (H : Packs β β' ids l d p) : ∀ {cs : List SV}, cs.all (SV.ok p) = true → ∀ {vs : List Value}, Rels β cs vs → Rels β' (cs.map (packS ids l d)) vs
  | [], _, vs, h => h
  | s :: r, hs, vs, h => by
    obtain ⟨v, t, rfl, h1, h2⟩ := h
    simp only [List.all_cons, Bool.and_eq_true] at hs
    exact ⟨v, t, rfl, packS_rel H hs.1 h1, packSs_rel H hs.2 h2⟩
theorem packC_rel (H : Packs β β' ids l d p) {c : CV} (hs : c.ok p = true) {v : Value} (h : c.rel β v) : (packC ids l d c).rel β' v := by
  cases c with
  | one s => exact packS_rel H hs h
  | agg cs => obtain ⟨arr, rfl, h⟩ := h; exact ⟨arr, rfl, packSs_rel H hs h⟩
theorem packCs_rel (H : Packs β β' ids l d p) : ∀ {cs : List CV}, cs.all (CV.ok p) = true → ∀ {vs : List Value}, CVs β cs vs → CVs β' (cs.map (packC ids l d)) vs
  | [], _, vs, h => h
  | s :: r, hs, vs, h => by
    obtain ⟨v, t, rfl, h1, h2⟩ := h
    simp only [List.all_cons, Bool.and_eq_true] at hs
    exact ⟨v, t, rfl, packC_rel H hs.1 h1, packCs_rel H hs.2 h2⟩
theorem packX_rel (H : Packs β β' ids l d p) {X : XV} (hs : X.ok p = true) {v : Value} (h : X.rel β v) : (packX ids l d X).rel β' v := by
  cases X with
  | cv c => exact packC_rel H hs h
  | tup l => obtain ⟨arr, rfl, h⟩ := h; exact ⟨arr, rfl, packCs_rel H hs h⟩
theorem packS_ok {q : Nat → Bool} (hq : ∀ c, p c = true → q c = true) (hd : q d = true) {s : SV} (hs : s.ok p = true) : (packS ids l d s).ok q = true := by
  cases s with
  | slc c sz lo len =>
    simp only [packS]
    cases lidx c ids with
    | none => exact hq _ hs
    | some j => cases Nat.beq lo 0 with
      | false => exact hq _ hs
      | true => exact hd
  | ptr c i sz j =>
    simp only [packS]
    cases lidx c ids with
    | none => exact hq _ hs
    | some k =>
      dsimp only
      cases Nat.beq (i * sz + j) 0 && !isVec l k with
      | false => exact hq _ hs
      | true => exact hd
  | _ => exact SV.ok_mono hq hs
theorem packC_ok {q : Nat → Bool} (hq : ∀ c, p c = true → q c = true) (hd : q d = true) {s : CV} (hs : s.ok p = true) : (packC ids l d s).ok q = true := by
  cases s with
  | one s => exact packS_ok hq hd hs
  | agg cs =>
    simp only [CV.ok, packC, List.all_eq_true, List.mem_map] at hs ⊢
    rintro _ ⟨s, hm, rfl⟩
    exact packS_ok hq hd (hs s hm)
theorem packX_ok {q : Nat → Bool} (hq : ∀ c, p c = true → q c = true) (hd : q d = true) {s : XV} (hs : s.ok p = true) : (packX ids l d s).ok q = true := by
  cases s with
  | cv s => exact packC_ok hq hd hs
  | tup cs =>
    simp only [XV.ok, packX, List.all_eq_true, List.mem_map] at hs ⊢
    rintro _ ⟨s, hm, rfl⟩
    exact packC_ok hq hd (hs s hm)
end
def mapO (g : XV → XV) : List (Option XV) → List (Option XV)
  | [] => []
  | none :: r => none :: mapO g r
  | some X :: r => some (g X) :: mapO g r
theorem mapO_length (g : XV → XV) : ∀ l, (mapO g l).length = l.length
  | [] => rfl
  | none :: r => by simp [mapO, mapO_length g r]
  | some _ :: r => by simp [mapO, mapO_length g r]
theorem mapO_get (g : XV → XV) : ∀ (l : List (Option XV)) (t : Nat), lget (mapO g l) t = (lget l t).map g
  | [], t => by simp [mapO, lget]
  | none :: r, 0 => rfl
  | some _ :: r, 0 => rfl
  | none :: r, t + 1 => by simp only [mapO, lget]; exact mapO_get g r t
  | some _ :: r, t + 1 => by simp only [mapO, lget]; exact mapO_get g r t
def subEnc (m : Nat) (L : Nat → Loc) (x : Nat) : Nat :=
  match x / m with
  | 0 => (L (x % m)).blk
  | 1 => (L (x % m)).cap
  | 2 => if (L (x % m)).nil = true then 1 else 0
  | t + 3 => (L (x % m)).sub t
theorem subEnc_inner (m : Nat) (L : Nat → Loc) {j : Nat} (hj : j < m) : (Loc.mk 0 0 0 false (subEnc m L)).inner m j = ⟨(L j).blk, 0, (L j).cap, (L j).nil, (L j).sub⟩ := by
  have hm : 0 < m := by omega
  have h0 : j / m = 0 := Nat.div_eq_of_lt hj
  have hmod : ∀ t, (j + t * m) % m = j := fun t => by rw [Nat.add_mul_mod_self_right, Nat.mod_eq_of_lt hj]
  have hdiv : ∀ t, (j + t * m) / m = t := fun t => by rw [Nat.add_mul_div_right _ _ hm, h0, Nat.zero_add]
  have e1 : subEnc m L j = (L j).blk := by
    have := hmod 0; have h2 := hdiv 0
    simp only [Nat.zero_mul, Nat.add_zero] at this h2
    simp only [subEnc, this, h2]
  have e2 : subEnc m L (j + m) = (L j).cap := by
    have := hmod 1; have h2 := hdiv 1
    rw [Nat.one_mul] at this h2
    simp only [subEnc, this, h2]
  have e3 : subEnc m L (j + 2 * m) = if (L j).nil = true then 1 else 0 := by simp only [subEnc, hmod 2, hdiv 2]
  have e4 : (fun i => subEnc m L (j + (3 + i) * m)) = (L j).sub := by
    funext i
    have h2 := hdiv (3 + i)
    rw [show 3 + i = i + 3 by omega] at h2 ⊢
    simp only [subEnc, hmod, h2]
  simp only [Loc.inner, e1, e2, e3, e4]
  congr 1
  cases (L j).nil <;> rfl
open Go.RowKit
def mapM (g : SV → SV) : Mem → Mem
  | [] => []
  | (c, ch) :: r => (c, match ch with | .cells e cs => .cells e (cs.map g) | .vec e sz n f => .vec e sz n f | .ro sz n f => .ro sz n f | .abs A => .abs A | .ext A => .ext A) :: mapM g r
def mapCh (g : SV → SV) : Chunk → Chunk
  | .cells e cs => .cells e (cs.map g)
  | ch => ch
theorem mapM_get (g : SV → SV) (d : Nat) : ∀ M : Mem, (mapM g M).get d = (M.get d).map (mapCh g)
  | [] => rfl
  | (c, ch) :: r => by
    simp only [mapM, Mem.get, nbeq]
    by_cases h : c = d
    · subst h
      simp only [decide_true, cond_true, Option.map_some]
      cases ch <;> rfl
    · simp only [h, decide_false, cond_false]
      exact mapM_get g d r
section
variable {β β' : Nat → Loc} {p q : Nat → Bool} {g : SV → SV}
theorem mapSs_ok (H : ∀ s : SV, s.ok p = true → (g s).ok q = true) {cs : List SV} (hs : cs.all (SV.ok p) = true) : (cs.map g).all (SV.ok q) = true := by
  simp only [List.all_eq_true, List.mem_map] at hs ⊢
  rintro _ ⟨s, hm, rfl⟩
  exact H s (hs s hm)
end
open Go.RowKit
theorem Tri.mono {P : Program} {C : Ctx} {c : Code} {S : St} {Q Q' : Exit → St → Prop} (h : Tri P C c S Q) (hq : ∀ e S, Q e S → Q' e S) : Tri P C c S Q' := by
  intro a w hs
  refine Code.wp_mono (fun e a' w' h => ?_) (h a w hs)
  obtain ⟨S', h1, h2⟩ := h
  exact ⟨S', h1, hq e S' h2⟩
theorem Tri.merges {P : Program} {C : Ctx} {x y : Code} {S : St} {Q : Exit → St → Prop} (S' : St) (hx : Tri P C x S (fun e S1 => (e = .normal ∧ Ent C S1 S') ∨ (e = .ret ∧ Q .ret S1))) (hy : Tri P C y S' Q) : Tri P C (.seq x y) S Q := by
  refine Tri.seq (Tri.mono hx fun e S1 h => ?_)
  rcases h with ⟨rfl, h⟩ | ⟨rfl, h⟩
  · exact cutG (Tri.ent h hy)
  · exact cutR h
theorem Tri.freeze {P : Program} {C : Ctx} {cd : Code} {S : St} {Q : Exit → St → Prop} (t : Nat) {c e sz n m : Nat} {f : Nat → List Value} (ht : lget S.slots t = some (XV.sv (.slc c sz 0 n))) (hm : S.mem.get c = some (.vec e sz m f)) (hnm : n ≤ m)
    (h : ∀ (ad : Option Addr) (cp : Nat), Tri P C cd ⟨lset S.slots t (some (XV.val (.slice ad n cp))), (S.nx, .ext (PartsAt sz 1 (fun _ => n) (fun _ => f) (fun _ => ad))) :: S.mem.del c, S.nx + 1⟩ Q) : Tri P C cd S Q := by
  intro a w hs
  obtain ⟨β, ow, g1, g2, g3, g4, g5⟩ := hs
  have hv := g1.slots t _ ht
  have hh := g1.mem c _ hm
  simp only [XV.rel, CV.rel, SV.rel] at hv
  simp only [Holds] at hh
  let ow' : Nat → Option Nat := fun k => if ow k = some c then none else ow k
  have hother : ∀ c' k, c' ≠ c → (ow' k = some c' ↔ ow k = some c') := by
    intro c' k e1
    simp only [ow']
    split
    · rename_i h2
      rw [h2]
      simp only [Option.some.injEq]
      exact ⟨(fun e => by cases e), (fun e => absurd e.symm e1)⟩
    · exact Iff.rfl
  have hex : ∃ (ad : Option Addr) (cp : Nat), a.tmps.getD t undef = .slice ad n cp ∧ ∃ O : Nat → Prop, (∀ k, O k → ow' k = none ∧ k < w.heap.size) ∧ (PartsAt sz 1 (fun _ => n) (fun _ => f) (fun _ => ad)).Ψ w (β S.nx) O := by
    by_cases hn : (β c).nil = true
    · rw [if_pos hn] at hv
      refine ⟨none, 0, by rw [hv.1, hv.2.2], fun _ => False, fun _ h => h.elim, fun i _ h0 => ?_⟩
      have h0 : 0 < n := h0
      omega
    · rw [if_neg hn] at hv hh
      obtain ⟨ad, e1, e2, e3⟩ := hv
      obtain ⟨v1, v2, v3, v4, arr, v5, v6, v7⟩ := hh
      refine ⟨some ad, (β c).cap - 0, e1, fun k => k = (β c).blk, fun k hk => ?_, fun i _ h0 => ?_⟩
      · subst hk
        exact ⟨by simp [ow', v2], (Array.getElem?_eq_some_iff.1 v5).1⟩
      · have h0 : 0 < n := h0
        have ha := e3 (by omega)
        refine ⟨ad, rfl, by rw [ha]; rfl, fun k hk => ?_⟩
        have hk : k < n := hk
        obtain ⟨q1, q2⟩ := v7 k (by omega)
        refine ⟨q1, fun j v hj => ?_⟩
        rw [ha, loc_add]
        simp only [Loc.addr, v1, Nat.zero_add, Nat.zero_mul]
        rw [cell_of_row w _ _ arr e _ v5]
        exact q2 j v hj
  obtain ⟨ad, cp, m1, O, m2, m3⟩ := hex
  have hlt := lget_some_lt ht
  have up : ∀ i, Nat.blt i S.nx = true → Nat.blt i (S.nx + 1) = true := fun i hi => by simp only [Nat.blt_eq] at hi ⊢; omega
  refine h ad cp a w ⟨β, ow', ⟨g1.defers, by simp [lset_length, g1.size], fun t' X' h' => ?_, fun c' ch hc' => ?_, fun k hk => ?_⟩, ⟨fun t' X' h' => ?_, fun c' ch hc' => ?_⟩, ⟨g3.os, g3.tape, g3.output, g3.size, fun k e1 e2 => ?_, g3.beta⟩, Nat.le_succ_of_le g4, fun k c' hk => ?_⟩
  · simp only [lget_lset] at h'
    by_cases htt : t' = t
    · subst htt; simp only [if_true, hlt] at h'; cases h'; exact m1
    · simp only [htt, if_false] at h'; exact g1.slots t' X' h'
  · simp only [Mem.get, nbeq] at hc'
    by_cases hcn' : S.nx = c'
    · simp only [hcn', decide_true, cond_true, Option.some.injEq] at hc'
      subst hc'
      exact ⟨O, m2, m3⟩
    · simp only [hcn', decide_false, cond_false, Mem.get_del] at hc'
      split at hc'
      · cases hc'
      · rename_i hne
        exact Holds.keep (g2.mem c' ch hc').2 (fun _ _ => rfl) rfl (fun _ k => hother c' k hne) (fun _ k hn => by simp [ow', hn]) (g1.mem c' ch hc')
  · simp only [ow'] at hk
    split at hk
    · exact absurd rfl hk
    · exact g1.wf k hk
  · simp only [lget_lset] at h'
    by_cases htt : t' = t
    · subst htt; simp only [if_true, hlt] at h'; cases h'; rfl
    · simp only [htt, if_false] at h'; exact XV.ok_mono up (g2.slots t' X' h')
  · simp only [Mem.get, nbeq] at hc'
    by_cases hcn' : S.nx = c'
    · simp only [hcn', decide_true, cond_true, Option.some.injEq] at hc'
      subst hc'
      exact ⟨by simp only [Nat.blt_eq]; omega, rfl⟩
    · simp only [hcn', decide_false, cond_false, Mem.get_del] at hc'
      split at hc'
      · cases hc'
      · obtain ⟨n1, n2⟩ := g2.mem c' ch hc'
        exact ⟨up _ n1, Chunk.ok_mono up n2⟩
  · obtain ⟨e3, e4⟩ := g3.keep k e1 e2
    exact ⟨e3, by simp [ow', e4]⟩
  · simp only [ow'] at hk
    split at hk
    · cases hk
    · exact up _ (g5 k c' hk)
section
variable {M : Mem} {rd : List Nat}
end
open Go.RowKit
def St.packed2 (S : St) (ids : List Nat) (l : List Chunk) : St := ⟨mapO (packX ids l S.nx) S.slots, (S.nx, .abs (PackP l)) :: mapM (packS ids l S.nx) (S.mem.dels ids), S.nx + 1⟩
theorem Ent.pack2 {C : Ctx} {S : St} (ids : List Nat) (l : List Chunk) (hnd : ids.Nodup) (hlen : ids.length = l.length) (hl : (l.all fun ch => ch.closed && !ch.isRo) = true) (hm : ∀ (j i : Nat) (ch : Chunk), ids[j]? = some i → l[j]? = some ch → ∃ ch0, S.mem.get i = some ch0 ∧ ChLe ch0 ch) : Ent C S (S.packed2 ids l) := by
  rintro a w ⟨β, ow, g1, g2, g3, g4, g5⟩
  have hon : ∀ k c, ow k = some c → c < S.nx := fun k c h => by simpa using g5 k c h
  have hl' : ∀ (j : Nat) (ch : Chunk), l[j]? = some ch → ch.isRo = false ∧ ch.closed = true := fun j ch hj => by
    have := List.all_eq_true.1 hl ch (List.mem_of_getElem? hj)
    simp only [Bool.and_eq_true, Bool.not_eq_true'] at this
    exact ⟨this.2, this.1⟩
  have hH : ∀ (j i : Nat) (ch : Chunk), ids[j]? = some i → l[j]? = some ch → i < S.nx ∧ Holds β ow w i ch := fun j i ch hi hj => by
    obtain ⟨ch0, h1, h2⟩ := hm j i ch hi hj
    exact ⟨by simpa using (g2.mem i _ h1).1, h2.holds (g1.mem i _ h1)⟩
  have hids : ∀ i ∈ ids, ∃ j ch, ids[j]? = some i ∧ l[j]? = some ch := fun i hi => by
    obtain ⟨j, hj⟩ := List.getElem?_of_mem hi
    have := (List.getElem?_eq_some_iff.1 hj).1
    exact ⟨j, l[j]'(by omega), hj, List.getElem?_eq_getElem (by omega)⟩
  have hbase : ∀ i ∈ ids, (β i).nil = true ∨ (β i).base = 0 := fun i hi => by
    obtain ⟨j, ch, h1, h2⟩ := hids i hi
    have h3 := (hH j i ch h1 h2).2
    obtain ⟨k1, k2⟩ := hl' j ch h2
    cases ch with
    | cells e cs => exact .inr h3.2.1
    | vec e sz n f =>
      simp only [Holds] at h3
      by_cases hn : (β i).nil = true
      · exact .inl hn
      · rw [if_neg hn] at h3; exact .inr h3.1
    | abs A => exact .inr h3.2.1
    | ro _ _ _ => cases k1
    | ext _ => cases k1
  have hinx : ∀ i ∈ ids, i < S.nx := fun i hi => by
    obtain ⟨j, ch, h1, h2⟩ := hids i hi
    exact (hH j i ch h1 h2).1
  let L : Nat → Loc := fun j => β (ids.getD j 0)
  have hL : ∀ (j i : Nat), ids[j]? = some i → L j = β i := fun j i h => by simp [L, List.getD_eq_getElem?_getD, h]
  let β' := setβ β S.nx (Loc.mk 0 0 0 false (subEnc ids.length L))
  let ow' : Nat → Option Nat := fun k => match ow k with | some c => if c ∈ ids then some S.nx else some c | none => none
  have hold : ∀ c, Nat.blt c S.nx = true → β' c = β c := fun c hc => by
    have : c ≠ S.nx := by
        have : c < S.nx := by simpa using hc
        omega
    simp [β', setβ, this]
  have hnew : β' S.nx = Loc.mk 0 0 0 false (subEnc ids.length L) := by simp [β', setβ]
  have hup : ∀ c, Nat.blt c S.nx = true → Nat.blt c (S.nx + 1) = true := fun c hc => by simp only [Nat.blt_eq] at hc ⊢; omega
  have hother : ∀ c k, c ∉ ids → c < S.nx → (ow' k = some c ↔ ow k = some c) := by
    intro c k e1 e2
    simp only [ow']
    cases hk : ow k with
    | none => simp
    | some c0 =>
      simp only
      by_cases h : c0 ∈ ids
      · rw [if_pos h]
        simp only [Option.some.injEq]
        exact ⟨fun e => by omega, fun e => absurd (e ▸ h) e1⟩
      · rw [if_neg h]
  have hmine : ∀ k, ow' k = some S.nx ↔ ∃ i ∈ ids, ow k = some i := by
    intro k
    simp only [ow']
    cases hk : ow k with
    | none => simp
    | some c0 =>
      simp only
      by_cases h : c0 ∈ ids
      · rw [if_pos h]; simp [h]
      · rw [if_neg h]
        simp only [Option.some.injEq]
        constructor
        · intro e; have := hon k _ hk; omega
        · rintro ⟨i, h1, h2⟩; exact absurd (h2 ▸ h1) h
  have hinner : ∀ (j i : Nat), ids[j]? = some i → (β' S.nx).inner ids.length j = ⟨(β i).blk, 0, (β i).cap, (β i).nil, (β i).sub⟩ := fun j i h => by
    rw [hnew, subEnc_inner _ _ (List.getElem?_eq_some_iff.1 h).1, hL j i h]
  have hP : Packs β β' ids l S.nx (fun c => Nat.blt c S.nx) := ⟨hold, fun j c h => by rw [hinner j c h]; exact ⟨rfl, rfl, rfl⟩, hbase, fun k c h hv => by
    obtain ⟨j, ch, h1, h2⟩ := hids c (List.mem_of_getElem? h)
    obtain rfl : j = k := by
      have := lidx_nodup hnd h
      rw [lidx_nodup hnd h1] at this; cases this; rfl
    have h3 := (hH j c ch h1 h2).2
    obtain ⟨k1, _⟩ := hl' j ch h2
    cases ch with
    | cells e cs => exact h3.2.1
    | vec e sz n f => simp [isVec, lnth_eq, h2] at hv
    | abs A => exact h3.2.1
    | ro _ _ _ => cases k1
    | ext _ => cases k1⟩
  refine ⟨β', ow', ⟨g1.defers, ?_, fun t X hX => ?_, fun c ch hc => ?_, fun k hk => ?_⟩, ⟨fun t X hX => ?_, fun c ch hc => ?_⟩, ⟨g3.os, g3.tape, g3.output, g3.size, fun k e1 e2 => ?_, fun c hc => by rw [hold c (by simp only [Nat.blt_eq]; omega)]; exact g3.beta c hc⟩, by simp only [St.packed2]; omega, fun k c hc => ?_⟩
  · rw [g1.size]; simp [St.packed2, mapO_length]
  · simp only [St.packed2, mapO_get, Option.map_eq_some_iff] at hX
    obtain ⟨X0, h1, rfl⟩ := hX
    exact packX_rel hP (g2.slots t X0 h1) (g1.slots t X0 h1)
  · simp only [St.packed2, Mem.get, nbeq, mapM_get, Mem.get_dels] at hc
    by_cases hcc : S.nx = c
    · subst hcc
      simp only [decide_true, cond_true, Option.some.injEq] at hc
      subst hc
      refine ⟨by rw [hnew], by rw [hnew], ?_⟩
      refine ⟨fun j => (β' S.nx).inner ids.length j, fun k => (ow k).bind fun c => lidx c ids, fun k hk => ?_, fun k => ?_, fun j hj => ?_, fun k c hk => ?_, hl', fun j ch hj => ?_⟩
      · cases h0 : ow k with
        | none => exact absurd (show ((ow k).bind fun c => lidx c ids) = none by rw [h0]; rfl) hk
        | some c => exact g1.wf k (by simp [h0])
      · simp only [hmine]
        constructor
        · rintro ⟨i, h1, h2⟩
          obtain ⟨j, hj⟩ := List.getElem?_of_mem h1
          rw [h2]; simp [lidx_nodup hnd hj]
        · intro h
          cases h0 : ow k with
          | none => rw [h0] at h; exact absurd rfl h
          | some c =>
            rw [h0] at h
            cases h1 : lidx c ids with
            | none => simp [h1] at h
            | some j => exact ⟨c, List.mem_of_getElem? (lidx_get h1), rfl⟩
      · rw [hlen, hnew]; rfl
      · obtain ⟨c0, h1, h2⟩ := Option.bind_eq_some_iff.1 hk
        rw [← hlen]; exact (List.getElem?_eq_some_iff.1 (lidx_get h2)).1
      · have hjl : j < ids.length := by rw [hlen]; exact (List.getElem?_eq_some_iff.1 hj).1
        obtain ⟨i, hi⟩ : ∃ i, ids[j]? = some i := ⟨_, List.getElem?_eq_getElem hjl⟩
        obtain ⟨k1, k2⟩ := hl' j ch hj
        have hh := (hH j i ch hi hj).2
        have ho : ∀ k, ((ow k).bind fun c => lidx c ids) = some j ↔ ow k = some i := fun k => by
          rw [Option.bind_eq_some_iff]
          constructor
          · rintro ⟨c, h1, h2⟩
            have := lidx_get h2
            rw [hi] at this; cases this; exact h1
          · intro h; exact ⟨i, h, lidx_nodup hnd hi⟩
        have hin := hinner j i hi
        by_cases hz : (β i).nil = true ∧ isVec l j = true
        · cases ch with
          | vec e sz n f =>
            simp only [Holds] at hh ⊢
            rw [if_pos hz.1] at hh
            rw [if_pos (by rw [hin]; exact hz.1)]
            exact hh
          | _ => simp [isVec, lnth_eq, hj] at hz
        · have hbb : (β i).base = 0 := by
            rcases hbase i (List.mem_of_getElem? hi) with h | h
            · exact hP.obj j i hi (by simpa using fun e => hz ⟨h, e⟩)
            · exact h
          have := Holds.trans (β := β) (β' := fun j => (β' S.nx).inner ids.length j) (ow := ow) (ow' := fun k => (ow k).bind fun c => lidx c ids) (w := w) (w' := w) (c := i) (c' := j) (ρ := id) (ch := ch) (p := fun _ => false) (Chunk.closed_ok k2) (fun _ h => by cases h) (by simp only [hin]) (by simp only [hin, hbb]) (by simp only [hin]) (.inl ⟨by simp only [hin], by simp only [hin]⟩) k1 ho (fun k hk => rfl) hh
          rwa [Chunk.ren_closed k2] at this
    · simp only [hcc, decide_false, cond_false, Option.map_eq_some_iff] at hc
      obtain ⟨ch0, hc, rfl⟩ := hc
      split at hc
      · cases hc
      · rename_i hni
        obtain ⟨k1, k2⟩ := g2.mem c ch0 hc
        have hlt : c < S.nx := by simpa using k1
        have hh := g1.mem c ch0 hc
        cases ch0 with
        | cells e cs =>
          obtain ⟨h3, h4, h5, arr, h6, h7⟩ := hh
          exact ⟨by rw [hold c k1]; exact h3, by rw [hold c k1]; exact h4, by rw [hold c k1, hother c _ hni hlt]; exact h5, arr, by rw [hold c k1]; exact h6, packSs_rel hP k2 h7⟩
        | _ => exact Holds.keep k2 hold (hold c k1) (fun _ k => hother c k hni hlt) (fun _ k hn => by simp [ow', hn]) hh
  · simp only [ow'] at hk
    cases h0 : ow k with
    | none => rw [h0] at hk; exact absurd rfl hk
    | some c => exact g1.wf k (by simp [h0])
  · simp only [St.packed2, mapO_get, Option.map_eq_some_iff] at hX ⊢
    obtain ⟨X0, h1, rfl⟩ := hX
    exact packX_ok hup (by simp) (g2.slots t X0 h1)
  · simp only [St.packed2, Mem.get, nbeq, mapM_get, Mem.get_dels] at hc ⊢
    by_cases hcc : S.nx = c
    · subst hcc
      simp only [decide_true, cond_true, Option.some.injEq] at hc
      subst hc
      exact ⟨by simp, rfl⟩
    · simp only [hcc, decide_false, cond_false, Option.map_eq_some_iff] at hc
      obtain ⟨ch0, hc, rfl⟩ := hc
      split at hc
      · cases hc
      · obtain ⟨k1, k2⟩ := g2.mem c ch0 hc
        refine ⟨hup c k1, ?_⟩
        cases ch0 with
        | cells e cs => exact mapSs_ok (fun s hs => packS_ok hup (by simp) hs) k2
        | _ => rfl
  · obtain ⟨e3, e4⟩ := g3.keep k e1 e2
    exact ⟨e3, by simp [ow', e4]⟩
  · simp only [ow'] at hc
    cases h0 : ow k with
    | none => rw [h0] at hc; cases hc
    | some c1 =>
      rw [h0] at hc
      simp only at hc
      by_cases h : c1 ∈ ids
      · rw [if_pos h] at hc
        simp only [Option.some.injEq] at hc
        subst hc; simp [St.packed2]
      · rw [if_neg h] at hc
        simp only [Option.some.injEq] at hc
        subst hc; exact hup c1 (g5 k c1 h0)
end Go.Sx
