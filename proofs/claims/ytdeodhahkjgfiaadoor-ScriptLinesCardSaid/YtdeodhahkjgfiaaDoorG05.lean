/- Parts SxT SxU SxV SxW SxX SxY. -/
import Derived.Test.YtdeodhahkjgfiaaDoorG04
import Derived.ProofKit
import Derived.OpenShut
import Derived.Deep.Slices
set_option linter.unusedSimpArgs false
set_option linter.unusedVariables false
namespace Go.Sx
open Go.RowKit
def blockQ (id : Nat) (Q : Exit → St → Prop) (e : Exit) (S : St) : Prop := match e with | .exit id' => if id' = id then Q .normal S else Q (.exit id') S | e => Q e S
theorem blockN {id : Nat} {Q : Exit → St → Prop} {S : St} (h : Q .normal S) : blockQ id Q .normal S := h
theorem blockR {id : Nat} {Q : Exit → St → Prop} {S : St} (h : Q .ret S) : blockQ id Q .ret S := h
theorem blockX {id : Nat} {Q : Exit → St → Prop} {S : St} (h : Q .normal S) : blockQ id Q (.exit id) S := by
  simp only [blockQ, if_true]; exact h
theorem blockY {id id' : Nat} {Q : Exit → St → Prop} {S : St} (hne : Nat.beq id' id = false) (h : Q (.exit id') S) : blockQ id Q (.exit id') S := by
  rw [nbeq] at hne
  have : ¬ id' = id := by simpa using hne
  simp only [blockQ, if_neg this]; exact h
theorem Tri.block {P : Program} {C : Ctx} {id : Nat} {c : Code} {S : St} {Q : Exit → St → Prop} (h : Tri P C c S (blockQ id Q)) : Tri P C (.block id c) S Q := by
  intro a w hs
  refine wp_block (wp_mono (h a w hs) ?_)
  rintro e a' w' ⟨S', h1, h2⟩
  cases e with
  | exit id' =>
    simp only [Exit.inBlock]
    simp only [blockQ] at h2
    by_cases hid : id' = id
    · rw [if_pos hid] at h2 ⊢; exact ⟨S', h1, h2⟩
    · rw [if_neg hid] at h2 ⊢; exact ⟨S', h1, h2⟩
  | _ => exact ⟨S', h1, h2⟩
def loopQ (Q : Exit → St → Prop) (next : St → Prop) (e : Exit) (S : St) : Prop := match e with | .normal => next S | e => Q e S
theorem loopN {Q : Exit → St → Prop} {next : St → Prop} {S : St} (h : next S) : loopQ Q next .normal S := h
theorem loopX {Q : Exit → St → Prop} {next : St → Prop} {S : St} {id : Nat} (h : Q (.exit id) S) : loopQ Q next (.exit id) S := h
theorem loopR {Q : Exit → St → Prop} {next : St → Prop} {S : St} (h : Q .ret S) : loopQ Q next .ret S := h
def nextQ {α : Type} (C : Ctx) (St : α → St) (μ : α → Nat) (x : α) (S' : Sx.St) : Prop := ∃ y, μ y < μ x ∧ Ent C S' (St y)
theorem Tri.loop {P : Program} {C : Ctx} {α : Type} (St : α → St) (μ : α → Nat) (a0 : α) {body : Code} {S : Sx.St} {Q : Exit → Sx.St → Prop} (h0 : Ent C S (St a0)) (round : ∀ x, Tri P C body (St x) (loopQ Q (nextQ C St μ x))) : Tri P C (.loop body) S Q := by
  intro a w hs
  refine wp_mono (wp_loop (fun a w => ∃ x, SatC C (St x) a w) (fun a w => Classical.epsilon fun n => ∃ x, SatC C (St x) a w ∧ n = μ x ∧ ∀ y, SatC C (St y) a w → μ x ≤ μ y) ⟨a0, h0 a w hs⟩ ?_) (fun e a' w' h => h)
  rintro a w hI
  have pick : ∀ (n : Nat) (a : Act) (w : World) (x : α), SatC C (St x) a w → μ x ≤ n → ∃ x, SatC C (St x) a w ∧ ∀ y, SatC C (St y) a w → μ x ≤ μ y := by
    intro n
    induction n with
    | zero => exact fun a w x hx hle => ⟨x, hx, fun y _ => by omega⟩
    | succ n ih =>
      intro a w x hx hle
      by_cases hex : ∃ y, SatC C (St y) a w ∧ μ y < μ x
      · obtain ⟨y, hy, hlt⟩ := hex
        exact ih a w y hy (by omega)
      · exact ⟨x, hx, fun y hy => Nat.le_of_not_lt fun hlt => hex ⟨y, hy, hlt⟩⟩
  have least : ∀ (a : Act) (w : World), (∃ x, SatC C (St x) a w) → ∃ x, SatC C (St x) a w ∧ (∀ y, SatC C (St y) a w → μ x ≤ μ y) ∧ (Classical.epsilon fun n => ∃ x, SatC C (St x) a w ∧ n = μ x ∧ ∀ y, SatC C (St y) a w → μ x ≤ μ y) = μ x := by
    rintro a w ⟨x0, hx0⟩
    obtain ⟨x, hx, hmin⟩ := pick _ a w x0 hx0 (Nat.le_refl _)
    have := Classical.epsilon_spec (p := fun n => ∃ x, SatC C (St x) a w ∧ n = μ x ∧ ∀ y, SatC C (St y) a w → μ x ≤ μ y) ⟨μ x, x, hx, rfl, hmin⟩
    obtain ⟨z, hz, he, hzm⟩ := this
    exact ⟨z, hz, hzm, he⟩
  obtain ⟨x, hx, hmin, hμ⟩ := least a w hI
  refine wp_mono (round x a w hx) ?_
  rintro e a' w' ⟨S', h1, h2⟩
  cases e with
  | normal =>
    obtain ⟨y, hlt, hent⟩ := h2
    have hy := hent a' w' h1
    obtain ⟨z, hz, hzm, hze⟩ := least a' w' ⟨y, hy⟩
    refine ⟨⟨y, hy⟩, ?_⟩
    show (Classical.epsilon fun n => ∃ x, SatC C (St x) a' w' ∧ n = μ x ∧ ∀ y, SatC C (St y) a' w' → μ x ≤ μ y) < (Classical.epsilon fun n => ∃ x, SatC C (St x) a w ∧ n = μ x ∧ ∀ y, SatC C (St y) a w → μ x ≤ μ y)
    rw [hμ, hze]
    exact Nat.lt_of_le_of_lt (hzm y hy) hlt
  | _ => exact ⟨S', h1, h2⟩
theorem Holds.unren' {β : Nat → Loc} {ow ow' : Nat → Option Nat} {w : World} {ρ : Nat → Nat} {j : Nat} {ch : Chunk} (ho : ∀ k, ow' k = some j ↔ ow k = some (ρ j)) (hn : ∀ k, ow k = none → ow' k = none) (h : Holds β ow w (ρ j) (ch.ren ρ)) : Holds (fun i => β (ρ i)) ow' w j ch := by
  cases ch with
  | ro sz n f =>
    simp only [Chunk.ren, Holds] at h ⊢
    by_cases hn' : (β (ρ j)).nil = true
    · rw [if_pos hn'] at h ⊢; exact h
    · rw [if_neg hn'] at h ⊢
      exact ⟨hn _ h.1, h.2⟩
  | ext A =>
    obtain ⟨O, h1, h2⟩ := h
    exact ⟨O, fun k hk => ⟨hn _ (h1 k hk).1, (h1 k hk).2⟩, h2⟩
  | _ => exact Holds.unren rfl ho h
def ChLe' : Chunk → Chunk → Prop
  | .ro sz n f, .ro sz' n' f' => sz = sz' ∧ n = n' ∧ ∀ i, i < n → f i = f' i
  | .ext A, .ext A' => A = A'
  | a, b => ChLe a b
theorem ChLe'.holds {a b : Chunk} (h : ChLe' a b) {β : Nat → Loc} {ow : Nat → Option Nat} {w : World} {c : Nat} (H : Holds β ow w c a) : Holds β ow w c b := by
  cases a <;> cases b <;> simp only [ChLe'] at h <;> first | exact ChLe.holds h H | (subst h; exact H) | skip
  obtain ⟨rfl, rfl, hf⟩ := h
  simp only [Holds] at H ⊢
  by_cases hn : (β c).nil = true
  · rw [if_pos hn] at H ⊢; exact H
  · rw [if_neg hn] at H ⊢
    exact ⟨H.1, H.2.1, fun i hi => by rw [← hf i hi]; exact H.2.2 i hi⟩
theorem ChLe'.refl : ∀ a : Chunk, ChLe' a a
  | .cells _ _ => ⟨rfl, rfl⟩
  | .vec _ _ _ _ => ⟨rfl, rfl, Nat.le_refl _, fun _ _ => rfl⟩
  | .ro _ _ _ => ⟨rfl, rfl, fun _ _ => rfl⟩
  | .ext _ => rfl
  | .abs _ => rfl
def slotsLe (ρ : Nat → Nat) : List (Option XV) → List (Option XV) → Prop
  | [], [] => True
  | none :: r, _ :: r' => slotsLe ρ r r'
  | some X :: r, y :: r' => y = some (X.ren ρ) ∧ slotsLe ρ r r'
  | _, _ => False
theorem slotsLe.get {ρ : Nat → Nat} : ∀ {l l' : List (Option XV)}, slotsLe ρ l l' → l.length = l'.length ∧ ∀ t X, lget l t = some X → lget l' t = some (X.ren ρ)
  | [], [], _ => ⟨rfl, fun t X h => by simp [lget] at h⟩
  | none :: r, y :: r', h => by
    obtain ⟨h1, h2⟩ := slotsLe.get (l := r) (l' := r') h
    refine ⟨by simp [h1], fun t X ht => ?_⟩
    cases t with
    | zero => simp [lget] at ht
    | succ t => exact h2 t X ht
  | some X :: r, y :: r', h => by
    obtain ⟨h1, h2⟩ := slotsLe.get (l := r) (l' := r') h.2
    refine ⟨by simp [h1], fun t X' ht => ?_⟩
    cases t with
    | zero => simp only [lget, Option.some.injEq] at ht ⊢; subst ht; exact h.1
    | succ t => exact h2 t X' ht
  | [], _ :: _, h => by cases h
  | none :: _, [], h => by cases h
  | some _ :: _, [], h => by cases h
def memLe (ρ : Nat → Nat) : Mem → Mem → Prop
  | [], _ => True
  | (c, ch) :: r, M => (∃ ch0, M.get (ρ c) = some ch0 ∧ ChLe' ch0 (ch.ren ρ)) ∧ memLe ρ r M
theorem memLe.get {ρ : Nat → Nat} {M : Mem} : ∀ {l : Mem}, memLe ρ l M → ∀ c ch, l.get c = some ch → ∃ ch0, M.get (ρ c) = some ch0 ∧ ChLe' ch0 (ch.ren ρ)
  | [], _, c, ch, h => by simp [Mem.get] at h
  | (k, x) :: r, hl, c, ch, h => by
    simp only [Mem.get, nbeq] at h
    by_cases hk : k = c
    · simp only [hk, decide_true, cond_true, Option.some.injEq] at h; subst hk; subst h; exact hl.1
    · simp only [hk, decide_false, cond_false] at h; exact memLe.get hl.2 c ch h
def okSlots (p : Nat → Bool) : List (Option XV) → Bool
  | [] => true
  | none :: r => okSlots p r
  | some X :: r => X.ok p && okSlots p r
theorem okSlots_get {p : Nat → Bool} : ∀ {l : List (Option XV)}, okSlots p l = true → ∀ t X, lget l t = some X → X.ok p = true
  | [], _, t, X, h => by simp [lget] at h
  | none :: r, hl, t, X, h => by
    cases t with
    | zero => simp [lget] at h
    | succ t => exact okSlots_get (l := r) hl t X h
  | some Y :: r, hl, t, X, h => by
    simp only [okSlots, Bool.and_eq_true] at hl
    cases t with
    | zero => simp only [lget, Option.some.injEq] at h; subst h; exact hl.1
    | succ t => exact okSlots_get hl.2 t X h
def nth0 (ids : List Nat) (i : Nat) : Nat := (ids[i]?).getD 0
theorem Ent.ren {C : Ctx} {S S' : St} (ids : List Nat) (hnd : ids.Nodup) (hnx : S'.nx = ids.length) (hn0 : ∀ i, i < C.n0 → ids[i]? = some i) (hn : C.n0 ≤ ids.length)
    (hok : (okSlots (fun i => Nat.blt i S'.nx) S'.slots && S'.mem.all fun x => Nat.blt x.1 S'.nx && x.2.ok fun i => Nat.blt i S'.nx) = true) (hs : slotsLe (nth0 ids) S'.slots S.slots) (hm : memLe (nth0 ids) S'.mem S.mem) : Ent C S S' := by
  rintro a w ⟨β, ow, h1, h2, h3, h4, h5⟩
  let ρ := nth0 ids
  let ow' : Nat → Option Nat := fun k => (ow k).bind fun c => lidx c ids
  simp only [Bool.and_eq_true] at hok
  obtain ⟨ok1, ok2⟩ := hok
  obtain ⟨s1, s2⟩ := hs.get
  have hown : ∀ i k, i < ids.length → (ow' k = some i ↔ ow k = some (ρ i)) := by
    intro i k hi
    have e : ids[i]? = some (ρ i) := by
      rw [List.getElem?_eq_getElem hi]
      simp [ρ, nth0, List.getElem?_eq_getElem hi]
    constructor
    · intro h
      cases ho : ow k with
      | none => simp [ow', ho] at h
      | some c =>
        have := lidx_get (l := ids) (c := c) (i := i) (by simpa [ow', ho] using h)
        rw [e] at this
        exact this.symm
    · intro h
      simp only [ow', h, Option.bind_some]
      exact lidx_nodup hnd e
  have hmem : ∀ c ch, S'.mem.get c = some ch → Nat.blt c S'.nx = true ∧ ch.ok (fun i => Nat.blt i S'.nx) = true := by
    intro c ch hc
    have : ∀ (l : Mem) c ch, l.get c = some ch → (c, ch) ∈ l := by
      intro l
      induction l with
      | nil => intro c ch h; simp [Mem.get] at h
      | cons z r ih =>
        obtain ⟨k, ck⟩ := z
        intro c ch h
        simp only [Mem.get, nbeq] at h
        by_cases hk : k = c
        · simp only [hk, decide_true, cond_true, Option.some.injEq] at h; subst hk; subst h; simp
        · simp only [hk, decide_false, cond_false] at h; exact List.mem_cons_of_mem _ (ih c ch h)
    have := List.all_eq_true.1 ok2 _ (this _ c ch hc)
    simpa only [Bool.and_eq_true] using this
  refine ⟨fun i => β (ρ i), ow', ⟨h1.defers, by rw [h1.size, s1], fun t X hX => ?_, fun c ch hc => ?_, fun k hk => ?_⟩, ⟨fun t X hX => okSlots_get ok1 t X hX, hmem⟩, ⟨h3.os, h3.tape, h3.output, h3.size, fun k hk1 hk2 => ?_, fun i hi => ?_⟩, by rw [hnx]; exact hn, fun k i hi => ?_⟩
  · exact (XV.ren_rel X _).1 (h1.slots t _ (s2 t X hX))
  · obtain ⟨ch0, e1, e2⟩ := hm.get c ch hc
    have hlt := (hmem c ch hc).1
    simp only [Nat.blt_eq, hnx] at hlt
    exact Holds.unren' (hown c · hlt) (fun k hk => by simp [ow', hk]) (e2.holds (h1.mem _ ch0 e1))
  · refine h1.wf k (fun e => hk ?_)
    simp [ow', e]
  · obtain ⟨e1, e2⟩ := h3.keep k hk1 hk2
    exact ⟨e1, by simp [ow', e2]⟩
  · have e : ρ i = i := by simp [ρ, nth0, hn0 i hi]
    simp only [e]
    exact h3.beta i hi
  · cases ho : ow k with
    | none => simp [ow', ho] at hi
    | some c =>
      have := lidx_get (l := ids) (c := c) (i := i) (by simpa [ow', ho] using hi)
      have := (List.getElem?_eq_some_iff.1 this).1
      simp only [Nat.blt_eq, hnx]; exact this
theorem Ent.renC {C : Ctx} {S S' : St} {k : Nat} (ids : List Nat) (hC : C.n0 = k) (hs : slotsLe (nth0 ids) S'.slots S.slots) (hm : memLe (nth0 ids) S'.mem S.mem) (hnd : ids.Nodup := by decide) (hnx : S'.nx = ids.length := by rfl) (hn0 : ∀ i, i < k → ids[i]? = some i := by decide) (hn : k ≤ ids.length := by decide)
    (hok : (okSlots (fun i => Nat.blt i S'.nx) S'.slots && S'.mem.all fun x => Nat.blt x.1 S'.nx && x.2.ok fun i => Nat.blt i S'.nx) = true := by rfl) : Ent C S S' :=
  Ent.ren ids hnd hnx (fun i hi => hn0 i (Nat.lt_of_lt_of_eq hi hC)) (Nat.le_trans (Nat.le_of_eq hC) hn) hok hs hm
theorem xE {C : Ctx} {S S' : St} {k : Nat} (ids : List Nat) (hC : C.n0 = k) (hs : slotsLe (nth0 ids) S'.slots S.slots := by repeat' (first | exact trivial | exact rfl | exact ⟨_, rfl, rfl, rfl, Nat.le_refl _, fun _ _ => rfl⟩ | exact ⟨_, rfl, rfl, rfl, fun _ _ => rfl⟩ | exact ⟨_, rfl, rfl, rfl⟩ | exact ⟨_, rfl, rfl⟩ | refine ⟨_, rfl, rfl, rfl, by omega, fun k hk => ?_⟩ | refine ⟨?_, ?_⟩ | fail)) (hm : memLe (nth0 ids) S'.mem S.mem := by repeat' (first | exact trivial | exact rfl | exact ⟨_, rfl, rfl, rfl, Nat.le_refl _, fun _ _ => rfl⟩ | exact ⟨_, rfl, rfl, rfl, fun _ _ => rfl⟩ | exact ⟨_, rfl, rfl, rfl⟩ | exact ⟨_, rfl, rfl⟩ | refine ⟨_, rfl, rfl, rfl, by omega, fun k hk => ?_⟩ | refine ⟨?_, ?_⟩ | fail)) (hnd : ids.Nodup := by decide) (hnx : S'.nx = ids.length := by rfl) (hn0 : ∀ i, i < k → ids[i]? = some i := by decide) (hn : k ≤ ids.length := by decide) (hok : (okSlots (fun i => Nat.blt i S'.nx) S'.slots && S'.mem.all fun x => Nat.blt x.1 S'.nx && x.2.ok fun i => Nat.blt i S'.nx) = true := by rfl) : Ent C S S' :=
  Ent.renC ids hC hs hm hnd hnx hn0 hn hok
open Go.RowKit
def PairP (A B : AbsP) : AbsP where
  Φ w b s O := ∃ O1 O2 s1 s2, (∀ k, O k ↔ O1 k ∨ O2 k) ∧ (∀ k, O1 k → ¬ O2 k) ∧ A.Φ w b s1 O1 ∧ B.Φ w (s 1) s2 O2
  loc := by
    rintro w w' b s O O' hk hO ⟨O1, O2, s1, s2, h1, h2, h3, h4⟩
    exact ⟨O1, O2, s1, s2, fun k => (hO k).trans (h1 k), h2, A.loc (fun k h => hk k ((h1 k).2 (.inl h))) (fun _ => Iff.rfl) h3, B.loc (fun k h => hk k ((h1 k).2 (.inr h))) (fun _ => Iff.rfl) h4⟩
  in_heap := by
    rintro w b s O ⟨O1, O2, s1, s2, h1, h2, h3, h4⟩ k hk
    rcases (h1 k).1 hk with h | h
    · exact A.in_heap h3 k h
    · exact B.in_heap h4 k h
def St.paired (S : St) (i j t1 t2 : Nat) (A B : AbsP) : St := ⟨lset (lset S.slots t1 (some (XV.sv (.ptr S.nx 0 0 0)))) t2 (some (XV.sv (.inn S.nx 0))), (S.nx, .abs (PairP A B)) :: S.mem.dels [i, j], S.nx + 1⟩
theorem Ent.pair {C : Ctx} {S : St} {i j t1 t2 : Nat} {A B : AbsP} (hij : Nat.beq i j = false) (hi : S.mem.get i = some (.abs A)) (hj : S.mem.get j = some (.abs B)) (h1 : lget S.slots t1 = some (XV.sv (.ptr i 0 0 0))) (h2 : lget S.slots t2 = some (XV.sv (.ptr j 0 0 0))) : Ent C S (S.paired i j t1 t2 A B) := by
  rintro a w ⟨β, ow, g1, g2, g3, g4, g5⟩
  have hne : i ≠ j := by rw [nbeq] at hij; simpa using hij
  have hin : i < S.nx := by simpa using (g2.mem i _ hi).1
  have hjn : j < S.nx := by simpa using (g2.mem j _ hj).1
  have hon : ∀ k c, ow k = some c → c < S.nx := fun k c h => by simpa using g5 k c h
  let β' := setβ β S.nx ⟨(β i).blk, 0, (β i).cap, false, fun _ => (β j).blk⟩
  let ow' : Nat → Option Nat := fun k => if ow k = some i ∨ ow k = some j then some S.nx else ow k
  have hold : ∀ c, Nat.blt c S.nx = true → β' c = β c := fun c hc => by
    have : c ≠ S.nx := by
        have : c < S.nx := by simpa using hc
        omega
    simp [β', setβ, this]
  have hup : ∀ c, Nat.blt c S.nx = true → Nat.blt c (S.nx + 1) = true := fun c hc => by simp only [Nat.blt_eq] at hc ⊢; omega
  obtain ⟨a1, a2, a3⟩ := g1.mem i _ hi
  obtain ⟨b1, b2, b3⟩ := g1.mem j _ hj
  have hother : ∀ c k, c ≠ i → c ≠ j → c < S.nx → (ow' k = some c ↔ ow k = some c) := by
    intro c k e1 e2 e3
    simp only [ow']
    split
    · rename_i h
      constructor
      · intro e; simp only [Option.some.injEq] at e; omega
      · intro e; rw [e] at h; simp only [Option.some.injEq] at h; rcases h with h | h
        · exact absurd h e1
        · exact absurd h e2
    · exact Iff.rfl
  have hmine : ∀ k, ow' k = some S.nx ↔ (ow k = some i ∨ ow k = some j) := by
    intro k
    simp only [ow']
    split
    · rename_i h; simp [h]
    · rename_i h
      constructor
      · intro e; have := hon k _ e; omega
      · intro e; exact absurd e h
  refine ⟨β', ow', ⟨g1.defers, ?_, fun t X hX => ?_, fun c ch hc => ?_, fun k hk => ?_⟩, ⟨fun t X hX => ?_, fun c ch hc => ?_⟩, ⟨g3.os, g3.tape, g3.output, g3.size, fun k e1 e2 => ?_, fun c hc => by rw [hold c (by simp only [Nat.blt_eq]; omega)]; exact g3.beta c hc⟩, by simp only [St.paired]; omega, fun k c hc => ?_⟩
  · rw [g1.size]; simp [St.paired, lset_length]
  · simp only [St.paired, lget_lset, lset_length] at hX
    by_cases e2 : t = t2
    · subst e2
      rw [if_pos rfl] at hX
      split at hX
      · cases hX
        have := g1.slots t _ h2
        simp only [XV.rel, CV.rel, SV.rel] at this ⊢
        rw [this]
        simp [β', setβ, Loc.addr, b2]
      · cases hX
    · rw [if_neg e2] at hX
      by_cases e1 : t = t1
      · subst e1
        rw [if_pos rfl] at hX
        split at hX
        · cases hX
          have := g1.slots t _ h1
          simp only [XV.rel, CV.rel, SV.rel] at this ⊢
          rw [this]
          simp [β', setβ, Loc.addr, a2]
        · cases hX
      · rw [if_neg e1] at hX
        exact XV.rel_congr hold (g2.slots t X hX) (g1.slots t X hX)
  · simp only [St.paired, Mem.get, nbeq, Mem.get_dels] at hc
    by_cases hcc : S.nx = c
    · subst hcc
      simp only [decide_true, cond_true, Option.some.injEq] at hc
      subst hc
      refine ⟨by simp [β', setβ], by simp [β', setβ], fun k => ow k = some i, fun k => ow k = some j, subs (β i), subs (β j), hmine, fun k e1 e2 => ?_, ?_, ?_⟩
      · simp only at e1 e2
        rw [e1] at e2; cases e2; exact hne rfl
      · have : (β' S.nx).blk = (β i).blk := by simp [β', setβ]
        rw [this]; exact a3
      · have : subs (β' S.nx) 1 = (β j).blk := by simp [β', setβ, subs]
        rw [this]; exact b3
    · simp only [hcc, decide_false, cond_false] at hc
      split at hc
      · cases hc
      · rename_i hni
        simp only [List.mem_cons, List.not_mem_nil, or_false, not_or] at hni
        obtain ⟨k1, k2⟩ := g2.mem c ch hc
        have hlt : c < S.nx := by simpa using k1
        exact Holds.keep k2 hold (hold c k1) (fun _ k => hother c k hni.1 hni.2 hlt) (fun _ k hn => by simp [ow', hn]) (g1.mem c ch hc)
  · simp only [ow'] at hk
    split at hk
    · rename_i h
      rcases h with h | h <;> exact g1.wf k (by simp [h])
    · exact g1.wf k hk
  · simp only [St.paired, lget_lset, lset_length] at hX ⊢
    by_cases e2 : t = t2
    · rw [if_pos e2] at hX
      split at hX
      · cases hX; simp [XV.ok, CV.ok, SV.ok]
      · cases hX
    · rw [if_neg e2] at hX
      by_cases e1 : t = t1
      · rw [if_pos e1] at hX
        split at hX
        · cases hX; simp [XV.ok, CV.ok, SV.ok]
        · cases hX
      · rw [if_neg e1] at hX
        exact XV.ok_mono hup (g2.slots t X hX)
  · simp only [St.paired, Mem.get, nbeq, Mem.get_dels] at hc ⊢
    by_cases hcc : S.nx = c
    · subst hcc
      simp only [decide_true, cond_true, Option.some.injEq] at hc
      subst hc
      exact ⟨by simp, rfl⟩
    · simp only [hcc, decide_false, cond_false] at hc
      split at hc
      · cases hc
      · obtain ⟨k1, k2⟩ := g2.mem c ch hc
        exact ⟨hup c k1, Chunk.ok_mono hup k2⟩
  · obtain ⟨e3, e4⟩ := g3.keep k e1 e2
    exact ⟨e3, by simp [ow', e4]⟩
  · simp only [ow'] at hc
    split at hc
    · simp only [Option.some.injEq] at hc; subst hc; simp [St.paired]
    · exact hup c (g5 k c hc)
def St.nils (S : St) (t e sz : Nat) : St := ⟨lset S.slots t (some (XV.sv (.slc S.nx sz 0 0))), (S.nx, .vec e sz 0 fun _ => []) :: S.mem, S.nx + 1⟩
theorem Ent.nils {C : Ctx} {S : St} {t : Nat} (ht : lget S.slots t = some (XV.val (.slice none 0 0))) (e sz : Nat) : Ent C S (S.nils t e sz) := by
  rintro a w ⟨β, ow, h1, h2, h3, h4, h5⟩
  let β' := setβ β S.nx ⟨0, 0, 0, true, fun _ => 0⟩
  have hold : ∀ i, Nat.blt i S.nx = true → β' i = β i := fun i hi => by
    have : i ≠ S.nx := by
        have : i < S.nx := by simpa using hi
        omega
    simp [β', setβ, this]
  have hup : ∀ c, Nat.blt c S.nx = true → Nat.blt c (S.nx + 1) = true := fun c hc => by simp only [Nat.blt_eq] at hc ⊢; omega
  refine ⟨β', ow, ⟨h1.defers, by rw [h1.size]; simp [St.nils, lset_length], fun t' X hX => ?_, fun c' ch hc' => ?_, h1.wf⟩, ⟨fun t' X hX => ?_, fun c' ch hc' => ?_⟩,
    ⟨h3.os, h3.tape, h3.output, h3.size, h3.keep, fun i hi => by rw [hold i (by simp only [Nat.blt_eq]; omega)]; exact h3.beta i hi⟩, by simp only [St.nils]; omega, h5.mono hup⟩
  · simp only [St.nils, lget_lset] at hX
    by_cases e1 : t' = t
    · subst e1
      rw [if_pos rfl] at hX
      split at hX
      · cases hX
        have := h1.slots t' _ ht
        simp only [XV.rel, CV.rel, SV.rel] at this ⊢
        rw [this]
        simp [β', setβ]
      · cases hX
    · rw [if_neg e1] at hX
      exact XV.rel_congr hold (h2.slots t' X hX) (h1.slots t' X hX)
  · simp only [St.nils, Mem.get, nbeq] at hc'
    by_cases hn : S.nx = c'
    · subst hn
      simp only [decide_true, cond_true, Option.some.injEq] at hc'
      subst hc'
      simp [Holds, β', setβ]
    · simp only [hn, decide_false, cond_false] at hc'
      obtain ⟨k1, k2⟩ := h2.mem c' ch hc'
      exact Holds.keep k2 hold (hold c' k1) (fun _ _ => Iff.rfl) (fun _ _ h => h) (h1.mem c' ch hc')
  · simp only [St.nils, lget_lset] at hX ⊢
    by_cases e1 : t' = t
    · rw [if_pos e1] at hX
      split at hX
      · cases hX; simp [XV.ok, CV.ok, SV.ok]
      · cases hX
    · rw [if_neg e1] at hX
      exact XV.ok_mono hup (h2.slots t' X hX)
  · simp only [St.nils, Mem.get, nbeq] at hc' ⊢
    by_cases hn : S.nx = c'
    · subst hn
      simp only [decide_true, cond_true, Option.some.injEq] at hc'
      subst hc'
      exact ⟨by simp, rfl⟩
    · simp only [hn, decide_false, cond_false] at hc'
      obtain ⟨k1, k2⟩ := h2.mem c' ch hc'
      exact ⟨hup c' k1, Chunk.ok_mono hup k2⟩
theorem spec_reads {P : Program} {T : TyTab} {f : FuncId} {fn : Func} {c : Code} (hT : TabOK P T) (hf : P.funcs[f]? = some fn) (hb : fn.body = some c) (Xl : List CV) (X : XV) (M0 : Mem) (n : Nat)
    (hXl : Xl.all (CV.ok fun i => Nat.blt i n) = true) (hX : X.ok (fun _ => false) = true) (hM0 : ∀ i ch, M0.get i = some ch → i < n ∧ ch.isRo = true)
    (h : ∀ C : Ctx, C.n0 = n → Tri P C c ⟨slots0 fn.ntmps (Xl.map .cv), M0, n⟩ (Ends C T fn.results.toList 0 n ⟨X, [], none⟩)) {M : Mem} {d : Nat} (hM : ∀ i ch, M0.get i = some ch → M.get i = some ch) (hd : n ≤ d) :
    CallSpec P f Xl M d { v := X } (List.range n) := by
  have hi : ∀ i, i < n → ([] ++ List.range n)[i]? = some i := fun i hi => by simp [hi]
  have hren : Xl = Xl.map (CV.ren fun i => (([] ++ List.range n)[i]?).getD d) := by
    have hsv : ∀ s : SV, s.ok (fun i => Nat.blt i n) = true → s.ren (fun i => (([] ++ List.range n)[i]?).getD d) = s := by
      intro s hs
      exact SV.ren_on (fun c hc => by rw [hi c (by simpa using hc)]; rfl) hs
    have hsvs : ∀ l : List SV, l.all (SV.ok fun i => Nat.blt i n) = true → l.map (SV.ren (fun i => (([] ++ List.range n)[i]?).getD d)) = l := by
      intro l
      induction l with
      | nil => intro _; rfl
      | cons s r ih => intro hl; simp only [List.all_cons, Bool.and_eq_true] at hl; rw [List.map_cons, hsv s hl.1, ih hl.2]
    have hcvs : ∀ l : List CV, l.all (CV.ok fun i => Nat.blt i n) = true → l.map (CV.ren (fun i => (([] ++ List.range n)[i]?).getD d)) = l := by
      intro l
      induction l with
      | nil => intro _; rfl
      | cons s r ih =>
        intro hl
        simp only [List.all_cons, Bool.and_eq_true] at hl
        rw [List.map_cons, ih hl.2]
        congr 1
        cases s with
        | one s => simp only [CV.ren]; rw [hsv s hl.1]
        | agg cs => simp only [CV.ren]; rw [hsvs cs hl.1]
    exact (hcvs Xl hXl).symm
  refine spec_of_text (ids := []) (rids := List.range n) (Xl := Xl) (M0 := M0) (out := ⟨X, [], none⟩) (k1 := 0) (n0 := n) hT hf hb (by simp) rfl (by simp) (by simp; omega) hXl (fun i ch hm => ?_) (fun i ch hi => by simp [Mem.get] at hi) (fun i ch hi => by cases hi) (XV.ok_mono (fun _ h => by cases h) hX) h hren (XV.ren_closed hX).symm rfl (fun c ch hc => by simp [Mem.get] at hc)
  obtain ⟨h1, h2⟩ := hM0 i ch hm
  refine ⟨h1, ?_, fun _ => h2, fun ci hci => ?_⟩
  · cases ch <;> first | rfl | cases h2
  · rw [hi i h1] at hci
    cases hci
    exact hM i ch hm
theorem Ends.made {C : Ctx} {T : TyTab} {rs : List ResultVar} {n0 i : Nat} {X : XV} {ch' : Chunk} {S S' : St} {e : Exit} (he : e = .normal ∨ e = .ret) (hE : Ent C S S') (hr : resX T S' rs = some X) (hn : n0 ≤ i) (hm : S'.mem.get i = some ch') :
    Ends C T rs 0 n0 ⟨X, [], some (i, ch')⟩ e S :=
  ⟨he, S', hE, hr, fun i ch h => by simp [Mem.get] at h, fun j ch h => by cases h; exact ⟨hn, hm⟩⟩
open Go.RowKit Go.ChangeShapes Go.WideShapes Go.Deep
inductive Kd where
  | int (k : IntKind)
  | bool
def Kd.fits : Kd → Value → Prop
  | .int k, v => ∃ n, v = .int k n ∧ (Lit.int k n).wf = true
  | .bool, v => ∃ b, v = .bool b
def Fits : List Kd → List Value → Prop
  | [], vs => vs = []
  | k :: ks, vs => ∃ v r, vs = v :: r ∧ k.fits v ∧ Fits ks r
theorem Fits.length : ∀ {ks : List Kd} {vs : List Value}, Fits ks vs → vs.length = ks.length
  | [], _, h => by cases h; rfl
  | _ :: _, _, h => by obtain ⟨v, r, rfl, _, h2⟩ := h; simp [Fits.length h2]
theorem Fits.append : ∀ {a b : List Kd} {x y : List Value}, Fits a x → Fits b y → Fits (a ++ b) (x ++ y)
  | [], _, _, _, h, k => by cases h; exact k
  | _ :: _, _, _, _, h, k => by obtain ⟨v, r, rfl, h1, h2⟩ := h; exact ⟨v, _, rfl, h1, Fits.append h2 k⟩
def kindsF (T : TyTab) (kf : TypeId → Option (List Kd)) : List (TypeId × Nat) → Nat → Option (List Kd)
  | [], _ => some []
  | (t, off) :: r, acc =>
    match T t, kf t with
    | some td, some ks => bif Nat.beq off acc && Nat.beq ks.length td.size then (match kindsF T kf r (acc + ks.length) with | some l => some (ks ++ l) | none => none) else none
    | _, _ => none
def kindsT (T : TyTab) : Nat → TypeId → Option (List Kd)
  | 0, _ => none
  | f + 1, t =>
    match T t with
    | some { desc := .int k, .. } => some [.int k]
    | some { desc := .bool, .. } => some [.bool]
    | some { desc := .struct fs, size, .. } => match kindsF T (kindsT T f) fs 0 with | some l => bif Nat.beq l.length size then some l else none | none => none
    | some { desc := .array n e, size, .. } =>
      match T e, kindsT T f e with
      | some te, some ks => bif Nat.beq ks.length te.size && Nat.beq (n * ks.length) size then some ((List.replicate n ks).flatten) else none
      | _, _ => none
    | _ => none
section
variable {P : Program} {T : TyTab} {H : Type} {enc : TypeId × Value → H} {w : World} {base : Nat} {spare : Nat → Bool} {held : Bool}
theorem cellsOf_T (hT : TabOK P T) {t : TypeId} {td : TyD} (h : T t = some td) : P.cellsOf t = td.size := by
  obtain ⟨i, u, h1, _, h3, _⟩ := info_of hT h
  simp [Program.cellsOf, h1, h3]
theorem kindsF_fits (hT : TabOK P T) {kf : TypeId → Option (List Kd)} {cs : List Value} (hk : ∀ t ks off, kf t = some ks → (∃ n x, DataW.trod enc P w base spare held n t ((cs.drop off).take (P.cellsOf t)) = some x) → Fits ks ((cs.drop off).take (P.cellsOf t))) :
    ∀ (fs : List (TypeId × Nat)) (acc : Nat) (l : List Kd), kindsF T kf fs acc = some l → (∀ f ∈ fs, ∃ n x, DataW.trod enc P w base spare held n f.1 ((cs.drop f.2).take (P.cellsOf f.1)) = some x) → Fits l ((cs.drop acc).take l.length)
  | [], acc, l, h, _ => by simp only [kindsF, Option.some.injEq] at h; subst h; simp [Fits]
  | (t, off) :: r, acc, l, h, hf => by
    simp only [kindsF] at h
    split at h
    · rename_i td ks h1 h2
      cases hb : (Nat.beq off acc && Nat.beq ks.length td.size) with
      | false => simp [hb] at h
      | true =>
        simp only [hb, cond_true] at h
        simp only [Bool.and_eq_true, nbeq, decide_eq_true_eq] at hb
        obtain ⟨rfl, b2⟩ := hb
        split at h
        · rename_i l' h3
          cases h
          have f1 := hk t ks off h2 (hf (t, off) (by simp))
          have f2 := kindsF_fits hT hk r (off + ks.length) l' h3 (fun f hm => hf f (by simp [hm]))
          have hc : P.cellsOf t = ks.length := by rw [cellsOf_T hT h1, b2]
          rw [hc] at f1
          rw [List.length_append, List.take_add, List.drop_drop]
          exact f1.append f2
        · cases h
    · cases h
theorem arr_fits {ks : List Kd} {cs : List Value} : ∀ (n : Nat), (∀ i, i < n → Fits ks ((cs.drop (i * ks.length)).take ks.length)) → Fits ((List.replicate n ks).flatten) (cs.take (n * ks.length))
  | 0, _ => by simp [Fits]
  | n + 1, h => by
    have ih := arr_fits n (fun i hi => h i (by omega))
    have hl := h n (by omega)
    rw [List.replicate_succ', List.flatten_append, Nat.add_mul, Nat.one_mul, List.take_add]
    simp only [List.flatten_cons, List.flatten_nil, List.append_nil]
    exact ih.append hl
theorem trod_fits (hT : TabOK P T) : ∀ (f : Nat) (t : TypeId) (ks : List Kd), kindsT T f t = some ks → ∀ (n : Nat) (cs : List Value) (x : DataW H × List MemPlace), DataW.trod enc P w base spare held n t cs = some x → Fits ks cs
  | 0, _, _, h => by simp [kindsT] at h
  | f + 1, t, ks, h => by
    intro n cs x hx
    simp only [kindsT] at h
    split at h
    · rename_i k h1
      cases h
      have hu := under_int hT h1 rfl
      cases n with
      | zero => simp [DataW.trod] at hx
      | succ n =>
        unfold DataW.trod at hx
        rw [hu] at hx
        split at hx <;> simp_all [Fits, Kd.fits]
    · rename_i h1
      cases h
      obtain ⟨u, hu, hd⟩ := desc_under hT h1
      cases u <;> simp [DescOK] at hd
      cases n with
      | zero => simp [DataW.trod] at hx
      | succ n =>
        unfold DataW.trod at hx
        rw [hu] at hx
        split at hx <;> simp_all [Fits, Kd.fits]
    · rename_i size bytes agg z fs h1
      split at h
      · rename_i l h2
        cases hb : Nat.beq l.length size with
        | false => simp [hb] at h
        | true =>
          simp only [hb, cond_true, Option.some.injEq] at h
          subst h
          obtain ⟨fl, hu, hfl⟩ := under_struct hT h1 rfl
          obtain ⟨xs, n', _, _, hlen, hxl, hfield⟩ := DataW.trod_struct hu hx
          have hsz : cs.length = l.length := by rw [hlen, cellsOf_T hT h1]; exact (Nat.eq_of_beq_eq_true hb).symm
          have key := kindsF_fits (enc := enc) (w := w) (base := base) (spare := spare) (held := held) (cs := cs) hT (kf := kindsT T f) (fun t' ks' off hk ⟨m, y, hy⟩ => trod_fits hT f t' ks' hk m _ y hy) fs 0 l h2 (fun p hp => by
            rw [← hfl] at hp
            obtain ⟨fd, hm, rfl⟩ := List.mem_map.1 hp
            obtain ⟨i, hi⟩ := List.getElem?_of_mem hm
            have hi' : fl[i]? = some fd := by simpa using hi
            have hil : i < fl.size := (Array.getElem?_eq_some_iff.1 hi').1
            have := hfield i fd hi'
            rw [List.getElem?_eq_getElem (by omega)] at this
            exact ⟨n', _, this⟩)
          rw [List.drop_zero, ← hsz, List.take_length] at key
          exact key
      · cases h
    · rename_i size bytes agg z m e h1
      split at h
      · rename_i te ks' h2 h3
        cases hb : (Nat.beq ks'.length te.size && Nat.beq (m * ks'.length) size) with
        | false => simp [hb] at h
        | true =>
          simp only [hb, cond_true, Option.some.injEq] at h
          subst h
          simp only [Bool.and_eq_true, nbeq, decide_eq_true_eq] at hb
          obtain ⟨b1, b2⟩ := hb
          have hu := under_array hT h1 rfl
          obtain ⟨xs, n', _, _, hlen, hxl, hel⟩ := DataW.trod_array hu hx
          have hc : P.cellsOf e = ks'.length := by rw [cellsOf_T hT h2, b1]
          have hsz : cs.length = m * ks'.length := by rw [hlen, cellsOf_T hT h1, b2]
          have key := arr_fits (ks := ks') (cs := cs) m (fun i hi => by
            have := hel i hi
            rw [List.getElem?_eq_getElem (by omega), hc] at this
            exact trod_fits hT f e ks' h3 n' _ _ this)
          rw [← hsz, List.take_length] at key
          exact key
      · cases h
    · cases h
end
def RowIn (W : World) (v : Value) (sz : Nat) (n : Nat) (f : Nat → List Value) : Prop :=
  ∃ L : Loc, (∀ β : Nat → Loc, ∀ c, β c = L → (SV.slc c sz 0 n).rel β v) ∧ (if L.nil = true then n = 0 else L.blk < W.heap.size ∧ ∀ i, i < n → (f i).length = sz ∧ ∀ j u, (f i)[j]? = some u → W.cell? (L.addr (i * sz + j)) = some u)
section
variable {P : Program} {T : TyTab} {H : Type} {enc : TypeId × Value → H} {W : World}
theorem below_all (hl : laidOutB P = true) {W W' : World} (hb : Below W.heap.size W W') : ∀ {ts : List TypeId} {vs : List Value} {ds : List (DataW H)} {p : List MemPlace}, (ts.all fun t => P.readableRec t && decide (t < P.types.size)) = true →
    DataW.TrodAll enc P W 0 (fun _ => true) true ts vs ds p → (∀ x ∈ p, x.block < W.heap.size) → DataW.TrodAll enc P W' 0 (fun b => decide (b < W.heap.size)) true ts vs ds p
  | [], _, _, _, _, h, _ => by
    obtain ⟨rfl, rfl, rfl⟩ := trodAll_nil h
    exact rfl
  | t :: ts, _, _, _, ht, h, hlt => by
    obtain ⟨v, vs1, d, ds1, a, b, rfl, rfl, rfl, h1, h2⟩ := trodAll_cons h
    simp only [List.all_cons, Bool.and_eq_true, decide_eq_true_eq] at ht
    exact ⟨a, b, Below.trod hl ht.1.1 ht.1.2 h1 hb (fun x hx => hlt x (by simp [hx])), below_all hl hb (by simpa using ht.2) h2 (fun x hx => hlt x (by simp [hx])), rfl⟩
theorem post_true {f : Func} {s : ChangeSpec} {apart fresh handsOn : Bool} {W W' : World} {args : Array Value} {v : Value} {ds gs : List (DataW H)} {before : List MemPlace} (hl : laidOutB P = true) (hW : DataW.Whole enc P f.params.toList s.vars apart W args.toList ds gs before) (hv : s.vars = [])
    (hty : (f.params.toList.all fun t => P.readableRec t && decide (t < P.types.size)) = true) (hb : Below W.heap.size W W') (hs : (s.fn H (ds ++ gs)).args = ds) (hsv : (s.fn H (ds ++ gs)).vars = [])
    (hres : ∀ (b : Nat) (sp : Nat → Bool), DataW.TrodAll enc P W' b sp handsOn f.resultTypes.toList (v.resultList f.resultTypes.size) (s.fn H (ds ++ gs)).results []) : s.post enc P f apart fresh handsOn false W args v W' := by
  have hlt := hW.lt
  have hW' := hW
  obtain ⟨p, q, hA, hV, rfl, _, _⟩ := hW
  rw [hv] at hV
  refine ⟨ds, gs, p ++ q, [], p, [], hW', hres _ _, ?_, ?_, hb.frame _, fun h => by cases h⟩
  · rw [hs]
    exact below_all hl hb hty hA (fun x hx => hlt x (by simp [hx]))
  · rw [hv, hsv]
    exact rfl
end
open Go.RowKit
def joinF (f : Nat → List Value) (m : Nat) (g : Nat → List Value) : Nat → List Value := fun i => bif Nat.blt i m then f i else g (i - m)
theorem nblt (i m : Nat) : Nat.blt i m = decide (i < m) := by
  by_cases h : i < m
  · rw [decide_eq_true h]; simpa using h
  · rw [decide_eq_false h]
    cases hb : Nat.blt i m with
    | false => rfl
    | true => exact absurd (by simpa using hb) h
theorem vec_of2 {f g : Nat → List Value} {sz m k : Nat} {rest : List Value} (hf : ∀ i, i < m → (f i).length = sz) (hg : ∀ i, i < k → (g i).length = sz) {arr : Array Value} (ha : arr.toList = flat f m ++ flat g k ++ rest) :
    ∀ i, i < m + k → (joinF f m g i).length = sz ∧ ∀ j v, (joinF f m g i)[j]? = some v → arr[i * sz + j]? = some v := by
  have hl := flat_length hf
  have hl2 := flat_length hg
  intro i hi
  simp only [joinF, nblt]
  by_cases him : i < m
  · simp only [him, decide_true, cond_true]
    refine ⟨hf i him, fun j v hv => ?_⟩
    have hj : j < sz := by rw [← hf i him]; exact (List.getElem?_eq_some_iff.1 hv).1
    have hg' := flat_get hf him hj
    rw [hv] at hg'
    have hlt := (List.getElem?_eq_some_iff.1 hg').1
    rw [← Array.getElem?_toList, ha, List.append_assoc, List.getElem?_append_left hlt]
    exact hg'
  · simp only [him, decide_false, cond_false]
    have hik : i - m < k := by omega
    refine ⟨hg _ hik, fun j v hv => ?_⟩
    have hj : j < sz := by rw [← hg _ hik]; exact (List.getElem?_eq_some_iff.1 hv).1
    have hg' := flat_get hg hik hj
    rw [hv] at hg'
    have hlt := (List.getElem?_eq_some_iff.1 hg').1
    have hidx : i * sz + j = m * sz + ((i - m) * sz + j) := by
      have : i = m + (i - m) := by omega
      rw [this, Nat.add_mul]
      simp only [Nat.add_sub_cancel_left]
      omega
    rw [← Array.getElem?_toList, ha, List.append_assoc, hidx, List.getElem?_append_right (by omega), hl]
    have e2 : m * sz + ((i - m) * sz + j) - m * sz = (i - m) * sz + j := by omega
    rw [e2, List.getElem?_append_left hlt]
    exact hg'
theorem run_append_zero {P : Program} (w : World) (t ty e : TypeId) (i : TypeInfo) (ht : P.underlying t = some (.slice e)) (hi : P.info? e = some i) (b : Option Addr) (m cap : Nat) (xb : Option Addr) (xc : Nat) (hm : m ≤ cap) :
    (Builtin.append_ #[t, t] ty #[.slice b m cap, .slice xb 0 xc]).run P w = .ok (.slice b m cap) w := by
  cases b <;> cases xb <;> simp [Builtin.append_, run_underlying ht, sizeOf, typeInfo, hi, Builtin.lenOf, Builtin.firstCells, loadCells, loadCellsFrom, storeCells, hm]
section
variable {P : Program} {T : TyTab}
def OldRow (β : Nat → Loc) (ow : Nat → Option Nat) (w : World) (c : Option Nat) (v0 : Value) (e sz m : Nat) (f : Nat → List Value) : Prop :=
  (v0 = .slice none 0 0 ∧ m = 0 ∧ c = none) ∨ ∃ c0, c = some c0 ∧ (((β c0).nil = true ∧ v0 = .slice none 0 0 ∧ m = 0) ∨
    ((β c0).nil = false ∧ ∃ a0, v0 = .slice (some a0) m (β c0).cap ∧ (0 < (β c0).cap → a0 = ⟨(β c0).blk, 0, none⟩) ∧ (β c0).base = 0 ∧ ow (β c0).blk = some c0 ∧ m ≤ (β c0).cap ∧ (β c0).cap ≤ maxLen ∧
      ∃ arr : Array Value, w.heap[(β c0).blk]? = some (.cells arr e (0, 0)) ∧ arr.size = (β c0).cap * sz ∧ ∀ i, i < m → (f i).length = sz ∧ ∀ j v, (f i)[j]? = some v → arr[i * sz + j]? = some v))
def NewRow (w : World) (xv : Value) (k : Nat) (news : List Value) : Prop := ∃ xb xc, xv = .slice xb k xc ∧ (0 < k → ∃ ax, xb = some ax ∧ ∀ j v, news[j]? = some v → w.cell? (ax.add j) = some v)
theorem append_core (hT : TabOK P T) {t e : TypeId} {tds tde : TyD} (htd : T t = some tds) (hds : tds.desc = .slice e) (hte : T e = some tde) (hzl : tde.zero.length = tde.size) {β : Nat → Loc} {ow : Nat → Option Nat} {w : World} {d : Nat} {c : Option Nat} {v0 xv : Value} {m k : Nat} {f g : Nat → List Value} (ty : TypeId)
    (hw : WF ow w) (hcd : c ≠ some d) (hold : OldRow β ow w c v0 e tde.size m f) (hfl : ∀ i, i < m → (f i).length = tde.size) (hgl : ∀ i, i < k → (g i).length = tde.size) (hnew : NewRow w xv k (flat g k)) (h1 : ∀ u ∈ flat g k, u.oneCell' = true)
    (h63 : m + k ≤ maxLen) (hbytes : (m + k) * tde.bytes ≤ 140737488355328) :
    ∃ v' w' β' ow', (Builtin.append_ #[t, t] ty #[v0, xv]).run P w = .ok v' w' ∧ Eff β ow w β' ow' w' c.toList d ∧ (SV.slc d tde.size 0 (m + k)).rel β' v' ∧ Holds β' ow' w' d (.vec e tde.size (m + k) (joinF f m g)) := by
  obtain ⟨ie, ue, g1, _, g3, g4, _, _, ⟨z, g5, g6⟩, _⟩ := info_of hT hte
  have hu := under_slice hT htd hds
  have hzs : z.cells.size = tde.size := by rw [← hzl, ← g6]; simp
  have hnl : (flat g k).length = k * tde.size := flat_length hgl
  have hfll : (flat f m).length = m * tde.size := flat_length hfl
  obtain ⟨xb, xc, rfl, hx⟩ := hnew
  let own : Nat → Option Nat := fun q => if ∃ c0, c = some c0 ∧ ow q = some c0 then none else ow q
  -- a new block
  have grown : ∀ (old : Nat), (Builtin.append_ #[t, t] ty #[v0, .slice xb k xc]).run P w =
      .ok (.slice (some ⟨w.heap.size, 0, none⟩) (m + k) (grownCap w (m + k) old e)) (w.drew.alloc (.cells ((flat f m).toArray ++ (flat g k).toArray ++ Builtin.zeroCells z.cells (grownCap w (m + k) old e - (m + k))) e)) →
      ∃ v' w' β' ow', (Builtin.append_ #[t, t] ty #[v0, .slice xb k xc]).run P w = .ok v' w' ∧ Eff β ow w β' ow' w' c.toList d ∧ (SV.slc d tde.size 0 (m + k)).rel β' v' ∧ Holds β' ow' w' d (.vec e tde.size (m + k) (joinF f m g)) := by
    intro old hrun
    have hge := grownCap_ge w (m + k) old e
    have hcm := grownCap_le_maxLen w (m + k) old e h63
    let l : Loc := ⟨w.heap.size, 0, grownCap w (m + k) old e, false, fun _ => 0⟩
    refine ⟨_, _, setβ β d l, setow own w.heap.size (some d), hrun, ?_, ?_, ?_⟩
    · refine ⟨fun i hi => by simp [setβ, hi], rfl, rfl, rfl, by simp, fun q hq hn => ⟨Below.heap_alloc w.drew _ q hq, ?_⟩, fun q hq i hi => ?_, fun q hq => ?_⟩
      · have : ¬ ∃ c0, c = some c0 ∧ ow q = some c0 := by
          rintro ⟨c0, rfl, h2⟩
          exact hn c0 (by simp) h2
        simp only [setow, Nat.ne_of_lt hq, if_false, own, if_neg this]
      · by_cases hks : q = w.heap.size
        · simp only [setow, hks, if_true, Option.some.injEq] at hi; exact .inr hi.symm
        · simp only [setow, if_neg hks, own] at hi
          split at hi
          · cases hi
          · rename_i hnc
            rcases hq with hq | ⟨c0, h0, h2⟩
            · have := hw q (by simp [hi]); omega
            · exact absurd ⟨c0, by simpa using h0, h2⟩ hnc
      · by_cases hks : q = w.heap.size
        · rw [hks]; simp
        · simp only [setow, if_neg hks, own] at hq
          split at hq
          · exact absurd rfl hq
          · have := hw q hq; simp; omega
    · simp only [SV.rel, setβ, if_true, l, Bool.false_eq_true, if_false]
      exact ⟨_, by rw [Nat.sub_zero], by omega, fun _ => by simp [Loc.addr]⟩
    · simp only [Holds, setβ, if_true, l, Bool.false_eq_true, if_false]
      refine ⟨trivial, by simp [setow], hge, hcm, _, heap_alloc_new w.drew _, ?_, ?_⟩
      · simp only [Array.size_append, List.size_toArray, size_zeroCells, hzs, hfll, hnl]
        rw [← Nat.add_mul, ← Nat.add_mul]
        congr 1
        omega
      · exact vec_of2 hfl hgl (rest := (Builtin.zeroCells z.cells (grownCap w (m + k) old e - (m + k))).toList) (by simp only [Array.toList_append])
  -- the same value, in other hands
  have hEff : ∀ (l : Loc) (w' : World), (∀ q, q < w.heap.size → (∀ c0 ∈ c.toList, ow q ≠ some c0) → w'.heap[q]? = w.heap[q]?) → w'.os = w.os → w'.tape = w.tape → w'.output = w.output → w.heap.size ≤ w'.heap.size →
      Eff β ow w (setβ β d l) (fun q => if ∃ c0, c = some c0 ∧ ow q = some c0 then some d else ow q) w' c.toList d := by
    intro l w' h2 h3 h4 h5 h6
    refine ⟨fun i hi => by simp [setβ, hi], h3, h4, h5, h6, fun q hq hn => ⟨h2 q hq hn, ?_⟩, fun q hq i hi => ?_, fun q hq => ?_⟩
    · have : ¬ ∃ c0, c = some c0 ∧ ow q = some c0 := by
        rintro ⟨c0, rfl, h7⟩
        exact hn c0 (by simp) h7
      simp only [if_neg this]
    · split at hi
      · cases hi; exact .inr rfl
      · rename_i hnc
        rcases hq with hq | ⟨c0, h0, h2⟩
        · have := hw q (by simp [hi]); omega
        · exact absurd ⟨c0, by simpa using h0, h2⟩ hnc
    · split at hq
      · rename_i hc
        obtain ⟨c0, _, h2⟩ := hc
        exact Nat.lt_of_lt_of_le (hw q (by simp [h2])) h6
      · exact Nat.lt_of_lt_of_le (hw q hq) h6
  have nilcase : v0 = .slice none 0 0 → m = 0 → ∃ v' w' β' ow', (Builtin.append_ #[t, t] ty #[v0, .slice xb k xc]).run P w = .ok v' w' ∧ Eff β ow w β' ow' w' c.toList d ∧ (SV.slc d tde.size 0 (m + k)).rel β' v' ∧ Holds β' ow' w' d (.vec e tde.size (m + k) (joinF f m g)) := by
    rintro rfl rfl
    rcases Nat.eq_zero_or_pos k with hk | hk
    · subst hk
      refine ⟨_, _, _, _, run_append_zero w t ty e ie hu g1 none 0 0 xb xc (Nat.le_refl _), hEff ⟨0, 0, 0, true, fun _ => 0⟩ w (fun _ _ _ => rfl) rfl rfl rfl (Nat.le_refl _), ?_, ?_⟩
      · simp [SV.rel, setβ]
      · simp [Holds, setβ]
    · obtain ⟨ax, rfl, hcell⟩ := hx hk
      refine grown 0 ?_
      have := run_append_nil (P := P) w t ty e ie z hu g1 g5 ax k xc (flat g k) (by rw [g3]; exact hnl) hcell hk (by simp only [maxLen] at h63; omega) (by rw [g4]; simp only [Nat.zero_add] at hbytes; omega)
      simpa [flat] using this
  rcases hold with ⟨e1, e2, _⟩ | ⟨c0, hc0, ⟨_, e1, e2⟩ | ⟨hnil, a0, rfl, ha0, v1, v2, v3, v4, arr, v5, v6, v7⟩⟩
  · exact nilcase e1 e2
  · exact nilcase e1 e2
  · subst hc0
    have hcne : c0 ≠ d := fun e => hcd (by rw [e])
    have htake : arr.toList.take (m * tde.size) = flat f m := by
      apply List.ext_getElem?
      intro q
      rw [List.getElem?_take]
      by_cases hq : q < m * tde.size
      · rw [if_pos hq]
        have hpos : 0 < tde.size := by
          rcases Nat.eq_zero_or_pos tde.size with h | h
          · rw [h] at hq; omega
          · exact h
        have hqd : q / tde.size < m := Nat.div_lt_of_lt_mul (by rw [Nat.mul_comm]; exact hq)
        have hqm := Nat.mod_lt q hpos
        have hqe : q / tde.size * tde.size + q % tde.size = q := by rw [Nat.mul_comm]; exact Nat.div_add_mod q tde.size
        have hg' := flat_get hfl hqd hqm
        rw [hqe] at hg'
        rw [hg']
        have hlt : q % tde.size < (f (q / tde.size)).length := by rw [hfl _ hqd]; exact hqm
        rw [List.getElem?_eq_getElem hlt]
        have := (v7 (q / tde.size) (by omega)).2 (q % tde.size) _ (List.getElem?_eq_getElem hlt)
        rw [hqe] at this
        simpa using this
      · rw [if_neg hq, List.getElem?_eq_none (by omega)]
    have harr : arr.toList = flat f m ++ flat g 0 ++ arr.toList.drop (m * tde.size) := by rw [← htake]; simp [flat]
    rcases Nat.eq_zero_or_pos k with hk | hk
    · subst hk
      refine ⟨_, _, _, _, run_append_zero w t ty e ie hu g1 (some a0) m (β c0).cap xb xc v3, hEff ⟨(β c0).blk, 0, (β c0).cap, false, fun _ => 0⟩ w (fun _ _ _ => rfl) rfl rfl rfl (Nat.le_refl _), ?_, ?_⟩
      · simp only [SV.rel, setβ, if_true, Bool.false_eq_true, if_false]
        exact ⟨a0, by rw [Nat.sub_zero]; rfl, by omega, fun h => by rw [ha0 h]; simp [Loc.addr]⟩
      · simp only [Holds, setβ, if_true, Bool.false_eq_true, if_false]
        exact ⟨trivial, by simp [v2], v3, v4, arr, v5, v6, vec_of2 hfl hgl harr⟩
    · obtain ⟨ax, rfl, hcell⟩ := hx hk
      by_cases hroom : m + k ≤ (β c0).cap
      · have ha := ha0 (by omega)
        subst ha
        have hle : (m + k) * tde.size ≤ (β c0).cap * tde.size := Nat.mul_le_mul_right _ hroom
        rw [Nat.add_mul] at hle
        have hrun := run_append_room (P := P) w t ty e ie hu g1 (β c0).blk m (β c0).cap arr v5 ax k xc (flat g k) (by rw [g3]; exact hnl) hcell h1 hroom (by rw [g3, hnl, v6]; exact hle)
        rw [g3] at hrun
        refine ⟨_, _, _, _, hrun, hEff ⟨(β c0).blk, 0, (β c0).cap, false, fun _ => 0⟩ _ (fun q hq hn => setRow_other w _ q _ (fun e => hn c0 (by simp) (by rw [e]; exact v2))) rfl rfl rfl (by simp), ?_, ?_⟩
        · simp only [SV.rel, setβ, if_true, Bool.false_eq_true, if_false]
          exact ⟨_, by rw [Nat.sub_zero], by omega, fun _ => by simp [Loc.addr]⟩
        · simp only [Holds, setβ, if_true, Bool.false_eq_true, if_false]
          refine ⟨trivial, by simp [v2], hroom, v4, _, setRow_heap w _ arr _ e _ v5, ?_, ?_⟩
          · simp only [List.size_toArray, List.length_append, List.length_take, List.length_drop, Array.length_toList]
            omega
          · exact vec_of2 hfl hgl (rest := arr.toList.drop (m * tde.size + (flat g k).length)) (by simp only [htake])
      · refine grown (β c0).cap ?_
        have holds : ∀ j v, (flat f m)[j]? = some v → w.cell? (a0.add j) = some v := by
          intro j v hj
          have hjl := (List.getElem?_eq_some_iff.1 hj).1
          have hpos : 0 < tde.size := by
            rcases Nat.eq_zero_or_pos tde.size with h | h
            · rw [hfll, h] at hjl; omega
            · exact h
          have hm0 : 0 < m := by
            rcases Nat.eq_zero_or_pos m with h | h
            · rw [hfll, h] at hjl; omega
            · exact h
          have ha := ha0 (by omega)
          rw [← htake, List.getElem?_take] at hj
          split at hj
          · rw [ha, Addr.add_lit, cell_of_row w _ _ arr e _ v5, Nat.zero_add]
            simpa using hj
          · cases hj
        exact run_append_grow (P := P) w t ty e ie z hu g1 g5 a0 m (β c0).cap (flat f m) (by rw [g3]; exact hfll) holds ax k xc (flat g k) (by rw [g3]; exact hnl) hcell (by omega) (by simp only [maxLen] at h63; omega) (growslice_fits (by omega) (by rw [g4]; exact hbytes))
variable {S : St} {d : Nat} {o : Oper}
end
open Go.RowKit
open Go.RowKit
structure EqK (P : Program) (t : TypeId) {K : Type} [DecidableEq K] (kx : K → Value) : Prop where
  agg : ∀ a, ∃ cs, kx a = .agg cs
  noGuard : P.eqGuardType P.depth t = false
  eq : ∀ (w : World) (a b : K), (Op.equal t (kx a) (kx b)).run P w = .ok (decide (a = b)) w
theorem EqK.of {P : Program} {t : TypeId} {K : Type} [DecidableEq K] {kx : K → Value} {m : Nat} (L : WideMaps.KeyLaw P t) (hm : m ≤ 10000) (hk : P.keyTypeAt m t = true) (hwide : (match P.underlying t with | some (.array _ _) | some (.struct _) => true | _ => false) = true)
    (hkey : ∀ a, ∃ l, keyOf P t (kx a) = some l) (hi : ∀ a b, kx a = kx b → a = b) (hg : P.eqGuardType P.depth t = false) (ha : ∀ a, ∃ cs, kx a = .agg cs) : EqK P t kx where
  agg := ha
  noGuard := hg
  eq w a b := by
    obtain ⟨la, h1⟩ := hkey a
    obtain ⟨lb, h2⟩ := hkey b
    obtain ⟨r, h3, h4⟩ := run_equal_deep w hm hk hwide h1 h2
    rw [h3]
    congr 1
    by_cases e : a = b
    · subst e
      rw [h1] at h2
      cases h2
      simp [h4.2 rfl]
    · have : la ≠ lb := fun e' => e (hi _ _ (L.inj h1 (e' ▸ h2)))
      have hr : r ≠ true := fun h => this (h4.1 h)
      simp [e, hr]
section
variable {P : Program} {S : St} {d : Nat} {o : Oper} {K : Type} [DecidableEq K] {kx : K → Value} {t : TypeId}
theorem Fits.split : ∀ {a b : List Kd} {vs : List Value}, Fits (a ++ b) vs → Fits a (vs.take a.length) ∧ Fits b (vs.drop a.length)
  | [], _, _, h => ⟨by simp [Fits], h⟩
  | _ :: _, _, _, h => by
    obtain ⟨v, r, rfl, h1, h2⟩ := h
    obtain ⟨h3, h4⟩ := Fits.split h2
    exact ⟨⟨v, _, rfl, h1, h3⟩, h4⟩
end
end Go.Sx
