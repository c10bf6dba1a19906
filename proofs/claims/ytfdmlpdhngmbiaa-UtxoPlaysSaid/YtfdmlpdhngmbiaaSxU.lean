/- Symbolic states for walks, part U: two objects as one piece, for a function that makes two. -/
import Derived.Test.YtfdmlpdhngmbiaaSxT
namespace Go.Sx
open Go.RowKit

/-- Two objects; the second one lies where the first one's 'sub 0' says. -/
def PairP (A B : AbsP) : AbsP where
  Φ w b s O := ∃ O1 O2 s1 s2, (∀ k, O k ↔ O1 k ∨ O2 k) ∧ (∀ k, O1 k → ¬ O2 k) ∧ A.Φ w b s1 O1 ∧ B.Φ w (s 1) s2 O2
  loc := by
    rintro w w' b s O O' hk hO ⟨O1, O2, s1, s2, h1, h2, h3, h4⟩
    exact ⟨O1, O2, s1, s2, fun k => (hO k).trans (h1 k), h2, A.loc (fun k h => hk k ((h1 k).2 (.inl h))) (fun _ => Iff.rfl) h3, B.loc (fun k h => hk k ((h1 k).2 (.inr h))) (fun _ => Iff.rfl) h4⟩
  in_heap := by
    rintro w b s O ⟨O1, O2, s1, s2, h1, h2, h3, h4⟩ k hk
    rcases (h1 k).1 hk with h | h
    · exact A.in_heap h3 k h
    · exact B.in_heap h4 k h

def St.paired (S : St) (i j t1 t2 : Nat) (A B : AbsP) : St := ⟨lset (lset S.slots t1 (some (XV.sv (.ptr S.nx 0 0 0)))) t2 (some (XV.sv (.inn S.nx 0))), (S.nx, .abs (PairP A B)) :: S.mem.dels [i, j], S.nx + 1⟩

theorem Ent.pair {C : Ctx} {S : St} {i j t1 t2 : Nat} {A B : AbsP} (hij : Nat.beq i j = false) (hi : S.mem.get i = some (.abs A)) (hj : S.mem.get j = some (.abs B)) (h1 : lget S.slots t1 = some (XV.sv (.ptr i 0 0 0))) (h2 : lget S.slots t2 = some (XV.sv (.ptr j 0 0 0))) : Ent C S (S.paired i j t1 t2 A B) := by
  rintro a w ⟨β, ow, g1, g2, g3, g4, g5⟩
  have hne : i ≠ j := by rw [nbeq] at hij; simpa using hij
  have hin : i < S.nx := by simpa using (g2.mem i _ hi).1
  have hjn : j < S.nx := by simpa using (g2.mem j _ hj).1
  have hon : ∀ k c, ow k = some c → c < S.nx := fun k c h => by simpa using g5 k c h
  let β' := setβ β S.nx ⟨(β i).blk, 0, (β i).cap, false, fun _ => (β j).blk⟩
  let ow' : Nat → Option Nat := fun k => if ow k = some i ∨ ow k = some j then some S.nx else ow k
  have hold : ∀ c, Nat.blt c S.nx = true → β' c = β c := fun c hc => by
    have : c ≠ S.nx := by have : c < S.nx := by simpa using hc
                          omega
    simp [β', setβ, this]
  have hup : ∀ c, Nat.blt c S.nx = true → Nat.blt c (S.nx + 1) = true := fun c hc => by simp only [Nat.blt_eq] at hc ⊢; omega
  obtain ⟨a1, a2, a3⟩ := g1.mem i _ hi
  obtain ⟨b1, b2, b3⟩ := g1.mem j _ hj
  have hother : ∀ c k, c ≠ i → c ≠ j → c < S.nx → (ow' k = some c ↔ ow k = some c) := by
    intro c k e1 e2 e3
    simp only [ow']
    split
    · rename_i h
      constructor
      · intro e; simp only [Option.some.injEq] at e; omega
      · intro e; rw [e] at h; simp only [Option.some.injEq] at h; rcases h with h | h
        · exact absurd h e1
        · exact absurd h e2
    · exact Iff.rfl
  have hmine : ∀ k, ow' k = some S.nx ↔ (ow k = some i ∨ ow k = some j) := by
    intro k
    simp only [ow']
    split
    · rename_i h; simp [h]
    · rename_i h
      constructor
      · intro e; have := hon k _ e; omega
      · intro e; exact absurd e h
  refine ⟨β', ow', ⟨g1.defers, ?_, fun t X hX => ?_, fun c ch hc => ?_, fun k hk => ?_⟩, ⟨fun t X hX => ?_, fun c ch hc => ?_⟩, ⟨g3.os, g3.tape, g3.output, g3.size, fun k e1 e2 => ?_, fun c hc => by rw [hold c (by simp only [Nat.blt_eq]; omega)]; exact g3.beta c hc⟩, by simp only [St.paired]; omega, fun k c hc => ?_⟩
  · rw [g1.size]; simp [St.paired, lset_length]
  · simp only [St.paired, lget_lset, lset_length] at hX
    by_cases e2 : t = t2
    · subst e2
      rw [if_pos rfl] at hX
      split at hX
      · cases hX
        have := g1.slots t _ h2
        simp only [XV.rel, CV.rel, SV.rel] at this ⊢
        rw [this]
        simp [β', setβ, Loc.addr, b2]
      · cases hX
    · rw [if_neg e2] at hX
      by_cases e1 : t = t1
      · subst e1
        rw [if_pos rfl] at hX
        split at hX
        · cases hX
          have := g1.slots t _ h1
          simp only [XV.rel, CV.rel, SV.rel] at this ⊢
          rw [this]
          simp [β', setβ, Loc.addr, a2]
        · cases hX
      · rw [if_neg e1] at hX
        exact XV.rel_congr hold (g2.slots t X hX) (g1.slots t X hX)
  · simp only [St.paired, Mem.get, nbeq, Mem.get_dels] at hc
    by_cases hcc : S.nx = c
    · subst hcc
      simp only [decide_true, cond_true, Option.some.injEq] at hc
      subst hc
      refine ⟨by simp [β', setβ], by simp [β', setβ], fun k => ow k = some i, fun k => ow k = some j, subs (β i), subs (β j), hmine, fun k e1 e2 => ?_, ?_, ?_⟩
      · simp only at e1 e2
        rw [e1] at e2; cases e2; exact hne rfl
      · have : (β' S.nx).blk = (β i).blk := by simp [β', setβ]
        rw [this]; exact a3
      · have : subs (β' S.nx) 1 = (β j).blk := by simp [β', setβ, subs]
        rw [this]; exact b3
    · simp only [hcc, decide_false, cond_false] at hc
      split at hc
      · cases hc
      · rename_i hni
        simp only [List.mem_cons, List.not_mem_nil, or_false, not_or] at hni
        obtain ⟨k1, k2⟩ := g2.mem c ch hc
        have hlt : c < S.nx := by simpa using k1
        exact Holds.keep k2 hold (hold c k1) (fun _ k => hother c k hni.1 hni.2 hlt) (fun _ k hn => by simp [ow', hn]) (g1.mem c ch hc)
  · simp only [ow'] at hk
    split at hk
    · rename_i h
      rcases h with h | h <;> exact g1.wf k (by simp [h])
    · exact g1.wf k hk
  · simp only [St.paired, lget_lset, lset_length] at hX ⊢
    by_cases e2 : t = t2
    · rw [if_pos e2] at hX
      split at hX
      · cases hX; simp [XV.ok, CV.ok, SV.ok]
      · cases hX
    · rw [if_neg e2] at hX
      by_cases e1 : t = t1
      · rw [if_pos e1] at hX
        split at hX
        · cases hX; simp [XV.ok, CV.ok, SV.ok]
        · cases hX
      · rw [if_neg e1] at hX
        exact XV.ok_mono hup (g2.slots t X hX)
  · simp only [St.paired, Mem.get, nbeq, Mem.get_dels] at hc ⊢
    by_cases hcc : S.nx = c
    · subst hcc
      simp only [decide_true, cond_true, Option.some.injEq] at hc
      subst hc
      exact ⟨by simp, rfl⟩
    · simp only [hcc, decide_false, cond_false] at hc
      split at hc
      · cases hc
      · obtain ⟨k1, k2⟩ := g2.mem c ch hc
        exact ⟨hup c k1, Chunk.ok_mono hup k2⟩
  · obtain ⟨e3, e4⟩ := g3.keep k e1 e2
    exact ⟨e3, by simp [ow', e4]⟩
  · simp only [ow'] at hc
    split at hc
    · simp only [Option.some.injEq] at hc; subst hc; simp [St.paired]
    · exact hup c (g5 k c hc)

def St.unpaired (S : St) (c t1 t2 : Nat) (A B : AbsP) : St := ⟨lset (lset S.slots t1 (some (XV.sv (.ptr S.nx 0 0 0)))) t2 (some (XV.sv (.ptr (S.nx + 1) 0 0 0))), (S.nx, .abs A) :: (S.nx + 1, .abs B) :: S.mem.del c, S.nx + 2⟩

theorem Ent.unpair {C : Ctx} {S : St} {c t1 t2 : Nat} {A B : AbsP} (hc : S.mem.get c = some (.abs (PairP A B))) (h1 : lget S.slots t1 = some (XV.sv (.ptr c 0 0 0))) (h2 : lget S.slots t2 = some (XV.sv (.inn c 0))) : Ent C S (S.unpaired c t1 t2 A B) := by
  rintro a w ⟨β, ow, g1, g2, g3, g4, g5⟩
  have hcn : c < S.nx := by simpa using (g2.mem c _ hc).1
  have hon : ∀ k c, ow k = some c → c < S.nx := fun k c h => by simpa using g5 k c h
  obtain ⟨p1, p2, O1, O2, s1, s2, p3, p4, p5, p6⟩ := g1.mem c _ hc
  have hp : ∃ P : Nat → Bool, ∀ k, P k = true ↔ O2 k :=
    ⟨fun k => @decide (O2 k) (Classical.propDecidable _), fun k => @decide_eq_true_iff (O2 k) (Classical.propDecidable _)⟩
  obtain ⟨D, hD⟩ := hp
  let β' := setβ (setβ β S.nx ⟨(β c).blk, 0, s1 0, false, fun j => s1 (j + 1)⟩) (S.nx + 1) ⟨(β c).sub 0, 0, s2 0, false, fun j => s2 (j + 1)⟩
  let ow' : Nat → Option Nat := fun k => if ow k = some c then (if D k = true then some (S.nx + 1) else some S.nx) else ow k
  have hold : ∀ c, Nat.blt c S.nx = true → β' c = β c := fun c hc => by
    have : c < S.nx := by simpa using hc
    have e1 : c ≠ S.nx := by omega
    have e2 : c ≠ S.nx + 1 := by omega
    simp [β', setβ, e1, e2]
  have hb0 : β' S.nx = ⟨(β c).blk, 0, s1 0, false, fun j => s1 (j + 1)⟩ := by simp [β', setβ]
  have hb1 : β' (S.nx + 1) = ⟨(β c).sub 0, 0, s2 0, false, fun j => s2 (j + 1)⟩ := by simp [β', setβ]
  have hup : ∀ c, Nat.blt c S.nx = true → Nat.blt c (S.nx + 2) = true := fun c hc => by simp only [Nat.blt_eq] at hc ⊢; omega
  have hother : ∀ c' k, c' ≠ c → c' < S.nx → (ow' k = some c' ↔ ow k = some c') := by
    intro c' k e1 e3
    simp only [ow']
    split
    · rename_i h
      constructor
      · intro e; split at e <;> simp only [Option.some.injEq] at e <;> omega
      · intro e; rw [e] at h; simp only [Option.some.injEq] at h; exact absurd h e1
    · exact Iff.rfl
  have hO1 : ∀ k, ow' k = some S.nx ↔ O1 k := by
    intro k
    simp only [ow']
    split
    · rename_i h
      have h' := (p3 k).1 h
      split
      · rename_i hd
        have hd' := (hD k).1 hd
        constructor
        · intro e; simp only [Option.some.injEq] at e; omega
        · intro e; exact absurd hd' (p4 k e)
      · rename_i hd
        have hd' : ¬ O2 k := fun e => hd ((hD k).2 e)
        exact ⟨fun _ => h'.resolve_right hd', fun _ => rfl⟩
    · rename_i h
      constructor
      · intro e; have := hon k _ e; omega
      · intro e; exact absurd ((p3 k).2 (.inl e)) h
  have hO2 : ∀ k, ow' k = some (S.nx + 1) ↔ O2 k := by
    intro k
    simp only [ow']
    split
    · rename_i h
      split
      · rename_i hd
        exact ⟨fun _ => (hD k).1 hd, fun _ => rfl⟩
      · rename_i hd
        constructor
        · intro e; simp only [Option.some.injEq] at e; omega
        · intro e; exact absurd ((hD k).2 e) hd
    · rename_i h
      constructor
      · intro e; have := hon k _ e; omega
      · intro e; exact absurd ((p3 k).2 (.inr e)) h
  refine ⟨β', ow', ⟨g1.defers, ?_, fun t X hX => ?_, fun c' ch hc' => ?_, fun k hk => ?_⟩, ⟨fun t X hX => ?_, fun c' ch hc' => ?_⟩, ⟨g3.os, g3.tape, g3.output, g3.size, fun k e1 e2 => ?_, fun c hc => by rw [hold c (by simp only [Nat.blt_eq]; omega)]; exact g3.beta c hc⟩, by simp only [St.unpaired]; omega, fun k c' hc' => ?_⟩
  · rw [g1.size]; simp [St.unpaired, lset_length]
  · simp only [St.unpaired, lget_lset, lset_length] at hX
    by_cases e2 : t = t2
    · subst e2
      rw [if_pos rfl] at hX
      split at hX
      · cases hX
        have := g1.slots t _ h2
        simp only [XV.rel, CV.rel, SV.rel] at this ⊢
        rw [this, hb1]
        simp [Loc.addr]
      · cases hX
    · rw [if_neg e2] at hX
      by_cases e1 : t = t1
      · subst e1
        rw [if_pos rfl] at hX
        split at hX
        · cases hX
          have := g1.slots t _ h1
          simp only [XV.rel, CV.rel, SV.rel] at this ⊢
          rw [this, hb0]
          simp [Loc.addr, p2]
        · cases hX
      · rw [if_neg e1] at hX
        exact XV.rel_congr hold (g2.slots t X hX) (g1.slots t X hX)
  · simp only [St.unpaired, Mem.get, nbeq, Mem.get_del] at hc'
    by_cases hcc : S.nx = c'
    · subst hcc
      simp only [decide_true, cond_true, Option.some.injEq] at hc'
      subst hc'
      refine ⟨by rw [hb0], by rw [hb0], ?_⟩
      rw [hb0, subs_of]
      exact A.loc (fun _ _ => rfl) hO1 p5
    · simp only [hcc, decide_false, cond_false] at hc'
      by_cases hcd : S.nx + 1 = c'
      · subst hcd
        simp only [decide_true, cond_true, Option.some.injEq] at hc'
        subst hc'
        refine ⟨by rw [hb1], by rw [hb1], ?_⟩
        rw [hb1, subs_of]
        exact B.loc (fun _ _ => rfl) hO2 p6
      · simp only [hcd, decide_false, cond_false] at hc'
        split at hc'
        · cases hc'
        · rename_i hni
          obtain ⟨k1, k2⟩ := g2.mem c' ch hc'
          have hlt : c' < S.nx := by simpa using k1
          exact Holds.keep k2 hold (hold c' k1) (fun _ k => hother c' k hni hlt) (fun _ k hn => by simp [ow', hn]) (g1.mem c' ch hc')
  · simp only [ow'] at hk
    split at hk
    · rename_i h
      exact g1.wf k (by simp [h])
    · exact g1.wf k hk
  · simp only [St.unpaired, lget_lset, lset_length] at hX ⊢
    by_cases e2 : t = t2
    · rw [if_pos e2] at hX
      split at hX
      · cases hX; simp [XV.ok, CV.ok, SV.ok]
      · cases hX
    · rw [if_neg e2] at hX
      by_cases e1 : t = t1
      · rw [if_pos e1] at hX
        split at hX
        · cases hX; simp [XV.ok, CV.ok, SV.ok]
        · cases hX
      · rw [if_neg e1] at hX
        exact XV.ok_mono hup (g2.slots t X hX)
  · simp only [St.unpaired, Mem.get, nbeq, Mem.get_del] at hc' ⊢
    by_cases hcc : S.nx = c'
    · subst hcc
      simp only [decide_true, cond_true, Option.some.injEq] at hc'
      subst hc'
      exact ⟨by simp, rfl⟩
    · simp only [hcc, decide_false, cond_false] at hc'
      by_cases hcd : S.nx + 1 = c'
      · subst hcd
        simp only [decide_true, cond_true, Option.some.injEq] at hc'
        subst hc'
        exact ⟨by simp, rfl⟩
      · simp only [hcd, decide_false, cond_false] at hc'
        split at hc'
        · cases hc'
        · obtain ⟨k1, k2⟩ := g2.mem c' ch hc'
          exact ⟨hup c' k1, Chunk.ok_mono hup k2⟩
  · obtain ⟨e3, e4⟩ := g3.keep k e1 e2
    exact ⟨e3, by simp [ow', e4]⟩
  · simp only [ow'] at hc'
    split at hc'
    · split at hc' <;> simp only [Option.some.injEq] at hc' <;> subst hc' <;> simp [St.unpaired]
    · exact hup c' (g5 k c' hc')

/-- A nil slice in a slot is a row of no elements. -/
def St.nils (S : St) (t e sz : Nat) : St := ⟨lset S.slots t (some (XV.sv (.slc S.nx sz 0 0))), (S.nx, .vec e sz 0 fun _ => []) :: S.mem, S.nx + 1⟩

theorem Ent.nils {C : Ctx} {S : St} {t : Nat} (ht : lget S.slots t = some (XV.val (.slice none 0 0))) (e sz : Nat) : Ent C S (S.nils t e sz) := by
  rintro a w ⟨β, ow, h1, h2, h3, h4, h5⟩
  let β' := setβ β S.nx ⟨0, 0, 0, true, fun _ => 0⟩
  have hold : ∀ i, Nat.blt i S.nx = true → β' i = β i := fun i hi => by
    have : i ≠ S.nx := by have : i < S.nx := by simpa using hi
                          omega
    simp [β', setβ, this]
  have hup : ∀ c, Nat.blt c S.nx = true → Nat.blt c (S.nx + 1) = true := fun c hc => by simp only [Nat.blt_eq] at hc ⊢; omega
  refine ⟨β', ow, ⟨h1.defers, by rw [h1.size]; simp [St.nils, lset_length], fun t' X hX => ?_, fun c' ch hc' => ?_, h1.wf⟩, ⟨fun t' X hX => ?_, fun c' ch hc' => ?_⟩,
    ⟨h3.os, h3.tape, h3.output, h3.size, h3.keep, fun i hi => by rw [hold i (by simp only [Nat.blt_eq]; omega)]; exact h3.beta i hi⟩, by simp only [St.nils]; omega, h5.mono hup⟩
  · simp only [St.nils, lget_lset] at hX
    by_cases e1 : t' = t
    · subst e1
      rw [if_pos rfl] at hX
      split at hX
      · cases hX
        have := h1.slots t' _ ht
        simp only [XV.rel, CV.rel, SV.rel] at this ⊢
        rw [this]
        simp [β', setβ]
      · cases hX
    · rw [if_neg e1] at hX
      exact XV.rel_congr hold (h2.slots t' X hX) (h1.slots t' X hX)
  · simp only [St.nils, Mem.get, nbeq] at hc'
    by_cases hn : S.nx = c'
    · subst hn
      simp only [decide_true, cond_true, Option.some.injEq] at hc'
      subst hc'
      simp [Holds, β', setβ]
    · simp only [hn, decide_false, cond_false] at hc'
      obtain ⟨k1, k2⟩ := h2.mem c' ch hc'
      exact Holds.keep k2 hold (hold c' k1) (fun _ _ => Iff.rfl) (fun _ _ h => h) (h1.mem c' ch hc')
  · simp only [St.nils, lget_lset] at hX ⊢
    by_cases e1 : t' = t
    · rw [if_pos e1] at hX
      split at hX
      · cases hX; simp [XV.ok, CV.ok, SV.ok]
      · cases hX
    · rw [if_neg e1] at hX
      exact XV.ok_mono hup (h2.slots t' X hX)
  · simp only [St.nils, Mem.get, nbeq] at hc' ⊢
    by_cases hn : S.nx = c'
    · subst hn
      simp only [decide_true, cond_true, Option.some.injEq] at hc'
      subst hc'
      exact ⟨by simp, rfl⟩
    · simp only [hn, decide_false, cond_false] at hc'
      obtain ⟨k1, k2⟩ := h2.mem c' ch hc'
      exact ⟨hup c' k1, Chunk.ok_mono hup k2⟩

/-- A function that reads pieces, turns none and makes none. -/
theorem spec_reads {P : Program} {T : TyTab} {f : FuncId} {fn : Func} {c : Code} (hT : TabOK P T) (hf : P.funcs[f]? = some fn) (hb : fn.body = some c) (Xl : List CV) (X : XV) (M0 : Mem) (n : Nat)
    (hXl : Xl.all (CV.ok fun i => Nat.blt i n) = true) (hX : X.ok (fun _ => false) = true) (hM0 : ∀ i ch, M0.get i = some ch → i < n ∧ ch.isRo = true)
    (h : ∀ C : Ctx, C.n0 = n → Tri P C c ⟨slots0 fn.ntmps (Xl.map .cv), M0, n⟩ (Ends C T fn.results.toList 0 n ⟨X, [], none⟩)) {M : Mem} {d : Nat} (hM : ∀ i ch, M0.get i = some ch → M.get i = some ch) (hd : n ≤ d) :
    CallSpec P f Xl M d { v := X } (List.range n) := by
  have hi : ∀ i, i < n → ([] ++ List.range n)[i]? = some i := fun i hi => by simp [hi]
  have hren : Xl = Xl.map (CV.ren fun i => (([] ++ List.range n)[i]?).getD d) := by
    have hsv : ∀ s : SV, s.ok (fun i => Nat.blt i n) = true → s.ren (fun i => (([] ++ List.range n)[i]?).getD d) = s := by
      intro s hs
      cases s <;> simp only [SV.ok, Nat.blt_eq] at hs <;> simp only [SV.ren] <;> rw [hi _ hs] <;> rfl
    have hsvs : ∀ l : List SV, l.all (SV.ok fun i => Nat.blt i n) = true → l.map (SV.ren (fun i => (([] ++ List.range n)[i]?).getD d)) = l := by
      intro l
      induction l with
      | nil => intro _; rfl
      | cons s r ih => intro hl; simp only [List.all_cons, Bool.and_eq_true] at hl; rw [List.map_cons, hsv s hl.1, ih hl.2]
    have hcvs : ∀ l : List CV, l.all (CV.ok fun i => Nat.blt i n) = true → l.map (CV.ren (fun i => (([] ++ List.range n)[i]?).getD d)) = l := by
      intro l
      induction l with
      | nil => intro _; rfl
      | cons s r ih =>
        intro hl
        simp only [List.all_cons, Bool.and_eq_true] at hl
        rw [List.map_cons, ih hl.2]
        congr 1
        cases s with
        | one s => simp only [CV.ren]; rw [hsv s hl.1]
        | agg cs => simp only [CV.ren]; rw [hsvs cs hl.1]
    exact (hcvs Xl hXl).symm
  refine spec_of_text (ids := []) (rids := List.range n) (Xl := Xl) (M0 := M0) (out := ⟨X, [], none⟩) (k1 := 0) (n0 := n) hT hf hb (by simp) rfl (by simp) (by simp; omega) hXl (fun i ch hm => ?_) (fun i ch hi => by simp [Mem.get] at hi) (fun i ch hi => by cases hi) (XV.ok_mono (fun _ h => by cases h) hX) h hren (XV.ren_closed hX).symm rfl (fun c ch hc => by simp [Mem.get] at hc)
  obtain ⟨h1, h2⟩ := hM0 i ch hm
  refine ⟨h1, ?_, fun _ => h2, fun ci hci => ?_⟩
  · cases ch <;> first | rfl | cases h2
  · rw [hi i h1] at hci
    cases hci
    exact hM i ch hm

/-- A function of plain values that makes one piece, to which its result leads. -/
theorem spec_made {P : Program} {T : TyTab} {f : FuncId} {fn : Func} {c : Code} (hT : TabOK P T) (hf : P.funcs[f]? = some fn) (hb : fn.body = some c) {ch' : Chunk} (hcl : ch'.closed = true) (hro : ch'.isRo = false) (Xl : List CV)
    (hXl : Xl.all (CV.ok fun _ => false) = true) {M : Mem} {d : Nat} (i : Nat) (X : XV) (hX : X.ok (fun j => Nat.beq i j) = true)
    (h : ∀ C : Ctx, C.n0 = 0 → Tri P C c ⟨slots0 fn.ntmps (Xl.map .cv), [], 0⟩ (Ends C T fn.results.toList 0 0 ⟨X, [], some (i, ch')⟩)) :
    CallSpec P f Xl M d { v := X.ren fun _ => d, upd := [(d, ch')] } [] := by
  have hren : X.ren (fun _ => d) = X.ren (renOut ([] ++ []) d (some (i, ch'))) := by
    have : (fun _ : Nat => d) = renOut ([] ++ []) d (some (i, ch')) := by
      funext c
      simp [renOut]
    rw [this]
  refine spec_of_text (ids := []) (rids := []) (Xl := Xl) (M0 := []) (out := ⟨X, [], some (i, ch')⟩) (k1 := 0) (n0 := 0) hT hf hb (by simp) rfl rfl (by simp) ?_ (fun i ch hi => by simp [Mem.get] at hi) (fun i ch hi => by simp [Mem.get] at hi) (fun j ch hj => ?_) ?_ h (CVs.ren_closed hXl).symm hren rfl (fun c ch hc => ?_)
  · simp only [List.all_eq_true] at hXl ⊢
    exact fun s hs => CV.ok_mono (fun _ h => by cases h) (hXl s hs)
  · cases hj; exact ⟨hcl, hro⟩
  · exact XV.ok_mono (fun j hj => by simp only [Bool.or_eq_true]; exact .inr hj) hX
  · simp only [Mem.get, nbeq] at hc
    by_cases hk : d = c
    · simp only [hk, decide_true, cond_true, Option.some.injEq] at hc
      exact .inr ⟨hk.symm, i, by rw [hc]⟩
    · simp [hk] at hc

/-- .. at its end. -/
theorem Ends.made {C : Ctx} {T : TyTab} {rs : List ResultVar} {n0 i : Nat} {X : XV} {ch' : Chunk} {S S' : St} {e : Exit} (he : e = .normal ∨ e = .ret) (hE : Ent C S S') (hr : resX T S' rs = some X) (hn : n0 ≤ i) (hm : S'.mem.get i = some ch') :
    Ends C T rs 0 n0 ⟨X, [], some (i, ch')⟩ e S :=
  ⟨he, S', hE, hr, fun i ch h => by simp [Mem.get] at h, fun j ch h => by cases h; exact ⟨hn, hm⟩⟩
end Go.Sx
