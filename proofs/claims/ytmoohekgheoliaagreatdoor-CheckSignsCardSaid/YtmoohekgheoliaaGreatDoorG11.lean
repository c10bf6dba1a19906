/- Parts SxZf SxZg SxZh Tab Money Ua. -/
import Derived.Test.YtmoohekgheoliaaGreatDoorG10
import Derived.Test.YtmoohekgheoliaaGreatDoorG09
import Derived.Test.YtmoohekgheoliaaGreatDoorG06
import Derived.Test.YtmoohekgheoliaaGreatDoorG03
import Derived.Test.YtmoohekgheoliaaGreatDoorG04
import Derived.Lib.SmallJoins
import Derived.Lib.LaidTab
import Derived.Test.YtmoohekgheoliaaGreatDoorRows
set_option linter.unusedSimpArgs false
set_option linter.unusedVariables false
namespace Go.Sx
open Go.RowKit
theorem Tri.mono {P : Program} {C : Ctx} {c : Code} {S : St} {Q Q' : Exit → St → Prop} (h : Tri P C c S Q) (hq : ∀ e S, Q e S → Q' e S) : Tri P C c S Q' := by
  intro a w hs
  refine Code.wp_mono (fun e a' w' h => ?_) (h a w hs)
  obtain ⟨S', h1, h2⟩ := h
  exact ⟨S', h1, hq e S' h2⟩
theorem Tri.merge {P : Program} {C : Ctx} {x y : Code} {S : St} {Q : Exit → St → Prop} (S' : St) (hx : Tri P C x S (fun e S1 => e = .normal ∧ Ent C S1 S')) (hy : Tri P C y S' Q) : Tri P C (.seq x y) S Q := by
  refine Tri.seq (Tri.mono hx fun e S1 h => ?_)
  obtain ⟨rfl, h⟩ := h
  exact cutG (Tri.ent h hy)
theorem Ent.shut2 {C : Ctx} {S : St} {i0 i1 : Nat} {M : Mem} {inv : Prop} {a0 a1 b0 b1 : Chunk} (hids : Nat.beq i0 i1 = false) (hinv : inv) (hM : memB 2 M = true) (g0 : M.get 0 = some a0) (g1 : M.get 1 = some a1)
    (k0 : S.mem.get i0 = some b0) (k1 : S.mem.get i1 = some b1) (hc : b0.isCells = true) (l0 : ChLe b0 (a0.ren fun j => (([i0, i1] : List Nat)[j]?).getD 0)) (l1 : ChLe b1 (a1.ren fun j => (([i0, i1] : List Nat)[j]?).getD 0)) : Ent C S (S.shut i0 [i0, i1] M inv) := by
  refine Ent.shut ?_ rfl hinv ⟨b0, k0, hc⟩ hM (fun j i hj => ?_)
  · rw [nbeq, decide_eq_false_iff_not] at hids
    simp [hids]
  · match j with
    | 0 => simp at hj; subst hj; exact ⟨a0, b0, g0, k0, l0⟩
    | 1 => simp at hj; subst hj; exact ⟨a1, b1, g1, k1, l1⟩
    | j + 2 => simp at hj
theorem Ends.shutN {C : Ctx} {T : TyTab} {rs : List ResultVar} {n0 : Nat} {X v : XV} {S S' : St} {e : Exit} {ch : Chunk} (he : e = .normal ∨ e = .ret) (hE : Ent C S S') (hm : S'.mem.get 0 = some ch) (hr : resX T S' rs = some v) (hv : v = X) :
    Ends C T rs 1 n0 ⟨X, [(0, ch)], none⟩ e S := by
  refine ⟨he, _, hE, by rw [hr, hv], fun i ch' h => ?_, fun i ch h => by cases h⟩
  simp only [Mem.get, nbeq] at h
  by_cases hk : 0 = i
  · subst hk
    simp only [decide_true, cond_true, Option.some.injEq] at h
    exact ⟨by omega, by rw [← h]; exact hm⟩
  · simp [hk] at h
theorem Does.at1 {P : Program} {f : FuncId} {a b : Chunk} {l : List AD} {es : List ExtP} {X : XV} {fr : Option Chunk} (h : Does P f [(a, b)] l es X fr) {Xs : List CV} {M : Mem} {c d : Nat} (rd : List Nat) (hc : M.get c = some a) (hcd : Nat.beq c d = false) (hrd : nmem c rd = false) (ha : LendsL M rd Xs l) (he : LendsX M rd es) :
    CallSpec P f (.one (.ptr c 0 0 0) :: Xs) M d { v := X.ren fun _ => d, upd := (c, b) :: frM d fr, wr := [c] } (c :: rd) := by
  rw [nbeq, decide_eq_false_iff_not] at hcd
  refine h.at [c] rd rfl (by simp [hcd]) (by simp [hrd]) (fun i c' x h1 h2 => ?_) ha he
  match i with
  | 0 =>
    simp only [List.getElem?_cons_zero, Option.some.injEq] at h1 h2
    subst h1 h2; exact hc
  | i + 1 => simp at h1
theorem Ends.does {C : Ctx} {T : TyTab} {rs : List ResultVar} {n0 i : Nat} {X : XV} {ch ch' : Chunk} {S S' : St} {e : Exit} (he : e = .normal ∨ e = .ret) (hE : Ent C S S') (hr : resX T S' rs = some X) (hm : S'.mem.get 0 = some ch) (hn : n0 ≤ i) (hm' : S'.mem.get i = some ch') :
    Ends C T rs 1 n0 ⟨X, [(0, ch)], some (i, ch')⟩ e S := by
  refine ⟨he, _, hE, hr, fun j c h => ?_, fun j c h => ?_⟩
  · simp only [Mem.get, nbeq] at h
    by_cases hk : 0 = j
    · subst hk
      simp only [decide_true, cond_true, Option.some.injEq] at h
      exact ⟨by omega, by rw [← h]; exact hm⟩
    · simp [hk] at h
  · simp only [Option.some.injEq, Prod.mk.injEq] at h
    obtain ⟨rfl, rfl⟩ := h
    exact ⟨hn, hm'⟩
theorem Tri.freeze {P : Program} {C : Ctx} {cd : Code} {S : St} {Q : Exit → St → Prop} (t : Nat) {c e sz n m : Nat} {f : Nat → List Value} (ht : lget S.slots t = some (XV.sv (.slc c sz 0 n))) (hm : S.mem.get c = some (.vec e sz m f)) (hnm : n ≤ m)
    (h : ∀ (ad : Option Addr) (cp : Nat), Tri P C cd ⟨lset S.slots t (some (XV.val (.slice ad n cp))), (S.nx, .ext (PartsAt sz 1 (fun _ => n) (fun _ => f) (fun _ => ad))) :: S.mem.del c, S.nx + 1⟩ Q) : Tri P C cd S Q := by
  intro a w hs
  obtain ⟨β, ow, g1, g2, g3, g4, g5⟩ := hs
  have hv := g1.slots t _ ht
  have hh := g1.mem c _ hm
  simp only [XV.rel, CV.rel, SV.rel] at hv
  simp only [Holds] at hh
  let ow' : Nat → Option Nat := fun k => if ow k = some c then none else ow k
  have hother : ∀ c' k, c' ≠ c → (ow' k = some c' ↔ ow k = some c') := by
    intro c' k e1
    simp only [ow']
    split
    · rename_i h2
      rw [h2]
      simp only [Option.some.injEq]
      exact ⟨(fun e => by cases e), (fun e => absurd e.symm e1)⟩
    · exact Iff.rfl
  have hex : ∃ (ad : Option Addr) (cp : Nat), a.tmps.getD t undef = .slice ad n cp ∧ ∃ O : Nat → Prop, (∀ k, O k → ow' k = none ∧ k < w.heap.size) ∧ (PartsAt sz 1 (fun _ => n) (fun _ => f) (fun _ => ad)).Ψ w (β S.nx) O := by
    by_cases hn : (β c).nil = true
    · rw [if_pos hn] at hv
      refine ⟨none, 0, by rw [hv.1, hv.2.2], fun _ => False, fun _ h => h.elim, fun i _ h0 => ?_⟩
      have h0 : 0 < n := h0
      omega
    · rw [if_neg hn] at hv hh
      obtain ⟨ad, e1, e2, e3⟩ := hv
      obtain ⟨v1, v2, v3, v4, arr, v5, v6, v7⟩ := hh
      refine ⟨some ad, (β c).cap - 0, e1, fun k => k = (β c).blk, fun k hk => ?_, fun i _ h0 => ?_⟩
      · subst hk
        exact ⟨by simp [ow', v2], (Array.getElem?_eq_some_iff.1 v5).1⟩
      · have h0 : 0 < n := h0
        have ha := e3 (by omega)
        refine ⟨ad, rfl, by rw [ha]; rfl, fun k hk => ?_⟩
        have hk : k < n := hk
        obtain ⟨q1, q2⟩ := v7 k (by omega)
        refine ⟨q1, fun j v hj => ?_⟩
        rw [ha, loc_add]
        simp only [Loc.addr, v1, Nat.zero_add, Nat.zero_mul]
        rw [cell_of_row w _ _ arr e _ v5]
        exact q2 j v hj
  obtain ⟨ad, cp, m1, O, m2, m3⟩ := hex
  have hlt := lget_some_lt ht
  have up : ∀ i, Nat.blt i S.nx = true → Nat.blt i (S.nx + 1) = true := fun i hi => by simp only [Nat.blt_eq] at hi ⊢; omega
  refine h ad cp a w ⟨β, ow', ⟨g1.defers, by simp [lset_length, g1.size], fun t' X' h' => ?_, fun c' ch hc' => ?_, fun k hk => ?_⟩, ⟨fun t' X' h' => ?_, fun c' ch hc' => ?_⟩, ⟨g3.os, g3.tape, g3.output, g3.size, fun k e1 e2 => ?_, g3.beta⟩, Nat.le_succ_of_le g4, fun k c' hk => ?_⟩
  · simp only [lget_lset] at h'
    by_cases htt : t' = t
    · subst htt; simp only [if_true, hlt] at h'; cases h'; exact m1
    · simp only [htt, if_false] at h'; exact g1.slots t' X' h'
  · simp only [Mem.get, nbeq] at hc'
    by_cases hcn' : S.nx = c'
    · simp only [hcn', decide_true, cond_true, Option.some.injEq] at hc'
      subst hc'
      exact ⟨O, m2, m3⟩
    · simp only [hcn', decide_false, cond_false, Mem.get_del] at hc'
      split at hc'
      · cases hc'
      · rename_i hne
        exact Holds.keep (g2.mem c' ch hc').2 (fun _ _ => rfl) rfl (fun _ k => hother c' k hne) (fun _ k hn => by simp [ow', hn]) (g1.mem c' ch hc')
  · simp only [ow'] at hk
    split at hk
    · exact absurd rfl hk
    · exact g1.wf k hk
  · simp only [lget_lset] at h'
    by_cases htt : t' = t
    · subst htt; simp only [if_true, hlt] at h'; cases h'; rfl
    · simp only [htt, if_false] at h'; exact XV.ok_mono up (g2.slots t' X' h')
  · simp only [Mem.get, nbeq] at hc'
    by_cases hcn' : S.nx = c'
    · simp only [hcn', decide_true, cond_true, Option.some.injEq] at hc'
      subst hc'
      exact ⟨by simp only [Nat.blt_eq]; omega, rfl⟩
    · simp only [hcn', decide_false, cond_false, Mem.get_del] at hc'
      split at hc'
      · cases hc'
      · obtain ⟨n1, n2⟩ := g2.mem c' ch hc'
        exact ⟨up _ n1, Chunk.ok_mono up n2⟩
  · obtain ⟨e3, e4⟩ := g3.keep k e1 e2
    exact ⟨e3, by simp [ow', e4]⟩
  · simp only [ow'] at hk
    split at hk
    · cases hk
    · exact up _ (g5 k c' hk)
section
variable {M : Mem} {rd : List Nat}
def PartIn (M : Mem) (rd : List Nat) (sz : Nat) (cell : List Value) (k : Nat) (f : Nat → List Value) : Prop :=
  ∃ q n ln g ad i cp, M.get q = some (.ext (PartsAt sz n ln g ad)) ∧ nmem q rd = true ∧ i < n ∧ cell = [.slice (ad i) (ln i) cp] ∧ ln i = k ∧ g i = f
theorem lend_rows_vec {c e sz n : Nat} {F : Nat → List Value} {ln : Nat → Nat} {g : Nat → Nat → List Value} (hm : M.get c = some (.vec e 1 n F)) (hrd : nmem c rd = true) (h : ∀ i, i < n → PartIn M rd sz (F i) (ln i) (g i)) : Lends M rd (.one (.slc c 1 0 n)) (.rows sz n ln g) := by
  refine Lends.rows ?_
  intro β ow w v hw hv hr
  have hh := hr c ((nmem_iff c rd).1 hrd) _ hm
  refine ⟨β c, by simpa [CV.rel, SV.rel] using hv, fun k => k < w.heap.size ∧ Free rd ow k, fun k hk => hk, ?_⟩
  simp only [Holds] at hh
  simp only [RowsP]
  by_cases hn : (β c).nil = true
  · rw [if_pos hn] at hh ⊢; exact hh
  · rw [if_neg hn] at hh ⊢
    obtain ⟨v1, v2, v3, v4, arr, v5, v6, v7⟩ := hh
    refine ⟨⟨(Array.getElem?_eq_some_iff.1 v5).1, .inr ⟨c, (nmem_iff c rd).1 hrd, v2⟩⟩, fun i hi => ?_⟩
    obtain ⟨q, n', ln', g', ad, i', cp, m1, m2, m3, m4, m5, m6⟩ := h i hi
    obtain ⟨O, k1, k2⟩ := hr q ((nmem_iff q rd).1 m2) _ m1
    obtain ⟨_, e2⟩ := v7 i hi
    have e3 := e2 0 (.slice (ad i') (ln' i') cp) (by rw [m4]; rfl)
    refine ⟨ad i', cp, ?_, fun h0 => ?_⟩
    · simp only [Loc.addr, v1, Nat.zero_add]
      rw [cell_of_row w _ _ arr e _ v5]
      simp only [Nat.mul_one, Nat.add_zero] at e3
      rw [e3, m5]
    · rw [← m5] at h0 ⊢
      rw [← m6]
      obtain ⟨a, b1, b2, b3⟩ := k2 i' m3 h0
      exact ⟨a, b1, ⟨(k1 _ b2).2, .inl (k1 _ b2).1⟩, b3⟩
theorem lend_rows_nil (sz : Nat) (ln : Nat → Nat) (g : Nat → Nat → List Value) : Lends M rd (.one (.raw (.slice none 0 0))) (.rows sz 0 ln g) := by
  refine Lends.rows ?_
  intro β ow w v _ h _
  simp only [CV.rel, SV.rel] at h
  subst h
  exact ⟨⟨0, 0, 0, true, fun _ => 0⟩, by simp [SV.rel], fun _ => False, fun _ h => h.elim, by simp [RowsP]⟩
end
end Go.Sx
namespace Go.Sx
open Go.RowKit
def St.packed2 (S : St) (ids : List Nat) (l : List Chunk) : St := ⟨mapO (packX ids l S.nx) S.slots, (S.nx, .abs (PackP l)) :: mapM (packS ids l S.nx) (S.mem.dels ids), S.nx + 1⟩
theorem Ent.pack2 {C : Ctx} {S : St} (ids : List Nat) (l : List Chunk) (hnd : ids.Nodup) (hlen : ids.length = l.length) (hl : (l.all fun ch => ch.closed && !ch.isRo) = true) (hm : ∀ (j i : Nat) (ch : Chunk), ids[j]? = some i → l[j]? = some ch → ∃ ch0, S.mem.get i = some ch0 ∧ ChLe ch0 ch) : Ent C S (S.packed2 ids l) := by
  rintro a w ⟨β, ow, g1, g2, g3, g4, g5⟩
  have hon : ∀ k c, ow k = some c → c < S.nx := fun k c h => by simpa using g5 k c h
  have hl' : ∀ (j : Nat) (ch : Chunk), l[j]? = some ch → ch.isRo = false ∧ ch.closed = true := fun j ch hj => by
    have := List.all_eq_true.1 hl ch (List.mem_of_getElem? hj)
    simp only [Bool.and_eq_true, Bool.not_eq_true'] at this
    exact ⟨this.2, this.1⟩
  have hH : ∀ (j i : Nat) (ch : Chunk), ids[j]? = some i → l[j]? = some ch → i < S.nx ∧ Holds β ow w i ch := fun j i ch hi hj => by
    obtain ⟨ch0, h1, h2⟩ := hm j i ch hi hj
    exact ⟨by simpa using (g2.mem i _ h1).1, h2.holds (g1.mem i _ h1)⟩
  have hids : ∀ i ∈ ids, ∃ j ch, ids[j]? = some i ∧ l[j]? = some ch := fun i hi => by
    obtain ⟨j, hj⟩ := List.getElem?_of_mem hi
    have := (List.getElem?_eq_some_iff.1 hj).1
    exact ⟨j, l[j]'(by omega), hj, List.getElem?_eq_getElem (by omega)⟩
  have hbase : ∀ i ∈ ids, (β i).nil = true ∨ (β i).base = 0 := fun i hi => by
    obtain ⟨j, ch, h1, h2⟩ := hids i hi
    have h3 := (hH j i ch h1 h2).2
    obtain ⟨k1, k2⟩ := hl' j ch h2
    cases ch with
    | cells e cs => exact .inr h3.2.1
    | vec e sz n f =>
      simp only [Holds] at h3
      by_cases hn : (β i).nil = true
      · exact .inl hn
      · rw [if_neg hn] at h3; exact .inr h3.1
    | abs A => exact .inr h3.2.1
    | ro _ _ _ => cases k1
    | ext _ => cases k1
  have hinx : ∀ i ∈ ids, i < S.nx := fun i hi => by
    obtain ⟨j, ch, h1, h2⟩ := hids i hi
    exact (hH j i ch h1 h2).1
  let L : Nat → Loc := fun j => β (ids.getD j 0)
  have hL : ∀ (j i : Nat), ids[j]? = some i → L j = β i := fun j i h => by simp [L, List.getD_eq_getElem?_getD, h]
  let β' := setβ β S.nx (Loc.mk 0 0 0 false (subEnc ids.length L))
  let ow' : Nat → Option Nat := fun k => match ow k with | some c => if c ∈ ids then some S.nx else some c | none => none
  have hold : ∀ c, Nat.blt c S.nx = true → β' c = β c := fun c hc => by
    have : c ≠ S.nx := by have : c < S.nx := by simpa using hc
                          omega
    simp [β', setβ, this]
  have hnew : β' S.nx = Loc.mk 0 0 0 false (subEnc ids.length L) := by simp [β', setβ]
  have hup : ∀ c, Nat.blt c S.nx = true → Nat.blt c (S.nx + 1) = true := fun c hc => by simp only [Nat.blt_eq] at hc ⊢; omega
  have hother : ∀ c k, c ∉ ids → c < S.nx → (ow' k = some c ↔ ow k = some c) := by
    intro c k e1 e2
    simp only [ow']
    cases hk : ow k with
    | none => simp
    | some c0 =>
      simp only
      by_cases h : c0 ∈ ids
      · rw [if_pos h]
        simp only [Option.some.injEq]
        exact ⟨fun e => by omega, fun e => absurd (e ▸ h) e1⟩
      · rw [if_neg h]
  have hmine : ∀ k, ow' k = some S.nx ↔ ∃ i ∈ ids, ow k = some i := by
    intro k
    simp only [ow']
    cases hk : ow k with
    | none => simp
    | some c0 =>
      simp only
      by_cases h : c0 ∈ ids
      · rw [if_pos h]; simp [h]
      · rw [if_neg h]
        simp only [Option.some.injEq]
        constructor
        · intro e; have := hon k _ hk; omega
        · rintro ⟨i, h1, h2⟩; exact absurd (h2 ▸ h1) h
  have hinner : ∀ (j i : Nat), ids[j]? = some i → (β' S.nx).inner ids.length j = ⟨(β i).blk, 0, (β i).cap, (β i).nil, (β i).sub⟩ := fun j i h => by
    rw [hnew, subEnc_inner _ _ (List.getElem?_eq_some_iff.1 h).1, hL j i h]
  have hP : Packs β β' ids l S.nx (fun c => Nat.blt c S.nx) := ⟨hold, fun j c h => by rw [hinner j c h]; exact ⟨rfl, rfl, rfl⟩, hbase, fun k c h hv => by
    obtain ⟨j, ch, h1, h2⟩ := hids c (List.mem_of_getElem? h)
    obtain rfl : j = k := by
      have := lidx_nodup hnd h
      rw [lidx_nodup hnd h1] at this; cases this; rfl
    have h3 := (hH j c ch h1 h2).2
    obtain ⟨k1, _⟩ := hl' j ch h2
    cases ch with
    | cells e cs => exact h3.2.1
    | vec e sz n f => simp [isVec, lnth_eq, h2] at hv
    | abs A => exact h3.2.1
    | ro _ _ _ => cases k1
    | ext _ => cases k1⟩
  refine ⟨β', ow', ⟨g1.defers, ?_, fun t X hX => ?_, fun c ch hc => ?_, fun k hk => ?_⟩, ⟨fun t X hX => ?_, fun c ch hc => ?_⟩, ⟨g3.os, g3.tape, g3.output, g3.size, fun k e1 e2 => ?_, fun c hc => by rw [hold c (by simp only [Nat.blt_eq]; omega)]; exact g3.beta c hc⟩, by simp only [St.packed2]; omega, fun k c hc => ?_⟩
  · rw [g1.size]; simp [St.packed2, mapO_length]
  · simp only [St.packed2, mapO_get, Option.map_eq_some_iff] at hX
    obtain ⟨X0, h1, rfl⟩ := hX
    exact packX_rel hP (g2.slots t X0 h1) (g1.slots t X0 h1)
  · simp only [St.packed2, Mem.get, nbeq, mapM_get, Mem.get_dels] at hc
    by_cases hcc : S.nx = c
    · subst hcc
      simp only [decide_true, cond_true, Option.some.injEq] at hc
      subst hc
      refine ⟨by rw [hnew], by rw [hnew], ?_⟩
      refine ⟨fun j => (β' S.nx).inner ids.length j, fun k => (ow k).bind fun c => lidx c ids, fun k hk => ?_, fun k => ?_, fun j hj => ?_, fun k c hk => ?_, hl', fun j ch hj => ?_⟩
      · cases h0 : ow k with
        | none => exact absurd (show ((ow k).bind fun c => lidx c ids) = none by rw [h0]; rfl) hk
        | some c => exact g1.wf k (by simp [h0])
      · simp only [hmine]
        constructor
        · rintro ⟨i, h1, h2⟩
          obtain ⟨j, hj⟩ := List.getElem?_of_mem h1
          rw [h2]; simp [lidx_nodup hnd hj]
        · intro h
          cases h0 : ow k with
          | none => rw [h0] at h; exact absurd rfl h
          | some c =>
            rw [h0] at h
            cases h1 : lidx c ids with
            | none => simp [h1] at h
            | some j => exact ⟨c, List.mem_of_getElem? (lidx_get h1), rfl⟩
      · rw [hlen, hnew]; rfl
      · obtain ⟨c0, h1, h2⟩ := Option.bind_eq_some_iff.1 hk
        rw [← hlen]; exact (List.getElem?_eq_some_iff.1 (lidx_get h2)).1
      · have hjl : j < ids.length := by rw [hlen]; exact (List.getElem?_eq_some_iff.1 hj).1
        obtain ⟨i, hi⟩ : ∃ i, ids[j]? = some i := ⟨_, List.getElem?_eq_getElem hjl⟩
        obtain ⟨k1, k2⟩ := hl' j ch hj
        have hh := (hH j i ch hi hj).2
        have ho : ∀ k, ((ow k).bind fun c => lidx c ids) = some j ↔ ow k = some i := fun k => by
          rw [Option.bind_eq_some_iff]
          constructor
          · rintro ⟨c, h1, h2⟩
            have := lidx_get h2
            rw [hi] at this; cases this; exact h1
          · intro h; exact ⟨i, h, lidx_nodup hnd hi⟩
        have hin := hinner j i hi
        by_cases hz : (β i).nil = true ∧ isVec l j = true
        · cases ch with
          | vec e sz n f =>
            simp only [Holds] at hh ⊢
            rw [if_pos hz.1] at hh
            rw [if_pos (by rw [hin]; exact hz.1)]
            exact hh
          | _ => simp [isVec, lnth_eq, hj] at hz
        · have hbb : (β i).base = 0 := by
            rcases hbase i (List.mem_of_getElem? hi) with h | h
            · exact hP.obj j i hi (by simpa using fun e => hz ⟨h, e⟩)
            · exact h
          have := Holds.trans (β := β) (β' := fun j => (β' S.nx).inner ids.length j) (ow := ow) (ow' := fun k => (ow k).bind fun c => lidx c ids) (w := w) (w' := w) (c := i) (c' := j) (ρ := id) (ch := ch) (p := fun _ => false) (Chunk.closed_ok k2) (fun _ h => by cases h) (by simp only [hin]) (by simp only [hin, hbb]) (by simp only [hin]) (.inl ⟨by simp only [hin], by simp only [hin]⟩) k1 ho (fun k hk => rfl) hh
          rwa [Chunk.ren_closed k2] at this
    · simp only [hcc, decide_false, cond_false, Option.map_eq_some_iff] at hc
      obtain ⟨ch0, hc, rfl⟩ := hc
      split at hc
      · cases hc
      · rename_i hni
        obtain ⟨k1, k2⟩ := g2.mem c ch0 hc
        have hlt : c < S.nx := by simpa using k1
        have hh := g1.mem c ch0 hc
        cases ch0 with
        | cells e cs =>
          obtain ⟨h3, h4, h5, arr, h6, h7⟩ := hh
          exact ⟨by rw [hold c k1]; exact h3, by rw [hold c k1]; exact h4, by rw [hold c k1, hother c _ hni hlt]; exact h5, arr, by rw [hold c k1]; exact h6, packSs_rel hP k2 h7⟩
        | _ => exact Holds.keep k2 hold (hold c k1) (fun _ k => hother c k hni hlt) (fun _ k hn => by simp [ow', hn]) hh
  · simp only [ow'] at hk
    cases h0 : ow k with
    | none => rw [h0] at hk; exact absurd rfl hk
    | some c => exact g1.wf k (by simp [h0])
  · simp only [St.packed2, mapO_get, Option.map_eq_some_iff] at hX ⊢
    obtain ⟨X0, h1, rfl⟩ := hX
    exact packX_ok hup (by simp) (g2.slots t X0 h1)
  · simp only [St.packed2, Mem.get, nbeq, mapM_get, Mem.get_dels] at hc ⊢
    by_cases hcc : S.nx = c
    · subst hcc
      simp only [decide_true, cond_true, Option.some.injEq] at hc
      subst hc
      exact ⟨by simp, rfl⟩
    · simp only [hcc, decide_false, cond_false, Option.map_eq_some_iff] at hc
      obtain ⟨ch0, hc, rfl⟩ := hc
      split at hc
      · cases hc
      · obtain ⟨k1, k2⟩ := g2.mem c ch0 hc
        refine ⟨hup c k1, ?_⟩
        cases ch0 with
        | cells e cs => exact mapSs_ok (fun s hs => packS_ok hup (by simp) hs) k2
        | _ => rfl
  · obtain ⟨e3, e4⟩ := g3.keep k e1 e2
    exact ⟨e3, by simp [ow', e4]⟩
  · simp only [ow'] at hc
    cases h0 : ow k with
    | none => rw [h0] at hc; cases hc
    | some c1 =>
      rw [h0] at hc
      simp only at hc
      by_cases h : c1 ∈ ids
      · rw [if_pos h] at hc
        simp only [Option.some.injEq] at hc
        subst hc; simp [St.packed2]
      · rw [if_neg h] at hc
        simp only [Option.some.injEq] at hc
        subst hc; exact hup c1 (g5 k c1 h0)
theorem lend_ins {M : Mem} {rd : List Nat} {c j m k n e sz : Nat} {l : List Chunk} {f g : Nat → List Value} (hm : M.get c = some (.abs (PackP l))) (hrd : nmem c rd = true) (hml : m = l.length) (hl : l[j]? = some (.vec e sz n f)) (hk : k ≤ n) (hg : ∀ i, i < k → g i = f i) : Lends M rd (.one (.ins c m j k)) (.row sz k g) := by
  subst hml
  refine Lends.row ?_
  intro β ow w v _ h hr
  obtain ⟨p1, p2, βP, owP, q1, q2, q3, q4, q5, q6⟩ := hr c ((nmem_iff c rd).1 hrd) _ hm
  replace q2 : ∀ k, ow k = some c ↔ owP k ≠ none := q2
  have hsub : (⟨(β c).blk, 0, subs (β c) 0, false, fun j => subs (β c) (j + 1)⟩ : Loc) = β c := by
    cases hb : β c with
    | mk blk base cap nil sub =>
      rw [hb] at p1 p2
      simp only at p1 p2
      subst p1 p2
      rfl
  have hj : j < l.length := (List.getElem?_eq_some_iff.1 hl).1
  have hβ : βP j = (β c).inner l.length j := by rw [q3 j hj, hsub]
  have hh := q6 j _ hl
  simp only [Holds] at hh
  simp only [CV.rel, SV.rel] at h
  rw [← hβ] at h
  refine ⟨βP j, ?_, ?_⟩
  · simp only [SV.rel]
    by_cases hn : (βP j).nil = true
    · rw [if_pos hn] at h ⊢
      exact ⟨h.1, trivial, h.2⟩
    · rw [if_neg hn] at h ⊢
      obtain ⟨a, h1, h2, h3⟩ := h
      exact ⟨a, by simpa using h1, by omega, fun h0 => by rw [h3 h0, Nat.zero_mul]⟩
  · unfold RoAt
    by_cases hn : (βP j).nil = true
    · rw [if_pos hn] at h ⊢
      exact h.2
    · rw [if_neg hn] at hh ⊢
      obtain ⟨v1, v2, v3, v4, arr, v5, v6, v7⟩ := hh
      refine ⟨⟨(Array.getElem?_eq_some_iff.1 v5).1, .inr ⟨c, (nmem_iff c rd).1 hrd, (q2 _).2 (by rw [v2]; simp)⟩⟩, fun i hi => ?_⟩
      obtain ⟨e1, e2⟩ := v7 i (by omega)
      rw [hg i hi]
      refine ⟨e1, fun q u hu => ?_⟩
      simp only [Loc.addr, v1, Nat.zero_add]
      have := e2 q u hu
      rw [cell_of_row w _ _ arr e _ v5]
      exact this
end Go.Sx
namespace Go.Sx
open Go.RowKit Go.ChangeShapes Go.WideShapes Go.Deep
def Came (W : World) (v : Value) (a : AD) : Prop :=
  ∃ Ls : List Loc, Ls.length = a.wid ∧ ∀ (i : Nat) (β0 : Nat → Loc), (∀ k L, Ls[k]? = some L → β0 (i + k) = L) → (a.cv i).rel β0 v ∧ ∀ c ch, (a.mem i).get c = some ch → HoldsAt W (fun _ => True) (β0 c) ch
def CameL (W : World) : List Value → List AD → Prop
  | [], [] => True
  | v :: r, a :: l => Came W v a ∧ CameL W r l
  | _, _ => False
def CameX (W : World) : List ExtP → Prop
  | [] => True
  | A :: r => (∃ L, ExtAt W (fun _ => True) L A) ∧ CameX W r
theorem CameL.args {W : World} : ∀ {l : List AD} {vs : List Value}, CameL W vs l →
    ∃ Ls : List Loc, Ls.length = wids l ∧ ∀ (i : Nat) (β0 : Nat → Loc), (∀ k L, Ls[k]? = some L → β0 (i + k) = L) → CVs β0 (canX i l) vs ∧ ∀ c ch, (canL i l).get c = some ch → HoldsAt W (fun _ => True) (β0 c) ch
  | [], [], _ => ⟨[], rfl, fun i β0 _ => ⟨rfl, fun c ch h => by simp [canL, Mem.get] at h⟩⟩
  | a :: l, v :: t, hl => by
    obtain ⟨La, a1, a2⟩ := hl.1
    obtain ⟨Ls, e1, e2⟩ := CameL.args hl.2
    refine ⟨La ++ Ls, by simp [e1, a1, wids], fun i β0 hβ => ?_⟩
    obtain ⟨f1, f2⟩ := a2 i β0 (fun k L hk => hβ k L (by rw [List.getElem?_append_left (List.getElem?_eq_some_iff.1 hk).1]; exact hk))
    obtain ⟨g1, g2⟩ := e2 (i + a.wid) β0 (fun k L' hk => by
      have := hβ (a.wid + k) L' (by rw [List.getElem?_append_right (by omega), a1, Nat.add_sub_cancel_left]; exact hk)
      rwa [← Nat.add_assoc] at this)
    refine ⟨⟨v, t, rfl, f1, g1⟩, fun c ch hc => ?_⟩
    rw [canL, Mem.get_append] at hc
    cases hm : (a.mem i).get c with
    | some ch0 =>
      rw [hm] at hc
      simp only [Option.some_or, Option.some.injEq] at hc
      subst hc
      exact f2 c _ hm
    | none =>
      rw [hm] at hc
      exact g2 c ch (by simpa using hc)
  | [], _ :: _, hl => hl.elim
  | _ :: _, [], hl => hl.elim
theorem CameX.exts {W : World} : ∀ {es : List ExtP}, CameX W es →
    ∃ Ls : List Loc, Ls.length = es.length ∧ ∀ (k : Nat) (A : ExtP), es[k]? = some A → ∃ L, Ls[k]? = some L ∧ ExtAt W (fun _ => True) L A
  | [], _ => ⟨[], rfl, fun k A h => by simp at h⟩
  | A :: r, h => by
    obtain ⟨L, hL⟩ := h.1
    obtain ⟨Ls, e1, e2⟩ := CameX.exts h.2
    refine ⟨L :: Ls, by simp [e1], fun k B hk => ?_⟩
    cases k with
    | zero =>
      simp only [List.getElem?_cons_zero, Option.some.injEq] at hk
      subst hk
      exact ⟨L, by simp, hL⟩
    | succ k => simpa using e2 k B (by simpa using hk)
theorem Reads.calls {P : Program} {f : FuncId} {l : List AD} {es : List ExtP} {X : XV} (h : Reads P f l es X) {W : World} {vs : List Value} (ha : CameL W vs l) (he : CameX W es) :
    Calls P f vs.toArray W fun e W' => ∃ v β', e = .returned v ∧ X.rel β' v ∧ Below W.heap.size W W' := by
  obtain ⟨d, h1, _⟩ := h
  obtain ⟨Ls, e1, e2⟩ := ha.args
  obtain ⟨Es, f1, f2⟩ := he.exts
  let β0 : Nat → Loc := fun i => ((Ls ++ Es)[i]?).getD default
  obtain ⟨g1, g2⟩ := e2 0 β0 (fun k L hk => by
    have : k < Ls.length := (List.getElem?_eq_some_iff.1 hk).1
    simp only [β0]
    rw [Nat.zero_add, List.getElem?_append_left this, hk]
    rfl)
  refine (h1 β0 (fun _ => none) W vs (fun k h => absurd rfl h) (fun k h => by cases h) g1 (fun c _ ch hc => ?_)).mono ?_
  · obtain ⟨_, _, _, h4⟩ := canM_get hc
    rcases h4 with h4 | ⟨A, rfl, h5, h6⟩
    · exact (g2 c ch h4).holds fun _ _ => rfl
    · obtain ⟨L, k1, k2⟩ := f2 _ A h6
      have hb : β0 c = L := by
        simp only [β0]
        rw [List.getElem?_append_right (by omega), e1, show c - wids l = c - (0 + wids l) by omega, k1]
        rfl
      exact HoldsAt.holds (ch := .ext A) (by rw [hb]; exact k2) fun _ _ => rfl
  · rintro e W' ⟨v, β', ow', rfl, E, hv, _⟩
    exact ⟨v, β', rfl, hv, E.os, E.tape, E.output, E.size, fun k hk => (E.keep k hk (fun c hc => by cases hc)).1⟩
theorem RowIn.at {W : World} {v : Value} {sz n : Nat} {f : Nat → List Value} (h : RowIn W v sz n f) : ∃ L : Loc, (∀ (β : Nat → Loc) c, β c = L → (SV.slc c sz 0 n).rel β v) ∧ RoAt W (fun _ => True) L sz n f := by
  obtain ⟨L, h1, h2⟩ := h
  refine ⟨L, h1, ?_⟩
  unfold RoAt
  by_cases hn : L.nil = true
  · rw [if_pos hn] at h2 ⊢; exact h2
  · rw [if_neg hn] at h2 ⊢; exact ⟨⟨h2.1, trivial⟩, h2.2⟩
theorem came_row {W : World} {v : Value} {sz n : Nat} {f : Nat → List Value} (h : RowIn W v sz n f) : Came W v (.row sz n f) := by
  obtain ⟨L, h1, h2⟩ := h.at
  refine ⟨[L], rfl, fun i β0 hβ => ?_⟩
  have hb : β0 i = L := by simpa using hβ 0 L rfl
  exact ⟨h1 β0 i hb, one_holds hb h2⟩
theorem came_raw {W : World} {v : Value} : Came W v (.plain (.one (.raw v))) := ⟨[default], rfl, fun i β0 _ => ⟨rfl, fun c ch h => by cases h⟩⟩
theorem came_ext {W : World} {b sz n : Nat} {f : Nat → List Value} (hb : b < W.heap.size) (h : ∀ i, i < n → (f i).length = sz ∧ ∀ j v, (f i)[j]? = some v → W.cell? ⟨b, i * sz + j, none⟩ = some v) : ∃ L, ExtAt W (fun _ => True) L (GlobP b sz n f) :=
  ⟨default, fun k => k = b, fun k hk => ⟨by rw [hk]; exact hb, trivial⟩, rfl, h⟩
def CameC (W : World) : List Value → List AC → Prop
  | [], [] => True
  | v :: r, .raw u :: l => v = u ∧ CameC W r l
  | v :: r, .row sz n f :: l => RowIn W v sz n f ∧ CameC W r l
  | _, _ => False
theorem CameC.cells {W : World} : ∀ {l : List AC} {vs : List Value}, CameC W vs l →
    ∃ Ls : List Loc, Ls.length = boxW l ∧ ∀ (i : Nat) (β0 : Nat → Loc), (∀ k L, Ls[k]? = some L → β0 (i + k) = L) → Rels β0 (boxC i l) vs ∧ ∀ c ch, (boxM i l).get c = some ch → HoldsAt W (fun _ => True) (β0 c) ch
  | [], [], _ => ⟨[], rfl, fun i β0 _ => ⟨rfl, fun c ch h => by simp [boxM, Mem.get] at h⟩⟩
  | .raw x :: l, v :: t, hl => by
    obtain ⟨rfl, hl⟩ := hl
    obtain ⟨Ls, e1, e2⟩ := CameC.cells hl
    exact ⟨Ls, e1, fun i β0 hβ => ⟨⟨v, t, rfl, rfl, (e2 i β0 hβ).1⟩, (e2 i β0 hβ).2⟩⟩
  | .row sz n f :: l, v :: t, hl => by
    obtain ⟨L, a1, a2⟩ := hl.1.at
    obtain ⟨Ls, e1, e2⟩ := CameC.cells hl.2
    refine ⟨L :: Ls, by simp [e1, boxW], fun i β0 hβ => ?_⟩
    have hb : β0 i = L := by simpa using hβ 0 L rfl
    obtain ⟨g1, g2⟩ := e2 (i + 1) β0 (fun k L' hk => by
      have := hβ (k + 1) L' (by simpa using hk)
      rwa [Nat.add_right_comm, Nat.add_assoc])
    refine ⟨⟨v, t, rfl, a1 β0 i hb, g1⟩, fun c ch hc => ?_⟩
    simp only [boxM, Mem.get, nbeq] at hc
    by_cases hi : i = c
    · subst hi
      simp only [decide_true, cond_true, Option.some.injEq] at hc
      rw [hb, ← hc]; exact a2
    · simp only [hi, decide_false, cond_false] at hc
      exact g2 c ch hc
  | [], _ :: _, hl => hl.elim
  | .raw _ :: _, [], hl => hl.elim
  | .row _ _ _ :: _, [], hl => hl.elim
theorem came_box {W : World} {arr : Array Value} {l : List AC} (h : CameC W arr.toList l) : Came W (.agg arr) (.box l) := by
  obtain ⟨Ls, h1, h2⟩ := h.cells
  exact ⟨Ls, h1, fun i β0 hβ => ⟨⟨arr, rfl, (h2 i β0 hβ).1⟩, (h2 i β0 hβ).2⟩⟩
section
variable {P : Program} {T : TyTab} {H : Type} {enc : TypeId × Value → H} {W : World}
theorem open_rowC (hT : TabOK P T) {t e : TypeId} {td te : TyD} (ht : T t = some td) (hd : td.desc = .slice e) (he : T e = some te) {f : Nat} {ks : List Kd} (hk : kindsT T f e = some ks) {v : Value} {fuel : Nat} {x : DataW H × List MemPlace}
    (hf : DataW.trod enc P W 0 (fun _ => true) true fuel t [v] = some x) (hv : Cell.okWide P W .any 0 t v) {E : Type} (cells : E → List Value) (dec : ∀ cs, Fits ks cs → ∃ x, cs = cells x) (dflt : E) :
    ∃ l : List E, l.length ≤ maxLen ∧ RowIn W v te.size l.length (fun i => cells (l.getD i dflt)) := by
  have hu := under_slice hT ht hd
  have hc : P.cellsOf e = te.size := cellsOf_T hT he
  rcases open_slice hu hf with ⟨h1, _⟩ | ⟨a, len, cap, m, n, D, Pl, h1, _, hle, hm, hmm, _, hx⟩
  · simp only [List.cons.injEq, and_true] at h1
    subst h1
    refine ⟨[], Nat.zero_le _, ⟨0, 0, 0, true, fun _ => 0⟩, fun β c hβ => ?_, by simp⟩
    simp [SV.rel, hβ]
  · simp only [List.cons.injEq, and_true] at h1
    subst h1
    simp only [if_true] at hmm
    subst hmm
    have each : ∀ i, i < len → ∃ x : E, (cells x).length = te.size ∧ ∀ j u, (cells x)[j]? = some u → W.cell? (a.add (i * te.size + j)) = some u := by
      intro i hi
      obtain ⟨cs', h2, h3⟩ := hx i (by omega)
      have hfit := trod_fits hT f e ks hk n cs' _ h3
      obtain ⟨x, rfl⟩ := dec cs' hfit
      rw [hc] at h2
      obtain ⟨_, g2, g3⟩ := World.cells?_some h2
      refine ⟨x, g2, fun j u hj => ?_⟩
      have hjl : j < te.size := by rw [← g2]; exact (List.getElem?_eq_some_iff.1 hj).1
      have := g3 j hjl
      rw [hj] at this
      have ea : (a.add (i * te.size)).add j = a.add (i * te.size + j) := by
        unfold Addr.add
        split <;> split <;> simp_all [Nat.add_assoc]
      rw [ea] at this
      exact this
    have spot : a.spot = none ∧ a.block < W.heap.size := by
      simp only [hu, Cell.okWide, Cell.ok] at hv
      obtain ⟨_, _, _, hs, row, cells', hsh, _⟩ := hv
      refine ⟨hs, ?_⟩
      unfold World.shape? at hsh
      split at hsh
      · rename_i hb
        exact (Array.getElem?_eq_some_iff.1 hb).1
      · cases hsh
    have pick : ∀ k, k ≤ len → ∃ l : List E, l.length = k ∧ ∀ i, i < k → (cells (l.getD i dflt)).length = te.size ∧ ∀ j u, (cells (l.getD i dflt))[j]? = some u → W.cell? (a.add (i * te.size + j)) = some u := by
      intro k
      induction k with
      | zero => intro _; exact ⟨[], rfl, fun i hi => by omega⟩
      | succ k ih =>
        intro hk'
        obtain ⟨l, h2, h3⟩ := ih (by omega)
        obtain ⟨x, h4, h5⟩ := each k (by omega)
        refine ⟨l ++ [x], by simp [h2], fun i hi => ?_⟩
        by_cases hik : i < k
        · have e1 : (l ++ [x]).getD i dflt = l.getD i dflt := by simp [List.getD_eq_getElem?_getD, List.getElem?_append_left (show i < l.length by omega)]
          rw [e1]; exact h3 i hik
        · have e0 : i = k := by omega
          subst e0
          have e1 : (l ++ [x]).getD i dflt = x := by simp [List.getD_eq_getElem?_getD, h2]
          rw [e1]; exact ⟨h4, h5⟩
    obtain ⟨l, hl, hcell⟩ := pick len (Nat.le_refl _)
    refine ⟨l, by rw [hl]; exact Nat.le_trans hle hm, ?_⟩
    rw [hl]
    obtain ⟨hs, hb⟩ := spot
    have ha : a = ⟨a.block, a.off, none⟩ := by cases a; simp_all
    have hadd : ∀ q, a.add q = ⟨a.block, a.off + q, none⟩ := by
      intro q
      unfold Addr.add
      split
      · rename_i h; subst h; rw [Nat.add_zero]; exact ha
      · rfl
    refine ⟨⟨a.block, a.off, m, false, fun _ => 0⟩, fun β c hβ => ?_, ?_⟩
    · simp only [SV.rel, hβ, Bool.false_eq_true, if_false]
      exact ⟨a, by rw [Nat.sub_zero], by omega, fun _ => by simp only [Loc.addr, Nat.zero_mul, Nat.add_zero]; exact ha⟩
    · simp only [Bool.false_eq_true, if_false]
      refine ⟨hb, fun i hi => ⟨(hcell i hi).1, fun j u hj => ?_⟩⟩
      have := (hcell i hi).2 j u hj
      rw [hadd] at this
      exact this
end
theorem ok_cell {P : Program} {W : World} {t : TypeId} {fs : Array Field} {cs : Array Value} {ts : List TypeId} (hs : P.underlying t = some (.struct fs)) (hts : P.cellTypes P.depth t = some ts) (hv : Value.okWide P W .any 0 t (.agg cs)) {i : Nat} {v : Value} {u : TypeId} (hi : cs[i]? = some v) (hu : ts[i]? = some u) : Cell.okWide P W .any 0 u v := by
  simp only [Value.okWide, hs] at hv
  obtain ⟨cs', e, _, ts', h1, _, h2⟩ := hv
  cases e
  obtain rfl := Option.some.inj (hts.symm.trans h1)
  obtain ⟨u', h3, h4⟩ := h2 i v hi
  have hl : i < ts.length := (List.getElem?_eq_some_iff.1 hu).1
  rw [Nat.mod_eq_of_lt hl, hu] at h3
  cases h3
  exact h4
end Go.Sx
namespace Go.Proofs.YtmoohekgheoliaaGreatDoor
open Go.Sx
def Tryz.tab : List (Nat × TyD) := [
  (2, { size := 1, bytes := 8, agg := false, zero := [.int .i64 0], desc := .int .i64 }),
  (3, { size := 1, bytes := 8, agg := false, zero := [.int .i64 0], desc := .int .i64 }),
  (4, { size := 1, bytes := 1, agg := false, zero := [.bool false], desc := .bool }),
  (5, { size := 1, bytes := 1, agg := false, zero := [.int .u8 0], desc := .int .u8 }),
  (9, { size := 1, bytes := 16, agg := false, zero := [.string ByteArray.empty], desc := .str }),
  (12, { size := 1, bytes := 8, agg := false, zero := [.int .u64 0], desc := .int .u64 }),
  (21, { size := 1, bytes := 4, agg := false, zero := [.int .i32 0], desc := .int .i32 }),
  (77, { size := 1, bytes := 2, agg := false, zero := [.int .u16 0], desc := .int .u16 }),
  (118, { size := 1, bytes := 8, agg := false, zero := [.int .u64 0], desc := .int .u64 }),
  (168, { size := 1, bytes := 4, agg := false, zero := [.int .u32 0], desc := .int .u32 }),
  (172, { size := 1, bytes := 8, agg := false, zero := [.int .u64 0], desc := .int .u64 }),
  (22, { size := 1, bytes := 24, agg := false, zero := [.slice none 0 0], desc := .slice 79 }),
  (23, { size := 1, bytes := 24, agg := false, zero := [.slice none 0 0], desc := .slice 5 }),
  (24, { size := 1, bytes := 24, agg := false, zero := [.slice none 0 0], desc := .slice 56 }),
  (25, { size := 4, bytes := 80, agg := true, zero := [.slice none 0 0, .slice none 0 0, .slice none 0 0] ++ [.int .u8 0], desc := .struct [(23, 0), (22, 1), (24, 2), (5, 3)] }),
  (26, { size := 4, bytes := 80, agg := true, zero := [.slice none 0 0, .slice none 0 0, .slice none 0 0] ++ [.int .u8 0], desc := .struct [(23, 0), (22, 1), (24, 2), (5, 3)] }),
  (29, { size := 1, bytes := 8, agg := false, zero := [.pointer none], desc := .ptr }),
  (30, { size := 1, bytes := 8, agg := false, zero := [.pointer none], desc := .ptr }),
  (33, { size := 1, bytes := 24, agg := false, zero := [.slice none 0 0], desc := .slice 65 }),
  (34, { size := 1, bytes := 24, agg := false, zero := [.slice none 0 0], desc := .slice 67 }),
  (35, { size := 1, bytes := 24, agg := false, zero := [.slice none 0 0], desc := .slice 39 }),
  (36, { size := 4, bytes := 48, agg := true, zero := [.int .i64 0, .int .i64 0, .int .i64 0] ++ [.slice none 0 0], desc := .struct [(3, 0), (3, 1), (3, 2), (35, 3)] }),
  (37, { size := 4, bytes := 48, agg := true, zero := [.int .i64 0, .int .i64 0, .int .i64 0] ++ [.slice none 0 0], desc := .struct [(3, 0), (3, 1), (3, 2), (35, 3)] }),
  (38, { size := 8, bytes := 8, agg := true, zero := List.replicate 8 (.int .u8 0), desc := .array 8 5 }),
  (39, { size := 8, bytes := 8, agg := true, zero := List.replicate 8 (.int .u8 0), desc := .array 8 5 }),
  (40, { size := 1, bytes := 24, agg := false, zero := [.slice none 0 0], desc := .slice 167 }),
  (41, { size := 21, bytes := 88, agg := true, zero := [.int .i64 0, .int .i64 0, .int .i64 0] ++ List.replicate 16 (.int .u8 0) ++ [.slice none 0 0, .slice none 0 0], desc := .struct [(3, 0), (3, 1), (3, 2), (39, 3), (39, 11), (34, 19), (40, 20)] }),
  (42, { size := 21, bytes := 88, agg := true, zero := [.int .i64 0, .int .i64 0, .int .i64 0] ++ List.replicate 16 (.int .u8 0) ++ [.slice none 0 0, .slice none 0 0], desc := .struct [(3, 0), (3, 1), (3, 2), (39, 3), (39, 11), (34, 19), (40, 20)] }),
  (43, { size := 10, bytes := 24, agg := true, zero := List.replicate 8 (.int .u8 0) ++ [.int .i64 0, .int .i64 0], desc := .struct [(39, 0), (3, 8), (3, 9)] }),
  (44, { size := 10, bytes := 24, agg := true, zero := List.replicate 8 (.int .u8 0) ++ [.int .i64 0, .int .i64 0], desc := .struct [(39, 0), (3, 8), (3, 9)] }),
  (45, { size := 128, bytes := 128, agg := true, zero := List.replicate 128 (.int .u8 0), desc := .array 16 39 }),
  (46, { size := 140, bytes := 168, agg := true, zero := [.int .i64 0, .int .i64 0] ++ List.replicate 8 (.int .u8 0) ++ [.int .i64 0, .int .i64 0] ++ List.replicate 128 (.int .u8 0), desc := .struct [(3, 0), (3, 1), (44, 2), (45, 12)] }),
  (47, { size := 140, bytes := 168, agg := true, zero := [.int .i64 0, .int .i64 0] ++ List.replicate 8 (.int .u8 0) ++ [.int .i64 0, .int .i64 0] ++ List.replicate 128 (.int .u8 0), desc := .struct [(3, 0), (3, 1), (44, 2), (45, 12)] }),
  (48, { size := 170, bytes := 392, agg := true, zero := [.int .i64 0, .int .i64 0] ++ [.slice none 0 0, .slice none 0 0, .slice none 0 0] ++ [.int .i64 0, .int .i64 0, .int .i64 0] ++ [.slice none 0 0] ++ [.int .i64 0, .int .i64 0, .int .i64 0] ++ List.replicate 16 (.int .u8 0) ++ [.slice none 0 0, .slice none 0 0] ++ [.int .i64 0, .int .i64 0] ++ List.replicate 8 (.int .u8 0) ++ [.int .i64 0, .int .i64 0] ++ List.replicate 128 (.int .u8 0), desc := .struct [(3, 0), (3, 1), (33, 2), (34, 3), (24, 4), (37, 5), (42, 9), (47, 30)] }),
  (49, { size := 170, bytes := 392, agg := true, zero := [.int .i64 0, .int .i64 0] ++ [.slice none 0 0, .slice none 0 0, .slice none 0 0] ++ [.int .i64 0, .int .i64 0, .int .i64 0] ++ [.slice none 0 0] ++ [.int .i64 0, .int .i64 0, .int .i64 0] ++ List.replicate 16 (.int .u8 0) ++ [.slice none 0 0, .slice none 0 0] ++ [.int .i64 0, .int .i64 0] ++ List.replicate 8 (.int .u8 0) ++ [.int .i64 0, .int .i64 0] ++ List.replicate 128 (.int .u8 0), desc := .struct [(3, 0), (3, 1), (33, 2), (34, 3), (24, 4), (37, 5), (42, 9), (47, 30)] }),
  (52, { size := 1, bytes := 8, agg := false, zero := [.int .i64 0], desc := .int .i64 }),
  (55, { size := 11, bytes := 32, agg := true, zero := [.int .i64 0, .int .i64 0] ++ List.replicate 8 (.int .u8 0) ++ [.int .i64 0], desc := .struct [(3, 0), (3, 1), (39, 2), (3, 10)] }),
  (56, { size := 11, bytes := 32, agg := true, zero := [.int .i64 0, .int .i64 0] ++ List.replicate 8 (.int .u8 0) ++ [.int .i64 0], desc := .struct [(3, 0), (3, 1), (39, 2), (3, 10)] }),
  (59, { size := 9, bytes := 16, agg := true, zero := List.replicate 8 (.int .u8 0) ++ [.int .i64 0], desc := .struct [(39, 0), (3, 8)] }),
  (60, { size := 9, bytes := 16, agg := true, zero := List.replicate 8 (.int .u8 0) ++ [.int .i64 0], desc := .struct [(39, 0), (3, 8)] }),
  (61, { size := 24, bytes := 24, agg := true, zero := List.replicate 24 (.int .u8 0), desc := .array 3 39 }),
  (62, { size := 281, bytes := 288, agg := true, zero := [.int .i64 0] ++ List.replicate 280 (.int .u8 0), desc := .struct [(3, 0), (45, 1), (45, 129), (61, 257)] }),
  (63, { size := 281, bytes := 288, agg := true, zero := [.int .i64 0] ++ List.replicate 280 (.int .u8 0), desc := .struct [(3, 0), (45, 1), (45, 129), (61, 257)] }),
  (64, { size := 298, bytes := 312, agg := true, zero := List.replicate 8 (.int .u8 0) ++ [.int .i64 0] ++ List.replicate 8 (.int .u8 0) ++ [.int .i64 0] ++ List.replicate 280 (.int .u8 0), desc := .struct [(60, 0), (39, 9), (63, 17)] }),
  (65, { size := 298, bytes := 312, agg := true, zero := List.replicate 8 (.int .u8 0) ++ [.int .i64 0] ++ List.replicate 8 (.int .u8 0) ++ [.int .i64 0] ++ List.replicate 280 (.int .u8 0), desc := .struct [(60, 0), (39, 9), (63, 17)] }),
  (66, { size := 9, bytes := 16, agg := true, zero := List.replicate 8 (.int .u8 0) ++ [.int .i64 0], desc := .struct [(39, 0), (3, 8)] }),
  (67, { size := 9, bytes := 16, agg := true, zero := List.replicate 8 (.int .u8 0) ++ [.int .i64 0], desc := .struct [(39, 0), (3, 8)] }),
  (68, { size := 11, bytes := 32, agg := true, zero := List.replicate 8 (.int .u8 0) ++ [.int .i64 0, .int .i64 0] ++ [.bool false], desc := .struct [(67, 0), (3, 9), (4, 10)] }),
  (69, { size := 11, bytes := 32, agg := true, zero := List.replicate 8 (.int .u8 0) ++ [.int .i64 0, .int .i64 0] ++ [.bool false], desc := .struct [(67, 0), (3, 9), (4, 10)] }),
  (72, { size := 1, bytes := 24, agg := false, zero := [.slice none 0 0], desc := .slice 60 }),
  (73, { size := 1, bytes := 24, agg := false, zero := [.slice none 0 0], desc := .slice 97 }),
  (74, { size := 2, bytes := 48, agg := true, zero := [.slice none 0 0, .slice none 0 0], desc := .struct [(72, 0), (73, 1)] }),
  (75, { size := 2, bytes := 48, agg := true, zero := [.slice none 0 0, .slice none 0 0], desc := .struct [(72, 0), (73, 1)] }),
  (78, { size := 4, bytes := 32, agg := true, zero := [.int .i64 0, .int .i64 0, .int .i64 0] ++ [.bool false], desc := .struct [(3, 0), (3, 1), (3, 2), (4, 3)] }),
  (79, { size := 4, bytes := 32, agg := true, zero := [.int .i64 0, .int .i64 0, .int .i64 0] ++ [.bool false], desc := .struct [(3, 0), (3, 1), (3, 2), (4, 3)] }),
  (85, { size := 2, bytes := 2, agg := true, zero := [.int .u8 0, .int .u8 0], desc := .array 2 5 }),
  (90, { size := 1, bytes := 8, agg := false, zero := [.map none], desc := .map 39 4 }),
  (97, { size := 11, bytes := 32, agg := true, zero := List.replicate 8 (.int .u8 0) ++ [.int .i64 0, .int .i64 0] ++ [.bool false], desc := .struct [(67, 0), (3, 9), (4, 10)] }),
  (101, { size := 1, bytes := 24, agg := false, zero := [.slice none 0 0], desc := .slice 3 }),
  (102, { size := 1, bytes := 8, agg := false, zero := [.map none], desc := .map 60 69 }),
  (103, { size := 1, bytes := 24, agg := false, zero := [.slice none 0 0], desc := .slice 130 }),
  (104, { size := 3, bytes := 40, agg := true, zero := [.map none] ++ [.slice none 0 0] ++ [.int .i64 0], desc := .struct [(102, 0), (103, 1), (3, 2)] }),
  (105, { size := 3, bytes := 40, agg := true, zero := [.map none] ++ [.slice none 0 0] ++ [.int .i64 0], desc := .struct [(102, 0), (103, 1), (3, 2)] }),
  (129, { size := 21, bytes := 56, agg := true, zero := List.replicate 8 (.int .u8 0) ++ [.int .i64 0] ++ List.replicate 8 (.int .u8 0) ++ [.int .i64 0, .int .i64 0] ++ [.bool false, .bool false], desc := .struct [(60, 0), (69, 9), (4, 20)] }),
  (130, { size := 21, bytes := 56, agg := true, zero := List.replicate 8 (.int .u8 0) ++ [.int .i64 0] ++ List.replicate 8 (.int .u8 0) ++ [.int .i64 0, .int .i64 0] ++ [.bool false, .bool false], desc := .struct [(60, 0), (69, 9), (4, 20)] }),
  (140, { size := 1, bytes := 24, agg := false, zero := [.slice none 0 0], desc := .slice 23 }),
  (141, { size := 32, bytes := 32, agg := true, zero := List.replicate 32 (.int .u8 0), desc := .array 32 5 }),
  (166, { size := 282, bytes := 296, agg := true, zero := [.int .i64 0, .int .i64 0] ++ List.replicate 280 (.int .u8 0), desc := .struct [(3, 0), (63, 1)] }),
  (167, { size := 282, bytes := 296, agg := true, zero := [.int .i64 0, .int .i64 0] ++ List.replicate 280 (.int .u8 0), desc := .struct [(3, 0), (63, 1)] }),
  (169, { size := 8, bytes := 32, agg := true, zero := List.replicate 8 (.int .u32 0), desc := .array 8 168 }),
  (170, { size := 64, bytes := 256, agg := true, zero := List.replicate 64 (.int .u32 0), desc := .array 64 168 }),
  (189, { size := 1, bytes := 8, agg := false, zero := [.pointer none], desc := .ptr }),
  (190, { size := 2, bytes := 32, agg := true, zero := [.slice none 0 0] ++ [.int .i64 0], desc := .struct [(23, 0), (52, 1)] }),
  (191, { size := 2, bytes := 32, agg := true, zero := [.slice none 0 0] ++ [.int .i64 0], desc := .struct [(23, 0), (52, 1)] }),
  (192, { size := 2, bytes := 32, agg := true, zero := [.slice none 0 0] ++ [.int .i64 0], desc := .struct [(191, 0)] }),
  (193, { size := 2, bytes := 32, agg := true, zero := [.slice none 0 0] ++ [.int .i64 0], desc := .struct [(191, 0)] }),
  (204, { size := 1, bytes := 24, agg := false, zero := [.slice none 0 0], desc := .slice 4 }),
  (207, { size := 16, bytes := 16, agg := true, zero := List.replicate 16 (.int .u8 0), desc := .array 2 39 }),
  (208, { size := 256, bytes := 256, agg := true, zero := List.replicate 256 (.int .u8 0), desc := .array 16 207 }),
  (214, { size := 1, bytes := 8, agg := false, zero := [.pointer none], desc := .ptr }),
  (220, { size := 8, bytes := 32, agg := true, zero := List.replicate 8 (.int .u32 0), desc := .array 8 168 }),
  (224, { size := 1, bytes := 8, agg := false, zero := [.int .i64 0], desc := .int .i64 }),
  (232, { size := 1, bytes := 8, agg := false, zero := [.pointer none], desc := .ptr }),
  (235, { size := 1, bytes := 24, agg := false, zero := [.slice none 0 0], desc := .slice 168 }),
  (236, { size := 1, bytes := 8, agg := false, zero := [.int .u64 0], desc := .int .u64 }),
  (240, { size := 1, bytes := 8, agg := false, zero := [.pointer none], desc := .ptr }),
  (242, { size := 1, bytes := 8, agg := false, zero := [.pointer none], desc := .ptr }),
  (253, { size := 1, bytes := 8, agg := false, zero := [.pointer none], desc := .ptr })]
abbrev Tryz.T : TyTab := tlook Tryz.tab
theorem Tryz.T_ok : TabOK Tryz.prog Tryz.T := tab_ok (by kernel_rfl)
theorem Tryz.mixed : Tryz.prog.follows .mixedOrders = true := by kernel_rfl
end Go.Proofs.YtmoohekgheoliaaGreatDoor
namespace Go.Proofs.YtmoohekgheoliaaGreatDoor
set_option maxRecDepth 100000
open Go.Sx
def mayB (n : Int) : Bool := decide (0 ≤ n) && decide (n ≤ 1125899906842624)
theorem may_spec (n : Int) (M : Mem) (d : Nat) : CallSpec Tryz.prog 109 [.one (.raw (.int .i64 n))] M d { v := XV.bool (mayB n) } [] := by
  refine spec_pure Tryz.mixed Tryz.T_ok Tryz.func109 rfl _ _ rfl rfl (fun C _ => ?_) M d
  (refine wBegin ?_; ((conv => arg 5; whnf); repeat (refine xS ?_; conv => arg 5; whnf)))
  refine wC (fun h1 => ?_) (fun h1 => ?_)
  all_goals
    (refine wGo ?_; ((conv => arg 5; whnf); repeat (refine xS ?_; conv => arg 5; whnf)))
    refine Ends.plain (.inr rfl) rfl ?_
    simp [mayB, h1]
def bothB (a b n : Int) : Bool := mayB a && mayB b && mayB n
def bothV (a b n : Int) : List CV := [.one (.raw (.int .i64 (if bothB a b n = true then n else 0))), .one (.raw (.bool (bothB a b n)))]
theorem both_spec (a b n : Int) (M : Mem) (d : Nat) : CallSpec Tryz.prog 75 [.one (.raw (.int .i64 a)), .one (.raw (.int .i64 b)), .one (.raw (.int .i64 n))] M d { v := .tup (bothV a b n) } [] := by
  refine spec_pure Tryz.mixed Tryz.T_ok Tryz.func75 rfl _ _ rfl rfl (fun C _ => ?_) M d
  (refine wBegin ?_; ((conv => arg 5; whnf); repeat (refine xS ?_; conv => arg 5; whnf)))
  (apply wP; exact (call_op rfl (entersB_of Tryz.func109 (by kernel_rfl)) rfl (may_spec _ _ _)); ((conv => arg 5; whnf); repeat (refine xS ?_; conv => arg 5; whnf)))
  refine wC (fun h1 => ?_) (fun h1 => ?_)
  · (refine wGo ?_; ((conv => arg 5; whnf); repeat (refine xS ?_; conv => arg 5; whnf)))
    refine Ends.plain (.inr rfl) rfl ?_
    simp only [Bool.not_eq_true'] at h1
    simp [bothV, bothB, h1]
  · (refine wGo ?_; ((conv => arg 5; whnf); repeat (refine xS ?_; conv => arg 5; whnf)))
    (apply wP; exact (call_op rfl (entersB_of Tryz.func109 (by kernel_rfl)) rfl (may_spec _ _ _)); ((conv => arg 5; whnf); repeat (refine xS ?_; conv => arg 5; whnf)))
    simp only [Bool.not_eq_false'] at h1
    refine wC (fun h2 => ?_) (fun h2 => ?_)
    · (refine wGo ?_; ((conv => arg 5; whnf); repeat (refine xS ?_; conv => arg 5; whnf)))
      refine Ends.plain (.inr rfl) rfl ?_
      simp only [Bool.not_eq_true'] at h2
      simp [bothV, bothB, h2]
    · simp only [Bool.not_eq_false'] at h2
      (refine wGo ?_; ((conv => arg 5; whnf); repeat (refine xS ?_; conv => arg 5; whnf)))
      (apply wP; exact (call_op rfl (entersB_of Tryz.func109 (by kernel_rfl)) rfl (may_spec _ _ _)); ((conv => arg 5; whnf); repeat (refine xS ?_; conv => arg 5; whnf)))
      refine wC (fun h3 => ?_) (fun h3 => ?_)
      · (refine wGo ?_; ((conv => arg 5; whnf); repeat (refine xS ?_; conv => arg 5; whnf)))
        refine Ends.plain (.inr rfl) rfl ?_
        simp only [Bool.not_eq_true'] at h3
        simp [bothV, bothB, h3]
      · simp only [Bool.not_eq_false'] at h3
        (refine wGo ?_; ((conv => arg 5; whnf); repeat (refine xS ?_; conv => arg 5; whnf)))
        refine Ends.plain (.inr rfl) rfl ?_
        simp [bothV, bothB, h1, h2, h3]
theorem add_spec (a b : Int) (M : Mem) (d : Nat) : CallSpec Tryz.prog 52 [.one (.raw (.int .i64 a)), .one (.raw (.int .i64 b))] M d { v := .tup (bothV a b (IntKind.i64.wrap (a + b))) } [] := by
  refine spec_pure Tryz.mixed Tryz.T_ok Tryz.func52 rfl _ _ rfl rfl (fun C _ => ?_) M d
  (refine wBegin ?_; ((conv => arg 5; whnf); repeat (refine xS ?_; conv => arg 5; whnf)))
  (apply wP; exact (call_op rfl (entersB_of Tryz.func75 (by kernel_rfl)) rfl (both_spec _ _ _ _ _)); ((conv => arg 5; whnf); repeat (refine xS ?_; conv => arg 5; whnf)))
  exact Ends.plain (.inr rfl) rfl rfl
end Go.Proofs.YtmoohekgheoliaaGreatDoor
namespace Go.Proofs.YtmoohekgheoliaaGreatDoor
set_option maxRecDepth 100000
open Go.Sx
def u8 (x : UInt8) : Value := .int .u8 (x.toNat : Int)
def i64 (x : Int64) : Value := .int .i64 x.toInt
theorem u8_wf (x : UInt8) : (Lit.int .u8 (x.toNat : Int)).wf = true := by
  have := x.toNat_lt
  have e1 : IntKind.u8.min = 0 := rfl
  have e2 : IntKind.u8.max = 255 := rfl
  simp [Lit.wf, e1, e2]
  omega
theorem i64_wf (x : Int64) : (Lit.int .i64 x.toInt).wf = true := by
  have h1 := x.le_toInt
  have h2 := x.toInt_lt
  have e1 : IntKind.i64.min = -9223372036854775808 := rfl
  have e2 : IntKind.i64.max = 9223372036854775807 := rfl
  simp [Lit.wf, e1, e2]
  omega
structure H8 where
  (b0 b1 b2 b3 b4 b5 b6 b7 : UInt8)
  deriving DecidableEq, Inhabited
def H8.cells (h : H8) : List Value := [u8 h.b0, u8 h.b1, u8 h.b2, u8 h.b3, u8 h.b4, u8 h.b5, u8 h.b6, u8 h.b7]
structure Pt where
  tx : H8
  no : Int64
  deriving DecidableEq, Inhabited
def Pt.cells (p : Pt) : List Value := [u8 p.tx.b0, u8 p.tx.b1, u8 p.tx.b2, u8 p.tx.b3, u8 p.tx.b4, u8 p.tx.b5, u8 p.tx.b6, u8 p.tx.b7, i64 p.no]
def Pt.v (p : Pt) : Value := .agg p.cells.toArray
structure Coin where
  to : H8
  amt : Int64
  height : Int64
  base : Bool
  deriving DecidableEq, Inhabited
def Coin.cells (c : Coin) : List Value := [u8 c.to.b0, u8 c.to.b1, u8 c.to.b2, u8 c.to.b3, u8 c.to.b4, u8 c.to.b5, u8 c.to.b6, u8 c.to.b7, i64 c.amt, i64 c.height, .bool c.base]
def Coin.v (c : Coin) : Value := .agg c.cells.toArray
def coin0 : Coin := ⟨⟨0, 0, 0, 0, 0, 0, 0, 0⟩, 0, 0, false⟩
structure Stp where
  p : Pt
  c : Coin
  added : Bool
  deriving DecidableEq, Inhabited
def Stp.cells (s : Stp) : List Value := [u8 s.p.tx.b0, u8 s.p.tx.b1, u8 s.p.tx.b2, u8 s.p.tx.b3, u8 s.p.tx.b4, u8 s.p.tx.b5, u8 s.p.tx.b6, u8 s.p.tx.b7, i64 s.p.no,
  u8 s.c.to.b0, u8 s.c.to.b1, u8 s.c.to.b2, u8 s.c.to.b3, u8 s.c.to.b4, u8 s.c.to.b5, u8 s.c.to.b6, u8 s.c.to.b7, i64 s.c.amt, i64 s.c.height, .bool s.c.base, .bool s.added]
theorem u8_inj {a b : UInt8} (h : u8 a = u8 b) : a = b := by
  simp only [u8, Value.int.injEq, true_and] at h
  exact UInt8.toNat_inj.1 (by omega)
theorem i64_inj {a b : Int64} (h : i64 a = i64 b) : a = b := by
  simp only [i64, Value.int.injEq, true_and] at h
  exact Int64.toInt_inj.1 h
theorem Pt.inj (a b : Pt) (h : a.v = b.v) : a = b := by
  have h : a.cells = b.cells := by
    have := congrArg (fun v => v.cells.toList) h
    simpa [Pt.v, Value.cells] using this
  obtain ⟨⟨_, _, _, _, _, _, _, _⟩, _⟩ := a
  obtain ⟨⟨_, _, _, _, _, _, _, _⟩, _⟩ := b
  simp only [Pt.cells, List.cons.injEq] at h
  obtain ⟨h0, h1, h2, h3, h4, h5, h6, h7, h8, _⟩ := h
  rw [u8_inj h0, u8_inj h1, u8_inj h2, u8_inj h3, u8_inj h4, u8_inj h5, u8_inj h6, u8_inj h7, i64_inj h8]
theorem pt_row : (60 : TypeId) < Tryz.prog.types.size := of_decide_eq_true (by kernel_rfl)
theorem pt_deep : Tryz.prog.keyTypeAt 3 60 = true := by kernel_rfl
theorem laid : laidOutB Tryz.prog = true := by kernel_rfl
theorem pt_law : WideMaps.KeyLaw Tryz.prog 60 := deep_law_laid laid (m := 3) (by omega) pt_row pt_deep (by rw [Tryz.underlying60])
theorem pt_key (p : Pt) : ∃ l, keyOf Tryz.prog 60 p.v = some l := by
  have hf : p.v.formed Tryz.prog 60 = true := by kernel_rfl
  have hk : Tryz.prog.keyType 60 = true := by kernel_rfl
  have hl : ∀ m, ∃ ls, Tryz.prog.keyLits (m + 3) 60 p.cells = some ls := by
    intro m
    have c0 : Tryz.prog.cellsOf 60 = 9 := by kernel_rfl
    have c1 : Tryz.prog.cellsOf 39 = 8 := by kernel_rfl
    have c2 : Tryz.prog.cellsOf 5 = 1 := by kernel_rfl
    have c3 : Tryz.prog.cellsOf 3 = 1 := by kernel_rfl
    have w0 := u8_wf p.tx.b0
    have w1 := u8_wf p.tx.b1
    have w2 := u8_wf p.tx.b2
    have w3 := u8_wf p.tx.b3
    have w4 := u8_wf p.tx.b4
    have w5 := u8_wf p.tx.b5
    have w6 := u8_wf p.tx.b6
    have w7 := u8_wf p.tx.b7
    have w8 := i64_wf p.no
    simp [Program.keyLits, Tryz.underlying60, Tryz.underlying39, Tryz.underlying5, Tryz.underlying3, c0, c1, c2, c3, Pt.cells, u8, i64, List.range, List.range.loop, w0, w1, w2, w3, w4, w5, w6, w7, w8]
  have hs : Tryz.prog.types.size + 1 = (Tryz.prog.types.size - 2) + 3 := by kernel_rfl
  obtain ⟨ls, h⟩ := hl (Tryz.prog.types.size - 2)
  refine ⟨.string (keyBytes ls), ?_⟩
  unfold keyOf
  rw [Tryz.underlying60]
  simp only [hf, hk, Bool.and_self, if_true]
  rw [hs]
  have e : p.v.cells.toList = p.cells := by simp [Pt.v, Value.cells]
  rw [e, h]
  rfl
theorem ptK : KeyL Tryz.prog 60 Pt.v := KeyL.of (Maps.Keyed.of_law pt_law) Pt.inj pt_key
end Go.Proofs.YtmoohekgheoliaaGreatDoor
