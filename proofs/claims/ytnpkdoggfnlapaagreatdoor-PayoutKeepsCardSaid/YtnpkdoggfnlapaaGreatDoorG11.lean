/- Parts SxZf SxZg SxZi SxZj SxZk SxZl. -/
import Derived.Test.YtnpkdoggfnlapaaGreatDoorG10
set_option linter.unusedSimpArgs false
set_option linter.unusedVariables false
namespace Go.Sx
open Go.RowKit
theorem Tri.mono {P : Program} {C : Ctx} {c : Code} {S : St} {Q Q' : Exit → St → Prop} (h : Tri P C c S Q) (hq : ∀ e S, Q e S → Q' e S) : Tri P C c S Q' := by
  intro a w hs
  refine Code.wp_mono (fun e a' w' h => ?_) (h a w hs)
  obtain ⟨S', h1, h2⟩ := h
  exact ⟨S', h1, hq e S' h2⟩
theorem Tri.merge {P : Program} {C : Ctx} {x y : Code} {S : St} {Q : Exit → St → Prop} (S' : St) (hx : Tri P C x S (fun e S1 => e = .normal ∧ Ent C S1 S')) (hy : Tri P C y S' Q) : Tri P C (.seq x y) S Q := by
  refine Tri.seq (Tri.mono hx fun e S1 h => ?_)
  obtain ⟨rfl, h⟩ := h
  exact cutG (Tri.ent h hy)
theorem Ent.shut2 {C : Ctx} {S : St} {i0 i1 : Nat} {M : Mem} {inv : Prop} {a0 a1 b0 b1 : Chunk} (hids : Nat.beq i0 i1 = false) (hinv : inv) (hM : memB 2 M = true) (g0 : M.get 0 = some a0) (g1 : M.get 1 = some a1)
    (k0 : S.mem.get i0 = some b0) (k1 : S.mem.get i1 = some b1) (hc : b0.isCells = true) (l0 : ChLe b0 (a0.ren fun j => (([i0, i1] : List Nat)[j]?).getD 0)) (l1 : ChLe b1 (a1.ren fun j => (([i0, i1] : List Nat)[j]?).getD 0)) : Ent C S (S.shut i0 [i0, i1] M inv) := by
  refine Ent.shut ?_ rfl hinv ⟨b0, k0, hc⟩ hM (fun j i hj => ?_)
  · rw [nbeq, decide_eq_false_iff_not] at hids
    simp [hids]
  · match j with
    | 0 => simp at hj; subst hj; exact ⟨a0, b0, g0, k0, l0⟩
    | 1 => simp at hj; subst hj; exact ⟨a1, b1, g1, k1, l1⟩
    | j + 2 => simp at hj
theorem Ends.shutN {C : Ctx} {T : TyTab} {rs : List ResultVar} {n0 : Nat} {X v : XV} {S S' : St} {e : Exit} {ch : Chunk} (he : e = .normal ∨ e = .ret) (hE : Ent C S S') (hm : S'.mem.get 0 = some ch) (hr : resX T S' rs = some v) (hv : v = X) :
    Ends C T rs 1 n0 ⟨X, [(0, ch)], none⟩ e S := by
  refine ⟨he, _, hE, by rw [hr, hv], fun i ch' h => ?_, fun i ch h => by cases h⟩
  simp only [Mem.get, nbeq] at h
  by_cases hk : 0 = i
  · subst hk
    simp only [decide_true, cond_true, Option.some.injEq] at h
    exact ⟨by omega, by rw [← h]; exact hm⟩
  · simp [hk] at h
theorem Does.at1 {P : Program} {f : FuncId} {a b : Chunk} {l : List AD} {es : List ExtP} {X : XV} {fr : Option Chunk} (h : Does P f [(a, b)] l es X fr) {Xs : List CV} {M : Mem} {c d : Nat} (rd : List Nat) (hc : M.get c = some a) (hcd : Nat.beq c d = false) (hrd : nmem c rd = false) (ha : LendsL M rd Xs l) (he : LendsX M rd es) :
    CallSpec P f (.one (.ptr c 0 0 0) :: Xs) M d { v := X.ren fun _ => d, upd := (c, b) :: frM d fr, wr := [c] } (c :: rd) := by
  rw [nbeq, decide_eq_false_iff_not] at hcd
  refine h.at [c] rd rfl (by simp [hcd]) (by simp [hrd]) (fun i c' x h1 h2 => ?_) ha he
  match i with
  | 0 =>
    simp only [List.getElem?_cons_zero, Option.some.injEq] at h1 h2
    subst h1 h2; exact hc
  | i + 1 => simp at h1
theorem Ends.does {C : Ctx} {T : TyTab} {rs : List ResultVar} {n0 i : Nat} {X : XV} {ch ch' : Chunk} {S S' : St} {e : Exit} (he : e = .normal ∨ e = .ret) (hE : Ent C S S') (hr : resX T S' rs = some X) (hm : S'.mem.get 0 = some ch) (hn : n0 ≤ i) (hm' : S'.mem.get i = some ch') :
    Ends C T rs 1 n0 ⟨X, [(0, ch)], some (i, ch')⟩ e S := by
  refine ⟨he, _, hE, hr, fun j c h => ?_, fun j c h => ?_⟩
  · simp only [Mem.get, nbeq] at h
    by_cases hk : 0 = j
    · subst hk
      simp only [decide_true, cond_true, Option.some.injEq] at h
      exact ⟨by omega, by rw [← h]; exact hm⟩
    · simp [hk] at h
  · simp only [Option.some.injEq, Prod.mk.injEq] at h
    obtain ⟨rfl, rfl⟩ := h
    exact ⟨hn, hm'⟩
theorem Tri.freeze {P : Program} {C : Ctx} {cd : Code} {S : St} {Q : Exit → St → Prop} (t : Nat) {c e sz n m : Nat} {f : Nat → List Value} (ht : lget S.slots t = some (XV.sv (.slc c sz 0 n))) (hm : S.mem.get c = some (.vec e sz m f)) (hnm : n ≤ m)
    (h : ∀ (ad : Option Addr) (cp : Nat), Tri P C cd ⟨lset S.slots t (some (XV.val (.slice ad n cp))), (S.nx, .ext (PartsAt sz 1 (fun _ => n) (fun _ => f) (fun _ => ad))) :: S.mem.del c, S.nx + 1⟩ Q) : Tri P C cd S Q := by
  intro a w hs
  obtain ⟨β, ow, g1, g2, g3, g4, g5⟩ := hs
  have hv := g1.slots t _ ht
  have hh := g1.mem c _ hm
  simp only [XV.rel, CV.rel, SV.rel] at hv
  simp only [Holds] at hh
  let ow' : Nat → Option Nat := fun k => if ow k = some c then none else ow k
  have hother : ∀ c' k, c' ≠ c → (ow' k = some c' ↔ ow k = some c') := by
    intro c' k e1
    simp only [ow']
    split
    · rename_i h2
      rw [h2]
      simp only [Option.some.injEq]
      exact ⟨(fun e => by cases e), (fun e => absurd e.symm e1)⟩
    · exact Iff.rfl
  have hex : ∃ (ad : Option Addr) (cp : Nat), a.tmps.getD t undef = .slice ad n cp ∧ ∃ O : Nat → Prop, (∀ k, O k → ow' k = none ∧ k < w.heap.size) ∧ (PartsAt sz 1 (fun _ => n) (fun _ => f) (fun _ => ad)).Ψ w (β S.nx) O := by
    by_cases hn : (β c).nil = true
    · rw [if_pos hn] at hv
      refine ⟨none, 0, by rw [hv.1, hv.2.2], fun _ => False, fun _ h => h.elim, fun i _ h0 => ?_⟩
      have h0 : 0 < n := h0
      omega
    · rw [if_neg hn] at hv hh
      obtain ⟨ad, e1, e2, e3⟩ := hv
      obtain ⟨v1, v2, v3, v4, arr, v5, v6, v7⟩ := hh
      refine ⟨some ad, (β c).cap - 0, e1, fun k => k = (β c).blk, fun k hk => ?_, fun i _ h0 => ?_⟩
      · subst hk
        exact ⟨by simp [ow', v2], (Array.getElem?_eq_some_iff.1 v5).1⟩
      · have h0 : 0 < n := h0
        have ha := e3 (by omega)
        refine ⟨ad, rfl, by rw [ha]; rfl, fun k hk => ?_⟩
        have hk : k < n := hk
        obtain ⟨q1, q2⟩ := v7 k (by omega)
        refine ⟨q1, fun j v hj => ?_⟩
        rw [ha, loc_add]
        simp only [Loc.addr, v1, Nat.zero_add, Nat.zero_mul]
        rw [cell_of_row w _ _ arr e _ v5]
        exact q2 j v hj
  obtain ⟨ad, cp, m1, O, m2, m3⟩ := hex
  have hlt := lget_some_lt ht
  have up : ∀ i, Nat.blt i S.nx = true → Nat.blt i (S.nx + 1) = true := fun i hi => by simp only [Nat.blt_eq] at hi ⊢; omega
  refine h ad cp a w ⟨β, ow', ⟨g1.defers, by simp [lset_length, g1.size], fun t' X' h' => ?_, fun c' ch hc' => ?_, fun k hk => ?_⟩, ⟨fun t' X' h' => ?_, fun c' ch hc' => ?_⟩, ⟨g3.os, g3.tape, g3.output, g3.size, fun k e1 e2 => ?_, g3.beta⟩, Nat.le_succ_of_le g4, fun k c' hk => ?_⟩
  · simp only [lget_lset] at h'
    by_cases htt : t' = t
    · subst htt; simp only [if_true, hlt] at h'; cases h'; exact m1
    · simp only [htt, if_false] at h'; exact g1.slots t' X' h'
  · simp only [Mem.get, nbeq] at hc'
    by_cases hcn' : S.nx = c'
    · simp only [hcn', decide_true, cond_true, Option.some.injEq] at hc'
      subst hc'
      exact ⟨O, m2, m3⟩
    · simp only [hcn', decide_false, cond_false, Mem.get_del] at hc'
      split at hc'
      · cases hc'
      · rename_i hne
        exact Holds.keep (g2.mem c' ch hc').2 (fun _ _ => rfl) rfl (fun _ k => hother c' k hne) (fun _ k hn => by simp [ow', hn]) (g1.mem c' ch hc')
  · simp only [ow'] at hk
    split at hk
    · exact absurd rfl hk
    · exact g1.wf k hk
  · simp only [lget_lset] at h'
    by_cases htt : t' = t
    · subst htt; simp only [if_true, hlt] at h'; cases h'; rfl
    · simp only [htt, if_false] at h'; exact XV.ok_mono up (g2.slots t' X' h')
  · simp only [Mem.get, nbeq] at hc'
    by_cases hcn' : S.nx = c'
    · simp only [hcn', decide_true, cond_true, Option.some.injEq] at hc'
      subst hc'
      exact ⟨by simp only [Nat.blt_eq]; omega, rfl⟩
    · simp only [hcn', decide_false, cond_false, Mem.get_del] at hc'
      split at hc'
      · cases hc'
      · obtain ⟨n1, n2⟩ := g2.mem c' ch hc'
        exact ⟨up _ n1, Chunk.ok_mono up n2⟩
  · obtain ⟨e3, e4⟩ := g3.keep k e1 e2
    exact ⟨e3, by simp [ow', e4]⟩
  · simp only [ow'] at hk
    split at hk
    · cases hk
    · exact up _ (g5 k c' hk)
section
variable {M : Mem} {rd : List Nat}
def PartIn (M : Mem) (rd : List Nat) (sz : Nat) (cell : List Value) (k : Nat) (f : Nat → List Value) : Prop :=
  ∃ q n ln g ad i cp, M.get q = some (.ext (PartsAt sz n ln g ad)) ∧ nmem q rd = true ∧ i < n ∧ cell = [.slice (ad i) (ln i) cp] ∧ ln i = k ∧ g i = f
theorem lend_rows_vec {c e sz n : Nat} {F : Nat → List Value} {ln : Nat → Nat} {g : Nat → Nat → List Value} (hm : M.get c = some (.vec e 1 n F)) (hrd : nmem c rd = true) (h : ∀ i, i < n → PartIn M rd sz (F i) (ln i) (g i)) : Lends M rd (.one (.slc c 1 0 n)) (.rows sz n ln g) := by
  refine Lends.rows ?_
  intro β ow w v hw hv hr
  have hh := hr c ((nmem_iff c rd).1 hrd) _ hm
  refine ⟨β c, by simpa [CV.rel, SV.rel] using hv, fun k => k < w.heap.size ∧ Free rd ow k, fun k hk => hk, ?_⟩
  simp only [Holds] at hh
  simp only [RowsP]
  by_cases hn : (β c).nil = true
  · rw [if_pos hn] at hh ⊢; exact hh
  · rw [if_neg hn] at hh ⊢
    obtain ⟨v1, v2, v3, v4, arr, v5, v6, v7⟩ := hh
    refine ⟨⟨(Array.getElem?_eq_some_iff.1 v5).1, .inr ⟨c, (nmem_iff c rd).1 hrd, v2⟩⟩, fun i hi => ?_⟩
    obtain ⟨q, n', ln', g', ad, i', cp, m1, m2, m3, m4, m5, m6⟩ := h i hi
    obtain ⟨O, k1, k2⟩ := hr q ((nmem_iff q rd).1 m2) _ m1
    obtain ⟨_, e2⟩ := v7 i hi
    have e3 := e2 0 (.slice (ad i') (ln' i') cp) (by rw [m4]; rfl)
    refine ⟨ad i', cp, ?_, fun h0 => ?_⟩
    · simp only [Loc.addr, v1, Nat.zero_add]
      rw [cell_of_row w _ _ arr e _ v5]
      simp only [Nat.mul_one, Nat.add_zero] at e3
      rw [e3, m5]
    · rw [← m5] at h0 ⊢
      rw [← m6]
      obtain ⟨a, b1, b2, b3⟩ := k2 i' m3 h0
      exact ⟨a, b1, ⟨(k1 _ b2).2, .inl (k1 _ b2).1⟩, b3⟩
theorem lend_rows_nil (sz : Nat) (ln : Nat → Nat) (g : Nat → Nat → List Value) : Lends M rd (.one (.raw (.slice none 0 0))) (.rows sz 0 ln g) := by
  refine Lends.rows ?_
  intro β ow w v _ h _
  simp only [CV.rel, SV.rel] at h
  subst h
  exact ⟨⟨0, 0, 0, true, fun _ => 0⟩, by simp [SV.rel], fun _ => False, fun _ h => h.elim, by simp [RowsP]⟩
end
end Go.Sx
namespace Go.Sx
open Go.RowKit
def St.packed2 (S : St) (ids : List Nat) (l : List Chunk) : St := ⟨mapO (packX ids l S.nx) S.slots, (S.nx, .abs (PackP l)) :: mapM (packS ids l S.nx) (S.mem.dels ids), S.nx + 1⟩
theorem Ent.pack2 {C : Ctx} {S : St} (ids : List Nat) (l : List Chunk) (hnd : ids.Nodup) (hlen : ids.length = l.length) (hl : (l.all fun ch => ch.closed && !ch.isRo) = true) (hm : ∀ (j i : Nat) (ch : Chunk), ids[j]? = some i → l[j]? = some ch → ∃ ch0, S.mem.get i = some ch0 ∧ ChLe ch0 ch) : Ent C S (S.packed2 ids l) := by
  rintro a w ⟨β, ow, g1, g2, g3, g4, g5⟩
  have hon : ∀ k c, ow k = some c → c < S.nx := fun k c h => by simpa using g5 k c h
  have hl' : ∀ (j : Nat) (ch : Chunk), l[j]? = some ch → ch.isRo = false ∧ ch.closed = true := fun j ch hj => by
    have := List.all_eq_true.1 hl ch (List.mem_of_getElem? hj)
    simp only [Bool.and_eq_true, Bool.not_eq_true'] at this
    exact ⟨this.2, this.1⟩
  have hH : ∀ (j i : Nat) (ch : Chunk), ids[j]? = some i → l[j]? = some ch → i < S.nx ∧ Holds β ow w i ch := fun j i ch hi hj => by
    obtain ⟨ch0, h1, h2⟩ := hm j i ch hi hj
    exact ⟨by simpa using (g2.mem i _ h1).1, h2.holds (g1.mem i _ h1)⟩
  have hids : ∀ i ∈ ids, ∃ j ch, ids[j]? = some i ∧ l[j]? = some ch := fun i hi => by
    obtain ⟨j, hj⟩ := List.getElem?_of_mem hi
    have := (List.getElem?_eq_some_iff.1 hj).1
    exact ⟨j, l[j]'(by omega), hj, List.getElem?_eq_getElem (by omega)⟩
  have hbase : ∀ i ∈ ids, (β i).nil = true ∨ (β i).base = 0 := fun i hi => by
    obtain ⟨j, ch, h1, h2⟩ := hids i hi
    have h3 := (hH j i ch h1 h2).2
    obtain ⟨k1, k2⟩ := hl' j ch h2
    cases ch with
    | cells e cs => exact .inr h3.2.1
    | vec e sz n f =>
      simp only [Holds] at h3
      by_cases hn : (β i).nil = true
      · exact .inl hn
      · rw [if_neg hn] at h3; exact .inr h3.1
    | abs A => exact .inr h3.2.1
    | ro _ _ _ => cases k1
    | ext _ => cases k1
  have hinx : ∀ i ∈ ids, i < S.nx := fun i hi => by
    obtain ⟨j, ch, h1, h2⟩ := hids i hi
    exact (hH j i ch h1 h2).1
  let L : Nat → Loc := fun j => β (ids.getD j 0)
  have hL : ∀ (j i : Nat), ids[j]? = some i → L j = β i := fun j i h => by simp [L, List.getD_eq_getElem?_getD, h]
  let β' := setβ β S.nx (Loc.mk 0 0 0 false (subEnc ids.length L))
  let ow' : Nat → Option Nat := fun k => match ow k with | some c => if c ∈ ids then some S.nx else some c | none => none
  have hold : ∀ c, Nat.blt c S.nx = true → β' c = β c := fun c hc => by
    have : c ≠ S.nx := by have : c < S.nx := by simpa using hc
                          omega
    simp [β', setβ, this]
  have hnew : β' S.nx = Loc.mk 0 0 0 false (subEnc ids.length L) := by simp [β', setβ]
  have hup : ∀ c, Nat.blt c S.nx = true → Nat.blt c (S.nx + 1) = true := fun c hc => by simp only [Nat.blt_eq] at hc ⊢; omega
  have hother : ∀ c k, c ∉ ids → c < S.nx → (ow' k = some c ↔ ow k = some c) := by
    intro c k e1 e2
    simp only [ow']
    cases hk : ow k with
    | none => simp
    | some c0 =>
      simp only
      by_cases h : c0 ∈ ids
      · rw [if_pos h]
        simp only [Option.some.injEq]
        exact ⟨fun e => by omega, fun e => absurd (e ▸ h) e1⟩
      · rw [if_neg h]
  have hmine : ∀ k, ow' k = some S.nx ↔ ∃ i ∈ ids, ow k = some i := by
    intro k
    simp only [ow']
    cases hk : ow k with
    | none => simp
    | some c0 =>
      simp only
      by_cases h : c0 ∈ ids
      · rw [if_pos h]; simp [h]
      · rw [if_neg h]
        simp only [Option.some.injEq]
        constructor
        · intro e; have := hon k _ hk; omega
        · rintro ⟨i, h1, h2⟩; exact absurd (h2 ▸ h1) h
  have hinner : ∀ (j i : Nat), ids[j]? = some i → (β' S.nx).inner ids.length j = ⟨(β i).blk, 0, (β i).cap, (β i).nil, (β i).sub⟩ := fun j i h => by
    rw [hnew, subEnc_inner _ _ (List.getElem?_eq_some_iff.1 h).1, hL j i h]
  have hP : Packs β β' ids l S.nx (fun c => Nat.blt c S.nx) := ⟨hold, fun j c h => by rw [hinner j c h]; exact ⟨rfl, rfl, rfl⟩, hbase, fun k c h hv => by
    obtain ⟨j, ch, h1, h2⟩ := hids c (List.mem_of_getElem? h)
    obtain rfl : j = k := by
      have := lidx_nodup hnd h
      rw [lidx_nodup hnd h1] at this; cases this; rfl
    have h3 := (hH j c ch h1 h2).2
    obtain ⟨k1, _⟩ := hl' j ch h2
    cases ch with
    | cells e cs => exact h3.2.1
    | vec e sz n f => simp [isVec, lnth_eq, h2] at hv
    | abs A => exact h3.2.1
    | ro _ _ _ => cases k1
    | ext _ => cases k1⟩
  refine ⟨β', ow', ⟨g1.defers, ?_, fun t X hX => ?_, fun c ch hc => ?_, fun k hk => ?_⟩, ⟨fun t X hX => ?_, fun c ch hc => ?_⟩, ⟨g3.os, g3.tape, g3.output, g3.size, fun k e1 e2 => ?_, fun c hc => by rw [hold c (by simp only [Nat.blt_eq]; omega)]; exact g3.beta c hc⟩, by simp only [St.packed2]; omega, fun k c hc => ?_⟩
  · rw [g1.size]; simp [St.packed2, mapO_length]
  · simp only [St.packed2, mapO_get, Option.map_eq_some_iff] at hX
    obtain ⟨X0, h1, rfl⟩ := hX
    exact packX_rel hP (g2.slots t X0 h1) (g1.slots t X0 h1)
  · simp only [St.packed2, Mem.get, nbeq, mapM_get, Mem.get_dels] at hc
    by_cases hcc : S.nx = c
    · subst hcc
      simp only [decide_true, cond_true, Option.some.injEq] at hc
      subst hc
      refine ⟨by rw [hnew], by rw [hnew], ?_⟩
      refine ⟨fun j => (β' S.nx).inner ids.length j, fun k => (ow k).bind fun c => lidx c ids, fun k hk => ?_, fun k => ?_, fun j hj => ?_, fun k c hk => ?_, hl', fun j ch hj => ?_⟩
      · cases h0 : ow k with
        | none => exact absurd (show ((ow k).bind fun c => lidx c ids) = none by rw [h0]; rfl) hk
        | some c => exact g1.wf k (by simp [h0])
      · simp only [hmine]
        constructor
        · rintro ⟨i, h1, h2⟩
          obtain ⟨j, hj⟩ := List.getElem?_of_mem h1
          rw [h2]; simp [lidx_nodup hnd hj]
        · intro h
          cases h0 : ow k with
          | none => rw [h0] at h; exact absurd rfl h
          | some c =>
            rw [h0] at h
            cases h1 : lidx c ids with
            | none => simp [h1] at h
            | some j => exact ⟨c, List.mem_of_getElem? (lidx_get h1), rfl⟩
      · rw [hlen, hnew]; rfl
      · obtain ⟨c0, h1, h2⟩ := Option.bind_eq_some_iff.1 hk
        rw [← hlen]; exact (List.getElem?_eq_some_iff.1 (lidx_get h2)).1
      · have hjl : j < ids.length := by rw [hlen]; exact (List.getElem?_eq_some_iff.1 hj).1
        obtain ⟨i, hi⟩ : ∃ i, ids[j]? = some i := ⟨_, List.getElem?_eq_getElem hjl⟩
        obtain ⟨k1, k2⟩ := hl' j ch hj
        have hh := (hH j i ch hi hj).2
        have ho : ∀ k, ((ow k).bind fun c => lidx c ids) = some j ↔ ow k = some i := fun k => by
          rw [Option.bind_eq_some_iff]
          constructor
          · rintro ⟨c, h1, h2⟩
            have := lidx_get h2
            rw [hi] at this; cases this; exact h1
          · intro h; exact ⟨i, h, lidx_nodup hnd hi⟩
        have hin := hinner j i hi
        by_cases hz : (β i).nil = true ∧ isVec l j = true
        · cases ch with
          | vec e sz n f =>
            simp only [Holds] at hh ⊢
            rw [if_pos hz.1] at hh
            rw [if_pos (by rw [hin]; exact hz.1)]
            exact hh
          | _ => simp [isVec, lnth_eq, hj] at hz
        · have hbb : (β i).base = 0 := by
            rcases hbase i (List.mem_of_getElem? hi) with h | h
            · exact hP.obj j i hi (by simpa using fun e => hz ⟨h, e⟩)
            · exact h
          have := Holds.trans (β := β) (β' := fun j => (β' S.nx).inner ids.length j) (ow := ow) (ow' := fun k => (ow k).bind fun c => lidx c ids) (w := w) (w' := w) (c := i) (c' := j) (ρ := id) (ch := ch) (p := fun _ => false) (Chunk.closed_ok k2) (fun _ h => by cases h) (by simp only [hin]) (by simp only [hin, hbb]) (by simp only [hin]) (.inl ⟨by simp only [hin], by simp only [hin]⟩) k1 ho (fun k hk => rfl) hh
          rwa [Chunk.ren_closed k2] at this
    · simp only [hcc, decide_false, cond_false, Option.map_eq_some_iff] at hc
      obtain ⟨ch0, hc, rfl⟩ := hc
      split at hc
      · cases hc
      · rename_i hni
        obtain ⟨k1, k2⟩ := g2.mem c ch0 hc
        have hlt : c < S.nx := by simpa using k1
        have hh := g1.mem c ch0 hc
        cases ch0 with
        | cells e cs =>
          obtain ⟨h3, h4, h5, arr, h6, h7⟩ := hh
          exact ⟨by rw [hold c k1]; exact h3, by rw [hold c k1]; exact h4, by rw [hold c k1, hother c _ hni hlt]; exact h5, arr, by rw [hold c k1]; exact h6, packSs_rel hP k2 h7⟩
        | _ => exact Holds.keep k2 hold (hold c k1) (fun _ k => hother c k hni hlt) (fun _ k hn => by simp [ow', hn]) hh
  · simp only [ow'] at hk
    cases h0 : ow k with
    | none => rw [h0] at hk; exact absurd rfl hk
    | some c => exact g1.wf k (by simp [h0])
  · simp only [St.packed2, mapO_get, Option.map_eq_some_iff] at hX ⊢
    obtain ⟨X0, h1, rfl⟩ := hX
    exact packX_ok hup (by simp) (g2.slots t X0 h1)
  · simp only [St.packed2, Mem.get, nbeq, mapM_get, Mem.get_dels] at hc ⊢
    by_cases hcc : S.nx = c
    · subst hcc
      simp only [decide_true, cond_true, Option.some.injEq] at hc
      subst hc
      exact ⟨by simp, rfl⟩
    · simp only [hcc, decide_false, cond_false, Option.map_eq_some_iff] at hc
      obtain ⟨ch0, hc, rfl⟩ := hc
      split at hc
      · cases hc
      · obtain ⟨k1, k2⟩ := g2.mem c ch0 hc
        refine ⟨hup c k1, ?_⟩
        cases ch0 with
        | cells e cs => exact mapSs_ok (fun s hs => packS_ok hup (by simp) hs) k2
        | _ => rfl
  · obtain ⟨e3, e4⟩ := g3.keep k e1 e2
    exact ⟨e3, by simp [ow', e4]⟩
  · simp only [ow'] at hc
    cases h0 : ow k with
    | none => rw [h0] at hc; cases hc
    | some c1 =>
      rw [h0] at hc
      simp only at hc
      by_cases h : c1 ∈ ids
      · rw [if_pos h] at hc
        simp only [Option.some.injEq] at hc
        subst hc; simp [St.packed2]
      · rw [if_neg h] at hc
        simp only [Option.some.injEq] at hc
        subst hc; exact hup c1 (g5 k c1 h0)
theorem lend_ins {M : Mem} {rd : List Nat} {c j m k n e sz : Nat} {l : List Chunk} {f g : Nat → List Value} (hm : M.get c = some (.abs (PackP l))) (hrd : nmem c rd = true) (hml : m = l.length) (hl : l[j]? = some (.vec e sz n f)) (hk : k ≤ n) (hg : ∀ i, i < k → g i = f i) : Lends M rd (.one (.ins c m j k)) (.row sz k g) := by
  subst hml
  refine Lends.row ?_
  intro β ow w v _ h hr
  obtain ⟨p1, p2, βP, owP, q1, q2, q3, q4, q5, q6⟩ := hr c ((nmem_iff c rd).1 hrd) _ hm
  replace q2 : ∀ k, ow k = some c ↔ owP k ≠ none := q2
  have hsub : (⟨(β c).blk, 0, subs (β c) 0, false, fun j => subs (β c) (j + 1)⟩ : Loc) = β c := by
    cases hb : β c with
    | mk blk base cap nil sub =>
      rw [hb] at p1 p2
      simp only at p1 p2
      subst p1 p2
      rfl
  have hj : j < l.length := (List.getElem?_eq_some_iff.1 hl).1
  have hβ : βP j = (β c).inner l.length j := by rw [q3 j hj, hsub]
  have hh := q6 j _ hl
  simp only [Holds] at hh
  simp only [CV.rel, SV.rel] at h
  rw [← hβ] at h
  refine ⟨βP j, ?_, ?_⟩
  · simp only [SV.rel]
    by_cases hn : (βP j).nil = true
    · rw [if_pos hn] at h ⊢
      exact ⟨h.1, trivial, h.2⟩
    · rw [if_neg hn] at h ⊢
      obtain ⟨a, h1, h2, h3⟩ := h
      exact ⟨a, by simpa using h1, by omega, fun h0 => by rw [h3 h0, Nat.zero_mul]⟩
  · unfold RoAt
    by_cases hn : (βP j).nil = true
    · rw [if_pos hn] at h ⊢
      exact h.2
    · rw [if_neg hn] at hh ⊢
      obtain ⟨v1, v2, v3, v4, arr, v5, v6, v7⟩ := hh
      refine ⟨⟨(Array.getElem?_eq_some_iff.1 v5).1, .inr ⟨c, (nmem_iff c rd).1 hrd, (q2 _).2 (by rw [v2]; simp)⟩⟩, fun i hi => ?_⟩
      obtain ⟨e1, e2⟩ := v7 i (by omega)
      rw [hg i hi]
      refine ⟨e1, fun q u hu => ?_⟩
      simp only [Loc.addr, v1, Nat.zero_add]
      have := e2 q u hu
      rw [cell_of_row w _ _ arr e _ v5]
      exact this
end Go.Sx
namespace Go.Sx
open Go.RowKit
def AC.at (w : World) (O : Nat → Prop) : AC → Option Addr × Nat → Value → Prop
  | .raw u, _, v => v = u
  | .row sz n f, p, v => v = .slice p.1 n p.2 ∧ ((p = (none, 0) ∧ n = 0) ∨ ∃ a b off, p.1 = some a ∧ n ≤ p.2 ∧ (0 < p.2 → a = ⟨b, off, none⟩) ∧ O b ∧ ∀ k, k < n → (f k).length = sz ∧ ∀ j u, (f k)[j]? = some u → w.cell? ⟨b, off + (k * sz + j), none⟩ = some u)
theorem AC.at_mono {w w' : World} {O O' : Nat → Prop} (hO : ∀ k, O k → O' k) (hk : ∀ k, O k → w'.heap[k]? = w.heap[k]?) {x : AC} {p : Option Addr × Nat} {v : Value} (h : x.at w O p v) : x.at w' O' p v := by
  cases x with
  | raw u => exact h
  | row sz n f =>
    obtain ⟨h1, h2⟩ := h
    refine ⟨h1, h2.imp id ?_⟩
    rintro ⟨a, b, off, e1, e2, e3, e4, e5⟩
    refine ⟨a, b, off, e1, e2, e3, hO _ e4, fun k hkn => ⟨(e5 k hkn).1, fun j u hj => ?_⟩⟩
    rw [World.cell?_of_block (w := w) (hk _ e4)]
    exact (e5 k hkn).2 j u hj
def fillA : Nat → List AC → (Nat → Option Addr × Nat) → List Value
  | _, [], _ => []
  | j, .raw u :: r, g => u :: fillA (j + 1) r g
  | j, .row _ n _ :: r, g => .slice (g j).1 n (g j).2 :: fillA (j + 1) r g
theorem fillA_length : ∀ (l : List AC) (j : Nat) (g : Nat → Option Addr × Nat), (fillA j l g).length = l.length
  | [], _, _ => rfl
  | .raw _ :: r, j, g => by simp [fillA, fillA_length r]
  | .row _ _ _ :: r, j, g => by simp [fillA, fillA_length r]
theorem fillA_at {w : World} {O : Nat → Prop} : ∀ (l : List AC) (j0 : Nat) (g : Nat → Option Addr × Nat) (j : Nat) (x : AC) (v : Value), l[j]? = some x → x.at w O (g (j0 + j)) v → (fillA j0 l g)[j]? = some v
  | [], _, _, _, _, _, h, _ => by simp at h
  | y :: r, j0, g, 0, x, v, h, hx => by
    simp only [List.getElem?_cons_zero, Option.some.injEq] at h
    subst h
    cases y with
    | raw u => simp only [AC.at] at hx; simp [fillA, hx]
    | row sz n f => obtain ⟨h1, _⟩ := hx; simp [fillA, h1]
  | y :: r, j0, g, j + 1, x, v, h, hx => by
    have h' : r[j]? = some x := by simpa using h
    have := fillA_at r (j0 + 1) g j x v h' (by rw [show j0 + 1 + j = j0 + (j + 1) by omega]; exact hx)
    cases y <;> simpa [fillA] using this
theorem fillA_get : ∀ (l : List AC) (j0 : Nat) (g : Nat → Option Addr × Nat) (j : Nat) (v : Value), (fillA j0 l g)[j]? = some v → ∃ x, l[j]? = some x ∧ (∀ u, x = .raw u → v = u) ∧ ∀ sz n f, x = .row sz n f → v = .slice (g (j0 + j)).1 n (g (j0 + j)).2
  | [], _, _, _, _, h => by simp [fillA] at h
  | y :: r, j0, g, 0, v, h => by
    refine ⟨y, rfl, fun u e => ?_, fun sz n f e => ?_⟩
    · subst e; simpa [fillA] using h.symm
    · subst e; simpa [fillA] using h.symm
  | y :: r, j0, g, j + 1, v, h => by
    have h' : (fillA (j0 + 1) r g)[j]? = some v := by cases y <;> simpa [fillA] using h
    obtain ⟨x, h1, h2, h3⟩ := fillA_get r (j0 + 1) g j v h'
    refine ⟨x, by simpa using h1, h2, fun sz n f e => ?_⟩
    have := h3 sz n f e
    rwa [show j0 + 1 + j = j0 + (j + 1) by omega] at this
def DeepP (e sz n : Nat) (F : Nat → List AC) : AbsP where
  Φ w b s O := O b ∧ n ≤ s 0 ∧ s 0 ≤ maxLen ∧ (∀ k, O k → k < w.heap.size) ∧ ∃ arr : Array Value, w.heap[b]? = some (.cells arr e (0, 0)) ∧ arr.size = s 0 * sz ∧
    ∀ i, i < n → (F i).length = sz ∧ ∀ j x, (F i)[j]? = some x → ∃ p v, arr[i * sz + j]? = some v ∧ x.at w (fun k => O k ∧ k ≠ b) p v
  loc := by
    rintro w w' b s O O' hk hO ⟨h1, h2, h3, h4, arr, h5, h6, h7⟩
    refine ⟨(hO b).2 h1, h2, h3, fun k hk' => ?_, arr, by rw [hk b h1]; exact h5, h6, fun i hi => ⟨(h7 i hi).1, fun j x hx => ?_⟩⟩
    · have hk1 := (hO k).1 hk'
      have e := hk k hk1
      rw [Array.getElem?_eq_getElem (h4 k hk1)] at e
      exact (Array.getElem?_eq_some_iff.1 e).1
    · obtain ⟨p, v, e1, e2⟩ := (h7 i hi).2 j x hx
      exact ⟨p, v, e1, AC.at_mono (x := x) (p := p) (v := v) (fun k hk' => ⟨(hO k).2 hk'.1, hk'.2⟩) (fun k hk' => hk k hk'.1) e2⟩
  in_heap := by
    rintro w b s O ⟨_, _, _, h4, _⟩
    exact h4
def PartsO (n : Nat) (F : Nat → List AC) (ad : Nat → Nat → Option Addr × Nat) : AbsP where
  Φ w _ _ O := (∀ k, O k → k < w.heap.size) ∧ ∀ i, i < n → ∀ j x, (F i)[j]? = some x → ∃ v, AC.at w O x (ad i j) v
  loc := by
    rintro w w' b s O O' hk hO ⟨h4, h5⟩
    refine ⟨fun k hk' => ?_, fun i hi j x hx => ?_⟩
    · have hk1 := (hO k).1 hk'
      have e := hk k hk1
      rw [Array.getElem?_eq_getElem (h4 k hk1)] at e
      exact (Array.getElem?_eq_some_iff.1 e).1
    · obtain ⟨v, e2⟩ := h5 i hi j x hx
      exact ⟨v, AC.at_mono (x := x) (p := ad i j) (v := v) (fun k hk' => (hO k).2 hk') hk e2⟩
  in_heap := by
    rintro w b s O ⟨h4, _⟩
    exact h4
theorem Tri.openDeep {P : Program} {C : Ctx} {cd : Code} {S : St} {Q : Exit → St → Prop} {c e sz n : Nat} {F : Nat → List AC} (hc : S.mem.get c = some (.abs (DeepP e sz n F)))
    (h : ∀ ad : Nat → Nat → Option Addr × Nat, Tri P C cd ⟨S.slots, (c, .vec e sz n fun i => fillA 0 (F i) (ad i)) :: (S.nx, .abs (PartsO n F ad)) :: S.mem.del c, S.nx + 1⟩ Q) : Tri P C cd S Q := by
  intro a w hs
  obtain ⟨β, ow, g1, g2, g3, g4, g5⟩ := hs
  obtain ⟨k0, k1, m1, m2, m3, m4, arr, m5, m6, m7⟩ := g1.mem c _ hc
  have hcn : c < S.nx := by simpa using (g2.mem c _ hc).1
  have hch : ∀ ij : Nat × Nat, ∃ p : Option Addr × Nat, ij.1 < n → ∀ x, (F ij.1)[ij.2]? = some x → ∃ v, arr[ij.1 * sz + ij.2]? = some v ∧ x.at w (fun k => ow k = some c ∧ k ≠ (β c).blk) p v := by
    rintro ⟨i, j⟩
    by_cases hi : i < n
    · cases hx : (F i)[j]? with
      | none => exact ⟨(none, 0), fun _ x hx' => by cases hx'⟩
      | some x =>
        obtain ⟨p, v, e1, e2⟩ := (m7 i hi).2 j x hx
        exact ⟨p, fun _ x' hx' => by cases hx'; exact ⟨v, e1, e2⟩⟩
    · exact ⟨(none, 0), fun h => absurd h hi⟩
  obtain ⟨ad0, had⟩ := Classical.axiomOfChoice hch
  let ad : Nat → Nat → Option Addr × Nat := fun i j => ad0 (i, j)
  have had' : ∀ i, i < n → ∀ j x, (F i)[j]? = some x → ∃ v, arr[i * sz + j]? = some v ∧ x.at w (fun k => ow k = some c ∧ k ≠ (β c).blk) (ad i j) v := fun i hi j x hx => had (i, j) hi x hx
  have hnone : ∀ k, ow k ≠ some S.nx := fun k e => by
    have := g5 k S.nx e
    simp only [Nat.blt_eq] at this
    omega
  let ow' : Nat → Option Nat := fun k => if ow k = some c ∧ k ≠ (β c).blk then some S.nx else ow k
  let β' : Nat → Loc := fun x => if x = S.nx then ⟨0, 0, 0, false, fun _ => 0⟩ else β x
  have hβ : ∀ x, Nat.blt x S.nx = true → β' x = β x := fun x hx => by
    simp only [Nat.blt_eq] at hx
    simp only [β']; rw [if_neg (by omega)]
  have howc : ∀ k, ow' k = some c ↔ k = (β c).blk := by
    intro k
    simp only [ow']
    split
    · rename_i h1
      simp only [Option.some.injEq]
      exact ⟨fun e => by omega, fun e => absurd e h1.2⟩
    · rename_i h1
      refine ⟨fun e => ?_, fun e => by rw [e]; exact m1⟩
      by_cases h2 : k = (β c).blk
      · exact h2
      · exact absurd ⟨e, h2⟩ h1
  have hown : ∀ k, ow' k = some S.nx ↔ (ow k = some c ∧ k ≠ (β c).blk) := by
    intro k
    simp only [ow']
    split
    · rename_i h1; exact ⟨fun _ => h1, fun _ => rfl⟩
    · rename_i h1; exact ⟨fun e => absurd e (hnone k), fun e => absurd e h1⟩
  have hother : ∀ x k, x ≠ c → x ≠ S.nx → (ow' k = some x ↔ ow k = some x) := by
    intro x k e1 e2
    simp only [ow']
    split
    · rename_i h1
      rw [h1.1]
      simp only [Option.some.injEq]
      exact ⟨fun e => absurd e.symm e2, fun e => absurd e.symm e1⟩
    · exact Iff.rfl
  have up : ∀ i, Nat.blt i S.nx = true → Nat.blt i (S.nx + 1) = true := fun i hi => by simp only [Nat.blt_eq] at hi ⊢; omega
  refine h ad a w ⟨β', ow', ⟨g1.defers, g1.size, fun t X hX => XV.rel_congr hβ (g2.slots t X hX) (g1.slots t X hX), fun c' ch hc' => ?_, fun k hk => ?_⟩, ⟨fun t X hX => XV.ok_mono up (g2.slots t X hX), fun c' ch hc' => ?_⟩, ⟨g3.os, g3.tape, g3.output, g3.size, fun k e1 e2 => ?_, fun x hx => ?_⟩, Nat.le_succ_of_le g4, fun k c' hk => ?_⟩
  · simp only [Mem.get, nbeq] at hc'
    by_cases hcc : c = c'
    · subst hcc
      simp only [decide_true, cond_true, Option.some.injEq] at hc'
      subst hc'
      have e0 : β' c = β c := hβ c (by simpa using hcn)
      simp only [Holds]
      rw [e0, if_neg (by rw [k0]; decide)]
      refine ⟨k1, (howc _).2 rfl, m2, m3, arr, m5, m6, fun i hi => ⟨by rw [fillA_length]; exact (m7 i hi).1, fun j v hj => ?_⟩⟩
      obtain ⟨x, hx, _, _⟩ := fillA_get (F i) 0 (ad i) j v hj
      obtain ⟨v', e1, e2⟩ := had' i hi j x hx
      have e3 := fillA_at (w := w) (F i) 0 (ad i) j x v' hx (by rw [Nat.zero_add]; exact e2)
      rw [hj] at e3
      cases e3
      exact e1
    · simp only [hcc, decide_false, cond_false] at hc'
      by_cases hcn' : S.nx = c'
      · simp only [hcn', decide_true, cond_true, Option.some.injEq] at hc'
        subst hc'
        have e0 : β' c' = ⟨0, 0, 0, false, fun _ => 0⟩ := by simp only [β']; rw [if_pos hcn'.symm]
        simp only [Holds]
        rw [e0]
        refine ⟨rfl, rfl, fun k hk => ?_, fun i hi j x hx => ?_⟩
        · rw [← hcn'] at hk
          exact m4 k ((hown k).1 hk).1
        · obtain ⟨v, _, e2⟩ := had' i hi j x hx
          exact ⟨v, AC.at_mono (x := x) (p := ad i j) (v := v) (fun k hk => by rw [← hcn']; exact (hown k).2 hk) (fun _ _ => rfl) e2⟩
      · simp only [hcn', decide_false, cond_false, Mem.get_del] at hc'
        have hne : ¬ c' = c := fun e => hcc e.symm
        rw [if_neg hne] at hc'
        exact Holds.keep (g2.mem c' ch hc').2 hβ (hβ c' (g2.mem c' ch hc').1) (fun _ k => hother c' k hne (fun e => hcn' e.symm)) (fun _ k hn => by simp [ow', hn]) (g1.mem c' ch hc')
  · simp only [ow'] at hk
    split at hk
    · rename_i h1; exact m4 k h1.1
    · exact g1.wf k hk
  · simp only [Mem.get, nbeq] at hc'
    by_cases hcc : c = c'
    · subst hcc
      simp only [decide_true, cond_true, Option.some.injEq] at hc'
      subst hc'
      exact ⟨by simp only [Nat.blt_eq]; omega, rfl⟩
    · simp only [hcc, decide_false, cond_false] at hc'
      by_cases hcn' : S.nx = c'
      · simp only [hcn', decide_true, cond_true, Option.some.injEq] at hc'
        subst hc'
        exact ⟨by simp only [Nat.blt_eq]; omega, rfl⟩
      · simp only [hcn', decide_false, cond_false, Mem.get_del] at hc'
        have hne : ¬ c' = c := fun e => hcc e.symm
        rw [if_neg hne] at hc'
        obtain ⟨n1, n2⟩ := g2.mem c' ch hc'
        exact ⟨up _ n1, Chunk.ok_mono up n2⟩
  · obtain ⟨e3, e4⟩ := g3.keep k e1 e2
    exact ⟨e3, by simp [ow', e4]⟩
  · rw [hβ x (by simp only [Nat.blt_eq]; omega)]
    exact g3.beta x hx
  · simp only [ow'] at hk
    split at hk
    · cases hk; simp only [Nat.blt_eq]; omega
    · exact up _ (g5 k c' hk)
theorem lend_partO {M : Mem} {rd : List Nat} {q n i j sz k : Nat} {F : Nat → List AC} {ad : Nat → Nat → Option Addr × Nat} {f : Nat → List Value} (hm : M.get q = some (.abs (PartsO n F ad))) (hrd : nmem q rd = true) (hi : i < n) (hx : (F i)[j]? = some (.row sz k f)) : Lends M rd (.one (.raw (.slice (ad i j).1 k (ad i j).2))) (.row sz k f) := by
  refine Lends.row ?_
  intro β ow w v hw hv hr
  simp only [CV.rel, SV.rel] at hv
  obtain ⟨_, _, h4, h5⟩ := hr q ((nmem_iff q rd).1 hrd) _ hm
  obtain ⟨v', _, h2⟩ := h5 i hi j _ hx
  rcases h2 with ⟨e1, e2⟩ | ⟨a, b, off, e1, e2, e3, e4, e5⟩
  · refine ⟨⟨0, 0, 0, true, fun _ => 0⟩, ?_, ?_⟩
    · simp only [SV.rel, if_true]
      rw [hv, e1, e2]
      simp
    · simp [RoAt, e2]
  · refine ⟨⟨b, off, (ad i j).2, false, fun _ => 0⟩, ?_, ?_⟩
    · simp only [SV.rel, Bool.false_eq_true, if_false]
      refine ⟨a, by rw [hv, e1, Nat.sub_zero], by omega, fun h0 => ?_⟩
      rw [e3 h0]
      simp [Loc.addr]
    · simp only [RoAt, Bool.false_eq_true, if_false]
      refine ⟨⟨h4 b e4, .inr ⟨q, (nmem_iff q rd).1 hrd, e4⟩⟩, fun k' hk' => ⟨(e5 k' hk').1, fun j' u hj' => ?_⟩⟩
      exact (e5 k' hk').2 j' u hj'
end Go.Sx
namespace Go.Sx
open Go.RowKit
def Backed (M : Mem) (qs : List Nat) (x : AC) (p : Option Addr × Nat) : Prop :=
  (∃ u, x = .raw u) ∨ (∃ sz f, x = .row sz 0 f ∧ p = (none, 0)) ∨ ∃ q n F ad i j, q ∈ qs ∧ M.get q = some (.abs (PartsO n F ad)) ∧ i < n ∧ (F i)[j]? = some x ∧ ad i j = p
theorem Backed.old {M : Mem} {qs : List Nat} {q n i j : Nat} {F : Nat → List AC} {ad : Nat → Nat → Option Addr × Nat} {x : AC} (hq : q ∈ qs) (hm : M.get q = some (.abs (PartsO n F ad))) (hi : i < n) (hx : (F i)[j]? = some x) : Backed M qs x (ad i j) := .inr (.inr ⟨q, n, F, ad, i, j, hq, hm, hi, hx, rfl⟩)
theorem Ent.shutDeep {C : Ctx} {S : St} {c e sz m n : Nat} {G : Nat → List Value} {F : Nat → List AC} {ad : Nat → Nat → Option Addr × Nat} (qs : List Nat) (hc : S.mem.get c = some (.vec e sz m G)) (h0 : 0 < n) (hn : n ≤ m) (hcq : c ∉ qs)
    (hG : ∀ i, i < n → G i = fillA 0 (F i) (ad i)) (hF : ∀ i, i < n → ∀ j x, (F i)[j]? = some x → Backed S.mem qs x (ad i j)) : Ent C S ⟨S.slots, (c, .abs (DeepP e sz n F)) :: S.mem.dels (c :: qs), S.nx⟩ := by
  rintro a w ⟨β, ow, g1, g2, g3, g4, g5⟩
  have hh := g1.mem c _ hc
  simp only [Holds] at hh
  by_cases hnil : (β c).nil = true
  · rw [if_pos hnil] at hh; omega
  rw [if_neg hnil] at hh
  obtain ⟨v1, v2, v3, v4, arr, v5, v6, v7⟩ := hh
  have hcn : c < S.nx := by simpa using (g2.mem c _ hc).1
  let ow' : Nat → Option Nat := fun k => match ow k with | some q => if q ∈ qs then some c else some q | none => none
  have howc : ∀ k, ow' k = some c ↔ (ow k = some c ∨ ∃ q ∈ qs, ow k = some q) := by
    intro k
    simp only [ow']
    cases hk : ow k with
    | none => simp
    | some q =>
      simp only [Option.some.injEq]
      split
      · rename_i h; exact ⟨fun _ => .inr ⟨q, h, rfl⟩, fun _ => rfl⟩
      · rename_i h
        simp only [Option.some.injEq]
        exact ⟨fun e => .inl e, fun e => e.elim id fun ⟨q', h1, h2⟩ => absurd (h2 ▸ h1) h⟩
  have hother : ∀ x k, x ≠ c → x ∉ qs → (ow' k = some x ↔ ow k = some x) := by
    intro x k e1 e2
    simp only [ow']
    cases hk : ow k with
    | none => simp
    | some q =>
      simp only
      split
      · rename_i h
        simp only [Option.some.injEq]
        exact ⟨fun e => absurd e.symm e1, fun e => absurd (e ▸ h) e2⟩
      · exact Iff.rfl
  have hnone : ∀ k, ow' k = none ↔ ow k = none := by
    intro k
    simp only [ow']
    cases hk : ow k with
    | none => simp
    | some q => simp only [reduceCtorEq, iff_false]; split <;> simp
  refine ⟨β, ow', ⟨g1.defers, g1.size, g1.slots, fun c' ch hc' => ?_, fun k hk => g1.wf k fun e => hk ((hnone k).2 e)⟩, ⟨g2.slots, fun c' ch hc' => ?_⟩, ⟨g3.os, g3.tape, g3.output, g3.size, fun k e1 e2 => ?_, g3.beta⟩, g4, fun k c' hk => ?_⟩
  · simp only [Mem.get, nbeq] at hc'
    by_cases hcc : c = c'
    · subst hcc
      simp only [decide_true, cond_true, Option.some.injEq] at hc'
      subst hc'
      have hlt : ∀ k, ow' k = some c → k < w.heap.size := fun k hk => g1.wf k fun e => by rw [(hnone k).2 e] at hk; cases hk
      refine ⟨by simpa using hnil, v1, (howc _).2 (.inl v2), Nat.le_trans hn v3, v4, hlt, arr, v5, v6, fun i hi => ?_⟩
      obtain ⟨w1, w2⟩ := v7 i (by omega)
      rw [hG i hi, fillA_length] at w1
      refine ⟨w1, fun j x hx => ?_⟩
      have hb := hF i hi j x hx
      have hat : AC.at w (fun k => ow' k = some c ∧ k ≠ (β c).blk) x (ad i j) (match x with | .raw u => u | .row _ n _ => .slice (ad i j).1 n (ad i j).2) := by
        rcases hb with ⟨u, rfl⟩ | ⟨sz', f, rfl, hp⟩ | ⟨q, n', F', ad', i', j', hq, hm, hi', hx', hp⟩
        · rfl
        · exact ⟨rfl, .inl ⟨hp, rfl⟩⟩
        · obtain ⟨_, _, p4, p5⟩ := g1.mem q _ hm
          obtain ⟨v, hv⟩ := p5 i' hi' j' x hx'
          rw [hp] at hv
          cases x with
          | raw u => rfl
          | row sz' n'' f =>
            have hvv := hv.1
            subst hvv
            refine AC.at_mono (x := .row sz' n'' f) (p := ad i j) (fun k hk => ⟨(howc k).2 (.inr ⟨q, hq, hk⟩), fun e => ?_⟩) (fun _ _ => rfl) hv
            rw [e, v2] at hk
            cases hk
            exact hcq hq
      refine ⟨ad i j, _, ?_, hat⟩
      have hf := fillA_at (w := w) (F i) 0 (ad i) j x _ hx (by rw [Nat.zero_add]; exact hat)
      rw [← hG i hi] at hf
      exact w2 j _ hf
    · simp only [hcc, decide_false, cond_false, Mem.get_dels] at hc'
      split at hc'
      · cases hc'
      · rename_i hne
        simp only [List.mem_cons, not_or] at hne
        exact Holds.keep (g2.mem c' ch hc').2 (fun _ _ => rfl) rfl (fun _ k => hother c' k hne.1 hne.2) (fun _ k hn => (hnone k).2 hn) (g1.mem c' ch hc')
  · simp only [Mem.get, nbeq] at hc'
    by_cases hcc : c = c'
    · subst hcc
      simp only [decide_true, cond_true, Option.some.injEq] at hc'
      subst hc'
      exact ⟨by simpa using hcn, rfl⟩
    · simp only [hcc, decide_false, cond_false, Mem.get_dels] at hc'
      split at hc'
      · cases hc'
      · exact g2.mem c' ch hc'
  · obtain ⟨e3, e4⟩ := g3.keep k e1 e2
    exact ⟨e3, (hnone k).2 e4⟩
  · simp only [ow'] at hk
    cases hkk : ow k with
    | none => rw [hkk] at hk; cases hk
    | some q =>
      rw [hkk] at hk
      simp only at hk
      split at hk
      · cases hk; simpa using hcn
      · cases hk; exact g5 k _ hkk
end Go.Sx
namespace Go.Sx
open Go.RowKit
def Boxed (p : Nat) (l : List Chunk) : List SV → List AC → Prop
  | [], [] => True
  | s :: r, .raw u :: g => s = .raw u ∧ Boxed p l r g
  | s :: r, .row sz k f :: g => ((s = .raw (.slice none 0 0) ∧ k = 0) ∨ ∃ j e n, s = .ins p l.length j k ∧ l[j]? = some (.vec e sz n f) ∧ k ≤ n ∧ n = k) ∧ Boxed p l r g
  | _, _ => False
theorem ins_at {β : Nat → Loc} {ow : Nat → Option Nat} {w : World} {p j k e sz n : Nat} {l : List Chunk} {f : Nat → List Value} (hp : Holds β ow w p (.abs (PackP l))) (hj : l[j]? = some (.vec e sz n f)) (hk : k ≤ n) {v : Value} (hv : (SV.ins p l.length j k).rel β v) :
    ∃ pr, AC.at w (fun b => ow b = some p) (.row sz k f) pr v := by
  obtain ⟨h0, h1, β0, ow0, k1, k2, k3, k4, k5, k6⟩ := hp
  have hjl : j < l.length := (List.getElem?_eq_some_iff.1 hj).1
  have hh := k6 j _ hj
  have hb := k3 j hjl
  have e0 : (Loc.mk (β p).blk 0 (subs (β p) 0) false fun j => subs (β p) (j + 1)).inner l.length j = (β p).inner l.length j := rfl
  rw [e0] at hb
  simp only [SV.rel] at hv
  simp only [Holds] at hh
  rw [hb] at hh
  by_cases hn : ((β p).inner l.length j).nil = true
  · rw [if_pos hn] at hv
    refine ⟨(none, 0), ?_, .inl ⟨rfl, hv.2⟩⟩
    rw [hv.1, hv.2]
  · rw [if_neg hn] at hv hh
    obtain ⟨a, v1, v2, v3⟩ := hv
    obtain ⟨m1, m2, m3, m4, arr, m5, m6, m7⟩ := hh
    refine ⟨(some a, ((β p).inner l.length j).cap), v1, .inr ⟨a, ((β p).inner l.length j).blk, 0, rfl, v2, fun h => by rw [v3 h]; simp [Loc.addr, m1], (k2 _).2 (by rw [m2]; simp), fun i hi => ?_⟩⟩
    obtain ⟨q1, q2⟩ := m7 i (by omega)
    refine ⟨q1, fun q u hu => ?_⟩
    rw [Nat.zero_add, cell_of_row w _ _ arr e _ m5]
    exact q2 q u hu
theorem boxed_at {β : Nat → Loc} {ow : Nat → Option Nat} {w : World} {p : Nat} {l : List Chunk} (hp : Holds β ow w p (.abs (PackP l))) : ∀ {cs : List SV} {G : List AC} {vs : List Value}, Boxed p l cs G → Rels β cs vs → G.length = vs.length ∧ ∀ (j : Nat) (x : AC), G[j]? = some x → ∃ pr v, vs[j]? = some v ∧ AC.at w (fun b => ow b = some p) x pr v
  | [], [], vs, _, hv => by
    simp only [Rels] at hv
    subst hv
    exact ⟨rfl, fun j x h => by simp at h⟩
  | s :: r, .raw u :: g, vs, hb, hv => by
    obtain ⟨v, t, rfl, h1, h2⟩ := hv
    obtain ⟨rfl, hb⟩ := hb
    obtain ⟨e1, e2⟩ := boxed_at hp hb h2
    refine ⟨by simp [e1], fun j x hx => ?_⟩
    cases j with
    | zero =>
      simp only [List.getElem?_cons_zero, Option.some.injEq] at hx
      subst hx
      exact ⟨(none, 0), v, rfl, h1⟩
    | succ j => simpa using e2 j x (by simpa using hx)
  | s :: r, .row sz k f :: g, vs, hb, hv => by
    obtain ⟨v, t, rfl, h1, h2⟩ := hv
    obtain ⟨hb0, hb⟩ := hb
    obtain ⟨e1, e2⟩ := boxed_at hp hb h2
    refine ⟨by simp [e1], fun j x hx => ?_⟩
    cases j with
    | zero =>
      simp only [List.getElem?_cons_zero, Option.some.injEq] at hx
      subst hx
      rcases hb0 with ⟨rfl, rfl⟩ | ⟨j0, e, n, rfl, hj, hk, _⟩
      · exact ⟨(none, 0), v, rfl, h1, .inl ⟨rfl, rfl⟩⟩
      · obtain ⟨pr, hat⟩ := ins_at hp hj hk h1
        exact ⟨pr, v, rfl, hat⟩
    | succ j => simpa using e2 j x (by simpa using hx)
  | [], _ :: _, _, hb, _ => hb.elim
  | _ :: _, [], _, hb, _ => hb.elim
section
variable {P : Program} {T : TyTab} {S : St} {d : Nat} {o : Oper}
theorem Eff.into {β : Nat → Loc} {ow : Nat → Option Nat} {w : World} (hw : WF ow w) (d c p : Nat) {g : Nat} (hg : ow g = some c) (cs : Array Value) : Eff β ow w β (fun k => if ow k = some p then some c else ow k) (w.setRow g cs) [c, p] d := by
  refine ⟨fun _ _ => rfl, rfl, rfl, rfl, by simp, fun k hk hn => ⟨setRow_other w g k cs (fun e => hn c (by simp) (by rw [e]; exact hg)), if_neg (hn p (by simp))⟩, fun k hk c' hc => ?_, fun k hk => ?_⟩
  · by_cases h2 : ow k = some p
    · rw [if_pos h2] at hc
      cases hc
      exact .inl (by simp)
    · rw [if_neg h2] at hc
      rcases hk with hk | ⟨c0, h0, h1⟩
      · exact absurd (hw k (by simp [hc])) (by omega)
      · rw [h1] at hc
        cases hc
        exact .inl h0
  · have h1 : ow k ≠ Option.none := by
      intro e
      simp [e] at hk
    simpa using hw k h1
theorem storeDeep_op (hT : TabOK P T) {t : TypeId} {x y : Operand} (ho : o.op = .store t x y) {td : TyD} (ht : T t = some td) {c i p e sz n : Nat} {F : Nat → List AC} {cs : List SV} {l : List Chunk} {G : List AC} (hx : S.ev x = some (XV.sv (.ptr c i sz 0))) (hy : S.ev y = some (.cv (.agg cs)))
    (hc : S.mem.get c = some (.abs (DeepP e sz n F))) (hp : S.mem.get p = some (.abs (PackP l))) (hcp : c ≠ p) (hsz : td.size = sz) (hcs : cs.length = sz) (hfine : (CV.agg cs).fine = true) (hi : i < n) (hG : Boxed p l cs G) :
    OpSound P S d o { v := XV.val undef, upd := [(c, .abs (DeepP e sz n fun k => if k = i then G else F k))], wr := [c, p] } [c, p] := by
  intro β ow w a K Q hw _ hops hr hK
  have h1 := hops x (by rw [ho]; simp [Op.operands]) _ hx
  have h2 := hops y (by rw [ho]; simp [Op.operands]) _ hy
  have hP := hr p (by simp) _ hp
  obtain ⟨k0, k1, m1, m2, m3, m4, arr, m5, m6, m7⟩ := hr c (by simp) _ hc
  simp only [XV.rel, CV.rel, SV.rel] at h1
  obtain ⟨r1, r2⟩ := CV.rel_cells (show (CV.agg cs).rel β (a.eval y) from h2) hfine
  have r1' : Rels β cs (a.eval y).cells.toList := r1
  obtain ⟨b1, b2⟩ := boxed_at hP hG r1'
  have hl0 : cs.length = (a.eval y).cells.toList.length := r1'.length
  have hl1 : (a.eval y).cells.size = td.size := by rw [← Array.length_toList, ← hl0, hcs, hsz]
  have hcap : subs (β c) 0 = (β c).cap := rfl
  rw [hcap] at m2 m3 m6
  have hrow : ∀ i', i' < n → i' * sz + sz ≤ arr.size := by
    intro i' hi'
    rw [m6]
    have h3 : i' + 1 ≤ (β c).cap := by omega
    have h4 := Nat.mul_le_mul_right sz h3
    rw [Nat.add_mul, Nat.one_mul] at h4
    exact h4
  have hri := hrow i hi
  have hszr := run_size (P := P) hT ht w
  have hst := run_storeCells_at P (β c).blk (i * sz + 0) e (a.eval y).cells.toList 0 arr w m5 (by simp; omega) r2
  simp only [Nat.add_zero, Array.length_toList] at hst
  have hrun : (execOp a.eval o).run P w = .ok .skip (w.setRow (β c).blk (arr.toList.take (i * sz) ++ (a.eval y).cells.toList ++ arr.toList.drop (i * sz + (a.eval y).cells.size)).toArray) := by
    have e0 : (β c).addr (i * sz + 0) = ⟨(β c).blk, i * sz, none⟩ := by simp [Loc.addr, k1]
    have hne : ¬ (a.eval y).cells.size ≠ td.size := by omega
    simp only [execOp, ho, h1, Instr.storeAt, Instr.sureAddr, storeVar, e0, Sem.run_bind, Sem.run_pure, Result.andThen_ok, hszr, if_neg hne, Sem.run_ite, hst]
  obtain ⟨w', hw'⟩ : ∃ w', w.setRow (β c).blk (arr.toList.take (i * sz) ++ (a.eval y).cells.toList ++ arr.toList.drop (i * sz + (a.eval y).cells.size)).toArray = w' := ⟨_, rfl⟩
  have hE := Eff.into (β := β) hw d c p m1 (arr.toList.take (i * sz) ++ (a.eval y).cells.toList ++ arr.toList.drop (i * sz + (a.eval y).cells.size)).toArray
  refine upon_skip hrun (hK β _ _ undef hE rfl (fun c' ch hc' => ?_))
  simp only [Mem.get, nbeq] at hc'
  by_cases hcc : c = c'
  · subst hcc
    simp only [decide_true, cond_true, Option.some.injEq] at hc'
    subst hc'
    have hoth : ∀ k, k ≠ (β c).blk → (w.setRow (β c).blk (arr.toList.take (i * sz) ++ (a.eval y).cells.toList ++ arr.toList.drop (i * sz + (a.eval y).cells.size)).toArray).heap[k]? = w.heap[k]? := fun k hk => setRow_other w (β c).blk k _ (fun e => hk e)
    have hown : ∀ k, (if ow k = some p then some c else ow k) = some c ↔ (ow k = some p ∨ ow k = some c) := by
      intro k
      split
      · rename_i h; simp [h]
      · rename_i h; simp [h]
    have hpb : ∀ k, ow k = some p → k ≠ (β c).blk := fun k hk e => by
      rw [e, m1] at hk
      exact hcp (Option.some.inj hk)
    refine ⟨k0, k1, (hown _).2 (.inr m1), m2, m3, fun k hk => ?_, _, setRow_heap w _ arr _ e _ m5, ?_, fun i' hi' => ?_⟩
    · rcases (hown k).1 hk with h | h
      · simpa using hw k (by simp [h])
      · simpa using hw k (by simp [h])
    · show _ = (β c).cap * sz
      simp only [List.size_toArray, List.length_append, List.length_take, List.length_drop, Array.length_toList]
      omega
    · have hri' := hrow i' hi'
      by_cases hii : i' = i
      · subst hii
        simp only [if_true]
        refine ⟨by rw [b1, ← hl0, hcs], fun j x hx' => ?_⟩
        obtain ⟨pr, v, e1, e2⟩ := b2 j x hx'
        have hjl : j < sz := by rw [← hcs, hl0]; exact (List.getElem?_eq_some_iff.1 e1).1
        refine ⟨pr, v, ?_, AC.at_mono (x := x) (p := pr) (v := v) (fun k hk => ⟨(hown k).2 (.inl hk), hpb k hk⟩) (fun k hk => hoth k (hpb k hk)) e2⟩
        rw [List.getElem?_toArray, List.append_assoc, List.getElem?_append_right (by simp; omega), List.getElem?_append_left (by simp; omega), ← e1]
        congr 1
        simp only [List.length_take, Array.length_toList]
        omega
      · simp only [hii, if_false]
        obtain ⟨q1, q2⟩ := m7 i' hi'
        refine ⟨q1, fun j x hx' => ?_⟩
        obtain ⟨pr, v, e1, e2⟩ := q2 j x hx'
        have hjl : j < sz := by rw [← q1]; exact (List.getElem?_eq_some_iff.1 hx').1
        refine ⟨pr, v, ?_, AC.at_mono (x := x) (p := pr) (v := v) (fun k hk => ⟨(hown k).2 (.inr hk.1), hk.2⟩) (fun k hk => hoth k hk.2) e2⟩
        rw [List.getElem?_toArray]
        rcases Nat.lt_or_gt_of_ne hii with h | h
        · have h5 : i' * sz + sz ≤ i * sz := by
            have := Nat.mul_le_mul_right sz (show i' + 1 ≤ i by omega)
            rw [Nat.add_mul, Nat.one_mul] at this
            exact this
          rw [List.append_assoc, List.getElem?_append_left (by simp; omega), List.getElem?_take, if_pos (by omega)]
          simpa using e1
        · have h5 : i * sz + sz ≤ i' * sz := by
            have := Nat.mul_le_mul_right sz (show i + 1 ≤ i' by omega)
            rw [Nat.add_mul, Nat.one_mul] at this
            exact this
          rw [List.getElem?_append_right (by simp; omega), List.getElem?_drop]
          rw [← Array.getElem?_toList] at e1
          rw [← e1]
          congr 1
          simp only [List.length_append, List.length_take, Array.length_toList]
          omega
  · simp [hcc] at hc'
end
end Go.Sx
namespace Go.Sx
open Go.RowKit
section
variable {P : Program} {T : TyTab} {S : St} {d : Nat} {o : Oper}
theorem boxSlice_op (hT : TabOK P T) {t : TypeId} {n : Nat} {parts : Array (Nat × Operand)} (ho : o.op = .buildSlice t n parts) {e : TypeId} {sz : Nat} {cs : List SV} (hcs : buildSliceX T S t n parts.toList = some (e, sz, cs)) (hd : cs.all (SV.ok fun i => !Nat.beq i d) = true) :
    OpSound P S d o { v := XV.sv (.slc d sz 0 n), upd := [(d, .cells e cs)] } [] := by
  refine alloc_op (L := fun w => ⟨w.heap.size, 0, n, false, fun _ => 0⟩) (fun w => ⟨rfl, rfl, rfl⟩) hd fun β w a hx => ?_
  obtain ⟨arr, g1, g2, g3⟩ := buildSlice_ok (P := P) hT hcs (β := β) (w := w) (a := a) (fun y hy X hX => hx y.2 (by rw [ho]; simp only [Op.operands]; simp; exact ⟨y.1, by simpa using hy⟩) X hX)
  refine ⟨.slice (some ⟨w.heap.size, 0, none⟩) n n, arr, by simp [execOp, ho, g1], g2, ?_⟩
  simp [XV.rel, CV.rel, SV.rel, setβ, Loc.addr]
theorem appendBox_op (hT : TabOK P T) {s x : Operand} {t e : TypeId} {tds tde : TyD} (ho : o.op = .call { callee := .builtin .append, args := #[s, x], argTypes := #[t, t] }) (htd : T t = some tds) (hds : tds.desc = .slice e) (hte : T e = some tde) (hzl : Nat.beq tde.zero.length tde.size = true)
    {q p : Nat} {cs : List SV} {l : List Chunk} {G : List AC} (hs : S.ev s = some (XV.val (.slice none 0 0))) (hx : S.ev x = some (XV.sv (.slc q tde.size 0 1))) (hq : S.mem.get q = some (.cells e cs)) (hp : S.mem.get p = some (.abs (PackP l))) (hcs : cs.length = tde.size) (hone : cs.all SV.one = true)
    (hbytes : tde.bytes ≤ 140737488355328) (hG : Boxed p l cs G) : OpSound P S d o { v := XV.sv (.slc d tde.size 0 1), upd := [(d, .abs (DeepP e tde.size 1 fun _ => G))], wr := [p] } [q, p] := by
  intro β ow w ac K' Q hw hfr hops hr hK
  have h1 := hops s (by rw [ho]; simp [Op.operands, Call.operands]) _ hs
  have h2 := hops x (by rw [ho]; simp [Op.operands, Call.operands]) _ hx
  simp only [XV.rel, CV.rel, SV.rel] at h1 h2
  obtain ⟨n0, n1, n2, arr, n3, n4⟩ := hr q (by simp) _ hq
  have hP := hr p (by simp) _ hp
  rw [if_neg (by rw [n0]; decide)] at h2
  obtain ⟨a0, v1, v2, v3⟩ := h2
  have ha0 : a0 = (β q).addr 0 := by rw [v3 (by omega)]; simp
  have hlen : arr.toList.length = tde.size := by rw [← n4.length, hcs]
  obtain ⟨b1, b2⟩ := boxed_at hP hG n4
  obtain ⟨v', w', β', ow', r1, r2, r3, r4⟩ := append_core (P := P) (c := none) (m := 0) (k := 1) (f := fun _ => []) (g := fun _ => arr.toList) hT htd hds hte (Nat.eq_of_beq_eq_true hzl) (β := β) (d := d) o.type hw (by simp) (v0 := ac.eval s) (xv := ac.eval x) (.inl ⟨h1, rfl, rfl⟩) (fun i hi => by omega) (fun _ _ => hlen)
    ⟨some a0, _, v1, fun _ => ⟨a0, rfl, fun j v hj => by
      have hj' : arr.toList[j]? = some v := by simpa [flat] using hj
      rw [ha0, loc_add]
      simp only [Loc.addr, n1, Nat.zero_add]
      rw [cell_of_row w _ _ arr e _ n3]
      simpa using hj'⟩⟩ (fun u hu => Rels.one n4 hone u (by simpa [flat] using hu)) (by decide) (by omega)
  let ow2 : Nat → Option Nat := fun k => if ow k = some p then some d else ow' k
  have hkeep : ∀ k, ow k = some p → w'.heap[k]? = w.heap[k]? ∧ ow' k = some p := fun k hk => by
    obtain ⟨e1, e2⟩ := r2.keep k (hw k (by simp [hk])) (fun c hc => by simp at hc)
    exact ⟨e1, by rw [e2, hk]⟩
  have hown : ∀ k, ow2 k = some d ↔ (ow k = some p ∨ ow' k = some d) := by
    intro k
    simp only [ow2]
    split
    · rename_i h; simp [h]
    · rename_i h; simp [h]
  have hE : Eff β ow w β' ow2 w' [p] d := by
    refine ⟨r2.beta, r2.os, r2.tape, r2.output, r2.size, fun k hk hn => ?_, fun k hk c hc => ?_, fun k hk => ?_⟩
    · obtain ⟨e1, e2⟩ := r2.keep k hk (fun c hc => by simp at hc)
      exact ⟨e1, by simp only [ow2]; rw [if_neg (hn p (by simp))]; exact e2⟩
    · simp only [ow2] at hc
      split at hc
      · exact .inr (Option.some.inj hc).symm
      · rename_i h
        rcases hk with hk | ⟨c0, h0, h1⟩
        · rcases r2.mine k (.inl hk) c hc with h2 | h2
          · simp at h2
          · exact .inr h2
        · simp only [List.mem_singleton] at h0
          rw [h0] at h1
          exact absurd h1 h
    · simp only [ow2] at hk
      split at hk
      · rename_i h
        have := hw k (by simp [h])
        have := r2.size
        omega
      · exact r2.wf k hk
  refine upon_value (x := v') ?_ (hK β' ow2 w' v' hE r3 (fun c' ch hc => ?_))
  · simp only [execOp, ho, resolve, invoke, builtin, Sem.run_bind, Sem.run_pure, Result.andThen_ok, List.map_toArray, List.map_cons, List.map_nil, r1]
  · simp only [Mem.get, nbeq] at hc
    by_cases hcc : d = c'
    · subst hcc
      simp only [decide_true, cond_true, Option.some.injEq] at hc
      subst hc
      simp only [Holds] at r4
      by_cases hnil : (β' d).nil = true
      · rw [if_pos hnil] at r4; omega
      rw [if_neg hnil] at r4
      obtain ⟨m1, m2, m3, m4, arr2, m5, m6, m7⟩ := r4
      have hpd : ∀ k, ow k = some p → k ≠ (β' d).blk := fun k hk e => by
        have := (hkeep k hk).2
        rw [e, m2] at this
        have hpd : p = d := (Option.some.inj this).symm
        rw [hpd] at hk
        exact hfr k hk
      refine ⟨by simpa using hnil, m1, (hown _).2 (.inr m2), m3, m4, fun k hk => ?_, arr2, m5, m6, fun i hi => ?_⟩
      · exact hE.wf k (by rw [hk]; simp)
      · obtain rfl : i = 0 := by omega
        refine ⟨by rw [b1, hlen], fun j x hx' => ?_⟩
        obtain ⟨pr, v, e1, e2⟩ := b2 j x hx'
        obtain ⟨_, q2⟩ := m7 0 (by omega)
        refine ⟨pr, v, q2 j v e1, AC.at_mono (x := x) (p := pr) (v := v) (fun k hk => ⟨(hown k).2 (.inl hk), hpd k hk⟩) (fun k hk => (hkeep k hk).1) e2⟩
    · simp [hcc] at hc
end
end Go.Sx
