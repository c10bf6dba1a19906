/- Symbolic states for walks, part X: contracts of functions that are called with an object laid open. -/
import Derived.Test.YtfdmlpdhngmbiaaSxW
namespace Go.Sx
open Go.RowKit

theorem Holds.unren2 {β : Nat → Loc} {ow ow' : Nat → Option Nat} {w : World} {ρ : Nat → Nat} {j : Nat} {ch : Chunk} (ho : ch.isRo = false → ∀ k, ow' k = some j ↔ ow k = some (ρ j)) (hn : ∀ k, ow k = none → ow' k = none) (h : Holds β ow w (ρ j) (ch.ren ρ)) : Holds (fun i => β (ρ i)) ow' w j ch := by
  cases ch with
  | ro sz n f =>
    simp only [Chunk.ren, Holds] at h ⊢
    by_cases hn' : (β (ρ j)).nil = true
    · rw [if_pos hn'] at h ⊢; exact h
    · rw [if_neg hn'] at h ⊢
      exact ⟨hn _ h.1, h.2⟩
  | _ => exact Holds.unren rfl (ho rfl) h

/-- The numbers that a result may name. -/
def outB (n0 : Nat) (out : Out) (i : Nat) : Bool := Nat.blt i n0 || (match out.fr with | some (j, _) => Nat.beq j i | none => false)

/-- ids: the caller's numbers of the pieces that the call may turn (0, 1, .. in its own text); rids: of those that it only reads (the next numbers). -/
theorem spec_of_open {P : Program} {T : TyTab} {f : FuncId} {fn : Func} {c : Code} (hT : TabOK P T) (hf : P.funcs[f]? = some fn) (hb : fn.body = some c)
    {Xl : List CV} {M0 : Mem} {k1 n0 : Nat} {ids rids : List Nat} {d : Nat} {M : Mem} {out : Out} (hids : ids.Nodup) (hk1 : ids.length = k1) (hn0 : k1 + rids.length = n0) (hd : d ∉ ids ++ rids)
    (hXl : Xl.all (CV.ok fun i => Nat.blt i n0) = true) (hM0 : ∀ i ch, M0.get i = some ch → i < n0 ∧ ch.ok (fun j => Nat.blt j n0) = true ∧ (k1 ≤ i → ch.isRo = true) ∧ ∀ ci, (ids ++ rids)[i]? = some ci → M.get ci = some (ch.ren fun i => ((ids ++ rids)[i]?).getD d))
    (hup : ∀ i ch, Mem.get out.upd i = some ch → ch.ok (outB n0 out) = true ∧ ch.isRo = false) (hfr : ∀ i ch, out.fr = some (i, ch) → ch.ok (outB n0 out) = true ∧ ch.isRo = false)
    (hv : out.v.ok (fun i => Nat.blt i n0 || (match out.fr with | some (j, _) => Nat.beq j i | none => false)) = true)
    (h : ∀ C : Ctx, C.n0 = n0 → Tri P C c ⟨slots0 fn.ntmps (Xl.map .cv), M0, n0⟩ (Ends C T fn.results.toList k1 n0 out))
    {Xs : List CV} (hXs : Xs = Xl.map (CV.ren fun i => ((ids ++ rids)[i]?).getD d)) {r : Res} (hrv : r.v = out.v.ren (renOut (ids ++ rids) d out.fr)) (hwr : r.wr = ids)
    (hru : ∀ c ch, Mem.get r.upd c = some ch → ∃ ch0, ch = ch0.ren (renOut (ids ++ rids) d out.fr) ∧ ((∃ i, ids[i]? = some c ∧ Mem.get out.upd i = some ch0) ∨ (c = d ∧ ∃ i, out.fr = some (i, ch0)))) : CallSpec P f Xs M d r (ids ++ rids) := by
  intro β ow w vs hw hfresh hvs hr
  subst hXs
  let ρ : Nat → Nat := fun i => ((ids ++ rids)[i]?).getD d
  let βl : Nat → Loc := fun i => β (ρ i)
  let owl : Nat → Option Nat := fun k => (ow k).bind fun c => lidx c ids
  have hargs : CVs βl Xl vs := (CVs.ren Xl vs).1 hvs
  have hdi : d ∉ ids := fun h => hd (List.mem_append_left _ h)
  have hwl : WF owl w := fun k hk => hw k (fun e => hk (by simp [owl, e]))
  have hown : ∀ k i, owl k = some i ↔ ∃ ci, ids[i]? = some ci ∧ ow k = some ci := by
    intro k i
    constructor
    · intro hk
      cases ho : ow k with
      | none => simp [owl, ho] at hk
      | some ci => exact ⟨ci, lidx_get (by simpa [owl, ho] using hk), rfl⟩
    · rintro ⟨ci, h1, h2⟩
      simp only [owl, h2, Option.bind_some]
      exact lidx_nodup hids h1
  have hownlt : ∀ k i, owl k = some i → i < k1 := by
    intro k i hk
    obtain ⟨ci, e1, _⟩ := (hown k i).1 hk
    rw [← hk1]
    exact (List.getElem?_eq_some_iff.1 e1).1
  let C : Ctx := { w0 := w, own0 := fun k => owl k ≠ none, β0 := βl, n0 := n0 }
  have hheld : ∀ i ch, M0.get i = some ch → Holds βl owl w i ch := by
    intro i ch hi
    obtain ⟨h1, h2, h4, h3⟩ := hM0 i ch hi
    have hil : i < (ids ++ rids).length := by rw [List.length_append]; omega
    have hci : (ids ++ rids)[i]? = some (ids ++ rids)[i] := List.getElem?_eq_getElem hil
    have hm := hr (ids ++ rids)[i] (List.getElem_mem hil) _ (h3 _ hci)
    have hρi : ρ i = (ids ++ rids)[i] := by simp [ρ, hci]
    rw [← hρi] at hm
    refine Holds.unren2 (β := β) (ow := ow) (ρ := ρ) (fun hro k => ?_) (fun k hk => by simp [owl, hk]) hm
    rw [hρi]
    have hik : i < k1 := by
      rcases Nat.lt_or_ge i k1 with h' | h'
      · exact h'
      · rw [h4 h'] at hro; cases hro
    have hci' : ids[i]? = some (ids ++ rids)[i] := by rw [← hci, List.getElem?_append_left (by omega)]
    rw [hown]
    constructor
    · rintro ⟨ci, e1, e2⟩; rw [hci'] at e1; cases e1; exact e2
    · intro e; exact ⟨_, hci', e⟩
  have hlenv : vs.length = Xl.length := by
    have : ∀ (a : List CV) (b : List Value), CVs βl a b → b.length = a.length := by
      intro a
      induction a with
      | nil => intro b hb; cases hb; rfl
      | cons x r ih => rintro b ⟨v, r', rfl, _, h2⟩; simp [ih r' h2]
    exact this _ _ hargs
  have hsat : SatC C ⟨slots0 fn.ntmps (Xl.map .cv), M0, n0⟩ { tmps := vs.toArray ++ Array.replicate (fn.ntmps - vs.toArray.size) undef, defers := [] } w := by
    have look : ∀ (a : List CV) (b : List Value) (m : Nat), CVs βl a b → ∀ t X, lget (a.map (fun c => some (XV.cv c)) ++ List.replicate m none) t = some X → ∃ v, b[t]? = some v ∧ X.rel βl v ∧ ∃ c ∈ a, X = .cv c := by
      intro a
      induction a with
      | nil =>
        intro b m _ t X hX
        exfalso
        have : ∀ m t, lget (List.replicate m none) t = none := by
          intro m
          induction m with
          | zero => intro t; rfl
          | succ m ih => intro t; cases t <;> simp [List.replicate_succ, lget, ih]
        simp [this] at hX
      | cons x r ih =>
        rintro b m ⟨v, r', rfl, h1, h2⟩ t X hX
        cases t with
        | zero => simp only [List.map_cons, List.cons_append, lget, Option.some.injEq] at hX; subst hX; exact ⟨v, rfl, h1, x, by simp, rfl⟩
        | succ t =>
          simp only [List.map_cons, List.cons_append, lget] at hX
          obtain ⟨v', e1, e2, c, e3, e4⟩ := ih r' m h2 t X hX
          exact ⟨v', by simpa using e1, e2, c, by simp [e3], e4⟩
    have hsl : slots0 fn.ntmps (Xl.map .cv) = Xl.map (fun c => some (XV.cv c)) ++ List.replicate (fn.ntmps - Xl.length) none := by simp [slots0]
    refine ⟨βl, owl, ⟨rfl, ?_, ?_, hheld, hwl⟩, ⟨?_, ?_⟩, ⟨rfl, rfl, rfl, Nat.le_refl _, fun k _ hk => ⟨rfl, by simpa [C] using hk⟩, fun _ _ => rfl⟩, Nat.le_refl _, ?_⟩
    · simp [hsl, hlenv]
    · intro t X hX
      rw [hsl] at hX
      obtain ⟨v, e1, e2, _⟩ := look Xl vs _ hargs t X hX
      have : (vs.toArray ++ Array.replicate (fn.ntmps - vs.toArray.size) undef).getD t undef = v := by
        have hlt : t < vs.length := (List.getElem?_eq_some_iff.1 e1).1
        rw [Array.getD_eq_getD_getElem?, Array.getElem?_append_left (by simpa using hlt)]
        simp [e1]
      rw [this]; exact e2
    · intro t X hX
      rw [hsl] at hX
      obtain ⟨v, _, _, cv, e3, rfl⟩ := look Xl vs _ hargs t X hX
      exact List.all_eq_true.1 hXl cv e3
    · intro i ch hi
      obtain ⟨h1, h2, _⟩ := hM0 i ch hi
      exact ⟨by simpa using h1, h2⟩
    · intro k i hk
      have := hownlt k i hk
      simp only [Nat.blt_eq]; omega
  refine calls_of_wp hf hb (wp_mono (h C rfl _ w hsat) ?_)
  rintro e a w' ⟨S', hs', he⟩
  obtain ⟨hex, S2, hent, hres, hupd, hfre⟩ := he
  obtain ⟨β1, ow1, g1, g2, g3, g4, g5⟩ := hent a w' hs'
  obtain ⟨x, hx, hrel⟩ := resX_ok hT g1 hres
  have hg : a.defers = [] := g1.defers
  have key : ∃ v β' ow', Ending.returned x = .returned v ∧ Eff β ow w β' ow' w' r.wr d ∧ r.v.rel β' v ∧ ∀ c ch, Mem.get r.upd c = some ch → Holds β' ow' w' c ch := by
    let jf : Nat := match out.fr with | some (i, _) => i | none => n0
    let β' : Nat → Loc := setβ β d (β1 jf)
    -- who owns what, in the caller's numbers
    let ow' : Nat → Option Nat := fun k =>
      match ow1 k with
      | some i => if i < k1 then ids[i]? else (match out.fr with | some (j, _) => if i = j then some d else none | none => none)
      | none => if k < w.heap.size ∧ owl k = none then ow k else none
    have hβl : ∀ i, i < n0 → β1 i = β (ρ i) := fun i hi => g3.beta i hi
    have hfn : ∀ i ch, out.fr = some (i, ch) → n0 ≤ i := fun i ch hi => (hfre i ch hi).1
    have hmem : ∀ i, i < n0 → ∃ ci, (ids ++ rids)[i]? = some ci ∧ ci ∈ ids ++ rids := fun i hi => by
      have hil : i < (ids ++ rids).length := by rw [List.length_append]; omega
      exact ⟨(ids ++ rids)[i], List.getElem?_eq_getElem hil, List.getElem_mem hil⟩
    have hold : ∀ k, k < w.heap.size → (∀ c ∈ ids, ow k ≠ some c) → w'.heap[k]? = w.heap[k]? ∧ ow' k = ow k := by
      intro k hk hne
      have hno : owl k = none := by
        cases ho : owl k with
        | none => rfl
        | some i =>
          obtain ⟨ci, e1, e2⟩ := (hown k i).1 ho
          exact absurd e2 (hne ci (List.mem_of_getElem? e1))
      obtain ⟨e1, e2⟩ := g3.keep k hk (by simp [C, hno])
      exact ⟨e1, by simp [ow', e2, hk, hno]⟩
    have hβd : ∀ c, c ≠ d → β' c = β c := fun c hc => by simp [β', setβ, hc]
    refine ⟨x, β', ow', rfl, ⟨hβd, g3.os, g3.tape, g3.output, g3.size, ?_, ?_, ?_⟩, ?_, ?_⟩
    · intro k hk hne; rw [hwr] at hne; exact hold k hk hne
    · intro k hk c0 hc
      rw [hwr]
      rw [hwr] at hk
      simp only [ow'] at hc
      cases ho : ow1 k with
      | some i =>
        simp only [ho] at hc
        by_cases hi : i < k1
        · rw [if_pos hi] at hc
          exact .inl (List.mem_of_getElem? hc)
        · rw [if_neg hi] at hc
          split at hc
          · split at hc
            · cases hc; exact .inr rfl
            · cases hc
          · cases hc
      | none =>
        simp only [ho] at hc
        split at hc
        · rename_i hcond
          rcases hk with hk | ⟨c1, h1, h2⟩
          · omega
          · exfalso
            have hidx : ∃ i, ids[i]? = some c1 := List.getElem?_of_mem h1
            obtain ⟨i, hi⟩ := hidx
            have := (hown k i).2 ⟨c1, hi, h2⟩
            rw [hcond.2] at this; cases this
        · cases hc
    · intro k hk
      simp only [ow'] at hk
      cases ho : ow1 k with
      | some i => exact g1.wf k (by simp [ho])
      | none =>
        simp only [ho] at hk
        split at hk
        · rename_i hcond
          exact Nat.lt_of_lt_of_le hcond.1 g3.size
        · exact absurd rfl hk
    · rw [hrv, XV.ren_rel]
      refine XV.rel_congr (p := fun i => Nat.blt i n0 || (match out.fr with | some (j, _) => Nat.beq j i | none => false)) (fun i hi => ?_) hv hrel
      simp only [Bool.or_eq_true, Nat.blt_eq] at hi
      rcases hi with hi | hi
      · obtain ⟨ci, e1, e2⟩ := hmem i hi
        have hr : renOut (ids ++ rids) d out.fr i = ci := by
          unfold renOut
          split
          · rename_i j ch hj
            have := hfn j ch hj
            rw [if_neg (by omega), e1]; rfl
          · rw [e1]; rfl
        rw [hr, hβd ci (fun e => hd (e ▸ e2)), hβl i hi]
        simp [ρ, e1]
      · cases hfo : out.fr with
        | none => simp [hfo] at hi
        | some y =>
          obtain ⟨j, ch⟩ := y
          simp only [hfo, nbeq, decide_eq_true_eq] at hi
          subst hi
          simp [renOut, β', setβ, jf, hfo]
    · intro c0 ch hc
      have hout : ∀ j, outB n0 out j = true → β' (renOut (ids ++ rids) d out.fr j) = β1 j := by
        intro j hj
        simp only [outB, Bool.or_eq_true, Nat.blt_eq] at hj
        rcases hj with hj | hj
        · obtain ⟨ci, e1, e2⟩ := hmem j hj
          have hr : renOut (ids ++ rids) d out.fr j = ci := by
            unfold renOut
            split
            · rename_i j' ch' hj'
              have := hfn j' ch' hj'
              rw [if_neg (by omega), e1]; rfl
            · rw [e1]; rfl
          rw [hr, hβd ci (fun e => hd (e ▸ e2)), hβl j hj]
          simp [ρ, e1]
        · cases hfo : out.fr with
          | none => simp [hfo] at hj
          | some y =>
            obtain ⟨j', ch'⟩ := y
            simp only [hfo, nbeq, decide_eq_true_eq] at hj
            subst hj
            simp [renOut, β', setβ, jf, hfo]
      obtain ⟨ch0, rfl, hru'⟩ := hru c0 ch hc
      rcases hru' with ⟨i, e1, e2⟩ | ⟨rfl, i, e2⟩
      · obtain ⟨h1, h2⟩ := hupd i ch0 e2
        have e1' : (ids ++ rids)[i]? = some c0 := by rw [List.getElem?_append_left (by omega)]; exact e1
        have hm' : c0 ∈ ids := List.mem_of_getElem? e1
        have hloc : β' c0 = β1 i := by
          rw [hβd c0 (fun e => hdi (e ▸ hm')), hβl i (by omega)]
          simp [ρ, e1']
        refine Holds.trans (β := β1) (ow := ow1) (w := w') (c := i) (p := outB n0 out) (hup i ch0 e2).1 hout (by rw [hloc]) (by rw [hloc]) (by rw [hloc]) (.inl ⟨by rw [hloc], by rw [hloc]⟩) (hup i ch0 e2).2 (fun k => ?_) (fun _ _ => rfl) (g1.mem i ch0 h2)
        · simp only [ow']
          constructor
          · intro hk
            cases ho : ow1 k with
            | some i' =>
              simp only [ho] at hk
              by_cases hi' : i' < k1
              · rw [if_pos hi'] at hk
                have := lidx_nodup hids hk
                rw [lidx_nodup hids e1] at this
                cases this; rfl
              · rw [if_neg hi'] at hk
                split at hk
                · split at hk
                  · cases hk; exact absurd (List.mem_of_getElem? e1) hdi
                  · cases hk
                · cases hk
            | none =>
              simp only [ho] at hk
              split at hk
              · rename_i hcond
                have := (hown k i).2 ⟨c0, e1, hk⟩
                rw [hcond.2] at this; cases this
              · cases hk
          · intro hk
            rw [hk]
            simp only [if_pos h1, e1]
      · obtain ⟨h1, h2⟩ := hfre i ch0 e2
        have hloc : β' c0 = β1 i := by simp [β', setβ, jf, e2]
        refine Holds.trans (β := β1) (ow := ow1) (w := w') (c := i) (p := outB n0 out) (hfr i ch0 e2).1 hout (by rw [hloc]) (by rw [hloc]) (by rw [hloc]) (.inl ⟨by rw [hloc], by rw [hloc]⟩) (hfr i ch0 e2).2 (fun k => ?_) (fun _ _ => rfl) (g1.mem i ch0 h2)
        simp only [ow']
        constructor
        · intro hk
          cases ho : ow1 k with
          | some i' =>
            simp only [ho] at hk
            by_cases hi' : i' < k1
            · rw [if_pos hi'] at hk
              exact absurd (List.mem_of_getElem? hk) hdi
            · rw [if_neg hi', e2] at hk
              simp only at hk
              split at hk
              · rename_i he; rw [he]
              · cases hk
          | none =>
            simp only [ho] at hk
            split at hk
            · exact absurd hk (hfresh k)
            · cases hk
        · intro hk
          rw [hk]
          have : ¬ i < k1 := by omega
          simp only [if_neg this, e2, if_true]
  rcases hex with rfl | rfl
  · exact ⟨hg, x, hx, key⟩
  · exact ⟨hg, x, hx, key⟩

/-- A function of plain values, in pieces. -/
theorem spec_pureT {P : Program} {T : TyTab} {f : FuncId} {fn : Func} {c : Code} (hT : TabOK P T) (hf : P.funcs[f]? = some fn) (hb : fn.body = some c) (Xl : List CV) (X : XV)
    (hXl : Xl.all (CV.ok fun _ => false) = true) (hX : X.ok (fun _ => false) = true)
    (h : ∀ C : Ctx, C.n0 = 0 → Tri P C c ⟨slots0 fn.ntmps (Xl.map .cv), [], 0⟩ (Ends C T fn.results.toList 0 0 ⟨X, [], none⟩)) (M : Mem) (d : Nat) : CallSpec P f Xl M d { v := X } [] := by
  refine spec_of_text (ids := []) (rids := []) (M0 := []) (k1 := 0) (n0 := 0) (out := ⟨X, [], none⟩) hT hf hb (by simp) rfl rfl (by simp) ?_ (fun i ch h => by simp [Mem.get] at h) (fun i ch h => by simp [Mem.get] at h) (fun i ch h => by cases h) ?_ h (CVs.ren_closed hXl).symm (XV.ren_closed hX).symm rfl (fun c ch h => by simp [Mem.get] at h)
  · simp only [List.all_eq_true] at hXl ⊢
    exact fun s hs => CV.ok_mono (fun _ h => by cases h) (hXl s hs)
  · exact XV.ok_mono (fun _ h => by cases h) hX
end Go.Sx
