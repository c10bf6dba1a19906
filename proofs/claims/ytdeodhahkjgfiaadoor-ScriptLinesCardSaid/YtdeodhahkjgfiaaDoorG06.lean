/- Parts SxZ SxZa SxZb. -/
import Derived.Test.YtdeodhahkjgfiaaDoorG05
import Derived.Laws.AppendOwn
import Derived.Laws.CopyRow
set_option linter.unusedSimpArgs false
set_option linter.unusedVariables false
namespace Go.Sx
open Go.RowKit
theorem Eff.fresh {β : Nat → Loc} {ow : Nat → Option Nat} {w w' : World} (hw : WF ow w) (hb : Below w.heap.size w w') (d g : Nat) (l : Loc) (hg : w.heap.size ≤ g) (hg' : g < w'.heap.size) : Eff β ow w (setβ β d l) (setow ow g (some d)) w' [] d := by
  refine ⟨fun c hc => by simp [setβ, hc], hb.os, hb.tape, hb.output, hb.size, fun k hk _ => ⟨hb.block k hk, ?_⟩, fun k hk c hc => ?_, fun k hk => ?_⟩
  · have : k ≠ g := by omega
    simp [setow, this]
  · by_cases hkg : k = g
    · simp [setow, hkg] at hc; exact .inr hc.symm
    · simp [setow, hkg] at hc
      rcases hk with hk | ⟨_, h0, _⟩
      · have := hw k (by simp [hc]); omega
      · cases h0
  · by_cases hkg : k = g
    · subst hkg; exact hg'
    · simp [setow, hkg] at hk
      exact Nat.lt_of_lt_of_le (hw k hk) hb.size
theorem Eff.none {β : Nat → Loc} {ow : Nat → Option Nat} {w w' : World} (hw : WF ow w) (hb : Below w.heap.size w w') (d : Nat) (l : Loc) : Eff β ow w (setβ β d l) ow w' [] d := by
  refine ⟨fun c hc => by simp [setβ, hc], hb.os, hb.tape, hb.output, hb.size, fun k hk _ => ⟨hb.block k hk, rfl⟩, fun k hk c hc => ?_, fun k hk => Nat.lt_of_lt_of_le (hw k hk) hb.size⟩
  rcases hk with hk | ⟨_, h0, _⟩
  · have := hw k (by simp [hc]); omega
  · cases h0
def FlatAs (sz n : Nat) (f : Nat → List Value) (xs : List Value) : Prop := ∀ i, i < n → (f i).length = sz ∧ ∀ j v, (f i)[j]? = some v → xs[i * sz + j]? = some v
theorem row_spec {P : Program} {f : FuncId} {Xs : List CV} {M : Mem} {d e sz n : Nat} {fl : Nat → List Value} {rd : List Nat}
    (h : ∀ (β : Nat → Loc) (ow : Nat → Option Nat) (w : World) (vs : List Value), WF ow w → CVs β Xs vs → (∀ c ∈ rd, ∀ ch, M.get c = some ch → Holds β ow w c ch) →
      Calls P f vs.toArray w fun e' w' => ∃ v xs, e' = .returned v ∧ w'.ownsRow w.heap.size e sz v n xs ∧ FlatAs sz n fl xs ∧ Below w.heap.size w w') :
    CallSpec P f Xs M d { v := XV.sv (.slc d sz 0 n), upd := [(d, .vec e sz n fl)] } rd := by
  intro β ow w vs hw hd hvs hr
  refine (h β ow w vs hw hvs hr).mono ?_
  rintro e' w' ⟨v, xs, rfl, hrow, hfl, hb⟩
  have get1 : ∀ (c : Nat) (ch : Chunk), Mem.get [(d, Chunk.vec e sz n fl)] c = some ch → c = d ∧ ch = .vec e sz n fl := by
    intro c ch hc
    simp only [Mem.get, nbeq] at hc
    by_cases hk : d = c
    · subst hk; simp at hc; exact ⟨rfl, hc.symm⟩
    · simp [hk] at hc
  obtain ⟨hlen, hcase⟩ := hrow
  rcases hcase with ⟨rfl, rfl⟩ | ⟨g, cap, cur, rfl, hgb, hg, h1, h2, h3, h4⟩
  · refine ⟨_, setβ β d ⟨0, 0, 0, true, fun _ => 0⟩, ow, rfl, Eff.none hw hb d _, ?_, fun c ch hc => ?_⟩
    · simp [XV.rel, CV.rel, SV.rel, setβ]
    · obtain ⟨rfl, rfl⟩ := get1 c ch hc
      simp [Holds, setβ]
  · have hgl : g < w'.heap.size := (Array.getElem?_eq_some_iff.1 hg).1
    refine ⟨_, setβ β d ⟨g, 0, cap, false, fun _ => 0⟩, setow ow g (some d), rfl, Eff.fresh hw hb d g _ hgb hgl, ?_, fun c ch hc => ?_⟩
    · simp only [XV.rel, CV.rel, SV.rel, setβ, if_true]
      exact ⟨⟨g, 0, Option.none⟩, rfl, by omega, fun _ => by simp [Loc.addr]⟩
    · obtain ⟨rfl, rfl⟩ := get1 c ch hc
      simp only [Holds, setβ, if_true]
      refine ⟨trivial, by simp [setow], h1, h2, cur, hg, h3, fun i hi => ⟨(hfl i hi).1, fun j v hj => ?_⟩⟩
      have hx := (hfl i hi).2 j v hj
      rw [← h4] at hx
      have hjl : j < sz := by have := (List.getElem?_eq_some_iff.1 hj).1; rw [(hfl i hi).1] at this; exact this
      have hlt : i * sz + j < n * sz := by
        have : (i + 1) * sz ≤ n * sz := Nat.mul_le_mul_right _ hi
        rw [Nat.add_mul, Nat.one_mul] at this; omega
      rw [List.getElem?_take_of_lt hlt, Array.getElem?_toList] at hx
      exact hx
section
variable {ρ ρ' : Nat → Nat} {p : Nat → Bool}
theorem SV.ren_congr (h : ∀ c, p c = true → ρ c = ρ' c) {s : SV} (hs : s.ok p = true) : s.ren ρ = s.ren ρ' := by
  cases s with
  | raw v => rfl
  | fn f caps =>
    simp only [SV.ok, List.all_eq_true] at hs
    simp only [SV.ren]
    congr 1
    exact List.map_congr_left fun c hc => h c (hs c hc)
  | _ => simp only [SV.ok] at hs; simp only [SV.ren]; rw [h _ hs]
theorem SVs.ren_congr (h : ∀ c, p c = true → ρ c = ρ' c) : ∀ {l : List SV}, l.all (SV.ok p) = true → l.map (SV.ren ρ) = l.map (SV.ren ρ')
  | [], _ => rfl
  | s :: r, hl => by
    simp only [List.all_cons, Bool.and_eq_true] at hl
    rw [List.map_cons, List.map_cons, SV.ren_congr h hl.1, SVs.ren_congr h hl.2]
theorem CV.ren_congr (h : ∀ c, p c = true → ρ c = ρ' c) {s : CV} (hs : s.ok p = true) : s.ren ρ = s.ren ρ' := by
  cases s with
  | one s => simp only [CV.ren, SV.ren_congr h hs]
  | agg cs => simp only [CV.ren, SVs.ren_congr h hs]
theorem CVs.ren_congr (h : ∀ c, p c = true → ρ c = ρ' c) : ∀ {l : List CV}, l.all (CV.ok p) = true → l.map (CV.ren ρ) = l.map (CV.ren ρ')
  | [], _ => rfl
  | s :: r, hl => by
    simp only [List.all_cons, Bool.and_eq_true] at hl
    rw [List.map_cons, List.map_cons, CV.ren_congr h hl.1, CVs.ren_congr h hl.2]
theorem XV.ren_congr (h : ∀ c, p c = true → ρ c = ρ' c) {s : XV} (hs : s.ok p = true) : s.ren ρ = s.ren ρ' := by
  cases s with
  | cv s => simp only [XV.ren, CV.ren_congr h hs]
  | tup l => simp only [XV.ren, CVs.ren_congr h hs]
theorem SV.ren_id (s : SV) : s.ren id = s := by
  cases s with
  | fn f caps => simp only [SV.ren, List.map_id]
  | _ => rfl
theorem SVs.ren_id : ∀ l : List SV, l.map (SV.ren id) = l
  | [] => rfl
  | s :: r => by rw [List.map_cons, SV.ren_id, SVs.ren_id r]
theorem CV.ren_id (s : CV) : s.ren id = s := by
  cases s with
  | one s => simp only [CV.ren, SV.ren_id]
  | agg cs => simp only [CV.ren, SVs.ren_id]
theorem CVs.ren_id : ∀ l : List CV, l.map (CV.ren id) = l
  | [] => rfl
  | s :: r => by rw [List.map_cons, CV.ren_id, CVs.ren_id r]
end
theorem spec_made_reads {P : Program} {T : TyTab} {f : FuncId} {fn : Func} {c : Code} (hT : TabOK P T) (hf : P.funcs[f]? = some fn) (hb : fn.body = some c) {ch' : Chunk} (hcl : ch'.closed = true) (hro : ch'.isRo = false) (Xl : List CV) (M0 : Mem) (n : Nat)
    (hXl : Xl.all (CV.ok fun i => Nat.blt i n) = true) (hM0 : ∀ i ch, M0.get i = some ch → i < n ∧ ch.isRo = true) {M : Mem} {d : Nat} (hM : ∀ i ch, M0.get i = some ch → M.get i = some ch) (hd : n ≤ d) (i : Nat) (X : XV) (hX : X.ok (fun j => Nat.beq i j) = true) 
    (h : ∀ C : Ctx, C.n0 = n → Tri P C c ⟨slots0 fn.ntmps (Xl.map .cv), M0, n⟩ (Ends C T fn.results.toList 0 n ⟨X, [], some (i, ch')⟩)) :
    CallSpec P f Xl M d { v := X.ren fun _ => d, upd := [(d, ch')] } (List.range n) := by
  have hi : ∀ i, i < n → ([] ++ List.range n)[i]? = some i := fun i hi => by simp [hi]
  have hren : Xl = Xl.map (CV.ren fun i => (([] ++ List.range n)[i]?).getD d) := by
    rw [CVs.ren_congr (ρ' := id) (p := fun i => Nat.blt i n) (fun c hc => by simp only [Nat.blt_eq] at hc; rw [hi c hc]; rfl) hXl, CVs.ren_id]
  have hrenX : X.ren (fun _ => d) = X.ren (renOut ([] ++ List.range n) d (some (i, ch'))) :=
    XV.ren_congr (p := fun j => Nat.beq i j) (fun c hc => by simp only [nbeq, decide_eq_true_eq] at hc; subst hc; simp [renOut]) hX
  refine spec_of_text (ids := []) (rids := List.range n) (Xl := Xl) (M0 := M0) (out := ⟨X, [], some (i, ch')⟩) (k1 := 0) (n0 := n) hT hf hb (by simp) rfl (by simp) (by simp; omega) hXl (fun i ch hm => ?_) (fun i ch hi => by simp [Mem.get] at hi) (fun j ch hj => ?_) ?_ h hren hrenX rfl (fun c ch hc => ?_)
  · obtain ⟨h1, h2⟩ := hM0 i ch hm
    refine ⟨h1, ?_, fun _ => h2, fun ci hci => ?_⟩
    · cases ch <;> first | rfl | cases h2
    · rw [hi i h1] at hci
      cases hci
      exact hM i ch hm
  · cases hj; exact ⟨hcl, hro⟩
  · exact XV.ok_mono (fun j hj => by simp only [Bool.or_eq_true]; exact .inr hj) hX
  · simp only [Mem.get, nbeq] at hc
    by_cases hk : d = c
    · simp only [hk, decide_true, cond_true, Option.some.injEq] at hc
      exact .inr ⟨hk.symm, i, by rw [hc]⟩
    · simp [hk] at hc
def ListP (e : Nat) (As : List AbsP) : AbsP where
  Φ w b s O := (∀ k, O k → k < w.heap.size) ∧ O b ∧ (∃ arr : Array Value, w.heap[b]? = some (.cells arr e (0, 0)) ∧ arr.size = s 0 ∧ As.length ≤ s 0 ∧ s 0 ≤ maxLen ∧ ∀ j, j < As.length → arr[j]? = some (.pointer (some ⟨s (j + 1), 0, none⟩))) ∧
    ∃ (Oj : Nat → Nat → Prop) (sj : Nat → Nat → Nat), (∀ j k, j < As.length → Oj j k → O k ∧ k ≠ b) ∧ (∀ i j k, i < As.length → j < As.length → Oj i k → Oj j k → i = j) ∧ ∀ (j : Nat) (A : AbsP), As[j]? = some A → A.Φ w (s (j + 1)) (sj j) (Oj j)
  loc := by
    rintro w w' b s O O' hk hO ⟨h1, h2, ⟨arr, h3, h4⟩, Oj, sj, p1, p2, p3⟩
    refine ⟨fun k hk' => ?_, (hO b).2 h2, ⟨arr, (hk b h2).trans h3, h4⟩, Oj, sj, fun j k hj ho => ⟨(hO k).2 (p1 j k hj ho).1, (p1 j k hj ho).2⟩, p2, fun j A hA => A.loc (fun k ho => hk k ?_) (fun _ => Iff.rfl) (p3 j A hA)⟩
    · have hk0 := (hO k).1 hk'
      have e := hk k hk0
      rw [Array.getElem?_eq_getElem (h1 k hk0)] at e
      exact (Array.getElem?_eq_some_iff.1 e).1
    · exact (p1 j k (List.getElem?_eq_some_iff.1 hA).1 ho).1
  in_heap := by
    rintro w b s O ⟨h1, _⟩ k hk
    exact h1 k hk
section
variable {P : Program} {T : TyTab} {S : St} {d : Nat} {o : Oper}
end
open Classical in
theorem ListP.take {e : Nat} {As : List AbsP} {m : Nat} {w : World} {b : Nat} {s : Nat → Nat} {O : Nat → Prop} (h : (ListP e As).Φ w b s O) : (ListP e (As.take m)).Φ w b s O := by
  obtain ⟨h1, h2, ⟨arr, a1, a2, a3, a4, a5⟩, Oj, sj, p1, p2, p3⟩ := h
  have hl : (As.take m).length ≤ As.length := by simp; omega
  refine ⟨h1, h2, ⟨arr, a1, a2, by omega, a4, fun j hj => a5 j (by omega)⟩, Oj, sj, fun j k hj hk => p1 j k (by omega) hk, fun i j k hi hj => p2 i j k (by omega) (by omega), fun j A hA => p3 j A ?_⟩
  have hj := (List.getElem?_eq_some_iff.1 hA).1
  have hjm : j < m := by simp at hj; omega
  rwa [List.getElem?_take_of_lt hjm] at hA
open Go.RowKit
theorem CallSpec.lend {P : Program} {f : FuncId} {Xl Xs : List CV} {M0 M : Mem} {d0 d : Nat} {X : XV} {rd0 rd : List Nat} (h : CallSpec P f Xl M0 d0 { v := X } rd0) (hX : X.ok (fun _ => false) = true)
    (hl : ∀ β ow (w : World) vs, WF ow w → CVs β Xs vs → (∀ c ∈ rd, ∀ ch, M.get c = some ch → Holds β ow w c ch) → ∃ β0, CVs β0 Xl vs ∧ ∀ c ∈ rd0, ∀ ch, M0.get c = some ch → Holds β0 (fun _ => none) w c ch) : CallSpec P f Xs M d { v := X } rd := by
  intro β ow w vs hw hfr hvs hr
  obtain ⟨β0, h1, h2⟩ := hl β ow w vs hw hvs hr
  refine (h β0 (fun _ => none) w vs (fun k hk => absurd rfl hk) (fun k e => by cases e) h1 h2).mono ?_
  rintro e w' ⟨v, β', ow', rfl, E, h3, _⟩
  have key : ∀ k, k < w.heap.size → w'.heap[k]? = w.heap[k]? := fun k hk => (E.keep k hk (fun c hc => by cases hc)).1
  refine ⟨v, β, ow, rfl, ⟨fun _ _ => rfl, E.os, E.tape, E.output, E.size, fun k hk _ => ⟨key k hk, rfl⟩, fun k hk c hc => ?_, fun k hk => Nat.lt_of_lt_of_le (hw k hk) E.size⟩, XV.rel_congr (p := fun _ => false) (fun _ h => by cases h) hX h3, fun c ch hc => by simp [Mem.get] at hc⟩
  rcases hk with hk | ⟨_, h0, _⟩
  · have := hw k (by simp [hc]); omega
  · cases h0
theorem CallSpec.lendMade {P : Program} {f : FuncId} {Xl Xs : List CV} {M0 M : Mem} {d0 d : Nat} {X : XV} {ch' : Chunk} {rd0 rd : List Nat} (i : Nat) (hXi : X.ok (fun j => Nat.beq i j) = true) (hcl : ch'.closed = true) (hro : ch'.isRo = false)
    (h : CallSpec P f Xl M0 d0 { v := X.ren fun _ => d0, upd := [(d0, ch')] } rd0)
    (hl : ∀ β ow (w : World) vs, WF ow w → CVs β Xs vs → (∀ c ∈ rd, ∀ ch, M.get c = some ch → Holds β ow w c ch) → ∃ β0, CVs β0 Xl vs ∧ ∀ c ∈ rd0, ∀ ch, M0.get c = some ch → Holds β0 (fun _ => none) w c ch) : CallSpec P f Xs M d { v := X.ren fun _ => d, upd := [(d, ch')] } rd := by
  intro β ow w vs hw hfr hvs hr
  obtain ⟨β0, h1, h2⟩ := hl β ow w vs hw hvs hr
  refine (h β0 (fun _ => none) w vs (fun k hk => absurd rfl hk) (fun k e => by cases e) h1 h2).mono ?_
  rintro e w' ⟨v, β', ow', rfl, E, h3, h4⟩
  have key : ∀ k, k < w.heap.size → w'.heap[k]? = w.heap[k]? ∧ ow' k = none := fun k hk => E.keep k hk (fun c hc => by cases hc)
  let β2 := setβ β d (β' d0)
  let ow2 : Nat → Option Nat := fun k => if ow' k = some d0 then some d else ow k
  have ho : ∀ k, ow2 k = some d ↔ ow' k = some d0 := fun k => by
    simp only [ow2]
    by_cases hk : ow' k = some d0
    · simp [hk]
    · simp [hk, hfr k]
  refine ⟨v, β2, ow2, rfl, ⟨fun c hc => by simp [β2, setβ, hc], E.os, E.tape, E.output, E.size, fun k hk _ => ⟨(key k hk).1, by simp [ow2, (key k hk).2]⟩, fun k hk c hc => ?_, fun k hk => ?_⟩, ?_, fun c ch hc => ?_⟩
  · by_cases hd : ow' k = some d0
    · simp only [ow2, hd, if_true, Option.some.injEq] at hc; exact .inr hc.symm
    · simp only [ow2, hd, if_false] at hc
      rcases hk with hk | ⟨_, h0, _⟩
      · have := hw k (by simp [hc]); omega
      · cases h0
  · by_cases hd : ow' k = some d0
    · exact E.wf k (by simp [hd])
    · simp only [ow2, hd, if_false] at hk
      exact Nat.lt_of_lt_of_le (hw k hk) E.size
  · have e1 := (XV.ren_rel (β := β') (ρ := fun _ => d0) X v).1 h3
    refine (XV.ren_rel (β := β2) (ρ := fun _ => d) X v).2 ?_
    refine XV.rel_congr (p := fun j => Nat.beq i j) (fun c _ => ?_) hXi e1
    simp [β2, setβ]
  · simp only [Mem.get, nbeq] at hc
    by_cases hcd : d = c
    · subst hcd
      simp only [decide_true, cond_true, Option.some.injEq] at hc
      subst hc
      exact Holds.move (β := β') (ow := ow') (c := d0) hcl (by simp [β2, setβ]) (fun _ k => ho k) (fun e => by rw [hro] at e; cases e) (h4 d0 ch' (by simp [Mem.get]))
    · simp [hcd] at hc
def RoAt (w : World) (B : Nat → Prop) (L : Loc) (sz n : Nat) (f : Nat → List Value) : Prop :=
  if L.nil = true then n = 0 else (L.blk < w.heap.size ∧ B L.blk) ∧ ∀ i, i < n → (f i).length = sz ∧ ∀ j v, (f i)[j]? = some v → w.cell? (L.addr (i * sz + j)) = some v
def ExtAt (w : World) (B : Nat → Prop) (L : Loc) (A : ExtP) : Prop := ∃ O : Nat → Prop, (∀ k, O k → k < w.heap.size ∧ B k) ∧ A.Ψ w L O
def HoldsAt (w : World) (B : Nat → Prop) (L : Loc) : Chunk → Prop
  | .ro sz n f => RoAt w B L sz n f
  | .ext A => ExtAt w B L A
  | _ => False
theorem HoldsAt.holds {w : World} {B : Nat → Prop} {β : Nat → Loc} {c : Nat} {ch : Chunk} (h : HoldsAt w B (β c) ch) {ow : Nat → Option Nat} (hB : ∀ k, B k → ow k = none) : Holds β ow w c ch := by
  cases ch with
  | ro sz n f =>
    simp only [HoldsAt, RoAt] at h
    simp only [Holds]
    by_cases hn : (β c).nil = true
    · rw [if_pos hn] at h ⊢; exact h
    · rw [if_neg hn] at h ⊢; exact ⟨hB _ h.1.2, h.1.1, h.2⟩
  | ext A =>
    obtain ⟨O, k1, k2⟩ := h
    exact ⟨O, fun k hk => ⟨hB k (k1 k hk).2, (k1 k hk).1⟩, k2⟩
  | _ => cases h
structure AD where
  wid : Nat
  cv : Nat → CV
  mem : Nat → Mem
  low : ∀ {i c : Nat} {ch : Chunk}, (mem i).get c = some ch → i ≤ c ∧ c < i + wid ∧ ch.isRo = true
def AD.plain (c : CV) : AD := ⟨1, fun _ => c, fun _ => [], fun h => by cases h⟩
theorem one_low {i c : Nat} {ch0 ch : Chunk} (h0 : ch0.isRo = true) (h : Mem.get [(i, ch0)] c = some ch) : i ≤ c ∧ c < i + 1 ∧ ch.isRo = true := by
  simp only [Mem.get, nbeq] at h
  by_cases hi : i = c
  · subst hi
    simp only [decide_true, cond_true, Option.some.injEq] at h
    exact ⟨Nat.le_refl _, Nat.lt_succ_self _, by rw [← h]; exact h0⟩
  · simp [hi] at h
def AD.row (sz n : Nat) (f : Nat → List Value) : AD := ⟨1, fun i => .one (.slc i sz 0 n), fun i => [(i, .ro sz n f)], fun h => one_low rfl h⟩
def wids : List AD → Nat
  | [] => 0
  | a :: r => a.wid + wids r
def canX : Nat → List AD → List CV
  | _, [] => []
  | i, a :: r => a.cv i :: canX (i + a.wid) r
def canE : Nat → List ExtP → Mem
  | _, [] => []
  | i, A :: r => (i, .ext A) :: canE (i + 1) r
def canL : Nat → List AD → Mem
  | _, [] => []
  | i, a :: r => a.mem i ++ canL (i + a.wid) r
def canM (es : List ExtP) (i : Nat) (l : List AD) : Mem := canL i l ++ canE (i + wids l) es
def Free (rd : List Nat) (ow : Nat → Option Nat) (k : Nat) : Prop := ow k = none ∨ ∃ q ∈ rd, ow k = some q
def Lends (M : Mem) (rd : List Nat) (X : CV) (a : AD) : Prop := ∀ β ow (w : World) v, WF ow w → X.rel β v → (∀ c ∈ rd, ∀ ch, M.get c = some ch → Holds β ow w c ch) →
  ∃ Ls : List Loc, Ls.length = a.wid ∧ ∀ (i : Nat) (β0 : Nat → Loc), (∀ k L, Ls[k]? = some L → β0 (i + k) = L) → (a.cv i).rel β0 v ∧ ∀ c ch, (a.mem i).get c = some ch → HoldsAt w (Free rd ow) (β0 c) ch
def LendsE (M : Mem) (rd : List Nat) (A : ExtP) : Prop := ∀ β ow (w : World), WF ow w → (∀ c ∈ rd, ∀ ch, M.get c = some ch → Holds β ow w c ch) → ∃ L, ExtAt w (Free rd ow) L A
def LendsL (M : Mem) (rd : List Nat) : List CV → List AD → Prop
  | [], [] => True
  | X :: r, a :: l => Lends M rd X a ∧ LendsL M rd r l
  | _, _ => False
def LendsX (M : Mem) (rd : List Nat) : List ExtP → Prop
  | [] => True
  | A :: r => LendsE M rd A ∧ LendsX M rd r
theorem one_holds {w : World} {B : Nat → Prop} {β0 : Nat → Loc} {L : Loc} {i : Nat} {ch0 : Chunk} (hb : β0 i = L) (h : HoldsAt w B L ch0) : ∀ c ch, Mem.get [(i, ch0)] c = some ch → HoldsAt w B (β0 c) ch := by
  intro c ch hc
  simp only [Mem.get, nbeq] at hc
  by_cases hi : i = c
  · subst hi
    simp only [decide_true, cond_true, Option.some.injEq] at hc
    rw [hb, ← hc]; exact h
  · simp [hi] at hc
theorem Lends.row {M : Mem} {rd : List Nat} {X : CV} {sz n : Nat} {f : Nat → List Value} (h : ∀ β ow (w : World) v, WF ow w → X.rel β v → (∀ c ∈ rd, ∀ ch, M.get c = some ch → Holds β ow w c ch) → ∃ L : Loc, (SV.slc 0 sz 0 n).rel (fun _ => L) v ∧ RoAt w (Free rd ow) L sz n f) : Lends M rd X (.row sz n f) := by
  intro β ow w v hw hv hr
  obtain ⟨L, h1, h2⟩ := h β ow w v hw hv hr
  refine ⟨[L], rfl, fun i β0 hβ => ?_⟩
  have hb : β0 i = L := by simpa using hβ 0 L rfl
  exact ⟨by simp only [AD.row, CV.rel, SV.rel] at h1 ⊢; rw [hb]; exact h1, one_holds hb h2⟩
theorem Lends.at_row {M : Mem} {rd : List Nat} {X : CV} {sz n : Nat} {f : Nat → List Value} (h : Lends M rd X (.row sz n f)) {β : Nat → Loc} {ow : Nat → Option Nat} {w : World} {v : Value} (hw : WF ow w) (hv : X.rel β v) (hr : ∀ c ∈ rd, ∀ ch, M.get c = some ch → Holds β ow w c ch) : ∃ L : Loc, (SV.slc 0 sz 0 n).rel (fun _ => L) v ∧ RoAt w (Free rd ow) L sz n f := by
  obtain ⟨Ls, h1, h2⟩ := h β ow w v hw hv hr
  match Ls, h1 with
  | [L], _ =>
    obtain ⟨g1, g2⟩ := h2 0 (fun _ => L) (fun k L' hk => by
      cases k with
      | zero => simpa using hk
      | succ k => simp at hk)
    exact ⟨L, g1, g2 0 (.ro sz n f) rfl⟩
theorem canE_get {es : List ExtP} : ∀ {i c : Nat} {ch : Chunk}, (canE i es).get c = some ch → i ≤ c ∧ c < i + es.length ∧ ∃ A, ch = .ext A ∧ es[c - i]? = some A := by
  induction es with
  | nil => intro i c ch h; simp [canE, Mem.get] at h
  | cons A r ih =>
    intro i c ch h
    simp only [canE, Mem.get, nbeq] at h
    by_cases hi : i = c
    · subst hi
      simp only [decide_true, cond_true, Option.some.injEq] at h
      exact ⟨Nat.le_refl _, by simp, A, h.symm, by simp⟩
    · simp only [hi, decide_false, cond_false] at h
      obtain ⟨h1, h2, B, h3, h4⟩ := ih h
      refine ⟨by omega, by simp only [List.length_cons]; omega, B, h3, ?_⟩
      have : c - i = (c - (i + 1)) + 1 := by omega
      rw [this, List.getElem?_cons_succ]
      exact h4
theorem canL_get : ∀ {l : List AD} {i c : Nat} {ch : Chunk}, (canL i l).get c = some ch → i ≤ c ∧ c < i + wids l ∧ ch.isRo = true
  | [], i, c, ch, h => by simp [canL, Mem.get] at h
  | a :: r, i, c, ch, h => by
    rw [canL, Mem.get_append] at h
    cases hm : (a.mem i).get c with
    | some ch0 =>
      rw [hm] at h
      simp only [Option.some_or, Option.some.injEq] at h
      subst h
      obtain ⟨h1, h2, h3⟩ := a.low hm
      exact ⟨h1, by simp only [wids]; omega, h3⟩
    | none =>
      rw [hm] at h
      obtain ⟨h1, h2, h3⟩ := canL_get (l := r) (by simpa using h)
      exact ⟨by omega, by simp only [wids]; omega, h3⟩
theorem canM_get {es : List ExtP} {l : List AD} {i c : Nat} {ch : Chunk} (h : (canM es i l).get c = some ch) : i ≤ c ∧ c < i + (wids l + es.length) ∧ ch.isRo = true ∧ ((canL i l).get c = some ch ∨ ∃ A, ch = .ext A ∧ i + wids l ≤ c ∧ es[c - (i + wids l)]? = some A) := by
  rw [canM, Mem.get_append] at h
  cases hm : (canL i l).get c with
  | some ch0 =>
    rw [hm] at h
    simp only [Option.some_or, Option.some.injEq] at h
    subst h
    obtain ⟨h1, h2, h3⟩ := canL_get hm
    exact ⟨h1, by omega, h3, .inl rfl⟩
  | none =>
    rw [hm] at h
    obtain ⟨h1, h2, A, h3, h4⟩ := canE_get (i := i + wids l) (by simpa using h)
    exact ⟨by omega, by omega, by rw [h3]; rfl, .inr ⟨A, h3, h1, h4⟩⟩
theorem LendsL.args {M : Mem} {rd : List Nat} {β : Nat → Loc} {ow : Nat → Option Nat} {w : World} (hw : WF ow w) (hr : ∀ c ∈ rd, ∀ ch, M.get c = some ch → Holds β ow w c ch) : ∀ {Xs : List CV} {l : List AD} {vs : List Value}, LendsL M rd Xs l → CVs β Xs vs →
    ∃ Ls : List Loc, Ls.length = wids l ∧ ∀ (i : Nat) (β0 : Nat → Loc), (∀ k L, Ls[k]? = some L → β0 (i + k) = L) → CVs β0 (canX i l) vs ∧ ∀ c ch, (canL i l).get c = some ch → HoldsAt w (Free rd ow) (β0 c) ch
  | [], [], vs, _, hv => ⟨[], rfl, fun i β0 _ => ⟨hv, fun c ch h => by simp [canL, Mem.get] at h⟩⟩
  | X :: r, a :: l, vs, hl, hv => by
    obtain ⟨v, t, rfl, h1, h2⟩ := hv
    obtain ⟨La, a1, a2⟩ := hl.1 β ow w v hw h1 hr
    obtain ⟨Ls, e1, e2⟩ := LendsL.args hw hr hl.2 h2
    refine ⟨La ++ Ls, by simp [e1, a1, wids], fun i β0 hβ => ?_⟩
    obtain ⟨f1, f2⟩ := a2 i β0 (fun k L hk => hβ k L (by rw [List.getElem?_append_left (List.getElem?_eq_some_iff.1 hk).1]; exact hk))
    obtain ⟨g1, g2⟩ := e2 (i + a.wid) β0 (fun k L' hk => by
      have := hβ (a.wid + k) L' (by rw [List.getElem?_append_right (by omega), a1, Nat.add_sub_cancel_left]; exact hk)
      rwa [← Nat.add_assoc] at this)
    refine ⟨⟨v, t, rfl, f1, g1⟩, fun c ch hc => ?_⟩
    rw [canL, Mem.get_append] at hc
    cases hm : (a.mem i).get c with
    | some ch0 =>
      rw [hm] at hc
      simp only [Option.some_or, Option.some.injEq] at hc
      subst hc
      exact f2 c _ hm
    | none =>
      rw [hm] at hc
      exact g2 c ch (by simpa using hc)
  | [], _ :: _, _, hl, _ => hl.elim
  | _ :: _, [], _, hl, _ => hl.elim
theorem LendsX.exts {M : Mem} {rd : List Nat} {β : Nat → Loc} {ow : Nat → Option Nat} {w : World} (hw : WF ow w) (hr : ∀ c ∈ rd, ∀ ch, M.get c = some ch → Holds β ow w c ch) : ∀ {es : List ExtP}, LendsX M rd es →
    ∃ Ls : List Loc, Ls.length = es.length ∧ ∀ (k : Nat) (A : ExtP), es[k]? = some A → ∃ L, Ls[k]? = some L ∧ ExtAt w (Free rd ow) L A
  | [], _ => ⟨[], rfl, fun k A h => by simp at h⟩
  | A :: r, h => by
    obtain ⟨L, hL⟩ := h.1 β ow w hw hr
    obtain ⟨Ls, e1, e2⟩ := LendsX.exts hw hr h.2
    refine ⟨L :: Ls, by simp [e1], fun k B hk => ?_⟩
    cases k with
    | zero =>
      simp only [List.getElem?_cons_zero, Option.some.injEq] at hk
      subst hk
      exact ⟨L, by simp, hL⟩
    | succ k => simpa using e2 k B (by simpa using hk)
theorem lend_at {M : Mem} {rd : List Nat} {Xs : List CV} {l : List AD} {es : List ExtP} (ha : LendsL M rd Xs l) (he : LendsX M rd es) (i0 : Nat) {β : Nat → Loc} {ow : Nat → Option Nat} {w : World} {vs : List Value} (hw : WF ow w) (hvs : CVs β Xs vs) (hr : ∀ c ∈ rd, ∀ ch, M.get c = some ch → Holds β ow w c ch)
    (pre : Nat → Loc) (ow0 : Nat → Option Nat) (hB : ∀ k, Free rd ow k → ow0 k = none) :
    ∃ β0 : Nat → Loc, (∀ i, i < i0 → β0 i = pre i) ∧ CVs β0 (canX i0 l) vs ∧ ∀ c ch, (canM es i0 l).get c = some ch → Holds β0 ow0 w c ch := by
  obtain ⟨Ls, e1, e2⟩ := LendsL.args hw hr ha hvs
  obtain ⟨Es, f1, f2⟩ := LendsX.exts hw hr he
  let β0 : Nat → Loc := fun i => if i < i0 then pre i else ((Ls ++ Es)[i - i0]?).getD default
  obtain ⟨g1, g2⟩ := e2 i0 β0 (fun k L hk => by
    have : k < Ls.length := (List.getElem?_eq_some_iff.1 hk).1
    simp only [β0]
    rw [if_neg (by omega), show i0 + k - i0 = k by omega, List.getElem?_append_left this, hk]
    rfl)
  refine ⟨β0, fun i hi => by simp [β0, hi], g1, fun c ch hc => ?_⟩
  obtain ⟨h1, h2, _, h4⟩ := canM_get hc
  rcases h4 with h4 | ⟨A, rfl, h5, h6⟩
  · exact (g2 c ch h4).holds hB
  · obtain ⟨L, k1, k2⟩ := f2 _ A h6
    have hb : β0 c = L := by
      simp only [β0]
      rw [if_neg (by omega), List.getElem?_append_right (by omega)]
      rw [show c - i0 - Ls.length = c - (i0 + wids l) by omega, k1]
      rfl
    exact HoldsAt.holds (ch := .ext A) (by rw [hb]; exact k2) hB
theorem lend_all {M : Mem} {rd : List Nat} {Xs : List CV} {l : List AD} {es : List ExtP} (ha : LendsL M rd Xs l) (he : LendsX M rd es) (rd0 : List Nat) : ∀ β ow (w : World) vs, WF ow w → CVs β Xs vs → (∀ c ∈ rd, ∀ ch, M.get c = some ch → Holds β ow w c ch) →
    ∃ β0, CVs β0 (canX 0 l) vs ∧ ∀ c ∈ rd0, ∀ ch, (canM es 0 l).get c = some ch → Holds β0 (fun _ => none) w c ch := by
  intro β ow w vs hw hvs hr
  obtain ⟨β0, _, h1, h2⟩ := lend_at ha he 0 hw hvs hr (fun _ => default) (fun _ => none) (fun _ _ => rfl)
  exact ⟨β0, h1, fun c _ ch hc => h2 c ch hc⟩
inductive AC where
  | raw (v : Value)
  | row (sz n : Nat) (f : Nat → List Value)
def boxC : Nat → List AC → List SV
  | _, [] => []
  | i, .raw v :: r => .raw v :: boxC i r
  | i, .row sz n _ :: r => .slc i sz 0 n :: boxC (i + 1) r
def boxM : Nat → List AC → Mem
  | _, [] => []
  | i, .raw _ :: r => boxM i r
  | i, .row sz n f :: r => (i, .ro sz n f) :: boxM (i + 1) r
def boxW : List AC → Nat
  | [] => 0
  | .raw _ :: r => boxW r
  | .row _ _ _ :: r => boxW r + 1
theorem boxM_low : ∀ {l : List AC} {i c : Nat} {ch : Chunk}, (boxM i l).get c = some ch → i ≤ c ∧ c < i + boxW l ∧ ch.isRo = true
  | [], i, c, ch, h => by simp [boxM, Mem.get] at h
  | .raw v :: r, i, c, ch, h => boxM_low (l := r) h
  | .row sz n f :: r, i, c, ch, h => by
    simp only [boxM, Mem.get, nbeq] at h
    by_cases hi : i = c
    · subst hi
      simp only [decide_true, cond_true, Option.some.injEq] at h
      exact ⟨Nat.le_refl _, by simp only [boxW]; omega, by rw [← h]; rfl⟩
    · simp only [hi, decide_false, cond_false] at h
      obtain ⟨h1, h2, h3⟩ := boxM_low (l := r) h
      exact ⟨by omega, by simp only [boxW]; omega, h3⟩
def AD.box (l : List AC) : AD := ⟨boxW l, fun i => .agg (boxC i l), fun i => boxM i l, fun h => boxM_low h⟩
def LendsC (M : Mem) (rd : List Nat) : List SV → List AC → Prop
  | [], [] => True
  | s :: r, .raw v :: l => s = .raw v ∧ LendsC M rd r l
  | s :: r, .row sz n f :: l => Lends M rd (.one s) (.row sz n f) ∧ LendsC M rd r l
  | _, _ => False
theorem LendsC.cells {M : Mem} {rd : List Nat} {β : Nat → Loc} {ow : Nat → Option Nat} {w : World} (hw : WF ow w) (hr : ∀ c ∈ rd, ∀ ch, M.get c = some ch → Holds β ow w c ch) : ∀ {cs : List SV} {l : List AC} {vs : List Value}, LendsC M rd cs l → Rels β cs vs →
    ∃ Ls : List Loc, Ls.length = boxW l ∧ ∀ (i : Nat) (β0 : Nat → Loc), (∀ k L, Ls[k]? = some L → β0 (i + k) = L) → Rels β0 (boxC i l) vs ∧ ∀ c ch, (boxM i l).get c = some ch → HoldsAt w (Free rd ow) (β0 c) ch
  | [], [], vs, _, hv => ⟨[], rfl, fun i β0 _ => ⟨hv, fun c ch h => by simp [boxM, Mem.get] at h⟩⟩
  | s :: r, .raw x :: l, vs, hl, hv => by
    obtain ⟨v, t, rfl, h1, h2⟩ := hv
    obtain ⟨rfl, hl⟩ := hl
    obtain ⟨Ls, e1, e2⟩ := LendsC.cells hw hr hl h2
    exact ⟨Ls, e1, fun i β0 hβ => ⟨⟨v, t, rfl, h1, (e2 i β0 hβ).1⟩, (e2 i β0 hβ).2⟩⟩
  | s :: r, .row sz n f :: l, vs, hl, hv => by
    obtain ⟨v, t, rfl, h1, h2⟩ := hv
    obtain ⟨L, a1, a2⟩ := hl.1.at_row hw h1 hr
    obtain ⟨Ls, e1, e2⟩ := LendsC.cells hw hr hl.2 h2
    refine ⟨L :: Ls, by simp [e1, boxW], fun i β0 hβ => ?_⟩
    have hb : β0 i = L := by simpa using hβ 0 L rfl
    obtain ⟨g1, g2⟩ := e2 (i + 1) β0 (fun k L' hk => by
      have := hβ (k + 1) L' (by simpa using hk)
      rwa [Nat.add_right_comm, Nat.add_assoc])
    refine ⟨⟨v, t, rfl, by simp only [SV.rel] at a1 ⊢; rw [hb]; exact a1, g1⟩, fun c ch hc => ?_⟩
    simp only [boxM, Mem.get, nbeq] at hc
    by_cases hi : i = c
    · subst hi
      simp only [decide_true, cond_true, Option.some.injEq] at hc
      rw [hb, ← hc]; exact a2
    · simp only [hi, decide_false, cond_false] at hc
      exact g2 c ch hc
theorem LendsC.raws {M : Mem} {rd : List Nat} {cs : List SV} {l : List AC} (h : LendsC M rd cs l) : ∀ vs : List Value, LendsC M rd (vs.map .raw ++ cs) (vs.map .raw ++ l)
  | [] => h
  | _ :: vs => ⟨rfl, LendsC.raws h vs⟩
def Reads (P : Program) (f : FuncId) (l : List AD) (es : List ExtP) (X : XV) : Prop := ∃ d, CallSpec P f (canX 0 l) (canM es 0 l) d { v := X } (List.range (wids l + es.length)) ∧ X.ok (fun _ => false) = true
def Makes (P : Program) (f : FuncId) (l : List AD) (es : List ExtP) (X : XV) (ch : Chunk) : Prop := ∃ d, CallSpec P f (canX 0 l) (canM es 0 l) d { v := X.ren fun _ => d, upd := [(d, ch)] } (List.range (wids l + es.length)) ∧ X.ok (fun j => Nat.beq 0 j) = true ∧ ch.closed = true ∧ ch.isRo = false
theorem Reads.at {P : Program} {f : FuncId} {l : List AD} {es : List ExtP} {X : XV} (h : Reads P f l es X) {Xs : List CV} {M : Mem} {d : Nat} (rd : List Nat) (ha : LendsL M rd Xs l) (he : LendsX M rd es) : CallSpec P f Xs M d { v := X } rd := by
  obtain ⟨d0, h1, h2⟩ := h
  exact h1.lend h2 (lend_all ha he _)
theorem Makes.at {P : Program} {f : FuncId} {l : List AD} {es : List ExtP} {X : XV} {ch : Chunk} (h : Makes P f l es X ch) {Xs : List CV} {M : Mem} {d : Nat} (rd : List Nat) (ha : LendsL M rd Xs l) (he : LendsX M rd es) : CallSpec P f Xs M d { v := X.ren fun _ => d, upd := [(d, ch)] } rd := by
  obtain ⟨d0, h1, h2, h3, h4⟩ := h
  exact CallSpec.lendMade 0 h2 h3 h4 h1 (lend_all ha he _)
theorem Reads.of {P : Program} {T : TyTab} {f : FuncId} {fn : Func} {c : Code} (hT : TabOK P T) (hf : P.funcs[f]? = some fn) (hb : fn.body = some c) (l : List AD) (es : List ExtP) (X : XV)
    (hXl : (canX 0 l).all (CV.ok fun i => Nat.blt i (wids l + es.length)) = true) (hX : X.ok (fun _ => false) = true)
    (h : ∀ C : Ctx, C.n0 = wids l + es.length → Tri P C c ⟨slots0 fn.ntmps ((canX 0 l).map .cv), canM es 0 l, wids l + es.length⟩ (Ends C T fn.results.toList 0 (wids l + es.length) ⟨X, [], none⟩)) : Reads P f l es X :=
  ⟨wids l + es.length, spec_reads hT hf hb (canX 0 l) X (canM es 0 l) (wids l + es.length) hXl hX (fun i ch hi => by obtain ⟨_, h2, h3, _⟩ := canM_get hi; exact ⟨by omega, h3⟩) h (fun _ _ h => h) (Nat.le_refl _), hX⟩
theorem Makes.of {P : Program} {T : TyTab} {f : FuncId} {fn : Func} {c : Code} (hT : TabOK P T) (hf : P.funcs[f]? = some fn) (hb : fn.body = some c) (l : List AD) (es : List ExtP) (X : XV) (ch : Chunk) (hcl : ch.closed = true) (hro : ch.isRo = false)
    (hXl : (canX 0 l).all (CV.ok fun i => Nat.blt i (wids l + es.length)) = true) (hX : X.ok (fun j => Nat.beq 0 j) = true) (i : Nat)
    (h : ∀ C : Ctx, C.n0 = wids l + es.length → Tri P C c ⟨slots0 fn.ntmps ((canX 0 l).map .cv), canM es 0 l, wids l + es.length⟩ (Ends C T fn.results.toList 0 (wids l + es.length) ⟨X.ren fun _ => i, [], some (i, ch)⟩)) : Makes P f l es X ch := by
  have hXi : (X.ren fun _ => i).ok (fun j => Nat.beq i j) = true := by
    have hs : ∀ s : SV, s.ok (fun j => Nat.beq 0 j) = true → (s.ren fun _ => i).ok (fun j => Nat.beq i j) = true := by intro s _; cases s <;> simp [SV.ren, SV.ok, List.all_map]
    have hc : ∀ s : CV, s.ok (fun j => Nat.beq 0 j) = true → (s.ren fun _ => i).ok (fun j => Nat.beq i j) = true := by
      intro s hk
      cases s with
      | one s => exact hs s hk
      | agg cs =>
        simp only [CV.ren, CV.ok, List.all_map, List.all_eq_true] at hk ⊢
        exact fun s hm => hs s (hk s hm)
    cases X with
    | cv s => exact hc s hX
    | tup cs =>
      simp only [XV.ren, XV.ok, List.all_map, List.all_eq_true] at hX ⊢
      exact fun s hm => hc s (hX s hm)
  have hren : ∀ d, (X.ren fun _ => i).ren (fun _ => d) = X.ren fun _ => d := by
    intro d
    have hs : ∀ s : SV, (s.ren fun _ => i).ren (fun _ => d) = s.ren fun _ => d := by
      intro s
      cases s with
      | fn f caps => simp only [SV.ren, List.map_map]; rfl
      | _ => rfl
    have hc : ∀ s : CV, (s.ren fun _ => i).ren (fun _ => d) = s.ren fun _ => d := by
      intro s
      cases s with
      | one s => simp only [CV.ren, hs]
      | agg cs => simp only [CV.ren, List.map_map]; congr 1; apply List.map_congr_left; intro s _; exact hs s
    cases X with
    | cv s => simp only [XV.ren, hc]
    | tup cs => simp only [XV.ren, List.map_map]; congr 1; apply List.map_congr_left; intro s _; exact hc s
  have := spec_made_reads hT hf hb hcl hro (canX 0 l) (canM es 0 l) (wids l + es.length) hXl (fun i ch hi => by obtain ⟨_, h2, h3, _⟩ := canM_get hi; exact ⟨by omega, h3⟩) (M := canM es 0 l) (d := wids l + es.length) (fun _ _ h => h) (Nat.le_refl _) i (X.ren fun _ => i) hXi h
  rw [hren] at this
  exact ⟨_, this, hX, hcl, hro⟩
def Acts (P : Program) (f : FuncId) (ch ch' : Chunk) (l : List AD) (es : List ExtP) (X : XV) : Prop :=
  ∃ d, CallSpec P f (.one (.ptr 0 0 0 0) :: canX 1 l) ((0, ch) :: canM es 1 l) d { v := X, upd := [(0, ch')], wr := [0] } (List.range (1 + (wids l + es.length))) ∧ 1 + (wids l + es.length) ≤ d ∧ X.ok (fun _ => false) = true ∧ (ch.closed && ch'.closed && !ch.isRo && !ch'.isRo) = true
theorem Acts.at {P : Program} {f : FuncId} {ch ch' : Chunk} {l : List AD} {es : List ExtP} {X : XV} (h : Acts P f ch ch' l es X) {Xs : List CV} {M : Mem} {c d : Nat} (rd : List Nat) (hc : M.get c = some ch) (hcd : Nat.beq c d = false) (hrd : nmem c rd = false) (ha : LendsL M rd Xs l) (he : LendsX M rd es) :
    CallSpec P f (.one (.ptr c 0 0 0) :: Xs) M d { v := X, upd := [(c, ch')], wr := [c] } (c :: rd) := by
  obtain ⟨d0, h1, hd0, h2, h3⟩ := h
  simp only [Bool.and_eq_true, Bool.not_eq_true'] at h3
  obtain ⟨⟨⟨k1, k2⟩, k3⟩, k4⟩ := h3
  rw [nbeq, decide_eq_false_iff_not] at hcd
  have hcr : c ∉ rd := fun hm => by rw [(nmem_iff c rd).2 hm] at hrd; cases hrd
  intro β ow w vs hw hfr hvs hr
  obtain ⟨v0, t, rfl, hv0, ht⟩ := hvs
  let ow0 : Nat → Option Nat := fun k => if ow k = some c then some 0 else none
  have hB : ∀ k, Free rd ow k → ow0 k = none := by
    intro k hk
    simp only [ow0]
    rcases hk with hk | ⟨q, hq, hk⟩
    · simp [hk]
    · have : q ≠ c := fun e => hcr (e ▸ hq)
      simp [hk, this]
  obtain ⟨β0, e0, e1, e2⟩ := lend_at ha he 1 hw ht (fun q hq ch hch => hr q (by simp [hq]) ch hch) (fun _ => β c) ow0 hB
  have hb0 : β0 0 = β c := e0 0 (by omega)
  have howc : ∀ k, ow0 k = some 0 ↔ ow k = some c := fun k => by simp only [ow0]; by_cases h : ow k = some c <;> simp [h]
  have hin : Holds β0 ow0 w 0 ch := Holds.move (β := β) (ow := ow) (c := c) k1 hb0 (fun _ k => howc k) (fun e => by rw [k3] at e; cases e) (hr c (by simp) ch hc)
  refine (h1 β0 ow0 w (v0 :: t) (fun k hk => ?_) (fun k hk => ?_) ⟨v0, t, rfl, ?_, e1⟩ (fun q _ ch0 hq => ?_)).mono ?_
  · simp only [ow0] at hk
    by_cases h : ow k = some c
    · exact hw k (by simp [h])
    · simp [h] at hk
  · have hd1 : 1 ≤ d0 := by omega
    simp only [ow0] at hk
    by_cases h : ow k = some c
    · simp only [h, if_true, Option.some.injEq] at hk; omega
    · simp [h] at hk
  · simp only [CV.rel, SV.rel] at hv0 ⊢
    rw [hb0]; exact hv0
  · simp only [Mem.get, nbeq] at hq
    by_cases hq0 : 0 = q
    · subst hq0
      simp only [decide_true, cond_true, Option.some.injEq] at hq
      subst hq; exact hin
    · simp only [hq0, decide_false, cond_false] at hq
      exact e2 q ch0 hq
  rintro e w' ⟨v, β', ow', rfl, E, r1, r2⟩
  have hb' : β' 0 = β c := by rw [E.beta 0 (by omega), hb0]
  let ow2 : Nat → Option Nat := fun k => if ow' k = some 0 then some c else if ow k = some c then none else ow k
  have ho2 : ∀ k, ow2 k = some c ↔ ow' k = some 0 := fun k => by
    simp only [ow2]
    by_cases h : ow' k = some 0
    · simp [h]
    · by_cases h2 : ow k = some c <;> simp [h, h2]
  refine ⟨v, β, ow2, rfl, ⟨fun _ _ => rfl, E.os, E.tape, E.output, E.size, fun k hk hn => ?_, fun k hk c' hc' => ?_, fun k hk => ?_⟩, XV.rel_congr (p := fun _ => false) (fun _ h => by cases h) h2 r1, fun q chq hq => ?_⟩
  · have hne : ow k ≠ some c := hn c (by simp)
    have hz : ow0 k = none := by simp [ow0, hne]
    obtain ⟨m1, m2⟩ := E.keep k hk (fun c0 _ e => by rw [hz] at e; cases e)
    refine ⟨m1, ?_⟩
    simp only [ow2, m2, hz, hne, if_false]
    simp
  · by_cases h : ow' k = some 0
    · simp only [ow2, h, if_true, Option.some.injEq] at hc'; exact .inl (by simp [hc'])
    · by_cases h2 : ow k = some c
      · simp [ow2, h, h2] at hc'
      · simp only [ow2, h, h2, if_false] at hc'
        rcases hk with hk | ⟨c0, h0, hk⟩
        · have := hw k (by simp [hc']); omega
        · simp only [List.mem_singleton] at h0; subst h0; exact absurd hk h2
  · by_cases h : ow' k = some 0
    · exact E.wf k (by simp [h])
    · by_cases h2 : ow k = some c
      · simp [ow2, h, h2] at hk
      · simp only [ow2, h, h2, if_false] at hk
        exact Nat.lt_of_lt_of_le (hw k hk) E.size
  · simp only [Mem.get, nbeq] at hq
    by_cases hcq : c = q
    · subst hcq
      simp only [decide_true, cond_true, Option.some.injEq] at hq
      subst hq
      exact Holds.move (β := β') (ow := ow') (c := 0) k2 (by rw [hb']) (fun _ k => ho2 k) (fun e => by rw [k4] at e; cases e) (r2 0 ch' (by simp [Mem.get]))
    · simp [hcq] at hq
theorem Acts.of {P : Program} {T : TyTab} {f : FuncId} {fn : Func} {c : Code} (hT : TabOK P T) (hf : P.funcs[f]? = some fn) (hb : fn.body = some c) (ch ch' : Chunk) (l : List AD) (es : List ExtP) (X : XV) (hcl : (ch.closed && ch'.closed && !ch.isRo && !ch'.isRo) = true)
    (hXl : (canX 1 l).all (CV.ok fun i => Nat.blt i (1 + (wids l + es.length))) = true) (hX : X.ok (fun _ => false) = true)
    (h : ∀ C : Ctx, C.n0 = 1 + (wids l + es.length) → Tri P C c ⟨slots0 fn.ntmps (.cv (.one (.ptr 0 0 0 0)) :: (canX 1 l).map .cv), (0, ch) :: canM es 1 l, 1 + (wids l + es.length)⟩ (Ends C T fn.results.toList 1 (1 + (wids l + es.length)) ⟨X, [(0, ch')], none⟩)) : Acts P f ch ch' l es X := by
  let n := 1 + (wids l + es.length)
  have hcl' := hcl
  simp only [Bool.and_eq_true, Bool.not_eq_true'] at hcl
  obtain ⟨⟨⟨k1, k2⟩, k3⟩, k4⟩ := hcl
  have hi : ∀ i, i < n → ([0] ++ (List.range (wids l + es.length)).map (· + 1))[i]? = some i := by
    intro i hi
    cases i with
    | zero => rfl
    | succ i =>
      simp only [n] at hi
      have : i < wids l + es.length := by omega
      simp [this]
  have hall : (CV.one (.ptr 0 0 0 0) :: canX 1 l).all (CV.ok fun i => Nat.blt i n) = true := by
    rw [List.all_cons, Bool.and_eq_true]
    exact ⟨by simp only [CV.ok, SV.ok, n, Nat.blt_eq]; omega, hXl⟩
  have hren : (CV.one (.ptr 0 0 0 0) :: canX 1 l) = (CV.one (.ptr 0 0 0 0) :: canX 1 l).map (CV.ren fun i => (([0] ++ (List.range (wids l + es.length)).map (· + 1))[i]?).getD n) := by
    rw [CVs.ren_congr (ρ' := id) (p := fun i => Nat.blt i n) (fun c hc => by simp only [Nat.blt_eq] at hc; rw [hi c hc]; rfl) hall, CVs.ren_id]
  have hrange : List.range (1 + (wids l + es.length)) = [0] ++ (List.range (wids l + es.length)).map (· + 1) := by
    rw [Nat.add_comm 1, List.range_succ_eq_map]; rfl
  refine ⟨n, ?_, Nat.le_refl _, hX, hcl'⟩
  rw [hrange]
  refine spec_of_text (ids := [0]) (rids := (List.range (wids l + es.length)).map (· + 1)) (Xl := .one (.ptr 0 0 0 0) :: canX 1 l) (M0 := (0, ch) :: canM es 1 l) (out := ⟨X, [(0, ch')], none⟩) (k1 := 1) (n0 := n) hT hf hb (by simp) rfl (by simp [n]) (by simp [n]; omega) hall (fun i ch0 hm => ?_) (fun i ch0 hm => ?_) (fun i ch0 hm => by cases hm) (XV.ok_mono (fun _ h => by cases h) hX) h hren (XV.ren_closed hX).symm rfl (fun q chq hq => ?_)
  · have hm' := hm
    simp only [Mem.get, nbeq] at hm
    by_cases h0 : 0 = i
    · subst h0
      simp only [decide_true, cond_true, Option.some.injEq] at hm
      subst hm
      exact ⟨by simp [n]; omega, k1, fun h => by omega, fun ci hci => by simp at hci; subst hci; exact hm'⟩
    · simp only [h0, decide_false, cond_false] at hm
      obtain ⟨q1, q2, q3, _⟩ := canM_get hm
      refine ⟨by simp only [n]; omega, ?_, fun _ => q3, fun ci hci => ?_⟩
      · cases ch0 <;> first | rfl | cases q3
      · rw [hi i (by simp only [n]; omega)] at hci
        cases hci
        exact hm'
  · simp only [Mem.get, nbeq] at hm
    by_cases h0 : 0 = i
    · subst h0
      simp only [decide_true, cond_true, Option.some.injEq] at hm
      subst hm
      exact ⟨k2, k4⟩
    · simp [h0] at hm
  · simp only [Mem.get, nbeq] at hq
    by_cases h0 : 0 = q
    · subst h0
      simp only [decide_true, cond_true, Option.some.injEq] at hq
      subst hq
      exact .inl ⟨0, rfl, by simp [Mem.get]⟩
    · simp [h0] at hq
open Go.RowKit
section
variable {M : Mem} {rd : List Nat}
theorem lend_plain {c : CV} (hc : c.ok (fun _ => false) = true) : Lends M rd c (.plain c) := fun _ _ _ _ _ h _ => ⟨[default], rfl, fun _ _ _ => ⟨CV.rel_congr (p := fun _ => false) (fun _ h => by cases h) hc h, fun _ _ h => by cases h⟩⟩
def Loc.part (l : Loc) (off cap : Nat) : Loc := ⟨l.blk, l.base + off, cap, l.nil, l.sub⟩
theorem Loc.part_addr (l : Loc) (off cap n : Nat) : (l.part off cap).addr n = l.addr (off + n) := by simp [Loc.part, Loc.addr, Nat.add_assoc]
theorem slc_part {β : Nat → Loc} {c sz lo k : Nat} {v : Value} (h : (SV.slc c sz lo k).rel β v) : (SV.slc 0 sz 0 k).rel (fun _ => (β c).part (lo * sz) ((β c).cap - lo)) v := by
  simp only [SV.rel] at h ⊢
  by_cases hn : (β c).nil = true
  · have hn' : ((β c).part (lo * sz) ((β c).cap - lo)).nil = true := hn
    rw [if_pos hn] at h
    rw [if_pos hn']
    exact ⟨h.1, trivial, h.2.2⟩
  · have hn' : ¬ ((β c).part (lo * sz) ((β c).cap - lo)).nil = true := hn
    rw [if_neg hn] at h
    rw [if_neg hn']
    obtain ⟨a, h1, h2, h3⟩ := h
    refine ⟨a, by rw [h1]; simp [Loc.part], by simp [Loc.part]; omega, fun hl => ?_⟩
    rw [Loc.part_addr, h3 (by simp [Loc.part] at hl; omega)]
    simp
theorem lend_ro {c sz n lo k : Nat} {f g : Nat → List Value} (hm : M.get c = some (.ro sz n f)) (hrd : nmem c rd = true) (hk : lo + k ≤ n) (hg : ∀ i, i < k → g i = f (lo + i)) : Lends M rd (.one (.slc c sz lo k)) (.row sz k g) := by
  refine Lends.row ?_
  intro β ow w v _ h hr
  have hh := hr c ((nmem_iff c rd).1 hrd) _ hm
  refine ⟨_, slc_part h, ?_⟩
  simp only [Holds] at hh
  simp only [CV.rel, SV.rel] at h
  unfold RoAt
  by_cases hn : (β c).nil = true
  · rw [if_pos hn] at h
    rw [if_pos (show ((β c).part (lo * sz) ((β c).cap - lo)).nil = true from hn)]
    exact h.2.2
  · rw [if_neg hn] at hh
    rw [if_neg (show ¬ ((β c).part (lo * sz) ((β c).cap - lo)).nil = true from hn)]
    refine ⟨⟨hh.2.1, .inl hh.1⟩, fun i hi => ?_⟩
    obtain ⟨e1, e2⟩ := hh.2.2 (lo + i) (by omega)
    rw [hg i hi]
    refine ⟨e1, fun j u hu => ?_⟩
    rw [Loc.part_addr, ← e2 j u hu]
    congr 2
    rw [Nat.add_mul]; omega
def AllRows (M : Mem) (rd : List Nat) (sz : Nat) : List SV → List (Nat × (Nat → List Value)) → Prop
  | [], [] => True
  | s :: r, x :: l => Lends M rd (.one s) (.row sz x.1 x.2) ∧ AllRows M rd sz r l
  | _, _ => False
theorem AllRows.get {sz : Nat} : ∀ {ss : List SV} {l : List (Nat × (Nat → List Value))}, AllRows M rd sz ss l → ss.length = l.length ∧ ∀ (i : Nat) (x : Nat × (Nat → List Value)), l[i]? = some x → ∃ s, ss[i]? = some s ∧ Lends M rd (.one s) (.row sz x.1 x.2)
  | [], [], _ => ⟨rfl, fun i x h => by simp at h⟩
  | s :: r, y :: l, h => by
    obtain ⟨h1, h2⟩ := AllRows.get h.2
    refine ⟨by simp [h1], fun i x hx => ?_⟩
    cases i with
    | zero =>
      simp only [List.getElem?_cons_zero, Option.some.injEq] at hx
      subst hx
      exact ⟨s, rfl, h.1⟩
    | succ i => exact h2 i x (by simpa using hx)
  | [], _ :: _, h => h.elim
  | _ :: _, [], h => h.elim
theorem lend_ext {c : Nat} {A : ExtP} (hm : M.get c = some (.ext A)) (hrd : nmem c rd = true) : LendsE M rd A := by
  intro β ow w _ hr
  obtain ⟨O, h1, h2⟩ := hr c ((nmem_iff c rd).1 hrd) _ hm
  exact ⟨β c, O, fun k hk => ⟨(h1 k hk).2, .inl (h1 k hk).1⟩, h2⟩
end
def SV.ns (c : Nat) : SV → Bool
  | .slc c' _ _ _ => !Nat.beq c' c
  | .ins c' _ _ _ => !Nat.beq c' c
  | _ => true
def CV.ns (c : Nat) : CV → Bool
  | .one s => s.ns c
  | .agg cs => cs.all (SV.ns c)
def XV.ns (c : Nat) : XV → Bool
  | .cv s => s.ns c
  | .tup l => l.all (CV.ns c)
def Chunk.ns (c : Nat) : Chunk → Bool
  | .cells _ cs => cs.all (SV.ns c)
  | _ => true
def slotsNs (c : Nat) : List (Option XV) → Bool
  | [] => true
  | none :: r => slotsNs c r
  | some X :: r => X.ns c && slotsNs c r
def St.ns (S : St) (c : Nat) : Bool := slotsNs c S.slots && S.mem.all fun x => Nat.beq x.1 c || x.2.ns c
section
variable {β : Nat → Loc} {c : Nat} {L : Loc}
theorem SV.rel_cap (h1 : L.blk = (β c).blk) (h2 : L.base = (β c).base) (h4 : L.sub = (β c).sub) {s : SV} (hs : s.ns c = true) {v : Value} (h : s.rel β v) : s.rel (setβ β c L) v := by
  cases s with
  | raw x => exact h
  | ptr c' i sz j =>
    simp only [SV.rel] at h ⊢
    rw [h]
    by_cases hc : c' = c
    · subst hc; simp [setβ, Loc.addr, h1, h2]
    · simp [setβ, hc]
  | slc c' sz lo len =>
    simp only [SV.ns, nbeq, Bool.not_eq_true', decide_eq_false_iff_not] at hs
    simpa [SV.rel, setβ, hs] using h
  | map c' =>
    simp only [SV.rel] at h ⊢
    rw [h]
    by_cases hc : c' = c
    · subst hc; simp [setβ, h1]
    · simp [setβ, hc]
  | inn c' j =>
    simp only [SV.rel] at h ⊢
    rw [h]
    by_cases hc : c' = c
    · subst hc; simp [setβ, h4]
    · simp [setβ, hc]
  | sla c' off sz len cap =>
    obtain ⟨a, k1, k2, k3⟩ := h
    refine ⟨a, k1, k2, fun hp => ?_⟩
    rw [k3 hp]
    by_cases hc : c' = c
    · subst hc; simp [setβ, Loc.addr, h1, h2]
    · simp [setβ, hc]
  | ins c' m j len =>
    simp only [SV.ns, nbeq, Bool.not_eq_true', decide_eq_false_iff_not] at hs
    simpa [SV.rel, setβ, hs] using h
  | fn f caps =>
    simp only [SV.rel] at h ⊢
    rw [h]
    congr 2
    refine List.map_congr_left fun c' _ => ?_
    by_cases hc : c' = c
    · subst hc; simp [setβ, Loc.addr, h1, h2]
    · simp [setβ, hc]
theorem Rels.cap (h1 : L.blk = (β c).blk) (h2 : L.base = (β c).base) (h4 : L.sub = (β c).sub) : ∀ {ss : List SV}, ss.all (SV.ns c) = true → ∀ {vs : List Value}, Rels β ss vs → Rels (setβ β c L) ss vs
  | [], _, _, h => h
  | s :: r, hs, vs, h => by
    simp only [List.all_cons, Bool.and_eq_true] at hs
    obtain ⟨v, t, rfl, g1, g2⟩ := h
    exact ⟨v, t, rfl, SV.rel_cap h1 h2 h4 hs.1 g1, Rels.cap h1 h2 h4 hs.2 g2⟩
theorem CV.rel_cap (h1 : L.blk = (β c).blk) (h2 : L.base = (β c).base) (h4 : L.sub = (β c).sub) {s : CV} (hs : s.ns c = true) {v : Value} (h : s.rel β v) : s.rel (setβ β c L) v := by
  cases s with
  | one s => exact SV.rel_cap h1 h2 h4 hs h
  | agg cs => obtain ⟨arr, rfl, h⟩ := h; exact ⟨arr, rfl, Rels.cap h1 h2 h4 hs h⟩
theorem CVs.cap (h1 : L.blk = (β c).blk) (h2 : L.base = (β c).base) (h4 : L.sub = (β c).sub) : ∀ {ss : List CV}, ss.all (CV.ns c) = true → ∀ {vs : List Value}, CVs β ss vs → CVs (setβ β c L) ss vs
  | [], _, _, h => h
  | s :: r, hs, vs, h => by
    simp only [List.all_cons, Bool.and_eq_true] at hs
    obtain ⟨v, t, rfl, g1, g2⟩ := h
    exact ⟨v, t, rfl, CV.rel_cap h1 h2 h4 hs.1 g1, CVs.cap h1 h2 h4 hs.2 g2⟩
theorem XV.rel_cap (h1 : L.blk = (β c).blk) (h2 : L.base = (β c).base) (h4 : L.sub = (β c).sub) {s : XV} (hs : s.ns c = true) {v : Value} (h : s.rel β v) : s.rel (setβ β c L) v := by
  cases s with
  | cv s => exact CV.rel_cap h1 h2 h4 hs h
  | tup l => obtain ⟨arr, rfl, h⟩ := h; exact ⟨arr, rfl, CVs.cap h1 h2 h4 hs h⟩
theorem slotsNs_get : ∀ {l : List (Option XV)}, slotsNs c l = true → ∀ t X, lget l t = some X → X.ns c = true
  | [], _, t, X, h => by simp [lget] at h
  | none :: r, hl, t, X, h => by
    cases t with
    | zero => simp [lget] at h
    | succ t => exact slotsNs_get (l := r) hl t X h
  | some Y :: r, hl, t, X, h => by
    simp only [slotsNs, Bool.and_eq_true] at hl
    cases t with
    | zero => simp only [lget, Option.some.injEq] at h; subst h; exact hl.1
    | succ t => exact slotsNs_get hl.2 t X h
end
theorem Mem.get_mem : ∀ {l : Mem} {c : Nat} {ch : Chunk}, l.get c = some ch → (c, ch) ∈ l := by
  intro l
  induction l with
  | nil => intro c ch h; simp [Mem.get] at h
  | cons z r ih =>
    obtain ⟨k, ck⟩ := z
    intro c ch h
    simp only [Mem.get, nbeq] at h
    by_cases hk : k = c
    · simp only [hk, decide_true, cond_true, Option.some.injEq] at h; subst hk; subst h; simp
    · simp only [hk, decide_false, cond_false] at h; exact List.mem_cons_of_mem _ (ih h)
theorem Ent.arr {C : Ctx} {S : St} {c e sz n : Nat} {cs : List SV} {f : Nat → List Value} (hc : S.mem.get c = some (.cells e cs)) (hraw : cs.all SV.rawB = true) (hlen : cs.length = n * sz) (hn : n ≤ maxLen) (hns : S.ns c = true) (h0 : C.n0 ≤ c)
    (hf : ∀ i, i < n → f i = cutF (cs.map unraw) sz i) : Ent C S ⟨S.slots, (c, .vec e sz n f) :: S.mem.del c, S.nx⟩ := by
  rintro a w ⟨β, ow, h1, h2, h3, h4, h5⟩
  simp only [St.ns, Bool.and_eq_true, List.all_eq_true] at hns
  obtain ⟨g1, g2, g3, arr, g4, g5⟩ := h1.mem c _ hc
  let L : Loc := ⟨(β c).blk, (β c).base, n, false, (β c).sub⟩
  have hL : setβ β c L c = L := by simp [setβ]
  refine ⟨setβ β c L, ow, ⟨h1.defers, h1.size, fun t X hX => XV.rel_cap (L := L) rfl rfl rfl (slotsNs_get hns.1 t X hX) (h1.slots t X hX), fun c' ch hc' => ?_, h1.wf⟩, ⟨h2.slots, fun c' ch hc' => ?_⟩, ⟨h3.os, h3.tape, h3.output, h3.size, h3.keep, fun i hi => ?_⟩, h4, h5⟩
  · simp only [Mem.get, nbeq] at hc'
    by_cases hcc : c = c'
    · subst hcc
      simp only [decide_true, cond_true, Option.some.injEq] at hc'
      subst hc'
      simp only [Holds, hL]
      rw [if_neg (by simp [L])]
      have hr := unraws_rel hraw g5
      have hsz : arr.size = n * sz := by rw [← hlen, ← Array.length_toList, hr, List.length_map]
      refine ⟨g2, g3, Nat.le_refl _, hn, arr, g4, hsz, fun i hi => ?_⟩
      rw [hf i hi, ← hr]
      have hrow : i * sz + sz ≤ n * sz := by
        have h4 := Nat.mul_le_mul_right sz (show i + 1 ≤ n from hi)
        rw [Nat.add_mul, Nat.one_mul] at h4
        exact h4
      refine ⟨by simp only [cutF, List.length_take, List.length_drop, Array.length_toList]; omega, fun j v hj => ?_⟩
      simp only [cutF, List.getElem?_take] at hj
      split at hj
      · rw [List.getElem?_drop] at hj
        simpa using hj
      · cases hj
    · simp only [hcc, decide_false, cond_false, Mem.get_del] at hc'
      have hne : ¬ c' = c := fun e => hcc e.symm
      rw [if_neg hne] at hc'
      have hb : setβ β c L c' = β c' := by simp [setβ, hne]
      have hold := h1.mem c' ch hc'
      cases ch with
      | cells e' cs' =>
        obtain ⟨k1, k2, k3, arr', k4, k5⟩ := hold
        have hm := hns.2 _ (Mem.get_mem hc')
        simp only [nbeq, Bool.or_eq_true, decide_eq_true_eq] at hm
        have hm' : cs'.all (SV.ns c) = true := by
          rcases hm with h | h
          · exact absurd h hne
          · exact h
        exact ⟨by rw [hb]; exact k1, by rw [hb]; exact k2, by rw [hb]; exact k3, arr', by rw [hb]; exact k4, Rels.cap (L := L) rfl rfl rfl hm' k5⟩
      | vec e' sz' n' f' => simpa only [Holds, hb] using hold
      | ro sz' n' f' => simpa only [Holds, hb] using hold
      | abs A => simpa only [Holds, hb] using hold
      | ext A => simpa only [Holds, hb] using hold
  · simp only [Mem.get, nbeq] at hc'
    by_cases hcc : c = c'
    · subst hcc
      simp only [decide_true, cond_true, Option.some.injEq] at hc'
      subst hc'
      exact ⟨(h2.mem c _ hc).1, rfl⟩
    · simp only [hcc, decide_false, cond_false, Mem.get_del] at hc'
      have hne : ¬ c' = c := fun e => hcc e.symm
      rw [if_neg hne] at hc'
      exact h2.mem c' ch hc'
  · have hne : i ≠ c := by omega
    simp only [setβ, if_neg hne]
    exact h3.beta i hi
theorem cutF_rep {n sz i : Nat} {v : Value} (hi : i < n) : cutF (List.replicate (n * sz) v) sz i = List.replicate sz v := by
  have hrow : i * sz + sz ≤ n * sz := by
    have h4 := Nat.mul_le_mul_right sz (show i + 1 ≤ n from hi)
    rw [Nat.add_mul, Nat.one_mul] at h4
    exact h4
  simp only [cutF, List.drop_replicate, List.take_replicate]
  congr 1
  omega
theorem Ent.arr0 {C : Ctx} {S : St} {c e : Nat} (sz n : Nat) (v : Value) {cs : List SV} {f : Nat → List Value} (hc : S.mem.get c = some (.cells e cs)) (hraw : cs.all SV.rawB = true) (hz : cs.map unraw = List.replicate (n * sz) v) (hn : n ≤ maxLen) (hns : S.ns c = true) (h0 : C.n0 ≤ c)
    (hf : ∀ i, i < n → f i = List.replicate sz v) : Ent C S ⟨S.slots, (c, .vec e sz n f) :: S.mem.del c, S.nx⟩ := by
  refine Ent.arr hc hraw ?_ hn hns h0 (fun i hi => by rw [hf i hi, hz, cutF_rep hi])
  have := congrArg List.length hz
  simpa using this
theorem cutF_tab {f : Nat → List Value} {n sz i : Nat} (hl : ∀ i, i < n → (f i).length = sz) (hi : i < n) : cutF (tabF f 0 n) sz i = f i := by
  rw [tabF_eq]
  apply List.ext_getElem?
  intro q
  simp only [cutF, List.getElem?_take]
  by_cases hq : q < sz
  · rw [if_pos hq, List.getElem?_drop, flat_get hl hi hq]
  · rw [if_neg hq, List.getElem?_eq_none (by rw [hl i hi]; omega)]
theorem Ent.arrT {C : Ctx} {S : St} {c e : Nat} (sz n : Nat) {cs : List SV} (f : Nat → List Value) (hc : S.mem.get c = some (.cells e cs)) (hraw : cs.all SV.rawB = true) (hz : cs.map unraw = tabF f 0 n) (hl : ∀ i, i < n → (f i).length = sz) (hn : n ≤ maxLen) (hns : S.ns c = true) (h0 : C.n0 ≤ c) :
    Ent C S ⟨S.slots, (c, .vec e sz n f) :: S.mem.del c, S.nx⟩ := by
  refine Ent.arr hc hraw ?_ hn hns h0 (fun i hi => by rw [hz, cutF_tab hl hi])
  have := congrArg List.length hz
  rw [tabF_eq, flat_length hl, List.length_map] at this
  exact this
section
variable {P : Program} {T : TyTab} {S : St} {d : Nat} {o : Oper}
theorem index_op (hT : TabOK P T) {t e : TypeId} {x i : Operand} {td te : TyD} {m : Nat} {cs : List SV} (f : Nat → List Value) {k : IntKind} {n : Int} {v : CV} (ho : o.op = .index t x i) (ht : T t = some td) (hd : td.desc = .array m e) (he : T e = some te)
    (hx : S.ev x = some (.cv (.agg cs))) (hi : S.ev i = some (XV.int k n)) (hl : ∀ i, i < m → (f i).length = te.size) (hcs : cs = (tabF f 0 m).map .raw) (h0 : 0 ≤ n) (h1 : n < (m : Int)) (hv : mkCV te.agg ((f n.toNat).map .raw) = some v) : OpSound P S d o { v := .cv v } [] := by
  refine pure_op fun β w a hops => ?_
  obtain ⟨arr, e1, e2⟩ := hops x (by rw [ho]; simp [Op.operands]) _ hx
  have e3 := hops i (by rw [ho]; simp [Op.operands]) _ hi
  simp only [XV.rel, CV.rel, SV.rel] at e3
  have hu := under_array hT ht hd
  have hsz := run_size (P := P) hT he w
  obtain ⟨ie, ue, g1, g2, g3, _, g5, _⟩ := info_of hT he
  have hagg : (isAgg e).run P w = .ok te.agg w := by
    unfold isAgg
    rw [Sem.run_bind, run_underlying g2 w, ← g5]
    cases ue <;> rfl
  have hn : n.toNat < m := by omega
  have hflat := flat_length hl
  have harr : arr.toList = flat f m := by
    rw [hcs, tabF_eq] at e2
    have h := unraws_rel (l := (flat f m).map .raw) (by simp [List.all_map, SV.rawB, Function.comp_def]) e2
    rw [h, List.map_map]
    have : (unraw ∘ SV.raw) = id := by funext v; rfl
    rw [this, List.map_id]
  have hrow : n.toNat * te.size + te.size ≤ m * te.size := by
    have h4 := Nat.mul_le_mul_right te.size (show n.toNat + 1 ≤ m from hn)
    rw [Nat.add_mul, Nat.one_mul] at h4
    exact h4
  have hpart : ((arr.toList.drop (n.toNat * te.size)).take te.size) = f n.toNat := by
    apply List.ext_getElem?
    intro q
    rw [harr, List.getElem?_take]
    by_cases hq : q < te.size
    · rw [if_pos hq, List.getElem?_drop, flat_get hl hn hq]
    · rw [if_neg hq, List.getElem?_eq_none (by rw [hl _ hn]; omega)]
  cases ha : te.agg with
  | true =>
    simp only [ha, mkCV, Option.some.injEq] at hv
    subst hv
    refine ⟨.agg (arr.extract (n.toNat * te.size) (n.toNat * te.size + te.size)), ?_, _, rfl, ?_⟩
    · simp [execOp, ho, e1, e3, Instr.index, asIntOf, run_underlying hu, h0, h1, part, hagg, ha, hsz]
    · rw [Array.toList_extract]
      have e9 : List.extract arr.toList (n.toNat * te.size) (n.toNat * te.size + te.size) = f n.toNat := by rw [← hpart]; simp [List.extract]
      rw [e9]
      exact Rels.raw _
  | false =>
    rw [ha] at hv
    cases hfn : f n.toNat with
    | nil => rw [hfn] at hv; simp [mkCV] at hv
    | cons s0 r =>
      cases r with
      | cons _ _ => rw [hfn] at hv; simp [mkCV] at hv
      | nil =>
        rw [hfn] at hv hpart
        simp only [List.map_cons, List.map_nil, mkCV, Option.some.injEq] at hv
        subst hv
        have hget : arr[n.toNat * te.size]? = some s0 := by
          have : ((arr.toList.drop (n.toNat * te.size)).take te.size)[0]? = some s0 := by rw [hpart]; rfl
          rw [List.getElem?_take, List.getElem?_drop] at this
          split at this
          · simpa using this
          · cases this
        exact ⟨s0, by simp [execOp, ho, e1, e3, Instr.index, asIntOf, run_underlying hu, h0, h1, part, hagg, ha, hsz, hget], rfl⟩
end
def PartsAt (sz n : Nat) (ln : Nat → Nat) (g : Nat → Nat → List Value) (ad : Nat → Option Addr) : ExtP where
  Ψ w _ O := ∀ i, i < n → 0 < ln i → ∃ a, ad i = some a ∧ O a.block ∧ ∀ k, k < ln i → (g i k).length = sz ∧ ∀ j v, (g i k)[j]? = some v → w.cell? (a.add (k * sz + j)) = some v
  loc := by
    intro w w' L O hk h i hi hl
    obtain ⟨a, h3, h4, h5⟩ := h i hi hl
    refine ⟨a, h3, h4, fun k hkk => ⟨(h5 k hkk).1, fun j v hv => ?_⟩⟩
    have hb : (a.add (k * sz + j)).block = a.block := by unfold Addr.add; split <;> rfl
    rw [World.cell?_of_block (w := w) (by rw [hb]; exact hk _ h4)]
    exact (h5 k hkk).2 j v hv
section
variable {P : Program} {T : TyTab} {S : St} {d : Nat} {o : Oper}
end
end Go.Sx
