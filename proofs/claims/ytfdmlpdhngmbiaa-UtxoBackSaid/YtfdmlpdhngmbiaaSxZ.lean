/- Symbolic states for walks, part Z: contracts that were proved elsewhere, brought in: a call that hands back a row of its own and turns nothing else. -/
import Derived.Test.YtfdmlpdhngmbiaaSxY
import Derived.Laws.AppendOwn
namespace Go.Sx
open Go.RowKit

theorem Eff.fresh {β : Nat → Loc} {ow : Nat → Option Nat} {w w' : World} (hw : WF ow w) (hb : Below w.heap.size w w') (d g : Nat) (l : Loc) (hg : w.heap.size ≤ g) (hg' : g < w'.heap.size) : Eff β ow w (setβ β d l) (setow ow g (some d)) w' [] d := by
  refine ⟨fun c hc => by simp [setβ, hc], hb.os, hb.tape, hb.output, hb.size, fun k hk _ => ⟨hb.block k hk, ?_⟩, fun k hk c hc => ?_, fun k hk => ?_⟩
  · have : k ≠ g := by omega
    simp [setow, this]
  · by_cases hkg : k = g
    · simp [setow, hkg] at hc; exact .inr hc.symm
    · simp [setow, hkg] at hc
      rcases hk with hk | ⟨_, h0, _⟩
      · have := hw k (by simp [hc]); omega
      · cases h0
  · by_cases hkg : k = g
    · subst hkg; exact hg'
    · simp [setow, hkg] at hk
      exact Nat.lt_of_lt_of_le (hw k hk) hb.size
theorem Eff.none {β : Nat → Loc} {ow : Nat → Option Nat} {w w' : World} (hw : WF ow w) (hb : Below w.heap.size w w') (d : Nat) (l : Loc) : Eff β ow w (setβ β d l) ow w' [] d := by
  refine ⟨fun c hc => by simp [setβ, hc], hb.os, hb.tape, hb.output, hb.size, fun k hk _ => ⟨hb.block k hk, rfl⟩, fun k hk c hc => ?_, fun k hk => Nat.lt_of_lt_of_le (hw k hk) hb.size⟩
  rcases hk with hk | ⟨_, h0, _⟩
  · have := hw k (by simp [hc]); omega
  · cases h0

/-- A row of elements of sz cells each, laid flat. -/
def FlatAs (sz n : Nat) (f : Nat → List Value) (xs : List Value) : Prop := ∀ i, i < n → (f i).length = sz ∧ ∀ j v, (f i)[j]? = some v → xs[i * sz + j]? = some v

/-- A function that hands back a row of its own. -/
theorem row_spec {P : Program} {f : FuncId} {Xs : List CV} {M : Mem} {d e sz n : Nat} {fl : Nat → List Value} {rd : List Nat}
    (h : ∀ (β : Nat → Loc) (ow : Nat → Option Nat) (w : World) (vs : List Value), WF ow w → CVs β Xs vs → (∀ c ∈ rd, ∀ ch, M.get c = some ch → Holds β ow w c ch) →
      Calls P f vs.toArray w fun e' w' => ∃ v xs, e' = .returned v ∧ w'.ownsRow w.heap.size e sz v n xs ∧ FlatAs sz n fl xs ∧ Below w.heap.size w w') :
    CallSpec P f Xs M d { v := XV.sv (.slc d sz 0 n), upd := [(d, .vec e sz n fl)] } rd := by
  intro β ow w vs hw hd hvs hr
  refine (h β ow w vs hw hvs hr).mono ?_
  rintro e' w' ⟨v, xs, rfl, hrow, hfl, hb⟩
  have get1 : ∀ (c : Nat) (ch : Chunk), Mem.get [(d, Chunk.vec e sz n fl)] c = some ch → c = d ∧ ch = .vec e sz n fl := by
    intro c ch hc
    simp only [Mem.get, nbeq] at hc
    by_cases hk : d = c
    · subst hk; simp at hc; exact ⟨rfl, hc.symm⟩
    · simp [hk] at hc
  obtain ⟨hlen, hcase⟩ := hrow
  rcases hcase with ⟨rfl, rfl⟩ | ⟨g, cap, cur, rfl, hgb, hg, h1, h2, h3, h4⟩
  · refine ⟨_, setβ β d ⟨0, 0, 0, true, fun _ => 0⟩, ow, rfl, Eff.none hw hb d _, ?_, fun c ch hc => ?_⟩
    · simp [XV.rel, CV.rel, SV.rel, setβ]
    · obtain ⟨rfl, rfl⟩ := get1 c ch hc
      simp [Holds, setβ]
  · have hgl : g < w'.heap.size := (Array.getElem?_eq_some_iff.1 hg).1
    refine ⟨_, setβ β d ⟨g, 0, cap, false, fun _ => 0⟩, setow ow g (some d), rfl, Eff.fresh hw hb d g _ hgb hgl, ?_, fun c ch hc => ?_⟩
    · simp only [XV.rel, CV.rel, SV.rel, setβ, if_true]
      exact ⟨⟨g, 0, Option.none⟩, rfl, by omega, fun _ => by simp [Loc.addr]⟩
    · obtain ⟨rfl, rfl⟩ := get1 c ch hc
      simp only [Holds, setβ, if_true]
      refine ⟨trivial, by simp [setow], h1, h2, cur, hg, h3, fun i hi => ⟨(hfl i hi).1, fun j v hj => ?_⟩⟩
      have hx := (hfl i hi).2 j v hj
      rw [← h4] at hx
      have hjl : j < sz := by have := (List.getElem?_eq_some_iff.1 hj).1; rw [(hfl i hi).1] at this; exact this
      have hlt : i * sz + j < n * sz := by
        have : (i + 1) * sz ≤ n * sz := Nat.mul_le_mul_right _ hi
        rw [Nat.add_mul, Nat.one_mul] at this; omega
      rw [List.getElem?_take_of_lt hlt, Array.getElem?_toList] at hx
      exact hx

section
variable {ρ ρ' : Nat → Nat} {p : Nat → Bool}
theorem SV.ren_congr (h : ∀ c, p c = true → ρ c = ρ' c) {s : SV} (hs : s.ok p = true) : s.ren ρ = s.ren ρ' := by
  cases s <;> simp only [SV.ok] at hs <;> simp only [SV.ren] <;> rw [h _ hs]
theorem SVs.ren_congr (h : ∀ c, p c = true → ρ c = ρ' c) : ∀ {l : List SV}, l.all (SV.ok p) = true → l.map (SV.ren ρ) = l.map (SV.ren ρ')
  | [], _ => rfl
  | s :: r, hl => by
    simp only [List.all_cons, Bool.and_eq_true] at hl
    rw [List.map_cons, List.map_cons, SV.ren_congr h hl.1, SVs.ren_congr h hl.2]
theorem CV.ren_congr (h : ∀ c, p c = true → ρ c = ρ' c) {s : CV} (hs : s.ok p = true) : s.ren ρ = s.ren ρ' := by
  cases s with
  | one s => simp only [CV.ren, SV.ren_congr h hs]
  | agg cs => simp only [CV.ren, SVs.ren_congr h hs]
theorem CVs.ren_congr (h : ∀ c, p c = true → ρ c = ρ' c) : ∀ {l : List CV}, l.all (CV.ok p) = true → l.map (CV.ren ρ) = l.map (CV.ren ρ')
  | [], _ => rfl
  | s :: r, hl => by
    simp only [List.all_cons, Bool.and_eq_true] at hl
    rw [List.map_cons, List.map_cons, CV.ren_congr h hl.1, CVs.ren_congr h hl.2]
theorem XV.ren_congr (h : ∀ c, p c = true → ρ c = ρ' c) {s : XV} (hs : s.ok p = true) : s.ren ρ = s.ren ρ' := by
  cases s with
  | cv s => simp only [XV.ren, CV.ren_congr h hs]
  | tup l => simp only [XV.ren, CVs.ren_congr h hs]
theorem SV.ren_id (s : SV) : s.ren id = s := by cases s <;> rfl
theorem SVs.ren_id : ∀ l : List SV, l.map (SV.ren id) = l
  | [] => rfl
  | s :: r => by rw [List.map_cons, SV.ren_id, SVs.ren_id r]
theorem CV.ren_id (s : CV) : s.ren id = s := by
  cases s with
  | one s => simp only [CV.ren, SV.ren_id]
  | agg cs => simp only [CV.ren, SVs.ren_id]
theorem CVs.ren_id : ∀ l : List CV, l.map (CV.ren id) = l
  | [] => rfl
  | s :: r => by rw [List.map_cons, CV.ren_id, CVs.ren_id r]
end

/-- A function that reads the first n pieces and makes one, to which its result leads. -/
theorem spec_made_reads {P : Program} {T : TyTab} {f : FuncId} {fn : Func} {c : Code} (hT : TabOK P T) (hf : P.funcs[f]? = some fn) (hb : fn.body = some c) {ch' : Chunk} (hcl : ch'.closed = true) (hro : ch'.isRo = false) (Xl : List CV) (M0 : Mem) (n : Nat)
    (hXl : Xl.all (CV.ok fun i => Nat.blt i n) = true) (hM0 : ∀ i ch, M0.get i = some ch → i < n ∧ ch.isRo = true) {M : Mem} {d : Nat} (hM : ∀ i ch, M0.get i = some ch → M.get i = some ch) (hd : n ≤ d) (i : Nat) (X : XV) (hX : X.ok (fun j => Nat.beq i j) = true) 
    (h : ∀ C : Ctx, C.n0 = n → Tri P C c ⟨slots0 fn.ntmps (Xl.map .cv), M0, n⟩ (Ends C T fn.results.toList 0 n ⟨X, [], some (i, ch')⟩)) :
    CallSpec P f Xl M d { v := X.ren fun _ => d, upd := [(d, ch')] } (List.range n) := by
  have hi : ∀ i, i < n → ([] ++ List.range n)[i]? = some i := fun i hi => by simp [hi]
  have hren : Xl = Xl.map (CV.ren fun i => (([] ++ List.range n)[i]?).getD d) := by
    rw [CVs.ren_congr (ρ' := id) (p := fun i => Nat.blt i n) (fun c hc => by simp only [Nat.blt_eq] at hc; rw [hi c hc]; rfl) hXl, CVs.ren_id]
  have hrenX : X.ren (fun _ => d) = X.ren (renOut ([] ++ List.range n) d (some (i, ch'))) :=
    XV.ren_congr (p := fun j => Nat.beq i j) (fun c hc => by simp only [nbeq, decide_eq_true_eq] at hc; subst hc; simp [renOut]) hX
  refine spec_of_text (ids := []) (rids := List.range n) (Xl := Xl) (M0 := M0) (out := ⟨X, [], some (i, ch')⟩) (k1 := 0) (n0 := n) hT hf hb (by simp) rfl (by simp) (by simp; omega) hXl (fun i ch hm => ?_) (fun i ch hi => by simp [Mem.get] at hi) (fun j ch hj => ?_) ?_ h hren hrenX rfl (fun c ch hc => ?_)
  · obtain ⟨h1, h2⟩ := hM0 i ch hm
    refine ⟨h1, ?_, fun _ => h2, fun ci hci => ?_⟩
    · cases ch <;> first | rfl | cases h2
    · rw [hi i h1] at hci
      cases hci
      exact hM i ch hm
  · cases hj; exact ⟨hcl, hro⟩
  · exact XV.ok_mono (fun j hj => by simp only [Bool.or_eq_true]; exact .inr hj) hX
  · simp only [Mem.get, nbeq] at hc
    by_cases hk : d = c
    · simp only [hk, decide_true, cond_true, Option.some.injEq] at hc
      exact .inr ⟨hk.symm, i, by rw [hc]⟩
    · simp [hk] at hc
end Go.Sx
