/- Symbolic states for walks, part Z: contracts that were proved elsewhere, brought in: a call that hands back a row of its own and turns nothing else. -/
import Derived.Test.YtfdmlpdhngmbiaaSxY
import Derived.Laws.AppendOwn
namespace Go.Sx
open Go.RowKit

theorem Eff.fresh {β : Nat → Loc} {ow : Nat → Option Nat} {w w' : World} (hw : WF ow w) (hb : Below w.heap.size w w') (d g : Nat) (l : Loc) (hg : w.heap.size ≤ g) (hg' : g < w'.heap.size) : Eff β ow w (setβ β d l) (setow ow g (some d)) w' [] d := by
  refine ⟨fun c hc => by simp [setβ, hc], hb.os, hb.tape, hb.output, hb.size, fun k hk _ => ⟨hb.block k hk, ?_⟩, fun k hk c hc => ?_, fun k hk => ?_⟩
  · have : k ≠ g := by omega
    simp [setow, this]
  · by_cases hkg : k = g
    · simp [setow, hkg] at hc; exact .inr hc.symm
    · simp [setow, hkg] at hc
      rcases hk with hk | ⟨_, h0, _⟩
      · have := hw k (by simp [hc]); omega
      · cases h0
  · by_cases hkg : k = g
    · subst hkg; exact hg'
    · simp [setow, hkg] at hk
      exact Nat.lt_of_lt_of_le (hw k hk) hb.size
theorem Eff.none {β : Nat → Loc} {ow : Nat → Option Nat} {w w' : World} (hw : WF ow w) (hb : Below w.heap.size w w') (d : Nat) (l : Loc) : Eff β ow w (setβ β d l) ow w' [] d := by
  refine ⟨fun c hc => by simp [setβ, hc], hb.os, hb.tape, hb.output, hb.size, fun k hk _ => ⟨hb.block k hk, rfl⟩, fun k hk c hc => ?_, fun k hk => Nat.lt_of_lt_of_le (hw k hk) hb.size⟩
  rcases hk with hk | ⟨_, h0, _⟩
  · have := hw k (by simp [hc]); omega
  · cases h0

/-- A row of elements of sz cells each, laid flat. -/
def FlatAs (sz n : Nat) (f : Nat → List Value) (xs : List Value) : Prop := ∀ i, i < n → (f i).length = sz ∧ ∀ j v, (f i)[j]? = some v → xs[i * sz + j]? = some v

/-- A function that hands back a row of its own. -/
theorem row_spec {P : Program} {f : FuncId} {Xs : List CV} {M : Mem} {d e sz n : Nat} {fl : Nat → List Value} {rd : List Nat}
    (h : ∀ (β : Nat → Loc) (ow : Nat → Option Nat) (w : World) (vs : List Value), WF ow w → CVs β Xs vs → (∀ c ∈ rd, ∀ ch, M.get c = some ch → Holds β ow w c ch) →
      Calls P f vs.toArray w fun e' w' => ∃ v xs, e' = .returned v ∧ w'.ownsRow w.heap.size e sz v n xs ∧ FlatAs sz n fl xs ∧ Below w.heap.size w w') :
    CallSpec P f Xs M d { v := XV.sv (.slc d sz 0 n), upd := [(d, .vec e sz n fl)] } rd := by
  intro β ow w vs hw hd hvs hr
  refine (h β ow w vs hw hvs hr).mono ?_
  rintro e' w' ⟨v, xs, rfl, hrow, hfl, hb⟩
  have get1 : ∀ (c : Nat) (ch : Chunk), Mem.get [(d, Chunk.vec e sz n fl)] c = some ch → c = d ∧ ch = .vec e sz n fl := by
    intro c ch hc
    simp only [Mem.get, nbeq] at hc
    by_cases hk : d = c
    · subst hk; simp at hc; exact ⟨rfl, hc.symm⟩
    · simp [hk] at hc
  obtain ⟨hlen, hcase⟩ := hrow
  rcases hcase with ⟨rfl, rfl⟩ | ⟨g, cap, cur, rfl, hgb, hg, h1, h2, h3, h4⟩
  · refine ⟨_, setβ β d ⟨0, 0, 0, true, fun _ => 0⟩, ow, rfl, Eff.none hw hb d _, ?_, fun c ch hc => ?_⟩
    · simp [XV.rel, CV.rel, SV.rel, setβ]
    · obtain ⟨rfl, rfl⟩ := get1 c ch hc
      simp [Holds, setβ]
  · have hgl : g < w'.heap.size := (Array.getElem?_eq_some_iff.1 hg).1
    refine ⟨_, setβ β d ⟨g, 0, cap, false, fun _ => 0⟩, setow ow g (some d), rfl, Eff.fresh hw hb d g _ hgb hgl, ?_, fun c ch hc => ?_⟩
    · simp only [XV.rel, CV.rel, SV.rel, setβ, if_true]
      exact ⟨⟨g, 0, Option.none⟩, rfl, by omega, fun _ => by simp [Loc.addr]⟩
    · obtain ⟨rfl, rfl⟩ := get1 c ch hc
      simp only [Holds, setβ, if_true]
      refine ⟨trivial, by simp [setow], h1, h2, cur, hg, h3, fun i hi => ⟨(hfl i hi).1, fun j v hj => ?_⟩⟩
      have hx := (hfl i hi).2 j v hj
      rw [← h4] at hx
      have hjl : j < sz := by have := (List.getElem?_eq_some_iff.1 hj).1; rw [(hfl i hi).1] at this; exact this
      have hlt : i * sz + j < n * sz := by
        have : (i + 1) * sz ≤ n * sz := Nat.mul_le_mul_right _ hi
        rw [Nat.add_mul, Nat.one_mul] at this; omega
      rw [List.getElem?_take_of_lt hlt, Array.getElem?_toList] at hx
      exact hx

section
variable {ρ ρ' : Nat → Nat} {p : Nat → Bool}
theorem SV.ren_congr (h : ∀ c, p c = true → ρ c = ρ' c) {s : SV} (hs : s.ok p = true) : s.ren ρ = s.ren ρ' := by
  cases s <;> simp only [SV.ok] at hs <;> simp only [SV.ren] <;> rw [h _ hs]
theorem SVs.ren_congr (h : ∀ c, p c = true → ρ c = ρ' c) : ∀ {l : List SV}, l.all (SV.ok p) = true → l.map (SV.ren ρ) = l.map (SV.ren ρ')
  | [], _ => rfl
  | s :: r, hl => by
    simp only [List.all_cons, Bool.and_eq_true] at hl
    rw [List.map_cons, List.map_cons, SV.ren_congr h hl.1, SVs.ren_congr h hl.2]
theorem CV.ren_congr (h : ∀ c, p c = true → ρ c = ρ' c) {s : CV} (hs : s.ok p = true) : s.ren ρ = s.ren ρ' := by
  cases s with
  | one s => simp only [CV.ren, SV.ren_congr h hs]
  | agg cs => simp only [CV.ren, SVs.ren_congr h hs]
theorem CVs.ren_congr (h : ∀ c, p c = true → ρ c = ρ' c) : ∀ {l : List CV}, l.all (CV.ok p) = true → l.map (CV.ren ρ) = l.map (CV.ren ρ')
  | [], _ => rfl
  | s :: r, hl => by
    simp only [List.all_cons, Bool.and_eq_true] at hl
    rw [List.map_cons, List.map_cons, CV.ren_congr h hl.1, CVs.ren_congr h hl.2]
theorem XV.ren_congr (h : ∀ c, p c = true → ρ c = ρ' c) {s : XV} (hs : s.ok p = true) : s.ren ρ = s.ren ρ' := by
  cases s with
  | cv s => simp only [XV.ren, CV.ren_congr h hs]
  | tup l => simp only [XV.ren, CVs.ren_congr h hs]
theorem SV.ren_id (s : SV) : s.ren id = s := by cases s <;> rfl
theorem SVs.ren_id : ∀ l : List SV, l.map (SV.ren id) = l
  | [] => rfl
  | s :: r => by rw [List.map_cons, SV.ren_id, SVs.ren_id r]
theorem CV.ren_id (s : CV) : s.ren id = s := by
  cases s with
  | one s => simp only [CV.ren, SV.ren_id]
  | agg cs => simp only [CV.ren, SVs.ren_id]
theorem CVs.ren_id : ∀ l : List CV, l.map (CV.ren id) = l
  | [] => rfl
  | s :: r => by rw [List.map_cons, CV.ren_id, CVs.ren_id r]
end

/-- A function that reads the first n pieces and makes one, to which its result leads. -/
theorem spec_made_reads {P : Program} {T : TyTab} {f : FuncId} {fn : Func} {c : Code} (hT : TabOK P T) (hf : P.funcs[f]? = some fn) (hb : fn.body = some c) {ch' : Chunk} (hcl : ch'.closed = true) (hro : ch'.isRo = false) (Xl : List CV) (M0 : Mem) (n : Nat)
    (hXl : Xl.all (CV.ok fun i => Nat.blt i n) = true) (hM0 : ∀ i ch, M0.get i = some ch → i < n ∧ ch.isRo = true) {M : Mem} {d : Nat} (hM : ∀ i ch, M0.get i = some ch → M.get i = some ch) (hd : n ≤ d) (i : Nat) (X : XV) (hX : X.ok (fun j => Nat.beq i j) = true) 
    (h : ∀ C : Ctx, C.n0 = n → Tri P C c ⟨slots0 fn.ntmps (Xl.map .cv), M0, n⟩ (Ends C T fn.results.toList 0 n ⟨X, [], some (i, ch')⟩)) :
    CallSpec P f Xl M d { v := X.ren fun _ => d, upd := [(d, ch')] } (List.range n) := by
  have hi : ∀ i, i < n → ([] ++ List.range n)[i]? = some i := fun i hi => by simp [hi]
  have hren : Xl = Xl.map (CV.ren fun i => (([] ++ List.range n)[i]?).getD d) := by
    rw [CVs.ren_congr (ρ' := id) (p := fun i => Nat.blt i n) (fun c hc => by simp only [Nat.blt_eq] at hc; rw [hi c hc]; rfl) hXl, CVs.ren_id]
  have hrenX : X.ren (fun _ => d) = X.ren (renOut ([] ++ List.range n) d (some (i, ch'))) :=
    XV.ren_congr (p := fun j => Nat.beq i j) (fun c hc => by simp only [nbeq, decide_eq_true_eq] at hc; subst hc; simp [renOut]) hX
  refine spec_of_text (ids := []) (rids := List.range n) (Xl := Xl) (M0 := M0) (out := ⟨X, [], some (i, ch')⟩) (k1 := 0) (n0 := n) hT hf hb (by simp) rfl (by simp) (by simp; omega) hXl (fun i ch hm => ?_) (fun i ch hi => by simp [Mem.get] at hi) (fun j ch hj => ?_) ?_ h hren hrenX rfl (fun c ch hc => ?_)
  · obtain ⟨h1, h2⟩ := hM0 i ch hm
    refine ⟨h1, ?_, fun _ => h2, fun ci hci => ?_⟩
    · cases ch <;> first | rfl | cases h2
    · rw [hi i h1] at hci
      cases hci
      exact hM i ch hm
  · cases hj; exact ⟨hcl, hro⟩
  · exact XV.ok_mono (fun j hj => by simp only [Bool.or_eq_true]; exact .inr hj) hX
  · simp only [Mem.get, nbeq] at hc
    by_cases hk : d = c
    · simp only [hk, decide_true, cond_true, Option.some.injEq] at hc
      exact .inr ⟨hk.symm, i, by rw [hc]⟩
    · simp [hk] at hc

/-! ### a row of pointers to objects -/

/-- A row of pointers, and the objects to which they lead. (s 0: how much room the row has; s (j + 1): where object j lies.) -/
def ListP (e : Nat) (As : List AbsP) : AbsP where
  Φ w b s O := (∀ k, O k → k < w.heap.size) ∧ O b ∧ (∃ arr : Array Value, w.heap[b]? = some (.cells arr e (0, 0)) ∧ arr.size = s 0 ∧ As.length ≤ s 0 ∧ s 0 ≤ maxLen ∧ ∀ j, j < As.length → arr[j]? = some (.pointer (some ⟨s (j + 1), 0, none⟩))) ∧
    ∃ (Oj : Nat → Nat → Prop) (sj : Nat → Nat → Nat), (∀ j k, j < As.length → Oj j k → O k ∧ k ≠ b) ∧ (∀ i j k, i < As.length → j < As.length → Oj i k → Oj j k → i = j) ∧ ∀ (j : Nat) (A : AbsP), As[j]? = some A → A.Φ w (s (j + 1)) (sj j) (Oj j)
  loc := by
    rintro w w' b s O O' hk hO ⟨h1, h2, ⟨arr, h3, h4⟩, Oj, sj, p1, p2, p3⟩
    refine ⟨fun k hk' => ?_, (hO b).2 h2, ⟨arr, (hk b h2).trans h3, h4⟩, Oj, sj, fun j k hj ho => ⟨(hO k).2 (p1 j k hj ho).1, (p1 j k hj ho).2⟩, p2, fun j A hA => A.loc (fun k ho => hk k ?_) (fun _ => Iff.rfl) (p3 j A hA)⟩
    · have hk0 := (hO k).1 hk'
      have e := hk k hk0
      rw [Array.getElem?_eq_getElem (h1 k hk0)] at e
      exact (Array.getElem?_eq_some_iff.1 e).1
    · exact (p1 j k (List.getElem?_eq_some_iff.1 hA).1 ho).1
  in_heap := by
    rintro w b s O ⟨h1, _⟩ k hk
    exact h1 k hk

section
variable {P : Program} {T : TyTab} {S : St} {d : Nat} {o : Oper}

/-- '[]*T{p}', p a pointer to an object. -/
theorem listNew_op (hT : TabOK P T) {t e : TypeId} {x : Operand} {tds tde : TyD} (ho : o.op = .buildSlice t 1 #[(0, x)]) (htd : T t = some tds) (hds : tds.desc = .slice e) (hte : T e = some tde) (hsz : tde.size = 1) (hzl : Nat.beq tde.zero.length 1 = true)
    {co : Nat} {A : AbsP} (hx : S.ev x = some (XV.sv (.ptr co 0 0 0))) (hm : S.mem.get co = some (.abs A)) : OpSound P S d o { v := XV.sv (.slc d 1 0 1), upd := [(d, .abs (ListP e [A]))], wr := [co] } [co] := by
  have hzl := Nat.eq_of_beq_eq_true hzl
  have hu := under_slice hT htd hds
  intro β ow w ac K Q hw hfr hops hr hK
  have e2 := hops x (by rw [ho]; simp [Op.operands]) _ hx
  obtain ⟨n0, b0, hΦ⟩ := hr co (by simp) _ hm
  simp only [XV.rel, CV.rel, SV.rel, Loc.addr, b0, Nat.zero_mul, Nat.add_zero] at e2
  have hin := A.in_heap hΦ
  let l : Loc := ⟨w.heap.size, 0, 1, false, fun _ => (β co).blk⟩
  let ow' : Nat → Option Nat := setow (fun k => if ow k = some co then some d else ow k) w.heap.size (some d)
  have hod : ∀ k, ow k = some co → k < w.heap.size := fun k hk => hw k (by simp [hk])
  have hE : Eff β ow w (setβ β d l) ow' (w.alloc (.cells #[.pointer (some ⟨(β co).blk, 0, none⟩)] e)) [co] d := by
    refine ⟨fun i hi => by simp [setβ, hi], rfl, rfl, rfl, by simp, fun k hk hn => ⟨Below.heap_alloc w _ k hk, ?_⟩, fun k hk i hi => ?_, fun k hk => ?_⟩
    · have : ow k ≠ some co := hn co (by simp)
      simp [ow', setow, Nat.ne_of_lt hk, this]
    · by_cases hks : k = w.heap.size
      · simp only [ow', setow, hks, if_true, Option.some.injEq] at hi; exact .inr hi.symm
      · simp only [ow', setow, if_neg hks] at hi
        split at hi
        · cases hi; exact .inr rfl
        · rename_i hnc
          rcases hk with hk | ⟨c0, h0, h2⟩
          · have := hw k (by simp [hi]); omega
          · simp only [List.mem_singleton] at h0; subst h0; exact absurd h2 hnc
    · by_cases hks : k = w.heap.size
      · rw [hks]; simp
      · simp only [ow', setow, if_neg hks] at hk
        split at hk
        · rename_i h; have := hod k h; simp; omega
        · have := hw k hk; simp; omega
  refine upon_value (x := .slice (some ⟨w.heap.size, 0, none⟩) 1 1) ?_ (hK _ _ _ _ hE ?_ (fun c' ch hc => ?_))
  · obtain ⟨z', hz1, hz2⟩ := run_zero (P := P) hT hte w
    have hzs : z'.cells.size = 1 := by rw [← Array.length_toList, hz2, hzl]
    have hrs := run_size (P := P) hT hte w
    rw [hsz] at hrs
    have hfill : Instr.fill (fun i => some (i * 1, 1)) ((Array.range (1 * 1)).map fun i => z'.cells[i % z'.cells.size]!) [(0, Value.pointer (some ⟨(β co).blk, 0, none⟩))] = some #[.pointer (some ⟨(β co).blk, 0, none⟩)] := by
      have hset : ∀ (a : Array Value) (v : Value), a.size = 1 → a.setIfInBounds 0 v = #[v] := fun a v h => Array.ext (by simp [h]) (fun i h1 h2 => by
        have : i = 0 := by simp at h2; exact h2
        subst this
        simp)
      generalize hgen : ((Array.range (1 * 1)).map fun i => z'.cells[i % z'.cells.size]!) = a0
      have hs0 : a0.size = 1 := by rw [← hgen]; simp
      simp [Instr.fill, Value.cells, hs0, hset a0 _ hs0]
    have hl : (#[((0 : Nat), x)].map fun (i, x) => (i, ac.eval x)).toList = [(0, ac.eval x)] := by simp
    simp only [execOp, ho, Instr.buildSlice, run_underlying hu, Sem.run_bind, Result.andThen_ok, hrs, if_neg (show ¬ 1 * 1 > 2 ^ 24 by decide), if_neg (show ¬ 1 * 1 = 0 by decide), hz1, hl, e2, hfill, Sem.run_pure, newRow, run_newObj, World.alloc_eq]
  · simp [XV.rel, CV.rel, SV.rel, setβ, Loc.addr, l]
  · simp only [Mem.get, nbeq] at hc
    by_cases hcc : d = c'
    · subst hcc
      simp only [decide_true, cond_true, Option.some.injEq] at hc
      subst hc
      have hβd : setβ β d l d = l := by simp [setβ]
      refine ⟨by rw [hβd], by rw [hβd], ?_⟩
      rw [hβd]
      have hOd : ∀ k, ow k = some co → ow' k = some d ∧ k ≠ w.heap.size := fun k hk => by
        have := hod k hk
        have hne : k ≠ w.heap.size := by omega
        exact ⟨by simp [ow', setow, hne, hk], hne⟩
      refine ⟨fun k hk => hE.wf k (by rw [hk]; simp), by simp [ow', setow, l], ⟨_, heap_alloc_new w _, rfl, Nat.le_refl 1, by simp only [subs, l, maxLen]; omega, fun j hj => ?_⟩, fun _ k => ow k = some co, fun _ => subs (β co), fun j k _ hk => hOd k hk, fun i j k hi hj _ _ => ?_, fun j B hB => ?_⟩
      · have : j = 0 := by simpa using hj
        subst this
        simp [subs, l]
      · simp at hi hj; omega
      · have hj := (List.getElem?_eq_some_iff.1 hB).1
        have : j = 0 := by simpa using hj
        subst this
        simp only [List.getElem?_cons_zero, Option.some.injEq] at hB
        subst hB
        exact A.loc (fun k hk => Below.heap_alloc w _ k (hin k hk)) (fun _ => Iff.rfl) hΦ
    · simp [hcc] at hc

/-- The pointer that stands in such a row. -/
theorem listLoad_op (hT : TabOK P T) {t : TypeId} {x : Operand} {td : TyD} (ho : o.op = .load t x) (htd : T t = some td) (hag : td.agg = false) (hsz : td.size = 1) {c i e : Nat} {As : List AbsP} (hx : S.ev x = some (XV.sv (.ptr c i 1 0))) (hm : S.mem.get c = some (.abs (ListP e As))) (hi : i < As.length) :
    OpSound P S d o { v := XV.sv (.inn c i) } [c] := by
  refine read_op fun β ow w a hw hops hr => ?_
  have h1 := hops x (by rw [ho]; simp [Op.operands]) _ hx
  simp only [XV.rel, CV.rel, SV.rel] at h1
  obtain ⟨n0, b0, _, _, ⟨arr, a1, a2, a3, a4, a5⟩, _⟩ := hr c (by simp) _ hm
  have hcell : w.cell? ((β c).addr (i * 1 + 0)) = some (.pointer (some ⟨(β c).sub i, 0, none⟩)) := by
    simp only [Loc.addr, b0, Nat.mul_one, Nat.add_zero, Nat.zero_add, World.cell?, a1]
    exact a5 i hi
  obtain ⟨y, h5, h6⟩ := loadVar_ok (w := w) (β := β) (hT t td htd) (sub := [.inn c i]) (vs := [.pointer (some ⟨(β c).sub i, 0, none⟩)]) ⟨_, _, rfl, rfl, rfl⟩ (by rw [hsz]; rfl) (a := (β c).addr (i * 1 + 0)) (fun m u hu => by
    have hml := (List.getElem?_eq_some_iff.1 hu).1
    have : m = 0 := by simpa using hml
    subst this
    simp only [List.getElem?_cons_zero, Option.some.injEq] at hu
    subst hu
    rw [loc_add]
    exact hcell) (show mkCV td.agg [.inn c i] = some (.one (.inn c i)) by rw [hag]; rfl)
  have h2 : (Instr.loadAt t (a.eval x)).run P w = .ok y w := by
    rw [h1]
    simp only [Nat.mul_one, Nat.add_zero] at h5 ⊢
    simp [Instr.loadAt, Instr.sureAddr, h5]
  exact ⟨y, by simp [execOp, ho, h2], h6⟩

set_option maxHeartbeats 1000000 in
/-- 'append(l, p)': an object more. -/
theorem listAppend_op (hT : TabOK P T) {s x : Operand} {t e : TypeId} {tds tde : TyD} (ho : o.op = .call { callee := .builtin .append, args := #[s, x], argTypes := #[t, t] }) (htd : T t = some tds) (hds : tds.desc = .slice e) (hte : T e = some tde) (hsz : tde.size = 1) (hzl : Nat.beq tde.zero.length 1 = true)
    {c cx m : Nat} {As : List AbsP} {A : AbsP} (hs : S.ev s = some (XV.sv (.slc c 1 0 m))) (hm : S.mem.get c = some (.abs (ListP e As))) (hmA : m ≤ As.length) (hx : S.ev x = some (XV.sv (.slc cx 1 0 1))) (hmx : S.mem.get cx = some (.abs (ListP e [A]))) (hcx : Nat.beq c cx = false)
    (h63 : m + 1 ≤ maxLen) (hbytes : (m + 1) * tde.bytes ≤ 140737488355328) :
    OpSound P S d o { v := XV.sv (.slc d 1 0 (m + 1)), upd := [(d, .abs (ListP e (As.take m ++ [A])))], wr := [c, cx] } [c, cx] := by
  have hzl := Nat.eq_of_beq_eq_true hzl
  rw [nbeq, decide_eq_false_iff_not] at hcx
  intro β ow w ac K Q hw hfr hops hr hK
  have e1 := hops s (by rw [ho]; simp [Op.operands, Call.operands]) _ hs
  have e2 := hops x (by rw [ho]; simp [Op.operands, Call.operands]) _ hx
  obtain ⟨n0, b0, inh, Ob, ⟨arr, a1, a2, a3, a4, a5⟩, Oj, sj, p1, p2, p3⟩ := hr c (by simp) _ hm
  obtain ⟨n0', b0', inh', Ob', ⟨arr', a1', a2', a3', a4', a5'⟩, Oj', sj', p1', p2', p3'⟩ := hr cx (by simp) _ hmx
  simp only [XV.rel, CV.rel, SV.rel, n0, n0', Bool.false_eq_true, if_false] at e1 e2
  obtain ⟨ad, e1, e3, e4⟩ := e1
  obtain ⟨ad', e2, e5, e6⟩ := e2
  let ow1 : Nat → Option Nat := fun k => if k = (β c).blk then some c else if ow k = some c then none else ow k
  have hw1 : WF ow1 w := fun k hk => by
    simp only [ow1] at hk
    split at hk
    · rename_i h; rw [h]; exact inh _ Ob
    · split at hk
      · exact absurd rfl hk
      · exact hw k hk
  have hcd : (some c : Option Nat) ≠ some d := fun e => by cases e; exact hfr _ Ob
  have hdx : cx ≠ d := fun e => by subst e; exact hfr _ Ob'
  let f : Nat → List Value := fun j => [.pointer (some ⟨subs (β c) (j + 1), 0, none⟩)]
  let g : Nat → List Value := fun _ => [.pointer (some ⟨subs (β cx) 1, 0, none⟩)]
  have hold : OldRow β ow1 w (some c) (ac.eval s) e tde.size m f := by
    refine .inr ⟨c, rfl, .inr ⟨n0, ad, by rw [e1, Nat.sub_zero], fun h => by rw [e4 h]; simp [Loc.addr, b0], b0, by simp [ow1], by simp only [subs] at a3; omega, a4, arr, a1, by rw [hsz, Nat.mul_one]; exact a2, fun i hi => ⟨by rw [hsz]; rfl, fun j v hj => ?_⟩⟩⟩
    have hjl := (List.getElem?_eq_some_iff.1 hj).1
    have : j = 0 := by simpa [f] using hjl
    subst this
    simp only [f, List.getElem?_cons_zero, Option.some.injEq] at hj
    subst hj
    rw [hsz, Nat.mul_one, Nat.add_zero]
    exact a5 i (by omega)
  have hnew : NewRow w (ac.eval x) 1 (flat g 1) := by
    refine ⟨some ad', (β cx).cap - 0, e2, fun _ => ⟨ad', rfl, fun j v hj => ?_⟩⟩
    have hjl := (List.getElem?_eq_some_iff.1 hj).1
    have : j = 0 := by simpa [flat, g] using hjl
    subst this
    have hpos : 0 < (β cx).cap := by omega
    rw [e6 hpos]
    simp only [flat, g, List.nil_append, List.getElem?_cons_zero, Option.some.injEq] at hj
    subst hj
    simp only [Loc.addr, b0', Nat.zero_mul, Nat.add_zero, Addr.add_lit, World.cell?, a1']
    exact a5' 0 (by simp)
  obtain ⟨v', w', β1, ow2, hrun, E, hrel, hH⟩ := append_core (d := d) hT htd hds hte (by rw [hzl, hsz]) o.type hw1 hcd hold (fun i _ => by rw [hsz]; rfl) (g := g) (k := 1) (fun i _ => by rw [hsz]; rfl) hnew (fun u hu => by
    simp only [flat, g, List.nil_append, List.mem_singleton] at hu
    subst hu; rfl) h63 hbytes
  rw [hsz] at hrel hH
  simp only [Option.toList] at E
  simp only [Holds] at hH
  have hn1 : (β1 d).nil = false := by
    cases hn : (β1 d).nil with
    | false => rfl
    | true => rw [if_pos hn] at hH; omega
  rw [hn1] at hH
  simp only [Bool.false_eq_true, if_false] at hH
  obtain ⟨q1, q2, q3, q4, arr2, q5, q6, q7⟩ := hH
  let l : Loc := { β1 d with sub := fun j => if j < m then subs (β c) (j + 1) else subs (β cx) 1 }
  let ow' : Nat → Option Nat := fun k => if ow2 k = some d then some d else if ow k = some c ∨ ow k = some cx then some d else ow2 k
  have keepc : ∀ k, ow k = some c → k ≠ (β c).blk → w'.heap[k]? = w.heap[k]? ∧ ow2 k = none := fun k hk hne => by
    have h1 : ow1 k = none := by simp [ow1, hne, hk]
    have := E.keep k (hw k (by simp [hk])) (fun c0 h0 => by simp at h0; subst h0; rw [h1]; simp)
    rw [h1] at this
    exact this
  have keepx : ∀ k, ow k = some cx → w'.heap[k]? = w.heap[k]? ∧ ow2 k = some cx := fun k hk => by
    have hne : k ≠ (β c).blk := fun e => by rw [e, Ob] at hk; cases hk; exact hcx rfl
    have h1 : ow1 k = some cx := by
      have : ow k ≠ some c := by rw [hk]; intro e; cases e; exact hcx rfl
      show (if k = (β c).blk then some c else if ow k = some c then none else ow k) = some cx
      rw [if_neg hne, if_neg this, hk]
    have := E.keep k (hw k (by simp [hk])) (fun c0 h0 => by simp at h0; subst h0; rw [h1]; intro e; cases e; exact hcx rfl)
    rw [h1] at this
    exact this
  have hE : Eff β ow w (setβ β1 d l) ow' w' [c, cx] d := by
    refine ⟨fun i hi => by simp only [setβ, if_neg hi]; exact E.beta i hi, E.os, E.tape, E.output, E.size, fun k hk hn => ?_, fun k hk i hi => ?_, fun k hk => ?_⟩
    · have hc1 : ow k ≠ some c := hn c (by simp)
      have hc2 : ow k ≠ some cx := hn cx (by simp)
      have hne : k ≠ (β c).blk := fun e => hc1 (by rw [e]; exact Ob)
      have h1 : ow1 k = ow k := by simp only [ow1, if_neg hne, if_neg hc1]
      obtain ⟨h2, h3⟩ := E.keep k hk (fun c0 h0 => by simp at h0; subst h0; rw [h1]; exact hc1)
      refine ⟨h2, ?_⟩
      rw [h1] at h3
      have hnd : ow2 k ≠ some d := by rw [h3]; exact hfr k
      simp only [ow', if_neg hnd, hc1, hc2, or_self, if_false, h3]
    · simp only [ow'] at hi
      split at hi
      · cases hi; exact .inr rfl
      · split at hi
        · cases hi; exact .inr rfl
        · rename_i hnd hnc
          rcases hk with hk | ⟨c0, h0, h2⟩
          · rcases E.mine k (.inl hk) i hi with h | h
            · simp at h; exact .inl (by simp [h])
            · exact .inr h
          · simp only [List.mem_cons, List.not_mem_nil, or_false] at h0
            rcases h0 with rfl | rfl
            · exact absurd (.inl h2) hnc
            · exact absurd (.inr h2) hnc
    · simp only [ow'] at hk
      split at hk
      · rename_i h; exact E.wf k (by simp [h])
      · split at hk
        · rename_i h
          have : k < w.heap.size := by rcases h with h | h <;> exact hw k (by simp [h])
          exact Nat.lt_of_lt_of_le this E.size
        · exact E.wf k hk
  refine upon_value (x := v') ?_ (hK _ _ _ _ hE ?_ (fun c' ch hc => ?_))
  · simp only [execOp, ho, resolve, invoke, builtin, Sem.run_bind, Sem.run_pure, Result.andThen_ok, List.map_toArray, List.map_cons, List.map_nil]
    rw [hrun]
    rfl
  · simp only [XV.rel, CV.rel, SV.rel, hn1, Bool.false_eq_true, if_false] at hrel ⊢
    simp only [setβ, if_true, l, hn1, Bool.false_eq_true, if_false]
    exact hrel
  · simp only [Mem.get, nbeq] at hc
    by_cases hcc : d = c'
    · subst hcc
      simp only [decide_true, cond_true, Option.some.injEq] at hc
      subst hc
      have hβd : setβ β1 d l d = l := by simp [setβ]
      refine ⟨by rw [hβd]; exact hn1, by rw [hβd]; exact q1, ?_⟩
      rw [hβd]
      have hlen : (As.take m ++ [A]).length = m + 1 := by simp; omega
      have hsl : ∀ j, subs l (j + 1) = if j < m then subs (β c) (j + 1) else subs (β cx) 1 := fun j => rfl
      refine ⟨fun k hk => hE.wf k (by rw [hk]; simp), by simp [ow', q2, l], ⟨arr2, q5, by rw [q6, Nat.mul_one]; rfl, by rw [hlen]; exact q3, q4, fun j hj => ?_⟩, fun j k => if j < m then Oj j k else Oj' 0 k, fun j => if j < m then sj j else sj' 0, fun j k hj hk => ?_, fun i j k hi hj h1 h2 => ?_, fun j B hB => ?_⟩
      · rw [hlen] at hj
        have := (q7 j hj).2 0
        rw [Nat.mul_one, Nat.add_zero] at this
        refine this _ ?_
        rw [hsl]
        by_cases hjm : j < m
        · simp [joinF, nblt, hjm, f]
        · simp [joinF, nblt, hjm, g]
      · simp only at hk
        by_cases hjm : j < m
        · rw [if_pos hjm] at hk
          obtain ⟨h1, h2⟩ := p1 j k (by omega) hk
          obtain ⟨h3, h4⟩ := keepc k h1 h2
          refine ⟨by simp [ow', h1], fun e => ?_⟩
          have e : k = (β1 d).blk := e
          rw [e, q2] at h4; cases h4
        · rw [if_neg hjm] at hk
          obtain ⟨h1, h2⟩ := p1' 0 k (by simp) hk
          obtain ⟨h3, h4⟩ := keepx k h1
          refine ⟨by simp [ow', h1], fun e => ?_⟩
          have e : k = (β1 d).blk := e
          rw [e, q2] at h4; cases h4; exact hdx rfl
      · simp only at h1 h2
        rw [hlen] at hi hj
        by_cases him : i < m
        · rw [if_pos him] at h1
          by_cases hjm : j < m
          · rw [if_pos hjm] at h2
            exact p2 i j k (by omega) (by omega) h1 h2
          · rw [if_neg hjm] at h2
            have g1 : ow k = some c := (p1 i k (by omega) h1).1
            have g2 : ow k = some cx := (p1' 0 k (by simp) h2).1
            rw [g1] at g2; cases g2; exact absurd rfl hcx
        · rw [if_neg him] at h1
          by_cases hjm : j < m
          · rw [if_pos hjm] at h2
            have g1 : ow k = some cx := (p1' 0 k (by simp) h1).1
            have g2 : ow k = some c := (p1 j k (by omega) h2).1
            rw [g1] at g2; cases g2; exact absurd rfl hcx
          · omega
      · simp only
        rw [hsl]
        have hjl := (List.getElem?_eq_some_iff.1 hB).1
        rw [hlen] at hjl
        by_cases hjm : j < m
        · simp only [if_pos hjm]
          rw [List.getElem?_append_left (by simp; omega), List.getElem?_take_of_lt hjm] at hB
          exact B.loc (fun k hk => (keepc k (p1 j k (by omega) hk).1 (p1 j k (by omega) hk).2).1) (fun _ => Iff.rfl) (p3 j B hB)
        · simp only [if_neg hjm]
          have hje : j = m := by omega
          have hB' : B = A := by
            rw [List.getElem?_append_right (by simp; omega)] at hB
            have : j - (As.take m).length = 0 := by simp; omega
            rw [this] at hB
            simpa using hB.symm
          subst hB'
          exact B.loc (fun k hk => (keepx k (p1' 0 k (by simp) hk).1).1) (fun _ => Iff.rfl) (p3' 0 B rfl)
    · simp [hcc] at hc
end

open Classical in
/-- A method that makes an object out of another one, called at one that stands in such a row. -/
theorem via_inn {P : Program} {f : FuncId} {A B : AbsP} (hspec : ∀ {M : Mem} {c0 d : Nat}, M.get c0 = some (.abs A) → Nat.beq d c0 = false → CallSpec P f [.one (.ptr c0 0 0 0)] M d { v := XV.sv (.ptr d 0 0 0), upd := [(c0, .abs A), (d, .abs B)], wr := [c0] } [c0])
    {e : Nat} {As : List AbsP} {c k d : Nat} {M : Mem} (hM : M.get c = some (.abs (ListP e As))) (hA : As[k]? = some A) (hd : Nat.beq d c = false) :
    CallSpec P f [.one (.inn c k)] M d { v := XV.sv (.ptr d 0 0 0), upd := [(c, .abs (ListP e As)), (d, .abs B)], wr := [c] } [c] := by
  have hdc : d ≠ c := by rw [nbeq] at hd; simpa using hd
  intro β ow w vs hw hfr hvs hr
  obtain ⟨n0, b0, inh, Ob, ⟨arr, a1, a2, a3, a4, a5⟩, Oj, sj, p1, p2, p3⟩ := hr c (by simp) _ hM
  have hkl := (List.getElem?_eq_some_iff.1 hA).1
  let β1 : Nat → Loc := setβ β c ⟨subs (β c) (k + 1), 0, sj k 0, false, fun j => sj k (j + 1)⟩
  let ow1 : Nat → Option Nat := fun q => if Oj k q then some c else if ow q = some c then none else ow q
  have hβ1 : β1 c = ⟨subs (β c) (k + 1), 0, sj k 0, false, fun j => sj k (j + 1)⟩ := by simp [β1, setβ]
  have ho1 : ∀ q, ow1 q = some c ↔ Oj k q := fun q => by
    simp only [ow1]
    split
    · rename_i h; simp [h]
    · rename_i h
      split
      · simp [h]
      · rename_i h2; simp [h, h2]
  have hw1 : WF ow1 w := fun q hq => by
    simp only [ow1] at hq
    split at hq
    · rename_i h; exact inh q (p1 k q hkl h).1
    · split at hq
      · exact absurd rfl hq
      · exact hw q hq
  have hfr1 : ∀ q, ow1 q ≠ some d := fun q hq => by
    simp only [ow1] at hq
    split at hq
    · cases hq; exact hdc rfl
    · split at hq
      · cases hq
      · exact hfr q hq
  obtain ⟨v, r, rfl, hv, rfl⟩ := hvs
  simp only [CV.rel, SV.rel] at hv
  subst hv
  have hoth : ∀ q, ow q = some c → ¬ Oj k q → ow1 q = none := fun q h1 h2 => by simp only [ow1, if_neg h2, if_pos h1]
  refine (hspec (M := [(c, .abs A)]) (c0 := c) (d := d) (by simp [Mem.get]) hd β1 ow1 w [_] hw1 hfr1 ⟨_, [], rfl, ?_, rfl⟩ ?_).mono ?_
  · simp only [CV.rel, SV.rel, Loc.addr, hβ1, Nat.zero_mul, Nat.add_zero]; rfl
  · intro c0 hc0 ch hch
    simp only [List.mem_singleton] at hc0
    subst hc0
    simp only [Mem.get, nbeq, decide_true, cond_true, Option.some.injEq] at hch
    subst hch
    refine ⟨by rw [hβ1], by rw [hβ1], ?_⟩
    rw [hβ1, subs_of]
    exact A.loc (fun _ _ => rfl) ho1 (p3 k A hA)
  rintro e' w' ⟨v, β2, ow2, rfl, E, hv, hH⟩
  have keep : ∀ q, ow q = some c → ¬ Oj k q → w'.heap[q]? = w.heap[q]? ∧ ow2 q = none := fun q h1 h2 => by
    have h3 := hoth q h1 h2
    have := E.keep q (hw q (by simp [h1])) (fun c0 h0 => by simp at h0; subst h0; rw [h3]; simp)
    rw [h3] at this
    exact this
  let β' : Nat → Loc := fun i => if i = c then β c else β2 i
  let ow' : Nat → Option Nat := fun q => if ow2 q = some c then some c else if ow q = some c ∧ ¬ Oj k q then some c else ow2 q
  have hbd : β' d = β2 d := by simp [β', hdc]
  have hbc : β' c = β c := by simp [β']
  have hE : Eff β ow w β' ow' w' [c] d := by
    refine ⟨fun i hi => ?_, E.os, E.tape, E.output, E.size, fun q hq hn => ?_, fun q hq i hi => ?_, fun q hq => ?_⟩
    · by_cases hic : i = c
      · subst hic; exact hbc
      · have h1 : β' i = β2 i := by simp [β', hic]
        rw [h1, E.beta i hi]
        simp [β1, setβ, hic]
    · have hqc : ow q ≠ some c := hn c (by simp)
      have hno : ¬ Oj k q := fun h => hqc (p1 k q hkl h).1
      have h1 : ow1 q = ow q := by simp only [ow1, if_neg hno, if_neg hqc]
      obtain ⟨h2, h3⟩ := E.keep q hq (fun c0 h0 => by simp at h0; subst h0; rw [h1]; exact hqc)
      rw [h1] at h3
      refine ⟨h2, ?_⟩
      simp only [ow', h3, hqc, false_and, if_false]
    · simp only [ow'] at hi
      split at hi
      · cases hi; exact .inl (by simp)
      · split at hi
        · cases hi; exact .inl (by simp)
        · rename_i hnc hnb
          rcases hq with hq | ⟨c0, h0, h2⟩
          · exact E.mine q (.inl hq) i hi
          · simp only [List.mem_singleton] at h0
            subst h0
            have ho : Oj k q := Classical.byContradiction fun h => hnb ⟨h2, h⟩
            exact E.mine q (.inr ⟨_, by simp, (ho1 q).2 ho⟩) i hi
    · simp only [ow'] at hq
      split at hq
      · rename_i h; exact E.wf q (by simp [h])
      · split at hq
        · rename_i h; exact Nat.lt_of_lt_of_le (hw q (by simp [h.1])) E.size
        · exact E.wf q hq
  refine ⟨v, β', ow', rfl, hE, ?_, fun c' ch hc => ?_⟩
  · simp only [XV.rel, CV.rel, SV.rel] at hv ⊢
    rw [hbd]; exact hv
  · simp only [Mem.get, nbeq] at hc
    by_cases hcc : c = c'
    · subst hcc
      simp only [decide_true, cond_true, Option.some.injEq] at hc
      subst hc
      refine ⟨by rw [hbc]; exact n0, by rw [hbc]; exact b0, ?_⟩
      rw [hbc]
      have hnb : ¬ Oj k (β c).blk := fun h => (p1 k _ hkl h).2 rfl
      obtain ⟨kb1, kb2⟩ := keep _ Ob hnb
      obtain ⟨_, _, hΦ⟩ := hH c (.abs A) (by simp [Mem.get])
      have hblk : (β2 c).blk = subs (β c) (k + 1) := by rw [E.beta c (fun h => hdc h.symm), hβ1]
      refine ⟨fun q hq => hE.wf q (by rw [hq]; simp), by simp [ow', Ob, hnb], ⟨arr, kb1.trans a1, a2, a3, a4, a5⟩, fun j q => if j = k then ow2 q = some c else Oj j q, fun j => if j = k then subs (β2 c) else sj j, fun j q hj hq => ?_, fun i j q hi hj h1 h2 => ?_, fun j A' hA' => ?_⟩
      · simp only at hq
        by_cases hjk : j = k
        · rw [if_pos hjk] at hq
          exact ⟨by simp [ow', hq], fun h => by rw [h, kb2] at hq; cases hq⟩
        · rw [if_neg hjk] at hq
          obtain ⟨h1, h2⟩ := p1 j q hj hq
          have h3 : ¬ Oj k q := fun h => hjk (p2 j k q hj hkl hq h)
          exact ⟨by simp [ow', h1, h3], h2⟩
      · simp only at h1 h2
        have cross : ∀ j, j < As.length → j ≠ k → ow2 q = some c → ¬ Oj j q := fun j hj hjk hq ho => by
          have h3 : ¬ Oj k q := fun h => hjk (p2 j k q hj hkl ho h)
          have := (keep q (p1 j q hj ho).1 h3).2
          rw [this] at hq; cases hq
        by_cases hik : i = k
        · rw [if_pos hik] at h1
          by_cases hjk : j = k
          · omega
          · rw [if_neg hjk] at h2
            exact absurd h2 (cross j hj hjk h1)
        · rw [if_neg hik] at h1
          by_cases hjk : j = k
          · rw [if_pos hjk] at h2
            exact absurd h1 (cross i hi hik h2)
          · rw [if_neg hjk] at h2
            exact p2 i j q hi hj h1 h2
      · simp only
        by_cases hjk : j = k
        · subst hjk
          rw [hA] at hA'
          cases hA'
          simp only [if_true]
          rw [← hblk]
          exact hΦ
        · simp only [if_neg hjk]
          have hjl := (List.getElem?_eq_some_iff.1 hA').1
          exact A'.loc (fun q hq => (keep q (p1 j q hjl hq).1 (fun h => hjk (p2 j k q hjl hkl hq h))).1) (fun _ => Iff.rfl) (p3 j A' hA')
    · simp only [hcc, decide_false, cond_false] at hc
      by_cases hcd : d = c'
      · subst hcd
        simp only [decide_true, cond_true, Option.some.injEq] at hc
        subst hc
        obtain ⟨h1, h2, h3⟩ := hH d (.abs B) (by simp only [Mem.get, nbeq]; rw [decide_eq_false (fun h : c = d => hdc h.symm)]; simp)
        refine ⟨by rw [hbd]; exact h1, by rw [hbd]; exact h2, ?_⟩
        rw [hbd]
        refine B.loc (fun _ _ => rfl) (fun q => ?_) h3
        simp only [ow']
        constructor
        · intro h
          split at h
          · cases h; exact absurd rfl hdc
          · split at h
            · cases h; exact absurd rfl hdc
            · exact h
        · intro h
          have hnc : ow2 q ≠ some c := by rw [h]; intro e; cases e; exact hdc rfl
          have hnb : ¬ (ow q = some c ∧ ¬ Oj k q) := fun hb => by
            rw [(keep q hb.1 hb.2).2] at h; cases h
          rw [if_neg hnc, if_neg hnb]; exact h
      · simp [hcd] at hc

/-- An object told by less. -/
theorem Ent.abs_to {C : Ctx} {S : St} {c : Nat} {A A' : AbsP} (hc : S.mem.get c = some (.abs A)) (h : ∀ w b s O, A.Φ w b s O → A'.Φ w b s O) : Ent C S ⟨S.slots, (c, .abs A') :: S.mem.del c, S.nx⟩ := by
  rintro a w ⟨β, ow, g1, g2, g3, g4, g5⟩
  refine ⟨β, ow, ⟨g1.defers, g1.size, g1.slots, fun c' ch hm => ?_, g1.wf⟩, ⟨g2.slots, fun c' ch hm => ?_⟩, g3, g4, g5⟩
  · simp only [Mem.get, nbeq, Mem.get_del] at hm
    by_cases e : c = c'
    · subst e
      simp only [decide_true, cond_true, Option.some.injEq] at hm
      subst hm
      obtain ⟨h1, h2, h3⟩ := g1.mem c _ hc
      exact ⟨h1, h2, h _ _ _ _ h3⟩
    · have e' : ¬ c' = c := fun h => e h.symm
      simp only [e, decide_false, cond_false, e', if_false] at hm
      exact g1.mem c' ch hm
  · simp only [Mem.get, nbeq, Mem.get_del] at hm
    by_cases e : c = c'
    · subst e
      simp only [decide_true, cond_true, Option.some.injEq] at hm
      subst hm
      exact ⟨(g2.mem c _ hc).1, rfl⟩
    · have e' : ¬ c' = c := fun h => e h.symm
      simp only [e, decide_false, cond_false, e', if_false] at hm
      exact g2.mem c' ch hm
theorem ListP.take {e : Nat} {As : List AbsP} {m : Nat} {w : World} {b : Nat} {s : Nat → Nat} {O : Nat → Prop} (h : (ListP e As).Φ w b s O) : (ListP e (As.take m)).Φ w b s O := by
  obtain ⟨h1, h2, ⟨arr, a1, a2, a3, a4, a5⟩, Oj, sj, p1, p2, p3⟩ := h
  have hl : (As.take m).length ≤ As.length := by simp; omega
  refine ⟨h1, h2, ⟨arr, a1, a2, by omega, a4, fun j hj => a5 j (by omega)⟩, Oj, sj, fun j k hj hk => p1 j k (by omega) hk, fun i j k hi hj => p2 i j k (by omega) (by omega), fun j A hA => p3 j A ?_⟩
  have hj := (List.getElem?_eq_some_iff.1 hA).1
  have hjm : j < m := by simp at hj; omega
  rwa [List.getElem?_take_of_lt hjm] at hA
end Go.Sx
