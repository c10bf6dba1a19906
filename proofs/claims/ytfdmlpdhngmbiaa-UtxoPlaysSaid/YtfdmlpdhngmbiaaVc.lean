/- slices.Collect over an iterator of points: a slice of its own that holds what came. -/
import Derived.Test.YtfdmlpdhngmbiaaVb
import Derived.RangeFuncBound
import Derived.Maps.AppendAt
import Derived.Shelf.SlIter.Collect
namespace Go.Proofs.Ytfdmlpdhngmbiaa
open Go.RowKit Go.Lib Go.Sort Go.MapKept

/-- The two texts of a loop over a function: what stands at a round's head, and its body. -/
def loopOf : Code → Option (Code × Code)
  | .rangeFunc _ _ a b => some (a, b)
  | .block _ c => loopOf c
  | .seq a b => match loopOf a with | some x => some x | none => loopOf b
  | _ => none
def apRec (A B : Code) (fn : FuncId) (sv : Value) (Bs D : Nat) (st : LoopState) (pend : Option Code) : Loop :=
  { state := st, pending := pend, fn, tmps := #[.slice none 0 0, sv, .pointer (some ⟨Bs, 0, none⟩), undef, .slice none 0 0, undef, sv, undef, undef, undef, undef, undef, undef], params := #[7], assign := A, body := B, defers := D }

def flatPt (ss : List Pt) : List Value := ss.flatMap Pt.cells
theorem flatPt_len (ss : List Pt) : (flatPt ss).length = ss.length * 9 := by
  induction ss with
  | nil => rfl
  | cons x r ih => simp only [flatPt, List.flatMap_cons, List.length_append, List.length_cons] at ih ⊢; rw [ih]; simp [Pt.cells]; omega

/-- Between two rounds. -/
structure ApAt (A B : Code) (w0 : World) (fn : FuncId) (sv : Value) (Bs l D : Nat) (ss : List Pt) (W : World) : Prop where
  box : ∃ v, W.heap[Bs]? = some (.cells #[v] 52 (0, 0)) ∧ W.ownsRow w0.heap.size 36 9 v ss.length (flatPt ss) ∧ (v = .slice none 0 0 ↔ ss = [])
  L : W.heap[l]? = some (.loop (apRec A B fn sv Bs D .ready none))
  K : W.heap[D]? = some (.deferred (some []))
  below : Below w0.heap.size w0 W

theorem ap_abides (A B : Code) (w0 : World) (fn : FuncId) (sv : Value) (Bs l D b : Nat) (hB : w0.heap.size ≤ b) : AbidesFrom b (ApAt A B w0 fn sv Bs l D) := fun s W W' row h hg hrow => by
  have hrow' : ∀ r, row = some r → ∃ o : Obj, W.heap[r]? = some o ∧ o.isWalk = true := fun r e => (hrow r e).2
  obtain ⟨v, hv, hr, hn⟩ := h.box
  exact ⟨⟨v, (grownBy_keeps hg hrow' hv rfl).trans hv, ownsRow_abides_a hr hg hrow', hn⟩, (grownBy_keeps hg hrow' h.L rfl).trans h.L, (grownBy_keeps hg hrow' h.K rfl).trans h.K,
    h.below.grown hg h.below.size (fun k e => Nat.le_trans hB (hrow k e).1)⟩

theorem ap_ne : ((52 : TypeId) ≠ 36) := by decide
theorem ap_under : Try.prog.underlying 52 = some (.slice 36) := Try.underlying52
theorem ap_info : (Try.prog.info? 36).map (fun i => (i.zero, i.size, i.bytes)) = some (some (Pt.v default), 9, 16) := by kernel_rfl
theorem cells_new (W : World) (cs : List Value) (t : TypeId) (j : Nat) (u : Value) (h : cs[j]? = some u) : (W.alloc (.cells cs.toArray t)).cell? ((⟨W.heap.size, 0, none⟩ : Addr).add j) = some u := by
  rw [addr_add]
  simp only [World.cell?, alloc_new]
  simpa using h

set_option maxRecDepth 100000 in
set_option maxHeartbeats 4000000 in
theorem apYield {A B : Code} (hAB : Try.f44.body.bind loopOf = some (A, B)) (F : Fence) (m : Nat) (w0 : World) (fn : FuncId) (hfn : F.fn fn) (sv : Value) (Bs l D : Nat) (hBl : Bs ≠ l) (hDl : D ≠ l) (hDB : D ≠ Bs) (h0B : w0.heap.size ≤ Bs) (h0l : w0.heap.size ≤ l)
    (N : Nat) (hN : N ≤ maxLen) (hNb : N * 16 ≤ 140737488355328) (ss : List Pt) (x : Pt) (W : World) (h : ApAt A B w0 fn sv Bs l D ss W) (hlen : ss.length < N) :
    YieldAt F m Try.prog l #[x.v] W fun e W' => e = .returned (.bool true) ∧ ApAt A B w0 fn sv Bs l D (ss ++ [x]) W' ∧ KeepsWalks W W' := by
  obtain ⟨i0, hi, hz0, hz1, hz2⟩ := info_parts ap_info
  obtain ⟨v, hv, hrow, _⟩ := h.box
  refine ⟨fn, #[.slice none 0 0, sv, .pointer (some ⟨Bs, 0, none⟩), undef, .slice none 0 0, undef, sv, x.v, undef, undef, undef, undef, undef], A, B, by simpa [apRec] using run_yield (P := Try.prog) (args := #[x.v]) h.L rfl, roundIn_of_wpIn hfn ?_⟩
  have hl : l < W.heap.size := (Array.getElem?_eq_some_iff.1 h.L).1
  -- the variable's own block
  obtain ⟨W1, hW1⟩ : ∃ W1, W.alloc (.cells x.cells.toArray 36) = W1 := ⟨_, rfl⟩
  have hg1 : W.grownBy W1 none := by rw [← hW1]; exact World.grownBy_alloc W _ none
  have hk1 : KeepsWalks W W1 := by rw [← hW1]; exact KeepsWalks.alloc _ _
  have hx1 : W1.heap[W.heap.size]? = some (.cells x.cells.toArray 36 (0, 0)) := by rw [← hW1]; exact alloc_new _ _
  have hold1 : ∀ (k : Nat) (o : Obj), W.heap[k]? = some o → W1.heap[k]? = some o := fun k o hk => (hg1.block k (Array.getElem?_eq_some_iff.1 hk).1 (by simp)).trans hk
  have hrow1 : W1.ownsRow w0.heap.size 36 9 v ss.length (flatPt ss) := by rw [← hW1]; exact hrow.alloc _
  have hL1 := hold1 _ _ h.L
  have hbr := run_beginRound (P := Try.prog) hL1 rfl
  obtain ⟨W2, hW2⟩ : ∃ W2, W1.putObj l (.loop { apRec A B fn sv Bs D .ready none with state := .busy }) = W2 := ⟨_, rfl⟩
  rw [hW2] at hbr
  have hg2 : W1.grownBy W2 (some l) := by rw [← hW2]; exact grownBy_putObj_a _ _ _
  have hk2 : KeepsWalks W W2 := hk1.trans (by rw [← hW2]; exact KeepsWalks.putObj _ hL1 rfl)
  have hv2 : W2.heap[Bs]? = some (.cells #[v] 52 (0, 0)) := by rw [← hW2]; exact (World.putObj_heap_other hBl).trans (hold1 _ _ hv)
  have hK2 : W2.heap[D]? = some (.deferred (some [])) := by rw [← hW2]; exact (World.putObj_heap_other hDl).trans (hold1 _ _ h.K)
  have hl1 : l < W1.heap.size := (Array.getElem?_eq_some_iff.1 hL1).1
  have hx2 : W2.heap[W.heap.size]? = some (.cells x.cells.toArray 36 (0, 0)) := by rw [← hW2]; exact (World.putObj_heap_other (by omega)).trans hx1
  have hL2 : W2.heap[l]? = some (.loop { apRec A B fn sv Bs D .ready none with state := .busy }) := by rw [← hW2]; exact World.putObj_heap_same hl1
  have hrow2 : W2.ownsRow w0.heap.size 36 9 v ss.length (flatPt ss) := hrow1.kept hg2 (ownsRow_ne_a hrow1 hL1 (fun cur e => by first | cases e | exact ap_ne (Obj.cells.inj e).2.1))
  have hb1 : Below w0.heap.size w0 W1 := by rw [← hW1]; exact h.below.alloc h.below.size _
  have hb2 : Below w0.heap.size w0 W2 := hb1.grown hg2 hb1.size (fun k e => by cases e; exact h0l)
  obtain ⟨hc2, hf2⟩ := cell_of_box_a hv2
  have hBlt : Bs < W2.heap.size := (Array.getElem?_eq_some_iff.1 hv2).1
  have hl2 : l < W2.heap.size := (Array.getElem?_eq_some_iff.1 hL2).1
  have hDlt : D < W2.heap.size := (Array.getElem?_eq_some_iff.1 hK2).1
  have ne_of : ∀ {j : Nat} {o : Obj}, W2.heap[j]? = some o → (∀ cur, o ≠ .cells cur 36 (0, 0)) → some j ≠ v.ownBlock := fun hj hno => by
    rcases ownsRow_ne_a hrow2 hj hno with e | e
    · rw [e]; simp
    · exact fun e' => e e'.symm
  have hxc : ∀ j u, x.cells[j]? = some u → W2.cell? ⟨W.heap.size, j, none⟩ = some u := fun j u hj => by simp only [World.cell?, hx2]; simpa using hj
  have hx0 := hxc 0 _ rfl
  have hxa := hxc 1 _ rfl
  have hxb := hxc 2 _ rfl
  have hxd := hxc 3 _ rfl
  have hxe := hxc 4 _ rfl
  have hxf := hxc 5 _ rfl
  have hxg := hxc 6 _ rfl
  have hxh := hxc 7 _ rfl
  have hxi := hxc 8 _ rfl
  have hnew := cells_new W2 x.cells 36
  have hone : ∀ u ∈ x.cells, u.oneCell' = true := fun u hu => by simp [Pt.cells] at hu; rcases hu with rfl | rfl | rfl | rfl | rfl | rfl | rfl | rfl | rfl <;> rfl
  have hflat : flatPt (ss ++ [x]) = flatPt ss ++ x.cells := by simp [flatPt]
  have hss : (ss ++ [x]).length = ss.length + 1 := by simp
  have hnil : ss ++ [x] ≠ [] := by simp
  rw [← hW1] at hbr
  have hendR : ∀ W', W'.heap[l]? = some (.loop { apRec A B fn sv Bs D .ready none with state := .busy }) → (Instr.endRound l none).run Try.prog W' = .ok (.bool true) (W'.putObj l (.loop (apRec A B fn sv Bs D .ready none))) := fun W' h' => run_endRound none h'
  have hmk : ∀ W' v', W'.heap[Bs]? = some (.cells #[v'] 52 (0, 0)) → W'.ownsRow w0.heap.size 36 9 v' (ss.length + 1) (flatPt ss ++ x.cells) → v' ≠ .slice none 0 0 → W'.heap[l]? = some (.loop (apRec A B fn sv Bs D .ready none)) → W'.heap[D]? = some (.deferred (some [])) → Below w0.heap.size w0 W' → ApAt A B w0 fn sv Bs l D (ss ++ [x]) W' :=
    fun W' v' q1 q2 q3 q4 q5 q6 => ⟨⟨v', q1, by rw [hss, hflat]; exact q2, ⟨fun e => absurd e q3, fun e => absurd e hnil⟩⟩, q4, q5, q6⟩
  have hoB : ∀ cur t, (Obj.loop { apRec A B fn sv Bs D .ready none with state := .busy }) ≠ .cells cur t (0, 0) := fun _ _ e => by cases e
  have hwB : (Obj.loop { apRec A B fn sv Bs D .ready none with state := .busy }).isWalk = false := rfl
  clear hW2 hW1 hxc hx1 hx2 hL1 hold1 hflat hss
  generalize (Obj.loop { apRec A B fn sv Bs D .ready none with state := .busy }) = oB at *
  generalize (Obj.loop (apRec A B fn sv Bs D .ready none)) = oR at *
  generalize ApAt A B w0 fn sv Bs l D (ss ++ [x]) = PA at *
  clear h
  obtain ⟨⟨x0, x1, x2, x3, x4, x5, x6, x7⟩, xn⟩ := x
  dsimp only [Pt.v, Pt.cells, Ytfdmlpdhngmbiaa.u8, i64] at *
  simp only [Try.f44, Option.bind_some, loopOf, Option.some.injEq, Prod.mk.injEq] at hAB
  obtain ⟨rfl, rfl⟩ := hAB
  gi_wp2_with gi_round_op_a
  refine ⟨W2, hbr, ?_⟩
  gi_wp2_with (first
    | (gi_at_builtin; refine wpListIn_append_own _ rfl _ _ 52 rfl w0.heap.size 36 i0 _ 9 16 ap_under hi hz0 hz1 hz2 rfl (by decide) _ _ _ rfl (hrow2.alloc _) ⟨W2.heap.size, 0, none⟩ 1 1 [.int .u8 x0.toNat, .int .u8 x1.toNat, .int .u8 x2.toNat, .int .u8 x3.toNat, .int .u8 x4.toNat, .int .u8 x5.toNat, .int .u8 x6.toNat, .int .u8 x7.toNat, .int .i64 xn.toInt] rfl rfl hnew hone (by omega) (by omega) (by have := hb2.size; simp; omega) ?_; intro v' w3 hown' hg3 hnil3
       have hv3 : w3.heap[Bs]? = some (.cells #[v] 52 (0, 0)) := (hg3.block Bs (by simp; omega) (ne_of hv2 (fun cur e => by first | cases e | exact ap_ne (Obj.cells.inj e).2.1))).trans ((Below.heap_alloc _ _ Bs hBlt).trans hv2)
       obtain ⟨hc3, hf3⟩ := cell_of_box_a hv3
       obtain ⟨g', cap', cur', rfl, hbase', hgb', hr1, hr2, hr3, hr4⟩ : ∃ g' cap' cur', v' = .slice (some ⟨g', 0, none⟩) (ss.length + 1) cap' ∧ w0.heap.size ≤ g' ∧ w3.heap[g']? = some (.cells cur' 36 (0, 0)) ∧ ss.length + 1 ≤ cap' ∧ cap' ≤ maxLen ∧ cur'.size = cap' * 9 ∧ cur'.toList.take ((ss.length + 1) * 9) = flatPt ss ++ [.int .u8 x0.toNat, .int .u8 x1.toNat, .int .u8 x2.toNat, .int .u8 x3.toNat, .int .u8 x4.toNat, .int .u8 x5.toNat, .int .u8 x6.toNat, .int .u8 x7.toNat, .int .i64 xn.toInt] := by
         rcases hown'.2 with ⟨_, h0⟩ | h'
         · exact absurd h0 (by omega)
         · exact h'
       go_frame)
    | gi_round_op_a)
  have hg3' : W2.grownBy w3 v.ownBlock := (World.grownBy_alloc W2 _ _).trans hg3
  have hL3 : w3.heap[l]? = some oB := (hg3'.block l hl2 (ne_of hL2 (fun cur => hoB cur _))).trans hL2
  have hK3 : w3.heap[D]? = some (.deferred (some [])) := (hg3'.block D hDlt (ne_of hK2 (fun cur e => by cases e))).trans hK2
  have hk3 : KeepsWalks W2 w3 := KeepsWalks.of_grownBy hg3' (ownsRow_not_walk_a hrow2)
  have hb3 : Below w0.heap.size w0 w3 := hb2.grown hg3' hb2.size (fun k e => (hrow2.lt k e).1)
  obtain ⟨w4, hw4⟩ : ∃ w4, w3.setCell ⟨Bs, 0, none⟩ (.slice (some ⟨g', 0, none⟩) (ss.length + 1) cap') = w4 := ⟨_, rfl⟩
  rw [hw4]
  have hg4 : w3.grownBy w4 (some Bs) := by rw [← hw4]; exact grownBy_setCell0_a _ _ _
  have hv4 : w4.heap[Bs]? = some (.cells #[.slice (some ⟨g', 0, none⟩) (ss.length + 1) cap'] 52 (0, 0)) := by rw [← hw4]; exact heap_setCell_box_a _ hv3
  have hL4 : w4.heap[l]? = some oB := (hg4.block l (Array.getElem?_eq_some_iff.1 hL3).1 (fun e => hBl (by cases e; rfl))).trans hL3
  have hK4 : w4.heap[D]? = some (.deferred (some [])) := (hg4.block D (Array.getElem?_eq_some_iff.1 hK3).1 (fun e => hDB (by cases e; rfl))).trans hK3
  have hrow4 := hown'.kept hg4 (ownsRow_ne_a hown' hv3 (fun cur e => by first | cases e | exact ap_ne (Obj.cells.inj e).2.1))
  have hl4 : l < w4.heap.size := (Array.getElem?_eq_some_iff.1 hL4).1
  have hb4 : Below w0.heap.size w0 w4 := hb3.grown hg4 hb3.size (fun k e => by cases e; exact h0B)
  have hk4 : KeepsWalks W w4 := (hk2.trans hk3).trans (by rw [← hw4]; exact KeepsWalks.setCell _ _ _)
  clear hw4
  refine ⟨_, _, hendR _ hL4, rfl, hmk _ _ ((World.putObj_heap_other hBl).trans hv4) ?_ (by simp) (World.putObj_heap_same hl4) ((World.putObj_heap_other hDl).trans hK4) (hb4.grown (grownBy_putObj_a _ _ _) hb4.size (fun k e => by cases e; exact h0l)), hk4.trans (KeepsWalks.putObj _ hL4 hwB)⟩
  exact hrow4.kept (grownBy_putObj_a w4 l oR) (ownsRow_ne_a hrow4 hL4 (fun cur => hoB cur _))

set_option maxRecDepth 100000 in
set_option maxHeartbeats 4000000 in
/-- slices.AppendSeq to nil: what the iterator gave, in that order, in a block of the call's own. -/
theorem appendSeq_in (F : Fence) (n : Nat) (h44 : F.fn 44) (hro : F.round = none) (hn : 2 ≤ n) (g : Nat) (lb : Array Value) (hFg : F.fn g) (eg : ∀ args w, (callFunc g args).run Try.prog w = .ok (.enter g args) w)
    (S : List Pt → Prop) (N : Nat) (hN : N ≤ maxLen) (hNb : N * 16 ≤ 140737488355328) (w : World) (hseq : SeqGives F (n - 1) Try.prog g lb Pt.v S N w) :
    CallsIn F n Try.prog 44 #[.slice none 0 0, .func (.func g) #[] lb] w fun e w' => ∃ (v : Value) (ss : List Pt), e = .returned v ∧ S ss ∧ w'.ownsRow w.heap.size 36 9 v ss.length (flatPt ss) ∧ (v = .slice none 0 0 ↔ ss = []) ∧ Below w.heap.size w w' := by
  have h1 : 1 ≤ n := by omega
  obtain ⟨A, B, hAB⟩ : ∃ A B, Try.f44.body.bind loopOf = some (A, B) := ⟨_, _, rfl⟩
  have hAB' := hAB
  simp only [Try.f44, Option.bind_some, loopOf, Option.some.injEq, Prod.mk.injEq] at hAB'
  obtain ⟨hA, hB⟩ := hAB'
  refine callsIn_of_wp_marks Try.func44 rfl h44 ?_ hro
  simp only [Try.ntmps44, List.size_toArray, List.length_cons, List.length_nil, Nat.reduceAdd, Nat.reduceSub, Array.replicate_succ, Array.replicate_zero, List.push_toArray, List.append_toArray, List.nil_append, List.cons_append]
  gi_wp2
  refine wpIn_rangeFunc ?_
  intro fn hfn
  rw [hro, hA, hB]
  clear hA hB
  obtain ⟨W0, hW0⟩ : ∃ W0, w.alloc (.cells #[.slice none 0 0] 52) = W0 := ⟨_, rfl⟩
  have hs0 : W0.heap.size = w.heap.size + 1 := by rw [← hW0]; simp
  have hv0 : W0.heap[w.heap.size]? = some (.cells #[.slice none 0 0] 52 (0, 0)) := by rw [← hW0]; exact alloc_new w _
  have hb0 : Below w.heap.size w W0 := by rw [← hW0]; exact (Below.refl _ w).alloc (Nat.le_refl _) _
  rw [hW0]
  obtain ⟨W1, hW1⟩ : ∃ W1, (W0.alloc (.deferred (some []))).alloc (.loop (apRec A B fn (.func (.func g) #[] lb) w.heap.size W0.heap.size .ready none)) = W1 := ⟨_, rfl⟩
  have hold : ∀ k, k < W0.heap.size → W1.heap[k]? = W0.heap[k]? := fun k hk => by
    rw [← hW1]; exact (Below.heap_alloc _ _ k (by simp; omega)).trans (Below.heap_alloc _ _ k hk)
  have hb1 : Below w.heap.size w W1 := by rw [← hW1]; exact (hb0.alloc hb0.size _).alloc (by have := hb0.size; simp; omega) _
  have hs1 : W1.heap.size = W0.heap.size + 2 := by rw [← hW1]; simp
  have hM : ApAt A B w fn (.func (.func g) #[] lb) w.heap.size (W0.heap.size + 1) W0.heap.size [] W1 :=
    ⟨⟨_, (hold w.heap.size (by omega)).trans hv0, ⟨rfl, .inl ⟨rfl, rfl⟩⟩, by simp⟩,
     by rw [← hW1]; have := alloc_new (W0.alloc (.deferred (some []))) (.loop (apRec A B fn (.func (.func g) #[] lb) w.heap.size W0.heap.size .ready none)); rwa [World.size_alloc] at this,
     by rw [← hW1]; exact (Below.heap_alloc _ _ _ (by simp)).trans (alloc_new W0 _), hb1⟩
  refine ⟨W0.heap.size + 1, [{ target := .collected W0.heap.size, args := #[] }], W1, { target := .fn (.func g) lb, args := #[.func (.yield (W0.heap.size + 1)) #[] #[]] }, W1, g,
    #[.func (.yield (W0.heap.size + 1)) #[] #[]] ++ lb, W1, ?_, ?_, ?_, ?_, fun _ => h1, ?_⟩
  · rw [← hW1]; exact run_enterLoop_outer _ _ _ _ _
  · simp [resolve, go_sem]
  · intro f' hf'; simp [Target.leads] at hf'; subst hf'; exact hFg
  · simp [invoke, go_sem, eg]
  · refine (hseq (W0.heap.size + 1) (ApAt A B w fn (.func (.func g) #[] lb) w.heap.size (W0.heap.size + 1) W0.heap.size) W1 hb1 (ap_abides A B _ _ _ _ _ _ _ hb1.size)
      (fun pre x W hJ hl => apYield hAB F (n - 1 - 1) w fn hfn _ w.heap.size (W0.heap.size + 1) W0.heap.size (by omega) (by omega) (by omega) (Nat.le_refl _) (by omega) N hN hNb pre x W hJ hl) hM).mono ?_
    rintro e W2 ⟨⟨v0, rfl⟩, ss, hS, h2⟩
    obtain ⟨v, hv, hrow, hnil⟩ := h2.box
    have hend := run_endLoop (P := Try.prog) h2.L (by simp [apRec])
    obtain ⟨W3, hW3⟩ : ∃ W3, W2.putObj (W0.heap.size + 1) (.loop { apRec A B fn (.func (.func g) #[] lb) w.heap.size W0.heap.size .ready none with state := .exhausted }) = W3 := ⟨_, rfl⟩
    rw [hW3] at hend
    have hg3 : W2.grownBy W3 (some (W0.heap.size + 1)) := by rw [← hW3]; exact grownBy_putObj_a _ _ _
    have hv3 : W3.heap[w.heap.size]? = some (.cells #[v] 52 (0, 0)) := by rw [← hW3]; exact (World.putObj_heap_other (by omega)).trans hv
    have hK3 : W3.heap[W0.heap.size]? = some (.deferred (some [])) := by rw [← hW3]; exact (World.putObj_heap_other (by omega)).trans h2.K
    have hrow3 := hrow.kept hg3 (ownsRow_ne_a hrow h2.L (fun cur e => by cases e))
    have hb3 : Below w.heap.size w W3 := h2.below.grown hg3 h2.below.size (fun k e => by cases e; omega)
    obtain ⟨hc3, hf3⟩ := cell_of_box_a hv3
    clear hW3
    refine ⟨none, W3, hend, ?_⟩
    gi_wp2
    rw [← hs0]
    refine ⟨by simp, .inl ⟨_, _, rfl, run_takeDeferred hK3, ?_⟩⟩
    exact ⟨_, results_tmp rfl _ _ _, v, ss, rfl, hS, hrow3.kept (grownBy_putObj_a _ _ _) (ownsRow_ne_a hrow3 hK3 (fun cur e => by cases e)), hnil, hb3.grown (grownBy_putObj_a _ _ _) hb3.size (fun k e => by cases e; omega)⟩

set_option maxHeartbeats 1000000 in
/-- slices.Collect. -/
theorem collect_in (F : Fence) (n : Nat) (h37 : F.fn 37) (h44 : F.fn 44) (hro : F.round = none) (hn : 3 ≤ n) (g : Nat) (lb : Array Value) (hFg : F.fn g) (eg : ∀ args w, (callFunc g args).run Try.prog w = .ok (.enter g args) w)
    (S : List Pt → Prop) (N : Nat) (hN : N ≤ maxLen) (hNb : N * 16 ≤ 140737488355328) (w : World) (hseq : SeqGives F (n - 1 - 1) Try.prog g lb Pt.v S N w) :
    CallsIn F n Try.prog 37 #[.func (.func g) #[] lb] w fun e w' => ∃ (v : Value) (ss : List Pt), e = .returned v ∧ S ss ∧ w'.ownsRow w.heap.size 36 9 v ss.length (flatPt ss) ∧ (v = .slice none 0 0 ↔ ss = []) ∧ Below w.heap.size w w' := by
  have h1 : 1 ≤ n := by omega
  refine callsIn_of_wp Try.func37 rfl h37 ?_ hro
  simp only [Try.ntmps37, List.size_toArray, List.length_cons, List.length_nil, Nat.reduceAdd, Nat.reduceSub, Array.replicate_succ, Array.replicate_zero, List.push_toArray, List.append_toArray, List.nil_append, List.cons_append]
  gi_wp2_with (gi_at_call 44; refine (appendSeq_in F (n - 1) h44 hro (by omega) g lb hFg eg S N hN hNb _ hseq).mono ?_; rintro e w' ⟨v, ss, rfl, hS, hrow, hnil, hb⟩)
  go_ret
  exact ⟨v, ss, rfl, hS, hrow, hnil, hb⟩
end Go.Proofs.Ytfdmlpdhngmbiaa
