/- Proved: whatever the input, drawbridgelaw11.UtxoPlays returns true, and the input reads as it did; no conditions. -/
import Derived.Test.YtfdmlpdhngmbiaaVn
import Derived.Test.YtfdmlpdhngmbiaaUf
namespace Go.Proofs.Ytfdmlpdhngmbiaa
open Go.Sx

/-- Two texts, and what holds between them. -/
theorem Tri.mid {P : Program} {C : Ctx} {α : Type} (mid : α → St) {a b : Code} {S : St} {Q : Exit → St → Prop} (h1 : Tri P C a S (fun e S' => (e = .normal ∧ ∃ y, Ent C S' (mid y)) ∨ (e ≠ .normal ∧ Q e S'))) (h2 : ∀ y, Tri P C b (mid y) Q) : Tri P C (.seq a b) S Q := by
  refine Tri.seq fun ac w hs => Go.wp_mono (h1 ac w hs) ?_
  rintro e a' w' ⟨S', hs', h⟩
  refine ⟨S', hs', ?_⟩
  rcases h with ⟨rfl, y, hE⟩ | ⟨hne, hq⟩
  · exact cutG (Tri.ent hE (h2 y))
  · cases e with
    | normal => exact absurd rfl hne
    | _ => exact hq

theorem Tri.seq_cond {P : Program} {C : Ctx} {Y A B : Code} {t : Nat} {S : St} {Q : Exit → St → Prop} (mA mB : St) (h1 : Tri P C Y S (fun e S' => e = .normal ∧ ∃ b, S'.ev (.tmp t) = some (XV.bool b) ∧ (b = true → Ent C S' mA) ∧ (b = false → Ent C S' mB)))
    (hA : Tri P C A mA Q) (hB : Tri P C B mB Q) : Tri P C (.seq Y (.cond (.tmp t) A B)) S Q := by
  refine Tri.seq fun ac w hs => Go.wp_mono (h1 ac w hs) ?_
  rintro e a' w' ⟨S', hs', rfl, b, hb, h2, h3⟩
  exact ⟨S', hs', cutG (Tri.cond hb (fun h => Tri.ent (h2 h) hA) (fun h => Tri.ent (h3 h) hB))⟩

theorem rcCopy_inn {e : Nat} {Rs : List RC} {k : Nat} {R : RC} (hP : R.P.length < 1000000) (hC : R.C.length < 1000000) {M : Mem} {c d : Nat} (hM : M.get c = some (.abs (ListP e (Rs.map rcP)))) (hk : Rs[k]? = some R) (hd : Nat.beq d c = false) :
    CallSpec Try.prog 17 [.one (.inn c k)] M d { v := XV.sv (.ptr d 0 0 0), upd := [(c, .abs (ListP e (Rs.map rcP))), (d, .abs (rcP R))], wr := [c] } [c] :=
  via_inn (fun hM hd => rcCopy_spec R hP hC hM hd) hM (by rw [List.getElem?_map, hk]; rfl) hd

structure Play where
  i : Nat
  S : USet
  hist : List RC
  ms : List Nat
structure Play.ok (n : Nat) (x : Play) : Prop where
  i : x.i ≤ n
  hist : Hist x.S x.hist
  steps : x.S.steps.length ≤ x.i
  ms : x.ms.length ≤ x.i
  mle : ∀ k, x.ms.getD k 0 ≤ 1000
  hle : ∀ k, (x.hist.getD k RC.empty).P.length ≤ k

def playSt (l : List Deed) (i : Nat) (S : USet) (hist : List RC) (R : RC) (ms : List Nat) : St :=
  ⟨[some (XV.sv (.slc 0 22 0 l.length)), none, some (XV.bool false), some (XV.sv (.ptr 1 0 0 0)), some (XV.sv (.ptr 2 0 0 0)), some (XV.sv (.slc 3 1 0 ms.length)), some (XV.sv (.slc 4 1 0 ms.length)), some (XV.sv (.slc 5 1 0 hist.length)), some (XV.int .i64 i)] ++ List.replicate 156 none,
   [(0, .ro 22 l.length (deedsF l)), (1, .abs (usetP S)), (2, .abs (rcP R)), (3, .vec 30 1 ms.length (marksF ms)), (4, .vec 3 1 ms.length (marksF ms)), (5, .abs (ListP 26 (hist.map rcP)))], 6⟩

theorem hle_snoc {hist : List RC} {X : RC} (h : ∀ k, (hist.getD k RC.empty).P.length ≤ k) (hX : X.P.length ≤ hist.length) : ∀ k, ((hist ++ [X]).getD k RC.empty).P.length ≤ k := by
  intro k
  rcases Nat.lt_trichotomy k hist.length with hk | hk | hk
  · rw [getD_snoc_lt _ _ hk]; exact h k
  · subst hk; rw [getD_snoc_eq]; exact hX
  · rw [List.getD_eq_getElem?_getD, List.getElem?_eq_none (by simp; omega)]
    simp [RC.empty]
theorem RC.add_le (R : RC) (p : Pt) (c : Coin) : (R.add p c).P.length ≤ R.P.length + 1 := by
  unfold RC.add
  split
  · simp only [RC.add1, List.length_append, List.length_cons, List.length_take, List.length_drop]
    have := R.pos_le p
    omega
  · omega
theorem RC.spend_le (R : RC) (p : Pt) : (R.spend p).P.length ≤ R.P.length := by
  unfold RC.spend
  split
  · simp only [RC.spend1, List.length_append, List.length_take, List.length_drop]
    omega
  · omega

/-- Within the switch: the deed lies in a block of its own. -/
def swSt (l : List Deed) (i : Nat) (S : USet) (hist : List RC) (R : RC) (ms : List Nat) (x : Deed) : St :=
  ⟨[some (XV.sv (.slc 0 22 0 l.length)), none, some (XV.bool false), some (XV.sv (.ptr 1 0 0 0)), some (XV.sv (.ptr 2 0 0 0)), some (XV.sv (.slc 3 1 0 ms.length)), some (XV.sv (.slc 4 1 0 ms.length)), some (XV.sv (.slc 5 1 0 hist.length)), some (XV.int .i64 i), some (XV.sv (.ptr 6 0 0 0))] ++ List.replicate 31 none ++ [some (XV.val (i64 x.act))] ++ List.replicate 123 none,
   [(0, .ro 22 l.length (deedsF l)), (1, .abs (usetP S)), (2, .abs (rcP R)), (3, .vec 30 1 ms.length (marksF ms)), (4, .vec 3 1 ms.length (marksF ms)), (5, .abs (ListP 26 (hist.map rcP))), (6, .cells 42 (x.cells.map .raw))], 7⟩

set_option maxHeartbeats 4000000 in
set_option maxRecDepth 100000 in
theorem plays_spec (l : List Deed) {M : Mem} {d : Nat} (hM : ∀ i ch, Mem.get [(0, .ro 22 l.length (deedsF l))] i = some ch → M.get i = some ch) (hd : 1 ≤ d) : CallSpec Try.prog 4 [.one (.slc 0 22 0 l.length)] M d { v := XV.bool true } (List.range 1) := by
  refine spec_reads Try.T_ok Try.func4 rfl [.one (.slc 0 22 0 l.length)] (XV.bool true) [(0, .ro 22 l.length (deedsF l))] 1 rfl rfl ?_ (fun C hC => ?_) hM hd
  · intro i ch hi
    simp only [Mem.get, nbeq] at hi
    by_cases h0 : 0 = i
    · subst h0; simp at hi; subst hi; exact ⟨by omega, rfl⟩
    · simp [h0] at hi
  (refine Tri.cut 4 Try.mixed Try.T_ok ?_; ((conv => arg 5; whnf); repeat ((first | (with_reducible refine wT ?_) | (with_reducible refine wF ?_) | (with_reducible refine wO (by kernel_rfl) ?_)); refine wGo ?_; (conv => arg 5; whnf))))
  (refine wP _ _ (call_op rfl (entersB_of Try.func7 (by kernel_rfl)) rfl (awake_spec _ _)) ?_; ((conv => arg 5; whnf); repeat ((first | (with_reducible refine wT ?_) | (with_reducible refine wF ?_) | (with_reducible refine wO (by kernel_rfl) ?_)); refine wGo ?_; (conv => arg 5; whnf))))
  refine wC (fun h => absurd h (by decide)) (fun _ => ?_)
  (refine wGo ?_; ((conv => arg 5; whnf); repeat ((first | (with_reducible refine wT ?_) | (with_reducible refine wF ?_) | (with_reducible refine wO (by kernel_rfl) ?_)); refine wGo ?_; (conv => arg 5; whnf))))
  refine wC (fun h1 => ?_) (fun h1 => ?_)
  · (refine wGo ?_; ((conv => arg 5; whnf); repeat ((first | (with_reducible refine wT ?_) | (with_reducible refine wF ?_) | (with_reducible refine wO (by kernel_rfl) ?_)); refine wGo ?_; (conv => arg 5; whnf))))
    exact wD <| cutR (Ends.plain (.inr rfl) rfl rfl)
  (refine wGo ?_; ((conv => arg 5; whnf); repeat ((first | (with_reducible refine wT ?_) | (with_reducible refine wF ?_) | (with_reducible refine wO (by kernel_rfl) ?_)); refine wGo ?_; (conv => arg 5; whnf))))
  have hl80 : l.length ≤ 80 := by simp only [decide_eq_false_iff_not] at h1; omega
  have hC0 : ∀ ids : List Nat, ids[0]? = some 0 → ∀ i, i < C.n0 → ids[i]? = some i := fun ids e0 i hi => by
    rw [hC] at hi
    match i, hi with
    | 0, _ => exact e0
  (refine wP _ _ (call_op rfl (entersB_of Try.func16 (by kernel_rfl)) rfl (new_spec)) ?_; ((conv => arg 5; whnf); repeat ((first | (with_reducible refine wT ?_) | (with_reducible refine wF ?_) | (with_reducible refine wO (by kernel_rfl) ?_)); refine wGo ?_; (conv => arg 5; whnf))))
  refine wD <| cutG ?_
  refine Tri.ent (Ent.trans (Ent.nilc (c := 9) (e := 55) (cs := [.raw (.slice none 0 0), .raw (.slice none 0 0)]) (j := 0) rfl rfl 36 9)
    (Ent.trans (Ent.nilc (c := 9) (e := 55) (cs := [.slc 12 9 0 0, .raw (.slice none 0 0)]) (j := 1) rfl rfl 40 11)
    (Ent.shut3 (i0 := 9) (i1 := 12) (i2 := 13) (M := RC.empty.mem) (inv := True) rfl trivial rfl rfl rfl rfl rfl rfl rfl rfl ⟨rfl, rfl⟩ ⟨rfl, rfl, Nat.le_refl _, fun i hi => absurd hi (Nat.not_lt_zero i)⟩ ⟨rfl, rfl, Nat.le_refl _, fun i hi => absurd hi (Nat.not_lt_zero i)⟩))) ?_
  (refine Tri.cut 3 Try.mixed Try.T_ok ?_; ((conv => arg 5; whnf); repeat ((first | (with_reducible refine wT ?_) | (with_reducible refine wF ?_) | (with_reducible refine wO (by kernel_rfl) ?_)); refine wGo ?_; (conv => arg 5; whnf))))
  refine wD <| cutG ?_
  refine Tri.ent (Ent.trans (Ent.nils (t := 5) rfl 30 1) (Ent.nils (t := 6) rfl 3 1)) ?_
  (refine Tri.cut 1 Try.mixed Try.T_ok ?_; ((conv => arg 5; whnf); repeat ((first | (with_reducible refine wT ?_) | (with_reducible refine wF ?_) | (with_reducible refine wO (by kernel_rfl) ?_)); refine wGo ?_; (conv => arg 5; whnf))))
  (refine wP _ _ (call_op rfl (entersB_of Try.func17 (by kernel_rfl)) rfl (rcCopy_spec RC.empty (by decide) (by decide) rfl rfl)) ?_; ((conv => arg 5; whnf); repeat ((first | (with_reducible refine wT ?_) | (with_reducible refine wF ?_) | (with_reducible refine wO (by kernel_rfl) ?_)); refine wGo ?_; (conv => arg 5; whnf))))
  (refine wP _ _ (listNew_op Try.T_ok rfl rfl rfl rfl rfl rfl rfl rfl) ?_; ((conv => arg 5; whnf); repeat ((first | (with_reducible refine wT ?_) | (with_reducible refine wF ?_) | (with_reducible refine wO (by kernel_rfl) ?_)); refine wGo ?_; (conv => arg 5; whnf))))
  refine wD <| cutG <| Tri.seq ?_
  (refine Tri.cut 1 Try.mixed Try.T_ok ?_; ((conv => arg 5; whnf); repeat ((first | (with_reducible refine wT ?_) | (with_reducible refine wF ?_) | (with_reducible refine wO (by kernel_rfl) ?_)); refine wGo ?_; (conv => arg 5; whnf))))
  refine wD <| cutG <| Tri.block ?_
  refine Tri.loop (α := { x : Play // x.ok l.length }) (fun x => playSt l x.1.i x.1.S x.1.hist (x.1.hist.getD x.1.S.steps.length RC.empty) x.1.ms) (fun x => l.length - x.1.i) ⟨⟨0, USet.empty, [RC.empty], []⟩, Nat.zero_le _, Hist.empty, Nat.zero_le _, Nat.zero_le _, fun k => by simp, fun k => by cases k <;> simp [RC.empty]⟩ ?_ ?_
  · exact Ent.ren [0, 7, 9, 18, 19, 22] (by decide) rfl (hC0 _ rfl) (by rw [hC]; decide) rfl ⟨rfl, rfl, rfl, rfl, rfl, rfl, rfl, rfl, trivial⟩ ⟨⟨_, rfl, rfl, rfl, fun _ _ => rfl⟩, ⟨_, rfl, rfl⟩, ⟨_, rfl, rfl⟩, ⟨_, rfl, rfl, rfl, Nat.le_refl _, fun i hi => absurd hi (Nat.not_lt_zero i)⟩, ⟨_, rfl, rfl, rfl, Nat.le_refl _, fun i hi => absurd hi (Nat.not_lt_zero i)⟩, ⟨_, rfl, rfl⟩, trivial⟩
  rintro ⟨⟨i, S, hist, ms⟩, ⟨hi, hH, hst, hms, hmle, hhle⟩⟩
  dsimp only at hi hH hst hms hmle hhle ⊢
  obtain ⟨zs, hz⟩ := hH.now
  have hhl := hH.len
  have hRl := hhle S.steps.length
  generalize hR : hist.getD S.steps.length RC.empty = R at *
  have hzl := hz.len
  have hzc : zs.length = S.coins.length := hz.perm.length_eq
  (refine Tri.cut 1 Try.mixed Try.T_ok ?_; ((conv => arg 5; whnf); repeat ((first | (with_reducible refine wT ?_) | (with_reducible refine wF ?_) | (with_reducible refine wO (by kernel_rfl) ?_)); refine wGo ?_; (conv => arg 5; whnf))))
  refine wC (fun h3 => ?_) (fun h3 => ?_)
  case refine_2 =>
    (refine wGo ?_; ((conv => arg 5; whnf); repeat ((first | (with_reducible refine wT ?_) | (with_reducible refine wF ?_) | (with_reducible refine wO (by kernel_rfl) ?_)); refine wGo ?_; (conv => arg 5; whnf))))
    refine wD <| cutE <| loopX <| blockX <| cutG <| Tri.of Try.mixed Try.T_ok ?_
    (refine wBegin ?_; ((conv => arg 5; whnf); repeat ((first | (with_reducible refine wT ?_) | (with_reducible refine wF ?_) | (with_reducible refine wO (by kernel_rfl) ?_)); refine wGo ?_; (conv => arg 5; whnf))))
    exact Ends.plain (.inr rfl) rfl rfl
  (refine wGo ?_; ((conv => arg 5; whnf); repeat ((first | (with_reducible refine wT ?_) | (with_reducible refine wF ?_) | (with_reducible refine wO (by kernel_rfl) ?_)); refine wGo ?_; (conv => arg 5; whnf))))
  have h3' : i < l.length := by simp only [decide_eq_true_eq] at h3; omega
  have hwi : IntKind.i64.wrap ((i : Int) + 1) = ((i + 1 : Nat) : Int) := by rw [wrap_i64 (by omega) (by omega)]; omega
  refine wD <| cutG <| Tri.seq <| Tri.block ?_
  (refine Tri.cut 1 Try.mixed Try.T_ok ?_; ((conv => arg 5; whnf); repeat ((first | (with_reducible refine wT ?_) | (with_reducible refine wF ?_) | (with_reducible refine wO (by kernel_rfl) ?_)); refine wGo ?_; (conv => arg 5; whnf))))
  refine wN ⟨by omega, by omega⟩ ?_
  (refine wGo ?_; ((conv => arg 5; whnf); repeat ((first | (with_reducible refine wT ?_) | (with_reducible refine wF ?_) | (with_reducible refine wO (by kernel_rfl) ?_)); refine wGo ?_; (conv => arg 5; whnf))))
  refine wN (by omega) ?_
  (refine wGo ?_; ((conv => arg 5; whnf); repeat ((first | (with_reducible refine wT ?_) | (with_reducible refine wF ?_) | (with_reducible refine wO (by kernel_rfl) ?_)); refine wGo ?_; (conv => arg 5; whnf))))
  generalize hx : l.getD (0 + ((i : Nat) : Int).toNat) default = x
  refine wD <| cutG ?_
  refine Tri.mid (α := { y : Play // y.ok l.length ∧ y.i = i + 1 }) (fun y => playSt l i y.1.S y.1.hist (y.1.hist.getD y.1.S.steps.length RC.empty) y.1.ms) ?_ ?_
  case refine_2 =>
    rintro ⟨⟨i', S', hist', ms'⟩, ⟨hi', hH', hst', hms', hmle', hhle'⟩, hie⟩
    dsimp only at hi' hH' hst' hms' hmle' hhle' hie ⊢
    subst hie
    have hN := hH'.now
    have hNl := hN.coins_len
    have hRl' := hhle' S'.steps.length
    generalize hR' : hist'.getD S'.steps.length RC.empty = R' at *
    refine Tri.of Try.mixed Try.T_ok ?_
    (refine wBegin ?_; ((conv => arg 5; whnf); repeat ((first | (with_reducible refine wT ?_) | (with_reducible refine wF ?_) | (with_reducible refine wO (by kernel_rfl) ?_)); refine wGo ?_; (conv => arg 5; whnf))))
    (refine wP _ _ (call_op rfl (entersB_of Try.func20 (by kernel_rfl)) rfl (same_spec S' R' hN (by omega) rfl rfl rfl)) ?_; ((conv => arg 5; whnf); repeat ((first | (with_reducible refine wT ?_) | (with_reducible refine wF ?_) | (with_reducible refine wO (by kernel_rfl) ?_)); refine wGo ?_; (conv => arg 5; whnf))))
    refine wC (fun h => absurd h (by decide)) (fun _ => ?_)
    (refine wGo ?_; ((conv => arg 5; whnf); repeat ((first | (with_reducible refine wT ?_) | (with_reducible refine wF ?_) | (with_reducible refine wO (by kernel_rfl) ?_)); refine wGo ?_; (conv => arg 5; whnf))))
    refine wD <| blockN <| cutG <| Tri.of Try.mixed Try.T_ok ?_
    (refine wBegin ?_; ((conv => arg 5; whnf); repeat ((first | (with_reducible refine wT ?_) | (with_reducible refine wF ?_) | (with_reducible refine wO (by kernel_rfl) ?_)); refine wGo ?_; (conv => arg 5; whnf))))
    refine wD <| loopN ⟨⟨⟨i + 1, S', hist', ms'⟩, hi', hH', hst', hms', hmle', hhle'⟩, by dsimp only; omega, ?_⟩
    dsimp only
    rw [hR']
    exact Ent.ren [0, 1, 2, 3, 4, 5] (by decide) rfl (hC0 _ rfl) (by rw [hC]; decide) rfl ⟨rfl, rfl, rfl, rfl, rfl, rfl, rfl, congrArg (fun n : Int => some (XV.int .i64 n)) hwi, trivial⟩ ⟨⟨_, rfl, rfl, rfl, fun _ _ => rfl⟩, ⟨_, rfl, rfl⟩, ⟨_, rfl, rfl⟩, ⟨_, rfl, rfl, rfl, Nat.le_refl _, fun _ _ => rfl⟩, ⟨_, rfl, rfl, rfl, Nat.le_refl _, fun _ _ => rfl⟩, ⟨_, rfl, rfl⟩, trivial⟩
  (refine Tri.cut 1 Try.mixed Try.T_ok ?_; ((conv => arg 5; whnf); repeat ((first | (with_reducible refine wT ?_) | (with_reducible refine wF ?_) | (with_reducible refine wO (by kernel_rfl) ?_)); refine wGo ?_; (conv => arg 5; whnf))))
  refine wD <| cutG <| Tri.block ?_
  refine Tri.seq_cond (swSt l i S hist R ms x) (swSt l i S hist R ms x) ?_ ?_ ?_
  · refine Tri.of Try.mixed Try.T_ok ?_
    (refine wBegin ?_; ((conv => arg 5; whnf); repeat ((first | (with_reducible refine wT ?_) | (with_reducible refine wF ?_) | (with_reducible refine wO (by kernel_rfl) ?_)); refine wGo ?_; (conv => arg 5; whnf))))
    refine wC (fun h4 => ?_) (fun h4 => ?_)
    · (refine wGo ?_; ((conv => arg 5; whnf); repeat ((first | (with_reducible refine wT ?_) | (with_reducible refine wF ?_) | (with_reducible refine wO (by kernel_rfl) ?_)); refine wGo ?_; (conv => arg 5; whnf))))
      exact wD ⟨rfl, _, rfl, fun _ => Ent.ren [0, 1, 2, 3, 4, 5, 14] (by decide) rfl (hC0 _ rfl) (by rw [hC]; decide) rfl ⟨rfl, rfl, rfl, rfl, rfl, rfl, rfl, rfl, rfl, rfl, trivial⟩ ⟨⟨_, rfl, rfl, rfl, fun _ _ => rfl⟩, ⟨_, rfl, rfl⟩, ⟨_, rfl, rfl⟩, ⟨_, rfl, rfl, rfl, Nat.le_refl _, fun _ _ => rfl⟩, ⟨_, rfl, rfl, rfl, Nat.le_refl _, fun _ _ => rfl⟩, ⟨_, rfl, rfl⟩, ⟨_, rfl, rfl, rfl⟩, trivial⟩, fun _ => Ent.ren [0, 1, 2, 3, 4, 5, 14] (by decide) rfl (hC0 _ rfl) (by rw [hC]; decide) rfl ⟨rfl, rfl, rfl, rfl, rfl, rfl, rfl, rfl, rfl, rfl, trivial⟩ ⟨⟨_, rfl, rfl, rfl, fun _ _ => rfl⟩, ⟨_, rfl, rfl⟩, ⟨_, rfl, rfl⟩, ⟨_, rfl, rfl, rfl, Nat.le_refl _, fun _ _ => rfl⟩, ⟨_, rfl, rfl, rfl, Nat.le_refl _, fun _ _ => rfl⟩, ⟨_, rfl, rfl⟩, ⟨_, rfl, rfl, rfl⟩, trivial⟩⟩
    · (refine wGo ?_; ((conv => arg 5; whnf); repeat ((first | (with_reducible refine wT ?_) | (with_reducible refine wF ?_) | (with_reducible refine wO (by kernel_rfl) ?_)); refine wGo ?_; (conv => arg 5; whnf))))
      exact wD ⟨rfl, _, rfl, fun _ => Ent.ren [0, 1, 2, 3, 4, 5, 14] (by decide) rfl (hC0 _ rfl) (by rw [hC]; decide) rfl ⟨rfl, rfl, rfl, rfl, rfl, rfl, rfl, rfl, rfl, rfl, trivial⟩ ⟨⟨_, rfl, rfl, rfl, fun _ _ => rfl⟩, ⟨_, rfl, rfl⟩, ⟨_, rfl, rfl⟩, ⟨_, rfl, rfl, rfl, Nat.le_refl _, fun _ _ => rfl⟩, ⟨_, rfl, rfl, rfl, Nat.le_refl _, fun _ _ => rfl⟩, ⟨_, rfl, rfl⟩, ⟨_, rfl, rfl, rfl⟩, trivial⟩, fun _ => Ent.ren [0, 1, 2, 3, 4, 5, 14] (by decide) rfl (hC0 _ rfl) (by rw [hC]; decide) rfl ⟨rfl, rfl, rfl, rfl, rfl, rfl, rfl, rfl, rfl, rfl, trivial⟩ ⟨⟨_, rfl, rfl, rfl, fun _ _ => rfl⟩, ⟨_, rfl, rfl⟩, ⟨_, rfl, rfl⟩, ⟨_, rfl, rfl, rfl, Nat.le_refl _, fun _ _ => rfl⟩, ⟨_, rfl, rfl, rfl, Nat.le_refl _, fun _ _ => rfl⟩, ⟨_, rfl, rfl⟩, ⟨_, rfl, rfl, rfl⟩, trivial⟩⟩
  · (refine Tri.cut 2 Try.mixed Try.T_ok ?_; ((conv => arg 5; whnf); repeat ((first | (with_reducible refine wT ?_) | (with_reducible refine wF ?_) | (with_reducible refine wO (by kernel_rfl) ?_)); refine wGo ?_; (conv => arg 5; whnf))))
    (refine wP _ _ (call_op rfl (entersB_of Try.func18 (by kernel_rfl)) rfl (rcAdd_spec R x.p x.c (by rw [hzl.1, hzl.2]) (by omega) rfl rfl)) ?_; ((conv => arg 5; whnf); repeat ((first | (with_reducible refine wT ?_) | (with_reducible refine wF ?_) | (with_reducible refine wO (by kernel_rfl) ?_)); refine wGo ?_; (conv => arg 5; whnf))))
    (refine wP _ _ (call_op rfl (entersB_of Try.func11 (by kernel_rfl)) rfl (lawCoin_spec x.c _ _)) ?_; ((conv => arg 5; whnf); repeat ((first | (with_reducible refine wT ?_) | (with_reducible refine wF ?_) | (with_reducible refine wO (by kernel_rfl) ?_)); refine wGo ?_; (conv => arg 5; whnf))))
    (refine wP _ _ (call_op rfl (entersB_of Try.func10 (by kernel_rfl)) rfl (uadd_spec S x.p x.c (by omega) rfl rfl)) ?_; ((conv => arg 5; whnf); repeat ((first | (with_reducible refine wT ?_) | (with_reducible refine wF ?_) | (with_reducible refine wO (by kernel_rfl) ?_)); refine wGo ?_; (conv => arg 5; whnf))))
    refine wC (fun h => absurd h (by rw [hz.okB]; simp)) (fun _ => ?_)
    (refine wGo ?_; ((conv => arg 5; whnf); repeat ((first | (with_reducible refine wT ?_) | (with_reducible refine wF ?_) | (with_reducible refine wO (by kernel_rfl) ?_)); refine wGo ?_; (conv => arg 5; whnf))))
    have hlast := histAdd_last hH x.p x.c
    rw [hR] at hlast
    have hlen1 := S.add_len x.p x.c
    have hRle := R.add_le x.p x.c
    have hRadd : (R.add x.p x.c).P.length = (R.add x.p x.c).C.length := (R.add_len x.p x.c (by rw [hzl.1, hzl.2])).1
    refine wD <| cutG ?_
    (refine Tri.cut 1 Try.mixed Try.T_ok ?_; ((conv => arg 5; whnf); repeat ((first | (with_reducible refine wT ?_) | (with_reducible refine wF ?_) | (with_reducible refine wO (by kernel_rfl) ?_)); refine wGo ?_; (conv => arg 5; whnf))))
    refine wD <| cutG <| Tri.cond rfl (fun h5 => ?_) (fun h5 => ?_)
    · have h5 : R.okB x.p x.c = true := h5
      have h5S : S.okB x.p x.c = true := by rw [← hz.okB]; exact h5
      have hh : histAdd S hist x.p x.c = hist ++ [R.add x.p x.c] := by
        unfold histAdd RC.add
        rw [if_pos h5S, if_pos h5, hR]
      have hlh : hist.length + 1 = (histAdd S hist x.p x.c).length := by rw [hh]; simp
      have hmap : (hist.map rcP).take hist.length ++ [rcP (R.add x.p x.c)] = (histAdd S hist x.p x.c).map rcP := by rw [hh, List.take_of_length_le (by simp)]; simp
      have hok : Play.ok l.length ⟨i + 1, S.add x.p x.c, histAdd S hist x.p x.c, ms⟩ := ⟨h3', hH.add _ _, by dsimp only; omega, by dsimp only; omega, hmle, by dsimp only; rw [hh]; exact hle_snoc hhle (by omega)⟩
      have q1 : hist.length + 1 ≤ maxLen := by simp only [maxLen]; omega
      have q2 : (hist.length + 1) * 8 ≤ 140737488355328 := by omega
      refine Tri.of Try.mixed Try.T_ok ?_
      (refine wBegin ?_; ((conv => arg 5; whnf); repeat ((first | (with_reducible refine wT ?_) | (with_reducible refine wF ?_) | (with_reducible refine wO (by kernel_rfl) ?_)); refine wGo ?_; (conv => arg 5; whnf))))
      (refine wP _ _ (call_op rfl (entersB_of Try.func17 (by kernel_rfl)) rfl (rcCopy_spec (R.add x.p x.c) (by omega) (by omega) rfl rfl)) ?_; ((conv => arg 5; whnf); repeat ((first | (with_reducible refine wT ?_) | (with_reducible refine wF ?_) | (with_reducible refine wO (by kernel_rfl) ?_)); refine wGo ?_; (conv => arg 5; whnf))))
      (refine wP _ _ (listNew_op Try.T_ok rfl rfl rfl rfl rfl rfl rfl rfl) ?_; ((conv => arg 5; whnf); repeat ((first | (with_reducible refine wT ?_) | (with_reducible refine wF ?_) | (with_reducible refine wO (by kernel_rfl) ?_)); refine wGo ?_; (conv => arg 5; whnf))))
      (refine wP _ _ (listAppend_op Try.T_ok rfl rfl rfl rfl rfl rfl rfl rfl (by simp) rfl rfl rfl q1 q2) ?_; ((conv => arg 5; whnf); repeat ((first | (with_reducible refine wT ?_) | (with_reducible refine wF ?_) | (with_reducible refine wO (by kernel_rfl) ?_)); refine wGo ?_; (conv => arg 5; whnf))))
      refine wD <| blockN <| .inl ⟨rfl, ⟨_, hok, rfl⟩, ?_⟩
      dsimp only
      rw [hlast]
      exact Ent.ren [0, 1, 2, 3, 4, 28] (by decide) rfl (hC0 _ rfl) (by rw [hC]; decide) rfl ⟨rfl, rfl, rfl, rfl, rfl, rfl, congrArg (fun n => some (XV.sv (.slc 28 1 0 n))) hlh, rfl, trivial⟩ ⟨⟨_, rfl, rfl, rfl, fun _ _ => rfl⟩, ⟨_, rfl, rfl⟩, ⟨_, rfl, rfl⟩, ⟨_, rfl, rfl, rfl, Nat.le_refl _, fun _ _ => rfl⟩, ⟨_, rfl, rfl, rfl, Nat.le_refl _, fun _ _ => rfl⟩, ⟨_, rfl, congrArg (ListP 26) hmap⟩, trivial⟩
    · have h5 : R.okB x.p x.c = false := h5
      have h5S : S.okB x.p x.c = false := by rw [← hz.okB]; exact h5
      have hh : histAdd S hist x.p x.c = hist := by
        unfold histAdd
        rw [if_neg (by rw [h5S]; simp)]
      have hlh : hist.length = (histAdd S hist x.p x.c).length := by rw [hh]
      have hmap : hist.map rcP = (histAdd S hist x.p x.c).map rcP := by rw [hh]
      have hok : Play.ok l.length ⟨i + 1, S.add x.p x.c, histAdd S hist x.p x.c, ms⟩ := ⟨h3', hH.add _ _, by dsimp only; omega, by dsimp only; omega, hmle, by dsimp only; rw [hh]; exact hhle⟩
      refine Tri.skip <| blockN <| .inl ⟨rfl, ⟨_, hok, rfl⟩, ?_⟩
      dsimp only
      rw [hlast]
      exact Ent.ren [0, 1, 2, 3, 4, 5] (by decide) rfl (hC0 _ rfl) (by rw [hC]; decide) rfl ⟨rfl, rfl, rfl, rfl, rfl, rfl, congrArg (fun n => some (XV.sv (.slc 5 1 0 n))) hlh, rfl, trivial⟩ ⟨⟨_, rfl, rfl, rfl, fun _ _ => rfl⟩, ⟨_, rfl, rfl⟩, ⟨_, rfl, rfl⟩, ⟨_, rfl, rfl, rfl, Nat.le_refl _, fun _ _ => rfl⟩, ⟨_, rfl, rfl, rfl, Nat.le_refl _, fun _ _ => rfl⟩, ⟨_, rfl, congrArg (ListP 26) hmap⟩, trivial⟩
  · refine Tri.seq_cond (swSt l i S hist R ms x) (swSt l i S hist R ms x) ?_ ?_ ?_
    · refine Tri.of Try.mixed Try.T_ok ?_
      (refine wBegin ?_; ((conv => arg 5; whnf); repeat ((first | (with_reducible refine wT ?_) | (with_reducible refine wF ?_) | (with_reducible refine wO (by kernel_rfl) ?_)); refine wGo ?_; (conv => arg 5; whnf))))
      exact wD ⟨rfl, _, rfl, fun _ => Ent.ren [0, 1, 2, 3, 4, 5, 6] (by decide) rfl (hC0 _ rfl) (by rw [hC]; decide) rfl ⟨rfl, rfl, rfl, rfl, rfl, rfl, rfl, rfl, rfl, rfl, trivial⟩ ⟨⟨_, rfl, rfl, rfl, fun _ _ => rfl⟩, ⟨_, rfl, rfl⟩, ⟨_, rfl, rfl⟩, ⟨_, rfl, rfl, rfl, Nat.le_refl _, fun _ _ => rfl⟩, ⟨_, rfl, rfl, rfl, Nat.le_refl _, fun _ _ => rfl⟩, ⟨_, rfl, rfl⟩, ⟨_, rfl, rfl, rfl⟩, trivial⟩, fun _ => Ent.ren [0, 1, 2, 3, 4, 5, 6] (by decide) rfl (hC0 _ rfl) (by rw [hC]; decide) rfl ⟨rfl, rfl, rfl, rfl, rfl, rfl, rfl, rfl, rfl, rfl, trivial⟩ ⟨⟨_, rfl, rfl, rfl, fun _ _ => rfl⟩, ⟨_, rfl, rfl⟩, ⟨_, rfl, rfl⟩, ⟨_, rfl, rfl, rfl, Nat.le_refl _, fun _ _ => rfl⟩, ⟨_, rfl, rfl, rfl, Nat.le_refl _, fun _ _ => rfl⟩, ⟨_, rfl, rfl⟩, ⟨_, rfl, rfl, rfl⟩, trivial⟩⟩
    · (refine Tri.cut 2 Try.mixed Try.T_ok ?_; ((conv => arg 5; whnf); repeat ((first | (with_reducible refine wT ?_) | (with_reducible refine wF ?_) | (with_reducible refine wO (by kernel_rfl) ?_)); refine wGo ?_; (conv => arg 5; whnf))))
      (refine wP _ _ (call_op rfl (entersB_of Try.func19 (by kernel_rfl)) rfl (rcSpend_spec R x.p (by rw [hzl.1, hzl.2]) (by omega) rfl rfl)) ?_; ((conv => arg 5; whnf); repeat ((first | (with_reducible refine wT ?_) | (with_reducible refine wF ?_) | (with_reducible refine wO (by kernel_rfl) ?_)); refine wGo ?_; (conv => arg 5; whnf))))
      (refine wP _ _ (call_op rfl (entersB_of Try.func12 (by kernel_rfl)) rfl (spend_spec S x.p (by omega) rfl rfl)) ?_; ((conv => arg 5; whnf); repeat ((first | (with_reducible refine wT ?_) | (with_reducible refine wF ?_) | (with_reducible refine wO (by kernel_rfl) ?_)); refine wGo ?_; (conv => arg 5; whnf))))
      have hlast := histSpend_last hH x.p
      rw [hR] at hlast
      have hlen1 : (S.spend x.p).steps.length ≤ S.steps.length + 1 := by
        unfold USet.spend
        split
        · simp [USet.spend1]
        · omega
      have hRle := R.spend_le x.p
      have hRsp : (R.spend x.p).P.length = (R.spend x.p).C.length := by
        unfold RC.spend
        split
        · simp only [RC.spend1, List.length_append, List.length_take, List.length_drop]
          rw [hzl.1, hzl.2]
        · rw [hzl.1, hzl.2]
      refine wD <| cutG ?_
      (refine Tri.cut 1 Try.mixed Try.T_ok ?_; ((conv => arg 5; whnf); repeat ((first | (with_reducible refine wT ?_) | (with_reducible refine wF ?_) | (with_reducible refine wO (by kernel_rfl) ?_)); refine wGo ?_; (conv => arg 5; whnf))))
      refine wC (fun h => absurd h (by rw [hz.isAt]; simp)) (fun _ => ?_)
      (refine wGo ?_; ((conv => arg 5; whnf); repeat ((first | (with_reducible refine wT ?_) | (with_reducible refine wF ?_) | (with_reducible refine wO (by kernel_rfl) ?_)); refine wGo ?_; (conv => arg 5; whnf))))
      refine wC (fun h5 => ?_) (fun h5 => ?_)
      · (refine wGo ?_; ((conv => arg 5; whnf); repeat ((first | (with_reducible refine wT ?_) | (with_reducible refine wF ?_) | (with_reducible refine wO (by kernel_rfl) ?_)); refine wGo ?_; (conv => arg 5; whnf))))
        have h5 : R.isAt x.p = true := h5
        have h5S : S.has x.p = true := by rw [← hz.isAt]; exact h5
        have hh : histSpend S hist x.p = hist ++ [R.spend x.p] := by
          unfold histSpend RC.spend
          rw [if_pos h5S, if_pos h5, hR]
        have hlh : hist.length + 1 = (histSpend S hist x.p).length := by rw [hh]; simp
        have hmap : (hist.map rcP).take hist.length ++ [rcP (R.spend x.p)] = (histSpend S hist x.p).map rcP := by rw [hh, List.take_of_length_le (by simp)]; simp
        have hok : Play.ok l.length ⟨i + 1, S.spend x.p, histSpend S hist x.p, ms⟩ := ⟨h3', hH.spend _, by dsimp only; omega, by dsimp only; omega, hmle, by dsimp only; rw [hh]; exact hle_snoc hhle (by omega)⟩
        have q1 : hist.length + 1 ≤ maxLen := by simp only [maxLen]; omega
        have q2 : (hist.length + 1) * 8 ≤ 140737488355328 := by omega
        (refine wP _ _ (call_op rfl (entersB_of Try.func11 (by kernel_rfl)) rfl (lawCoin_spec (R.get x.p) _ _)) ?_; ((conv => arg 5; whnf); repeat ((first | (with_reducible refine wT ?_) | (with_reducible refine wF ?_) | (with_reducible refine wO (by kernel_rfl) ?_)); refine wGo ?_; (conv => arg 5; whnf))))
        (refine wP _ _ (neq_op coinE rfl (S.get x.p) (R.get x.p) rfl rfl) ?_; ((conv => arg 5; whnf); repeat ((first | (with_reducible refine wT ?_) | (with_reducible refine wF ?_) | (with_reducible refine wO (by kernel_rfl) ?_)); refine wGo ?_; (conv => arg 5; whnf))))
        refine wC (fun h => absurd h (by rw [hz.get]; simp)) (fun _ => ?_)
        (refine wGo ?_; ((conv => arg 5; whnf); repeat ((first | (with_reducible refine wT ?_) | (with_reducible refine wF ?_) | (with_reducible refine wO (by kernel_rfl) ?_)); refine wGo ?_; (conv => arg 5; whnf))))
        refine wD <| cutG ?_
        (refine Tri.cut 1 Try.mixed Try.T_ok ?_; ((conv => arg 5; whnf); repeat ((first | (with_reducible refine wT ?_) | (with_reducible refine wF ?_) | (with_reducible refine wO (by kernel_rfl) ?_)); refine wGo ?_; (conv => arg 5; whnf))))
        refine wD <| cutG <| Tri.cond rfl (fun _ => ?_) (fun h6 => absurd h6 (by rw [h5]; simp))
        refine Tri.of Try.mixed Try.T_ok ?_
        (refine wBegin ?_; ((conv => arg 5; whnf); repeat ((first | (with_reducible refine wT ?_) | (with_reducible refine wF ?_) | (with_reducible refine wO (by kernel_rfl) ?_)); refine wGo ?_; (conv => arg 5; whnf))))
        (refine wP _ _ (call_op rfl (entersB_of Try.func17 (by kernel_rfl)) rfl (rcCopy_spec (R.spend x.p) (by omega) (by omega) rfl rfl)) ?_; ((conv => arg 5; whnf); repeat ((first | (with_reducible refine wT ?_) | (with_reducible refine wF ?_) | (with_reducible refine wO (by kernel_rfl) ?_)); refine wGo ?_; (conv => arg 5; whnf))))
        (refine wP _ _ (listNew_op Try.T_ok rfl rfl rfl rfl rfl rfl rfl rfl) ?_; ((conv => arg 5; whnf); repeat ((first | (with_reducible refine wT ?_) | (with_reducible refine wF ?_) | (with_reducible refine wO (by kernel_rfl) ?_)); refine wGo ?_; (conv => arg 5; whnf))))
        (refine wP _ _ (listAppend_op Try.T_ok rfl rfl rfl rfl rfl rfl rfl rfl (by simp) rfl rfl rfl q1 q2) ?_; ((conv => arg 5; whnf); repeat ((first | (with_reducible refine wT ?_) | (with_reducible refine wF ?_) | (with_reducible refine wO (by kernel_rfl) ?_)); refine wGo ?_; (conv => arg 5; whnf))))
        refine wD <| blockN <| .inl ⟨rfl, ⟨_, hok, rfl⟩, ?_⟩
        dsimp only
        rw [hlast]
        exact Ent.ren [0, 1, 2, 3, 4, 44] (by decide) rfl (hC0 _ rfl) (by rw [hC]; decide) rfl ⟨rfl, rfl, rfl, rfl, rfl, rfl, congrArg (fun n => some (XV.sv (.slc 44 1 0 n))) hlh, rfl, trivial⟩ ⟨⟨_, rfl, rfl, rfl, fun _ _ => rfl⟩, ⟨_, rfl, rfl⟩, ⟨_, rfl, rfl⟩, ⟨_, rfl, rfl, rfl, Nat.le_refl _, fun _ _ => rfl⟩, ⟨_, rfl, rfl, rfl, Nat.le_refl _, fun _ _ => rfl⟩, ⟨_, rfl, congrArg (ListP 26) hmap⟩, trivial⟩
      · (refine wGo ?_; ((conv => arg 5; whnf); repeat ((first | (with_reducible refine wT ?_) | (with_reducible refine wF ?_) | (with_reducible refine wO (by kernel_rfl) ?_)); refine wGo ?_; (conv => arg 5; whnf))))
        have h5 : R.isAt x.p = false := h5
        have h5S : S.has x.p = false := by rw [← hz.isAt]; exact h5
        have hh : histSpend S hist x.p = hist := by
          unfold histSpend
          rw [if_neg (by rw [h5S]; simp)]
        have hlh : hist.length = (histSpend S hist x.p).length := by rw [hh]
        have hmap : hist.map rcP = (histSpend S hist x.p).map rcP := by rw [hh]
        have hok : Play.ok l.length ⟨i + 1, S.spend x.p, histSpend S hist x.p, ms⟩ := ⟨h3', hH.spend _, by dsimp only; omega, by dsimp only; omega, hmle, by dsimp only; rw [hh]; exact hhle⟩
        refine wD <| cutG ?_
        (refine Tri.cut 1 Try.mixed Try.T_ok ?_; ((conv => arg 5; whnf); repeat ((first | (with_reducible refine wT ?_) | (with_reducible refine wF ?_) | (with_reducible refine wO (by kernel_rfl) ?_)); refine wGo ?_; (conv => arg 5; whnf))))
        refine wD <| cutG <| Tri.cond rfl (fun h6 => absurd h6 (by rw [h5]; simp)) (fun _ => ?_)
        refine Tri.skip <| blockN <| .inl ⟨rfl, ⟨_, hok, rfl⟩, ?_⟩
        dsimp only
        rw [hlast]
        exact Ent.ren [0, 1, 2, 3, 4, 5] (by decide) rfl (hC0 _ rfl) (by rw [hC]; decide) rfl ⟨rfl, rfl, rfl, rfl, rfl, rfl, congrArg (fun n => some (XV.sv (.slc 5 1 0 n))) hlh, rfl, trivial⟩ ⟨⟨_, rfl, rfl, rfl, fun _ _ => rfl⟩, ⟨_, rfl, rfl⟩, ⟨_, rfl, rfl⟩, ⟨_, rfl, rfl, rfl, Nat.le_refl _, fun _ _ => rfl⟩, ⟨_, rfl, rfl, rfl, Nat.le_refl _, fun _ _ => rfl⟩, ⟨_, rfl, congrArg (ListP 26) hmap⟩, trivial⟩
    · refine Tri.seq_cond (swSt l i S hist R ms x) (swSt l i S hist R ms x) ?_ ?_ ?_
      · refine Tri.of Try.mixed Try.T_ok ?_
        (refine wBegin ?_; ((conv => arg 5; whnf); repeat ((first | (with_reducible refine wT ?_) | (with_reducible refine wF ?_) | (with_reducible refine wO (by kernel_rfl) ?_)); refine wGo ?_; (conv => arg 5; whnf))))
        exact wD ⟨rfl, _, rfl, fun _ => Ent.ren [0, 1, 2, 3, 4, 5, 6] (by decide) rfl (hC0 _ rfl) (by rw [hC]; decide) rfl ⟨rfl, rfl, rfl, rfl, rfl, rfl, rfl, rfl, rfl, rfl, trivial⟩ ⟨⟨_, rfl, rfl, rfl, fun _ _ => rfl⟩, ⟨_, rfl, rfl⟩, ⟨_, rfl, rfl⟩, ⟨_, rfl, rfl, rfl, Nat.le_refl _, fun _ _ => rfl⟩, ⟨_, rfl, rfl, rfl, Nat.le_refl _, fun _ _ => rfl⟩, ⟨_, rfl, rfl⟩, ⟨_, rfl, rfl, rfl⟩, trivial⟩, fun _ => Ent.ren [0, 1, 2, 3, 4, 5, 6] (by decide) rfl (hC0 _ rfl) (by rw [hC]; decide) rfl ⟨rfl, rfl, rfl, rfl, rfl, rfl, rfl, rfl, rfl, rfl, trivial⟩ ⟨⟨_, rfl, rfl, rfl, fun _ _ => rfl⟩, ⟨_, rfl, rfl⟩, ⟨_, rfl, rfl⟩, ⟨_, rfl, rfl, rfl, Nat.le_refl _, fun _ _ => rfl⟩, ⟨_, rfl, rfl, rfl, Nat.le_refl _, fun _ _ => rfl⟩, ⟨_, rfl, rfl⟩, ⟨_, rfl, rfl, rfl⟩, trivial⟩⟩
      · have hmsl : ms.length + 1 = (ms ++ [S.steps.length]).length := by simp
        have hA : ms.length + 1 ≤ maxLen := by simp only [maxLen]; omega
        have hB : (ms.length + 1) * 8 ≤ 140737488355328 := by omega
        have hw1 : IntKind.i64.wrap ((hist.length : Int) - 1) = (S.steps.length : Int) := by rw [wrap_i64 (by omega) (by omega)]; omega
        have hok : Play.ok l.length ⟨i + 1, S, hist, ms ++ [S.steps.length]⟩ := by
          refine ⟨h3', hH, by dsimp only; omega, by dsimp only; rw [← hmsl]; omega, fun k => ?_, hhle⟩
          dsimp only
          rcases Nat.lt_trichotomy k ms.length with hk | hk | hk
          · have := hmle k
            simp only [List.getD_eq_getElem?_getD, List.getElem?_append_left hk] at this ⊢
            exact this
          · subst hk
            simp [List.getD_eq_getElem?_getD]; omega
          · rw [List.getD_eq_getElem?_getD, List.getElem?_eq_none (by simp; omega)]
            simp
        refine Tri.of Try.mixed Try.T_ok ?_
        (refine wBegin ?_; ((conv => arg 5; whnf); repeat ((first | (with_reducible refine wT ?_) | (with_reducible refine wF ?_) | (with_reducible refine wO (by kernel_rfl) ?_)); refine wGo ?_; (conv => arg 5; whnf))))
        (refine wP _ _ (call_op rfl (entersB_of Try.func9 (by kernel_rfl)) rfl (mark_spec S rfl rfl)) ?_; ((conv => arg 5; whnf); repeat ((first | (with_reducible refine wT ?_) | (with_reducible refine wF ?_) | (with_reducible refine wO (by kernel_rfl) ?_)); refine wGo ?_; (conv => arg 5; whnf))))
        (refine wP _ _ (append1_op Try.T_ok rfl rfl rfl rfl [.int .i64 (S.steps.length : Int)] rfl rfl rfl (Nat.le_refl _) rfl rfl rfl rfl rfl hA hB) ?_; ((conv => arg 5; whnf); repeat ((first | (with_reducible refine wT ?_) | (with_reducible refine wF ?_) | (with_reducible refine wO (by kernel_rfl) ?_)); refine wGo ?_; (conv => arg 5; whnf))))
        (refine wP _ _ (append1_op Try.T_ok rfl rfl rfl rfl [.int .i64 (IntKind.i64.wrap ((hist.length : Int) - 1))] rfl rfl rfl (Nat.le_refl _) rfl rfl rfl rfl rfl hA hB) ?_; ((conv => arg 5; whnf); repeat ((first | (with_reducible refine wT ?_) | (with_reducible refine wF ?_) | (with_reducible refine wO (by kernel_rfl) ?_)); refine wGo ?_; (conv => arg 5; whnf))))
        refine wD <| blockN <| .inl ⟨rfl, ⟨_, hok, rfl⟩, ?_⟩
        dsimp only
        rw [hR]
        exact Ent.ren [0, 1, 2, 11, 17, 5] (by decide) rfl (hC0 _ rfl) (by rw [hC]; decide) rfl ⟨rfl, rfl, rfl, rfl, congrArg (fun n => some (XV.sv (.slc 11 1 0 n))) hmsl, congrArg (fun n => some (XV.sv (.slc 17 1 0 n))) hmsl, rfl, rfl, trivial⟩ ⟨⟨_, rfl, rfl, rfl, fun _ _ => rfl⟩, ⟨_, rfl, rfl⟩, ⟨_, rfl, rfl⟩, ⟨_, rfl, rfl, rfl, by simp, fun j hj => marks_snoc ms _ j (by simpa using hj)⟩, ⟨_, rfl, rfl, rfl, by simp, fun j hj => by rw [hw1]; exact marks_snoc ms _ j (by simpa using hj)⟩, ⟨_, rfl, rfl⟩, trivial⟩
      · refine Tri.seq_cond (swSt l i S hist R ms x) (swSt l i S hist R ms x) ?_ ?_ ?_
        · refine Tri.of Try.mixed Try.T_ok ?_
          (refine wBegin ?_; ((conv => arg 5; whnf); repeat ((first | (with_reducible refine wT ?_) | (with_reducible refine wF ?_) | (with_reducible refine wO (by kernel_rfl) ?_)); refine wGo ?_; (conv => arg 5; whnf))))
          exact wD ⟨rfl, _, rfl, fun _ => Ent.ren [0, 1, 2, 3, 4, 5, 6] (by decide) rfl (hC0 _ rfl) (by rw [hC]; decide) rfl ⟨rfl, rfl, rfl, rfl, rfl, rfl, rfl, rfl, rfl, rfl, trivial⟩ ⟨⟨_, rfl, rfl, rfl, fun _ _ => rfl⟩, ⟨_, rfl, rfl⟩, ⟨_, rfl, rfl⟩, ⟨_, rfl, rfl, rfl, Nat.le_refl _, fun _ _ => rfl⟩, ⟨_, rfl, rfl, rfl, Nat.le_refl _, fun _ _ => rfl⟩, ⟨_, rfl, rfl⟩, ⟨_, rfl, rfl, rfl⟩, trivial⟩, fun _ => Ent.ren [0, 1, 2, 3, 4, 5, 6] (by decide) rfl (hC0 _ rfl) (by rw [hC]; decide) rfl ⟨rfl, rfl, rfl, rfl, rfl, rfl, rfl, rfl, rfl, rfl, trivial⟩ ⟨⟨_, rfl, rfl, rfl, fun _ _ => rfl⟩, ⟨_, rfl, rfl⟩, ⟨_, rfl, rfl⟩, ⟨_, rfl, rfl, rfl, Nat.le_refl _, fun _ _ => rfl⟩, ⟨_, rfl, rfl, rfl, Nat.le_refl _, fun _ _ => rfl⟩, ⟨_, rfl, rfl⟩, ⟨_, rfl, rfl, rfl⟩, trivial⟩⟩
        · (refine Tri.cut 1 Try.mixed Try.T_ok ?_; ((conv => arg 5; whnf); repeat ((first | (with_reducible refine wT ?_) | (with_reducible refine wF ?_) | (with_reducible refine wO (by kernel_rfl) ?_)); refine wGo ?_; (conv => arg 5; whnf))))
          refine wC (fun h5 => ?_) (fun h5 => ?_)
          · (refine wGo ?_; ((conv => arg 5; whnf); repeat ((first | (with_reducible refine wT ?_) | (with_reducible refine wF ?_) | (with_reducible refine wO (by kernel_rfl) ?_)); refine wGo ?_; (conv => arg 5; whnf))))
            have hok : Play.ok l.length ⟨i + 1, S, hist, ms⟩ := ⟨h3', hH, by dsimp only; omega, by dsimp only; omega, hmle, hhle⟩
            refine wD <| cutE <| blockY rfl <| .inr ⟨by simp, blockX <| cutG <| Tri.of Try.mixed Try.T_ok ?_⟩
            (refine wBegin ?_; ((conv => arg 5; whnf); repeat ((first | (with_reducible refine wT ?_) | (with_reducible refine wF ?_) | (with_reducible refine wO (by kernel_rfl) ?_)); refine wGo ?_; (conv => arg 5; whnf))))
            refine wD <| loopN ⟨⟨_, hok⟩, by dsimp only; omega, ?_⟩
            dsimp only
            rw [hR]
            exact Ent.ren [0, 1, 2, 3, 4, 5] (by decide) rfl (hC0 _ rfl) (by rw [hC]; decide) rfl ⟨rfl, rfl, rfl, rfl, rfl, rfl, rfl, congrArg (fun n : Int => some (XV.int .i64 n)) hwi, trivial⟩ ⟨⟨_, rfl, rfl, rfl, fun _ _ => rfl⟩, ⟨_, rfl, rfl⟩, ⟨_, rfl, rfl⟩, ⟨_, rfl, rfl, rfl, Nat.le_refl _, fun _ _ => rfl⟩, ⟨_, rfl, rfl, rfl, Nat.le_refl _, fun _ _ => rfl⟩, ⟨_, rfl, rfl⟩, trivial⟩
          · (refine wGo ?_; ((conv => arg 5; whnf); repeat ((first | (with_reducible refine wT ?_) | (with_reducible refine wF ?_) | (with_reducible refine wO (by kernel_rfl) ?_)); refine wGo ?_; (conv => arg 5; whnf))))
            refine wD <| cutG ?_
            have hms0 : 0 < ms.length := by
              have : ¬ ((ms.length : Int) = 0) := by simpa using h5
              omega
            (refine Tri.cut 1 Try.mixed Try.T_ok ?_; ((conv => arg 5; whnf); repeat ((first | (with_reducible refine wT ?_) | (with_reducible refine wF ?_) | (with_reducible refine wO (by kernel_rfl) ?_)); refine wGo ?_; (conv => arg 5; whnf))))
            refine wN (by omega) ?_
            (refine wGo ?_; ((conv => arg 5; whnf); repeat ((first | (with_reducible refine wT ?_) | (with_reducible refine wF ?_) | (with_reducible refine wO (by kernel_rfl) ?_)); refine wGo ?_; (conv => arg 5; whnf))))
            refine wN (by omega) ?_
            (refine wGo ?_; ((conv => arg 5; whnf); repeat ((first | (with_reducible refine wT ?_) | (with_reducible refine wF ?_) | (with_reducible refine wO (by kernel_rfl) ?_)); refine wGo ?_; (conv => arg 5; whnf))))
            obtain ⟨K, hK, hKn⟩ : ∃ K : Nat, (IntKind.i64.wrap (x.num.toInt.tmod (ms.length : Int) + (ms.length : Int))).tmod (ms.length : Int) = (K : Int) ∧ K < ms.length := by
              have h6 : (x.num.toInt.tmod (ms.length : Int)).natAbs < ms.length := by
                rw [Int.natAbs_tmod]
                exact Nat.mod_lt _ (by omega)
              rw [wrap_i64 (by omega) (by omega), Int.tmod_eq_emod_of_nonneg (by omega)]
              have h7 := Int.emod_nonneg (x.num.toInt.tmod (ms.length : Int) + (ms.length : Int)) (b := (ms.length : Int)) (by omega)
              have h8 := Int.emod_lt_of_pos (x.num.toInt.tmod (ms.length : Int) + (ms.length : Int)) (b := (ms.length : Int)) (by omega)
              exact ⟨((x.num.toInt.tmod (ms.length : Int) + (ms.length : Int)) % (ms.length : Int)).toNat, by omega, by omega⟩
            refine wD <| cutG ?_
            rw [hK]
            have hw1 : IntKind.i64.wrap ((hist.length : Int) - 1) = (S.steps.length : Int) := by rw [wrap_i64 (by omega) (by omega)]; omega
            have hN := hmle (0 + ((K : Nat) : Int).toNat)
            have hb : decide (ms.getD (0 + ((K : Nat) : Int).toNat) 0 ≤ S.steps.length) = decide (((ms.getD (0 + ((K : Nat) : Int).toNat) 0 : Nat) : Int) ≤ IntKind.i64.wrap ((hist.length : Int) - 1)) := by
              rw [hw1]
              congr 1
              simp only [Int.ofNat_le]
            (refine Tri.cut 1 Try.mixed Try.T_ok ?_; ((conv => arg 5; whnf); repeat ((first | (with_reducible refine wT ?_) | (with_reducible refine wF ?_) | (with_reducible refine wO (by kernel_rfl) ?_)); refine wGo ?_; (conv => arg 5; whnf))))
            refine wN ⟨by omega, by omega⟩ ?_
            (refine wGo ?_; ((conv => arg 5; whnf); repeat ((first | (with_reducible refine wT ?_) | (with_reducible refine wF ?_) | (with_reducible refine wO (by kernel_rfl) ?_)); refine wGo ?_; (conv => arg 5; whnf))))
            refine wN (by omega) ?_
            (refine wGo ?_; ((conv => arg 5; whnf); repeat ((first | (with_reducible refine wT ?_) | (with_reducible refine wF ?_) | (with_reducible refine wO (by kernel_rfl) ?_)); refine wGo ?_; (conv => arg 5; whnf))))
            refine wD <| cutG ?_
            (refine Tri.cut 1 Try.mixed Try.T_ok ?_; ((conv => arg 5; whnf); repeat ((first | (with_reducible refine wT ?_) | (with_reducible refine wF ?_) | (with_reducible refine wO (by kernel_rfl) ?_)); refine wGo ?_; (conv => arg 5; whnf))))
            refine wN ⟨by omega, by omega⟩ ?_
            (refine wGo ?_; ((conv => arg 5; whnf); repeat ((first | (with_reducible refine wT ?_) | (with_reducible refine wF ?_) | (with_reducible refine wO (by kernel_rfl) ?_)); refine wGo ?_; (conv => arg 5; whnf))))
            refine wN (by omega) ?_
            (refine wGo ?_; ((conv => arg 5; whnf); repeat ((first | (with_reducible refine wT ?_) | (with_reducible refine wF ?_) | (with_reducible refine wO (by kernel_rfl) ?_)); refine wGo ?_; (conv => arg 5; whnf))))
            (refine wP _ _ (call_op rfl (entersB_of Try.func15 (by kernel_rfl)) rfl (back_spec S (ms.getD (0 + ((K : Nat) : Int).toNat) 0) (by omega) rfl rfl)) ?_; ((conv => arg 5; whnf); repeat ((first | (with_reducible refine wT ?_) | (with_reducible refine wF ?_) | (with_reducible refine wO (by kernel_rfl) ?_)); refine wGo ?_; (conv => arg 5; whnf))))
            refine wC (fun h => absurd h (by rw [hb]; simp)) (fun _ => ?_)
            (refine wGo ?_; ((conv => arg 5; whnf); repeat ((first | (with_reducible refine wT ?_) | (with_reducible refine wF ?_) | (with_reducible refine wO (by kernel_rfl) ?_)); refine wGo ?_; (conv => arg 5; whnf))))
            refine wD <| cutG ?_
            (refine Tri.cut 1 Try.mixed Try.T_ok ?_; ((conv => arg 5; whnf); repeat ((first | (with_reducible refine wT ?_) | (with_reducible refine wF ?_) | (with_reducible refine wO (by kernel_rfl) ?_)); refine wGo ?_; (conv => arg 5; whnf))))
            refine wD <| cutG <| Tri.cond rfl (fun h6 => ?_) (fun h6 => ?_)
            · rw [← hb] at h6
              have h6' : ms.getD (0 + ((K : Nat) : Int).toNat) 0 ≤ S.steps.length := by simpa using h6
              refine Tri.of Try.mixed Try.T_ok ?_
              (refine wBegin ?_; ((conv => arg 5; whnf); repeat ((first | (with_reducible refine wT ?_) | (with_reducible refine wF ?_) | (with_reducible refine wO (by kernel_rfl) ?_)); refine wGo ?_; (conv => arg 5; whnf))))
              refine wN ⟨by omega, by omega⟩ ?_
              (refine wGo ?_; ((conv => arg 5; whnf); repeat ((first | (with_reducible refine wT ?_) | (with_reducible refine wF ?_) | (with_reducible refine wO (by kernel_rfl) ?_)); refine wGo ?_; (conv => arg 5; whnf))))
              refine wN (by omega) ?_
              (refine wGo ?_; ((conv => arg 5; whnf); repeat ((first | (with_reducible refine wT ?_) | (with_reducible refine wF ?_) | (with_reducible refine wO (by kernel_rfl) ?_)); refine wGo ?_; (conv => arg 5; whnf))))
              have hwN : IntKind.i64.wrap (((ms.getD (0 + ((K : Nat) : Int).toNat) 0 : Nat) : Int) + 1) = ((ms.getD (0 + ((K : Nat) : Int).toNat) 0 : Nat) : Int) + 1 := wrap_i64 (by omega) (by omega)
              obtain ⟨Rn, hRn, hRg⟩ : ∃ Rn, hist[0 + ((ms.getD (0 + ((K : Nat) : Int).toNat) 0 : Nat) : Int).toNat]? = some Rn ∧ hist.getD (ms.getD (0 + ((K : Nat) : Int).toNat) 0) RC.empty = Rn := by
                have hlt : ms.getD (0 + ((K : Nat) : Int).toNat) 0 < hist.length := by omega
                refine ⟨hist[ms.getD (0 + ((K : Nat) : Int).toNat) 0], ?_, ?_⟩
                · rw [show 0 + ((ms.getD (0 + ((K : Nat) : Int).toNat) 0 : Nat) : Int).toNat = ms.getD (0 + ((K : Nat) : Int).toNat) 0 by omega]
                  exact List.getElem?_eq_getElem hlt
                · rw [List.getD_eq_getElem?_getD, List.getElem?_eq_getElem hlt]; rfl
              have hRnl : Rn.P.length ≤ ms.getD (0 + ((K : Nat) : Int).toNat) 0 := by rw [← hRg]; exact hhle _
              have hTn : Twin (S.back (ms.getD (0 + ((K : Nat) : Int).toNat) 0)) Rn := back_twin hH h6' hRg
              have hCn : Rn.C.length = Rn.P.length := by obtain ⟨zs', hz'⟩ := hTn; rw [hz'.len.1, hz'.len.2]
              refine wN ⟨by rw [hwN]; omega, by rw [hwN]; omega⟩ ?_
              (refine wGo ?_; ((conv => arg 5; whnf); repeat ((first | (with_reducible refine wT ?_) | (with_reducible refine wF ?_) | (with_reducible refine wO (by kernel_rfl) ?_)); refine wGo ?_; (conv => arg 5; whnf))))
              refine wN ⟨by omega, by omega⟩ ?_
              (refine wGo ?_; ((conv => arg 5; whnf); repeat ((first | (with_reducible refine wT ?_) | (with_reducible refine wF ?_) | (with_reducible refine wO (by kernel_rfl) ?_)); refine wGo ?_; (conv => arg 5; whnf))))
              refine wN (by omega) ?_
              (refine wGo ?_; ((conv => arg 5; whnf); repeat ((first | (with_reducible refine wT ?_) | (with_reducible refine wF ?_) | (with_reducible refine wO (by kernel_rfl) ?_)); refine wGo ?_; (conv => arg 5; whnf))))
              refine wN ⟨by omega, by rw [hwN]; omega⟩ ?_
              (refine wGo ?_; ((conv => arg 5; whnf); repeat ((first | (with_reducible refine wT ?_) | (with_reducible refine wF ?_) | (with_reducible refine wO (by kernel_rfl) ?_)); refine wGo ?_; (conv => arg 5; whnf))))
              (refine wP _ _ (listLoad_op Try.T_ok rfl rfl rfl rfl rfl rfl (by rw [List.length_map]; omega)) ?_; ((conv => arg 5; whnf); repeat ((first | (with_reducible refine wT ?_) | (with_reducible refine wF ?_) | (with_reducible refine wO (by kernel_rfl) ?_)); refine wGo ?_; (conv => arg 5; whnf))))
              (refine wP _ _ (call_op rfl (entersB_of Try.func17 (by kernel_rfl)) rfl (rcCopy_inn (Rs := hist) (R := Rn) (by omega) (by omega) rfl hRn rfl)) ?_; ((conv => arg 5; whnf); repeat ((first | (with_reducible refine wT ?_) | (with_reducible refine wF ?_) | (with_reducible refine wO (by kernel_rfl) ?_)); refine wGo ?_; (conv => arg 5; whnf))))
              have hbl := S.back_len h6'
              have hlast : (hist.take (ms.getD (0 + ((K : Nat) : Int).toNat) 0 + 1)).getD (S.back (ms.getD (0 + ((K : Nat) : Int).toNat) 0)).steps.length RC.empty = Rn := by
                rw [hbl, ← hRg]
                simp only [List.getD_eq_getElem?_getD]
                rw [List.getElem?_take_of_lt (Nat.lt_succ_self _)]
              have hle2 : ∀ k, ((hist.take (ms.getD (0 + ((K : Nat) : Int).toNat) 0 + 1)).getD k RC.empty).P.length ≤ k := by
                intro k
                have := hhle k
                simp only [List.getD_eq_getElem?_getD] at this ⊢
                by_cases hk : k < ms[0 + ((K : Nat) : Int).toNat]?.getD 0 + 1
                · rw [List.getElem?_take_of_lt hk]; exact this
                · rw [List.getElem?_eq_none (by rw [List.length_take]; omega)]
                  simp [RC.empty]
              have hok : Play.ok l.length ⟨i + 1, S.back (ms.getD (0 + ((K : Nat) : Int).toNat) 0), hist.take (ms.getD (0 + ((K : Nat) : Int).toNat) 0 + 1), ms⟩ := ⟨h3', hH.back h6', by dsimp only; omega, by dsimp only; omega, hmle, hle2⟩
              have hll : (IntKind.i64.wrap (((ms.getD (0 + ((K : Nat) : Int).toNat) 0 : Nat) : Int) + 1)).toNat = (hist.take (ms.getD (0 + ((K : Nat) : Int).toNat) 0 + 1)).length := by
                rw [hwN, List.length_take]; omega
              have hmap : (hist.map rcP).take (ms.getD (0 + ((K : Nat) : Int).toNat) 0 + 1) = (hist.take (ms.getD (0 + ((K : Nat) : Int).toNat) 0 + 1)).map rcP := by rw [List.map_take]
              refine wD <| blockN <| .inl ⟨rfl, ⟨_, hok, rfl⟩, ?_⟩
              dsimp only
              rw [hlast]
              refine Ent.trans (Ent.abs_to (c := 5) (A' := ListP 26 ((hist.map rcP).take (ms.getD (0 + ((K : Nat) : Int).toNat) 0 + 1))) rfl (fun _ _ _ _ h => ListP.take h)) ?_
              exact Ent.ren [0, 1, 55, 3, 4, 5] (by decide) rfl (hC0 _ rfl) (by rw [hC]; decide) rfl ⟨rfl, rfl, rfl, rfl, rfl, rfl, congrArg (fun n => some (XV.sv (.slc 5 1 0 n))) hll, rfl, trivial⟩ ⟨⟨_, rfl, rfl, rfl, fun _ _ => rfl⟩, ⟨_, rfl, rfl⟩, ⟨_, rfl, rfl⟩, ⟨_, rfl, rfl, rfl, Nat.le_refl _, fun _ _ => rfl⟩, ⟨_, rfl, rfl, rfl, Nat.le_refl _, fun _ _ => rfl⟩, ⟨_, rfl, congrArg (ListP 26) hmap⟩, trivial⟩
            · rw [← hb] at h6
              have h6' : ¬ ms.getD (0 + ((K : Nat) : Int).toNat) 0 ≤ S.steps.length := by simpa using h6
              have hsb : S.back (ms.getD (0 + ((K : Nat) : Int).toNat) 0) = S := by unfold USet.back; rw [if_neg h6']
              have hok : Play.ok l.length ⟨i + 1, S, hist, ms⟩ := ⟨h3', hH, by dsimp only; omega, by dsimp only; omega, hmle, hhle⟩
              refine Tri.skip <| blockN <| .inl ⟨rfl, ⟨_, hok, rfl⟩, ?_⟩
              dsimp only
              rw [hR]
              exact Ent.ren [0, 1, 2, 3, 4, 5] (by decide) rfl (hC0 _ rfl) (by rw [hC]; decide) rfl ⟨rfl, rfl, rfl, rfl, rfl, rfl, rfl, rfl, trivial⟩ ⟨⟨_, rfl, rfl, rfl, fun _ _ => rfl⟩, ⟨_, rfl, congrArg usetP hsb⟩, ⟨_, rfl, rfl⟩, ⟨_, rfl, rfl, rfl, Nat.le_refl _, fun _ _ => rfl⟩, ⟨_, rfl, rfl, rfl, Nat.le_refl _, fun _ _ => rfl⟩, ⟨_, rfl, rfl⟩, trivial⟩
        · have hok : Play.ok l.length ⟨i + 1, S, hist, ms⟩ := ⟨h3', hH, by dsimp only; omega, by dsimp only; omega, hmle, hhle⟩
          refine Tri.skip <| blockN <| .inl ⟨rfl, ⟨_, hok, rfl⟩, ?_⟩
          dsimp only
          rw [hR]
          exact Ent.ren [0, 1, 2, 3, 4, 5] (by decide) rfl (hC0 _ rfl) (by rw [hC]; decide) rfl ⟨rfl, rfl, rfl, rfl, rfl, rfl, rfl, rfl, trivial⟩ ⟨⟨_, rfl, rfl, rfl, fun _ _ => rfl⟩, ⟨_, rfl, rfl⟩, ⟨_, rfl, rfl⟩, ⟨_, rfl, rfl, rfl, Nat.le_refl _, fun _ _ => rfl⟩, ⟨_, rfl, rfl, rfl, Nat.le_refl _, fun _ _ => rfl⟩, ⟨_, rfl, rfl⟩, trivial⟩
end Go.Proofs.Ytfdmlpdhngmbiaa
namespace Go.Proofs.Ytfdmlpdhngmbiaa
open Go.Sx Go.RowKit Go.ChangeShapes Go.WideShapes Go.ChangeAt

set_option maxRecDepth 100000 in
theorem plays_calls {W : World} {v0 : Value} (l : List Deed) (h0 : RowIn W v0 22 l.length (deedsF l)) :
    Calls Try.prog 4 #[v0] W fun e W' => e = .returned (.bool true) ∧ Below W.heap.size W W' := by
  obtain ⟨L0, r0, q0⟩ := h0
  let β : Nat → Sx.Loc := fun c => match c with | 0 => L0 | _ => default
  have hc := plays_spec l (M := [(0, .ro 22 l.length (deedsF l))]) (d := 1) (fun _ _ h => h) (Nat.le_refl 1) β (fun _ => none) W [v0] (fun k h => absurd rfl h) (fun k h => by cases h) ⟨v0, [], rfl, r0 β 0 rfl, rfl⟩ (fun c hc ch hch => by
    simp only [List.mem_range] at hc
    match c, hc with
    | 0, _ =>
      simp only [Mem.get, nbeq, decide_true, cond_true, Option.some.injEq] at hch
      subst hch
      exact rowIn_holds q0 rfl (fun _ => rfl))
  refine hc.mono ?_
  rintro e W' ⟨v, β', ow', rfl, E, hv, _⟩
  simp only [XV.rel, CV.rel, SV.rel] at hv
  subst hv
  exact ⟨rfl, E.os, E.tape, E.output, E.size, fun k hk => (E.keep k hk (fun c hc => by cases hc)).1⟩

set_option maxRecDepth 100000 in
theorem plays_lifted (os : Os) (started : os.Started) (H : Type) (enc : TypeId × Value → H) :
    ReturnsInHanded {} Try.checked os 4 .any (Rows.utxoPlaysSpec.pre6 enc Try.prog Try.f4 Rows.utxoPlaysRow.domain false) (Rows.utxoPlaysSpec.post enc Try.prog Try.f4 false true false false) := by
  refine returnsInHanded_of_change (C := Try.checked) own started (by kernel_rfl) Try.func4
    (ChangeSpec.witness6 (enc := enc) (C := Try.checked) false ⟨#[], #[.slice none 0 0], []⟩ 8 (by kernel_rfl) (by kernel_rfl) (by kernel_rfl) (by kernel_rfl)) ?_
  intro W base args ds gs before hval0 hW hcnd _
  have hval : ∀ (j : Nat) t v, Try.f4.params[j]? = some t → args[j]? = some v → Value.okWide Try.prog W .any base t v := hval0
  have hW' := hW
  obtain ⟨p, q, hA0, hV, rfl, hfz, hnd⟩ := hW
  have hA : DataW.TrodAll enc Try.prog W 0 (fun _ => true) true Try.f4.params.toList args.toList ds p := hA0
  rw [Try.params4] at hA hval
  obtain ⟨v0, vs0, d0, ds0, p0, q0, hargs, rfl, rfl, h0, r0⟩ := trodAll_cons hA
  obtain ⟨rfl, rfl, rfl⟩ := trodAll_nil r0
  obtain rfl : args = #[v0] := by cases args; simp_all
  obtain ⟨rfl, rfl⟩ := trodVars_none hV
  obtain ⟨l, _, k0⟩ := open_row Try.T_ok (t := 22) (e := 42) rfl rfl rfl (f := 8) (ks := deedKinds) rfl h0 (hval 0 22 v0 rfl rfl) Deed.cells deed_dec default
  clear hA0 hval0
  refine (plays_calls l k0).mono fun e W' ⟨he, hb⟩ => ?_
  subst he
  exact ⟨_, rfl, post_true laid hW' rfl (by kernel_rfl) hb rfl rfl (fun _ _ => trodAll_cons_mk (shut_bool Try.underlying4 _) trodAll_mk0)⟩

theorem plays_over : Rows.utxoPlaysRow.holds Try.pinned (OpenSpec.ofChange Rows.utxoPlaysSpec) :=
  OpenClaim.holds_of_wide 4 Try.f4 rfl rfl rfl rfl rfl rfl rfl ⟨rfl, rfl, rfl, rfl, rfl⟩ rfl rfl rfl rfl rfl (by kernel_rfl) Try.func4 (by kernel_rfl)
    (of_decide_eq_true (by kernel_rfl)) (by unfold Func.isWrapper; first | (rw [if_pos (by decide +kernel)]; kernel_rfl) | (rw [if_neg (by decide +kernel)]; exact ⟨rfl, rfl⟩))
    (fun os started H enc _ => plays_lifted os started H enc)

theorem utxoPlays_proved : Rows.UtxoPlaysSaid := plays_over
end Go.Proofs.Ytfdmlpdhngmbiaa
