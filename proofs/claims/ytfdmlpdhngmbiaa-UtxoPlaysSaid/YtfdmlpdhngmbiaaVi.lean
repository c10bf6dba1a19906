/- The walk of UtxoSums. -/
import Derived.Test.YtfdmlpdhngmbiaaVg
import Derived.Test.YtfdmlpdhngmbiaaVh
namespace Go.Proofs.Ytfdmlpdhngmbiaa
open Go.Sx

theorem fillU_inv (l : List Deed) : ∀ i, Inv (fillU l i)
  | 0 => Inv.empty
  | i + 1 => (fillU_inv l i).add _ _
theorem fillU_coins (l : List Deed) (i : Nat) : (fillU l i).coins.length ≤ i := by
  induction i with
  | zero => exact Nat.le_refl _
  | succ i ih =>
    simp only [fillU]
    unfold USet.add
    split
    · rename_i h
      simp only [USet.add1, USet.put]
      rw [mput_none (mget_key (okB_has h))]
      simp only [List.length_append, List.length_singleton]
      omega
    · omega

/-- Contracts at a point that is there, or is not. -/
theorem get_there (S : USet) (p : Pt) (hp : S.has p = true) {M : Mem} {c0 d : Nat} (hM : M.get c0 = some (.abs (usetP S))) (hd : Nat.beq d c0 = false) : CallSpec Try.prog 22 [.one (.ptr c0 0 0 0), p.cv] M d { v := .tup [(S.get p).cv, .one (.raw (.bool true))], upd := [(c0, .abs (usetP S))], wr := [c0] } [c0] := by
  have h := get_spec S p hM hd
  rw [hp] at h
  exact h
theorem get_gone (S : USet) (p : Pt) (hp : S.has p = false) {M : Mem} {c0 d : Nat} (hM : M.get c0 = some (.abs (usetP S))) (hd : Nat.beq d c0 = false) : CallSpec Try.prog 22 [.one (.ptr c0 0 0 0), p.cv] M d { v := .tup [(S.get p).cv, .one (.raw (.bool false))], upd := [(c0, .abs (usetP S))], wr := [c0] } [c0] := by
  have h := get_spec S p hM hd
  rw [hp] at h
  exact h
theorem uadd_there (S : USet) (p : Pt) (c : Coin) (hp : S.has p = true) (hlen : S.steps.length < 1000000) {M : Mem} {c0 d : Nat} (hM : M.get c0 = some (.abs (usetP S))) (hd : Nat.beq d c0 = false) : CallSpec Try.prog 10 [.one (.ptr c0 0 0 0), p.cv, c.cv] M d { v := XV.bool false, upd := [(c0, .abs (usetP S))], wr := [c0] } [c0] := by
  have h := uadd_spec S p c hlen hM hd
  rw [okB_there c hp, add_there c hp] at h
  exact h
theorem lessPoint_yes (a b : Pt) (h : ltPt a b = true) (M : Mem) (d : Nat) : CallSpec Try.prog 23 [a.cv, b.cv] M d { v := XV.bool true } [] := by
  have h' := lessPoint_spec a b M d
  rw [h] at h'
  exact h'
theorem spend_there (S S' : USet) (p : Pt) (c : Coin) (hp : S.has p = true) (hc : S.get p = c) (hs : S.spend p = S') (hlen : S.steps.length < 1000000) {M : Mem} {c0 d : Nat} (hM : M.get c0 = some (.abs (usetP S))) (hd : Nat.beq d c0 = false) : CallSpec Try.prog 12 [.one (.ptr c0 0 0 0), p.cv] M d { v := .tup [c.cv, .one (.raw (.bool true))], upd := [(c0, .abs (usetP S'))], wr := [c0] } [c0] := by
  have h := spend_spec S p hlen hM hd
  rw [hp, hc, hs] at h
  exact h
theorem spend_gone (S : USet) (p : Pt) (hp : S.has p = false) (hs : S.spend p = S) (hlen : S.steps.length < 1000000) {M : Mem} {c0 d : Nat} (hM : M.get c0 = some (.abs (usetP S))) (hd : Nat.beq d c0 = false) : CallSpec Try.prog 12 [.one (.ptr c0 0 0 0), p.cv] M d { v := .tup [(S.get p).cv, .one (.raw (.bool false))], upd := [(c0, .abs (usetP S))], wr := [c0] } [c0] := by
  have h := spend_spec S p hlen hM hd
  rw [hp, hs] at h
  exact h

def sums1 (l : List Deed) (S : USet) (i : Nat) : St :=
  ⟨[none, none, some (XV.bool false), some (XV.sv (.ptr 1 0 0 0)), none, some (XV.sv (.slc 2 9 0 S.coins.length)), some (XV.int .i64 (IntKind.i64.wrap (S.psum i))), some (XV.int .i64 i)] ++ List.replicate 142 none,
   [(0, .ro 22 l.length (deedsF l)), (1, .abs (usetP S)), (2, .vec 36 9 S.coins.length fun i => (S.points.getD i default).cells)], 3⟩
def sums2 (l : List Deed) (S : USet) (i : Nat) : St :=
  ⟨[none, none, some (XV.bool false), some (XV.sv (.ptr 1 0 0 0)), none, some (XV.sv (.slc 2 9 0 S.coins.length)), some (XV.int .i64 (IntKind.i64.wrap (S.psum S.coins.length - S.psum i))), none, none, none, some (XV.int .i64 i)] ++ List.replicate 139 none,
   [(0, .ro 22 l.length (deedsF l)), (1, .abs (usetP (S.spent i))), (2, .vec 36 9 S.coins.length fun i => (S.points.getD i default).cells)], 3⟩

set_option maxHeartbeats 4000000 in
set_option maxRecDepth 100000 in
theorem sums_spec (l : List Deed) {M : Mem} {d : Nat} (hM : ∀ i ch, Mem.get [(0, .ro 22 l.length (deedsF l))] i = some ch → M.get i = some ch) (hd : 1 ≤ d) : CallSpec Try.prog 5 [.one (.slc 0 22 0 l.length)] M d { v := XV.bool true } (List.range 1) := by
  refine spec_reads Try.T_ok Try.func5 rfl [.one (.slc 0 22 0 l.length)] (XV.bool true) [(0, .ro 22 l.length (deedsF l))] 1 rfl rfl ?_ (fun C hC => ?_) hM hd
  · intro i ch hi
    simp only [Mem.get, nbeq] at hi
    by_cases h0 : 0 = i
    · subst h0; simp at hi; subst hi; exact ⟨by omega, rfl⟩
    · simp [h0] at hi
  (refine Tri.cut 4 Try.mixed Try.T_ok ?_; ((conv => arg 5; whnf); repeat ((first | (with_reducible refine wT ?_) | (with_reducible refine wF ?_) | (with_reducible refine wO (by kernel_rfl) ?_)); refine wGo ?_; (conv => arg 5; whnf))))
  (refine wP _ _ (call_op rfl (entersB_of Try.func7 (by kernel_rfl)) rfl (awake_spec _ _)) ?_; ((conv => arg 5; whnf); repeat ((first | (with_reducible refine wT ?_) | (with_reducible refine wF ?_) | (with_reducible refine wO (by kernel_rfl) ?_)); refine wGo ?_; (conv => arg 5; whnf))))
  refine wC (fun h => absurd h (by decide)) (fun _ => ?_)
  (refine wGo ?_; ((conv => arg 5; whnf); repeat ((first | (with_reducible refine wT ?_) | (with_reducible refine wF ?_) | (with_reducible refine wO (by kernel_rfl) ?_)); refine wGo ?_; (conv => arg 5; whnf))))
  refine wC (fun h1 => ?_) (fun h1 => ?_)
  · (refine wGo ?_; ((conv => arg 5; whnf); repeat ((first | (with_reducible refine wT ?_) | (with_reducible refine wF ?_) | (with_reducible refine wO (by kernel_rfl) ?_)); refine wGo ?_; (conv => arg 5; whnf))))
    exact wD <| cutR (Ends.plain (.inr rfl) rfl rfl)
  (refine wGo ?_; ((conv => arg 5; whnf); repeat ((first | (with_reducible refine wT ?_) | (with_reducible refine wF ?_) | (with_reducible refine wO (by kernel_rfl) ?_)); refine wGo ?_; (conv => arg 5; whnf))))
  have hl60 : l.length ≤ 60 := by simp only [decide_eq_false_iff_not] at h1; omega
  (refine wP _ _ (call_op rfl (entersB_of Try.func8 (by kernel_rfl)) rfl (fill_spec l (by omega) rfl (by decide))) ?_; ((conv => arg 5; whnf); repeat ((first | (with_reducible refine wT ?_) | (with_reducible refine wF ?_) | (with_reducible refine wO (by kernel_rfl) ?_)); refine wGo ?_; (conv => arg 5; whnf))))
  generalize hS : fillU l l.length = S
  have hI : Inv S := hS ▸ fillU_inv l _
  have hSl : S.coins.length ≤ 60 := by have := fillU_coins l l.length; rw [hS] at this; omega
  have hSs : S.steps.length ≤ 60 := by have := fillU_len l l.length; rw [hS] at this; omega
  refine wD <| cutG (Tri.ent (Ent.unpair (c := 8) (t1 := 3) (t2 := 4) rfl rfl rfl) ?_)
  (refine Tri.cut 3 Try.mixed Try.T_ok ?_; ((conv => arg 5; whnf); repeat ((first | (with_reducible refine wT ?_) | (with_reducible refine wF ?_) | (with_reducible refine wO (by kernel_rfl) ?_)); refine wGo ?_; (conv => arg 5; whnf))))
  (refine wP _ _ (call_op rfl (entersB_of Try.func21 (by kernel_rfl)) rfl (points_spec S (by omega) rfl)) ?_; ((conv => arg 5; whnf); repeat ((first | (with_reducible refine wT ?_) | (with_reducible refine wF ?_) | (with_reducible refine wO (by kernel_rfl) ?_)); refine wGo ?_; (conv => arg 5; whnf))))
  refine wD <| cutG (Tri.seq ?_)
  (refine Tri.cut 1 Try.mixed Try.T_ok ?_; ((conv => arg 5; whnf); repeat ((first | (with_reducible refine wT ?_) | (with_reducible refine wF ?_) | (with_reducible refine wO (by kernel_rfl) ?_)); refine wGo ?_; (conv => arg 5; whnf))))
  refine wD <| cutG <| Tri.block ?_
  have hC0 : ∀ ids : List Nat, ids[0]? = some 0 → ∀ i, i < C.n0 → ids[i]? = some i := fun ids e0 i hi => by
    rw [hC] at hi
    match i, hi with
    | 0, _ => exact e0
  refine Tri.loop (α := { i : Nat // i ≤ S.coins.length }) (fun i => sums1 l S i.1) (fun i => S.coins.length - i.1) ⟨0, Nat.zero_le _⟩ ?_ ?_
  · exact Ent.ren [0, 14, 19] (by decide) rfl (hC0 _ rfl) (by rw [hC]; decide) rfl ⟨rfl, rfl, rfl, rfl, rfl, trivial⟩ ⟨⟨_, rfl, rfl, rfl, fun _ _ => rfl⟩, ⟨_, rfl, rfl⟩, ⟨_, rfl, rfl, rfl, Nat.le_refl _, fun _ _ => rfl⟩, trivial⟩
  rintro ⟨i, hi⟩
  dsimp only
  (refine Tri.cut 1 Try.mixed Try.T_ok ?_; ((conv => arg 5; whnf); repeat ((first | (with_reducible refine wT ?_) | (with_reducible refine wF ?_) | (with_reducible refine wO (by kernel_rfl) ?_)); refine wGo ?_; (conv => arg 5; whnf))))
  refine wC (fun h3 => ?_) (fun h3 => ?_)
  case refine_2 =>
    (refine wGo ?_; ((conv => arg 5; whnf); repeat ((first | (with_reducible refine wT ?_) | (with_reducible refine wF ?_) | (with_reducible refine wO (by kernel_rfl) ?_)); refine wGo ?_; (conv => arg 5; whnf))))
    have hil : i = S.coins.length := by simp only [decide_eq_false_iff_not] at h3; omega
    subst hil
    refine wD <| cutE <| loopX <| blockX <| cutG ?_
    (refine Tri.cut 1 Try.mixed Try.T_ok ?_; ((conv => arg 5; whnf); repeat ((first | (with_reducible refine wT ?_) | (with_reducible refine wF ?_) | (with_reducible refine wO (by kernel_rfl) ?_)); refine wGo ?_; (conv => arg 5; whnf))))
    (refine wP _ _ (call_op rfl (entersB_of Try.func13 (by kernel_rfl)) rfl (total_spec S rfl rfl)) ?_; ((conv => arg 5; whnf); repeat ((first | (with_reducible refine wT ?_) | (with_reducible refine wF ?_) | (with_reducible refine wO (by kernel_rfl) ?_)); refine wGo ?_; (conv => arg 5; whnf))))
    have htot : S.total = IntKind.i64.wrap (S.psum S.coins.length) := by rw [hI.tot, spent_all hI]
    refine wC (fun h => absurd h (by rw [htot]; simp)) (fun _ => ?_)
    (refine wGo ?_; ((conv => arg 5; whnf); repeat ((first | (with_reducible refine wT ?_) | (with_reducible refine wF ?_) | (with_reducible refine wO (by kernel_rfl) ?_)); refine wGo ?_; (conv => arg 5; whnf))))
    (refine wP _ _ (call_op rfl (entersB_of Try.func14 (by kernel_rfl)) rfl (len_spec S rfl rfl)) ?_; ((conv => arg 5; whnf); repeat ((first | (with_reducible refine wT ?_) | (with_reducible refine wF ?_) | (with_reducible refine wO (by kernel_rfl) ?_)); refine wGo ?_; (conv => arg 5; whnf))))
    refine wC (fun h => absurd h (by simp)) (fun _ => ?_)
    (refine wGo ?_; ((conv => arg 5; whnf); repeat ((first | (with_reducible refine wT ?_) | (with_reducible refine wF ?_) | (with_reducible refine wO (by kernel_rfl) ?_)); refine wGo ?_; (conv => arg 5; whnf))))
    refine wD <| cutG <| Tri.seq ?_
    (refine Tri.cut 1 Try.mixed Try.T_ok ?_; ((conv => arg 5; whnf); repeat ((first | (with_reducible refine wT ?_) | (with_reducible refine wF ?_) | (with_reducible refine wO (by kernel_rfl) ?_)); refine wGo ?_; (conv => arg 5; whnf))))
    refine wD <| cutG <| Tri.block ?_
    refine Tri.loop (α := { i : Nat // i ≤ S.coins.length }) (fun i => sums2 l S i.1) (fun i => S.coins.length - i.1) ⟨0, Nat.zero_le _⟩ ?_ ?_
    · exact Ent.ren [0, 1, 2] (by decide) rfl (hC0 _ rfl) (by rw [hC]; decide) rfl ⟨rfl, rfl, rfl, congrArg (fun n : Int => some (XV.int .i64 (IntKind.i64.wrap n))) (show S.psum S.coins.length = S.psum S.coins.length - 0 by omega), rfl, trivial⟩ ⟨⟨_, rfl, rfl, rfl, fun _ _ => rfl⟩, ⟨_, rfl, rfl⟩, ⟨_, rfl, rfl, rfl, Nat.le_refl _, fun _ _ => rfl⟩, trivial⟩
    rintro ⟨k, hk⟩
    dsimp only
    have hks := (spent_law hI k hk).2.2.2.2
    (refine Tri.cut 1 Try.mixed Try.T_ok ?_; ((conv => arg 5; whnf); repeat ((first | (with_reducible refine wT ?_) | (with_reducible refine wF ?_) | (with_reducible refine wO (by kernel_rfl) ?_)); refine wGo ?_; (conv => arg 5; whnf))))
    refine wC (fun h5 => ?_) (fun h5 => ?_)
    case refine_2 =>
      (refine wGo ?_; ((conv => arg 5; whnf); repeat ((first | (with_reducible refine wT ?_) | (with_reducible refine wF ?_) | (with_reducible refine wO (by kernel_rfl) ?_)); refine wGo ?_; (conv => arg 5; whnf))))
      have hkl : k = S.coins.length := by simp only [decide_eq_false_iff_not] at h5; omega
      subst hkl
      have hlen0 : (S.spent S.coins.length).coins.length = 0 := by have := (spent_law hI S.coins.length (Nat.le_refl _)).2.2.2.1; omega
      have htot0 : (S.spent S.coins.length).total = 0 := by rw [spent_total hI (Nat.le_refl _), Int.sub_self]; rfl
      refine wD <| cutE <| loopX <| blockX <| cutG <| Tri.of Try.mixed Try.T_ok ?_
      (refine wBegin ?_; ((conv => arg 5; whnf); repeat ((first | (with_reducible refine wT ?_) | (with_reducible refine wF ?_) | (with_reducible refine wO (by kernel_rfl) ?_)); refine wGo ?_; (conv => arg 5; whnf))))
      (refine wP _ _ (call_op rfl (entersB_of Try.func14 (by kernel_rfl)) rfl (len_spec (S.spent S.coins.length) rfl rfl)) ?_; ((conv => arg 5; whnf); repeat ((first | (with_reducible refine wT ?_) | (with_reducible refine wF ?_) | (with_reducible refine wO (by kernel_rfl) ?_)); refine wGo ?_; (conv => arg 5; whnf))))
      refine wC (fun _ => ?_) (fun h => absurd h (by rw [hlen0]; decide))
      (refine wGo ?_; ((conv => arg 5; whnf); repeat ((first | (with_reducible refine wT ?_) | (with_reducible refine wF ?_) | (with_reducible refine wO (by kernel_rfl) ?_)); refine wGo ?_; (conv => arg 5; whnf))))
      (refine wP _ _ (call_op rfl (entersB_of Try.func13 (by kernel_rfl)) rfl (total_spec (S.spent S.coins.length) rfl rfl)) ?_; ((conv => arg 5; whnf); repeat ((first | (with_reducible refine wT ?_) | (with_reducible refine wF ?_) | (with_reducible refine wO (by kernel_rfl) ?_)); refine wGo ?_; (conv => arg 5; whnf))))
      refine Ends.plain (.inr rfl) rfl (congrArg XV.bool ?_)
      rw [htot0]; decide
    (refine wGo ?_; ((conv => arg 5; whnf); repeat ((first | (with_reducible refine wT ?_) | (with_reducible refine wF ?_) | (with_reducible refine wO (by kernel_rfl) ?_)); refine wGo ?_; (conv => arg 5; whnf))))
    have h5' : k < S.coins.length := by simp only [decide_eq_true_eq] at h5; omega
    have hwk : IntKind.i64.wrap ((k : Int) + 1) = ((k + 1 : Nat) : Int) := by rw [wrap_i64 (by omega) (by omega)]; omega
    have hgk : S.points.getD (0 + ((k : Nat) : Int).toNat) default = S.pt k := by simp [USet.pt]
    obtain ⟨hk1, hk2⟩ := spent_has hI h5'
    obtain ⟨hk3, hk4⟩ := spent_gone hI h5'
    have hks2 := (spent_law hI (k + 1) (by omega)).2.2.2.2
    have hsp : (S.spent k).spend (S.pt k) = S.spent (k + 1) := rfl
    rw [← hgk] at hk1 hk2 hk3 hk4 hsp
    refine wD <| cutG <| Tri.seq <| Tri.block <| Tri.of Try.mixed Try.T_ok ?_
    (refine wBegin ?_; ((conv => arg 5; whnf); repeat ((first | (with_reducible refine wT ?_) | (with_reducible refine wF ?_) | (with_reducible refine wO (by kernel_rfl) ?_)); refine wGo ?_; (conv => arg 5; whnf))))
    refine wN ⟨by omega, by omega⟩ ?_
    (refine wGo ?_; ((conv => arg 5; whnf); repeat ((first | (with_reducible refine wT ?_) | (with_reducible refine wF ?_) | (with_reducible refine wO (by kernel_rfl) ?_)); refine wGo ?_; (conv => arg 5; whnf))))
    refine wN (by omega) ?_
    (refine wGo ?_; ((conv => arg 5; whnf); repeat ((first | (with_reducible refine wT ?_) | (with_reducible refine wF ?_) | (with_reducible refine wO (by kernel_rfl) ?_)); refine wGo ?_; (conv => arg 5; whnf))))
    (refine wP _ _ (call_op rfl (entersB_of Try.func12 (by kernel_rfl)) rfl (spend_there (S.spent k) (S.spent (k + 1)) (S.points.getD (0 + ((k : Nat) : Int).toNat) default) (S.get (S.points.getD (0 + ((k : Nat) : Int).toNat) default)) hk1 hk2 hsp (by omega) rfl rfl)) ?_; ((conv => arg 5; whnf); repeat ((first | (with_reducible refine wT ?_) | (with_reducible refine wF ?_) | (with_reducible refine wO (by kernel_rfl) ?_)); refine wGo ?_; (conv => arg 5; whnf))))
    refine wN ⟨by omega, by omega⟩ ?_
    (refine wGo ?_; ((conv => arg 5; whnf); repeat ((first | (with_reducible refine wT ?_) | (with_reducible refine wF ?_) | (with_reducible refine wO (by kernel_rfl) ?_)); refine wGo ?_; (conv => arg 5; whnf))))
    refine wN (by omega) ?_
    (refine wGo ?_; ((conv => arg 5; whnf); repeat ((first | (with_reducible refine wT ?_) | (with_reducible refine wF ?_) | (with_reducible refine wO (by kernel_rfl) ?_)); refine wGo ?_; (conv => arg 5; whnf))))
    (refine wP _ _ (call_op rfl (entersB_of Try.func12 (by kernel_rfl)) rfl (spend_gone (S.spent (k + 1)) (S.points.getD (0 + ((k : Nat) : Int).toNat) default) hk3 hk4 (by omega) rfl rfl)) ?_; ((conv => arg 5; whnf); repeat ((first | (with_reducible refine wT ?_) | (with_reducible refine wF ?_) | (with_reducible refine wO (by kernel_rfl) ?_)); refine wGo ?_; (conv => arg 5; whnf))))
    refine wN ⟨by omega, by omega⟩ ?_
    (refine wGo ?_; ((conv => arg 5; whnf); repeat ((first | (with_reducible refine wT ?_) | (with_reducible refine wF ?_) | (with_reducible refine wO (by kernel_rfl) ?_)); refine wGo ?_; (conv => arg 5; whnf))))
    refine wN (by omega) ?_
    (refine wGo ?_; ((conv => arg 5; whnf); repeat ((first | (with_reducible refine wT ?_) | (with_reducible refine wF ?_) | (with_reducible refine wO (by kernel_rfl) ?_)); refine wGo ?_; (conv => arg 5; whnf))))
    (refine wP _ _ (call_op rfl (entersB_of Try.func22 (by kernel_rfl)) rfl (get_gone (S.spent (k + 1)) (S.points.getD (0 + ((k : Nat) : Int).toNat) default) hk3 rfl rfl)) ?_; ((conv => arg 5; whnf); repeat ((first | (with_reducible refine wT ?_) | (with_reducible refine wF ?_) | (with_reducible refine wO (by kernel_rfl) ?_)); refine wGo ?_; (conv => arg 5; whnf))))
    have hgp : (S.get (S.points.getD (0 + ((k : Nat) : Int).toNat) default)) = S.get (S.pt k) := by rw [hgk]
    have hst : (S.spent (k + 1)).total = IntKind.i64.wrap (S.psum S.coins.length - S.psum (k + 1)) := spent_total hI (by omega)
    have hsum : IntKind.i64.wrap (IntKind.i64.wrap (S.psum S.coins.length - S.psum k) - (S.get (S.points.getD (0 + ((k : Nat) : Int).toNat) default)).amt.toInt) = IntKind.i64.wrap (S.psum S.coins.length - S.psum (k + 1)) := by
      rw [wrap_sub, hgp]
      congr 1
      simp only [USet.psum]; omega
    refine wC (fun h => absurd h (by decide)) (fun _ => ?_)
    (refine wGo ?_; ((conv => arg 5; whnf); repeat ((first | (with_reducible refine wT ?_) | (with_reducible refine wF ?_) | (with_reducible refine wO (by kernel_rfl) ?_)); refine wGo ?_; (conv => arg 5; whnf))))
    (refine wP _ _ (call_op rfl (entersB_of Try.func13 (by kernel_rfl)) rfl (total_spec (S.spent (k + 1)) rfl rfl)) ?_; ((conv => arg 5; whnf); repeat ((first | (with_reducible refine wT ?_) | (with_reducible refine wF ?_) | (with_reducible refine wO (by kernel_rfl) ?_)); refine wGo ?_; (conv => arg 5; whnf))))
    refine wC (fun h => absurd h (by rw [hst, hsum]; simp)) (fun _ => ?_)
    (refine wGo ?_; ((conv => arg 5; whnf); repeat ((first | (with_reducible refine wT ?_) | (with_reducible refine wF ?_) | (with_reducible refine wO (by kernel_rfl) ?_)); refine wGo ?_; (conv => arg 5; whnf))))
    refine wD <| blockN <| Tri.of Try.mixed Try.T_ok ?_
    (refine wBegin ?_; ((conv => arg 5; whnf); repeat ((first | (with_reducible refine wT ?_) | (with_reducible refine wF ?_) | (with_reducible refine wO (by kernel_rfl) ?_)); refine wGo ?_; (conv => arg 5; whnf))))
    refine wD <| loopN ⟨⟨k + 1, h5'⟩, by simp only; omega, ?_⟩
    exact Ent.ren [0, 1, 2] (by decide) rfl (hC0 _ rfl) (by rw [hC]; decide) rfl ⟨rfl, rfl, rfl, congrArg (fun n : Int => some (XV.int .i64 n)) hsum, congrArg (fun n : Int => some (XV.int .i64 n)) hwk, trivial⟩ ⟨⟨_, rfl, rfl, rfl, fun _ _ => rfl⟩, ⟨_, rfl, rfl⟩, ⟨_, rfl, rfl, rfl, Nat.le_refl _, fun _ _ => rfl⟩, trivial⟩
  (refine wGo ?_; ((conv => arg 5; whnf); repeat ((first | (with_reducible refine wT ?_) | (with_reducible refine wF ?_) | (with_reducible refine wO (by kernel_rfl) ?_)); refine wGo ?_; (conv => arg 5; whnf))))
  have h3' : i < S.coins.length := by simp only [decide_eq_true_eq] at h3; omega
  have hwi : IntKind.i64.wrap ((i : Int) + 1) = ((i + 1 : Nat) : Int) := by rw [wrap_i64 (by omega) (by omega)]; omega
  have hgi : S.points.getD (0 + ((i : Nat) : Int).toNat) default = S.pt i := by simp [USet.pt]
  refine wD <| cutG <| Tri.seq <| Tri.block ?_
  refine Tri.of Try.mixed Try.T_ok ?_
  (refine wBegin ?_; ((conv => arg 5; whnf); repeat ((first | (with_reducible refine wT ?_) | (with_reducible refine wF ?_) | (with_reducible refine wO (by kernel_rfl) ?_)); refine wGo ?_; (conv => arg 5; whnf))))
  refine wN ⟨by omega, by omega⟩ ?_
  (refine wGo ?_; ((conv => arg 5; whnf); repeat ((first | (with_reducible refine wT ?_) | (with_reducible refine wF ?_) | (with_reducible refine wO (by kernel_rfl) ?_)); refine wGo ?_; (conv => arg 5; whnf))))
  refine wN (by omega) ?_
  (refine wGo ?_; ((conv => arg 5; whnf); repeat ((first | (with_reducible refine wT ?_) | (with_reducible refine wF ?_) | (with_reducible refine wO (by kernel_rfl) ?_)); refine wGo ?_; (conv => arg 5; whnf))))
  have hp : S.has (S.points.getD (0 + ((i : Nat) : Int).toNat) default) = true := by rw [hgi]; exact pt_has h3'
  (refine wP _ _ (call_op rfl (entersB_of Try.func22 (by kernel_rfl)) rfl (get_there S (S.points.getD (0 + ((i : Nat) : Int).toNat) default) hp rfl rfl)) ?_; ((conv => arg 5; whnf); repeat ((first | (with_reducible refine wT ?_) | (with_reducible refine wF ?_) | (with_reducible refine wO (by kernel_rfl) ?_)); refine wGo ?_; (conv => arg 5; whnf))))
  refine wC (fun h => absurd h (by decide)) (fun _ => ?_)
  (refine wGo ?_; ((conv => arg 5; whnf); repeat ((first | (with_reducible refine wT ?_) | (with_reducible refine wF ?_) | (with_reducible refine wO (by kernel_rfl) ?_)); refine wGo ?_; (conv => arg 5; whnf))))
  refine wN ⟨by omega, by omega⟩ ?_
  (refine wGo ?_; ((conv => arg 5; whnf); repeat ((first | (with_reducible refine wT ?_) | (with_reducible refine wF ?_) | (with_reducible refine wO (by kernel_rfl) ?_)); refine wGo ?_; (conv => arg 5; whnf))))
  refine wN (by omega) ?_
  (refine wGo ?_; ((conv => arg 5; whnf); repeat ((first | (with_reducible refine wT ?_) | (with_reducible refine wF ?_) | (with_reducible refine wO (by kernel_rfl) ?_)); refine wGo ?_; (conv => arg 5; whnf))))
  (refine wP _ _ (call_op rfl (entersB_of Try.func10 (by kernel_rfl)) rfl (uadd_there S (S.points.getD (0 + ((i : Nat) : Int).toNat) default) (S.get (S.points.getD (0 + ((i : Nat) : Int).toNat) default)) hp (by omega) rfl rfl)) ?_; ((conv => arg 5; whnf); repeat ((first | (with_reducible refine wT ?_) | (with_reducible refine wF ?_) | (with_reducible refine wO (by kernel_rfl) ?_)); refine wGo ?_; (conv => arg 5; whnf))))
  have hgc : (S.get (S.points.getD (0 + ((i : Nat) : Int).toNat) default)) = S.get (S.pt i) := by rw [hgi]
  have hps : IntKind.i64.wrap (IntKind.i64.wrap (S.psum i) + (S.get (S.points.getD (0 + ((i : Nat) : Int).toNat) default)).amt.toInt) = IntKind.i64.wrap (S.psum (i + 1)) := by rw [wrap_add, hgc]; rfl
  refine wC (fun h4 => ?_) (fun h4 => ?_)
  · (refine wGo ?_; ((conv => arg 5; whnf); repeat ((first | (with_reducible refine wT ?_) | (with_reducible refine wF ?_) | (with_reducible refine wO (by kernel_rfl) ?_)); refine wGo ?_; (conv => arg 5; whnf))))
    have h4' : 1 ≤ i := by simp only [decide_eq_true_eq] at h4; omega
    have hw1 : IntKind.i64.wrap ((i : Int) - 1) = ((i - 1 : Nat) : Int) := by rw [wrap_i64 (by omega) (by omega)]; omega
    have hgj : S.points.getD (0 + (IntKind.i64.wrap ((i : Int) - 1)).toNat) default = S.pt (i - 1) := by rw [hw1]; simp [USet.pt]
    have hlt : ltPt (S.points.getD (0 + (IntKind.i64.wrap ((i : Int) - 1)).toNat) default) (S.points.getD (0 + ((i : Nat) : Int).toNat) default) = true := by
      rw [hgj, hgi]
      have := pt_lt (S := S) hI.nd (i := i - 1) (by omega)
      rwa [show i - 1 + 1 = i by omega] at this
    refine wN ⟨by rw [hw1]; omega, by rw [hw1]; omega⟩ ?_
    (refine wGo ?_; ((conv => arg 5; whnf); repeat ((first | (with_reducible refine wT ?_) | (with_reducible refine wF ?_) | (with_reducible refine wO (by kernel_rfl) ?_)); refine wGo ?_; (conv => arg 5; whnf))))
    refine wN (by rw [hw1]; omega) ?_
    (refine wGo ?_; ((conv => arg 5; whnf); repeat ((first | (with_reducible refine wT ?_) | (with_reducible refine wF ?_) | (with_reducible refine wO (by kernel_rfl) ?_)); refine wGo ?_; (conv => arg 5; whnf))))
    refine wN ⟨by omega, by omega⟩ ?_
    (refine wGo ?_; ((conv => arg 5; whnf); repeat ((first | (with_reducible refine wT ?_) | (with_reducible refine wF ?_) | (with_reducible refine wO (by kernel_rfl) ?_)); refine wGo ?_; (conv => arg 5; whnf))))
    refine wN (by omega) ?_
    (refine wGo ?_; ((conv => arg 5; whnf); repeat ((first | (with_reducible refine wT ?_) | (with_reducible refine wF ?_) | (with_reducible refine wO (by kernel_rfl) ?_)); refine wGo ?_; (conv => arg 5; whnf))))
    (refine wP _ _ (call_op rfl (entersB_of Try.func23 (by kernel_rfl)) rfl (lessPoint_yes (S.points.getD (0 + (IntKind.i64.wrap ((i : Int) - 1)).toNat) default) (S.points.getD (0 + ((i : Nat) : Int).toNat) default) hlt _ _)) ?_; ((conv => arg 5; whnf); repeat ((first | (with_reducible refine wT ?_) | (with_reducible refine wF ?_) | (with_reducible refine wO (by kernel_rfl) ?_)); refine wGo ?_; (conv => arg 5; whnf))))
    refine wC (fun h => absurd h (by decide)) (fun _ => ?_)
    (refine wGo ?_; ((conv => arg 5; whnf); repeat ((first | (with_reducible refine wT ?_) | (with_reducible refine wF ?_) | (with_reducible refine wO (by kernel_rfl) ?_)); refine wGo ?_; (conv => arg 5; whnf))))
    refine wD <| blockN <| Tri.of Try.mixed Try.T_ok ?_
    (refine wBegin ?_; ((conv => arg 5; whnf); repeat ((first | (with_reducible refine wT ?_) | (with_reducible refine wF ?_) | (with_reducible refine wO (by kernel_rfl) ?_)); refine wGo ?_; (conv => arg 5; whnf))))
    refine wD <| loopN ⟨⟨i + 1, h3'⟩, by simp only; omega, ?_⟩
    exact Ent.ren [0, 1, 2] (by decide) rfl (hC0 _ rfl) (by rw [hC]; decide) rfl ⟨rfl, rfl, rfl, congrArg (fun n : Int => some (XV.int .i64 n)) hps, congrArg (fun n : Int => some (XV.int .i64 n)) hwi, trivial⟩ ⟨⟨_, rfl, rfl, rfl, fun _ _ => rfl⟩, ⟨_, rfl, rfl⟩, ⟨_, rfl, rfl, rfl, Nat.le_refl _, fun _ _ => rfl⟩, trivial⟩
  · (refine wGo ?_; ((conv => arg 5; whnf); repeat ((first | (with_reducible refine wT ?_) | (with_reducible refine wF ?_) | (with_reducible refine wO (by kernel_rfl) ?_)); refine wGo ?_; (conv => arg 5; whnf))))
    refine wD <| blockN <| Tri.of Try.mixed Try.T_ok ?_
    (refine wBegin ?_; ((conv => arg 5; whnf); repeat ((first | (with_reducible refine wT ?_) | (with_reducible refine wF ?_) | (with_reducible refine wO (by kernel_rfl) ?_)); refine wGo ?_; (conv => arg 5; whnf))))
    refine wD <| loopN ⟨⟨i + 1, h3'⟩, by simp only; omega, ?_⟩
    exact Ent.ren [0, 1, 2] (by decide) rfl (hC0 _ rfl) (by rw [hC]; decide) rfl ⟨rfl, rfl, rfl, congrArg (fun n : Int => some (XV.int .i64 n)) hps, congrArg (fun n : Int => some (XV.int .i64 n)) hwi, trivial⟩ ⟨⟨_, rfl, rfl, rfl, fun _ _ => rfl⟩, ⟨_, rfl, rfl⟩, ⟨_, rfl, rfl, rfl, Nat.le_refl _, fun _ _ => rfl⟩, trivial⟩
end Go.Proofs.Ytfdmlpdhngmbiaa
