/- Parts Tg Th Ti Tj Tk. -/
import Derived.Test.YtmoohekgheoliaaGreatDoorG18
set_option linter.unusedSimpArgs false
set_option linter.unusedVariables false
namespace Go.Proofs.YtmoohekgheoliaaGreatDoor
set_option maxRecDepth 100000
open Go.Sx
theorem flatMap_take_succ {E F : Type} [Inhabited E] (f : E → List F) {l : List E} {i : Nat} (hi : i < l.length) : (l.take (i + 1)).flatMap f = (l.take i).flatMap f ++ f (l.getD i default) := by
  rw [List.take_add_one, List.flatMap_append]
  have : l[i]?.toList = [l.getD i default] := by rw [List.getElem?_eq_getElem hi, List.getD_eq_getElem?_getD, List.getElem?_eq_getElem hi]; rfl
  rw [this]; simp
theorem all_at {E : Type} [Inhabited E] {p : E → Bool} {l : List E} (h : l.all p = true) {i : Nat} (hi : i < l.length) : p (l.getD i default) = true := by
  rw [List.getD_eq_getElem?_getD, List.getElem?_eq_getElem hi]
  exact List.all_eq_true.1 h _ (List.getElem_mem hi)
theorem within_iff {n a b : Int} : withinB n a b = true ↔ a ≤ n ∧ n ≤ b := by simp [withinB]
theorem fits_within {n b : Int} {w : Nat} (h : withinB n 0 b = true) (hw : 1 ≤ w ∧ w ≤ 7) (hb : b < 2 ^ (8 * w)) : FitsN n w := by
  rw [within_iff] at h
  exact ⟨hw.1, hw.2, h.1, Int.lt_of_le_of_lt h.2 hb⟩
theorem fits_money {n : Int} (h : moneyB n = true) : FitsN n 7 := by
  rw [moneyB, within_iff] at h
  exact ⟨by decide, by decide, by omega, by omega⟩
theorem fits_len {n : Nat} (h : n ≤ 255) : FitsN (n : Int) 1 := ⟨by decide, by decide, by omega, by omega⟩
def OutM.parts (o : OutM) : List (List UInt8) := [o.to.l, numL o.amt.toInt 7]
def outsParts (l : List OutM) : List (List UInt8) := numL (l.length : Int) 1 :: l.flatMap OutM.parts
theorem wouts_can (ty : TypeId) (W : WrM) (l : List OutM) (hl : outsOK l = true) (hW : W.b.length ≤ 131072) : Acts Tryz.prog 122 (.abs (wrP ty W)) (.abs (wrP ty (W.puts (outsParts l)))) [.row 9 l.length (outsF l)] [] (.tup []) := by
  rw [outsOK, Bool.and_eq_true, decide_eq_true_eq] at hl
  obtain ⟨ha, hn⟩ := hl
  refine Acts.of Tryz.T_ok Tryz.func122 rfl _ _ _ _ _ rfl rfl rfl (fun C hC => ?_)
  (replace hC : C.n0 = 2 := hC; change Tri _ _ _ ⟨_, _, 2⟩ _)
  (refine Tri.cut 2 Tryz.mixed Tryz.T_ok ?_; ((conv => arg 5; whnf); repeat (refine xS ?_; conv => arg 5; whnf)))
  (apply wP; exact (call_op rfl (entersB_of Tryz.func121 (by kernel_rfl)) rfl ((wnum_can ty W (l.length : Int) 1 (fits_len (by omega)) (by omega)).at [] rfl rfl rfl ⟨lend_plain rfl, lend_plain rfl, trivial⟩ trivial)); ((conv => arg 5; whnf); repeat (refine xS ?_; conv => arg 5; whnf)))
  refine wD <| cutG <| Tri.block ?_
  refine Tri.loop (α := { i : Nat // i ≤ l.length }) (fun i => ⟨[some (XV.sv (.ptr 0 0 0 0)), none, none, none, none, none, none, none, none, none, none, none, some (XV.sv (.slc 1 9 0 l.length)), some (XV.int .i64 l.length), some (XV.int .i64 i.1)] ++ List.replicate 16 none, [(0, .abs (wrP ty (W.puts (numL (l.length : Int) 1 :: (l.take i.1).flatMap OutM.parts)))), (1, .ro 9 l.length (outsF l))], 2⟩) (fun i => l.length - i.1) ⟨0, Nat.zero_le _⟩ ?_ ?_
  · ((try dsimp only); refine Ent.renC [0, 1] hC ?_ ?_ <;> repeat' (first | exact trivial | exact rfl | exact ⟨_, rfl, rfl, rfl, Nat.le_refl _, fun _ _ => rfl⟩ | exact ⟨_, rfl, rfl, rfl, fun _ _ => rfl⟩ | exact ⟨_, rfl, rfl, rfl⟩ | exact ⟨_, rfl, rfl⟩ | refine ⟨_, rfl, rfl, rfl, by omega, fun k hk => ?_⟩ | refine ⟨?_, ?_⟩ | fail))
  rintro ⟨i, hi⟩
  dsimp only
  (refine Tri.cut 2 Tryz.mixed Tryz.T_ok ?_; ((conv => arg 5; whnf); repeat (refine xS ?_; conv => arg 5; whnf)))
  refine wC (fun h1 => ?_) (fun h1 => ?_)
  · (refine wGo ?_; ((conv => arg 5; whnf); repeat (refine xS ?_; conv => arg 5; whnf)))
    have h1' : i < l.length := (by (try simp only [ww] at *); omega)
    have hw : IntKind.i64.wrap ((i : Int) + 1) = ((i + 1 : Nat) : Int) := (by (try simp only [ww] at *); omega)
    have ho := all_at ha h1'
    rw [outOK, Bool.and_eq_true] at ho
    have hp := puts_len (cs := numL (l.length : Int) 1 :: (l.take i).flatMap OutM.parts) hW
    have hp2 := put_len (b := (l.getD i default).to.l) hp
    refine wD <| cutG <| Tri.seq <| Tri.block <| Tri.of Tryz.mixed Tryz.T_ok ?_
    (refine wBegin ?_; ((conv => arg 5; whnf); repeat (refine xS ?_; conv => arg 5; whnf)))
    (repeat (refine wN ?_ ?_; exact (by (try simp only [ww] at *); omega); refine wGo ?_; ((conv => arg 5; whnf); repeat (refine xS ?_; conv => arg 5; whnf))))
    simp only [Nat.zero_add, Int.toNat_natCast]
    (apply wP; exact (call_op rfl (entersB_of Tryz.func145 (by kernel_rfl)) rfl ((whash_can ty (W.puts (numL (l.length : Int) 1 :: (l.take i).flatMap OutM.parts)) (l.getD i default).to (by omega)).at [] rfl rfl rfl ⟨lend_plain rfl, trivial⟩ trivial)); ((conv => arg 5; whnf); repeat (refine xS ?_; conv => arg 5; whnf)))
    (apply wP; exact (call_op rfl (entersB_of Tryz.func121 (by kernel_rfl)) rfl ((wnum_can ty ((W.puts (numL (l.length : Int) 1 :: (l.take i).flatMap OutM.parts)).put (l.getD i default).to.l) (l.getD i default).amt.toInt 7 (fits_money ho.2) (by omega)).at [] rfl rfl rfl ⟨lend_plain rfl, lend_plain rfl, trivial⟩ trivial)); ((conv => arg 5; whnf); repeat (refine xS ?_; conv => arg 5; whnf)))
    refine wD <| blockN <| cutG <| Tri.of Tryz.mixed Tryz.T_ok ?_
    (refine wBegin ?_; ((conv => arg 5; whnf); repeat (refine xS ?_; conv => arg 5; whnf)))
    refine wD <| loopN ⟨⟨i + 1, h1'⟩, by dsimp only; omega, ?_⟩
    rw [hw]
    dsimp only
    rw [flatMap_take_succ _ h1', ← List.cons_append, puts_append]
    ((try dsimp only); refine Ent.renC [0, 1] hC ?_ ?_ <;> repeat' (first | exact trivial | exact rfl | exact ⟨_, rfl, rfl, rfl, Nat.le_refl _, fun _ _ => rfl⟩ | exact ⟨_, rfl, rfl, rfl, fun _ _ => rfl⟩ | exact ⟨_, rfl, rfl, rfl⟩ | exact ⟨_, rfl, rfl⟩ | refine ⟨_, rfl, rfl, rfl, by omega, fun k hk => ?_⟩ | refine ⟨?_, ?_⟩ | fail))
  · (refine wGo ?_; ((conv => arg 5; whnf); repeat (refine xS ?_; conv => arg 5; whnf)))
    have h1' : i = l.length := (by (try simp only [ww] at *); omega)
    subst h1'
    rw [List.take_length]
    exact wD <| cutE <| loopX <| blockX (Ends.shutN (.inl rfl) (Ent.refl _) rfl rfl rfl)
def FwdM.parts (f : FwdM) : List (List UInt8) := [numL f.side.toInt 1, numL f.acct.toInt 2, f.owner.l, numL f.amt.toInt 7]
def fwdsParts (l : List FwdM) : List (List UInt8) := numL (l.length : Int) 1 :: l.flatMap FwdM.parts
theorem wfwds_can (ty : TypeId) (W : WrM) (l : List FwdM) (hl : fwdsOK l = true) (hW : W.b.length ≤ 131072) : Acts Tryz.prog 124 (.abs (wrP ty W)) (.abs (wrP ty (W.puts (fwdsParts l)))) [.row 11 l.length (fwdsF l)] [] (.tup []) := by
  rw [fwdsOK, Bool.and_eq_true, decide_eq_true_eq] at hl
  obtain ⟨ha, hn⟩ := hl
  refine Acts.of Tryz.T_ok Tryz.func124 rfl _ _ _ _ _ rfl rfl rfl (fun C hC => ?_)
  (replace hC : C.n0 = 2 := hC; change Tri _ _ _ ⟨_, _, 2⟩ _)
  (refine Tri.cut 2 Tryz.mixed Tryz.T_ok ?_; ((conv => arg 5; whnf); repeat (refine xS ?_; conv => arg 5; whnf)))
  (apply wP; exact (call_op rfl (entersB_of Tryz.func121 (by kernel_rfl)) rfl ((wnum_can ty W (l.length : Int) 1 (fits_len (by omega)) (by omega)).at [] rfl rfl rfl ⟨lend_plain rfl, lend_plain rfl, trivial⟩ trivial)); ((conv => arg 5; whnf); repeat (refine xS ?_; conv => arg 5; whnf)))
  refine wD <| cutG <| Tri.block ?_
  refine Tri.loop (α := { i : Nat // i ≤ l.length }) (fun i => ⟨[some (XV.sv (.ptr 0 0 0 0)), none, none, none, none, none, none, none, none, none, none, none, some (XV.sv (.slc 1 11 0 l.length)), some (XV.int .i64 l.length), some (XV.int .i64 i.1)] ++ List.replicate 28 none, [(0, .abs (wrP ty (W.puts (numL (l.length : Int) 1 :: (l.take i.1).flatMap FwdM.parts)))), (1, .ro 11 l.length (fwdsF l))], 2⟩) (fun i => l.length - i.1) ⟨0, Nat.zero_le _⟩ ?_ ?_
  · ((try dsimp only); refine Ent.renC [0, 1] hC ?_ ?_ <;> repeat' (first | exact trivial | exact rfl | exact ⟨_, rfl, rfl, rfl, Nat.le_refl _, fun _ _ => rfl⟩ | exact ⟨_, rfl, rfl, rfl, fun _ _ => rfl⟩ | exact ⟨_, rfl, rfl, rfl⟩ | exact ⟨_, rfl, rfl⟩ | refine ⟨_, rfl, rfl, rfl, by omega, fun k hk => ?_⟩ | refine ⟨?_, ?_⟩ | fail))
  rintro ⟨i, hi⟩
  dsimp only
  (refine Tri.cut 2 Tryz.mixed Tryz.T_ok ?_; ((conv => arg 5; whnf); repeat (refine xS ?_; conv => arg 5; whnf)))
  refine wC (fun h1 => ?_) (fun h1 => ?_)
  · (refine wGo ?_; ((conv => arg 5; whnf); repeat (refine xS ?_; conv => arg 5; whnf)))
    have h1' : i < l.length := (by (try simp only [ww] at *); omega)
    have hw : IntKind.i64.wrap ((i : Int) + 1) = ((i + 1 : Nat) : Int) := (by (try simp only [ww] at *); omega)
    have ho := all_at ha h1'
    rw [fwdOK, acctB, Bool.and_eq_true, Bool.and_eq_true, Bool.and_eq_true] at ho
    obtain ⟨V, hV, hp⟩ : ∃ V, W.puts (numL (l.length : Int) 1 :: (l.take i).flatMap FwdM.parts) = V ∧ V.b.length ≤ 131072 := ⟨_, rfl, puts_len hW⟩
    have hp1 := put_len (b := numL (l.getD i default).side.toInt 1) hp
    have hp2 := put_len (b := numL (l.getD i default).acct.toInt 2) hp1
    have hp3 := put_len (b := (l.getD i default).owner.l) hp2
    rw [hV]
    refine wD <| cutG <| Tri.seq <| Tri.block <| Tri.of Tryz.mixed Tryz.T_ok ?_
    (refine wBegin ?_; ((conv => arg 5; whnf); repeat (refine xS ?_; conv => arg 5; whnf)))
    (repeat (refine wN ?_ ?_; exact (by (try simp only [ww] at *); omega); refine wGo ?_; ((conv => arg 5; whnf); repeat (refine xS ?_; conv => arg 5; whnf))))
    simp only [Nat.zero_add, Int.toNat_natCast]
    (apply wP; exact (call_op rfl (entersB_of Tryz.func121 (by kernel_rfl)) rfl ((wnum_can ty V (l.getD i default).side.toInt 1 (fits_within ho.1.1.1 (by decide) (by decide)) (by omega)).at [] rfl rfl rfl ⟨lend_plain rfl, lend_plain rfl, trivial⟩ trivial)); ((conv => arg 5; whnf); repeat (refine xS ?_; conv => arg 5; whnf)))
    (apply wP; exact (call_op rfl (entersB_of Tryz.func121 (by kernel_rfl)) rfl ((wnum_can ty (V.put (numL (l.getD i default).side.toInt 1)) (l.getD i default).acct.toInt 2 (fits_within ho.1.1.2 (by decide) (by decide)) (by omega)).at [] rfl rfl rfl ⟨lend_plain rfl, lend_plain rfl, trivial⟩ trivial)); ((conv => arg 5; whnf); repeat (refine xS ?_; conv => arg 5; whnf)))
    (apply wP; exact (call_op rfl (entersB_of Tryz.func145 (by kernel_rfl)) rfl ((whash_can ty ((V.put (numL (l.getD i default).side.toInt 1)).put (numL (l.getD i default).acct.toInt 2)) (l.getD i default).owner (by omega)).at [] rfl rfl rfl ⟨lend_plain rfl, trivial⟩ trivial)); ((conv => arg 5; whnf); repeat (refine xS ?_; conv => arg 5; whnf)))
    (apply wP; exact (call_op rfl (entersB_of Tryz.func121 (by kernel_rfl)) rfl ((wnum_can ty (((V.put (numL (l.getD i default).side.toInt 1)).put (numL (l.getD i default).acct.toInt 2)).put (l.getD i default).owner.l) (l.getD i default).amt.toInt 7 (fits_money ho.2) (by omega)).at [] rfl rfl rfl ⟨lend_plain rfl, lend_plain rfl, trivial⟩ trivial)); ((conv => arg 5; whnf); repeat (refine xS ?_; conv => arg 5; whnf)))
    refine wD <| blockN <| cutG <| Tri.of Tryz.mixed Tryz.T_ok ?_
    (refine wBegin ?_; ((conv => arg 5; whnf); repeat (refine xS ?_; conv => arg 5; whnf)))
    refine wD <| loopN ⟨⟨i + 1, h1'⟩, by dsimp only; omega, ?_⟩
    rw [hw]
    dsimp only
    rw [flatMap_take_succ _ h1', ← List.cons_append, puts_append, hV]
    ((try dsimp only); refine Ent.renC [0, 1] hC ?_ ?_ <;> repeat' (first | exact trivial | exact rfl | exact ⟨_, rfl, rfl, rfl, Nat.le_refl _, fun _ _ => rfl⟩ | exact ⟨_, rfl, rfl, rfl, fun _ _ => rfl⟩ | exact ⟨_, rfl, rfl, rfl⟩ | exact ⟨_, rfl, rfl⟩ | refine ⟨_, rfl, rfl, rfl, by omega, fun k hk => ?_⟩ | refine ⟨?_, ?_⟩ | fail))
  · (refine wGo ?_; ((conv => arg 5; whnf); repeat (refine xS ?_; conv => arg 5; whnf)))
    have h1' : i = l.length := (by (try simp only [ww] at *); omega)
    subst h1'
    rw [List.take_length]
    exact wD <| cutE <| loopX <| blockX (Ends.shutN (.inl rfl) (Ent.refl _) rfl rfl rfl)
def InM.parts (x : InM) : List (List UInt8) := x.pt.tx.l :: numL x.pt.no.toInt 1 :: x.key.l :: x.sig.parts
def insParts (l : List InM) : List (List UInt8) := numL (l.length : Int) 1 :: l.flatMap InM.parts
theorem range_all_at {p : Nat → Bool} {n i : Nat} (h : (List.range n).all p = true) (hi : i < n) : p i = true := List.all_eq_true.1 h i (List.mem_range.2 hi)
set_option maxHeartbeats 1000000 in
theorem wins_can (ty : TypeId) (W : WrM) (l : List InM) (hl : insOK l = true) (hW : W.b.length ≤ 131072) : Acts Tryz.prog 123 (.abs (wrP ty W)) (.abs (wrP ty (W.puts (insParts l)))) [.row 298 l.length (insF l)] [] (.tup []) := by
  rw [insOK, Bool.and_eq_true, within_iff] at hl
  obtain ⟨ha, hn⟩ := hl
  refine Acts.of Tryz.T_ok Tryz.func123 rfl _ _ _ _ _ rfl rfl rfl (fun C hC => ?_)
  (replace hC : C.n0 = 2 := hC; change Tri _ _ _ ⟨_, _, 2⟩ _)
  (refine Tri.cut 2 Tryz.mixed Tryz.T_ok ?_; ((conv => arg 5; whnf); repeat (refine xS ?_; conv => arg 5; whnf)))
  (apply wP; exact (call_op rfl (entersB_of Tryz.func121 (by kernel_rfl)) rfl ((wnum_can ty W (l.length : Int) 1 (fits_len (by omega)) (by omega)).at [] rfl rfl rfl ⟨lend_plain rfl, lend_plain rfl, trivial⟩ trivial)); ((conv => arg 5; whnf); repeat (refine xS ?_; conv => arg 5; whnf)))
  refine wD <| cutG <| Tri.block ?_
  refine Tri.loop (α := { i : Nat // i ≤ l.length }) (fun i => ⟨[some (XV.sv (.ptr 0 0 0 0)), none, none, none, none, none, none, none, none, none, none, none, some (XV.sv (.slc 1 298 0 l.length)), some (XV.int .i64 l.length), some (XV.int .i64 i.1)] ++ List.replicate 28 none, [(0, .abs (wrP ty (W.puts (numL (l.length : Int) 1 :: (l.take i.1).flatMap InM.parts)))), (1, .ro 298 l.length (insF l))], 2⟩) (fun i => l.length - i.1) ⟨0, Nat.zero_le _⟩ ?_ ?_
  · ((try dsimp only); refine Ent.renC [0, 1] hC ?_ ?_ <;> repeat' (first | exact trivial | exact rfl | exact ⟨_, rfl, rfl, rfl, Nat.le_refl _, fun _ _ => rfl⟩ | exact ⟨_, rfl, rfl, rfl, fun _ _ => rfl⟩ | exact ⟨_, rfl, rfl, rfl⟩ | exact ⟨_, rfl, rfl⟩ | refine ⟨_, rfl, rfl, rfl, by omega, fun k hk => ?_⟩ | refine ⟨?_, ?_⟩ | fail))
  rintro ⟨i, hi⟩
  dsimp only
  (refine Tri.cut 2 Tryz.mixed Tryz.T_ok ?_; ((conv => arg 5; whnf); repeat (refine xS ?_; conv => arg 5; whnf)))
  refine wC (fun h1 => ?_) (fun h1 => ?_)
  · (refine wGo ?_; ((conv => arg 5; whnf); repeat (refine xS ?_; conv => arg 5; whnf)))
    have h1' : i < l.length := (by (try simp only [ww] at *); omega)
    have hw : IntKind.i64.wrap ((i : Int) + 1) = ((i + 1 : Nat) : Int) := (by (try simp only [ww] at *); omega)
    have ho := range_all_at ha h1'
    rw [insAt, Bool.and_eq_true, Bool.and_eq_true] at ho
    obtain ⟨V, hV, hp⟩ : ∃ V, W.puts (numL (l.length : Int) 1 :: (l.take i).flatMap InM.parts) = V ∧ V.b.length ≤ 131072 := ⟨_, rfl, puts_len hW⟩
    have hp1 := put_len (b := (l.getD i default).pt.tx.l) hp
    have hp2 := put_len (b := numL (l.getD i default).pt.no.toInt 1) hp1
    have hp3 := put_len (b := (l.getD i default).key.l) hp2
    rw [hV]
    refine wD <| cutG <| Tri.seq <| Tri.block <| Tri.of Tryz.mixed Tryz.T_ok ?_
    (refine wBegin ?_; ((conv => arg 5; whnf); repeat (refine xS ?_; conv => arg 5; whnf)))
    (repeat (refine wN ?_ ?_; exact (by (try simp only [ww] at *); omega); refine wGo ?_; ((conv => arg 5; whnf); repeat (refine xS ?_; conv => arg 5; whnf))))
    simp only [Nat.zero_add, Int.toNat_natCast]
    (apply wP; exact (call_op rfl (entersB_of Tryz.func145 (by kernel_rfl)) rfl ((whash_can ty V (l.getD i default).pt.tx (by omega)).at [] rfl rfl rfl ⟨lend_plain rfl, trivial⟩ trivial)); ((conv => arg 5; whnf); repeat (refine xS ?_; conv => arg 5; whnf)))
    (apply wP; exact (call_op rfl (entersB_of Tryz.func121 (by kernel_rfl)) rfl ((wnum_can ty (V.put (l.getD i default).pt.tx.l) (l.getD i default).pt.no.toInt 1 (fits_within ho.2.1 (by decide) (by decide)) (by omega)).at [] rfl rfl rfl ⟨lend_plain rfl, lend_plain rfl, trivial⟩ trivial)); ((conv => arg 5; whnf); repeat (refine xS ?_; conv => arg 5; whnf)))
    (apply wP; exact (call_op rfl (entersB_of Tryz.func145 (by kernel_rfl)) rfl ((whash_can ty ((V.put (l.getD i default).pt.tx.l).put (numL (l.getD i default).pt.no.toInt 1)) (l.getD i default).key (by omega)).at [] rfl rfl rfl ⟨lend_plain rfl, trivial⟩ trivial)); ((conv => arg 5; whnf); repeat (refine xS ?_; conv => arg 5; whnf)))
    (apply wP; exact (call_op rfl (entersB_of Tryz.func146 (by kernel_rfl)) rfl ((sig_can ty (((V.put (l.getD i default).pt.tx.l).put (numL (l.getD i default).pt.no.toInt 1)).put (l.getD i default).key.l) (l.getD i default).sig (fits_within ho.2.2 (by decide) (by decide)) hp3).at [] rfl rfl rfl ⟨lend_plain rfl, trivial⟩ trivial)); ((conv => arg 5; whnf); repeat (refine xS ?_; conv => arg 5; whnf)))
    refine wD <| blockN <| cutG <| Tri.of Tryz.mixed Tryz.T_ok ?_
    (refine wBegin ?_; ((conv => arg 5; whnf); repeat (refine xS ?_; conv => arg 5; whnf)))
    refine wD <| loopN ⟨⟨i + 1, h1'⟩, by dsimp only; omega, ?_⟩
    rw [hw]
    dsimp only
    rw [flatMap_take_succ _ h1', ← List.cons_append, puts_append, hV]
    ((try dsimp only); refine Ent.renC [0, 1] hC ?_ ?_ <;> repeat' (first | exact trivial | exact rfl | exact ⟨_, rfl, rfl, rfl, Nat.le_refl _, fun _ _ => rfl⟩ | exact ⟨_, rfl, rfl, rfl, fun _ _ => rfl⟩ | exact ⟨_, rfl, rfl, rfl⟩ | exact ⟨_, rfl, rfl⟩ | refine ⟨_, rfl, rfl, rfl, by omega, fun k hk => ?_⟩ | refine ⟨?_, ?_⟩ | fail))
  · (refine wGo ?_; ((conv => arg 5; whnf); repeat (refine xS ?_; conv => arg 5; whnf)))
    have h1' : i = l.length := (by (try simp only [ww] at *); omega)
    subst h1'
    rw [List.take_length]
    exact wD <| cutE <| loopX <| blockX (Ends.shutN (.inl rfl) (Ent.refl _) rfl rfl rfl)
end Go.Proofs.YtmoohekgheoliaaGreatDoor
namespace Go.Proofs.YtmoohekgheoliaaGreatDoor
set_option maxRecDepth 100000
open Go.Sx
theorem wend_can (ty : TypeId) (b : List UInt8) (hb : b.length ≤ 1000000) : Does Tryz.prog 128 [(.abs (wrP ty ⟨b, 0⟩), .abs (wrP ty ⟨b, 0⟩))] [] [] (.tup [.one (.slc 0 1 0 b.length), .one (.raw (.int .i64 0))]) (some (.vec 5 1 b.length (rowB b))) := by
  refine Does.of Tryz.T_ok Tryz.func128 rfl _ _ _ _ _ rfl rfl rfl 18 (fun C hC => ?_)
  (replace hC : C.n0 = 1 := hC; change Tri _ _ _ ⟨_, _, 1⟩ _)
  refine WrM.opens ty ⟨b, 0⟩ 0 rfl (Tri.of Tryz.mixed Tryz.T_ok ?_)
  (refine wBegin ?_; ((conv => arg 5; whnf); repeat (refine xS ?_; conv => arg 5; whnf)))
  (refine wFd rfl ?_; refine wGo ?_; ((conv => arg 5; whnf); repeat (refine xS ?_; conv => arg 5; whnf)))
  (apply wP; exact (call_op rfl (entersB_of Tryz.func148 (by kernel_rfl)) rfl ((clone_can b (Nat.le_trans hb (by decide))).at [2] ⟨lend_vec0 rfl rfl, trivial⟩ trivial)); ((conv => arg 5; whnf); repeat (refine xS ?_; conv => arg 5; whnf)))
  exact wD (Ends.does (.inr rfl) (WrM.shuts ty ⟨b, 0⟩ 0 rfl rfl rfl rfl rfl (Nat.le_refl _) (fun _ _ => rfl)) rfl rfl (Nat.le_of_ble_eq_true rfl) rfl)
abbrev twr : TypeId := 193
def payParts (t : TxM) : List (List UInt8) := numL t.kind 1 :: (insParts t.ins ++ (outsParts t.outs ++ fwdsParts t.fwds))
def payEnc (t : TxM) : List UInt8 := (payParts t).flatten
theorem flatten_flatMap_le {E : Type} {f : E → List (List UInt8)} {k : Nat} (h : ∀ x, (f x).flatten.length ≤ k) : ∀ l : List E, (l.flatMap f).flatten.length ≤ k * l.length
  | [] => by simp
  | x :: l => by
    have := flatten_flatMap_le h l
    have := h x
    simp only [List.flatMap_cons, List.flatten_append, List.length_append, List.length_cons, Nat.mul_add]
    omega
theorem hashesL_flat (p : Nat → H8) : ∀ n, (hashesL p n).flatten.length = 8 * n
  | 0 => rfl
  | n + 1 => by rw [hashesL_succ, List.flatten_append, List.length_append, hashesL_flat p n]; simp [H8.l_len]; omega
theorem sig_flat (s : SigM) : s.parts.flatten.length = 281 := by
  simp only [SigM.parts, List.flatten_cons, List.flatten_append, List.length_append, hashesL_flat, numL_length]
theorem payEnc_len {t : TxM} (h : payB t = true) : (payEnc t).length ≤ 3000 := by
  rw [payB, Bool.and_eq_true, Bool.and_eq_true, Bool.and_eq_true] at h
  obtain ⟨h1, h2, h3, _⟩ := h
  rw [insOK, Bool.and_eq_true, within_iff] at h1
  rw [outsOK, Bool.and_eq_true, decide_eq_true_eq] at h2
  rw [fwdsOK, Bool.and_eq_true, decide_eq_true_eq] at h3
  have e1 := flatten_flatMap_le (f := InM.parts) (k := 298) (fun x => by simp only [InM.parts, List.flatten_cons, List.length_append, numL_length, H8.l_len, sig_flat]; omega) t.ins
  have e2 := flatten_flatMap_le (f := OutM.parts) (k := 15) (fun x => by simp only [OutM.parts, List.flatten_cons, List.flatten_nil, List.length_append, List.length_nil, numL_length, H8.l_len]; omega) t.outs
  have e3 := flatten_flatMap_le (f := FwdM.parts) (k := 18) (fun x => by simp only [FwdM.parts, List.flatten_cons, List.flatten_nil, List.length_append, List.length_nil, numL_length, H8.l_len]; omega) t.fwds
  simp only [payEnc, payParts, insParts, outsParts, fwdsParts, List.flatten_cons, List.flatten_append, List.length_append, numL_length]
  omega
theorem payEnc_puts {t : TxM} (h : payB t = true) : (((((⟨[], 0⟩ : WrM).put (numL t.kind 1)).puts (insParts t.ins)).puts (outsParts t.outs)).puts (fwdsParts t.fwds)) = ⟨payEnc t, 0⟩ := by
  have := payEnc_len h
  rw [← puts_append, ← puts_append]
  show (⟨[], 0⟩ : WrM).puts (payParts t) = _
  rw [puts_ok rfl (by show 0 + (payEnc t).length ≤ _; omega)]
  rfl
theorem may_true {t : TxM} (hk : t.kind = 2) (hs : Sized t) (hc : t.claim.Wf) (hm : mayPay t hc = true) : Reads Tryz.prog 36 [.box t.ac] [] (XV.bool true) := hm ▸ mayPay_can t hk hs hc
theorem may_false {t : TxM} (hk : t.kind = 2) (hs : Sized t) (hc : t.claim.Wf) (hm : mayPay t hc = false) : Reads Tryz.prog 36 [.box t.ac] [] (XV.bool false) := hm ▸ mayPay_can t hk hs hc
set_option maxHeartbeats 4000000 in
theorem encode_can (t : TxM) (hk : t.kind = 2) (hs : Sized t) (hc : t.claim.Wf) (hm : mayPay t hc = true) : Makes Tryz.prog 95 [.box t.ac] [] (.tup [.one (.slc 0 1 0 (payEnc t).length), .one (.raw (.int .i64 0))]) (.vec 5 1 (payEnc t).length (rowB (payEnc t))) := by
  have hmay := may_true hk hs hc hm
  have hpB : payB t = true := by rw [mayPay, Bool.and_eq_true] at hm; exact hm.1
  have hpp := payEnc_puts hpB
  have hpl := payEnc_len hpB
  rw [payB, Bool.and_eq_true, Bool.and_eq_true, Bool.and_eq_true] at hpB
  obtain ⟨h1, h2, h3, _⟩ := hpB
  have q1 : ((⟨[], 0⟩ : WrM).put (numL t.kind 1)).b.length ≤ 131072 := put_len (by simp)
  have q2 := puts_len (cs := insParts t.ins) q1
  have q3 := puts_len (cs := outsParts t.outs) q2
  refine Makes.of Tryz.T_ok Tryz.func95 rfl _ _ _ _ rfl rfl rfl rfl 43 (fun C hC => ?_)
  (replace hC : C.n0 = 6 := hC; change Tri _ _ _ ⟨_, _, 6⟩ _)
  (refine Tri.cut 3 Tryz.mixed Tryz.T_ok ?_; ((conv => arg 5; whnf); repeat (refine xS ?_; conv => arg 5; whnf)))
  (apply wP; exact (call_op rfl (entersB_of Tryz.func36 (by kernel_rfl)) rfl (hmay.at [0, 1, 2, 3, 4, 5] ⟨lend_tx (t := t) (lend_ro0 rfl rfl) (lend_ro0 rfl rfl) (lend_ro0 rfl rfl) (lend_ro0 rfl rfl) (lend_ro0 rfl rfl) (lend_ro0 rfl rfl), trivial⟩ trivial)); ((conv => arg 5; whnf); repeat (refine xS ?_; conv => arg 5; whnf)))
  refine wD <| cutG <| Tri.ent (Ent.nilc (c := 13) (j := 0) rfl rfl 5 1) <| Tri.ent (WrM.shuts (i1 := 15) (n := 0) (f := fun _ => []) twr ⟨[], 0⟩ 13 rfl rfl rfl rfl rfl (Nat.zero_le _) (fun i hi => absurd hi (Nat.not_lt_zero _))) <| Tri.of Tryz.mixed Tryz.T_ok ?_
  (refine wBegin ?_; ((conv => arg 5; whnf); repeat (refine xS ?_; conv => arg 5; whnf)))
  (apply wP; exact (call_op rfl (entersB_of Tryz.func121 (by kernel_rfl)) rfl ((wnum_can twr ⟨[], 0⟩ t.kind 1 ⟨by decide, by decide, by omega, by omega⟩ (by decide)).at [] rfl rfl rfl ⟨lend_plain rfl, lend_plain rfl, trivial⟩ trivial)); ((conv => arg 5; whnf); repeat (refine xS ?_; conv => arg 5; whnf)))
  (refine wFd ?_ ?_; (first | refine decide_eq_false ?_ | rw [beq_eq_false_iff_ne] | rw [bne_eq_false_iff_eq]); exact (by (try simp only [ww] at *); omega); refine wGo ?_; ((conv => arg 5; whnf); repeat (refine xS ?_; conv => arg 5; whnf)))
  (refine wTd ?_ ?_; (first | refine decide_eq_true ?_ | rw [beq_iff_eq] | rw [bne_iff_ne]); exact (by (try simp only [ww] at *); omega); refine wGo ?_; ((conv => arg 5; whnf); repeat (refine xS ?_; conv => arg 5; whnf)))
  (apply wP; exact (call_op rfl (entersB_of Tryz.func123 (by kernel_rfl)) rfl ((wins_can twr ((⟨[], 0⟩ : WrM).put (numL t.kind 1)) t.ins h1 q1).at [0] rfl rfl rfl ⟨lend_ro0 rfl rfl, trivial⟩ trivial)); ((conv => arg 5; whnf); repeat (refine xS ?_; conv => arg 5; whnf)))
  (apply wP; exact (call_op rfl (entersB_of Tryz.func122 (by kernel_rfl)) rfl ((wouts_can twr (((⟨[], 0⟩ : WrM).put (numL t.kind 1)).puts (insParts t.ins)) t.outs h2 q2).at [1] rfl rfl rfl ⟨lend_ro0 rfl rfl, trivial⟩ trivial)); ((conv => arg 5; whnf); repeat (refine xS ?_; conv => arg 5; whnf)))
  (apply wP; exact (call_op rfl (entersB_of Tryz.func124 (by kernel_rfl)) rfl ((wfwds_can twr ((((⟨[], 0⟩ : WrM).put (numL t.kind 1)).puts (insParts t.ins)).puts (outsParts t.outs)) t.fwds h3 q3).at [2] rfl rfl rfl ⟨lend_ro0 rfl rfl, trivial⟩ trivial)); ((conv => arg 5; whnf); repeat (refine xS ?_; conv => arg 5; whnf)))
  rw [hpp]
  (apply wP; exact (call_op rfl (entersB_of Tryz.func128 (by kernel_rfl)) rfl ((wend_can twr (payEnc t) (by omega)).at1 [] rfl rfl rfl trivial trivial)); ((conv => arg 5; whnf); repeat (refine xS ?_; conv => arg 5; whnf)))
  exact wD (Ends.made (.inr rfl) (Ent.refl _) rfl (Nat.le_of_ble_eq_true rfl) rfl)
end Go.Proofs.YtmoohekgheoliaaGreatDoor
namespace Go.Proofs.YtmoohekgheoliaaGreatDoor
set_option maxRecDepth 100000
open Go.Sx
theorem part_here {M : Mem} {rd : List Nat} {q n i sz cp k : Nat} {ln : Nat → Nat} {g : Nat → Nat → List Value} {ad : Nat → Option Addr} {cell : List Value} {f : Nat → List Value} (hm : M.get q = some (.ext (PartsAt sz n ln g ad))) (hrd : nmem q rd = true) (hi : i < n) (hc : cell = [.slice (ad i) (ln i) cp]) (hk : ln i = k) (hf : g i = f) : PartIn M rd sz cell k f :=
  ⟨q, n, ln, g, ad, i, cp, hm, hrd, hi, hc, hk, hf⟩
theorem parts_cons {M : Mem} {rd : List Nat} {q1 q2 cp0 n : Nat} {ad0 : Option Addr} {ad : Nat → Option Addr} {cp : Nat → Nat} {e : List UInt8} {bss : List (List UInt8)} {F : Nat → List Value}
    (h1 : M.get q1 = some (.ext (PartsAt 1 1 (fun _ => e.length) (fun _ => rowB e) (fun _ => ad0)))) (r1 : nmem q1 rd = true) (h2 : M.get q2 = some (.ext (PartsAt 1 bss.length (fun i => (bss.getD i []).length) (fun i => rowB (bss.getD i [])) ad))) (r2 : nmem q2 rd = true)
    (hF : F = joinF (cutF [.slice ad0 e.length cp0] 1) 1 (fun i => [.slice (ad (0 + i)) ((bss.getD (0 + i) []).length) (cp (0 + i))])) (hn : n = bss.length) : ∀ i, i < n + 1 → PartIn M rd 1 (F i) (((e :: bss).getD i []).length) (rowB ((e :: bss).getD i [])) := by
  subst hF hn
  intro i hi
  cases i with
  | zero => exact part_here (i := 0) h1 r1 (by decide) rfl rfl rfl
  | succ i =>
    refine part_here (i := i) (cp := cp i) h2 r2 (by omega) ?_ rfl rfl
    simp only [joinF, nblt, show ¬ i + 1 < 1 by omega, decide_false, cond_false, Nat.add_sub_cancel, Nat.zero_add]
set_option maxHeartbeats 2000000 in
theorem digest_pay (p : UInt8) (t : TxM) (bss : List (List UInt8)) (hk : t.kind = 2) (hs : Sized t) (hc : t.claim.Wf) (hm : mayPay t hc = true) (hb : bss.length ≤ 1000) (hsh : Short (encAll p (payEnc t :: bss))) : Reads Tryz.prog 56 [.plain (.one (.raw (u8 p))), .box t.ac, partsA bss] [stepsP] (.tup [(dig p (payEnc t :: bss)).x, .one (.raw (.bool true))]) := by
  refine Reads.of Tryz.T_ok Tryz.func56 rfl _ _ _ rfl rfl (fun C hC => ?_)
  (replace hC : C.n0 = 9 := hC; change Tri _ _ _ ⟨_, _, 9⟩ _)
  (refine Tri.cut 2 Tryz.mixed Tryz.T_ok ?_; ((conv => arg 5; whnf); repeat (refine xS ?_; conv => arg 5; whnf)))
  (apply wP; exact (call_op rfl (entersB_of Tryz.func95 (by kernel_rfl)) rfl ((encode_can t hk hs hc hm).at [1, 2, 3, 4, 5, 6] ⟨lend_tx (t := t) (lend_ro0 rfl rfl) (lend_ro0 rfl rfl) (lend_ro0 rfl rfl) (lend_ro0 rfl rfl) (lend_ro0 rfl rfl) (lend_ro0 rfl rfl), trivial⟩ trivial)); ((conv => arg 5; whnf); repeat (refine xS ?_; conv => arg 5; whnf)))
  refine wD <| cutG <| Tri.openRows (c := 7) rfl fun ad cp => Tri.freeze 8 (c := 13) rfl rfl (Nat.le_refl _) fun ad0 cp0 => Tri.of Tryz.mixed Tryz.T_ok ?_
  (refine wBegin ?_; ((conv => arg 5; whnf); repeat (refine xS ?_; conv => arg 5; whnf)))
  (refine wP _ _ (append_op Tryz.T_ok rfl rfl rfl rfl rfl [25, 7] (old_vec rfl rfl (Nat.le_refl _) rfl) (new_ro (lo := 0) rfl rfl (Nat.le_of_eq (Nat.zero_add _)) rfl) rfl (fun _ _ => rfl) (by simp only [maxLen]; omega) (by dsimp only; omega)) ?_; ((conv => arg 5; whnf); repeat (refine xS ?_; conv => arg 5; whnf)))
  rw [Nat.add_comm 1 bss.length]
  (apply wP; exact (call_op rfl (entersB_of Tryz.func96 (by kernel_rfl)) rfl ((of_can p (payEnc t :: bss) hsh).at [27, 19, 20, 8] ⟨lend_plain rfl, lend_rows_vec rfl rfl (parts_cons (q1 := 20) (q2 := 19) rfl rfl rfl rfl rfl rfl), trivial⟩ ⟨lend_ext (c := 8) rfl rfl, trivial⟩)); ((conv => arg 5; whnf); repeat (refine xS ?_; conv => arg 5; whnf)))
  exact wD (Ends.plain (.inr rfl) rfl rfl)
theorem id_pay (t : TxM) (hk : t.kind = 2) (hs : Sized t) (hc : t.claim.Wf) (hm : mayPay t hc = true) : Reads Tryz.prog 33 [.box t.ac] [stepsP] (.tup [(dig 120 [payEnc t]).x, .one (.raw (.bool true))]) := by
  have hl : (payEnc t).length ≤ 3000 := by
    rw [mayPay, Bool.and_eq_true] at hm
    exact payEnc_len hm.1
  refine Reads.of Tryz.T_ok Tryz.func33 rfl _ _ _ rfl rfl (fun C hC => ?_)
  (replace hC : C.n0 = 7 := hC; change Tri _ _ _ ⟨_, _, 7⟩ _)
  refine Tri.of Tryz.mixed Tryz.T_ok ?_
  (refine wBegin ?_; ((conv => arg 5; whnf); repeat (refine xS ?_; conv => arg 5; whnf)))
  (apply wP; exact (call_op rfl (entersB_of Tryz.func56 (by kernel_rfl)) rfl ((digest_pay 120 t [] hk hs hc hm (by decide) (short1 _ _ (by omega))).at [0, 1, 2, 3, 4, 5, 6] ⟨lend_plain rfl, lend_tx (t := t) (lend_ro0 rfl rfl) (lend_ro0 rfl rfl) (lend_ro0 rfl rfl) (lend_ro0 rfl rfl) (lend_ro0 rfl rfl) (lend_ro0 rfl rfl), lend_rows_nil _ _ _, trivial⟩ ⟨lend_ext (c := 6) rfl rfl, trivial⟩)); ((conv => arg 5; whnf); repeat (refine xS ?_; conv => arg 5; whnf)))
  exact wD (Ends.plain (.inr rfl) rfl rfl)
end Go.Proofs.YtmoohekgheoliaaGreatDoor
namespace Go.Proofs.YtmoohekgheoliaaGreatDoor
set_option maxRecDepth 100000
open Go.Sx
theorem cloneIns_can (l : List InM) (hl : l.length ≤ 1000000) : Makes Tryz.prog 106 [.row 298 l.length (insF l)] [] (XV.sv (.slc 0 298 0 l.length)) (.vec 65 298 l.length (insF l)) := by
  refine Makes.of Tryz.T_ok Tryz.func106 rfl _ _ _ _ rfl rfl rfl rfl 1 (fun C hC => ?_)
  (replace hC : C.n0 = 1 := hC; change Tri _ _ _ ⟨_, _, 1⟩ _)
  (refine Tri.cut 1 Tryz.mixed Tryz.T_ok ?_; ((conv => arg 5; whnf); repeat (refine xS ?_; conv => arg 5; whnf)))
  refine wD <| cutG <| Tri.nilCases 0 rfl (fun h0 => ?_) (fun cap hcap => ?_)
  · obtain rfl : l = [] := List.length_eq_zero_iff.1 h0
    refine Tri.of Tryz.mixed Tryz.T_ok ?_
    (refine wBegin ?_; ((conv => arg 5; whnf); repeat (refine xS ?_; conv => arg 5; whnf)))
    refine wD (Ends.made (S' := ⟨[none, none, some (XV.sv (.slc 1 298 0 0)), none, none, none, none, none], [(0, .ro 298 0 (insF [])), (1, .vec 65 298 0 (insF []))], 2⟩) (.inr rfl) ((Ent.nils (t := 2) rfl 65 298).trans ?_) rfl (Nat.le_refl _) rfl)
    ((try dsimp only); refine Ent.renC [0, 5] hC ?_ ?_ <;> repeat' (first | exact trivial | exact rfl | exact ⟨_, rfl, rfl, rfl, Nat.le_refl _, fun _ _ => rfl⟩ | exact ⟨_, rfl, rfl, rfl, fun _ _ => rfl⟩ | exact ⟨_, rfl, rfl, rfl⟩ | exact ⟨_, rfl, rfl⟩ | refine ⟨_, rfl, rfl, rfl, by omega, fun k hk => ?_⟩ | refine ⟨?_, ?_⟩ | fail))
    exact absurd hk (Nat.not_lt_zero _)
  · refine Tri.of Tryz.mixed Tryz.T_ok ?_
    (refine wBegin ?_; ((conv => arg 5; whnf); repeat (refine xS ?_; conv => arg 5; whnf)))
    (refine wP _ _ (append_op Tryz.T_ok rfl rfl rfl rfl rfl [0, 4] (old_vec rfl rfl (Nat.le_refl _) rfl) (new_slar (lo := 0) rfl rfl rfl (Nat.zero_mul _).symm (by omega)) rfl (fun _ _ => rfl) (by simp only [maxLen]; omega) (by dsimp only; omega)) ?_; ((conv => arg 5; whnf); repeat (refine xS ?_; conv => arg 5; whnf)))
    simp only [Nat.zero_add]
    refine wD (Ends.made (S' := ⟨[none, none, some (XV.sv (.slc 1 298 0 l.length)), none, none, none, none, none], [(0, .ro 298 l.length (insF l)), (1, .vec 65 298 l.length (insF l))], 2⟩) (.inr rfl) ?_ rfl (Nat.le_refl _) rfl)
    ((try dsimp only); refine Ent.renC [0, 6] hC ?_ ?_ <;> repeat' (first | exact trivial | exact rfl | exact ⟨_, rfl, rfl, rfl, Nat.le_refl _, fun _ _ => rfl⟩ | exact ⟨_, rfl, rfl, rfl, fun _ _ => rfl⟩ | exact ⟨_, rfl, rfl, rfl⟩ | exact ⟨_, rfl, rfl⟩ | refine ⟨_, rfl, rfl, rfl, by omega, fun k hk => ?_⟩ | refine ⟨?_, ?_⟩ | fail))
def InM.bare (x : InM) : InM := ⟨x.pt, x.key, sig0⟩
def TxM.msg (t : TxM) : TxM := { t with ins := t.ins.map InM.bare }
def bareF (l : List InM) (k : Nat) : Nat → List Value := fun j => if j < k then (l.getD j default).bare.cells else (l.getD j default).cells
theorem bare_cells (x : InM) : x.cells.take 17 ++ sig0.cells ++ x.cells.drop (17 + sig0.cells.length) = x.bare.cells := rfl
theorem bareF_step (l : List InM) (i k : Nat) : updF (bareF l i) i 17 sig0.cells k = bareF l (i + 1) k := by
  by_cases hk : k = i
  · subst hk
    rw [updF_eq]
    unfold bareF
    rw [if_neg (Nat.lt_irrefl k), if_pos (Nat.lt_succ_self k), bare_cells]
  · rw [updF_ne hk]
    unfold bareF
    by_cases h : k < i
    · rw [if_pos h, if_pos (by omega)]
    · rw [if_neg h, if_neg (by omega)]
theorem bareF_all {l : List InM} {k : Nat} (hk : k < l.length) : bareF l l.length k = insF (l.map InM.bare) k := by
  unfold bareF insF rowOf
  rw [if_pos hk]
  congr 1
  rw [List.getD_eq_getElem?_getD, List.getD_eq_getElem?_getD, List.getElem?_map, List.getElem?_eq_getElem hk]
  rfl
theorem getD_map_bare {l : List InM} {i : Nat} (hi : i < l.length) : (l.map InM.bare).getD i default = (l.getD i default).bare := by
  rw [List.getD_eq_getElem?_getD, List.getD_eq_getElem?_getD, List.getElem?_map, List.getElem?_eq_getElem hi]
  rfl
theorem any_bare (l : List InM) (x : InM) (n : Nat) : ((l.map InM.bare).take n).any (sameAs x.bare) = (l.take n).any (sameAs x) := by
  rw [← List.map_take, List.any_map]
  rfl
theorem insOK_bare {l : List InM} (h : insOK l = true) : insOK (l.map InM.bare) = true := by
  rw [insOK, Bool.and_eq_true] at h ⊢
  rw [List.length_map]
  refine ⟨?_, h.2⟩
  rw [List.all_eq_true] at h ⊢
  intro i hi
  have hil := List.mem_range.1 hi
  have := h.1 i hi
  rw [insAt, Bool.and_eq_true, Bool.and_eq_true] at this ⊢
  rw [getD_map_bare hil, any_bare]
  exact ⟨this.1, this.2.1, rfl⟩
theorem mayPay_iff {t : TxM} {hc : t.claim.Wf} : mayPay t hc = true ↔ payB t = true ∧ (emptyB t.bare && claimZ t.claim hc) = true := by
  unfold mayPay; rw [Bool.and_eq_true]
theorem mayPay_msg {t : TxM} {hc : t.claim.Wf} (h : mayPay t hc = true) : mayPay t.msg hc = true := by
  have h := mayPay_iff.1 h
  refine mayPay_iff.2 ⟨?_, h.2⟩
  have h1 := h.1
  unfold payB at h1 ⊢
  rw [Bool.and_eq_true] at h1 ⊢
  exact ⟨insOK_bare h1.1, h1.2⟩
theorem Sized.msg {t : TxM} (h : Sized t) : Sized t.msg := ⟨by simpa [TxM.msg] using h.ins, h.outs, h.fwds, h.keys, h.couts, h.sigs⟩
theorem row1 {x : UInt8} {v : Value} (h : v = u8 x) : ∀ i, i < [x].length → rowB [x] i = cutF [v] 1 (0 + i) := by
  subst h
  intro i hi
  match i, hi with
  | 0, _ => rfl
def msgSt (t : TxM) (i : Int) (k : Nat) : St :=
  ⟨[none, some (XV.int .i64 i), some (XV.sv (.ptr 8 0 0 0)), none, some (XV.sv (.ptr 9 0 0 0))] ++ List.replicate 28 none ++ [some (XV.int .i64 t.ins.length), some (XV.int .i64 k)] ++ List.replicate 17 none,
   [(1, .ro 9 t.outs.length (outsF t.outs)), (2, .ro 11 t.fwds.length (fwdsF t.fwds)), (3, .ro 8 t.par.keys.length (keysF t.par.keys)), (4, .ro 9 t.cert.outs.length (outsF t.cert.outs)), (5, .ro 282 t.cert.sigs.length (sgdsF t.cert.sigs)), (7, .ext stepsP),
    (8, .cells 49 (txCells t (.slc 10 298 0 t.ins.length) (.slc 1 9 0 t.outs.length) (.slc 2 11 0 t.fwds.length) (.slc 3 8 0 t.par.keys.length) (.slc 4 9 0 t.cert.outs.length) (.slc 5 282 0 t.cert.sigs.length))),
    (9, .cells 39 ((List.replicate 8 (u8 0)).map .raw)), (10, .vec 65 298 t.ins.length (bareF t.ins k))], 11⟩
def msgH (t : TxM) (i : Int) : H8 := dig 105 [payEnc t.msg, [byteI (IntKind.u8.wrap i)]]
set_option maxHeartbeats 4000000 in
theorem message_can (t : TxM) (i : Nat) (hk : t.kind = 2) (hs : Sized t) (hc : t.claim.Wf) (hm : mayPay t hc = true) (hi : i < t.ins.length) : Reads Tryz.prog 73 [.box t.ac, .plain (.one (.raw (.int .i64 i)))] [stepsP] (.tup [(msgH t i).x, .one (.raw (.bool true))]) := by
  have hmay := may_true hk hs hc hm
  have hm' := mayPay_msg hm
  have hl : (payEnc t.msg).length ≤ 3000 := payEnc_len (mayPay_iff.1 hm').1
  have hins : t.ins.length ≤ 8 := by
    have := (mayPay_iff.1 hm).1
    rw [payB, Bool.and_eq_true, insOK, Bool.and_eq_true, within_iff] at this
    omega
  refine Reads.of Tryz.T_ok Tryz.func73 rfl _ _ _ rfl rfl (fun C hC => ?_)
  (replace hC : C.n0 = 8 := hC; change Tri _ _ _ ⟨_, _, 8⟩ _)
  (refine Tri.cut 3 Tryz.mixed Tryz.T_ok ?_; ((conv => arg 5; whnf); repeat (refine xS ?_; conv => arg 5; whnf)))
  (refine wFd ?_ ?_; (first | refine decide_eq_false ?_ | rw [beq_eq_false_iff_ne] | rw [bne_eq_false_iff_eq]); exact (by (try simp only [ww] at *); omega); refine wGo ?_; ((conv => arg 5; whnf); repeat (refine xS ?_; conv => arg 5; whnf)))
  (refine wFd ?_ ?_; (first | refine decide_eq_false ?_ | rw [beq_eq_false_iff_ne] | rw [bne_eq_false_iff_eq]); exact (by (try simp only [ww] at *); omega); refine wGo ?_; ((conv => arg 5; whnf); repeat (refine xS ?_; conv => arg 5; whnf)))
  (refine wFd ?_ ?_; (first | refine decide_eq_false ?_ | rw [beq_eq_false_iff_ne] | rw [bne_eq_false_iff_eq]); exact (by (try simp only [ww] at *); omega); refine wGo ?_; ((conv => arg 5; whnf); repeat (refine xS ?_; conv => arg 5; whnf)))
  (apply wP; exact (call_op rfl (entersB_of Tryz.func36 (by kernel_rfl)) rfl (hmay.at [0, 1, 2, 3, 4, 5] ⟨lend_tx (t := t) (lend_ro0 rfl rfl) (lend_ro0 rfl rfl) (lend_ro0 rfl rfl) (lend_ro0 rfl rfl) (lend_ro0 rfl rfl) (lend_ro0 rfl rfl), trivial⟩ trivial)); ((conv => arg 5; whnf); repeat (refine xS ?_; conv => arg 5; whnf)))
  (apply wP; exact (call_op rfl (entersB_of Tryz.func106 (by kernel_rfl)) rfl ((cloneIns_can t.ins (by omega)).at [0] ⟨lend_ro0 rfl rfl, trivial⟩ trivial)); ((conv => arg 5; whnf); repeat (refine xS ?_; conv => arg 5; whnf)))
  refine wD <| cutG <| Tri.seq ?_
  (refine Tri.cut 1 Tryz.mixed Tryz.T_ok ?_; ((conv => arg 5; whnf); repeat (refine xS ?_; conv => arg 5; whnf)))
  refine wD <| cutG <| Tri.block ?_
  refine Tri.loop (α := { k : Nat // k ≤ t.ins.length }) (fun k => msgSt t i k.1) (fun k => t.ins.length - k.1) ⟨0, Nat.zero_le _⟩ ?_ ?_
  · ((try dsimp only); refine Ent.renC [0, 1, 2, 3, 4, 5, 6, 7, 8, 9, 32] hC ?_ ?_ <;> repeat' (first | exact trivial | exact rfl | exact ⟨_, rfl, rfl, rfl, Nat.le_refl _, fun _ _ => rfl⟩ | exact ⟨_, rfl, rfl, rfl, fun _ _ => rfl⟩ | exact ⟨_, rfl, rfl, rfl⟩ | exact ⟨_, rfl, rfl⟩ | refine ⟨_, rfl, rfl, rfl, by omega, fun k hk => ?_⟩ | refine ⟨?_, ?_⟩ | fail))
  rintro ⟨k, hkk⟩
  dsimp only
  (refine Tri.cut 2 Tryz.mixed Tryz.T_ok ?_; ((conv => arg 5; whnf); repeat (refine xS ?_; conv => arg 5; whnf)))
  refine wC (fun h1 => ?_) (fun h1 => ?_)
  · (refine wGo ?_; ((conv => arg 5; whnf); repeat (refine xS ?_; conv => arg 5; whnf)))
    have h1' : k < t.ins.length := (by (try simp only [ww] at *); omega)
    have hw : IntKind.i64.wrap ((k : Int) + 1) = ((k + 1 : Nat) : Int) := (by (try simp only [ww] at *); omega)
    refine wD <| cutG <| Tri.seq <| Tri.block <| Tri.of Tryz.mixed Tryz.T_ok ?_
    (refine wBegin ?_; ((conv => arg 5; whnf); repeat (refine xS ?_; conv => arg 5; whnf)))
    (repeat (refine wN ?_ ?_; exact (by (try simp only [ww] at *); omega); refine wGo ?_; ((conv => arg 5; whnf); repeat (refine xS ?_; conv => arg 5; whnf))))
    simp only [Nat.zero_add, Int.toNat_natCast]
    refine wD <| blockN <| cutG <| Tri.of Tryz.mixed Tryz.T_ok ?_
    (refine wBegin ?_; ((conv => arg 5; whnf); repeat (refine xS ?_; conv => arg 5; whnf)))
    refine wD <| loopN ⟨⟨k + 1, h1'⟩, by dsimp only; omega, ?_⟩
    rw [hw]
    ((try dsimp only); refine Ent.renC [0, 1, 2, 3, 4, 5, 6, 7, 8, 9, 10] hC ?_ ?_ <;> repeat' (first | exact trivial | exact rfl | exact ⟨_, rfl, rfl, rfl, Nat.le_refl _, fun _ _ => rfl⟩ | exact ⟨_, rfl, rfl, rfl, fun _ _ => rfl⟩ | exact ⟨_, rfl, rfl, rfl⟩ | exact ⟨_, rfl, rfl⟩ | refine ⟨_, rfl, rfl, rfl, by omega, fun k hk => ?_⟩ | refine ⟨?_, ?_⟩ | fail))
    exact bareF_step _ _ _
  · (refine wGo ?_; ((conv => arg 5; whnf); repeat (refine xS ?_; conv => arg 5; whnf)))
    have h1' : k = t.ins.length := (by (try simp only [ww] at *); omega)
    subst h1'
    refine wD <| cutE <| loopX <| blockX <| cutG <| Tri.of Tryz.mixed Tryz.T_ok ?_
    (refine wBegin ?_; ((conv => arg 5; whnf); repeat (refine xS ?_; conv => arg 5; whnf)))
    (refine wP _ _ (cellsNew_op Tryz.T_ok rfl rfl rfl) ?_; ((conv => arg 5; whnf); repeat (refine xS ?_; conv => arg 5; whnf)))
    (apply wP; exact (call_op rfl (entersB_of Tryz.func56 (by kernel_rfl)) rfl ((digest_pay 105 t.msg [[byteI (IntKind.u8.wrap (i : Int))]] hk hs.msg hc hm' (by simp) (short2 _ _ _ (by simp; omega))).at [1, 2, 3, 4, 5, 7, 10, 15, 16] ⟨lend_plain rfl, lend_tx (t := t.msg) (lend_vecN (lo := 0) (List.length_map _).symm rfl rfl (by simp [TxM.msg]) (fun k hk => by rw [Nat.zero_add, bareF_all (by simpa [TxM.msg] using hk)]; rfl)) (lend_ro0 rfl rfl) (lend_ro0 rfl rfl) (lend_ro0 rfl rfl) (lend_ro0 rfl rfl) (lend_ro0 rfl rfl), lend_parts [[byteI (IntKind.u8.wrap (i : Int))]] rfl rfl rfl ⟨lend_vec (lo := 0) rfl rfl (Nat.le_refl _) (row1 (u8_byteI _).symm), trivial⟩, trivial⟩ ⟨lend_ext (c := 7) rfl rfl, trivial⟩)); ((conv => arg 5; whnf); repeat (refine xS ?_; conv => arg 5; whnf)))
    exact wD (Ends.plain (.inr rfl) rfl rfl)
end Go.Proofs.YtmoohekgheoliaaGreatDoor
namespace Go.Proofs.YtmoohekgheoliaaGreatDoor
set_option maxRecDepth 100000
open Go.Sx
def amtsF (l : List Int) : Nat → List Value := fun i => [.int .i64 (l.getD i 0)]
def sumM : Int → List Int → Option Int
  | acc, [] => some acc
  | acc, x :: r => if bothB acc x (IntKind.i64.wrap (acc + x)) = true then sumM (IntKind.i64.wrap (acc + x)) r else none
def sumX (l : List Int) : XV := .tup [.one (.raw (.int .i64 ((sumM 0 l).getD 0))), .one (.raw (.bool (sumM 0 l).isSome))]
theorem bothV_true {a b n : Int} (h : bothB a b n = true) : bothV a b n = [.one (.raw (.int .i64 n)), .one (.raw (.bool true))] := by rw [bothV, h]; rfl
theorem bothV_false {a b n : Int} (h : bothB a b n = false) : bothV a b n = [.one (.raw (.int .i64 0)), .one (.raw (.bool false))] := by rw [bothV, h]; rfl
theorem add_true {a b : Int} (h : bothB a b (IntKind.i64.wrap (a + b)) = true) (M : Mem) (d : Nat) : CallSpec Tryz.prog 52 [.one (.raw (.int .i64 a)), .one (.raw (.int .i64 b))] M d { v := .tup [.one (.raw (.int .i64 (IntKind.i64.wrap (a + b)))), .one (.raw (.bool true))] } [] := bothV_true h ▸ add_spec a b M d
theorem add_false {a b : Int} (h : bothB a b (IntKind.i64.wrap (a + b)) = false) (M : Mem) (d : Nat) : CallSpec Tryz.prog 52 [.one (.raw (.int .i64 a)), .one (.raw (.int .i64 b))] M d { v := .tup [.one (.raw (.int .i64 0)), .one (.raw (.bool false))] } [] := bothV_false h ▸ add_spec a b M d
theorem sub_spec (a b : Int) (M : Mem) (d : Nat) : CallSpec Tryz.prog 40 [.one (.raw (.int .i64 a)), .one (.raw (.int .i64 b))] M d { v := .tup (bothV a b (IntKind.i64.wrap (a - b))) } [] := by
  refine spec_pure Tryz.mixed Tryz.T_ok Tryz.func40 rfl _ _ rfl rfl (fun C _ => ?_) M d
  (refine wBegin ?_; ((conv => arg 5; whnf); repeat (refine xS ?_; conv => arg 5; whnf)))
  (apply wP; exact (call_op rfl (entersB_of Tryz.func75 (by kernel_rfl)) rfl (both_spec _ _ _ _ _)); ((conv => arg 5; whnf); repeat (refine xS ?_; conv => arg 5; whnf)))
  exact Ends.plain (.inr rfl) rfl rfl
theorem drop_cons {l : List Int} {i : Nat} (hi : i < l.length) : l.drop i = l.getD i 0 :: l.drop (i + 1) := by
  rw [List.drop_eq_getElem_cons hi, List.getD_eq_getElem?_getD, List.getElem?_eq_getElem hi]; rfl
theorem msum_can (l : List Int) (hl : l.length ≤ 2000000000) : Reads Tryz.prog 38 [.row 1 l.length (amtsF l)] [] (sumX l) := by
  refine Reads.of Tryz.T_ok Tryz.func38 rfl _ _ _ rfl rfl (fun C hC => ?_)
  (replace hC : C.n0 = 1 := hC; change Tri _ _ _ ⟨_, _, 1⟩ _)
  (refine Tri.cut 2 Tryz.mixed Tryz.T_ok ?_; ((conv => arg 5; whnf); repeat (refine xS ?_; conv => arg 5; whnf)))
  refine wD <| cutG <| Tri.seq ?_
  (refine Tri.cut 1 Tryz.mixed Tryz.T_ok ?_; ((conv => arg 5; whnf); repeat (refine xS ?_; conv => arg 5; whnf)))
  refine wD <| cutG <| Tri.block ?_
  refine Tri.loop (α := { x : Nat × Int // x.1 ≤ l.length ∧ sumM 0 l = sumM x.2 (l.drop x.1) }) (fun x => ⟨[some (XV.sv (.slc 0 1 0 l.length)), none, none, none, some (XV.int .i64 x.1.2), none, none, none, some (XV.sv (.slc 0 1 0 l.length)), some (XV.int .i64 l.length), some (XV.int .i64 x.1.1)] ++ List.replicate 13 none, [(0, .ro 1 l.length (amtsF l))], 1⟩) (fun x => l.length - x.1.1) ⟨(0, 0), Nat.zero_le _, by rw [List.drop_zero]⟩ ?_ ?_
  · ((try dsimp only); refine Ent.renC [0] hC ?_ ?_ <;> repeat' (first | exact trivial | exact rfl | exact ⟨_, rfl, rfl, rfl, Nat.le_refl _, fun _ _ => rfl⟩ | exact ⟨_, rfl, rfl, rfl, fun _ _ => rfl⟩ | exact ⟨_, rfl, rfl, rfl⟩ | exact ⟨_, rfl, rfl⟩ | refine ⟨_, rfl, rfl, rfl, by omega, fun k hk => ?_⟩ | refine ⟨?_, ?_⟩ | fail))
  rintro ⟨⟨i, acc⟩, hi, hs⟩
  dsimp only at hi hs ⊢
  (refine Tri.cut 2 Tryz.mixed Tryz.T_ok ?_; ((conv => arg 5; whnf); repeat (refine xS ?_; conv => arg 5; whnf)))
  refine wC (fun h1 => ?_) (fun h1 => ?_)
  · (refine wGo ?_; ((conv => arg 5; whnf); repeat (refine xS ?_; conv => arg 5; whnf)))
    have h1' : i < l.length := (by (try simp only [ww] at *); omega)
    have hw : IntKind.i64.wrap ((i : Int) + 1) = ((i + 1 : Nat) : Int) := (by (try simp only [ww] at *); omega)
    rw [drop_cons h1', sumM] at hs
    refine wD <| cutG <| Tri.seq <| Tri.block <| Tri.of Tryz.mixed Tryz.T_ok ?_
    (refine wBegin ?_; ((conv => arg 5; whnf); repeat (refine xS ?_; conv => arg 5; whnf)))
    (repeat (refine wN ?_ ?_; exact (by (try simp only [ww] at *); omega); refine wGo ?_; ((conv => arg 5; whnf); repeat (refine xS ?_; conv => arg 5; whnf))))
    simp only [Nat.zero_add, Int.toNat_natCast]
    cases h2 : bothB acc (l.getD i 0) (IntKind.i64.wrap (acc + l.getD i 0)) with
    | true =>
      rw [h2, if_pos rfl] at hs
      (apply wP; exact (call_op rfl (entersB_of Tryz.func52 (by kernel_rfl)) rfl (add_true h2 _ _)); ((conv => arg 5; whnf); repeat (refine xS ?_; conv => arg 5; whnf)))
      refine wD <| blockN <| cutG <| Tri.of Tryz.mixed Tryz.T_ok ?_
      (refine wBegin ?_; ((conv => arg 5; whnf); repeat (refine xS ?_; conv => arg 5; whnf)))
      refine wD <| loopN ⟨⟨(i + 1, IntKind.i64.wrap (acc + l.getD i 0)), h1', hs⟩, by dsimp only; omega, ?_⟩
      rw [hw]
      ((try dsimp only); refine Ent.renC [0] hC ?_ ?_ <;> repeat' (first | exact trivial | exact rfl | exact ⟨_, rfl, rfl, rfl, Nat.le_refl _, fun _ _ => rfl⟩ | exact ⟨_, rfl, rfl, rfl, fun _ _ => rfl⟩ | exact ⟨_, rfl, rfl, rfl⟩ | exact ⟨_, rfl, rfl⟩ | refine ⟨_, rfl, rfl, rfl, by omega, fun k hk => ?_⟩ | refine ⟨?_, ?_⟩ | fail))
    | false =>
      rw [h2, if_neg (by simp)] at hs
      (apply wP; exact (call_op rfl (entersB_of Tryz.func52 (by kernel_rfl)) rfl (add_false h2 _ _)); ((conv => arg 5; whnf); repeat (refine xS ?_; conv => arg 5; whnf)))
      refine wD <| blockR <| cutR <| loopR <| blockR <| cutR <| Ends.plain (.inr rfl) rfl ?_
      rw [sumX, hs]; rfl
  · (refine wGo ?_; ((conv => arg 5; whnf); repeat (refine xS ?_; conv => arg 5; whnf)))
    have h1' : i = l.length := (by (try simp only [ww] at *); omega)
    subst h1'
    rw [List.drop_length, sumM] at hs
    refine wD <| cutE <| loopX <| blockX <| cutG <| Tri.of Tryz.mixed Tryz.T_ok ?_
    (refine wBegin ?_; ((conv => arg 5; whnf); repeat (refine xS ?_; conv => arg 5; whnf)))
    refine wD (Ends.plain (.inr rfl) rfl ?_)
    rw [sumX, hs]; rfl
def payAmts (t : TxM) : List Int := t.outs.map (fun o => o.amt.toInt) ++ t.fwds.map (fun f => f.amt.toInt)
theorem amts_snoc {l : List Int} {x : Int} {f : Nat → List Value} {m k : Nat} (hm : m = l.length) (hf : f 0 = [.int .i64 x]) (hk : k < m + 1) : joinF (amtsF l) m f k = amtsF (l ++ [x]) k := by
  subst hm
  simp only [joinF, nblt]
  by_cases h : k < l.length
  · simp [h, amtsF, List.getD_eq_getElem?_getD, List.getElem?_append_left h]
  · obtain rfl : k = l.length := by omega
    simp [amtsF, hf]
theorem map_take_succ {E : Type} [Inhabited E] (g : E → Int) {l : List E} {i : Nat} (hi : i < l.length) : (l.take (i + 1)).map g = (l.take i).map g ++ [g (l.getD i default)] := by
  rw [List.take_add_one, List.map_append]
  have : l[i]?.toList = [l.getD i default] := by rw [List.getElem?_eq_getElem hi, List.getD_eq_getElem?_getD, List.getElem?_eq_getElem hi]; rfl
  rw [this]; rfl
def paidM (t : TxM) (m : Nat) (L : List Int) : Mem := [(1, .ro 9 t.outs.length (outsF t.outs)), (2, .ro 11 t.fwds.length (fwdsF t.fwds)), (6, .cells 49 t.cs), (7, .vec 3 1 m (amtsF L))]
set_option maxHeartbeats 2000000 in
theorem paid_can (t : TxM) (hs : Sized t) : Reads Tryz.prog 39 [.box t.ac] [] (sumX (payAmts t)) := by
  have ho := hs.outs
  have hf := hs.fwds
  refine Reads.of Tryz.T_ok Tryz.func39 rfl _ _ _ rfl rfl (fun C hC => ?_)
  (replace hC : C.n0 = 6 := hC; change Tri _ _ _ ⟨_, _, 6⟩ _)
  (refine Tri.cut 2 Tryz.mixed Tryz.T_ok ?_; ((conv => arg 5; whnf); repeat (refine xS ?_; conv => arg 5; whnf)))
  refine wD <| cutG <| Tri.ent (Ent.nils (t := 4) rfl 3 1) <| Tri.seq ?_
  (refine Tri.cut 1 Tryz.mixed Tryz.T_ok ?_; ((conv => arg 5; whnf); repeat (refine xS ?_; conv => arg 5; whnf)))
  refine wD <| cutG <| Tri.block ?_
  refine Tri.loop (α := { i : Nat // i ≤ t.outs.length }) (fun i => ⟨[none, some (XV.sv (.ptr 6 0 0 0)), none, none, some (XV.sv (.slc 7 1 0 i.1)), none, none, none, none, none, some (XV.sv (.slc 1 9 0 t.outs.length)), some (XV.int .i64 t.outs.length), some (XV.int .i64 i.1)] ++ List.replicate 26 none, paidM t i.1 ((t.outs.take i.1).map fun o => o.amt.toInt), 8⟩) (fun i => t.outs.length - i.1) ⟨0, Nat.zero_le _⟩ ?_ ?_
  · ((try dsimp only); refine Ent.renC [0, 1, 2, 3, 4, 5, 6, 10] hC ?_ ?_ <;> repeat' (first | exact trivial | exact rfl | exact ⟨_, rfl, rfl, rfl, Nat.le_refl _, fun _ _ => rfl⟩ | exact ⟨_, rfl, rfl, rfl, fun _ _ => rfl⟩ | exact ⟨_, rfl, rfl, rfl⟩ | exact ⟨_, rfl, rfl⟩ | refine ⟨_, rfl, rfl, rfl, by omega, fun k hk => ?_⟩ | refine ⟨?_, ?_⟩ | fail))
    exact absurd hk (Nat.not_lt_zero _)
  rintro ⟨i, hi⟩
  dsimp only
  (refine Tri.cut 2 Tryz.mixed Tryz.T_ok ?_; ((conv => arg 5; whnf); repeat (refine xS ?_; conv => arg 5; whnf)))
  refine wC (fun h1 => ?_) (fun h1 => ?_)
  · (refine wGo ?_; ((conv => arg 5; whnf); repeat (refine xS ?_; conv => arg 5; whnf)))
    have h1' : i < t.outs.length := (by (try simp only [ww] at *); omega)
    have hw : IntKind.i64.wrap ((i : Int) + 1) = ((i + 1 : Nat) : Int) := (by (try simp only [ww] at *); omega)
    refine wD <| cutG <| Tri.seq <| Tri.block <| Tri.of Tryz.mixed Tryz.T_ok ?_
    (refine wBegin ?_; ((conv => arg 5; whnf); repeat (refine xS ?_; conv => arg 5; whnf)))
    (repeat (refine wN ?_ ?_; exact (by (try simp only [ww] at *); omega); refine wGo ?_; ((conv => arg 5; whnf); repeat (refine xS ?_; conv => arg 5; whnf))))
    simp only [Nat.zero_add, Int.toNat_natCast]
    (refine wP _ _ (append_op Tryz.T_ok rfl rfl rfl rfl rfl [7, 16] (old_vec rfl rfl (Nat.le_refl _) rfl) (new_vec (lo := 0) rfl rfl (Nat.le_refl _) rfl) rfl (lt1 rfl) (by simp only [maxLen]; omega) (by dsimp only; omega)) ?_; ((conv => arg 5; whnf); repeat (refine xS ?_; conv => arg 5; whnf)))
    refine wD <| blockN <| cutG <| Tri.of Tryz.mixed Tryz.T_ok ?_
    (refine wBegin ?_; ((conv => arg 5; whnf); repeat (refine xS ?_; conv => arg 5; whnf)))
    refine wD <| loopN ⟨⟨i + 1, h1'⟩, by dsimp only; omega, ?_⟩
    rw [hw]
    dsimp only
    rw [map_take_succ _ h1']
    ((try dsimp only); refine Ent.renC [0, 1, 2, 3, 4, 5, 6, 17] hC ?_ ?_ <;> repeat' (first | exact trivial | exact rfl | exact ⟨_, rfl, rfl, rfl, Nat.le_refl _, fun _ _ => rfl⟩ | exact ⟨_, rfl, rfl, rfl, fun _ _ => rfl⟩ | exact ⟨_, rfl, rfl, rfl⟩ | exact ⟨_, rfl, rfl⟩ | refine ⟨_, rfl, rfl, rfl, by omega, fun k hk => ?_⟩ | refine ⟨?_, ?_⟩ | fail))
    exact amts_snoc (by rw [List.length_map, List.length_take]; omega) rfl hk
  · (refine wGo ?_; ((conv => arg 5; whnf); repeat (refine xS ?_; conv => arg 5; whnf)))
    have h1' : i = t.outs.length := (by (try simp only [ww] at *); omega)
    subst h1'
    rw [List.take_length]
    refine wD <| cutE <| loopX <| blockX <| cutG <| Tri.seq ?_
    (refine Tri.cut 1 Tryz.mixed Tryz.T_ok ?_; ((conv => arg 5; whnf); repeat (refine xS ?_; conv => arg 5; whnf)))
    refine wD <| cutG <| Tri.block ?_
    refine Tri.loop (α := { i : Nat // i ≤ t.fwds.length }) (fun i => ⟨[none, some (XV.sv (.ptr 6 0 0 0)), none, none, some (XV.sv (.slc 7 1 0 (t.outs.length + i.1)))] ++ List.replicate 18 none ++ [some (XV.sv (.slc 2 11 0 t.fwds.length)), some (XV.int .i64 t.fwds.length), some (XV.int .i64 i.1)] ++ List.replicate 13 none, paidM t (t.outs.length + i.1) (t.outs.map (fun o => o.amt.toInt) ++ (t.fwds.take i.1).map fun f => f.amt.toInt), 8⟩) (fun i => t.fwds.length - i.1) ⟨0, Nat.zero_le _⟩ ?_ ?_
    · dsimp only
      rw [List.take_zero, List.map_nil, List.append_nil, Nat.add_zero]
      ((try dsimp only); refine Ent.renC [0, 1, 2, 3, 4, 5, 6, 7] hC ?_ ?_ <;> repeat' (first | exact trivial | exact rfl | exact ⟨_, rfl, rfl, rfl, Nat.le_refl _, fun _ _ => rfl⟩ | exact ⟨_, rfl, rfl, rfl, fun _ _ => rfl⟩ | exact ⟨_, rfl, rfl, rfl⟩ | exact ⟨_, rfl, rfl⟩ | refine ⟨_, rfl, rfl, rfl, by omega, fun k hk => ?_⟩ | refine ⟨?_, ?_⟩ | fail))
    rintro ⟨i, hi⟩
    dsimp only
    (refine Tri.cut 2 Tryz.mixed Tryz.T_ok ?_; ((conv => arg 5; whnf); repeat (refine xS ?_; conv => arg 5; whnf)))
    refine wC (fun h2 => ?_) (fun h2 => ?_)
    · (refine wGo ?_; ((conv => arg 5; whnf); repeat (refine xS ?_; conv => arg 5; whnf)))
      have h2' : i < t.fwds.length := (by (try simp only [ww] at *); omega)
      have hw : IntKind.i64.wrap ((i : Int) + 1) = ((i + 1 : Nat) : Int) := (by (try simp only [ww] at *); omega)
      refine wD <| cutG <| Tri.seq <| Tri.block <| Tri.of Tryz.mixed Tryz.T_ok ?_
      (refine wBegin ?_; ((conv => arg 5; whnf); repeat (refine xS ?_; conv => arg 5; whnf)))
      (repeat (refine wN ?_ ?_; exact (by (try simp only [ww] at *); omega); refine wGo ?_; ((conv => arg 5; whnf); repeat (refine xS ?_; conv => arg 5; whnf))))
      simp only [Nat.zero_add, Int.toNat_natCast]
      (refine wP _ _ (append_op Tryz.T_ok rfl rfl rfl rfl rfl [7, 16] (old_vec rfl rfl (Nat.le_refl _) rfl) (new_vec (lo := 0) rfl rfl (Nat.le_refl _) rfl) rfl (lt1 rfl) (by simp only [maxLen]; omega) (by dsimp only; omega)) ?_; ((conv => arg 5; whnf); repeat (refine xS ?_; conv => arg 5; whnf)))
      refine wD <| blockN <| cutG <| Tri.of Tryz.mixed Tryz.T_ok ?_
      (refine wBegin ?_; ((conv => arg 5; whnf); repeat (refine xS ?_; conv => arg 5; whnf)))
      refine wD <| loopN ⟨⟨i + 1, h2'⟩, by dsimp only; omega, ?_⟩
      rw [hw]
      dsimp only
      rw [map_take_succ _ h2', ← List.append_assoc]
      ((try dsimp only); refine Ent.renC [0, 1, 2, 3, 4, 5, 6, 17] hC ?_ ?_ <;> repeat' (first | exact trivial | exact rfl | exact ⟨_, rfl, rfl, rfl, Nat.le_refl _, fun _ _ => rfl⟩ | exact ⟨_, rfl, rfl, rfl, fun _ _ => rfl⟩ | exact ⟨_, rfl, rfl, rfl⟩ | exact ⟨_, rfl, rfl⟩ | refine ⟨_, rfl, rfl, rfl, by omega, fun k hk => ?_⟩ | refine ⟨?_, ?_⟩ | fail))
      exact amts_snoc (by simp only [List.length_append, List.length_map, List.length_take]; omega) rfl hk
    · (refine wGo ?_; ((conv => arg 5; whnf); repeat (refine xS ?_; conv => arg 5; whnf)))
      have h2' : i = t.fwds.length := (by (try simp only [ww] at *); omega)
      subst h2'
      rw [List.take_length]
      refine wD <| cutE <| loopX <| blockX <| cutG <| Tri.of Tryz.mixed Tryz.T_ok ?_
      have hL : (payAmts t).length = t.outs.length + t.fwds.length := by simp [payAmts]
      (refine wBegin ?_; ((conv => arg 5; whnf); repeat (refine xS ?_; conv => arg 5; whnf)))
      (apply wP; exact (call_op rfl (entersB_of Tryz.func38 (by kernel_rfl)) rfl ((msum_can (payAmts t) (by omega)).at [7] ⟨by rw [hL]; exact lend_vec0 rfl rfl, trivial⟩ trivial)); ((conv => arg 5; whnf); repeat (refine xS ?_; conv => arg 5; whnf)))
      exact wD (Ends.plain (.inr rfl) rfl rfl)
end Go.Proofs.YtmoohekgheoliaaGreatDoor
