/- Parts Pf Wc Wd Pg Hp. -/
import Derived.Test.YtmoohekgheoliaaGreatDoorG25
import Derived.Test.YtmoohekgheoliaaGreatDoorG24
import Derived.Test.YtmoohekgheoliaaGreatDoorG20
import Derived.Test.YtmoohekgheoliaaGreatDoorG11
import Derived.Test.YtmoohekgheoliaaGreatDoorG17
set_option linter.unusedSimpArgs false
set_option linter.unusedVariables false
namespace Go.Proofs.YtmoohekgheoliaaGreatDoor
set_option maxRecDepth 100000
open Go.Sx
theorem points_mem {S : USet} (p : Pt) : p ∈ S.points ↔ S.has p = true := by
  rw [USet.points, (sortPts_perm _).mem_iff]
  constructor
  · intro h
    obtain ⟨x, hx, rfl⟩ := List.mem_map.1 h
    cases hh : S.has x.1 with
    | true => rfl
    | false => exact absurd rfl (mget_key hh x hx)
  · intro h
    exact List.mem_map.2 ⟨_, mget_mem (has_get h), rfl⟩
def USet.pt (S : USet) (i : Nat) : Pt := S.points.getD i default
theorem pt_eq {S : USet} {i : Nat} (hi : i < S.coins.length) : S.points[i]? = some (S.pt i) := by
  have : i < S.points.length := by rw [S.points_len]; exact hi
  rw [USet.pt, List.getD_eq_getElem?_getD, List.getElem?_eq_getElem this]; rfl
theorem pt_has {S : USet} {i : Nat} (hi : i < S.coins.length) : S.has (S.pt i) = true := (points_mem _).1 (List.mem_of_getElem? (pt_eq hi))
section
variable {S : USet} {R : RC} {zs : List (Pt × Coin)}
theorem TwinZ.points (h : TwinZ S R zs) : S.points = R.P := by
  rw [h.P]
  refine sorted_one ((sortPts_perm _).trans (h.perm.map _).symm) (sortPts_sorted _) ?_
  rw [List.pairwise_map]
  exact h.srt.imp fun {a b} hab => by rw [ltPt_asymm hab]; rfl
end
theorem get_there (S : USet) (p : Pt) (hp : S.has p = true) {M : Mem} {c0 d : Nat} (hM : M.get c0 = some (.abs (usetP S))) (hd : Nat.beq d c0 = false) : CallSpec Tryz.prog 16 [.one (.ptr c0 0 0 0), p.cv] M d { v := .tup [(S.get p).cv, .one (.raw (.bool true))], upd := [(c0, .abs (usetP S))], wr := [c0] } [c0] := by
  have h := get_spec S p hM hd
  rw [hp] at h
  exact h
theorem spec_obj2 {P : Program} {T : TyTab} {f : FuncId} {fn : Func} {c : Code} (hT : TabOK P T) (hf : P.funcs[f]? = some fn) (hb : fn.body = some c) {A B A' B' : AbsP} (X : XV) (hX : X.ok (fun _ => false) = true)
    {M : Mem} {c0 c1 d : Nat} (h0 : M.get c0 = some (.abs A)) (h1 : M.get c1 = some (.abs B)) (hne : (Nat.beq c0 c1 || Nat.beq d c0 || Nat.beq d c1) = false)
    (h : ∀ C : Ctx, C.n0 = 2 → Tri P C c ⟨slots0 fn.ntmps [.cv (.one (.ptr 0 0 0 0)), .cv (.one (.ptr 1 0 0 0))], [(0, .abs A), (1, .abs B)], 2⟩ (Sx.Ends C T fn.results.toList 2 2 ⟨X, [(0, .abs A'), (1, .abs B')], none⟩)) :
    CallSpec P f [.one (.ptr c0 0 0 0), .one (.ptr c1 0 0 0)] M d { v := X, upd := [(c0, .abs A'), (c1, .abs B')], wr := [c0, c1] } [c0, c1] := by
  simp only [Bool.or_eq_false_iff, nbeq, decide_eq_false_iff_not] at hne
  obtain ⟨⟨n1, n2⟩, n3⟩ := hne
  have get2 : ∀ (i : Nat) (x y ch : Chunk), Mem.get [(0, x), (1, y)] i = some ch → (i = 0 ∧ ch = x) ∨ (i = 1 ∧ ch = y) := by
    intro i x y ch hi
    simp only [Mem.get, nbeq] at hi
    by_cases e0 : 0 = i
    · subst e0; simp at hi; exact .inl ⟨rfl, hi.symm⟩
    · by_cases e1 : 1 = i
      · subst e1; simp at hi; exact .inr ⟨rfl, hi.symm⟩
      · simp [e0, e1] at hi
  refine spec_of_text (ids := [c0, c1]) (rids := []) (Xl := [.one (.ptr 0 0 0 0), .one (.ptr 1 0 0 0)]) (M0 := [(0, .abs A), (1, .abs B)]) (out := ⟨X, [(0, .abs A'), (1, .abs B')], none⟩) (k1 := 2) (n0 := 2) hT hf hb (by simp [n1]) rfl rfl (by simp [n2, n3]) rfl (fun i ch hi => ?_) (fun i ch hi => ?_) (fun i ch hi => by cases hi) (XV.ok_mono (fun _ h => by cases h) hX) h rfl (XV.ren_closed hX).symm rfl (fun q ch hq => ?_)
  · rcases get2 _ _ _ _ hi with ⟨rfl, rfl⟩ | ⟨rfl, rfl⟩
    · exact ⟨by decide, rfl, fun h => by omega, fun ci hci => by simp at hci; subst hci; exact h0⟩
    · exact ⟨by decide, rfl, fun h => by omega, fun ci hci => by simp at hci; subst hci; exact h1⟩
  · rcases get2 _ _ _ _ hi with ⟨rfl, rfl⟩ | ⟨rfl, rfl⟩ <;> exact ⟨rfl, rfl⟩
  · simp only [Mem.get, nbeq] at hq
    by_cases e0 : c0 = q
    · subst e0; simp at hq; subst hq; exact .inl ⟨0, rfl, rfl⟩
    · by_cases e1 : c1 = q
      · subst e1; simp [e0] at hq; subst hq; exact .inl ⟨1, rfl, rfl⟩
      · simp [e0, e1] at hq
def sameSt (S : USet) (R : RC) (i : Nat) : St :=
  ⟨[some (XV.sv (.ptr 0 0 0 0)), some (XV.sv (.ptr 1 0 0 0)), none, none, some (XV.bool false), some (XV.sv (.slc 2 9 0 S.coins.length)), some (XV.int .i64 i)] ++ List.replicate 72 none,
   [(0, .abs (usetP S)), (1, R.root 3 4), (2, .vec 60 9 S.coins.length fun i => (S.points.getD i default).cells), (3, R.vecP), (4, R.vecC)], 5⟩
set_option maxHeartbeats 4000000 in
set_option maxRecDepth 100000 in
theorem same_spec (S : USet) (R : RC) (hT : Twin S R) (hlen : S.coins.length ≤ 1000) {M : Mem} {c0 c1 d : Nat} (h0 : M.get c0 = some (.abs (usetP S))) (h1 : M.get c1 = some (.abs (rcP R))) (hne : (Nat.beq c0 c1 || Nat.beq d c0 || Nat.beq d c1) = false) :
    CallSpec Tryz.prog 20 [.one (.ptr c0 0 0 0), .one (.ptr c1 0 0 0)] M d { v := XV.bool true, upd := [(c0, .abs (usetP S)), (c1, .abs (rcP R))], wr := [c0, c1] } [c0, c1] := by
  obtain ⟨zs, hz⟩ := hT
  have hzl : zs.length = S.coins.length := hz.perm.length_eq
  have hPl : R.P.length = S.coins.length := by rw [hz.len.1, hzl]
  have hCl : R.C.length = S.coins.length := by rw [hz.len.2, hzl]
  refine spec_obj2 Tryz.T_ok Tryz.func20 rfl _ rfl h0 h1 hne (fun C hC => ?_)
  have hC0 : ∀ ids : List Nat, ids[0]? = some 0 → ids[1]? = some 1 → ∀ i, i < C.n0 → ids[i]? = some i := fun ids e0 e1 i hi => by
    rw [hC] at hi
    match i, hi with
    | 0, _ => exact e0
    | 1, _ => exact e1
  (refine Tri.cut 2 Tryz.mixed Tryz.T_ok ?_; ((conv => arg 5; whnf); repeat (refine xS ?_; conv => arg 5; whnf)))
  (apply wP; exact (call_op rfl (entersB_of Tryz.func45 (by kernel_rfl)) rfl (points_spec S (by omega) rfl)); ((conv => arg 5; whnf); repeat (refine xS ?_; conv => arg 5; whnf)))
  refine wD <| cutG ?_
  refine RC.opens R 1 rfl ?_
  (refine Tri.cut 1 Tryz.mixed Tryz.T_ok ?_; ((conv => arg 5; whnf); repeat (refine xS ?_; conv => arg 5; whnf)))
  refine wC (fun h => absurd h (by rw [hPl]; simp)) (fun _ => ?_)
  (refine wGo ?_; ((conv => arg 5; whnf); repeat (refine xS ?_; conv => arg 5; whnf)))
  (apply wP; exact (call_op rfl (entersB_of Tryz.func17 (by kernel_rfl)) rfl (len_spec S rfl rfl)); ((conv => arg 5; whnf); repeat (refine xS ?_; conv => arg 5; whnf)))
  refine wC (fun h => absurd h (by rw [hPl]; simp)) (fun _ => ?_)
  (refine wGo ?_; ((conv => arg 5; whnf); repeat (refine xS ?_; conv => arg 5; whnf)))
  (apply wP; exact (call_op rfl (entersB_of Tryz.func13 (by kernel_rfl)) rfl (total_spec S rfl rfl)); ((conv => arg 5; whnf); repeat (refine xS ?_; conv => arg 5; whnf)))
  (apply wP; exact (call_op rfl (entersB_of Tryz.func46 (by kernel_rfl)) rfl (rcTotal_spec R (by omega) (i1 := 7) (i2 := 8) rfl rfl rfl rfl rfl)); ((conv => arg 5; whnf); repeat (refine xS ?_; conv => arg 5; whnf)))
  refine wC (fun h => absurd h (by rw [hz.sum]; simp)) (fun _ => ?_)
  (refine wGo ?_; ((conv => arg 5; whnf); repeat (refine xS ?_; conv => arg 5; whnf)))
  refine wD <| cutG <| Tri.seq ?_
  (refine Tri.cut 1 Tryz.mixed Tryz.T_ok ?_; ((conv => arg 5; whnf); repeat (refine xS ?_; conv => arg 5; whnf)))
  refine wD <| cutG <| Tri.block ?_
  refine Tri.loop (α := { i : Nat // i ≤ S.coins.length }) (fun i => sameSt S R i.1) (fun i => S.coins.length - i.1) ⟨0, Nat.zero_le _⟩ ?_ ?_
  · exact Ent.ren [0, 1, 4, 7, 8] (by decide) rfl (hC0 _ rfl rfl) (by rw [hC]; decide) rfl ⟨rfl, rfl, rfl, rfl, rfl, trivial⟩ ⟨⟨_, rfl, rfl⟩, ⟨_, rfl, rfl, rfl⟩, ⟨_, rfl, rfl, rfl, Nat.le_refl _, fun _ _ => rfl⟩, ⟨_, rfl, rfl, rfl, Nat.le_refl _, fun _ _ => rfl⟩, ⟨_, rfl, rfl, rfl, Nat.le_refl _, fun _ _ => rfl⟩, trivial⟩
  rintro ⟨i, hi⟩
  dsimp only
  (refine Tri.cut 1 Tryz.mixed Tryz.T_ok ?_; ((conv => arg 5; whnf); repeat (refine xS ?_; conv => arg 5; whnf)))
  refine wC (fun h3 => ?_) (fun h3 => ?_)
  case refine_2 =>
    (refine wGo ?_; ((conv => arg 5; whnf); repeat (refine xS ?_; conv => arg 5; whnf)))
    refine wD <| cutE <| loopX <| blockX <| cutG <| Tri.of Tryz.mixed Tryz.T_ok ?_
    (refine wBegin ?_; ((conv => arg 5; whnf); repeat (refine xS ?_; conv => arg 5; whnf)))
    refine wD ⟨.inr rfl, _, RC.shuts R 1 rfl rfl rfl rfl rfl rfl (Nat.le_refl _) (Nat.le_refl _) (fun _ _ => rfl) (fun _ _ => rfl), rfl, fun j ch hj => ?_, fun j ch hj => by cases hj⟩
    simp only [Mem.get, nbeq] at hj
    by_cases e0 : 0 = j
    · subst e0; simp at hj; subst hj; exact ⟨by decide, rfl⟩
    · by_cases e1 : 1 = j
      · subst e1; simp at hj; subst hj; exact ⟨by decide, rfl⟩
      · simp [e0, e1] at hj
  (refine wGo ?_; ((conv => arg 5; whnf); repeat (refine xS ?_; conv => arg 5; whnf)))
  have h3' : i < S.coins.length := by simp only [decide_eq_true_eq] at h3; omega
  have hwi : IntKind.i64.wrap ((i : Int) + 1) = ((i + 1 : Nat) : Int) := by rw [wrap_i64 (by omega) (by omega)]; omega
  have hgi : S.points.getD (0 + ((i : Nat) : Int).toNat) default = S.pt i := by simp [USet.pt]
  have hp : S.has (S.points.getD (0 + ((i : Nat) : Int).toNat) default) = true := by rw [hgi]; exact pt_has h3'
  have hPi : R.P.getD (0 + ((i : Nat) : Int).toNat) default = S.points.getD (0 + ((i : Nat) : Int).toNat) default := by rw [hz.points]
  have hCi : R.C.getD (0 + ((i : Nat) : Int).toNat) default = S.get (S.points.getD (0 + ((i : Nat) : Int).toNat) default) := by
    have ha := hz.at (i := i) (by omega)
    have e : (0 + ((i : Nat) : Int).toNat) = i := by omega
    rw [← hPi, e]
    unfold USet.get
    rw [ha.1, ha.2.2, ha.2.1]
    rfl
  refine wD <| cutG <| Tri.seq <| Tri.block <| Tri.of Tryz.mixed Tryz.T_ok ?_
  (refine wBegin ?_; ((conv => arg 5; whnf); repeat (refine xS ?_; conv => arg 5; whnf)))
  refine wN ⟨by omega, by omega⟩ ?_
  (refine wGo ?_; ((conv => arg 5; whnf); repeat (refine xS ?_; conv => arg 5; whnf)))
  refine wN (by omega) ?_
  (refine wGo ?_; ((conv => arg 5; whnf); repeat (refine xS ?_; conv => arg 5; whnf)))
  (apply wP; exact (call_op rfl (entersB_of Tryz.func16 (by kernel_rfl)) rfl (get_there S (S.points.getD (0 + ((i : Nat) : Int).toNat) default) hp rfl rfl)); ((conv => arg 5; whnf); repeat (refine xS ?_; conv => arg 5; whnf)))
  refine wN ⟨by omega, by omega⟩ ?_
  (refine wGo ?_; ((conv => arg 5; whnf); repeat (refine xS ?_; conv => arg 5; whnf)))
  refine wN (by omega) ?_
  (refine wGo ?_; ((conv => arg 5; whnf); repeat (refine xS ?_; conv => arg 5; whnf)))
  refine wN ⟨by omega, by omega⟩ ?_
  (refine wGo ?_; ((conv => arg 5; whnf); repeat (refine xS ?_; conv => arg 5; whnf)))
  refine wN (by omega) ?_
  (refine wGo ?_; ((conv => arg 5; whnf); repeat (refine xS ?_; conv => arg 5; whnf)))
  (refine wP _ _ (neq_op ptE rfl (S.points.getD (0 + ((i : Nat) : Int).toNat) default) (R.P.getD (0 + ((i : Nat) : Int).toNat) default) rfl rfl) ?_; ((conv => arg 5; whnf); repeat (refine xS ?_; conv => arg 5; whnf)))
  refine wC (fun h => absurd h (by rw [hPi]; simp)) (fun _ => ?_)
  (refine wGo ?_; ((conv => arg 5; whnf); repeat (refine xS ?_; conv => arg 5; whnf)))
  refine wN ⟨by omega, by omega⟩ ?_
  (refine wGo ?_; ((conv => arg 5; whnf); repeat (refine xS ?_; conv => arg 5; whnf)))
  refine wN (by omega) ?_
  (refine wGo ?_; ((conv => arg 5; whnf); repeat (refine xS ?_; conv => arg 5; whnf)))
  (apply wP; exact (call_op rfl (entersB_of Tryz.func30 (by kernel_rfl)) rfl (lawCoin_spec (R.C.getD (0 + ((i : Nat) : Int).toNat) default) _ _)); ((conv => arg 5; whnf); repeat (refine xS ?_; conv => arg 5; whnf)))
  (refine wP _ _ (neq_op coinE rfl (S.get (S.points.getD (0 + ((i : Nat) : Int).toNat) default)) (R.C.getD (0 + ((i : Nat) : Int).toNat) default) rfl rfl) ?_; ((conv => arg 5; whnf); repeat (refine xS ?_; conv => arg 5; whnf)))
  refine wC (fun h => absurd h (by rw [hCi]; simp)) (fun _ => ?_)
  (refine wGo ?_; ((conv => arg 5; whnf); repeat (refine xS ?_; conv => arg 5; whnf)))
  refine wD <| blockN <| Tri.of Tryz.mixed Tryz.T_ok ?_
  (refine wBegin ?_; ((conv => arg 5; whnf); repeat (refine xS ?_; conv => arg 5; whnf)))
  refine wD <| loopN ⟨⟨i + 1, h3'⟩, by simp only; omega, ?_⟩
  exact Ent.ren [0, 1, 2, 3, 4] (by decide) rfl (hC0 _ rfl rfl) (by rw [hC]; decide) rfl ⟨rfl, rfl, rfl, rfl, congrArg (fun n : Int => some (XV.int .i64 n)) hwi, trivial⟩ ⟨⟨_, rfl, rfl⟩, ⟨_, rfl, rfl, rfl⟩, ⟨_, rfl, rfl, rfl, Nat.le_refl _, fun _ _ => rfl⟩, ⟨_, rfl, rfl, rfl, Nat.le_refl _, fun _ _ => rfl⟩, ⟨_, rfl, rfl, rfl, Nat.le_refl _, fun _ _ => rfl⟩, trivial⟩
end Go.Proofs.YtmoohekgheoliaaGreatDoor
namespace Go.Proofs.YtmoohekgheoliaaGreatDoor
set_option maxRecDepth 100000
open Go.Sx
theorem grow_step {F g : Nat → List Value} {k j : Nat} (hg : g 0 = F k) (hj : j < k + 1) : joinF F k g j = F j := by
  simp only [joinF, nblt]
  by_cases h : j < k
  · simp [h]
  · obtain rfl : j = k := by omega
    simp [hg]
def LCoin.out (c : LCoin) : OutM := ⟨ownerH c.who.toInt, c.amt⟩
def baseI (p : PlanM) (coins : List LCoin) (i : Nat) : Int := if (p.ins.getD i 0).toNat < coins.length then (coins.getD (p.ins.getD i 0).toNat default).who.toInt else 0
def whoI (p : PlanM) (coins : List LCoin) (i : Nat) : Int := if p.bend = 3 ∧ i = 0 then IntKind.i64.wrap (baseI p coins i + 1) else baseI p coins i
def whoF (p : PlanM) (coins : List LCoin) : Nat → List Value := fun i => [.int .i64 (whoI p coins i)]
def in0 (p : PlanM) (coins : List LCoin) (i : Nat) : InM := ⟨ptOf ((p.ins.getD i 0).toNat : Int), ownerH (whoI p coins i), sig0⟩
def ins0 (p : PlanM) (coins : List LCoin) : List InM := (List.range p.ins.length).map (in0 p coins)
def mkTx (p : PlanM) (l : List InM) : TxM := ⟨2, 0, l, p.outs.map LCoin.out, p.fwds, par0, cert0, claim0⟩
noncomputable def msgOf (t : TxM) (hc : t.claim.Wf) (i : Nat) : H8 := if mayPay t hc = true then msgH t i else zeroH
def bendM (b : UInt8) (m : H8) : H8 := if b = 2 then { m with b0 := byteI (bitI .xor .u8 (m.b0.toNat : Int) 1) } else m
def signW (p : PlanM) (coins : List LCoin) (i : Nat) : Int := if p.bend = 1 then IntKind.i64.wrap (whoI p coins i + 1) else whoI p coins i
noncomputable def sgnIn (p : PlanM) (coins : List LCoin) (l : List InM) (i : Nat) : InM := { l.getD i default with sig := signM (seedU (signW p coins i)) (i % 8) (bendM p.bend (msgOf (mkTx p l) claim0_wf i)) }
noncomputable def mkIns (p : PlanM) (coins : List LCoin) : Nat → List InM
  | 0 => ins0 p coins
  | j + 1 => (mkIns p coins j).set j (sgnIn p coins (mkIns p coins j) j)
theorem mkIns_len (p : PlanM) (coins : List LCoin) : ∀ j, (mkIns p coins j).length = p.ins.length
  | 0 => by simp [mkIns, ins0]
  | j + 1 => by rw [mkIns, List.length_set, mkIns_len p coins j]
noncomputable def makeT (p : PlanM) (coins : List LCoin) : TxM := mkTx p (mkIns p coins p.ins.length)
abbrev nilS : SV := .raw (.slice none 0 0)
def txZ : List SV := txCells ⟨0, 0, [], [], [], par0, cert0, claim0⟩ nilS nilS nilS nilS nilS nilS
def mkCells (s1 s2 s3 : SV) : List SV := txCells ⟨2, 0, [], [], [], par0, cert0, claim0⟩ s1 s2 s3 nilS nilS nilS
theorem u8_eq_lit {b c : UInt8} {n : Int} (h : n = (c.toNat : Int)) : (((b.toNat : Nat) : Int) == n) = decide (b = c) := by
  rw [Bool.eq_iff_iff, beq_iff_eq, decide_eq_true_eq, h, ← UInt8.toNat_inj]
  omega
def mkM (p : PlanM) (coins : List LCoin) (s1 : SV) (no : Nat) : Mem :=
  [(0, .ro 1 p.ins.length (rowB p.ins)), (1, .ro 4 p.outs.length (coinsF p.outs)), (2, .ro 11 p.fwds.length (fwdsF p.fwds)), (3, .ro 4 coins.length (coinsF coins)), (4, .cells 26 (boxC 0 p.ac)), (5, .cells 49 txZ),
   (6, .cells 49 (mkCells s1 (.slc 7 9 0 no) (.slc 8 11 0 p.fwds.length))), (7, .vec 67 9 no (outsF (p.outs.map LCoin.out))), (8, .vec 56 11 p.fwds.length (fwdsF p.fwds))]
def mkSt1 (p : PlanM) (coins : List LCoin) (i : Nat) : St :=
  ⟨[none, some (XV.sv (.slc 3 4 0 coins.length)), some (XV.sv (.ptr 4 0 0 0)), none, some (XV.sv (.ptr 5 0 0 0)), some (XV.sv (.ptr 6 0 0 0)), some (XV.int .i64 i)] ++ List.replicate 130 none, mkM p coins nilS i, 9⟩
def mkMW (p : PlanM) (coins : List LCoin) (i : Nat) (F : Nat → List Value) : Mem := mkM p coins (.slc 10 298 0 i) p.outs.length ++ [(9, .vec 3 1 i (whoF p coins)), (10, .vec 65 298 i F)]
def mkSt2 (p : PlanM) (coins : List LCoin) (i : Nat) (k b : Option XV) : St :=
  ⟨[none, some (XV.sv (.slc 3 4 0 coins.length)), some (XV.sv (.ptr 4 0 0 0)), none, some (XV.sv (.ptr 5 0 0 0)), some (XV.sv (.ptr 6 0 0 0)), none, some (XV.sv (.slc 9 1 0 i)), some (XV.int .i64 i), k, b] ++ List.replicate 126 none, mkMW p coins i (insF (ins0 p coins)), 11⟩
noncomputable def mkSt3 (p : PlanM) (coins : List LCoin) (j : Nat) (s12 s14 : Option XV) (ex : Mem) (nx : Nat) : St :=
  ⟨[none, some (XV.sv (.slc 3 4 0 coins.length)), some (XV.sv (.ptr 4 0 0 0)), none, some (XV.sv (.ptr 5 0 0 0)), some (XV.sv (.ptr 6 0 0 0)), none, some (XV.sv (.slc 9 1 0 p.ins.length)), none, none, none, some (XV.int .i64 j), s12, none, s14] ++ List.replicate 122 none,
   mkMW p coins p.ins.length (insF (mkIns p coins j)) ++ ex, nx⟩
theorem and7_small {j : Nat} (h : j ≤ 10) : bitI .and .i64 ((j : Nat) : Int) 7 = ((j % 8 : Nat) : Int) := by
  have : ∀ j, j ≤ 10 → bitI .and .i64 ((j : Nat) : Int) 7 = ((j % 8 : Nat) : Int) := by decide
  exact this j h
theorem bend_cells (m : H8) : (bendM 2 m).cells = [.int .u8 (bitI .xor .u8 (m.b0.toNat : Int) 1), u8 m.b1, u8 m.b2, u8 m.b3, u8 m.b4, u8 m.b5, u8 m.b6, u8 m.b7] := by
  show [u8 (byteI (bitI .xor .u8 (m.b0.toNat : Int) 1)), u8 m.b1, u8 m.b2, u8 m.b3, u8 m.b4, u8 m.b5, u8 m.b6, u8 m.b7] = _
  rw [show u8 (byteI (bitI .xor .u8 (m.b0.toNat : Int) 1)) = .int .u8 (bitI .xor .u8 (m.b0.toNat : Int) 1) from u8_byteI _]
theorem mkTx_sized {p : PlanM} {l : List InM} (h1 : l.length ≤ 1000) (h2 : p.outs.length ≤ 1000) (h3 : p.fwds.length ≤ 1000) : Sized (mkTx p l) :=
  ⟨by show l.length ≤ _; omega, by show (p.outs.map LCoin.out).length ≤ _; rw [List.length_map]; omega, by show p.fwds.length ≤ _; omega, Nat.zero_le _, Nat.zero_le _, Nat.zero_le _⟩
theorem rmsg_any (t : TxM) (i : Nat) (hk : t.kind = 2) (hs : Sized t) (hc : t.claim.Wf) (hi : i < t.ins.length) : ∃ b, Reads Tryz.prog 26 [.box t.ac, .plain (.one (.raw (.int .i64 i)))] [] (.tup [(msgOf t hc i).x, .one (.raw (.bool b))]) := by
  cases hm : mayPay t hc with
  | true => exact ⟨true, by rw [msgOf, if_pos hm]; exact rmessage_can t i hk hs hc hm hi⟩
  | false => exact ⟨false, by rw [msgOf, if_neg (by rw [hm]; simp)]; exact rmessage_bad t i hk hs hc hm⟩
theorem in_cells (x : InM) (s : SigM) : x.cells.take 17 ++ s.cells ++ x.cells.drop (17 + s.cells.length) = ({ x with sig := s } : InM).cells := rfl
theorem sgn_step {l : List InM} {j k : Nat} {s : SigM} (hj : j < l.length) : updF (insF l) j 17 s.cells k = insF (l.set j { l.getD j default with sig := s }) k := by
  by_cases hk : k = j
  · subst hk
    rw [updF_eq]
    have e : (l.set k { l.getD k default with sig := s }).getD k default = { l.getD k default with sig := s } := by
      conv => lhs; rw [List.getD_eq_getElem?_getD, List.getElem?_set_self hj]
      rfl
    show (l.getD k default).cells.take 17 ++ s.cells ++ (l.getD k default).cells.drop (17 + s.cells.length) = ((l.set k { l.getD k default with sig := s }).getD k default).cells
    rw [e, in_cells]
  · rw [updF_ne hk]
    show (l.getD k default).cells = ((l.set j _).getD k default).cells
    rw [List.getD_eq_getElem?_getD, List.getD_eq_getElem?_getD, List.getElem?_set_ne (fun h => hk h.symm)]
theorem outs_getD {p : PlanM} {i : Nat} (h : i < p.outs.length) : (p.outs.map LCoin.out).getD i default = (p.outs.getD i default).out := by
  simp [List.getD_eq_getElem?_getD, h]
theorem ins0_getD {p : PlanM} {coins : List LCoin} {i : Nat} (h : i < p.ins.length) : (ins0 p coins).getD i default = in0 p coins i := by
  simp [ins0, List.getD_eq_getElem?_getD, h]
set_option maxHeartbeats 8000000 in
theorem make_can (p : PlanM) (coins : List LCoin) (h1 : p.ins.length ≤ 10) (h2 : p.outs.length ≤ 1000) (h3 : p.fwds.length ≤ 1000) (h4 : coins.length ≤ 1000) : Makes Tryz.prog 12 [.box p.ac, .row 4 coins.length (coinsF coins)] []
    (.cv (.agg (mkCells (.ins 0 3 0 p.ins.length) (.ins 0 3 1 p.outs.length) (.ins 0 3 2 p.fwds.length))))
    (.abs (PackP [.vec 65 298 p.ins.length (insF (mkIns p coins p.ins.length)), .vec 67 9 p.outs.length (outsF (p.outs.map LCoin.out)), .vec 56 11 p.fwds.length (fwdsF p.fwds)])) := by
  refine Makes.of Tryz.T_ok Tryz.func12 rfl _ _ _ _ rfl rfl rfl rfl 18 (fun C hC => ?_)
  (replace hC : C.n0 = 4 := hC; change Tri _ _ _ ⟨_, _, 4⟩ _)
  (refine Tri.cut 2 Tryz.mixed Tryz.T_ok ?_; ((conv => arg 5; whnf); repeat (refine xS ?_; conv => arg 5; whnf)))
  (refine wP _ _ (append_op Tryz.T_ok rfl rfl rfl rfl rfl [6, 2] (old_vec rfl rfl (Nat.le_refl _) rfl) (new_ro (lo := 0) rfl rfl (Nat.le_of_eq (Nat.zero_add _)) rfl) rfl (fun _ _ => rfl) (by simp only [maxLen]; omega) (by dsimp only; omega)) ?_; ((conv => arg 5; whnf); repeat (refine xS ?_; conv => arg 5; whnf)))
  simp only [Nat.zero_add]
  refine wD <| cutG <| Tri.ent (Ent.nilc (c := 11) (e := 49) (cs := mkCells nilS nilS (.slc 9 11 0 p.fwds.length)) (j := 3) rfl rfl 67 9) <| Tri.seq ?_
  (refine Tri.cut 1 Tryz.mixed Tryz.T_ok ?_; ((conv => arg 5; whnf); repeat (refine xS ?_; conv => arg 5; whnf)))
  refine wD <| cutG <| Tri.block ?_
  refine Tri.loop (α := { i : Nat // i ≤ p.outs.length }) (fun i => mkSt1 p coins i.1) (fun i => p.outs.length - i.1) ⟨0, Nat.zero_le _⟩ ?_ ?_
  · dsimp only
    unfold mkSt1 mkM
    ((try dsimp only); refine Ent.renC [0, 1, 2, 3, 4, 5, 11, 13, 9] hC ?_ ?_ <;> repeat' (first | exact trivial | exact rfl | exact ⟨_, rfl, rfl, rfl, Nat.le_refl _, fun _ _ => rfl⟩ | exact ⟨_, rfl, rfl, rfl, fun _ _ => rfl⟩ | exact ⟨_, rfl, rfl, rfl⟩ | exact ⟨_, rfl, rfl⟩ | refine ⟨_, rfl, rfl, rfl, by omega, fun k hk => ?_⟩ | refine ⟨?_, ?_⟩ | fail))
    exact absurd hk (Nat.not_lt_zero _)
  rintro ⟨i, hi⟩
  dsimp only
  (refine Tri.cut 1 Tryz.mixed Tryz.T_ok ?_; ((conv => arg 5; whnf); repeat (refine xS ?_; conv => arg 5; whnf)))
  refine wC (fun hh => ?_) (fun hh => ?_)
  · (refine wGo ?_; ((conv => arg 5; whnf); repeat (refine xS ?_; conv => arg 5; whnf)))
    have h' : i < p.outs.length := (by (try simp only [ww] at *); omega)
    have hw : IntKind.i64.wrap ((i : Int) + 1) = ((i + 1 : Nat) : Int) := (by (try simp only [ww] at *); omega)
    refine wD <| cutG <| Tri.seq <| Tri.block <| Tri.of Tryz.mixed Tryz.T_ok ?_
    (refine wBegin ?_; ((conv => arg 5; whnf); repeat (refine xS ?_; conv => arg 5; whnf)))
    (repeat (refine wN ?_ ?_; exact (by (try simp only [ww] at *); omega); refine wGo ?_; ((conv => arg 5; whnf); repeat (refine xS ?_; conv => arg 5; whnf))))
    simp only [Nat.zero_add, Int.toNat_natCast]
    (apply wP; exact (call_op rfl (entersB_of Tryz.func25 (by kernel_rfl)) rfl ((owner_can (p.outs.getD i default).who.toInt).at [] ⟨lend_plain rfl, trivial⟩ trivial)); ((conv => arg 5; whnf); repeat (refine xS ?_; conv => arg 5; whnf)))
    (repeat (refine wN ?_ ?_; exact (by (try simp only [ww] at *); omega); refine wGo ?_; ((conv => arg 5; whnf); repeat (refine xS ?_; conv => arg 5; whnf))))
    simp only [Nat.zero_add, Int.toNat_natCast]
    (refine wP _ _ (append_op Tryz.T_ok rfl rfl rfl rfl rfl [7, 30] (old_vec rfl rfl (Nat.le_refl _) rfl) (new_vec (lo := 0) rfl rfl (Nat.le_refl _) rfl) rfl (lt1 rfl) (by simp only [maxLen]; omega) (by dsimp only; omega)) ?_; ((conv => arg 5; whnf); repeat (refine xS ?_; conv => arg 5; whnf)))
    refine wD <| blockN <| cutG <| Tri.of Tryz.mixed Tryz.T_ok ?_
    (refine wBegin ?_; ((conv => arg 5; whnf); repeat (refine xS ?_; conv => arg 5; whnf)))
    refine wD <| loopN ⟨⟨i + 1, h'⟩, by dsimp only; omega, ?_⟩
    rw [hw]
    dsimp only
    unfold mkSt1 mkM
    ((try dsimp only); refine Ent.renC [0, 1, 2, 3, 4, 5, 6, 31, 8] hC ?_ ?_ <;> repeat' (first | exact trivial | exact rfl | exact ⟨_, rfl, rfl, rfl, Nat.le_refl _, fun _ _ => rfl⟩ | exact ⟨_, rfl, rfl, rfl, fun _ _ => rfl⟩ | exact ⟨_, rfl, rfl, rfl⟩ | exact ⟨_, rfl, rfl⟩ | refine ⟨_, rfl, rfl, rfl, by omega, fun k hk => ?_⟩ | refine ⟨?_, ?_⟩ | fail))
    exact grow_step (by rw [outsF, rowOf, outs_getD h']; rfl) hk
  · (refine wGo ?_; ((conv => arg 5; whnf); repeat (refine xS ?_; conv => arg 5; whnf)))
    have h' : i = p.outs.length := (by (try simp only [ww] at *); omega)
    subst h'
    refine wD <| cutE <| loopX <| blockX <| cutG ?_
    (refine Tri.cut 1 Tryz.mixed Tryz.T_ok ?_; ((conv => arg 5; whnf); repeat (refine xS ?_; conv => arg 5; whnf)))
    refine wD <| cutG <| Tri.ent (Ent.nils (t := 7) rfl 3 1) <| Tri.ent (Ent.nilc (c := 6) (e := 49) (cs := mkCells nilS (.slc 7 9 0 p.outs.length) (.slc 8 11 0 p.fwds.length)) (j := 2) rfl rfl 65 298) <| Tri.seq ?_
    (refine Tri.cut 1 Tryz.mixed Tryz.T_ok ?_; ((conv => arg 5; whnf); repeat (refine xS ?_; conv => arg 5; whnf)))
    refine wD <| cutG <| Tri.block ?_
    refine Tri.loop (α := { i : Nat // i ≤ p.ins.length }) (fun i => mkSt2 p coins i.1 none none) (fun i => p.ins.length - i.1) ⟨0, Nat.zero_le _⟩ ?_ ?_
    · dsimp only
      unfold mkSt2 mkMW mkM
      ((try dsimp only); refine Ent.renC [0, 1, 2, 3, 4, 5, 6, 7, 8, 15, 16] hC ?_ ?_ <;> repeat' (first | exact trivial | exact rfl | exact ⟨_, rfl, rfl, rfl, Nat.le_refl _, fun _ _ => rfl⟩ | exact ⟨_, rfl, rfl, rfl, fun _ _ => rfl⟩ | exact ⟨_, rfl, rfl, rfl⟩ | exact ⟨_, rfl, rfl⟩ | refine ⟨_, rfl, rfl, rfl, by omega, fun k hk => ?_⟩ | refine ⟨?_, ?_⟩ | fail))
      · exact absurd hk (Nat.not_lt_zero _)
      · exact absurd hk (Nat.not_lt_zero _)
    rintro ⟨i, hi⟩
    dsimp only
    (refine Tri.cut 1 Tryz.mixed Tryz.T_ok ?_; ((conv => arg 5; whnf); repeat (refine xS ?_; conv => arg 5; whnf)))
    refine wC (fun hh => ?_) (fun hh => ?_)
    · (refine wGo ?_; ((conv => arg 5; whnf); repeat (refine xS ?_; conv => arg 5; whnf)))
      have h' : i < p.ins.length := (by (try simp only [ww] at *); omega)
      have hw : IntKind.i64.wrap ((i : Int) + 1) = ((i + 1 : Nat) : Int) := (by (try simp only [ww] at *); omega)
      refine wD <| cutG <| Tri.seq <| Tri.block ?_
      (refine Tri.cut 2 Tryz.mixed Tryz.T_ok ?_; ((conv => arg 5; whnf); repeat (refine xS ?_; conv => arg 5; whnf)))
      (repeat (refine wN ?_ ?_; exact (by (try simp only [ww] at *); omega); refine wGo ?_; ((conv => arg 5; whnf); repeat (refine xS ?_; conv => arg 5; whnf))))
      simp only [Nat.zero_add, Int.toNat_natCast]
      obtain ⟨k, hkk⟩ : ∃ k, (p.ins.getD i 0).toNat = k := ⟨_, rfl⟩
      have hk0 : (p.ins.getD i 0).toNat < 256 := UInt8.toNat_lt _
      rw [hkk] at hk0
      have e0 : IntKind.i64.wrap ((k : Nat) : Int) = (k : Int) := (by (try simp only [ww] at *); omega)
      simp only [hkk, e0]
      refine wD <| cutG <| Tri.merge (mkSt2 p coins i (some (XV.int .i64 k)) (some (XV.int .i64 (baseI p coins i)))) (Tri.of Tryz.mixed Tryz.T_ok ?_) <| Tri.merge (mkSt2 p coins i (some (XV.int .i64 k)) (some (XV.int .i64 (whoI p coins i)))) (Tri.of Tryz.mixed Tryz.T_ok ?_) ?_
      · (refine wBegin ?_; ((conv => arg 5; whnf); repeat (refine xS ?_; conv => arg 5; whnf)))
        refine wC (fun hb => ?_) (fun hb => ?_)
        · (refine wGo ?_; ((conv => arg 5; whnf); repeat (refine xS ?_; conv => arg 5; whnf)))
          (repeat (refine wN ?_ ?_; exact (by (try simp only [ww] at *); omega); refine wGo ?_; ((conv => arg 5; whnf); repeat (refine xS ?_; conv => arg 5; whnf))))
          simp only [Nat.zero_add, Int.toNat_natCast]
          have hb' : k < coins.length := (by (try simp only [ww] at *); omega)
          have eb : baseI p coins i = (coins.getD k default).who.toInt := by rw [baseI, hkk, if_pos hb']
          refine wD ⟨rfl, ?_⟩
          rw [eb]
          unfold mkSt2 mkMW mkM
          ((try dsimp only); refine Ent.renC [0, 1, 2, 3, 4, 5, 6, 7, 8, 9, 10] hC ?_ ?_ <;> repeat' (first | exact trivial | exact rfl | exact ⟨_, rfl, rfl, rfl, Nat.le_refl _, fun _ _ => rfl⟩ | exact ⟨_, rfl, rfl, rfl, fun _ _ => rfl⟩ | exact ⟨_, rfl, rfl, rfl⟩ | exact ⟨_, rfl, rfl⟩ | refine ⟨_, rfl, rfl, rfl, by omega, fun k hk => ?_⟩ | refine ⟨?_, ?_⟩ | fail))
        · (refine wGo ?_; ((conv => arg 5; whnf); repeat (refine xS ?_; conv => arg 5; whnf)))
          have hb' : ¬ k < coins.length := (by (try simp only [ww] at *); omega)
          have eb : baseI p coins i = 0 := by rw [baseI, hkk, if_neg hb']
          refine wD ⟨rfl, ?_⟩
          rw [eb]
          unfold mkSt2 mkMW mkM
          ((try dsimp only); refine Ent.renC [0, 1, 2, 3, 4, 5, 6, 7, 8, 9, 10] hC ?_ ?_ <;> repeat' (first | exact trivial | exact rfl | exact ⟨_, rfl, rfl, rfl, Nat.le_refl _, fun _ _ => rfl⟩ | exact ⟨_, rfl, rfl, rfl, fun _ _ => rfl⟩ | exact ⟨_, rfl, rfl, rfl⟩ | exact ⟨_, rfl, rfl⟩ | refine ⟨_, rfl, rfl, rfl, by omega, fun k hk => ?_⟩ | refine ⟨?_, ?_⟩ | fail))
      · unfold mkSt2 mkMW mkM
        (refine wBegin ?_; ((conv => arg 5; whnf); repeat (refine xS ?_; conv => arg 5; whnf)))
        refine wC (fun hb => ?_) (fun hb => ?_)
        · rw [u8_eq_lit (n := 3) (c := 3) rfl, decide_eq_true_eq] at hb
          (refine wGo ?_; ((conv => arg 5; whnf); repeat (refine xS ?_; conv => arg 5; whnf)))
          refine wC (fun hc => ?_) (fun hc => ?_)
          · have hc' : i = 0 := by have := beq_iff_eq.1 hc; omega
            (refine wGo ?_; ((conv => arg 5; whnf); repeat (refine xS ?_; conv => arg 5; whnf)))
            have eb : whoI p coins i = IntKind.i64.wrap (baseI p coins i + 1) := by rw [whoI, if_pos ⟨hb, hc'⟩]
            refine wD ⟨rfl, ?_⟩
            rw [eb]
            ((try dsimp only); refine Ent.renC [0, 1, 2, 3, 4, 5, 6, 7, 8, 9, 10] hC ?_ ?_ <;> repeat' (first | exact trivial | exact rfl | exact ⟨_, rfl, rfl, rfl, Nat.le_refl _, fun _ _ => rfl⟩ | exact ⟨_, rfl, rfl, rfl, fun _ _ => rfl⟩ | exact ⟨_, rfl, rfl, rfl⟩ | exact ⟨_, rfl, rfl⟩ | refine ⟨_, rfl, rfl, rfl, by omega, fun k hk => ?_⟩ | refine ⟨?_, ?_⟩ | fail))
          · have hc' : ¬ i = 0 := by have := beq_eq_false_iff_ne.1 hc; omega
            (refine wGo ?_; ((conv => arg 5; whnf); repeat (refine xS ?_; conv => arg 5; whnf)))
            have eb : whoI p coins i = baseI p coins i := by rw [whoI, if_neg fun h => hc' h.2]
            refine wD ⟨rfl, ?_⟩
            rw [eb]
            ((try dsimp only); refine Ent.renC [0, 1, 2, 3, 4, 5, 6, 7, 8, 9, 10] hC ?_ ?_ <;> repeat' (first | exact trivial | exact rfl | exact ⟨_, rfl, rfl, rfl, Nat.le_refl _, fun _ _ => rfl⟩ | exact ⟨_, rfl, rfl, rfl, fun _ _ => rfl⟩ | exact ⟨_, rfl, rfl, rfl⟩ | exact ⟨_, rfl, rfl⟩ | refine ⟨_, rfl, rfl, rfl, by omega, fun k hk => ?_⟩ | refine ⟨?_, ?_⟩ | fail))
        · rw [u8_eq_lit (n := 3) (c := 3) rfl, decide_eq_false_iff_not] at hb
          (refine wGo ?_; ((conv => arg 5; whnf); repeat (refine xS ?_; conv => arg 5; whnf)))
          have eb : whoI p coins i = baseI p coins i := by rw [whoI, if_neg fun h => hb h.1]
          refine wD ⟨rfl, ?_⟩
          rw [eb]
          ((try dsimp only); refine Ent.renC [0, 1, 2, 3, 4, 5, 6, 7, 8, 9, 10] hC ?_ ?_ <;> repeat' (first | exact trivial | exact rfl | exact ⟨_, rfl, rfl, rfl, Nat.le_refl _, fun _ _ => rfl⟩ | exact ⟨_, rfl, rfl, rfl, fun _ _ => rfl⟩ | exact ⟨_, rfl, rfl, rfl⟩ | exact ⟨_, rfl, rfl⟩ | refine ⟨_, rfl, rfl, rfl, by omega, fun k hk => ?_⟩ | refine ⟨?_, ?_⟩ | fail))
      · unfold mkSt2 mkMW mkM
        refine Tri.of Tryz.mixed Tryz.T_ok ?_
        (refine wBegin ?_; ((conv => arg 5; whnf); repeat (refine xS ?_; conv => arg 5; whnf)))
        (refine wP _ _ (append_op Tryz.T_ok rfl rfl rfl rfl rfl [9, 13] (old_vec rfl rfl (Nat.le_refl _) rfl) (new_vec (lo := 0) rfl rfl (Nat.le_refl _) rfl) rfl (lt1 rfl) (by simp only [maxLen]; omega) (by dsimp only; omega)) ?_; ((conv => arg 5; whnf); repeat (refine xS ?_; conv => arg 5; whnf)))
        (apply wP; exact (call_op rfl (entersB_of Tryz.func24 (by kernel_rfl)) rfl ((point_can (k : Int)).at [] ⟨lend_plain rfl, trivial⟩ trivial)); ((conv => arg 5; whnf); repeat (refine xS ?_; conv => arg 5; whnf)))
        (apply wP; exact (call_op rfl (entersB_of Tryz.func25 (by kernel_rfl)) rfl ((owner_can (whoI p coins i)).at [] ⟨lend_plain rfl, trivial⟩ trivial)); ((conv => arg 5; whnf); repeat (refine xS ?_; conv => arg 5; whnf)))
        (refine wP _ _ (append_op Tryz.T_ok rfl rfl rfl rfl rfl [10, 23] (old_vec rfl rfl (Nat.le_refl _) rfl) (new_vec (lo := 0) rfl rfl (Nat.le_refl _) rfl) rfl (lt1 rfl) (by simp only [maxLen]; omega) (by dsimp only; omega)) ?_; ((conv => arg 5; whnf); repeat (refine xS ?_; conv => arg 5; whnf)))
        refine wD <| blockN <| cutG <| Tri.of Tryz.mixed Tryz.T_ok ?_
        (refine wBegin ?_; ((conv => arg 5; whnf); repeat (refine xS ?_; conv => arg 5; whnf)))
        refine wD <| loopN ⟨⟨i + 1, h'⟩, by dsimp only; omega, ?_⟩
        rw [hw]
        dsimp only
        ((try dsimp only); refine Ent.renC [0, 1, 2, 3, 4, 5, 6, 7, 8, 14, 24] hC ?_ ?_ <;> repeat' (first | exact trivial | exact rfl | exact ⟨_, rfl, rfl, rfl, Nat.le_refl _, fun _ _ => rfl⟩ | exact ⟨_, rfl, rfl, rfl, fun _ _ => rfl⟩ | exact ⟨_, rfl, rfl, rfl⟩ | exact ⟨_, rfl, rfl⟩ | refine ⟨_, rfl, rfl, rfl, by omega, fun k hk => ?_⟩ | refine ⟨?_, ?_⟩ | fail))
        · exact grow_step rfl hk
        · exact grow_step (by rw [insF, rowOf, ins0_getD h', in0, hkk]; rfl) hk
    · (refine wGo ?_; ((conv => arg 5; whnf); repeat (refine xS ?_; conv => arg 5; whnf)))
      have h' : i = p.ins.length := (by (try simp only [ww] at *); omega)
      subst h'
      refine wD <| cutE <| loopX <| blockX <| cutG <| Tri.seq ?_
      (refine Tri.cut 1 Tryz.mixed Tryz.T_ok ?_; ((conv => arg 5; whnf); repeat (refine xS ?_; conv => arg 5; whnf)))
      refine wD <| cutG <| Tri.block ?_
      refine Tri.loop (α := { i : Nat // i ≤ p.ins.length }) (fun i => mkSt3 p coins i.1 none none [] 11) (fun i => p.ins.length - i.1) ⟨0, Nat.zero_le _⟩ ?_ ?_
      · dsimp only
        unfold mkSt3 mkMW mkM
        ((try dsimp only); refine Ent.renC [0, 1, 2, 3, 4, 5, 6, 7, 8, 9, 10] hC ?_ ?_ <;> repeat' (first | exact trivial | exact rfl | exact ⟨_, rfl, rfl, rfl, Nat.le_refl _, fun _ _ => rfl⟩ | exact ⟨_, rfl, rfl, rfl, fun _ _ => rfl⟩ | exact ⟨_, rfl, rfl, rfl⟩ | exact ⟨_, rfl, rfl⟩ | refine ⟨_, rfl, rfl, rfl, by omega, fun k hk => ?_⟩ | refine ⟨?_, ?_⟩ | fail))
      rintro ⟨j, hj⟩
      dsimp only
      unfold mkSt3 mkMW mkM
      (refine Tri.cut 1 Tryz.mixed Tryz.T_ok ?_; ((conv => arg 5; whnf); repeat (refine xS ?_; conv => arg 5; whnf)))
      refine wC (fun hh => ?_) (fun hh => ?_)
      · (refine wGo ?_; ((conv => arg 5; whnf); repeat (refine xS ?_; conv => arg 5; whnf)))
        have h' : j < p.ins.length := (by (try simp only [ww] at *); omega)
        have hw : IntKind.i64.wrap ((j : Int) + 1) = ((j + 1 : Nat) : Int) := (by (try simp only [ww] at *); omega)
        have e7 : bitI .and .i64 ((j : Nat) : Int) 7 = ((j % 8 : Nat) : Int) := and7_small (by omega)
        have hL := mkIns_len p coins j
        obtain ⟨b, hmsg⟩ := rmsg_any (mkTx p (mkIns p coins j)) j rfl (mkTx_sized (by omega) h2 h3) claim0_wf (by show j < (mkIns p coins j).length; omega)
        obtain ⟨m, hm⟩ : ∃ m, msgOf (mkTx p (mkIns p coins j)) claim0_wf j = m := ⟨_, rfl⟩
        rw [hm] at hmsg
        refine wD <| cutG <| Tri.seq <| Tri.block ?_
        (refine Tri.cut 1 Tryz.mixed Tryz.T_ok ?_; ((conv => arg 5; whnf); repeat (refine xS ?_; conv => arg 5; whnf)))
        (apply wP; exact (call_op rfl (entersB_of Tryz.func26 (by kernel_rfl)) rfl (hmsg.at [10, 7, 8] ⟨lend_tx (t := mkTx p (mkIns p coins j)) (lend_vecN (lo := 0) hL.symm rfl rfl (by show 0 + (mkIns p coins j).length ≤ _; omega) (fun i _ => by rw [Nat.zero_add]; rfl)) (lend_vecN (lo := 0) (List.length_map _).symm rfl rfl (by show 0 + (p.outs.map LCoin.out).length ≤ _; rw [List.length_map]; omega) (fun i _ => by rw [Nat.zero_add]; rfl)) (lend_vec0 rfl rfl) (lend_nil _ _) (lend_nil _ _) (lend_nil _ _), lend_plain rfl, trivial⟩ trivial)); ((conv => arg 5; whnf); repeat (refine xS ?_; conv => arg 5; whnf)))
        refine wD <| cutG <| Tri.merge (mkSt3 p coins j (some (XV.sv (.ptr 11 0 0 0))) none [(11, .cells 39 ((bendM p.bend m).cells.map .raw))] 12) (Tri.of Tryz.mixed Tryz.T_ok ?_) <| Tri.merge (mkSt3 p coins j (some (XV.sv (.ptr 11 0 0 0))) (some (XV.int .i64 (whoI p coins j))) [(11, .cells 39 ((bendM p.bend m).cells.map .raw))] 12) (Tri.of Tryz.mixed Tryz.T_ok ?_) <| Tri.merge (mkSt3 p coins j (some (XV.sv (.ptr 11 0 0 0))) (some (XV.int .i64 (signW p coins j))) [(11, .cells 39 ((bendM p.bend m).cells.map .raw))] 12) (Tri.of Tryz.mixed Tryz.T_ok ?_) ?_
        · (refine wBegin ?_; ((conv => arg 5; whnf); repeat (refine xS ?_; conv => arg 5; whnf)))
          refine wC (fun hb => ?_) (fun hb => ?_)
          · rw [u8_eq_lit (n := 2) (c := 2) rfl, decide_eq_true_eq] at hb
            (refine wGo ?_; ((conv => arg 5; whnf); repeat (refine xS ?_; conv => arg 5; whnf)))
            refine wD ⟨rfl, ?_⟩
            rw [hb, bend_cells]
            unfold mkSt3 mkMW mkM
            ((try dsimp only); refine Ent.renC [0, 1, 2, 3, 4, 5, 6, 7, 8, 9, 10, 22] hC ?_ ?_ <;> repeat' (first | exact trivial | exact rfl | exact ⟨_, rfl, rfl, rfl, Nat.le_refl _, fun _ _ => rfl⟩ | exact ⟨_, rfl, rfl, rfl, fun _ _ => rfl⟩ | exact ⟨_, rfl, rfl, rfl⟩ | exact ⟨_, rfl, rfl⟩ | refine ⟨_, rfl, rfl, rfl, by omega, fun k hk => ?_⟩ | refine ⟨?_, ?_⟩ | fail))
          · rw [u8_eq_lit (n := 2) (c := 2) rfl, decide_eq_false_iff_not] at hb
            (refine wGo ?_; ((conv => arg 5; whnf); repeat (refine xS ?_; conv => arg 5; whnf)))
            refine wD ⟨rfl, ?_⟩
            rw [bendM, if_neg hb]
            unfold mkSt3 mkMW mkM
            ((try dsimp only); refine Ent.renC [0, 1, 2, 3, 4, 5, 6, 7, 8, 9, 10, 22] hC ?_ ?_ <;> repeat' (first | exact trivial | exact rfl | exact ⟨_, rfl, rfl, rfl, Nat.le_refl _, fun _ _ => rfl⟩ | exact ⟨_, rfl, rfl, rfl, fun _ _ => rfl⟩ | exact ⟨_, rfl, rfl, rfl⟩ | exact ⟨_, rfl, rfl⟩ | refine ⟨_, rfl, rfl, rfl, by omega, fun k hk => ?_⟩ | refine ⟨?_, ?_⟩ | fail))
        · unfold mkSt3 mkMW mkM
          (refine wBegin ?_; ((conv => arg 5; whnf); repeat (refine xS ?_; conv => arg 5; whnf)))
          (repeat (refine wN ?_ ?_; exact (by (try simp only [ww] at *); omega); refine wGo ?_; ((conv => arg 5; whnf); repeat (refine xS ?_; conv => arg 5; whnf))))
          simp only [Nat.zero_add, Int.toNat_natCast]
          refine wD ⟨rfl, ?_⟩
          ((try dsimp only); refine Ent.renC [0, 1, 2, 3, 4, 5, 6, 7, 8, 9, 10, 11] hC ?_ ?_ <;> repeat' (first | exact trivial | exact rfl | exact ⟨_, rfl, rfl, rfl, Nat.le_refl _, fun _ _ => rfl⟩ | exact ⟨_, rfl, rfl, rfl, fun _ _ => rfl⟩ | exact ⟨_, rfl, rfl, rfl⟩ | exact ⟨_, rfl, rfl⟩ | refine ⟨_, rfl, rfl, rfl, by omega, fun k hk => ?_⟩ | refine ⟨?_, ?_⟩ | fail))
        · unfold mkSt3 mkMW mkM
          (refine wBegin ?_; ((conv => arg 5; whnf); repeat (refine xS ?_; conv => arg 5; whnf)))
          refine wC (fun hb => ?_) (fun hb => ?_)
          · rw [u8_eq_lit (n := 1) (c := 1) rfl, decide_eq_true_eq] at hb
            (refine wGo ?_; ((conv => arg 5; whnf); repeat (refine xS ?_; conv => arg 5; whnf)))
            refine wD ⟨rfl, ?_⟩
            rw [signW, if_pos hb]
            ((try dsimp only); refine Ent.renC [0, 1, 2, 3, 4, 5, 6, 7, 8, 9, 10, 11] hC ?_ ?_ <;> repeat' (first | exact trivial | exact rfl | exact ⟨_, rfl, rfl, rfl, Nat.le_refl _, fun _ _ => rfl⟩ | exact ⟨_, rfl, rfl, rfl, fun _ _ => rfl⟩ | exact ⟨_, rfl, rfl, rfl⟩ | exact ⟨_, rfl, rfl⟩ | refine ⟨_, rfl, rfl, rfl, by omega, fun k hk => ?_⟩ | refine ⟨?_, ?_⟩ | fail))
          · rw [u8_eq_lit (n := 1) (c := 1) rfl, decide_eq_false_iff_not] at hb
            (refine wGo ?_; ((conv => arg 5; whnf); repeat (refine xS ?_; conv => arg 5; whnf)))
            refine wD ⟨rfl, ?_⟩
            rw [signW, if_neg hb]
            ((try dsimp only); refine Ent.renC [0, 1, 2, 3, 4, 5, 6, 7, 8, 9, 10, 11] hC ?_ ?_ <;> repeat' (first | exact trivial | exact rfl | exact ⟨_, rfl, rfl, rfl, Nat.le_refl _, fun _ _ => rfl⟩ | exact ⟨_, rfl, rfl, rfl, fun _ _ => rfl⟩ | exact ⟨_, rfl, rfl, rfl⟩ | exact ⟨_, rfl, rfl⟩ | refine ⟨_, rfl, rfl, rfl, by omega, fun k hk => ?_⟩ | refine ⟨?_, ?_⟩ | fail))
        · unfold mkSt3 mkMW mkM
          refine Tri.of Tryz.mixed Tryz.T_ok ?_
          (refine wBegin ?_; ((conv => arg 5; whnf); repeat (refine xS ?_; conv => arg 5; whnf)))
          simp only [e7]
          (apply wP; exact (call_op rfl (entersB_of Tryz.func27 (by kernel_rfl)) rfl ((signTree_can (seedU (signW p coins j)) (j % 8) (bendM p.bend m) (Nat.mod_lt _ (by decide))).at [] ⟨lend_plainE (seedU_x _) rfl, lend_plain rfl, lend_plain rfl, trivial⟩ trivial)); ((conv => arg 5; whnf); repeat (refine xS ?_; conv => arg 5; whnf)))
          (repeat (refine wN ?_ ?_; exact (by (try simp only [ww] at *); omega); refine wGo ?_; ((conv => arg 5; whnf); repeat (refine xS ?_; conv => arg 5; whnf))))
          simp only [Nat.zero_add, Int.toNat_natCast]
          refine wD <| blockN <| cutG <| Tri.of Tryz.mixed Tryz.T_ok ?_
          (refine wBegin ?_; ((conv => arg 5; whnf); repeat (refine xS ?_; conv => arg 5; whnf)))
          refine wD <| loopN ⟨⟨j + 1, h'⟩, by dsimp only; omega, ?_⟩
          rw [hw]
          dsimp only
          ((try dsimp only); refine Ent.renC [0, 1, 2, 3, 4, 5, 6, 7, 8, 9, 10] hC ?_ ?_ <;> repeat' (first | exact trivial | exact rfl | exact ⟨_, rfl, rfl, rfl, Nat.le_refl _, fun _ _ => rfl⟩ | exact ⟨_, rfl, rfl, rfl, fun _ _ => rfl⟩ | exact ⟨_, rfl, rfl, rfl⟩ | exact ⟨_, rfl, rfl⟩ | refine ⟨_, rfl, rfl, rfl, by omega, fun k hk => ?_⟩ | refine ⟨?_, ?_⟩ | fail))
          rw [mkIns, sgnIn, hm]
          exact sgn_step (by omega)
      · (refine wGo ?_; ((conv => arg 5; whnf); repeat (refine xS ?_; conv => arg 5; whnf)))
        have h' : j = p.ins.length := (by (try simp only [ww] at *); omega)
        subst h'
        refine wD <| cutE <| loopX <| blockX <| cutG <| Tri.of Tryz.mixed Tryz.T_ok ?_
        (refine wBegin ?_; ((conv => arg 5; whnf); repeat (refine xS ?_; conv => arg 5; whnf)))
        refine wD (Ends.made (.inr rfl) (Ent.pack2 [10, 7, 8] [.vec 65 298 p.ins.length (insF (mkIns p coins p.ins.length)), .vec 67 9 p.outs.length (outsF (p.outs.map LCoin.out)), .vec 56 11 p.fwds.length (fwdsF p.fwds)] (by decide) rfl rfl (fun j i ch hi hj => ?_)) rfl (Nat.le_of_ble_eq_true rfl) rfl)
        rcases j with _ | _ | _ | j
        · cases hi; cases hj; exact ⟨_, rfl, ChLe.refl _ rfl⟩
        · cases hi; cases hj; exact ⟨_, rfl, ChLe.refl _ rfl⟩
        · cases hi; cases hj; exact ⟨_, rfl, ChLe.refl _ rfl⟩
        · cases hi
end Go.Proofs.YtmoohekgheoliaaGreatDoor
namespace Go.Proofs.YtmoohekgheoliaaGreatDoor
set_option maxRecDepth 100000
open Go.Sx
theorem lend_insN {M : Mem} {rd : List Nat} {c j m k k' n e sz : Nat} {l : List Chunk} {f : Nat → List Value} (hkk : k' = k) (hm : M.get c = some (.abs (PackP l))) (hrd : nmem c rd = true) (hml : m = l.length) (hl : l[j]? = some (.vec e sz n f)) (hk : k ≤ n) : Lends M rd (.one (.ins c m j k')) (.row sz k f) := by
  subst hkk; exact lend_ins hm hrd hml hl hk fun _ _ => rfl
theorem makeT_sized {p : PlanM} {l : List LCoin} (h1 : p.ins.length ≤ 1000) (h2 : p.outs.length ≤ 1000) (h3 : p.fwds.length ≤ 1000) : Sized (makeT p l) := mkTx_sized (by rw [mkIns_len]; exact h1) h2 h3
theorem lend_made {M : Mem} {rd : List Nat} {c : Nat} (p : PlanM) (coins : List LCoin) (hm : M.get c = some (.abs (PackP [.vec 65 298 p.ins.length (insF (mkIns p coins p.ins.length)), .vec 67 9 p.outs.length (outsF (p.outs.map LCoin.out)), .vec 56 11 p.fwds.length (fwdsF p.fwds)]))) (hrd : nmem c rd = true) :
    Lends M rd (.agg (mkCells (.ins c 3 0 p.ins.length) (.ins c 3 1 p.outs.length) (.ins c 3 2 p.fwds.length))) (.box (makeT p coins).ac) :=
  lend_tx (t := makeT p coins) (lend_insN (mkIns_len p coins p.ins.length).symm hm hrd rfl rfl (Nat.le_of_eq (mkIns_len p coins p.ins.length))) (lend_insN (List.length_map _).symm hm hrd rfl rfl (Nat.le_of_eq (List.length_map _))) (lend_insN rfl hm hrd rfl rfl (Nat.le_refl _)) (lend_nil _ _) (lend_nil _ _) (lend_nil _ _)
def awC1 : LCoin := ⟨1, 5, 0, false⟩
def awPl : PlanM := ⟨[0], [⟨2, 3, 0, false⟩], [], 0⟩
def awSt (F : FillM) : St := ⟨[none, some (XV.sv (.ptr 1 0 0 0)), some (XV.sv (.ptr 2 0 0 0)), some (XV.sv (.slc 3 4 0 F.I.length))] ++ List.replicate 38 none,
  [(0, .ext stepsP), (1, .abs (usetP F.S)), (2, .abs (rcP F.R)), (3, .vec 79 4 F.I.length (coinsF F.I))], 4⟩
set_option maxHeartbeats 4000000 in
theorem awake_walk (F : FillM) (hF : fillN [awC1] 1 = F) (hm : mayPay (makeT awPl F.I) claim0_wf = true) (D : USet × (Int × Int)) (hD : doE F.S (makeT awPl F.I) 4 = D) (h1 : D.2 = (2, 0)) (h2 : D.1.total = 3) (h3 : D.1.coins.length = 1) : Reads Tryz.prog 9 [] [stepsP] (XV.bool true) := by
  have hlen := fillN_len [awC1] 1
  rw [hF] at hlen
  obtain ⟨l1, l2, l3, l4⟩ := hlen
  have hfill := fill_can [awC1] (by decide)
  rw [show fillN [awC1] [awC1].length = F from hF] at hfill
  have hdo := do_can F.S (makeT awPl F.I) 4 rfl (makeT_sized (by decide) (by decide) (by decide)) claim0_wf hm (by omega)
  rw [hD, h1] at hdo
  refine Reads.of Tryz.T_ok Tryz.func9 rfl _ _ _ rfl rfl (fun C hC => ?_)
  (replace hC : C.n0 = 1 := hC; change Tri _ _ _ ⟨_, _, 1⟩ _)
  (refine Tri.cut 2 Tryz.mixed Tryz.T_ok ?_; ((conv => arg 5; whnf); repeat (refine xS ?_; conv => arg 5; whnf)))
  (apply wP; exact (call_op rfl (entersB_of Tryz.func11 (by kernel_rfl)) rfl (hfill.at [3] ⟨lend_vec (lo := 0) rfl rfl (Nat.le_refl _) (lt1 rfl), trivial⟩ trivial)); ((conv => arg 5; whnf); repeat (refine xS ?_; conv => arg 5; whnf)))
  refine wD <| cutG <| Tri.ent (Ent.unpack (c := 4) (l := fillPack F) rfl) <| Tri.ent (S' := awSt F) ?_ (Tri.of Tryz.mixed Tryz.T_ok ?_)
  · unfold awSt
    ((try dsimp only); refine Ent.renC [0, 12, 13, 14] hC ?_ ?_ <;> repeat' (first | exact trivial | exact rfl | exact ⟨_, rfl, rfl, rfl, Nat.le_refl _, fun _ _ => rfl⟩ | exact ⟨_, rfl, rfl, rfl, fun _ _ => rfl⟩ | exact ⟨_, rfl, rfl, rfl⟩ | exact ⟨_, rfl, rfl⟩ | refine ⟨_, rfl, rfl, rfl, by omega, fun k hk => ?_⟩ | refine ⟨?_, ?_⟩ | fail))
  unfold awSt
  (refine wBegin ?_; ((conv => arg 5; whnf); repeat (refine xS ?_; conv => arg 5; whnf)))
  (apply wP; exact (call_op rfl (entersB_of Tryz.func12 (by kernel_rfl)) rfl ((make_can awPl F.I (by decide) (by decide) (by decide) (by omega)).at [7, 9, 3] ⟨lend_box ⟨lend_vec (lo := 0) rfl rfl (Nat.le_refl _) (lt1 rfl), lend_vec (lo := 0) rfl rfl (Nat.le_refl _) (lt1 rfl), lend_nil _ _, rfl, trivial⟩, lend_vec0 rfl rfl, trivial⟩ trivial)); ((conv => arg 5; whnf); repeat (refine xS ?_; conv => arg 5; whnf)))
  (apply wP; exact (call_op rfl (entersB_of Tryz.func14 (by kernel_rfl)) rfl (hdo.at [12, 0] rfl rfl rfl ⟨lend_made awPl F.I rfl rfl, lend_plain rfl, trivial⟩ ⟨lend_ext (c := 0) rfl rfl, trivial⟩)); ((conv => arg 5; whnf); repeat (refine xS ?_; conv => arg 5; whnf)))
  (apply wP; exact (call_op rfl (entersB_of Tryz.func13 (by kernel_rfl)) rfl (total_spec D.1 rfl rfl)); ((conv => arg 5; whnf); repeat (refine xS ?_; conv => arg 5; whnf)))
  (refine wTd ?_ ?_; (first | refine decide_eq_true ?_ | rw [beq_iff_eq] | rw [bne_iff_ne]); exact (by (try simp only [ww] at *); omega); refine wGo ?_; ((conv => arg 5; whnf); repeat (refine xS ?_; conv => arg 5; whnf)))
  (apply wP; exact (call_op rfl (entersB_of Tryz.func17 (by kernel_rfl)) rfl (len_spec D.1 rfl rfl)); ((conv => arg 5; whnf); repeat (refine xS ?_; conv => arg 5; whnf)))
  refine wD (Ends.plain (.inr rfl) rfl (congrArg (fun b : Bool => XV.bool b) ?_))
  rw [beq_iff_eq]
  omega
def OutM.v (c : OutM) : Value := .agg c.cells.toArray
theorem OutM.inj (a b : OutM) (h : a.v = b.v) : a = b := by
  have h : a.cells = b.cells := by
    have := congrArg (fun v => v.cells.toList) h
    simpa [OutM.v, Value.cells] using this
  obtain ⟨⟨_, _, _, _, _, _, _, _⟩, _⟩ := a
  obtain ⟨⟨_, _, _, _, _, _, _, _⟩, _⟩ := b
  simp only [OutM.cells, H8.cells, List.cons_append, List.nil_append, List.cons.injEq] at h
  obtain ⟨h0, h1, h2, h3, h4, h5, h6, h7, h8, _⟩ := h
  rw [u8_inj h0, u8_inj h1, u8_inj h2, u8_inj h3, u8_inj h4, u8_inj h5, u8_inj h6, u8_inj h7, i64_inj h8]
end Go.Proofs.YtmoohekgheoliaaGreatDoor
namespace Go.Proofs.YtmoohekgheoliaaGreatDoor
set_option maxRecDepth 100000
open Go.Sx
def SameOK : Prop := ∀ (S : USet) (R : RC), Twin S R → S.coins.length ≤ 1000 → ∀ {M : Mem} {c0 c1 d : Nat}, M.get c0 = some (.abs (usetP S)) → M.get c1 = some (.abs (rcP R)) → (Nat.beq c0 c1 || Nat.beq d c0 || Nat.beq d c1) = false →
    CallSpec Tryz.prog 20 [.one (.ptr c0 0 0 0), .one (.ptr c1 0 0 0)] M d { v := XV.bool true, upd := [(c0, .abs (usetP S)), (c1, .abs (rcP R))], wr := [c0, c1] } [c0, c1]
end Go.Proofs.YtmoohekgheoliaaGreatDoor
namespace Go.Proofs.YtmoohekgheoliaaGreatDoor
set_option maxRecDepth 100000
open Go.Sx
noncomputable def frc {α : Type} (x : Nat) (k : Nat → α) : α := @Nat.rec (fun _ => α) (k 0) (fun n _ => k (Nat.succ n)) x
theorem frc_eq {α : Type} (x : Nat) (k : Nat → α) : frc x k = k x := by cases x <;> rfl
def nrot (x n m : Nat) : Nat := Nat.lor (Nat.shiftRight x n) (Nat.mod (Nat.shiftLeft x m) 4294967296)
def nS0 (x : Nat) : Nat := Nat.xor (Nat.xor (nrot x 2 30) (nrot x 13 19)) (nrot x 22 10)
def nS1 (x : Nat) : Nat := Nat.xor (Nat.xor (nrot x 6 26) (nrot x 11 21)) (nrot x 25 7)
def ns0 (x : Nat) : Nat := Nat.xor (Nat.xor (nrot x 7 25) (nrot x 18 14)) (Nat.shiftRight x 3)
def ns1 (x : Nat) : Nat := Nat.xor (Nat.xor (nrot x 17 15) (nrot x 19 13)) (Nat.shiftRight x 10)
def nch (e f g : Nat) : Nat := Nat.xor (Nat.land e f) (Nat.land (Nat.xor 4294967295 e) g)
def nmaj (a b c : Nat) : Nat := Nat.xor (Nat.xor (Nat.land a b) (Nat.land a c)) (Nat.land b c)
def nT (e f g h k w : Nat) : Nat := Nat.mod (Nat.add (Nat.add (Nat.add (Nat.add h (nS1 e)) (nch e f g)) k) w) 4294967296
def nadd (a b : Nat) : Nat := Nat.mod (Nat.add a b) 4294967296
def nmix (w0 w1 w9 w14 : Nat) : Nat := Nat.mod (Nat.add (Nat.add (Nat.add w0 w9) (ns0 w1)) (ns1 w14)) 4294967296
abbrev B32 (x : Nat) : Prop := x < 4294967296
theorem bit_nat (f : BitVec 32 → BitVec 32 → BitVec 32) (g : Nat → Nat → Nat) (hf : ∀ a b, (f a b).toNat = g a.toNat b.toNat) {x y : Nat} (hx : B32 x) (hy : B32 y) : IntKind.u32.wrap ((f (BitVec.ofInt 32 (x : Int)) (BitVec.ofInt 32 (y : Int))).toNat : Int) = ((g x y : Nat) : Int) ∧ B32 (g x y) := by
  have e1 : (BitVec.ofInt 32 (x : Int)).toNat = x := by rw [ofInt_nat, BitVec.toNat_ofNat]; exact Nat.mod_eq_of_lt hx
  have e2 : (BitVec.ofInt 32 (y : Int)).toNat = y := by rw [ofInt_nat, BitVec.toNat_ofNat]; exact Nat.mod_eq_of_lt hy
  have h := (f (BitVec.ofInt 32 (x : Int)) (BitVec.ofInt 32 (y : Int))).isLt
  rw [hf, e1, e2] at h ⊢
  refine ⟨?_, h⟩
  rw [IntKind.wrap_u32]
  exact Int.emod_eq_of_lt (by omega) (by omega)
theorem xor_nat {x y : Nat} (hx : B32 x) (hy : B32 y) : bitI .xor .u32 (x : Int) (y : Int) = ((Nat.xor x y : Nat) : Int) := (bit_nat (· ^^^ ·) Nat.xor (fun a b => BitVec.toNat_xor a b) hx hy).1
theorem and_nat {x y : Nat} (hx : B32 x) (hy : B32 y) : bitI .and .u32 (x : Int) (y : Int) = ((Nat.land x y : Nat) : Int) := (bit_nat (· &&& ·) Nat.land (fun a b => BitVec.toNat_and a b) hx hy).1
theorem or_nat {x y : Nat} (hx : B32 x) (hy : B32 y) : bitI .or .u32 (x : Int) (y : Int) = ((Nat.lor x y : Nat) : Int) := (bit_nat (· ||| ·) Nat.lor (fun a b => BitVec.toNat_or a b) hx hy).1
theorem xor_lt {x y : Nat} (hx : B32 x) (hy : B32 y) : B32 (Nat.xor x y) := (bit_nat (· ^^^ ·) Nat.xor (fun a b => BitVec.toNat_xor a b) hx hy).2
theorem and_lt {x y : Nat} (hx : B32 x) (hy : B32 y) : B32 (Nat.land x y) := (bit_nat (· &&& ·) Nat.land (fun a b => BitVec.toNat_and a b) hx hy).2
theorem or_lt {x y : Nat} (hx : B32 x) (hy : B32 y) : B32 (Nat.lor x y) := (bit_nat (· ||| ·) Nat.lor (fun a b => BitVec.toNat_or a b) hx hy).2
theorem shr32_nat (x n : Nat) (hn : n ≤ 32) : shrI .u32 (x : Int) (n : Int) = ((Nat.shiftRight x n : Nat) : Int) := by
  have hb : IntKind.u32.bits = 32 := rfl
  have e : min ((n : Int).toNat) IntKind.u32.bits = n := by rw [hb]; omega
  rw [shrI, e, Int.fdiv_eq_ediv_of_nonneg _ (Int.le_of_lt (Int.pow_pos (by decide)))]
  show _ = ((x >>> n : Nat) : Int)
  rw [Nat.shiftRight_eq_div_pow, Int.natCast_ediv, Int.natCast_pow]
  rfl
theorem shl32_nat (x n : Nat) (hn : n ≤ 32) : shlI .u32 (x : Int) (n : Int) = ((Nat.mod (Nat.shiftLeft x n) 4294967296 : Nat) : Int) := by
  have hb : IntKind.u32.bits = 32 := rfl
  have e : min ((n : Int).toNat) IntKind.u32.bits = n := by rw [hb]; omega
  rw [shlI, e, IntKind.wrap_u32]
  show _ = ((x <<< n % 4294967296 : Nat) : Int)
  rw [Nat.shiftLeft_eq, Int.natCast_emod, Int.natCast_mul, Int.natCast_pow]
  rfl
theorem mod_lt32 (x : Nat) : B32 (Nat.mod x 4294967296) := Nat.mod_lt _ (by decide)
theorem shr_lt {x : Nat} (n : Nat) (hx : B32 x) : B32 (Nat.shiftRight x n) := by
  show x >>> n < _
  rw [Nat.shiftRight_eq_div_pow]
  exact Nat.lt_of_le_of_lt (Nat.div_le_self _ _) hx
theorem rot_lt {x : Nat} (n m : Nat) (hx : B32 x) : B32 (nrot x n m) := or_lt (shr_lt n hx) (mod_lt32 _)
theorem turn_nat {x n m : Nat} (hx : B32 x) (hn : n ≤ 32) (hm : m ≤ 32) (e : IntKind.u64.wrap (32 - (n : Int)) = (m : Int)) : turn (x : Int) (n : Int) = ((nrot x n m : Nat) : Int) := by
  rw [turn, e, shr32_nat x n hn, shl32_nat x m hm, or_nat (shr_lt n hx) (mod_lt32 _)]
  rfl
theorem w32_nat (a b : Nat) : w32 (a : Int) (b : Int) = ((nadd a b : Nat) : Int) := by
  rw [w32, IntKind.wrap_u32]
  show _ = (((a + b) % 4294967296 : Nat) : Int)
  omega
theorem rotR_nat {x : Nat} (hx : B32 x) : rotR (x : Int) 2 = ((nrot x 2 30 : Nat) : Int) ∧ rotR (x : Int) 13 = ((nrot x 13 19 : Nat) : Int) ∧ rotR (x : Int) 22 = ((nrot x 22 10 : Nat) : Int) ∧ rotR (x : Int) 6 = ((nrot x 6 26 : Nat) : Int) ∧ rotR (x : Int) 11 = ((nrot x 11 21 : Nat) : Int) ∧ rotR (x : Int) 25 = ((nrot x 25 7 : Nat) : Int)
    ∧ rotR (x : Int) 7 = ((nrot x 7 25 : Nat) : Int) ∧ rotR (x : Int) 18 = ((nrot x 18 14 : Nat) : Int) ∧ rotR (x : Int) 17 = ((nrot x 17 15 : Nat) : Int) ∧ rotR (x : Int) 19 = ((nrot x 19 13 : Nat) : Int) := by
  rw [← turn2, ← turn13, ← turn22, ← turn6, ← turn11, ← turn25, ← turn7, ← turn18, ← turn17, ← turn19]
  exact ⟨turn_nat (n := 2) (m := 30) hx (by decide) (by decide) (by decide), turn_nat (n := 13) (m := 19) hx (by decide) (by decide) (by decide), turn_nat (n := 22) (m := 10) hx (by decide) (by decide) (by decide), turn_nat (n := 6) (m := 26) hx (by decide) (by decide) (by decide), turn_nat (n := 11) (m := 21) hx (by decide) (by decide) (by decide), turn_nat (n := 25) (m := 7) hx (by decide) (by decide) (by decide),
    turn_nat (n := 7) (m := 25) hx (by decide) (by decide) (by decide), turn_nat (n := 18) (m := 14) hx (by decide) (by decide) (by decide), turn_nat (n := 17) (m := 15) hx (by decide) (by decide) (by decide), turn_nat (n := 19) (m := 13) hx (by decide) (by decide) (by decide)⟩
theorem sumA_nat {v : Nat → Int} {a : Nat} (h : v 0 = (a : Int)) (ha : B32 a) : sumA v = ((nS0 a : Nat) : Int) := by
  obtain ⟨r2, r13, r22, _⟩ := rotR_nat ha
  rw [sumA, h, r2, r13, r22, xor_nat (rot_lt _ _ ha) (rot_lt _ _ ha), xor_nat (xor_lt (rot_lt _ _ ha) (rot_lt _ _ ha)) (rot_lt _ _ ha)]
  rfl
theorem sumE_nat {v : Nat → Int} {a : Nat} (h : v 4 = (a : Int)) (ha : B32 a) : sumE v = ((nS1 a : Nat) : Int) := by
  obtain ⟨_, _, _, r6, r11, r25, _⟩ := rotR_nat ha
  rw [sumE, h, r6, r11, r25, xor_nat (rot_lt _ _ ha) (rot_lt _ _ ha), xor_nat (xor_lt (rot_lt _ _ ha) (rot_lt _ _ ha)) (rot_lt _ _ ha)]
  rfl
theorem sg0_nat {a : Nat} (ha : B32 a) : sg0 (a : Int) = ((ns0 a : Nat) : Int) := by
  obtain ⟨_, _, _, _, _, _, r7, r18, _⟩ := rotR_nat ha
  rw [sg0, r7, r18, show shrI .u32 (a : Int) 3 = _ from shr32_nat a 3 (by decide), xor_nat (rot_lt _ _ ha) (rot_lt _ _ ha), xor_nat (xor_lt (rot_lt _ _ ha) (rot_lt _ _ ha)) (shr_lt _ ha)]
  rfl
theorem sg1_nat {a : Nat} (ha : B32 a) : sg1 (a : Int) = ((ns1 a : Nat) : Int) := by
  obtain ⟨_, _, _, _, _, _, _, _, r17, r19⟩ := rotR_nat ha
  rw [sg1, r17, r19, show shrI .u32 (a : Int) 10 = _ from shr32_nat a 10 (by decide), xor_nat (rot_lt _ _ ha) (rot_lt _ _ ha), xor_nat (xor_lt (rot_lt _ _ ha) (rot_lt _ _ ha)) (shr_lt _ ha)]
  rfl
theorem chE_nat {v : Nat → Int} {e f g : Nat} (h4 : v 4 = (e : Int)) (h5 : v 5 = (f : Int)) (h6 : v 6 = (g : Int)) (he : B32 e) (hf : B32 f) (hg : B32 g) : chE v = ((nch e f g : Nat) : Int) := by
  have hm : (if IntKind.u32.signed then (-1 : Int) else IntKind.u32.max) = ((4294967295 : Nat) : Int) := by decide
  have h1 : B32 4294967295 := by decide
  rw [chE, h4, h5, h6, hm, and_nat he hf, xor_nat h1 he, and_nat (xor_lt h1 he) hg, xor_nat (and_lt he hf) (and_lt (xor_lt h1 he) hg)]
  rfl
theorem majA_nat {v : Nat → Int} {a b c : Nat} (h0 : v 0 = (a : Int)) (h1 : v 1 = (b : Int)) (h2 : v 2 = (c : Int)) (ha : B32 a) (hb : B32 b) (hc : B32 c) : majA v = ((nmaj a b c : Nat) : Int) := by
  rw [majA, h0, h1, h2, and_nat ha hb, and_nat ha hc, and_nat hb hc, xor_nat (and_lt ha hb) (and_lt ha hc), xor_nat (xor_lt (and_lt ha hb) (and_lt ha hc)) (and_lt hb hc)]
  rfl
structure R8 (v : Nat → Int) (a b c d e f g h : Nat) : Prop where
  (h0 : v 0 = (a : Int)) (h1 : v 1 = (b : Int)) (h2 : v 2 = (c : Int)) (h3 : v 3 = (d : Int)) (h4 : v 4 = (e : Int)) (h5 : v 5 = (f : Int)) (h6 : v 6 = (g : Int)) (h7 : v 7 = (h : Int))
  (l0 : B32 a) (l1 : B32 b) (l2 : B32 c) (l3 : B32 d) (l4 : B32 e) (l5 : B32 f) (l6 : B32 g) (l7 : B32 h)
theorem stT_nat {v : Nat → Int} {a b c d e f g h k w : Nat} (R : R8 v a b c d e f g h) : stT v (k : Int) (w : Int) = ((nT e f g h k w : Nat) : Int) := by
  rw [stT, R.h7, sumE_nat R.h4 R.l4, chE_nat R.h4 R.h5 R.h6 R.l4 R.l5 R.l6, w32_nat, w32_nat, w32_nat, w32_nat]
  congr 1
  show (((((h + nS1 e) % 4294967296 + nch e f g) % 4294967296) + k) % 4294967296 + w) % 4294967296 = (h + nS1 e + nch e f g + k + w) % 4294967296
  omega
theorem step_nat {v : Nat → Int} {a b c d e f g h k w : Nat} (R : R8 v a b c d e f g h) : R8 (stepV v (k : Int) (w : Int)) (Nat.mod (Nat.add (nT e f g h k w) (Nat.add (nS0 a) (nmaj a b c))) 4294967296) a b c (Nat.mod (Nat.add d (nT e f g h k w)) 4294967296) e f g := by
  refine ⟨?_, R.h0, R.h1, R.h2, ?_, R.h4, R.h5, R.h6, mod_lt32 _, R.l0, R.l1, R.l2, mod_lt32 _, R.l4, R.l5, R.l6⟩
  · show w32 (stT v k w) (stU v) = _
    rw [stT_nat R, stU, sumA_nat R.h0 R.l0, majA_nat R.h0 R.h1 R.h2 R.l0 R.l1 R.l2, w32_nat, w32_nat]
    congr 1
    show (nT e f g h k w + (nS0 a + nmaj a b c) % 4294967296) % 4294967296 = (nT e f g h k w + (nS0 a + nmaj a b c)) % 4294967296
    omega
  · show w32 (v 3) (stT v k w) = _
    rw [stT_nat R, R.h3, w32_nat]
    rfl
end Go.Proofs.YtmoohekgheoliaaGreatDoor
