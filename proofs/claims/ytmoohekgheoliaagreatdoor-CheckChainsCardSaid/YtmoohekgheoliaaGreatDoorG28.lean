/- Proved: whatever the input, drawbridgelaw12.CheckChains returns true, and the input reads as it did; condition: the variable hash.steps holds what the program's text lays, and the card ties that to the text. -/
import Derived.Test.YtmoohekgheoliaaGreatDoorG27
import Derived.Test.YtmoohekgheoliaaGreatDoorG26
import Derived.Test.YtmoohekgheoliaaGreatDoorG11
import Derived.LaidMore
import Derived.LaidHandle
import Derived.MakeChecks
import Derived.Stop.Joined
import Derived.Test.YtmoohekgheoliaaGreatDoorTie
import Derived.Test.YtmoohekgheoliaaGreatDoorCards
set_option linter.unusedSimpArgs false
set_option linter.unusedVariables false
namespace Go.Sx
open Go.RowKit Go.MapKept
section
variable {P : Program} {S : St} {d : Nat} {o : Oper} {K V : Type} [DecidableEq K] {kx : K → Value} {vx : V → Value} {l : List (K × V)} {t kt et : TypeId}
theorem insert_op (KL : KeyL P kt kx) (ht : P.underlying t = some (.map kt et)) {x k y : Operand} (ho : o.op = .insert t x k y) {c : Nat} (hx : S.ev x = some (XV.sv (.map c))) (a : K) (v : V) (hk : S.ev k = some (.cv (rawCV (kx a)))) (hv : S.ev y = some (.cv (rawCV (vx v))))
    (hm : S.mem.get c = some (.abs (MapP kx vx l))) : OpSound P S d o { v := XV.val undef, upd := [(c, .abs (MapP kx vx (mput l a v)))], wr := [c] } [c] := by
  intro β ow w ac K' Q hw _ hops hr hK
  have h1 := hops x (by rw [ho]; simp [Op.operands]) _ hx
  have h2 := hops k (by rw [ho]; simp [Op.operands]) _ hk
  have h3 := hops y (by rw [ho]; simp [Op.operands]) _ hv
  simp only [XV.rel, rawCV_rel] at h2 h3
  simp only [XV.rel, CV.rel, SV.rel] at h1
  obtain ⟨n0, n1, hO, es, clock, hb, hs, hl⟩ := hr c (by simp) _ hm
  have hn := mapP_nodup hs hl
  have hlt := (Array.getElem?_eq_some_iff.1 hb).1
  have main : ∃ es' clock', (Instr.mapUpdate t (.map (some (β c).blk)) (kx a) (vx v)).run P w = .ok () (ChangeMaps.setBlock w (β c).blk (.map es' clock')) ∧ Stamped es' clock' ∧ es'.toList.map (fun e => (e.key, e.val)) = (mput l a v).map fun x => (kx x.1, vx x.2) := by
    rcases KL.find w a es.toList (mapP_keys hl) with ⟨g1, g2⟩ | ⟨j, e, g1, g2, g3⟩
    · refine ⟨es.push ⟨kx a, vx v, clock⟩, clock + 1, ?_, stamped_push hs g2, ?_⟩
      · simp [Instr.mapUpdate, run_underlying ht, MapKept.run_getObj_map hb, KL.check w false a, g1, MapKept.run_setObj_map _ hb, Result.andThen, ChangeMaps.setBlock]
      · rw [mput_none (mapP_none hl g2)]
        simp [hl]
    · obtain ⟨v0, g4, g5⟩ := mapP_some KL.inj hl g2 g3
      have hj : es[j]? = some e := by simpa using g2
      have hkeyf : ∀ e', es[j]? = some e' → ({ e' with key := kx a, val := vx v } : MapEntry).key = e'.key := fun e' he' => by rw [hj] at he'; cases he'; exact g3.symm
      have hlist : (es.modify j (fun e' => { e' with key := kx a, val := vx v })).toList = es.toList.set j { e with key := kx a, val := vx v } := by rw [Array.toList_modify, ChangeMaps.modify_eq_set _ _ _ _ g2]
      refine ⟨es.modify j (fun e' => { e' with key := kx a, val := vx v }), clock, ?_, stamped_modify hs _ _ (fun _ _ => rfl) (fun e' _ he' => hkeyf e' he'), ?_⟩
      · simp [Instr.mapUpdate, run_underlying ht, MapKept.run_getObj_map hb, KL.check w false a, g1, hj, g3, KL.stays w a, MapKept.run_setObj_map _ hb, Result.andThen, ChangeMaps.setBlock]
      · rw [hlist, mput_some hn g4, List.map_set, List.map_set, hl]
  obtain ⟨es', clock', m1, m2, m3⟩ := main
  have hrun : (execOp ac.eval o).run P w = .ok .skip (ChangeMaps.setBlock w (β c).blk (.map es' clock')) := by
    simp [execOp, ho, h1, h2, h3, m1]
  refine upon_skip hrun (hK β ow _ undef (Eff.setB hw d c ((hO _).2 rfl) _) rfl (fun c' ch hc => ?_))
  simp only [Mem.get, nbeq] at hc
  by_cases hcc : c = c'
  · subst hcc
    simp only [decide_true, cond_true, Option.some.injEq] at hc
    subst hc
    exact ⟨n0, n1, hO, es', clock', by simp [ChangeMaps.setBlock, hlt], m2, m3⟩
  · simp [hcc] at hc
end
end Go.Sx
namespace Go.Proofs.YtmoohekgheoliaaGreatDoor
set_option maxRecDepth 100000
open Go.Sx
theorem hashK : KeyL Tryz.prog 39 H8.v := KeyL.of (Maps.Keyed.of_law hash_law) H8.inj hash_key
theorem seen_map : Tryz.prog.underlying 90 = some (.map 39 4) := Tryz.underlying90
theorem seen_zero : ∀ w : World, (zeroValue 4).run Tryz.prog w = .ok (Value.bool false) w := fun w => by kernel_rfl
def chZ (a : Nat) (fees : List UInt8) : Nat → Int
  | 0 => 5000 + (a : Int)
  | i + 1 => chZ a fees i - ((fees.getD i 0).toNat : Int)
theorem chZ_range (a : Nat) (fees : List UInt8) (ha : a < 65536) : ∀ i : Nat, i ≤ 7 → 5000 + (a : Int) - 255 * (i : Int) ≤ chZ a fees i ∧ chZ a fees i ≤ 5000 + (a : Int)
  | 0, _ => by rw [chZ]; omega
  | i + 1, h => by
    have := chZ_range a fees ha i (by omega)
    have h2 := (fees.getD i 0).toNat_lt
    rw [chZ]
    omega
def chN (a : Nat) (fees : List UInt8) (i : Nat) : Int64 := Int64.ofInt (chZ a fees i)
theorem chN_toInt {a : Nat} {fees : List UInt8} (ha : a < 65536) {i : Nat} (hi : i ≤ 7) : (chN a fees i).toInt = chZ a fees i := by
  have := chZ_range a fees ha i hi
  exact Int64.toInt_ofInt_of_le (by omega) (by omega)
theorem ch_sized (q : Pt) (i : Nat) (s : SigM) (n : Int64) : Sized (chT q i s n) := ⟨by show 1 ≤ _; decide, by show 1 ≤ _; decide, Nat.zero_le _, Nat.zero_le _, Nat.zero_le _, Nat.zero_le _⟩
theorem outs_steps (id : H8) (h : Int64) (base : Bool) : ∀ (l : List OutM) (S : USet) (i : Nat), (outsGo id h base S i l).1.steps.length ≤ S.steps.length + l.length
  | [], S, i => Nat.le_refl _
  | o :: l, S, i => by
    rw [outsGo]
    split
    · simp only [List.length_cons]; omega
    · split
      · have h2 := outs_steps id h base l (S.add1 (ptAt id i) ⟨o.to, o.amt, h, base⟩) (i + 1)
        simp only [USet.add1, List.length_append, List.length_singleton] at h2
        simp only [List.length_cons]
        simp only [USet.add1]
        omega
      · simp only [List.length_cons]; omega
theorem do_steps (S : USet) (t : TxM) (H : Int64) : (doE S t H).1.steps.length ≤ S.steps.length + t.ins.length + t.outs.length := by
  have h1 := spendAll_steps S t.ins
  have h2 := outs_steps (payID t) H false t.outs (spendAll S t.ins) 0
  rw [doE]
  split
  · split <;> (dsimp only; omega)
  · dsimp only; omega
structure ChI (a : Nat) (fees : List UInt8) where
  i : Nat
  S : USet
  R : RC
  q : Pt
  seen : List (H8 × Bool)
  h : Int64
  le : i ≤ fees.length
  one : OneC S q i (chN a fees i) h
  twin : Twin S R
  no : q.no = 0
  steps : S.steps.length ≤ 100 * (i + 1)
def chSt (fees : List UInt8) (n : Int) (S : USet) (R : RC) (q : Pt) (seen : List (H8 × Bool)) (i : Nat) : St :=
  ⟨[none, some (XV.sv (.slc 1 1 0 fees.length)), none, none, none, some (XV.int .i64 n), some (XV.sv (.ptr 3 0 0 0)), some (XV.sv (.ptr 4 0 0 0)), none, some (XV.sv (.ptr 5 0 0 0)), some (XV.sv (.map 6)), some (XV.int .i64 i)] ++ List.replicate 140 none,
   [(1, .ro 1 fees.length (rowB fees)), (2, .ext stepsP), (3, .abs (usetP S)), (4, .abs (rcP R)), (5, .cells 60 (q.cells.map .raw)), (6, .abs (MapP H8.v Value.bool seen))], 7⟩
theorem one_ok (p : Pt) (hp : p.no = 0) (c : Coin) (hc : 1 ≤ c.amt.toInt) (hc2 : c.amt.toInt ≤ 1000000) : USet.empty.okB p c = true := by
  have b1 : bothB 0 c.amt.toInt (IntKind.i64.wrap (0 + c.amt.toInt)) = true := by
    rw [wrap_ok (by omega) (by omega), bothB, show mayB 0 = true from by decide, Bool.true_and, mayB_iff.2 ⟨by omega, by omega⟩, Bool.true_and, mayB_iff]
    omega
  have b2 : decide (c.amt.toInt < 1) = false := decide_eq_false (by omega)
  have b3 : USet.empty.has p = false := rfl
  have b4 : USet.empty.total = 0 := rfl
  rw [USet.okB, b3, b4, b1, b2, hp]
  decide
theorem fillN_1 (c : LCoin) : fillN [c] 1 = ⟨USet.empty.add (ptOf ((0 : Nat) : Int)) c.coin, RC.empty.add (ptOf ((0 : Nat) : Int)) c.coin, if RC.empty.okB (ptOf ((0 : Nat) : Int)) c.coin = true then [] ++ [c] else []⟩ := by
  have e : fillN [c] 1 = fillStep fill0 c := rfl
  rw [e, fillStep]
  rfl
theorem one_fill (c : LCoin) (h : 1 ≤ c.amt.toInt) (h2 : c.amt.toInt ≤ 1000000) : ∃ F, fillN [c] 1 = F ∧ F.I.length ≤ 1 ∧ F.S.coins = [(ptOf 0, c.coin)] ∧ F.S.total = c.amt.toInt ∧ Twin F.S F.R ∧ F.S.steps.length ≤ 1 := by
  have hl := fillN_len [c] 1
  have htw := twin_fill [c] 1
  obtain ⟨F, hF⟩ : ∃ F, fillN [c] 1 = F := ⟨_, rfl⟩
  have hk : USet.empty.okB (ptOf ((0 : Nat) : Int)) c.coin = true := one_ok _ (by decide) c.coin h h2
  have hS : F.S = USet.empty.add1 (ptOf ((0 : Nat) : Int)) c.coin := by
    rw [← hF, fillN_1]
    show USet.empty.add (ptOf ((0 : Nat) : Int)) c.coin = _
    rw [USet.add, if_pos hk]
  rw [hF] at hl htw
  refine ⟨F, hF, hl.2.2.2, ?_, ?_, htw, hl.1⟩
  · rw [hS]; rfl
  · rw [hS]
    show IntKind.i64.wrap (0 + c.amt.toInt) = _
    rw [wrap_ok (by omega) (by omega)]; omega
theorem ch_first {a : Nat} {fees : List UInt8} (ha : a < 65536) : ∃ F, fillN [⟨0, chN a fees 0, 0, false⟩] 1 = F ∧ F.I.length ≤ 1 ∧ OneC F.S (ptOf 0) 0 (chN a fees 0) 0 ∧ Twin F.S F.R ∧ F.S.steps.length ≤ 1 := by
  have hz := chN_toInt (fees := fees) ha (Nat.zero_le 7)
  have hr := chZ_range a fees ha 0 (Nat.zero_le 7)
  obtain ⟨n, hn⟩ : ∃ n, chN a fees 0 = n := ⟨_, rfl⟩
  rw [hn] at hz ⊢
  obtain ⟨F, h1, h2, h3, h4, h5, h6⟩ := one_fill ⟨0, n, 0, false⟩ (by show 1 ≤ n.toInt; omega) (by show n.toInt ≤ _; omega)
  exact ⟨F, h1, h2, ⟨h3, h4⟩, h5, h6⟩
set_option maxHeartbeats 8000000 in
theorem chains_walk (haw : Reads Tryz.prog 9 [] [stepsP] (XV.bool true)) (hsame : SameOK) (a : Nat) (ha : a < 65536) (fees : List UInt8) (hl : fees.length ≤ maxLen) :
    Reads Tryz.prog 8 [.plain (.one (.raw (.int .u16 (a : Int)))), .row 1 fees.length (rowB fees)] [stepsP] (XV.bool true) := by
  obtain ⟨F, hF, f1, f2, f3, f4⟩ := ch_first (fees := fees) ha
  have hfill := fill_can [(⟨0, chN a fees 0, 0, false⟩ : LCoin)] (by show 1 ≤ _; decide)
  rw [show fillN [(⟨0, chN a fees 0, 0, false⟩ : LCoin)] [(⟨0, chN a fees 0, 0, false⟩ : LCoin)].length = F from hF] at hfill
  have eN : IntKind.i64.wrap (5000 + IntKind.i64.wrap (a : Int)) = (chN a fees 0).toInt := by
    rw [chN_toInt ha (Nat.zero_le 7), chZ]
    rw [wrap_ok (n := (a : Int)) (by omega) (by omega), wrap_ok (by omega) (by omega)]
  refine Reads.of Tryz.T_ok Tryz.func8 rfl _ _ _ rfl rfl (fun C hC => ?_)
  (replace hC : C.n0 = 3 := hC; change Tri _ _ _ ⟨_, _, 3⟩ _)
  (refine Tri.cut 3 Tryz.mixed Tryz.T_ok ?_; ((conv => arg 5; whnf); repeat (refine xS ?_; conv => arg 5; whnf)))
  (apply wP; exact (call_op rfl (entersB_of Tryz.func9 (by kernel_rfl)) rfl (haw.at [2] trivial ⟨lend_ext (c := 2) rfl rfl, trivial⟩)); ((conv => arg 5; whnf); repeat (refine xS ?_; conv => arg 5; whnf)))
  refine wC (fun hx => ?_) (fun hx => ?_)
  · (refine wGo ?_; ((conv => arg 5; whnf); repeat (refine xS ?_; conv => arg 5; whnf)))
    exact wD <| cutR <| Ends.plain (.inr rfl) rfl rfl
  have h7 : fees.length ≤ 7 := (by (try simp only [ww] at *); omega)
  (refine wGo ?_; ((conv => arg 5; whnf); repeat (refine xS ?_; conv => arg 5; whnf)))
  refine wD <| cutG ?_
  (refine Tri.cut 1 Tryz.mixed Tryz.T_ok ?_; ((conv => arg 5; whnf); repeat (refine xS ?_; conv => arg 5; whnf)))
  simp only [eN]
  refine wD <| cutG ?_
  (refine Tri.cut 1 Tryz.mixed Tryz.T_ok ?_; ((conv => arg 5; whnf); repeat (refine xS ?_; conv => arg 5; whnf)))
  (apply wP; exact (call_op rfl (entersB_of Tryz.func11 (by kernel_rfl)) rfl (hfill.at [15] ⟨lend_vec (lo := 0) rfl rfl (Nat.le_refl _) (lt1 rfl), trivial⟩ trivial)); ((conv => arg 5; whnf); repeat (refine xS ?_; conv => arg 5; whnf)))
  refine wD <| cutG <| Tri.ent (Ent.unpack (c := 16) (l := fillPack F) rfl) ?_
  (refine Tri.cut 2 Tryz.mixed Tryz.T_ok ?_; ((conv => arg 5; whnf); repeat (refine xS ?_; conv => arg 5; whnf)))
  (apply wP; exact (call_op rfl (entersB_of Tryz.func24 (by kernel_rfl)) rfl ((point_can 0).at [] ⟨lend_plain rfl, trivial⟩ trivial)); ((conv => arg 5; whnf); repeat (refine xS ?_; conv => arg 5; whnf)))
  refine wD <| cutG ?_
  (refine Tri.cut 1 Tryz.mixed Tryz.T_ok ?_; ((conv => arg 5; whnf); repeat (refine xS ?_; conv => arg 5; whnf)))
  (refine wP _ _ (makeMap_op H8.v Value.bool rfl) ?_; ((conv => arg 5; whnf); repeat (refine xS ?_; conv => arg 5; whnf)))
  (refine wP _ _ (insert_op hashK seen_map rfl rfl (ptOf 0).tx true rfl rfl rfl) ?_; ((conv => arg 5; whnf); repeat (refine xS ?_; conv => arg 5; whnf)))
  refine wD <| cutG <| Tri.seq ?_
  (refine Tri.cut 1 Tryz.mixed Tryz.T_ok ?_; ((conv => arg 5; whnf); repeat (refine xS ?_; conv => arg 5; whnf)))
  refine wD <| cutG <| Tri.block ?_
  refine Tri.loop (α := ChI a fees) (fun x => chSt fees (chN a fees x.i).toInt x.S x.R x.q x.seen x.i) (fun x => fees.length - x.i) ⟨0, F.S, F.R, ptOf 0, mput [] (ptOf 0).tx true, 0, Nat.zero_le _, f2, f3, by decide, by omega⟩ ?_ ?_
  · unfold chSt
    ((try dsimp only); refine Ent.renC [0, 1, 2, 24, 25, 30, 32] hC ?_ ?_ <;> repeat' (first | exact trivial | exact rfl | exact ⟨_, rfl, rfl, rfl, Nat.le_refl _, fun _ _ => rfl⟩ | exact ⟨_, rfl, rfl, rfl, fun _ _ => rfl⟩ | exact ⟨_, rfl, rfl, rfl⟩ | exact ⟨_, rfl, rfl⟩ | refine ⟨_, rfl, rfl, rfl, by omega, fun k hk => ?_⟩ | refine ⟨?_, ?_⟩ | fail))
  rintro ⟨i, S, R, q, seen, h, hi, hone, htw, hq, hst⟩
  unfold chSt
  dsimp only
  (refine Tri.cut 1 Tryz.mixed Tryz.T_ok ?_; ((conv => arg 5; whnf); repeat (refine xS ?_; conv => arg 5; whnf)))
  refine wC (fun hh => ?_) (fun hh => ?_)
  · (refine wGo ?_; ((conv => arg 5; whnf); repeat (refine xS ?_; conv => arg 5; whnf)))
    have h' : i < fees.length := (by (try simp only [ww] at *); omega)
    have hw : IntKind.i64.wrap ((i : Int) + 1) = ((i + 1 : Nat) : Int) := (by (try simp only [ww] at *); omega)
    have hi7 : i ≤ 7 := by omega
    have hi7' : i + 1 ≤ 7 := by omega
    have z0 := chN_toInt (fees := fees) ha hi7
    have z1 := chN_toInt (fees := fees) ha hi7'
    have r0 := chZ_range a fees ha i hi7
    have r1 := chZ_range a fees ha (i + 1) hi7'
    have hzs : chZ a fees (i + 1) = chZ a fees i - ((fees.getD i 0).toNat : Int) := rfl
    have hf := (fees.getD i 0).toNat_lt
    obtain ⟨fee, hfee⟩ : ∃ fee, (fees.getD i 0).toNat = fee := ⟨_, rfl⟩
    obtain ⟨n, hn⟩ : ∃ n, chN a fees i = n := ⟨_, rfl⟩
    obtain ⟨m, hm⟩ : ∃ m, chN a fees (i + 1) = m := ⟨_, rfl⟩
    rw [hfee] at hzs hf
    rw [hn] at z0 hone
    rw [hm] at z1
    have eF : IntKind.i64.wrap ((fee : Nat) : Int) = (fee : Int) := wrap_ok (by omega) (by omega)
    have eM : IntKind.i64.wrap (n.toInt - (fee : Int)) = m.toInt := by rw [wrap_ok (by omega) (by omega)]; omega
    have hmny : moneyB m.toInt = true := by
      rw [moneyB, withinB, decide_eq_true (by omega), decide_eq_true (by omega)]; rfl
    have hmay0 := ch_may q i sig0 m hq (by omega) (by decide) hmny
    have hmay := ch_may q i (chS q i m) m hq (by omega) (by show withinB ((0 : Nat) : Int) 0 255 = true; decide) hmny
    obtain ⟨d1, d2⟩ := ch_do hone (m := m) (by omega) (by omega) (by omega)
    have hsg : signM (seedU (i : Int)) 0 (msgH (chT q i sig0 m) ((0 : Nat) : Int)) = chS q i m := rfl
    have cmsg := rmessage_can (chT q i sig0 m) 0 rfl (ch_sized _ _ _ _) claim0_wf hmay0 (by show 0 < 1; decide)
    obtain ⟨mh, hmh⟩ : ∃ mh, msgH (chT q i sig0 m) ((0 : Nat) : Int) = mh := ⟨_, rfl⟩
    have csig := signTree_can (seedU (i : Int)) 0 mh (by decide)
    rw [hmh] at cmsg hsg
    rw [hsg] at csig
    obtain ⟨sg, hsgg⟩ : ∃ sg, chS q i m = sg := ⟨_, rfl⟩
    rw [hsgg] at csig d1 d2 hmay
    have htd := twin_do htw (chT q i sg m) 9
    have hdl := twin_do_len htw (chT q i sg m) 9
    have cdo := do_can S (chT q i sg m) 9 rfl (ch_sized _ _ _ _) claim0_wf hmay (by omega)
    have rdo := rdo_can S R htw.look htw.lens.2 (by have := htw.lens; rw [this.1, hone.coins]; show 1 < _; decide) (chT q i sg m) 9 rfl (ch_sized _ _ _ _) claim0_wf hmay
    have cid := rid_can (chT q i sg m) rfl (ch_sized _ _ _ _) claim0_wf hmay
    have hst2 := do_steps S (chT q i sg m) 9
    obtain ⟨id, hid⟩ : ∃ id, payID (chT q i sg m) = id := ⟨_, rfl⟩
    rw [show dig 120 [payEnc (chT q i sg m)] = id from hid] at cid
    rw [hid] at d2
    obtain ⟨D, hD⟩ : ∃ D, doE S (chT q i sg m) 9 = D := ⟨_, rfl⟩
    obtain ⟨E, hE⟩ : ∃ E, rdoE S R (chT q i sg m) 9 = E := ⟨_, rfl⟩
    rw [hD] at d1 d2 cdo htd hst2
    rw [hE] at rdo htd
    obtain ⟨td1, td2⟩ := htd
    rw [← td2] at rdo
    rw [show n.toInt - m.toInt = (fee : Int) by omega] at d1
    rw [d1] at cdo rdo
    clear hD hE hid hsgg hsg hmh hmay0 hmay hdl td2
    refine wD <| cutG <| Tri.seq <| Tri.block ?_
    (refine Tri.cut 1 Tryz.mixed Tryz.T_ok ?_; ((conv => arg 5; whnf); repeat (refine xS ?_; conv => arg 5; whnf)))
    (repeat (refine wN ?_ ?_; exact (by (try simp only [ww] at *); omega); refine wGo ?_; ((conv => arg 5; whnf); repeat (refine xS ?_; conv => arg 5; whnf))))
    simp only [Nat.zero_add, Int.toNat_natCast, hn, hfee, eF, eM]
    refine wD <| cutG ?_
    (refine Tri.cut 1 Tryz.mixed Tryz.T_ok ?_; ((conv => arg 5; whnf); repeat (refine xS ?_; conv => arg 5; whnf)))
    (apply wP; exact (call_op rfl (entersB_of Tryz.func25 (by kernel_rfl)) rfl ((owner_can (i : Int)).at [] ⟨lend_plain rfl, trivial⟩ trivial)); ((conv => arg 5; whnf); repeat (refine xS ?_; conv => arg 5; whnf)))
    simp only [hw]
    (apply wP; exact (call_op rfl (entersB_of Tryz.func25 (by kernel_rfl)) rfl ((owner_can ((i + 1 : Nat) : Int)).at [] ⟨lend_plain rfl, trivial⟩ trivial)); ((conv => arg 5; whnf); repeat (refine xS ?_; conv => arg 5; whnf)))
    refine wD <| cutG ?_
    (refine Tri.cut 1 Tryz.mixed Tryz.T_ok ?_; ((conv => arg 5; whnf); repeat (refine xS ?_; conv => arg 5; whnf)))
    (apply wP; exact (call_op rfl (entersB_of Tryz.func26 (by kernel_rfl)) rfl (cmsg.at [23, 29] ⟨lend_tx (t := chT q i sig0 m) (lend_vec (lo := 0) rfl rfl (Nat.le_refl _) (lt1 rfl)) (lend_vec (lo := 0) rfl rfl (Nat.le_refl _) (lt1 rfl)) (lend_nil _ _) (lend_nil _ _) (lend_nil _ _) (lend_nil _ _), lend_plain rfl, trivial⟩ trivial)); ((conv => arg 5; whnf); repeat (refine xS ?_; conv => arg 5; whnf)))
    refine wD <| cutG ?_
    (refine Tri.cut 1 Tryz.mixed Tryz.T_ok ?_; ((conv => arg 5; whnf); repeat (refine xS ?_; conv => arg 5; whnf)))
    (apply wP; exact (call_op rfl (entersB_of Tryz.func27 (by kernel_rfl)) rfl (csig.at [] ⟨lend_plainE (seedU_x _) rfl, lend_plain rfl, lend_plain rfl, trivial⟩ trivial)); ((conv => arg 5; whnf); repeat (refine xS ?_; conv => arg 5; whnf)))
    (repeat (refine wN ?_ ?_; exact (by (try simp only [ww] at *); omega); refine wGo ?_; ((conv => arg 5; whnf); repeat (refine xS ?_; conv => arg 5; whnf))))
    simp only [Nat.zero_add, Int.toNat_natCast]
    refine wD <| cutG ?_
    (refine Tri.cut 1 Tryz.mixed Tryz.T_ok ?_; ((conv => arg 5; whnf); repeat (refine xS ?_; conv => arg 5; whnf)))
    (apply wP; exact (call_op rfl (entersB_of Tryz.func14 (by kernel_rfl)) rfl (cdo.at [23, 29, 2] rfl rfl rfl ⟨lend_tx (t := chT q i sg m) (lend_vec (lo := 0) rfl rfl (Nat.le_refl _) (lt1 rfl)) (lend_vec (lo := 0) rfl rfl (Nat.le_refl _) (lt1 rfl)) (lend_nil _ _) (lend_nil _ _) (lend_nil _ _) (lend_nil _ _), lend_plain rfl, trivial⟩ ⟨lend_ext (c := 2) rfl rfl, trivial⟩)); ((conv => arg 5; whnf); repeat (refine xS ?_; conv => arg 5; whnf)))
    refine wD <| cutG ?_
    (refine Tri.cut 1 Tryz.mixed Tryz.T_ok ?_; ((conv => arg 5; whnf); repeat (refine xS ?_; conv => arg 5; whnf)))
    (apply wP; exact (call_op rfl (entersB_of Tryz.func15 (by kernel_rfl)) rfl (cid.at [23, 29] ⟨lend_tx (t := chT q i sg m) (lend_vec (lo := 0) rfl rfl (Nat.le_refl _) (lt1 rfl)) (lend_vec (lo := 0) rfl rfl (Nat.le_refl _) (lt1 rfl)) (lend_nil _ _) (lend_nil _ _) (lend_nil _ _) (lend_nil _ _), trivial⟩ trivial)); ((conv => arg 5; whnf); repeat (refine xS ?_; conv => arg 5; whnf)))
    refine wD <| cutG <| Tri.of Tryz.mixed Tryz.T_ok ?_
    (refine wBegin ?_; ((conv => arg 5; whnf); repeat (refine xS ?_; conv => arg 5; whnf)))
    (refine wP _ _ (lookup_op (ok := false) hashK seen_map (z0 := false) seen_zero rfl rfl id rfl rfl) ?_; ((conv => arg 5; whnf); repeat (refine xS ?_; conv => arg 5; whnf)))
    refine wC (fun h3 => ?_) (fun h3 => ?_)
    · (refine wGo ?_; ((conv => arg 5; whnf); repeat (refine xS ?_; conv => arg 5; whnf)))
      exact wD <| blockR <| cutR <| loopR <| blockR <| cutR <| Ends.plain (.inr rfl) rfl rfl
    · (refine wGo ?_; ((conv => arg 5; whnf); repeat (refine xS ?_; conv => arg 5; whnf)))
      (refine wP _ _ (update_op hashK seen_map rfl rfl id true rfl rfl rfl) ?_; ((conv => arg 5; whnf); repeat (refine xS ?_; conv => arg 5; whnf)))
      (apply wP; exact (call_op rfl (entersB_of Tryz.func21 (by kernel_rfl)) rfl (rdo.at [23, 29] rfl rfl rfl ⟨lend_tx (t := chT q i sg m) (lend_vec (lo := 0) rfl rfl (Nat.le_refl _) (lt1 rfl)) (lend_vec (lo := 0) rfl rfl (Nat.le_refl _) (lt1 rfl)) (lend_nil _ _) (lend_nil _ _) (lend_nil _ _) (lend_nil _ _), lend_plain rfl, trivial⟩ trivial)); ((conv => arg 5; whnf); repeat (refine xS ?_; conv => arg 5; whnf)))
      (refine wFd rfl ?_; refine wGo ?_; ((conv => arg 5; whnf); repeat (refine xS ?_; conv => arg 5; whnf)))
      (refine wFd rfl ?_; refine wGo ?_; ((conv => arg 5; whnf); repeat (refine xS ?_; conv => arg 5; whnf)))
      (repeat (refine wN ?_ ?_; exact (by (try simp only [ww] at *); omega); refine wGo ?_; ((conv => arg 5; whnf); repeat (refine xS ?_; conv => arg 5; whnf))))
      simp only [Nat.zero_add, Int.toNat_natCast, hfee, eF]
      refine wFd (by simp) ?_
      (refine wGo ?_; ((conv => arg 5; whnf); repeat (refine xS ?_; conv => arg 5; whnf)))
      refine wD <| blockN <| cutG <| Tri.of Tryz.mixed Tryz.T_ok ?_
      (refine wBegin ?_; ((conv => arg 5; whnf); repeat (refine xS ?_; conv => arg 5; whnf)))
      refine wD <| loopN ⟨⟨i + 1, D.1, E.1, ptAt id 0, mput seen id true, 9, h', by rw [hm]; exact d2, td1, rfl, by have h5 : (chT q i sg m).ins.length = 1 := rfl; have h6 : (chT q i sg m).outs.length = 1 := rfl; omega⟩, by dsimp only; omega, ?_⟩
      dsimp only
      rw [hw, hm]
      ((try dsimp only); refine Ent.renC [0, 1, 2, 3, 4, 5, 6] hC ?_ ?_ <;> repeat' (first | exact trivial | exact rfl | exact ⟨_, rfl, rfl, rfl, Nat.le_refl _, fun _ _ => rfl⟩ | exact ⟨_, rfl, rfl, rfl, fun _ _ => rfl⟩ | exact ⟨_, rfl, rfl, rfl⟩ | exact ⟨_, rfl, rfl⟩ | refine ⟨_, rfl, rfl, rfl, by omega, fun k hk => ?_⟩ | refine ⟨?_, ?_⟩ | fail))
  · (refine wGo ?_; ((conv => arg 5; whnf); repeat (refine xS ?_; conv => arg 5; whnf)))
    have h' : i = fees.length := (by (try simp only [ww] at *); omega)
    have hg : mget S.coins q = some ⟨ownerH (i : Int), chN a fees i, h, false⟩ := by rw [hone.coins, mget, if_pos rfl]
    have hget : S.get q = ⟨ownerH (i : Int), chN a fees i, h, false⟩ := by rw [USet.get, hg]; rfl
    have hhas : S.has q = true := by rw [USet.has, hg]; rfl
    have hlen : S.coins.length = 1 := by rw [hone.coins]; rfl
    have hs := @hsame S R htw (by omega)
    have cget := @get_spec S q
    rw [hget, hhas] at cget
    refine wD <| cutE <| loopX <| blockX <| cutG <| Tri.of Tryz.mixed Tryz.T_ok ?_
    (refine wBegin ?_; ((conv => arg 5; whnf); repeat (refine xS ?_; conv => arg 5; whnf)))
    (apply wP; exact (call_op rfl (entersB_of Tryz.func16 (by kernel_rfl)) rfl (cget rfl rfl)); ((conv => arg 5; whnf); repeat (refine xS ?_; conv => arg 5; whnf)))
    refine wTd (by simp) ?_
    (refine wGo ?_; ((conv => arg 5; whnf); repeat (refine xS ?_; conv => arg 5; whnf)))
    (apply wP; exact (call_op rfl (entersB_of Tryz.func17 (by kernel_rfl)) rfl (len_spec S rfl rfl)); ((conv => arg 5; whnf); repeat (refine xS ?_; conv => arg 5; whnf)))
    refine wTd (by rw [hlen]; rfl) ?_
    (refine wGo ?_; ((conv => arg 5; whnf); repeat (refine xS ?_; conv => arg 5; whnf)))
    (apply wP; exact (call_op rfl (entersB_of Tryz.func20 (by kernel_rfl)) rfl (hs rfl rfl rfl)); ((conv => arg 5; whnf); repeat (refine xS ?_; conv => arg 5; whnf)))
    exact wD (Ends.plain (.inr rfl) rfl rfl)
end Go.Proofs.YtmoohekgheoliaaGreatDoor
namespace Go.Proofs.YtmoohekgheoliaaGreatDoor
set_option maxRecDepth 100000
open Go.Sx
end Go.Proofs.YtmoohekgheoliaaGreatDoor
namespace Go.Proofs.YtmoohekgheoliaaGreatDoor
set_option maxRecDepth 100000
open Go.Sx Go.RowKit Go.ChangeShapes Go.WideShapes Go.ChangeAt
theorem own : ownKnob Tryz.prog.godebug = none := by kernel_rfl
theorem fits_u8 {v : Value} (h : (Kd.int .u8).fits v) : ∃ y : UInt8, v = u8 y := by
  obtain ⟨n, rfl, hw⟩ := h
  have e1 : IntKind.u8.min = 0 := rfl
  have e2 : IntKind.u8.max = 255 := rfl
  simp [Lit.wf, e1, e2] at hw
  refine ⟨UInt8.ofNat n.toNat, ?_⟩
  simp only [u8, Value.int.injEq, true_and]
  have : (UInt8.ofNat n.toNat).toNat = n.toNat := UInt8.toNat_ofNat_of_lt' (by simp [UInt8.size]; omega)
  omega
theorem byte_dec (cs : List Value) (h : Fits [.int .u8] cs) : ∃ x : UInt8, cs = [u8 x] := by
  obtain ⟨_, _, rfl, a0, rfl⟩ := h
  obtain ⟨b0, rfl⟩ := fits_u8 a0
  exact ⟨b0, rfl⟩
section
variable {H : Type} {enc : TypeId × Value → H} {W : World}
end
theorem cell_lt {w : World} {a : Addr} {v : Value} (h : w.cell? a = some v) : a.block < w.heap.size := by
  by_cases hb : a.block < w.heap.size
  · exact hb
  · have e : w.heap[a.block]? = none := Array.getElem?_eq_none (by omega)
    simp [World.cell?, e] at h
theorem stepsG : Tryz.prog.globalNamed "drawbridge/hash.steps" = some 0 := by kernel_rfl
theorem stepsT : (Tryz.prog.globals[0]?).map (·.type) = some 170 := by kernel_rfl
set_option maxRecDepth 100000 in
theorem steps_came {W : World} (h : laidMetH Tryz.prog [("drawbridge/hash.steps", Rows.laid_drawbridge_hash_steps)] W) : CameX W [stepsP] := by
  rw [MakeChecks.laidMetH_plain _ _ _ (by kernel_rfl)] at h
  have hT : Lib.TabIs Tryz.prog W "drawbridge/hash.steps" .u32 stepL := Lib.tabIs_of_head (zs := stepL) (k := .u32) stepsG stepsT Tryz.underlying170 Tryz.underlying168 (by kernel_rfl) (by kernel_rfl) h
  refine ⟨came_ext ?_ fun i hi => ⟨rfl, fun j v hj => ?_⟩, trivial⟩
  · exact cell_lt (hT.cell stepsG 0 (by decide))
  · have hc := hT.cell stepsG i (by show i < 64; exact hi)
    cases j with
    | zero =>
      have hv : v = .int .u32 (stepL.getD i 0) := by simpa [wordsF, stepW, u32] using hj.symm
      rw [hv]
      show W.cell? ⟨0, i * 1 + 0, none⟩ = _
      rw [Nat.mul_one, Nat.add_zero]
      exact hc
    | succ j => simp [wordsF] at hj
theorem door_met (os : Os) (args : Array Value) : laidMetH Tryz.prog [("drawbridge/hash.steps", Rows.laid_drawbridge_hash_steps)] ((World.doorLaid Tryz.prog 14 os).forCall (fun _ _ => 0) ⟨#[], args, []⟩).memory :=
  laidMetH_of_parts3 (fuel := 8) (laidMet_of_run' 8 (by kernel_rfl) (by kernel_rfl)) (by kernel_rfl) (by kernel_rfl)
end Go.Proofs.YtmoohekgheoliaaGreatDoor
namespace Go.Proofs.YtmoohekgheoliaaGreatDoor
set_option maxRecDepth 100000
open Go.Sx Go.RowKit Go.ChangeShapes Go.WideShapes Go.ChangeAt
theorem u16_range {n : Int} (h : (Lit.int .u16 n).wf = true) : 0 ≤ n ∧ n < 65536 := by
  have e1 : IntKind.u16.min = 0 := rfl
  have e2 : IntKind.u16.max = 65535 := rfl
  simp [Lit.wf, e1, e2] at h
  omega
set_option maxRecDepth 100000 in
theorem checkChains_lifted (os : Os) (started : os.Started) (H : Type) (enc : TypeId × Value → H) :
    ReturnsInHanded {} Tryz.checked os 8 .any (fun w args => (Rows.checkChainsSpec.pre enc Tryz.prog Tryz.f8 [] false w args ∧ laidMetH Tryz.prog [("drawbridge/hash.steps", Rows.laid_drawbridge_hash_steps)] w) ∧ sizedMet enc Tryz.prog Tryz.f8 (OpenSpec.ofChange Rows.checkChainsSpec) false w args)
      (Rows.checkChainsSpec.post enc Tryz.prog Tryz.f8 false true false false) := by
  refine returnsInHanded_of_change_and (C := Tryz.checked) (X := fun w _ => laidMetH Tryz.prog [("drawbridge/hash.steps", Rows.laid_drawbridge_hash_steps)] w) (fun _ _ _ hh h => h.of_heap hh) own started (by kernel_rfl) Tryz.func8
    (ChangeSpec.witness_shaped (enc := enc) (C := Tryz.checked) (os := os) (X := fun w _ => laidMetH Tryz.prog [("drawbridge/hash.steps", Rows.laid_drawbridge_hash_steps)] w) false (World.doorLaid Tryz.prog 14 os) #[.int .u16 0, .slice none 0 0] 8 rfl (World.shaped_of_RefB (by kernel_rfl) (by kernel_rfl)) (by kernel_rfl) (by kernel_rfl) (by kernel_rfl) (door_met os _)) ?_
  intro W base args ds gs before hval0 hW _ _ hL _
  have hval : ∀ (j : Nat) t v, Tryz.f8.params[j]? = some t → args[j]? = some v → Value.okWide Tryz.prog W .any base t v := hval0
  have hW' := hW
  obtain ⟨p, q, hA0, hV, rfl, hfz, hnd⟩ := hW
  have hA : DataW.TrodAll enc Tryz.prog W 0 (fun _ => true) true Tryz.f8.params.toList args.toList ds p := hA0
  rw [Tryz.params8] at hA hval
  obtain ⟨v0, vs0, d0, ds0, p0, q0, hargs, rfl, rfl, h0, r0⟩ := trodAll_cons hA
  obtain ⟨v1, vs1, d1, ds1, p1, q1, rfl, rfl, rfl, h1, r1⟩ := trodAll_cons r0
  obtain ⟨rfl, rfl, rfl⟩ := trodAll_nil r1
  obtain rfl : args = #[v0, v1] := by cases args; simp_all
  obtain ⟨rfl, rfl⟩ := trodVars_none hV
  obtain ⟨n0, rfl, _, _, hw0⟩ := open_int Tryz.underlying77 (hval 0 77 v0 rfl rfl) h0
  obtain ⟨fees, hl1, k1⟩ := Go.Sx.open_row Tryz.T_ok (t := 23) (e := 5) rfl rfl rfl (f := 8) (ks := [.int .u8]) rfl h1 (hval 1 23 v1 rfl rfl) (fun x => [u8 x]) byte_dec 0
  clear hA0 hval0
  have hn := u16_range hw0
  obtain ⟨n, rfl⟩ : ∃ n : Nat, n0 = (n : Int) := ⟨n0.toNat, (Int.toNat_of_nonneg hn.1).symm⟩
  refine ((chains_walk awake_can @same_spec n (by omega) fees hl1).calls (vs := [.int .u16 (n : Int), v1]) ⟨came_raw, came_row k1, trivial⟩ (steps_came hL)).mono fun e W' ⟨v, β, he, hv, hb⟩ => ?_
  subst he
  simp only [XV.rel, CV.rel, SV.rel] at hv
  subst hv
  exact ⟨_, rfl, post_true laid hW' rfl (by kernel_rfl) hb rfl rfl (fun _ _ => trodAll_cons_mk (shut_bool Tryz.underlying4 _) trodAll_mk0)⟩
theorem checkChains_over : Rows.CheckChainsSaid :=
  OpenClaim.holds_of_wide 8 Tryz.f8 rfl rfl rfl rfl rfl rfl rfl ⟨rfl, rfl, rfl, rfl, rfl⟩ rfl rfl rfl rfl rfl (by kernel_rfl) Tryz.func8 (by kernel_rfl)
    (of_decide_eq_true (by kernel_rfl)) (by unfold Func.isWrapper; first | (rw [if_pos (by decide +kernel)]; kernel_rfl) | (rw [if_neg (by decide +kernel)]; exact ⟨rfl, rfl⟩))
    (fun os started H enc _ => checkChains_lifted os started H enc)
theorem two_ {P : TypeId → Prop} {a b : TypeId} (ha : P a) (hb : P b) : ∀ (j : Nat) t, (#[a, b] : Array TypeId)[j]? = some t → P t := by
  intro j t ht
  match j, ht with
  | 0, ht => simp at ht; subst ht; exact ha
  | 1, ht => simp at ht; subst ht; exact hb
  | j + 2, ht => simp at ht
theorem checkChains_proved : Rows.CheckChainsCardSaid :=
  Claim7.holds_tied_plain_at .later [] [.data] true (true, "d0fd2f02d7a607ea26ec6214018ecf03122ec7b8e3c6eeea03932de8c3b9d735") false
    checkChains_over (fun _ h => by cases h) (by kernel_rfl) (fun _ h => by cases h) checkChains_row_tie rfl ⟨rfl, rfl⟩ (by kernel_rfl) rfl
    (fun f fn hf hfn => by
      obtain rfl : f = 8 := Option.some.inj ((show Tryz.prog.funcNamed "drawbridge/drawbridgelaw12.CheckChains" = some 8 by kernel_rfl).symm.trans hf) |>.symm
      obtain rfl : fn = Tryz.f8 := (Option.some.inj (Tryz.func8.symm.trans hfn)).symm
      refine ⟨by kernel_rfl, ?_⟩
      rw [Tryz.params8]
      exact two_ (show Tryz.prog.wantsStandIn 77 = false by kernel_rfl) (show Tryz.prog.wantsStandIn 23 = false by kernel_rfl))
    (by kernel_rfl)
end Go.Proofs.YtmoohekgheoliaaGreatDoor
