/- Parts Mb Mc Md Me Mf Mg Zs. -/
import Derived.Test.YtnpkdoggfnlapaaGreatDoorG25
import Derived.Test.YtnpkdoggfnlapaaGreatDoorG24
import Derived.Test.YtnpkdoggfnlapaaGreatDoorG23
import Derived.Test.YtnpkdoggfnlapaaGreatDoorG13
import Derived.Test.YtnpkdoggfnlapaaGreatDoorG22
import Derived.Test.YtnpkdoggfnlapaaGreatDoorG18
set_option linter.unusedSimpArgs false
set_option linter.unusedVariables false
namespace Go.Proofs.YtnpkdoggfnlapaaGreatDoor
set_option maxRecDepth 100000
open Go.Sx
def SS (c:aT) (i:Nat):St :=
 ⟨[none,some (XV.sv (.ptr 2 0 0 0)),none,none,some (XV.sv (.slc 3 1 0 i)),some (XV.int .i64 i)]++List.replicate 20 none,
  [(0,.ro 9 c.outs.length (bE c.outs)),(1,.ro 282 c.sigs.length (bY c.sigs)),(2,.cells 43 (bR c (.slc 0 9 0 c.outs.length) (.slc 1 282 0 c.sigs.length))),(3,.vec 3 1 i (dO (bV c.outs i)))],4⟩
set_option maxHeartbeats 4000000 in
theorem FI (c:aT) (hl:c.outs.length≤1000000):Reads Tryz.prog 75 [.box c.ac] [] (Ab (bV c.outs c.outs.length)):=by
 have hsum:=PS (bV c.outs c.outs.length) (by rw [kg (Nat.le_refl _)];omega)
 rw [kg (Nat.le_refl _)] at hsum
 refine Reads.of Tryz.aA Tryz.func75 rfl _ _ _ rfl rfl (fun C hC => ?_)
 (replace hC:C.n0=2:=hC;change av _ _ _ ⟨_,_,2⟩ _)
 refine xK 2 ?_
 refine wD <| ak <| av.ent (aN.nO (t:=4) rfl 3 1) <| av.seq ?_
 refine xK 1 ?_
 refine wD <| ak <| av.block ?_
 refine av.loop (α:={ i:Nat // i≤c.outs.length }) (fun i=>SS c i.1) (fun i=>c.outs.length - i.1) ⟨0,Nat.zero_le _⟩ ?_ ?_
 ·unfold SS
  ((try dsimp only);refine aN.dH [0,1,2,6] hC ?_ ?_<;>repeat' (first |exact trivial |exact rfl |exact ⟨_,rfl,rfl,rfl,Nat.le_refl _,fun _ _=>rfl⟩ |exact ⟨_,rfl,rfl,rfl,fun _ _=>rfl⟩ |exact ⟨_,rfl,rfl,rfl⟩ |exact ⟨_,rfl,rfl⟩ |refine ⟨_,rfl,rfl,rfl,by omega,fun k hk => ?_⟩ |refine ⟨?_,?_⟩ |fail))
  all_goals exact absurd ‹_<0› (Nat.not_lt_zero _)
 rintro ⟨i,hi⟩
 dsimp only
 unfold SS
 refine xK 1 ?_
 refine wC (fun h1 => ?_) (fun h1 => ?_)
 ·(refine xG ?_)
  have h1':i<c.outs.length:=xW
  have hw:IntKind.i64.wrap ((i:Int) + 1)=((i + 1:Nat):Int):=xW
  have hal:=kg (l:=c.outs) hi
  refine wD <| ak <| av.seq <| av.block <| xI ?_
  (refine xB ?_)
  (repeat (refine wN ?_ ?_;exact xW;refine xG ?_))
  simp only [Nat.zero_add,Int.toNat_natCast]
  (refine wP _ _ (aD Tryz.aA rfl rfl rfl rfl rfl [3,16] (aR rfl rfl (Nat.le_refl _) rfl) (bU (lo:=0) rfl rfl (Nat.le_of_eq (Nat.zero_add _)) rfl) rfl xD (by simp only [maxLen];omega) (by dsimp only;omega)) ?_;refine xZ ?_)
  refine wD <| aJ <| ak <| xI ?_
  (refine xB ?_)
  refine wD <| aP ⟨⟨i + 1,h1'⟩,by dsimp only;omega,?_⟩
  rw [hw]
  dsimp only
  rw [yK h1']
  ((try dsimp only);refine aN.dH [0,1,2,17] hC ?_ ?_<;>repeat' (first |exact trivial |exact rfl |exact ⟨_,rfl,rfl,rfl,Nat.le_refl _,fun _ _=>rfl⟩ |exact ⟨_,rfl,rfl,rfl,fun _ _=>rfl⟩ |exact ⟨_,rfl,rfl,rfl⟩ |exact ⟨_,rfl,rfl⟩ |refine ⟨_,rfl,rfl,rfl,by omega,fun k hk => ?_⟩ |refine ⟨?_,?_⟩ |fail))
  all_goals exact uy hal.symm (fun _ _=>rfl) rfl ‹_<i + 1›
 ·(refine xG ?_)
  have h1':i=c.outs.length:=xW
  subst h1'
  refine wD <| bW <| aS <| aI <| ak <| xI ?_
  (refine xB ?_)
  refine xC rfl Tryz.func128 rfl (hsum.at [3] ⟨aF (lo:=0) rfl rfl rfl (Nat.le_of_eq (Nat.zero_add _)) (fun i _=>by rw [Nat.zero_add];rfl),trivial⟩ trivial) ?_
  exact wD (Ends.plain (.inr rfl) rfl rfl)
set_option maxRecDepth 100000
open Go.Sx
def uS (x:au) (h:Int):Int:=wr (wr (h - x.made) - x.par.win)
def J4 (x:au) (h:Int):Int×Bool :=
 if (x.ceased || (!eH x || (decide (h<1) || decide (2147483647<h))))=true then (0,false)
 else if (decide (uS x h<x.par.len) || (((uS x h).tmod x.par.len != 0) || decide (400<wr (wr ((uS x h).tdiv x.par.len) - 1))))=true then (0,false)
 else (wr (wr ((uS x h).tdiv x.par.len) - 1),true)
set_option maxHeartbeats 4000000 in
theorem J5 (x:au) (h:Int):Reads Tryz.prog 38 [.box x.ac,.plain (.one (.raw (.int .i64 h)))] [] (.tup [.one (.raw (.int .i64 (J4 x h).1)),.one (.raw (.bool (J4 x h).2))]):=by
 have hfr:=zU x
 have hx:J4 x h=if (x.ceased || (!eH x || (decide (h<1) || decide (2147483647<h))))=true then (0,false) else if (decide (uS x h<x.par.len) || (((uS x h).tmod x.par.len != 0) || decide (400<wr (wr ((uS x h).tdiv x.par.len) - 1))))=true then (0,false) else (wr (wr ((uS x h).tdiv x.par.len) - 1),true):=rfl
 have hl:eH x=true→x.par.len≠0:=fun h=>by have:=iL.1 h;omega
 rw [hx]
 obtain ⟨tb,htb⟩:∃ tb,eH x=tb:=⟨_,rfl⟩
 rw [htb] at hfr hl ⊢
 refine Reads.of Tryz.aA Tryz.func38 rfl _ _ _ rfl rfl (fun C hC => ?_)
 (replace hC:C.n0=5:=hC;change av _ _ _ ⟨_,_,5⟩ _)
 refine xI ?_
 (refine xB ?_)
 refine wC (fun h1 => ?_) (fun h1 => ?_)
 ·(refine xG ?_)
  exact wD (Ends.plain (.inr rfl) rfl (by rw [if_pos (by rw [h1];rfl)]))
 (refine xG ?_)
 refine xC rfl Tryz.func74 rfl (hfr.at [0,1,2,3] ⟨bL (x:=x) (aj rfl rfl) (aj rfl rfl) (aj rfl rfl) (aj rfl rfl),trivial⟩ trivial) ?_
 refine wC (fun h2 => ?_) (fun h2 => ?_)
 ·have h2':tb=false:=by simpa using h2
  (refine xG ?_)
  exact wD (Ends.plain (.inr rfl) rfl (by rw [if_pos (by rw [h1,h2'];rfl)]))
 have h2':tb=true:=by simpa using h2
 have hl0:=hl h2'
 (refine xG ?_)
 refine wC (fun h3 => ?_) (fun h3 => ?_)
 ·(refine xG ?_)
  exact wD (Ends.plain (.inr rfl) rfl (by rw [if_pos (by rw [h1,h2',h3];rfl)]))
 (refine xG ?_)
 refine wC (fun h4 => ?_) (fun h4 => ?_)
 ·(refine xG ?_)
  exact wD (Ends.plain (.inr rfl) rfl (by rw [if_pos (by rw [h1,h2',h3,h4];rfl)]))
 (refine xG ?_)
 rw [if_neg (by rw [h1,h2',h3,h4];simp)]
 refine wC (fun h5 => ?_) (fun h5 => ?_)
 ·(refine xG ?_)
  exact wD (Ends.plain (.inr rfl) rfl (by rw [if_pos (by rw [show decide (uS x h<x.par.len)=true from h5];rfl)]))
 (refine xG ?_)
 refine wN hl0 ?_
 (refine xG ?_)
 refine wC (fun h6 => ?_) (fun h6 => ?_)
 ·(refine xG ?_)
  exact wD (Ends.plain (.inr rfl) rfl (by rw [if_pos (by rw [show ((uS x h).tmod x.par.len != 0)=true from h6];simp)]))
 (refine xG ?_)
 refine wN hl0 ?_
 (refine xG ?_)
 refine wC (fun h7 => ?_) (fun h7 => ?_)
 ·(refine xG ?_)
  exact wD (Ends.plain (.inr rfl) rfl (by rw [if_pos (by rw [show decide (400<wr (wr ((uS x h).tdiv x.par.len) - 1))=true from h7];simp)]))
 (refine xG ?_)
 refine wN hl0 ?_
 (refine xG ?_)
 exact wD (Ends.plain (.inr rfl) rfl (by rw [if_neg (by rw [show decide (uS x h<x.par.len)=false from h5,show ((uS x h).tmod x.par.len != 0)=false from h6,show decide (400<wr (wr ((uS x h).tdiv x.par.len) - 1))=false from h7];simp)];rfl))
theorem TJ {n l:Int} (hl:1≤l) (hn:1≤n):(n % l=0∧n / l=(n - 1) / l + 1∧(((n - 1) / l) + 1) * l=n)∨(n % l≠0∧(((n - 1) / l) + 1) * l≠n):=by
 have e:=Int.mul_ediv_add_emod (n - 1) l
 have r0:=Int.emod_nonneg (n - 1) (show l≠0 by omega)
 have r1:=Int.emod_lt_of_pos (n - 1) (show 0<l by omega)
 generalize (n - 1) / l=q at *
 generalize (n - 1) % l=r at *
 by_cases h:r=l - 1
 ·have hn':n=l * (q + 1):=by rw [Int.mul_add,Int.mul_one];omega
  refine .inl ⟨?_,?_,?_⟩
  ·rw [hn'];exact Int.mul_emod_right ..
  ·rw [hn'];exact Int.mul_ediv_cancel_left _ (by omega)
  ·rw [hn',Int.mul_comm]
 ·have hn':n=(r + 1) + l * q:=by omega
  refine .inr ⟨?_,?_⟩
  ·rw [hn',Int.add_mul_emod_self_left,Int.emod_eq_of_lt (by omega) (by omega)]
   omega
  ·rw [Int.add_mul,Int.mul_comm q l,Int.one_mul,hn']
   omega
theorem Nc {x:au} {h:Int} (h0:0≤h) (h1:h≤1000000):J4 x h=kW x h:=by
 rw [J4,kW]
 cases hc:x.ceased with
 | true=>rfl
 | false =>
 rw [Bool.false_or,if_neg (show ¬ false=true by simp)]
 cases ht:eH x with
 | false=>rw [gU,ht];rfl
 | true =>
 obtain ⟨⟨l1,l2⟩,⟨w1,w2⟩,⟨m1,m2⟩⟩:=iL.1 ht
 have hd:uS x h=h - x.made - x.par.win:=by rw [uS,show wr (h - x.made)=h - x.made from bK (by omega)];exact bK (by omega)
 have hw:wr (h - x.par.win)=h - x.par.win:=bK (by omega)
 rw [hw,hd,gU,ht,Bool.not_true,Bool.false_or,Bool.false_or]
 obtain ⟨n,hn⟩:∃ n,h - x.made - x.par.win=n:=⟨_,rfl⟩
 rw [hn]
 by_cases hn1:n<1
 ·rw [if_pos (show decide (h - x.par.win≤x.made)=true from decide_eq_true (by omega))]
  rw [show decide (n<x.par.len)=true from decide_eq_true (by omega)]
  split<;>rfl
 rw [if_neg (show ¬ decide (h - x.par.win≤x.made)=true by rw [decide_eq_true_eq];omega)]
 rw [if_neg (show ¬ (decide (h<1) || decide (2147483647<h))=true by rw [Bool.or_eq_true,decide_eq_true_eq,decide_eq_true_eq];omega)]
 have e1:wr (wr (h - x.par.win - x.made) - 1)=n - 1:=by rw [show wr (h - x.par.win - x.made)=n from (bK (by omega)).trans (by omega)];exact bK (by omega)
 have q0:0≤(n - 1) / x.par.len:=Int.ediv_nonneg (by omega) (by omega)
 have q1:(n - 1) / x.par.len≤n - 1:=Int.ediv_le_self _ (by omega)
 have e2:wr ((n - 1).tdiv x.par.len)=(n - 1) / x.par.len:=by rw [Int.tdiv_eq_ediv_of_nonneg (by omega)];exact bK (by omega)
 rw [e1,e2,Int.tdiv_eq_ediv_of_nonneg (show 0≤n by omega),Int.tmod_eq_emod_of_nonneg (show 0≤n by omega)]
 dsimp only
 rw [Bool.not_true,Bool.false_or]
 have ends:∀ e:Int,0≤e→e≤400→jL x e=x.made + (e + 1) * x.par.len:=fun e a b=>by
  have hb:0≤(e + 1) * x.par.len:=Int.mul_nonneg (by omega) (by omega)
  have hb2:(e + 1) * x.par.len≤401 * 64:=Int.mul_le_mul (by omega) l2 (by omega) (by omega)
  rw [jL,ht,aO,decide_eq_true a,decide_eq_true b,if_neg (by simp),show wr (e + 1)=e + 1 from bK (by omega),show wr ((e + 1) * x.par.len)=(e + 1) * x.par.len from bK (by omega)]
  exact bK (by omega)
 rcases TJ l1 (show 1≤n by omega) with ⟨a1,a2,a3⟩ |⟨a1,a2⟩
 ·generalize (n - 1) / x.par.len=q at *
  have a4:¬ n<x.par.len:=by
   intro a5
   rw [Int.emod_eq_of_lt (by omega) a5] at a1
   omega
  rw [a1,a2,decide_eq_false a4,show wr (q + 1)=q + 1 from bK (by omega),show wr (q + 1 - 1)=q from (bK (by omega)).trans (by omega)]
  by_cases h4:(400:Int)<q
  ·rw [decide_eq_true h4];rfl
  ·rw [decide_eq_false h4,ends q q0 (by omega),a3,show (x.made + n != h - x.par.win)=false by rw [bne_eq_false_iff_eq];omega]
   rfl
 ·rw [show (n % x.par.len != 0)=true from bne_iff_ne.2 a1,Bool.true_or,Bool.or_true,if_pos rfl]
  generalize (n - 1) / x.par.len=q at *
  by_cases h4:(400:Int)<q
  ·rw [decide_eq_true h4];rfl
  ·rw [decide_eq_false h4,ends q q0 (by omega),show (x.made + (q + 1) * x.par.len != h - x.par.win)=true by rw [bne_iff_ne];omega]
   rfl
set_option maxRecDepth 100000
open Go.Sx
theorem Cg {M:Mem} {rd:List Nat} {q n i:Nat} {L:List au} {ad:Nat→Nat→Option Addr×Nat} (hm:M.get q=some (.abs (dP n (bP L) ad))) (hrd:gI q rd=true) (hi:i<n):bC M rd (.agg ((dK 0 (L.getD i default).par.ac (ad i)).map .raw)) (.box (L.getD i default).par.ac) :=
 gG (p:=(L.getD i default).par) (k := .raw (.slice (ad i 3).1 _ (ad i 3).2)) (gK (F:=bP L) (j:=3) hm hrd hi rfl)
def Mq (L:List au) (ad:Nat→Nat→Option Addr×Nat) (c:aT) (h:Int) (fin m:H8) (S:Int) (ok:Bool):St :=
 ⟨[none,none,some (XV.int .i64 h),none,none,some (XV.sv (.ptr 8 0 0 0)),none,some (XV.sv (.ptr 9 0 0 0)),none,some (XV.sv (.ptr 10 0 0 0)),some (XV.int .i64 S),some (XV.bool ok),some (XV.sv (.ptr 11 0 0 0))]++List.replicate 74 none,
  [(0,.cells lV [.slc 6 42 0 L.length]),(1,.ro 9 c.outs.length (bE c.outs)),(2,.ro 282 c.sigs.length (bY c.sigs)),(6,.vec og 42 L.length fun i=>dK 0 (bP L i) (ad i)),(7,.abs (dP L.length (bP L) ad)),
  (8,.cells 43 (bR c (.slc 1 9 0 c.outs.length) (.slc 2 282 0 c.sigs.length))),(9,.cells 29 (fin.cells.map .raw)),(10,.cells 109 ((dK 0 (bP L c.side.toNat) (ad c.side.toNat)).map .raw)),(11,.cells 29 (m.cells.map .raw))],12⟩
set_option maxHeartbeats 8000000 in
theorem J2 (L:List au) (c:aT) (h:Int) (fin:H8) (hL:∀ i,i<L.length→(L.getD i default).gN) (hl:L.length≤1000) (ho:c.outs.length≤1000000) (hs:c.sigs.length≤1000000):fH Tryz.prog 73 (.abs (kC L)) (.abs (kC L)) [.box c.ac,.plain (.one (.raw (.int .i64 h))),.plain fin.x] [] (XV.int .i64 (jH L c h fin)):=by
 have hmay:=yU c (by omega) (by omega)
 have hmsg:=yT c ho
 have hsum:=FI c ho
 unfold Ab at hsum
 obtain ⟨m,hm⟩:∃ m,dJ c=m:=⟨_,rfl⟩
 obtain ⟨S,hS⟩:∃ S,(kD 0 (bV c.outs c.outs.length)).getD 0=S:=⟨_,rfl⟩
 obtain ⟨ok,hok⟩:∃ ok,(kD 0 (bV c.outs c.outs.length)).isSome=ok:=⟨_,rfl⟩
 have hchk:jH L c h fin=if bM c=false then 4 else if (L.length:Int)≤c.side then 8 else if mM (L.getD c.side.toNat default) c h fin=0 then (if oJ (L.getD c.side.toNat default).par m c.sigs=true then 0 else 11) else mM (L.getD c.side.toNat default) c h fin:=by rw [jH,hm]
 rw [hm] at hmsg
 rw [hS,hok] at hsum
 rw [hchk]
 refine fH.of Tryz.aA Tryz.func73 rfl _ _ _ _ _ rfl rfl rfl (fun C hC => ?_)
 (replace hC:C.n0=5:=hC;change av _ _ _ ⟨_,_,5⟩ _)
 cases hb:bM c with
 | false =>
  rw [hb] at hmay
  rw [if_pos rfl]
  refine xI ?_
  (refine xB ?_)
  refine xC rfl Tryz.func113 rfl (hmay.at [1,2] ⟨bS (c:=c) (aj rfl rfl) (aj rfl rfl),trivial⟩ trivial) ?_
  exact wD (Ends.bZ (.inr rfl) (aN.refl _) rfl rfl rfl)
 | true =>
  obtain ⟨-,⟨⟨s1,s2⟩,-,-⟩,-,-⟩:=jo hb
  rw [hb] at hmay
  rw [Al hb] at hmsg
  rw [if_neg (by simp)]
  by_cases h8:(L.length:Int)≤c.side
  ·rw [if_pos h8]
   rcases L with _ |⟨y,r⟩
   ·refine Reg.qJ lV og 0 rfl (xI ?_)
    (refine xB ?_)
    refine xC rfl Tryz.func113 rfl (hmay.at [1,2] ⟨bS (c:=c) (aj rfl rfl) (aj rfl rfl),trivial⟩ trivial) ?_
    (refine zm ?_ ?_;(first |refine decide_eq_true ?_ |rw [beq_iff_eq] |rw [bne_iff_ne]);exact xW;refine xG ?_)
    exact wD (Ends.bZ (.inr rfl) (Reg.pz lV og 0 rfl) rfl rfl rfl)
   ·refine Reg.wB lV og (y::r) 0 (Nat.succ_pos _) rfl (xI ?_)
    (refine xB ?_)
    refine xC rfl Tryz.func113 rfl (hmay.at [1,2] ⟨bS (c:=c) (aj rfl rfl) (aj rfl rfl),trivial⟩ trivial) ?_
    (refine zm ?_ ?_;(first |refine decide_eq_true ?_ |rw [beq_iff_eq] |rw [bne_iff_ne]);exact xW;refine xG ?_)
    exact wD (Ends.bZ (.inr rfl) (Reg.shuts lV og (y::r) 0 (i1:=6) (Nat.succ_pos _) rfl rfl rfl rfl rfl (fun _ _=>rfl)) rfl rfl rfl)
  rw [if_neg h8]
  have hi:c.side.toNat<L.length:=by omega
  have hz:=hL _ hi
  have h0:0<L.length:=by omega
  refine Reg.opens lV og L 0 h0 rfl (Nat.le_of_ble_eq_true rfl) (fun ad => ?_)
  refine xK 6 ?_
  refine xC rfl Tryz.func113 rfl (hmay.at [1,2] ⟨bS (c:=c) (aj rfl rfl) (aj rfl rfl),trivial⟩ trivial) ?_
  (refine kE ?_ ?_;(first |refine decide_eq_false ?_ |rw [beq_eq_false_iff_ne] |rw [bne_eq_false_iff_eq]);exact xW;refine xG ?_)
  (repeat (refine wN ?_ ?_;exact xW;refine xG ?_))
  simp only [Nat.zero_add]
  refine xC rfl Tryz.func75 rfl (hsum.at [1,2] ⟨bS (c:=c) (aj rfl rfl) (aj rfl rfl),trivial⟩ trivial) ?_
  refine xC rfl Tryz.func69 rfl (hmsg.at [1,2] ⟨bS (c:=c) (aj rfl rfl) (aj rfl rfl),trivial⟩ trivial) ?_
  refine wD <| ak <| av.ent (S':=Mq L ad c h fin m S ok) ?_ ?_
  ·unfold Mq
   ((try dsimp only);exact xE [0,1,2,3,4,5,6,7,8,9,30,44] hC)
  have shut:=fun {slots:List (Option XV)} {mem:Mem} {nx:Nat} k0 k1 k2=>Reg.mJ (C:=C) (slots:=slots) (mem:=mem) (nx:=nx) lV og L L 0 (i1:=6) (q:=7) (ad:=ad) (m:=L.length) (n:=L.length) h0 k0 k1 k2 rfl rfl rfl (fun _ _=>rfl) jP
  unfold Mq
  obtain ⟨x,hx⟩:∃ x,L.getD c.side.toNat default=x:=⟨_,rfl⟩
  have hop:=PU x c.ep h
  have hq:=PY x.par m c.sigs (by have:=hz.keys;rw [hx] at this;omega) hs
  have hfx:mM x c h fin=if x.ceased=true then 14 else if (!qZ x c.ep h || decide (c.fin≠fin))=true then 9 else if (x.pend && decide (c.qual≤x.cert.qual))=true then 10 else if (!(kD 0 (bV c.outs c.outs.length)).isSome || decide (x.bal<(kD 0 (bV c.outs c.outs.length)).getD 0))=true then 5 else 0:=rfl
  rw [hS,hok] at hfx
  obtain ⟨ob,hob⟩:∃ ob,qZ x c.ep h=ob:=⟨_,rfl⟩
  obtain ⟨qb,hqb⟩:∃ qb,oJ x.par m c.sigs=qb:=⟨_,rfl⟩
  rw [hx,hqb]
  rw [hob] at hop hfx
  rw [hqb] at hq
  obtain ⟨fx,hfx'⟩:∃ fx,mM x c h fin=fx:=⟨_,rfl⟩
  rw [hfx'] at hfx ⊢
  refine xI ?_
  (refine xB ?_)
  rw [hx]
  refine wC (fun h1 => ?_) (fun h1 => ?_)
  ·(refine xG ?_)
   exact wD (Ends.bZ (.inr rfl) (shut rfl rfl rfl) rfl rfl (by rw [hfx.trans (if_pos h1)];rfl))
  rw [h1,if_neg (by simp)] at hfx
  (refine xG ?_)
  refine xC rfl Tryz.func126 rfl (hop.at [7] ⟨hx▸sG (q:=7) rfl rfl hi,ah rfl,ah rfl,trivial⟩ trivial) ?_
  refine wC (fun h2 => ?_) (fun h2 => ?_)
  ·have h2':ob=false:=by simpa using h2
   (refine xG ?_)
   exact wD (Ends.bZ (.inr rfl) (shut rfl rfl rfl) rfl rfl (by rw [hfx.trans (if_pos (by rw [h2'];rfl))];rfl))
  have h2':ob=true:=by simpa using h2
  rw [h2',Bool.not_true,Bool.false_or] at hfx
  (refine xG ?_)
  (refine wP _ _ (o7 pV rfl c.fin fin rfl rfl) ?_;refine xZ ?_)
  refine wC (fun h3 => ?_) (fun h3 => ?_)
  ·(refine xG ?_)
   exact wD (Ends.bZ (.inr rfl) (shut rfl rfl rfl) rfl rfl (by rw [hfx.trans (if_pos (by simpa using h3))];rfl))
  rw [if_neg (by simpa using h3)] at hfx
  (refine xG ?_)
  rw [hx]
  have tail:True:=trivial
  refine wC (fun h4 => ?_) (fun h4 => ?_)
  ·(refine xG ?_)
   rw [hx]
   refine wC (fun h5 => ?_) (fun h5 => ?_)
   ·(refine xG ?_)
    exact wD (Ends.bZ (.inr rfl) (shut rfl rfl rfl) rfl rfl (by rw [hfx.trans (if_pos (by rw [h4,Bool.true_and];exact h5))];rfl))
   rw [if_neg (by rw [h4,Bool.true_and,h5];simp)] at hfx
   (refine xG ?_)
   refine wC (fun h6 => ?_) (fun h6 => ?_)
   ·(refine xG ?_)
    exact wD (Ends.bZ (.inr rfl) (shut rfl rfl rfl) rfl rfl (by rw [hfx.trans (if_pos (by rw [h6];rfl))];rfl))
   (refine xG ?_)
   rw [hx]
   refine wC (fun h7 => ?_) (fun h7 => ?_)
   ·(refine xG ?_)
    exact wD (Ends.bZ (.inr rfl) (shut rfl rfl rfl) rfl rfl (by rw [hfx.trans (if_pos (by rw [h6,Bool.false_or];exact h7))];rfl))
   rw [if_neg (by rw [h6,h7];simp)] at hfx
   (refine xG ?_)
   refine xC rfl Tryz.func127 rfl (hq.at [7,2] ⟨hx▸Cg (q:=7) rfl rfl hi,ah rfl,aj rfl rfl,trivial⟩ trivial) ?_
   refine wC (fun h8 => ?_) (fun h8 => ?_)
   ·have h8':qb=false:=by simpa using h8
    (refine xG ?_)
    exact wD (Ends.bZ (.inr rfl) (shut rfl rfl rfl) rfl rfl (by rw [hfx,h8'];rfl))
   have h8':qb=true:=by simpa using h8
   (refine xG ?_)
   exact wD (Ends.bZ (.inr rfl) (shut rfl rfl rfl) rfl rfl (by rw [hfx,h8'];rfl))
  rw [if_neg (by rw [h4,Bool.false_and];simp)] at hfx
  (refine xG ?_)
  refine wC (fun h6 => ?_) (fun h6 => ?_)
  ·(refine xG ?_)
   exact wD (Ends.bZ (.inr rfl) (shut rfl rfl rfl) rfl rfl (by rw [hfx.trans (if_pos (by rw [h6];rfl))];rfl))
  (refine xG ?_)
  rw [hx]
  refine wC (fun h7 => ?_) (fun h7 => ?_)
  ·(refine xG ?_)
   exact wD (Ends.bZ (.inr rfl) (shut rfl rfl rfl) rfl rfl (by rw [hfx.trans (if_pos (by rw [h6,Bool.false_or];exact h7))];rfl))
  rw [if_neg (by rw [h6,h7];simp)] at hfx
  (refine xG ?_)
  refine xC rfl Tryz.func127 rfl (hq.at [7,2] ⟨hx▸Cg (q:=7) rfl rfl hi,ah rfl,aj rfl rfl,trivial⟩ trivial) ?_
  refine wC (fun h8 => ?_) (fun h8 => ?_)
  ·have h8':qb=false:=by simpa using h8
   (refine xG ?_)
   exact wD (Ends.bZ (.inr rfl) (shut rfl rfl rfl) rfl rfl (by rw [hfx,h8'];rfl))
  have h8':qb=true:=by simpa using h8
  (refine xG ?_)
  exact wD (Ends.bZ (.inr rfl) (shut rfl rfl rfl) rfl rfl (by rw [hfx,h8'];rfl))
set_option maxRecDepth 100000
open Go.Sx
section
variable {C:Ctx} {slots:List (Option XV)} {mem:Mem} {nx:Nat}
theorem Reg.Xi (tS tE:TypeId) (L L':List au) (c:Nat) {i1 q q2 q3 m n sz k sz' k':Nat} {G:Nat→List Value} {f f':Nat→List Value} {ad ad':Nat→Nat→Option Addr×Nat} {p p':Option Addr×Nat} (h0:0<L'.length) (k0:mem.get c=some (.cells tS [.slc i1 42 0 m])) (k1:mem.get i1=some (.vec tE 42 n G)) (k2:mem.get q=some (.abs (dP n (bP L) ad))) (k3:mem.get q2=some (.abs (dP 1 (fun _=>[.row sz k f]) fun _ _=>p))) (k4:mem.get q3=some (.abs (dP 1 (fun _=>[.row sz' k' f']) fun _ _=>p')))
  (hids:(Nat.beq c i1 || Nat.beq c q || Nat.beq i1 q || Nat.beq c q2 || Nat.beq i1 q2 || Nat.beq c q3 || Nat.beq i1 q3)=false) (hm:m=L'.length) (hn:n=L'.length) (hG:∀ i,i<n→G i=dK 0 (bP L' i) (ad' i)) (hF:∀ i,i<n→∀ (j:Nat) (x:AC),(bP L' i)[j]? = some x→(∃ u,x=AC.raw u)∨((bP L i)[j]? = some x∧ad' i j=ad i j)∨(x = .row sz k f∧ad' i j=p)∨(x = .row sz' k' f'∧ad' i j=p')) :
  aN C ⟨slots,mem,nx⟩ ⟨slots,(c,.abs (Dl tS tE L'))::Mem.mD ((i1,.abs (iP tE 42 n (bP L')))::mem.mD [i1,q,q2,q3]) [c,i1],nx⟩:=by
 simp only [Bool.or_eq_false_iff,aL,decide_eq_false_iff_not] at hids
 obtain ⟨⟨⟨⟨⟨⟨d1,d2⟩,d3⟩,d4⟩,d5⟩,d6⟩,d7⟩:=hids
 refine (aN.Dw (S:=⟨slots,mem,nx⟩) (F:=bP L') (ad:=ad') [q,q2,q3] k1 (by omega) (Nat.le_refl _) (by simp [d3,d5,d7]) hG (fun i hi j x hx => ?_)).trans ?_
 ·rcases hF i hi j x hx with h |⟨h,e⟩ |⟨h,e⟩ |⟨h,e⟩
  ·exact .inl h
  ·rw [e];exact rH.old (by simp) k2 hi h
  ·rw [e,h]
   exact rH.old (M:=mem) (qs:=[q,q2,q3]) (q:=q2) (i:=0) (j:=0) (x := .row sz k f) (by simp) k3 Nat.one_pos rfl
  ·rw [e,h]
   exact rH.old (M:=mem) (qs:=[q,q2,q3]) (q:=q3) (i:=0) (j:=0) (x := .row sz' k' f') (by simp) k4 Nat.one_pos rfl
 ·refine Reg.shuts tS tE L' c h0 ?_ ?_ (by simpa [aL] using d1) hm hn fun _ _=>rfl
  ·simp only [Mem.get,aL,Mem.eU]
   rw [show decide (i1=c)=false from decide_eq_false (fun e=>d1 e.symm)]
   simp only [cond_false]
   rw [if_neg (by simp only [List.mem_cons,List.not_mem_nil,or_false,not_or];exact ⟨d1,d2,d4,d6⟩)]
   exact k0
  ·simp [Mem.get,aL]
end
def Ez (ad:Nat→Nat→Option Addr×Nat) (s:Nat) (p r:Option Addr×Nat) (i j:Nat):Option Addr×Nat:=if i=s then (if j=39 then p else if j=40 then r else ad i j) else ad i j
theorem qm (ad:Nat→Nat→Option Addr×Nat) (s:Nat) (p r:Option Addr×Nat):Ez ad s p r s=fun j=>if j=39 then p else if j=40 then r else ad s j:=by funext j;rw [Ez,if_pos rfl]
theorem wZ {ad:Nat→Nat→Option Addr×Nat} {s i:Nat} {p r:Option Addr×Nat} (h:i≠s):Ez ad s p r i=ad i:=by funext j;rw [Ez,if_neg h]
theorem EI {x y:au} (h1:x.par.keys=y.par.keys) (h2:x.used=y.used) {j:Nat} {a:AC} (h:x.ac[j]? = some a):(∃ u,a=AC.raw u)∨(y.ac[j]? = some a∧j≠39∧j≠40)∨(a = .row 9 x.cert.outs.length (bE x.cert.outs)∧j=39)∨(a = .row 282 x.cert.sigs.length (bY x.cert.sigs)∧j=40):=by
 have hj:j<42:=by have:=(List.getElem?_eq_some_iff.1 h).1;rwa [au.QC] at this
 by_cases e:j=39
 ·subst e
  refine .inr (.inr (.inl ⟨?_,rfl⟩))
  have h4:x.ac[39]? = some (.row 9 x.cert.outs.length (bE x.cert.outs)):=rfl
  rw [h4] at h
  exact (Option.some.inj h).symm
 by_cases e2:j=40
 ·subst e2
  refine .inr (.inr (.inr ⟨?_,rfl⟩))
  have h4:x.ac[40]? = some (.row 282 x.cert.sigs.length (bY x.cert.sigs)):=rfl
  rw [h4] at h
  exact (Option.some.inj h).symm
 have h5:({ x with cert:={ x.cert with outs:=y.cert.outs,sigs:=y.cert.sigs } }:au).ac[j]? = x.ac[j]?:=by
  by_cases e3:j=41
  ·subst e3;rfl
  ·have e1:({ x with cert:={ x.cert with outs:=y.cert.outs,sigs:=y.cert.sigs } }:au).ac.take 39=x.ac.take 39:=rfl
   rw [← List.getElem?_take_of_lt (l:=({ x with cert:={ x.cert with outs:=y.cert.outs,sigs:=y.cert.sigs } }:au).ac) (show j<39 by omega),e1,List.getElem?_take_of_lt (by omega)]
 rw [← h5] at h
 rcases qd (x:={ x with cert:={ x.cert with outs:=y.cert.outs,sigs:=y.cert.sigs } }) (y:=y) h1 rfl rfl h2 h with h6 |h6
 ·exact .inl h6
 ·exact .inr (.inl ⟨h6,e,e2⟩)
def ME (L:List au) (c:aT) (h:Int) (fin:H8) (p r:Option Addr×Nat):St :=
 ⟨[some (XV.sv (.ptr 0 0 0 0)),some (.cv (.agg (bR c (.raw (.slice p.1 c.outs.length p.2)) (.raw (.slice r.1 c.sigs.length r.2))))),some (XV.int .i64 h),some (.cv fin.x)]++List.replicate 34 none,
  [(0,.abs (kC L)),(3,.abs (dP 1 (fun _=>[.row 9 c.outs.length (bE c.outs)]) fun _ _=>p)),(4,.abs (dP 1 (fun _=>[.row 282 c.sigs.length (bY c.sigs)]) fun _ _=>r))],5⟩
def Hr (L:List au) (c:aT) (p r:Option Addr×Nat):St :=
 ⟨[some (XV.sv (.ptr 0 0 0 0)),none,none,none,none,some (XV.sv (.ptr 5 0 0 0))]++List.replicate 32 none,
  [(0,.abs (kC L)),(3,.abs (dP 1 (fun _=>[.row 9 c.outs.length (bE c.outs)]) fun _ _=>p)),(4,.abs (dP 1 (fun _=>[.row 282 c.sigs.length (bY c.sigs)]) fun _ _=>r)),(5,.cells 43 (bR c (.raw (.slice p.1 c.outs.length p.2)) (.raw (.slice r.1 c.sigs.length r.2))))],6⟩
def Yp (L:List au) (c:aT):List Chunk:=[.abs (kC L),.vec 59 9 c.outs.length (bE c.outs),.vec 192 282 c.sigs.length (bY c.sigs)]
set_option maxHeartbeats 8000000 in
theorem Ka (L:List au) (c:aT) (h:Int) (fin:H8) (hL:∀ i,i<L.length→(L.getD i default).gN) (hl:L.length≤1000) (ho:c.outs.length≤1000000) (hs:c.sigs.length≤1000000) {M:Mem} {g o s d:Nat}
  (hids:(Nat.beq g o || Nat.beq g s || Nat.beq o s)=false) (hd:(Nat.beq d g || Nat.beq d o || Nat.beq d s)=false) (hg:Gets M [g,o,s] (Yp L c)) :
  aC Tryz.prog 37 [.one (.ptr g 0 0 0),.agg (bR c (.slc o 9 0 c.outs.length) (.slc s 282 0 c.sigs.length)),.one (.raw (.int .i64 h)),fin.x] M d { v:=XV.int .i64 (takeC L c h fin).2,upd:=H9 [g,o,s] [.abs (kC (takeC L c h fin).1)],wr:=[g,o,s] } [g,o,s]:=by
 simp only [Bool.or_eq_false_iff,aL,decide_eq_false_iff_not] at hids hd
 obtain ⟨⟨d1,d2⟩,d3⟩:=hids
 obtain ⟨⟨f1,f2⟩,f3⟩:=hd
 refine wR (Xl:=[.one (.ptr 0 0 0 0),.agg (bR c (.slc 1 9 0 c.outs.length) (.slc 2 282 0 c.sigs.length)),.one (.raw (.int .i64 h)),fin.x]) (X:=XV.int .i64 (takeC L c h fin).2) (chs:=Yp L c) (chs':=[.abs (kC (takeC L c h fin).1)]) (es:=[]) (ids:=[g,o,s]) (rids:=[]) (k1:=3) (n0:=3) (M0:=[(0,.abs (kC L)),(1,.vec 59 9 c.outs.length (bE c.outs)),(2,.vec 192 282 c.sigs.length (bY c.sigs))]) Tryz.aA Tryz.func37 rfl rfl rfl rfl (by simp [*]) (by simp [*]) rfl rfl rfl rfl rfl hg trivial (fun C hC => ?_) rfl rfl rfl rfl
 refine av.VP 1 19 (cs:=bR c (.slc 1 9 0 c.outs.length) (.slc 2 282 0 c.sigs.length)) rfl rfl rfl (fun p => ?_)
 refine av.VP 1 20 (cs:=bR c (.raw (.slice p.1 c.outs.length p.2)) (.slc 2 282 0 c.sigs.length)) rfl rfl rfl (fun r => ?_)
 refine av.ent (S':=ME L c h fin p r) ?_ ?_
 ·unfold ME
  ((try dsimp only);exact xE [0,1,2,3,4] hC)
 unfold ME
 have hchk:=J2 L c h fin hL hl ho hs
 obtain ⟨e,he⟩:∃ e,jH L c h fin=e:=⟨_,rfl⟩
 have ht:takeC L c h fin=if e=0 then (L.set c.side.toNat (nY (L.getD c.side.toNat default) c),0) else (L,e):=by rw [takeC,he]
 rw [ht]
 rw [he] at hchk
 refine xK 3 ?_
 refine xC rfl Tryz.func73 rfl (hchk.at [3,4] rfl rfl rfl ⟨bS (c:=c) (gK (q:=3) (i:=0) (j:=0) (F:=fun _=>[.row 9 c.outs.length (bE c.outs)]) (ad:=fun _ _=>p) rfl rfl Nat.one_pos rfl) (gK (q:=4) (i:=0) (j:=0) (F:=fun _=>[.row 282 c.sigs.length (bY c.sigs)]) (ad:=fun _ _=>r) rfl rfl Nat.one_pos rfl),ah rfl,ah rfl,trivial⟩ trivial) ?_
 refine wC (fun h1 => ?_) (fun h1 => ?_)
 ·have h1':e≠0:=by simpa using h1
  rw [if_neg h1']
  (refine xG ?_)
  exact wD <| aV <| Sx.Ends.Sn (.inr rfl) (aN.refl _) rfl rfl (Nat.le_of_ble_eq_true rfl) ⟨rfl,trivial⟩
 have h1':e=0:=by simpa using h1
 subst h1'
 rw [if_pos rfl]
 obtain ⟨hb,h8,-,-⟩:=rX he
 obtain ⟨-,⟨⟨s1,s2⟩,-,-⟩,-,-⟩:=jo hb
 have hi:c.side.toNat<L.length:=by omega
 have h0:0<L.length:=by omega
 obtain ⟨x,hx⟩:∃ x,L.getD c.side.toNat default=x:=⟨_,rfl⟩
 rw [hx]
 (refine xG ?_)
 refine wD <| ak <| av.ent (S':=Hr L c p r) ?_ ?_
 ·unfold Hr
  ((try dsimp only);exact xE [0,1,2,3,4,5] hC)
 unfold Hr
 refine Reg.opens lV og L 0 h0 rfl (Nat.le_of_ble_eq_true rfl) (fun ad => ?_)
 refine xI ?_
 (refine xB ?_)
 (repeat (refine wN ?_ ?_;exact xW;refine xG ?_))
 simp only [Nat.zero_add]
 have hll:∀ y:au,(L.set c.side.toNat y).length=L.length:=fun y=>List.length_set ..
 refine wD (Sx.Ends.Sn (.inr rfl) (Reg.Xi lV og L (L.set c.side.toNat (nY x c)) 0 (i1:=7) (q:=8) (q2:=3) (q3:=4) (ad:=ad) (ad':=Ez ad c.side.toNat p r) (p:=p) (p':=r) (sz:=9) (k:=c.outs.length) (f:=bE c.outs) (sz':=282) (k':=c.sigs.length) (f':=bY c.sigs) (by rw [hll];exact h0) rfl rfl rfl rfl rfl rfl (hll _).symm (hll _).symm (fun i hi' => ?_) (fun i hi' j y hy => ?_)) rfl rfl (Nat.le_of_ble_eq_true rfl) ⟨rfl,trivial⟩)
 ·by_cases hki:i=c.side.toNat
  ·subst hki
   rw [jE,iU hi,qm,← hx];rfl
  ·rw [iG hki,iV hki,wZ hki]
 ·by_cases hki:i=c.side.toNat
  ·subst hki
   rw [iU hi] at hy
   rw [qm]
   have hre:bP L c.side.toNat=x.ac:=by rw [bP,hx]
   rw [hre]
   rcases EI (x:=nY x c) (y:=x) rfl rfl hy with h6 |⟨h6,h7,h9⟩ |⟨h6,h7⟩ |⟨h6,h7⟩
   ·exact .inl h6
   ·exact .inr (.inl ⟨h6,(if_neg h7).trans (if_neg h9)⟩)
   ·exact .inr (.inr (.inl ⟨h6,if_pos h7⟩))
   ·exact .inr (.inr (.inr ⟨h6,(if_neg (by omega)).trans (if_pos h7)⟩))
  ·rw [iV hki] at hy
   rw [wZ hki]
   exact .inr (.inl ⟨hy,rfl⟩)
set_option maxRecDepth 100000
open Go.Sx
def mH (R:RC) (x:au) (i:Int) (h:Int64):RC×Int:=eT (iw i x.cert.ep x.cert.fin) h false R 0 x.cert.outs
def fQ (h:Int64) (i:Nat) (L:List au) (R:RC) (x:au):(List au×RC)×Int :=
 if (kW x h.toInt).2=false then ((L,R),0)
 else if (x.pend && (x.cert.ep == (kW x h.toInt).1))=true then
  (if (mH R x i h).2=0 then ((L.set i (o9 x),(mH R x i h).1),0) else ((L,(mH R x i h).1),(mH R x i h).2))
 else ((L.set i (iE x h.toInt),R),0)
def dY (h:Int64) (L:List au) (R:RC):Nat→(List au×RC)×Int
 | 0=>((L,R),0)
 | i + 1=>if (dY h L R i).2=0 then fQ h i (dY h L R i).1.1 (dY h L R i).1.2 ((dY h L R i).1.1.getD i default) else dY h L R i
def rz (h:Int64) (L:List au) (R:RC):(List au×RC)×Int:=dY h L R L.length
theorem Dn (id:H8) (h:Int64) (base:Bool):∀ (l:List dG) (R:RC) (i:Nat),R.P.length=R.C.length→(eT id h base R i l).1.P.length=(eT id h base R i l).1.C.length
 | [],_,_,hPC=>hPC
 | o::l,R,i,hPC=>by
  rw [eT]
  split
  ·exact hPC
  ·split
   ·exact Dn id h base l _ (i + 1) (zS hPC (dz id i) ⟨o.to,o.amt,h,base⟩).2
   ·exact hPC
theorem J8 (h:Int64) (i:Nat) (L:List au) (R:RC) (x:au):(fQ h i L R x).1.1.length=L.length:=by
 unfold fQ
 split
 ·rfl
 ·split
  ·split
   ·exact List.length_set ..
   ·rfl
  ·exact List.length_set ..
theorem Ms (h:Int64) {i j:Nat} (hj:j≠i) (L:List au) (R:RC) (x:au):(fQ h i L R x).1.1.getD j default=L.getD j default:=by
 have hs:∀ y,(L.set i y).getD j default=L.getD j default:=fun y=>by rw [List.getD_eq_getElem?_getD,List.getD_eq_getElem?_getD,List.getElem?_set_ne (fun e=>hj e.symm)]
 unfold fQ
 split
 ·rfl
 ·split
  ·split
   ·exact hs _
   ·rfl
  ·exact hs _
theorem Ho (h:Int64) (i:Nat) (L:List au) (R:RC) {x:au} (hx:x.cert.outs.length≤1000) (hPC:R.P.length=R.C.length):(fQ h i L R x).1.2.P.length≤R.P.length + 1000∧(fQ h i L R x).1.2.P.length=(fQ h i L R x).1.2.C.length:=by
 have h1:=wE (iw i x.cert.ep x.cert.fin) h false x.cert.outs R 0 hPC
 have h2:=Dn (iw i x.cert.ep x.cert.fin) h false x.cert.outs R 0 hPC
 have hp:mH R x i h=eT (iw i x.cert.ep x.cert.fin) h false R 0 x.cert.outs:=rfl
 unfold fQ
 rw [hp]
 split
 ·exact ⟨by dsimp only;omega,hPC⟩
 ·split
  ·split
   ·exact ⟨by dsimp only;omega,h2⟩
   ·exact ⟨by dsimp only;omega,h2⟩
  ·exact ⟨by dsimp only;omega,hPC⟩
theorem uL (h:Int64) (L:List au) (R:RC):∀ i,(dY h L R i).1.1.length=L.length
 | 0=>rfl
 | i + 1=>by
  rw [dY]
  split
  ·rw [J8,uL h L R i]
  ·exact uL h L R i
theorem uK (h:Int64) (L:List au) (R:RC):∀ i j,i≤j→(dY h L R i).1.1.getD j default=L.getD j default
 | 0,_,_=>rfl
 | i + 1,j,hj=>by
  rw [dY]
  split
  ·rw [Ms h (by omega),uK h L R i j (by omega)]
  ·exact uK h L R i j (by omega)
theorem wL (h:Int64) (L:List au) (R:RC) (hL:∀ i,i<L.length→(L.getD i default).cert.outs.length≤1000) (hPC:R.P.length=R.C.length):∀ i,i≤L.length→(dY h L R i).1.2.P.length≤R.P.length + 1000 * i∧(dY h L R i).1.2.P.length=(dY h L R i).1.2.C.length
 | 0,_=>⟨Nat.le_refl _,hPC⟩
 | i + 1,hi=>by
  have h1:=wL h L R hL hPC i (by omega)
  rw [dY]
  split
  ·have h2:=Ho h i (dY h L R i).1.1 (dY h L R i).1.2 (x:=(dY h L R i).1.1.getD i default) (by rw [uK h L R i i (Nat.le_refl _)];exact hL i (by omega)) h1.2
   exact ⟨by omega,h2.2⟩
  ·exact ⟨by omega,h1.2⟩
theorem AJ (h:Int64) (L:List au) (R:RC) {i:Nat} (h0:(dY h L R i).2≠0):∀ k,dY h L R (i + k)=dY h L R i
 | 0=>rfl
 | k + 1=>by
  rw [← Nat.add_assoc,dY,AJ h L R h0 k,if_neg h0]
theorem Uf (h:Int64) (i:Nat) (L:List au) (x:au) {S:aB} {R:RC} (ht:Twin S R):(fQ h i L R x).1.1=(gT h i L S x).1.1∧(fQ h i L R x).2=(gT h i L S x).2∧Twin (gT h i L S x).1.2 (fQ h i L R x).1.2:=by
 obtain ⟨h1,h2⟩:=F6 (iw i x.cert.ep x.cert.fin) h false x.cert.outs S R 0 ht
 have e1:mH R x i h=eT (iw i x.cert.ep x.cert.fin) h false R 0 x.cert.outs:=rfl
 have e2:ji S x i h=dX (iw i x.cert.ep x.cert.fin) h false S 0 x.cert.outs:=rfl
 rw [← e1,← e2] at h1 h2
 unfold fQ gT
 rw [← h2]
 split
 ·exact ⟨rfl,rfl,ht⟩
 ·split
  ·split
   ·exact ⟨rfl,rfl,h1⟩
   ·exact ⟨rfl,rfl,h1⟩
  ·exact ⟨rfl,rfl,ht⟩
theorem F5 (h:Int64) (L:List au) {S:aB} {R:RC} (ht:Twin S R):∀ i,(dY h L R i).1.1=(iY h L S i).1.1∧(dY h L R i).2=(iY h L S i).2∧Twin (iY h L S i).1.2 (dY h L R i).1.2
 | 0=>⟨rfl,rfl,ht⟩
 | i + 1=>by
  obtain ⟨h1,h2,h3⟩:=F5 h L ht i
  rw [dY,iY,h2,h1]
  split
  ·exact Uf h i _ _ h3
  ·exact ⟨h1,h2,h3⟩
structure XP (h:Int64) (L:List au) (R:RC) where
 i:Nat
 Li:List au
 Ri:RC
 le:i≤L.length
 go:dY h L R i=((Li,Ri),0)
def FJ (h:Int64) (L:List au) (R:RC) (i:Nat):St :=
 ⟨[some (XV.sv (.ptr 0 0 0 0)),some (XV.sv (.ptr 1 0 0 0)),some (XV.int .i64 h.toInt),none,none,none,none,some (XV.int .i64 i)]++List.replicate 95 none,[(0,.abs (kC L)),(1,.abs (Bg R))],3⟩
def Mr (h:Int64) (L:List au) (R:RC) (i:Nat) (ad:Nat→Nat→Option Addr×Nat):St :=
 ⟨[some (XV.sv (.ptr 0 0 0 0)),some (XV.sv (.ptr 1 0 0 0)),some (XV.int .i64 h.toInt),none,none,none,none,some (XV.int .i64 i),some (XV.sv (.ptr 6 0 0 0))]++List.replicate 94 none,
  [(0,.cells lV [.slc 4 42 0 L.length]),(1,.abs (Bg R)),(4,.vec og 42 L.length fun i=>dK 0 (bP L i) (ad i)),(5,.abs (dP L.length (bP L) ad)),(6,.cells 109 ((dK 0 (bP L i) (ad i)).map .raw))],7⟩
section
variable {C:Ctx} {slots:List (Option XV)} {mem:Mem} {nx:Nat}
theorem Reg.ML (tS tE:TypeId) (L L':List au) (c:Nat) {i1 q m n:Nat} {G:Nat→List Value} {ad ad':Nat→Nat→Option Addr×Nat} (h0:0<L'.length) (k0:mem.get c=some (.cells tS [.slc i1 42 0 m])) (k1:mem.get i1=some (.vec tE 42 n G)) (k2:mem.get q=some (.abs (dP n (bP L) ad)))
  (hids:(Nat.beq c i1 || Nat.beq c q || Nat.beq i1 q)=false) (hm:m=L'.length) (hn:n=L'.length) (hG:∀ i,i<n→G i=dK 0 (bP L' i) (ad' i)) (hF:∀ i,i<n→∀ (j:Nat) (x:AC),(bP L' i)[j]? = some x→(∃ u,x=AC.raw u)∨((bP L i)[j]? = some x∧ad' i j=ad i j)∨(∃ sz f,x = .row sz 0 f∧ad' i j=(none,0))) :
  aN C ⟨slots,mem,nx⟩ ⟨slots,(c,.abs (Dl tS tE L'))::Mem.mD ((i1,.abs (iP tE 42 n (bP L')))::mem.mD [i1,q]) [c,i1],nx⟩:=by
 simp only [Bool.or_eq_false_iff,aL,decide_eq_false_iff_not] at hids
 obtain ⟨⟨d1,d2⟩,d3⟩:=hids
 refine (aN.Dw (S:=⟨slots,mem,nx⟩) (F:=bP L') (ad:=ad') [q] k1 (by omega) (Nat.le_refl _) (by simp [d3]) hG (fun i hi j x hx => ?_)).trans ?_
 ·rcases hF i hi j x hx with h |⟨h,e⟩ |h
  ·exact .inl h
  ·rw [e];exact rH.old (by simp) k2 hi h
  ·exact .inr (.inl h)
 ·refine Reg.shuts tS tE L' c h0 ?_ ?_ (by simpa [aL] using d1) hm hn fun _ _=>rfl
  ·simp only [Mem.get,aL,Mem.eU]
   rw [show decide (i1=c)=false from decide_eq_false (fun e=>d1 e.symm)]
   simp only [cond_false]
   rw [if_neg (by simp only [List.mem_cons,List.not_mem_nil,or_false,not_or];exact ⟨d1,d2⟩)]
   exact k0
  ·simp [Mem.get,aL]
end
theorem LG {M:Mem} {rd:List Nat} {q n i:Nat} {L:List au} {ad:Nat→Nat→Option Addr×Nat} {x:au} (hx:L.getD i default=x) (hm:M.get q=some (.abs (dP n (bP L) ad))) (hrd:gI q rd=true) (hi:i<n):bC M rd (.one (.raw (.slice (ad i 39).1 (L.getD i default).cert.outs.length (ad i 39).2))) (.row 9 x.cert.outs.length (bE x.cert.outs)) :=
 hx▸gK (F:=bP L) (j:=39) hm hrd hi rfl
theorem LD {M:Mem} {rd:List Nat} {q n i:Nat} {L:List au} {ad:Nat→Nat→Option Addr×Nat} {x:au} (hx:L.getD i default=x) (hm:M.get q=some (.abs (dP n (bP L) ad))) (hrd:gI q rd=true) (hi:i<n):bC M rd (.agg (bR (L.getD i default).cert (.raw (.slice (ad i 39).1 (L.getD i default).cert.outs.length (ad i 39).2)) (.raw (.slice (ad i 40).1 (L.getD i default).cert.sigs.length (ad i 40).2)))) (.box x.cert.ac) :=
 hx▸bS (c:=(L.getD i default).cert) (gK (F:=bP L) (j:=39) hm hrd hi rfl) (gK (F:=bP L) (j:=40) hm hrd hi rfl)
set_option maxHeartbeats 2000000 in
theorem Mt (R:RC) (h:Int64):Does Tryz.prog 39 [(.abs (kC []),.abs (kC [])),(.abs (Bg R),.abs (Bg R))] [.plain (.one (.raw (.int .i64 h.toInt)))] [] (XV.int .i64 0) none:=by
 refine Does.of Tryz.aA Tryz.func39 rfl _ _ _ _ _ rfl rfl rfl 0 (fun C hC => ?_)
 (replace hC:C.n0=3:=hC;change av _ _ _ ⟨_,_,3⟩ _)
 refine xK 1 ?_
 refine wD <| ak <| av.seq ?_
 refine xK 1 ?_
 refine wD <| ak <| av.block ?_
 refine av.loop (α:=Unit) (fun _=>FJ h [] R 0) (fun _=>0) () ?_ ?_
 ·unfold FJ
  ((try dsimp only);exact xE [0,1,2] hC)
 intro _
 unfold FJ
 refine Reg.qJ lV og 0 rfl ?_
 refine xK 1 ?_
 refine wD <| bW <| aS <| aI <| ak <| xI ?_
 (refine xB ?_)
 exact wD (Sx.Ends.wQ (.inr rfl) (Reg.pz lV og 0 rfl) rfl rfl rfl rfl)
set_option maxHeartbeats 16000000 in
theorem S9 (L:List au) (R:RC) (h:Int64) (hh:0≤h.toInt∧h.toInt≤1000000) (hL:∀ i,i<L.length→(L.getD i default).gN) (hc:∀ i,i<L.length→(L.getD i default).cert.outs.length≤1000) (hl:L.length≤100) (hPC:R.P.length=R.C.length) (hR:R.P.length<700000) :
  Does Tryz.prog 39 [(.abs (kC L),.abs (kC (rz h L R).1.1)),(.abs (Bg R),.abs (Bg (rz h L R).1.2))] [.plain (.one (.raw (.int .i64 h.toInt)))] [] (XV.int .i64 (rz h L R).2) none:=by
 rcases Nat.eq_zero_or_pos L.length with h0 |h0
 ·obtain rfl:=List.length_eq_zero_iff.1 h0
  exact Mt R h
 refine Does.of Tryz.aA Tryz.func39 rfl _ _ _ _ _ rfl rfl rfl 0 (fun C hC => ?_)
 (replace hC:C.n0=3:=hC;change av _ _ _ ⟨_,_,3⟩ _)
 refine xK 1 ?_
 refine wD <| ak <| av.seq ?_
 refine xK 1 ?_
 refine wD <| ak <| av.block ?_
 refine av.loop (α:=XP h L R) (fun p=>FJ h p.Li p.Ri p.i) (fun p=>L.length - p.i) ⟨0,L,R,Nat.zero_le _,rfl⟩ ?_ ?_
 ·unfold FJ
  ((try dsimp only);exact xE [0,1,2] hC)
 rintro ⟨i,Li,Ri,hi,he⟩
 dsimp only
 unfold FJ
 have hlen:=uL h L R i
 have hget:=uK h L R i i (Nat.le_refl _)
 have hst:=wL h L R hc hPC i hi
 have hnext:dY h L R (i + 1)=fQ h i (dY h L R i).1.1 (dY h L R i).1.2 ((dY h L R i).1.1.getD i default):=by rw [dY,if_pos (by rw [he])]
 have hfin:(dY h L R (i + 1)).2≠0→i<L.length→rz h L R=dY h L R (i + 1):=fun h1 h2=>by
  rw [rz,show L.length=i + 1 + (L.length - (i + 1)) by omega,AJ h L R h1]
 rw [hget] at hnext
 rw [he] at hlen hst hnext hget
 dsimp only at hlen hst hnext hget
 have hl0:0<Li.length:=by omega
 refine Reg.opens lV og Li 0 hl0 rfl (Nat.le_of_ble_eq_true rfl) (fun ad => ?_)
 refine xK 1 ?_
 refine wC (fun h1 => ?_) (fun h1 => ?_)
 ·(refine xG ?_)
  have h1':i<Li.length:=xW
  have hw:IntKind.i64.wrap ((i:Int) + 1)=((i + 1:Nat):Int):=xW
  have hz:=hL i (by omega)
  have hzc:=hc i (by omega)
  obtain ⟨x,hx⟩:∃ x,L.getD i default=x:=⟨_,rfl⟩
  rw [hx] at hz hzc hnext hget
  have hdue:=J5 x h.toInt
  rw [Nc hh.1 hh.2] at hdue
  have hone:fQ h i Li Ri x=if (kW x h.toInt).2=false then ((Li,Ri),0) else if (x.pend && (x.cert.ep == (kW x h.toInt).1))=true then (if (mH Ri x i h).2=0 then ((Li.set i (o9 x),(mH Ri x i h).1),0) else ((Li,(mH Ri x i h).1),(mH Ri x i h).2)) else ((Li.set i (iE x h.toInt),Ri),0):=rfl
  rw [hone] at hnext
  clear hone
  obtain ⟨⟨dv,db⟩,hd⟩:∃ p,kW x h.toInt=p:=⟨_,rfl⟩
  rw [hd] at hdue hnext
  dsimp only at hdue hnext
  refine wD <| ak <| av.seq <| av.block ?_
  refine xK 1 ?_
  (repeat (refine wN ?_ ?_;exact xW;refine xG ?_))
  simp only [Nat.zero_add,Int.toNat_natCast]
  refine wD <| ak <| av.ent (S':=Mr h Li Ri i ad) ?_ ?_
  ·unfold Mr
   ((try dsimp only);exact xE [0,1,2,3,4,5,20] hC)
  unfold Mr
  have hll:∀ y:au,(Li.set i y).length=Li.length:=fun y=>List.length_set ..
  have hre:bP Li i=x.ac:=by rw [bP,hget]
  have hsum:=FI x.cert (by omega)
  have hout:=G9 Ri (iw i x.cert.ep x.cert.fin) x.cert.outs h false hzc hst.2 (by omega)
  refine xI ?_
  (refine xB ?_)
  refine xC rfl Tryz.func38 rfl (hdue.at [5] ⟨hget▸sG (q:=5) rfl rfl h1',ah rfl,trivial⟩ trivial) ?_
  refine wC (fun h2 => ?_) (fun h2 => ?_)
  ·have hdb:db=false:=by simpa using h2
   rw [if_pos hdb] at hnext
   (refine xG ?_)
   refine wD <| aI <| ak <| xI ?_
   (refine xB ?_)
   refine wD <| aP ⟨⟨i + 1,Li,Ri,by omega,hnext⟩,by dsimp only;omega,?_⟩
   rw [hw]
   refine (Reg.mJ lV og Li Li 0 (i1:=4) (q:=5) (ad:=ad) (m:=Li.length) (n:=Li.length) hl0 rfl rfl rfl rfl rfl rfl (fun _ _=>rfl) jP).trans ?_
   ((try dsimp only);exact xE [0,1,2] hC)
  have hdb:db=true:=by simpa using h2
  rw [if_neg (by rw [hdb];simp)] at hnext
  (refine xG ?_)
  rw [hget]
  refine wC (fun h3 => ?_) (fun h3 => ?_)
  ·have h3':x.pend=false:=by simpa using h3
   rw [if_neg (by rw [h3',Bool.false_and];simp)] at hnext
   (refine xG ?_)
   (repeat (refine wN ?_ ?_;exact xW;refine xG ?_))
   simp only [Nat.zero_add,Int.toNat_natCast]
   refine wD <| aI <| ak <| xI ?_
   (refine xB ?_)
   refine wD <| aP ⟨⟨i + 1,Li.set i (iE x h.toInt),Ri,by omega,hnext⟩,by dsimp only;omega,?_⟩
   rw [hw]
   refine aN.trans (Reg.ML lV og Li (Li.set i (iE x h.toInt)) 0 (i1:=4) (q:=5) (ad:=ad) (ad':=ad) (by rw [hll];exact hl0) rfl rfl rfl rfl (hll _).symm (hll _).symm (fun k hk => ?_) (fun k hk j y hy => ?_)) ?_
   ·by_cases hki:k=i
    ·subst hki
     rw [jE,iU h1',← hget];rfl
    ·rw [iG hki,iV hki]
   ·by_cases hki:k=i
    ·subst hki
     rw [iU h1'] at hy
     rw [hre]
     exact (qd (x:=iE x h.toInt) (y:=x) rfl rfl rfl rfl hy).imp id fun h6 => .inl ⟨h6,rfl⟩
    ·rw [iV hki] at hy
     exact .inr (.inl ⟨hy,rfl⟩)
   ·((try dsimp only);exact xE [0,1,2] hC)
  have h3':x.pend=true:=by simpa using h3
  rw [h3',Bool.true_and] at hnext
  (refine xG ?_)
  rw [hget]
  refine wC (fun h4 => ?_) (fun h4 => ?_)
  ·rw [if_neg (by rw [beq_iff_eq];exact bne_iff_ne.1 h4)] at hnext
   (refine xG ?_)
   (repeat (refine wN ?_ ?_;exact xW;refine xG ?_))
   simp only [Nat.zero_add,Int.toNat_natCast]
   refine wD <| aI <| ak <| xI ?_
   (refine xB ?_)
   refine wD <| aP ⟨⟨i + 1,Li.set i (iE x h.toInt),Ri,by omega,hnext⟩,by dsimp only;omega,?_⟩
   rw [hw]
   refine aN.trans (Reg.ML lV og Li (Li.set i (iE x h.toInt)) 0 (i1:=4) (q:=5) (ad:=ad) (ad':=ad) (by rw [hll];exact hl0) rfl rfl rfl rfl (hll _).symm (hll _).symm (fun k hk => ?_) (fun k hk j y hy => ?_)) ?_
   ·by_cases hki:k=i
    ·subst hki
     rw [jE,iU h1',← hget];rfl
    ·rw [iG hki,iV hki]
   ·by_cases hki:k=i
    ·subst hki
     rw [iU h1'] at hy
     rw [hre]
     exact (qd (x:=iE x h.toInt) (y:=x) rfl rfl rfl rfl hy).imp id fun h6 => .inl ⟨h6,rfl⟩
    ·rw [iV hki] at hy
     exact .inr (.inl ⟨hy,rfl⟩)
   ·((try dsimp only);exact xE [0,1,2] hC)
  obtain rfl:x.cert.ep=dv:=by simpa using h4
  rw [if_pos (by rw [beq_iff_eq])] at hnext
  have hpg0:mH Ri x i h=eT (iw i x.cert.ep x.cert.fin) h false Ri 0 x.cert.outs:=rfl
  rw [hpg0] at hnext
  clear hpg0
  obtain ⟨⟨R',er⟩,hpg⟩:∃ p,eT (iw i x.cert.ep x.cert.fin) h false Ri 0 x.cert.outs=p:=⟨_,rfl⟩
  rw [hpg] at hnext hout
  dsimp only at hnext hout
  (refine xG ?_)
  rw [hget]
  refine xC rfl Tryz.func36 rfl ((PX (i:Int) x.cert.ep x.cert.fin).at [] ⟨ah rfl,ah rfl,ah rfl,trivial⟩ trivial) ?_
  refine xC rfl Tryz.func58 rfl (hout.at [5] rfl rfl rfl ⟨ah rfl,LG (q:=5) hget rfl rfl h1',ah rfl,ah rfl,trivial⟩ trivial) ?_
  refine wC (fun h5 => ?_) (fun h5 => ?_)
  ·have h5':er≠0:=by simpa using h5
   rw [if_neg h5'] at hnext
   have hE:rz h L R=((Li,R'),er):=by rw [hfin (by rw [hnext];exact h5') (by omega),hnext]
   rw [hE]
   (refine xG ?_)
   exact wD <| aQ <| aV <| fq <| aQ <| aV <| Sx.Ends.wQ (.inr rfl) (Reg.mJ lV og Li Li 0 (i1:=4) (q:=5) (ad:=ad) (m:=Li.length) (n:=Li.length) hl0 rfl rfl rfl rfl rfl rfl (fun _ _=>rfl) jP) rfl rfl rfl rfl
  have h5':er=0:=by simpa using h5
  subst h5'
  rw [if_pos rfl] at hnext
  have hpx:o9 x={ x with bal:=wr (x.bal - jR x.cert),mat:=wr (x.mat + jR x.cert),root:=x.cert.root,pend:=false,cert:=pR }:=rfl
  have hcs:jR x.cert=(kD 0 (bV x.cert.outs x.cert.outs.length)).getD 0:=rfl
  unfold Ab at hsum
  rw [← hcs] at hsum
  obtain ⟨n,hn⟩:∃ n,jR x.cert=n:=⟨_,rfl⟩
  rw [hn] at hsum hpx
  rw [hpx] at hnext
  (refine xG ?_)
  refine xC rfl Tryz.func75 rfl (hsum.at [5] ⟨LD (q:=5) hget rfl rfl h1',trivial⟩ trivial) ?_
  (repeat (refine wN ?_ ?_;exact xW;refine xG ?_))
  simp only [Nat.zero_add,Int.toNat_natCast]
  refine wD <| aJ <| ak <| xI ?_
  (refine xB ?_)
  refine wD <| aP ⟨⟨i + 1,_,R',by omega,hnext⟩,by dsimp only;omega,?_⟩
  rw [hw]
  refine aN.trans (Reg.ML lV og Li (Li.set i { x with bal:=wr (x.bal - n),mat:=wr (x.mat + n),root:=x.cert.root,pend:=false,cert:=pR }) 0 (i1:=4) (q:=5) (ad:=ad) (ad':=Ez ad i (none,0) (none,0)) (by rw [hll];exact hl0) rfl rfl rfl rfl (hll _).symm (hll _).symm (fun k hk => ?_) (fun k hk j y hy => ?_)) ?_
  ·by_cases hki:k=i
   ·subst hki
    rw [jE,iU h1',qm,← hget];rfl
   ·rw [iG hki,iV hki,wZ hki]
  ·by_cases hki:k=i
   ·subst hki
    rw [iU h1'] at hy
    rw [hre,qm]
    rcases EI (x:={ x with bal:=wr (x.bal - n),mat:=wr (x.mat + n),root:=x.cert.root,pend:=false,cert:=pR }) (y:=x) rfl rfl hy with h6 |⟨h6,h7,h9⟩ |⟨h6,h7⟩ |⟨h6,h7⟩
    ·exact .inl h6
    ·exact .inr (.inl ⟨h6,(if_neg h7).trans (if_neg h9)⟩)
    ·exact .inr (.inr ⟨_,_,h6,if_pos h7⟩)
    ·exact .inr (.inr ⟨_,_,h6,(if_neg (by omega)).trans (if_pos h7)⟩)
   ·rw [iV hki] at hy
    rw [wZ hki]
    exact .inr (.inl ⟨hy,rfl⟩)
  ·((try dsimp only);exact xE [0,1,2] hC)
 ·(refine xG ?_)
  have h1':i=L.length:=xW
  subst h1'
  have hE:rz h L R=((Li,Ri),0):=by rw [rz,he]
  rw [hE]
  refine wD <| bW <| aS <| aI <| ak <| xI ?_
  (refine xB ?_)
  exact wD (Sx.Ends.wQ (.inr rfl) (Reg.mJ lV og Li Li 0 (i1:=4) (q:=5) (ad:=ad) (m:=Li.length) (n:=Li.length) hl0 rfl rfl rfl rfl rfl rfl (fun _ _=>rfl) jP) rfl rfl rfl rfl)
set_option maxRecDepth 100000
open Go.Sx
theorem Ie.self {P:Program} {t:TypeId} {v:Value} {m:Nat} (hm:m≤10000) (hk:P.keyTypeAt m t=true) (hwide:(match P.underlying t with |some (.array _ _) |some (.struct _)=>true |_=>false)=true)
  (hkey:∃ l,keyOf P t v=some l) (hg:P.eqGuardType P.depth t=false) (ha:∃ cs,v = .agg cs):Ie P t (fun _:Unit=>v) where
 agg _:=ha
 noGuard:=hg
 eq w a b:=by
  obtain ⟨l,h1⟩:=hkey
  obtain ⟨r,h3,h4⟩:=run_equal_deep w hm hk hwide h1 h1
  rw [h3,h4.2 rfl]
  rfl
def gP.v (s:gP):Value := .agg s.cells.toArray
def xX:Nat→List Kd
 | 0=>[]
 | n + 1=>gV++xX n
def y9:List Kd := .int .i64 :: .int .i64::(xX 16++xX 16++xX 3)
theorem zi (g:Nat→H8):∀ (n i:Nat),Fits (xX n) (fZ (bG g) i n)
 | 0,_=>rfl
 | n + 1,i=>Fits.append (uq (g i)) (zi g n (i + 1))
theorem Tz {s:gP} (h:iW s=true):Fits y9 s.cells:=by
 obtain ⟨⟨k1,k2⟩,i1,i2⟩:=ko.1 h
 have hwf:∀ n:Int,0≤n→n≤255→(Kd.int .i64).fits (.int .i64 n):=fun n a b=>⟨n,rfl,by
  have e1:IntKind.i64.min = -9223372036854775808:=rfl
  have e2:IntKind.i64.max=9223372036854775807:=rfl
  simp only [Lit.wf,e1,e2,Bool.and_eq_true,decide_eq_true_eq]
  omega⟩
 exact ⟨_,_,rfl,hwf _ k1 (by omega),_,_,rfl,hwf _ i1 i2,Fits.append (Fits.append (zi _ 16 0) (zi _ 16 0)) (zi _ 3 0)⟩
theorem Kg:Tryz.prog.keyTypeAt 8 192=true:=by kernel_rfl
theorem TA:Tryz.prog.keyType 192=true:=by kernel_rfl
theorem P5:y9.length=Tryz.prog.cellsOf 192:=by kernel_rfl
theorem Kh:Tryz.prog.eqGuardType Tryz.prog.depth 192=false:=by kernel_rfl
theorem P6:lF Tryz.T 8 192=some y9:=by kernel_rfl
theorem Y5 {s:gP} (h:iW s=true):Ie Tryz.prog 192 (fun _:Unit=>s.v) :=
 Ie.self (m:=8) (by omega) Kg (by rw [Tryz.underlying192]) (nJ Tryz.aA (f:=8) (ks:=y9) P6 Kg TA nW (by rw [Tryz.underlying192]) (Tz h) P5) Kh ⟨_,rfl⟩
set_option maxRecDepth 100000
open Go.Sx
def Wu (l:List H8) (i:Nat):St :=
 ⟨[some (XV.sv (.slc 0 8 0 l.length)),some (XV.sv (.slc 1 8 0 l.length)),none,none,none,some (XV.int .i64 i)]++List.replicate 20 none,[(0,.ro 8 l.length (dA l)),(1,.ro 8 l.length (dA l))],2⟩
set_option maxHeartbeats 4000000 in
theorem Lp (l:List H8) (hl:l.length≤1000000):Reads Tryz.prog 129 [.row 8 l.length (dA l),.row 8 l.length (dA l)] [] (XV.bool true):=by
 refine Reads.of Tryz.aA Tryz.func129 rfl _ _ _ rfl rfl (fun C hC => ?_)
 (replace hC:C.n0=2:=hC;change av _ _ _ ⟨_,_,2⟩ _)
 refine xK 2 ?_
 refine kE (by simp) ?_
 (refine xG ?_)
 refine wD <| ak <| av.seq ?_
 refine xK 1 ?_
 refine wD <| ak <| av.block ?_
 refine av.loop (α:={ i:Nat // i≤l.length }) (fun i=>Wu l i.1) (fun i=>l.length - i.1) ⟨0,Nat.zero_le _⟩ ?_ ?_
 ·unfold Wu
  ((try dsimp only);exact xE [0,1] hC)
 rintro ⟨i,hi⟩
 dsimp only
 unfold Wu
 refine xK 1 ?_
 refine wC (fun h1 => ?_) (fun h1 => ?_)
 ·(refine xG ?_)
  have h1':i<l.length:=xW
  have hw:IntKind.i64.wrap ((i:Int) + 1)=((i + 1:Nat):Int):=xW
  refine wD <| ak <| av.seq <| av.block <| xI ?_
  (refine xB ?_)
  (repeat (refine wN ?_ ?_;exact xW;refine xG ?_))
  simp only [Nat.zero_add,Int.toNat_natCast]
  (refine wP _ _ (o7 pV rfl (l.getD i default) (l.getD i default) rfl rfl) ?_;refine xZ ?_)
  refine kE (by simp) ?_
  (refine xG ?_)
  refine wD <| aJ <| ak <| xI ?_
  (refine xB ?_)
  refine wD <| aP ⟨⟨i + 1,h1'⟩,by dsimp only;omega,?_⟩
  rw [hw]
  ((try dsimp only);exact xE [0,1] hC)
 ·(refine xG ?_)
  refine wD <| bW <| aS <| aI <| ak <| xI ?_
  (refine xB ?_)
  exact wD (Ends.plain (.inr rfl) rfl rfl)
structure Plain (x:au):Prop where
 outs:x.cert.outs=[]
 sigs:x.cert.sigs=[]
def TH (x:au):Mem :=
 [(0,.ro 8 x.par.keys.length (dA x.par.keys)),(1,.ro 9 x.cert.outs.length (bE x.cert.outs)),(2,.ro 282 x.cert.sigs.length (bY x.cert.sigs)),(3,.ro 1 x.used.length (dO x.used)),(4,.ro 8 x.par.keys.length (dA x.par.keys)),(5,.ro 9 x.cert.outs.length (bE x.cert.outs)),(6,.ro 282 x.cert.sigs.length (bY x.cert.sigs)),(7,.ro 1 x.used.length (dO x.used)),(8,.cells 68 (vK 0 x.ac)),(9,.cells 109 (vK 4 x.ac))]
def Xk (x:au) (i:Nat):St :=
 ⟨[none,none,some (XV.sv (.ptr 8 0 0 0)),some (XV.sv (.ptr 9 0 0 0)),none,some (XV.int .i64 i)]++List.replicate 130 none,TH x,10⟩
end Go.Proofs.YtnpkdoggfnlapaaGreatDoor
