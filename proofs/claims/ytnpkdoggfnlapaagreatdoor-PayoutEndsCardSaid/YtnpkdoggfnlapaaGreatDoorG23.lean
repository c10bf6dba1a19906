/- Parts Bc Bd Be Bf Bg Bh Bi Bj. -/
import Derived.Test.YtnpkdoggfnlapaaGreatDoorG22
import Derived.Test.YtnpkdoggfnlapaaGreatDoorG17
import Derived.Test.YtnpkdoggfnlapaaGreatDoorG18
import Derived.Test.YtnpkdoggfnlapaaGreatDoorG19
import Derived.Test.YtnpkdoggfnlapaaGreatDoorG20
import Derived.Test.YtnpkdoggfnlapaaGreatDoorG11
set_option linter.unusedSimpArgs false
set_option linter.unusedVariables false
namespace Go.Proofs.YtnpkdoggfnlapaaGreatDoor
set_option maxRecDepth 100000
open Go.Sx
def qZ (x:au) (e h:Int):Bool:=eH x && (aO e 0 400 && (decide (jL x e<h) && decide (h≤wr (jL x e + x.par.win))))
set_option maxHeartbeats 4000000 in
theorem P9 (x:au) (e h:Int):Reads Tryz.prog 163 [.box x.ac,.plain (.one (.raw (.int .i64 e))),.plain (.one (.raw (.int .i64 h)))] [] (XV.bool (qZ x e h)):=by
 refine Reads.of Tryz.aA Tryz.func163 rfl _ _ _ rfl rfl (fun C hC => ?_)
 (replace hC:C.n0=6:=hC;change av _ _ _ ⟨_,_,6⟩ _)
 have hn:=IU x e
 have ht:=Ac x
 have hx:qZ x e h=(eH x && (aO e 0 400 && (decide (jL x e<h) && decide (h≤wr (jL x e + x.par.win))))):=rfl
 rw [hx]
 obtain ⟨E,hE⟩:∃ E,jL x e=E:=⟨_,rfl⟩
 obtain ⟨tb,htb⟩:∃ tb,eH x=tb:=⟨_,rfl⟩
 rw [hE] at hn ⊢
 rw [htb] at ht ⊢
 refine xI ?_
 (refine xB ?_)
 refine xC rfl Tryz.func28 rfl (hn.at [0,1,2,3] ⟨bL (x:=x) (aj rfl rfl) (aj rfl rfl) (aj rfl rfl) (aj rfl rfl),ah rfl,trivial⟩ trivial) ?_
 refine xC rfl Tryz.func60 rfl (ht.at [0,1,2,3] ⟨bL (x:=x) (aj rfl rfl) (aj rfl rfl) (aj rfl rfl) (aj rfl rfl),trivial⟩ trivial) ?_
 refine wC (fun h1 => ?_) (fun h1 => ?_)
 rotate_left
 ·(refine xG ?_)
  exact wD (Ends.plain (.inr rfl) rfl (by rw [h1];rfl))
 (refine xG ?_)
 refine xC rfl Tryz.func61 rfl ((mo e 0 400).at [] ⟨ah rfl,ah rfl,ah rfl,trivial⟩ trivial) ?_
 refine wC (fun h2 => ?_) (fun h2 => ?_)
 rotate_left
 ·(refine xG ?_)
  exact wD (Ends.plain (.inr rfl) rfl (by rw [h1,h2];rfl))
 (refine xG ?_)
 refine wC (fun h3 => ?_) (fun h3 => ?_)
 rotate_left
 ·(refine xG ?_)
  exact wD (Ends.plain (.inr rfl) rfl (by rw [h1,h2,h3];rfl))
 (refine xG ?_)
 exact wD (Ends.plain (.inr rfl) rfl (by rw [h1,h2,h3];rfl))
def mM (x:au) (c:aT) (h:Int) (fin:H8):Int :=
 if x.ceased=true then 14
 else if (!qZ x c.ep h || decide (c.fin≠fin))=true then 9
 else if (x.pend && decide (c.qual≤x.cert.qual))=true then 10
 else if (!(kD 0 (bV c.outs c.outs.length)).isSome || decide (x.bal<(kD 0 (bV c.outs c.outs.length)).getD 0))=true then 5
 else 0
set_option maxHeartbeats 8000000 in
theorem Rv (x:au) (c:aT) (h:Int) (fin:H8) (hl:c.outs.length≤1000000):Reads Tryz.prog 121 [.box x.ac,.box c.ac,.plain (.one (.raw (.int .i64 h))),.plain fin.x] [] (XV.int .i64 (mM x c h fin)):=by
 refine Reads.of Tryz.aA Tryz.func121 rfl _ _ _ rfl rfl (fun C hC => ?_)
 (replace hC:C.n0=8:=hC;change av _ _ _ ⟨_,_,8⟩ _)
 have hsm:=IK c hl
 have hop:=P9 x c.ep h
 have hfx:mM x c h fin=if x.ceased=true then 14 else if (!qZ x c.ep h || decide (c.fin≠fin))=true then 9 else if (x.pend && decide (c.qual≤x.cert.qual))=true then 10 else if (!(kD 0 (bV c.outs c.outs.length)).isSome || decide (x.bal<(kD 0 (bV c.outs c.outs.length)).getD 0))=true then 5 else 0:=rfl
 rw [hfx]
 unfold Ab at hsm
 obtain ⟨n,hn⟩:∃ n,(kD 0 (bV c.outs c.outs.length)).getD 0=n:=⟨_,rfl⟩
 obtain ⟨ok,hok⟩:∃ ok,(kD 0 (bV c.outs c.outs.length)).isSome=ok:=⟨_,rfl⟩
 obtain ⟨ob,hob⟩:∃ ob,qZ x c.ep h=ob:=⟨_,rfl⟩
 rw [hn,hok] at hsm ⊢
 rw [hob] at hop ⊢
 refine xI ?_
 (refine xB ?_)
 refine xC rfl Tryz.func125 rfl (hsm.at [4,5] ⟨bS (c:=c) (aj rfl rfl) (aj rfl rfl),trivial⟩ trivial) ?_
 refine wC (fun h1 => ?_) (fun h1 => ?_)
 ·(refine xG ?_)
  exact wD (Ends.plain (.inr rfl) rfl (by rw [if_pos h1]))
 (refine xG ?_)
 rw [if_neg (by rw [h1];simp)]
 refine xC rfl Tryz.func163 rfl (hop.at [0,1,2,3] ⟨bL (x:=x) (aj rfl rfl) (aj rfl rfl) (aj rfl rfl) (aj rfl rfl),ah rfl,ah rfl,trivial⟩ trivial) ?_
 refine wC (fun h2 => ?_) (fun h2 => ?_)
 ·(refine xG ?_)
  exact wD (Ends.plain (.inr rfl) rfl (by rw [if_pos (by rw [h2];rfl)]))
 (refine xG ?_)
 (refine wP _ _ (o7 pV rfl c.fin fin rfl rfl) ?_;refine xZ ?_)
 refine wC (fun h3 => ?_) (fun h3 => ?_)
 ·(refine xG ?_)
  exact wD (Ends.plain (.inr rfl) rfl (by rw [if_pos (by rw [h2,Bool.false_or];simpa using h3)]))
 (refine xG ?_)
 rw [if_neg (by rw [h2,Bool.false_or];simpa using h3)]
 refine wC (fun h4 => ?_) (fun h4 => ?_)
 ·(refine xG ?_)
  refine wC (fun h5 => ?_) (fun h5 => ?_)
  ·(refine xG ?_)
   exact wD (Ends.plain (.inr rfl) rfl (by rw [if_pos (by rw [h4,Bool.true_and];exact h5)]))
  (refine xG ?_)
  rw [if_neg (by rw [h4,Bool.true_and,h5];simp)]
  refine wC (fun h6 => ?_) (fun h6 => ?_)
  ·(refine xG ?_)
   exact wD (Ends.plain (.inr rfl) rfl (by rw [if_pos (by rw [h6];rfl)]))
  (refine xG ?_)
  refine wC (fun h7 => ?_) (fun h7 => ?_)
  ·(refine xG ?_)
   exact wD (Ends.plain (.inr rfl) rfl (by rw [if_pos (by rw [h6,Bool.false_or];exact h7)]))
  (refine xG ?_)
  exact wD (Ends.plain (.inr rfl) rfl (by rw [if_neg (by rw [h6,Bool.false_or,h7];simp)]))
 (refine xG ?_)
 rw [if_neg (by rw [h4,Bool.false_and];simp)]
 refine wC (fun h6 => ?_) (fun h6 => ?_)
 ·(refine xG ?_)
  exact wD (Ends.plain (.inr rfl) rfl (by rw [if_pos (by rw [h6];rfl)]))
 (refine xG ?_)
 refine wC (fun h7 => ?_) (fun h7 => ?_)
 ·(refine xG ?_)
  exact wD (Ends.plain (.inr rfl) rfl (by rw [if_pos (by rw [h6,Bool.false_or];exact h7)]))
 (refine xG ?_)
 exact wD (Ends.plain (.inr rfl) rfl (by rw [if_neg (by rw [h6,Bool.false_or,h7];simp)]))
set_option maxRecDepth 100000
open Go.Sx
def gP.x (s:gP):CV := .agg (s.cells.map .raw)
def jZ (p:gZ) (m:H8) (s:gP):Bool:=decide (0≤s.key) && (decide (s.key<p.keys.length) && vN (p.keys.getD s.key.toNat default) m s.sig)
set_option maxHeartbeats 8000000 in
theorem PN (p:gZ) (m:H8) (s:gP):Reads Tryz.prog 164 [.box p.ac,.plain m.x,.plain s.x] [bJ] (XV.bool (jZ p m s)):=by
 refine Reads.of Tryz.aA Tryz.func164 rfl _ _ _ rfl rfl (fun C hC => ?_)
 (replace hC:C.n0=4:=hC;change av _ _ _ ⟨_,_,4⟩ _)
 have hk:=Lx (p.keys.getD s.key.toNat default) m s.sig
 have hr:jZ p m s=(decide (0≤s.key) && (decide (s.key<p.keys.length) && vN (p.keys.getD s.key.toNat default) m s.sig)):=rfl
 rw [hr]
 obtain ⟨b,hb⟩:∃ b,vN (p.keys.getD s.key.toNat default) m s.sig=b:=⟨_,rfl⟩
 rw [hb] at hk ⊢
 refine xI ?_
 (refine xB ?_)
 refine wC (fun h1 => ?_) (fun h1 => ?_)
 rotate_left
 ·(refine xG ?_)
  exact wD (Ends.plain (.inr rfl) rfl (by rw [h1];rfl))
 (refine xG ?_)
 refine wC (fun h2 => ?_) (fun h2 => ?_)
 rotate_left
 ·(refine xG ?_)
  exact wD (Ends.plain (.inr rfl) rfl (by rw [h1,h2];rfl))
 have h1':=of_decide_eq_true h1
 have h2':=of_decide_eq_true h2
 (refine xG ?_)
 refine wN ⟨h1',h2'⟩ ?_
 (refine xG ?_)
 simp only [Nat.zero_add]
 refine wN (show s.key.toNat<p.keys.length by omega) ?_
 (refine xG ?_)
 refine xC rfl Tryz.func197 rfl (hk.at [3] ⟨ah rfl,ah rfl,ah rfl,trivial⟩ ⟨bD (c:=3) rfl rfl,trivial⟩) ?_
 exact wD (Ends.plain (.inr rfl) rfl (by rw [h1,h2];rfl))
def rF (p:gZ) (m:H8):Int→List gP→Bool
 | _,[]=>true
 | last,s::r => !(decide (s.key≤last)) && (jZ p m s && rF p m s.key r)
def oJ (p:gZ) (m:H8) (l:List gP):Bool:=rG p && (!(decide ((l.length:Int)<p.need)) && rF p m (-1) l)
def Xa (p:gZ) (m:H8) (l:List gP) (last:Int) (i:Nat):St :=
 ⟨[none,none,none,some (XV.sv (.ptr 4 0 0 0)),some (XV.sv (.ptr 5 0 0 0)),none,none,some (XV.int .i64 last)]++List.replicate 12 none++[some (XV.sv (.slc 2 282 0 l.length)),some (XV.int .i64 l.length),some (XV.int .i64 i)]++List.replicate 17 none,
  [(0,.ro 8 p.keys.length (dA p.keys)),(2,.ro 282 l.length (bY l)),(3,.ext bJ),(4,.cells 40 (vK 0 p.ac)),(5,.cells 29 (m.cells.map .raw))],6⟩
set_option maxHeartbeats 8000000 in
theorem SL (p:gZ) (m:H8) (l:List gP) (hp:p.keys.length≤1000000000) (hl:l.length≤1000000):Reads Tryz.prog 122 [.box p.ac,.plain m.x,.row 282 l.length (bY l)] [bJ] (XV.bool (oJ p m l)):=by
 refine Reads.of Tryz.aA Tryz.func122 rfl _ _ _ rfl rfl (fun C hC => ?_)
 (replace hC:C.n0=4:=hC;change av _ _ _ ⟨_,_,4⟩ _)
 have hq:=JU p hp
 have hx:oJ p m l=(rG p && (!(decide ((l.length:Int)<p.need)) && rF p m (-1) l)):=rfl
 rw [hx]
 obtain ⟨pb,hpb⟩:∃ pb,rG p=pb:=⟨_,rfl⟩
 rw [hpb] at hq ⊢
 refine xK 3 ?_
 refine xC rfl Tryz.func116 rfl (hq.at [0] ⟨gG (p:=p) (aj rfl rfl),trivial⟩ trivial) ?_
 refine wC (fun h1 => ?_) (fun h1 => ?_)
 ·have h1':pb=false:=by simpa using h1
  (refine xG ?_)
  exact wD <| aV <| Ends.plain (.inr rfl) rfl (by rw [h1'];rfl)
 have h1':pb=true:=by simpa using h1
 (refine xG ?_)
 refine wC (fun h2 => ?_) (fun h2 => ?_)
 ·(refine xG ?_)
  exact wD <| aV <| Ends.plain (.inr rfl) rfl (by rw [h1',h2];rfl)
 rw [h1',h2,Bool.true_and,Bool.not_false,Bool.true_and]
 (refine xG ?_)
 refine wD <| ak <| av.seq ?_
 refine xK 1 ?_
 refine wD <| ak <| av.block ?_
 refine av.loop (α:={ x:Nat×Int // x.1≤l.length∧rF p m (-1) l=rF p m x.2 (l.drop x.1) }) (fun x=>Xa p m l x.1.2 x.1.1) (fun x=>l.length - x.1.1) ⟨(0,-1),Nat.zero_le _,by rw [List.drop_zero]⟩ ?_ ?_
 ·unfold Xa
  ((try dsimp only);exact xE [0,1,2,3,4,5] hC)
 rintro ⟨⟨i,last⟩,hi,hg⟩
 dsimp only at hi hg ⊢
 unfold Xa
 refine xK 2 ?_
 refine wC (fun h3 => ?_) (fun h3 => ?_)
 ·(refine xG ?_)
  have h3':i<l.length:=xW
  have hw:IntKind.i64.wrap ((i:Int) + 1)=((i + 1:Nat):Int):=xW
  rw [qB h3',rF] at hg
  obtain ⟨s,hs⟩:∃ s,l.getD i default=s:=⟨_,rfl⟩
  rw [hs] at hg
  have hrt:=PN p m s
  obtain ⟨rb,hrb⟩:∃ rb,jZ p m s=rb:=⟨_,rfl⟩
  rw [hrb] at hrt hg
  refine wD <| ak <| av.seq <| av.block <| xI ?_
  (refine xB ?_)
  (repeat (refine wN ?_ ?_;exact xW;refine xG ?_))
  simp only [Nat.zero_add,Int.toNat_natCast,hs]
  refine wC (fun h4 => ?_) (fun h4 => ?_)
  ·rw [h4,Bool.not_true,Bool.false_and] at hg
   (refine xG ?_)
   exact wD <| aQ <| aV <| fq <| aQ <| aV <| Ends.plain (.inr rfl) rfl (by rw [hg])
  rw [h4,Bool.not_false,Bool.true_and] at hg
  (refine xG ?_)
  refine xC rfl Tryz.func164 rfl (hrt.at [0,3] ⟨gG (p:=p) (aj rfl rfl),ah rfl,ah rfl,trivial⟩ ⟨bD (c:=3) rfl rfl,trivial⟩) ?_
  refine wC (fun h5 => ?_) (fun h5 => ?_)
  ·have h5':rb=false:=by simpa using h5
   rw [h5',Bool.false_and] at hg
   (refine xG ?_)
   exact wD <| aQ <| aV <| fq <| aQ <| aV <| Ends.plain (.inr rfl) rfl (by rw [hg])
  have h5':rb=true:=by simpa using h5
  rw [h5',Bool.true_and] at hg
  (refine xG ?_)
  refine wD <| aJ <| ak <| xI ?_
  (refine xB ?_)
  refine wD <| aP ⟨⟨(i + 1,s.key),h3',hg⟩,by dsimp only;omega,?_⟩
  rw [hw]
  ((try dsimp only);exact xE [0,1,2,3,4,5] hC)
 ·(refine xG ?_)
  have h3':i=l.length:=xW
  subst h3'
  rw [List.drop_length,rF] at hg
  refine wD <| bW <| aS <| aI <| ak <| xI ?_
  (refine xB ?_)
  exact wD (Ends.plain (.inr rfl) rfl (by rw [hg]))
set_option maxRecDepth 100000
open Go.Sx
def dM (c:aT):wW:=⟨4,0,[],[],[],L6,c,nI⟩
theorem Gq {c:aT} (h1:c.outs.length≤1000000000) (h2:c.sigs.length≤1000000000):gN (dM c):=⟨Nat.zero_le _,Nat.zero_le _,Nat.zero_le _,Nat.zero_le _,h1,h2⟩
theorem Iz (c:aT):oU (dM c).ED=true:=by
 show oU (⟨4,0,[],[],[],L6,pR,nI⟩:wW)=true
 decide
theorem Aw (c:aT) (h1:c.outs.length≤1000000000) (h2:c.sigs.length≤1000000000):Reads Tryz.prog 82 [.box (dM c).ac] [] (XV.bool (bM c)):=by
 have h:=RV (dM c) rfl (Gq h1 h2) nA
 change Reads Tryz.prog _ _ _ (XV.bool (bM c && (oU (dM c).ED && Gu nI nA))) at h
 rw [IG,Iz,Bool.and_true,Bool.and_true] at h
 exact h
def cK (c:aT):aT:={ c with sigs:=[default] }
def dJ (c:aT):H8:=if bM (cK c)=true then Ea 99 [gy (dM (cK c))] else dB
set_option maxHeartbeats 4000000 in
theorem Iy (c:aT) (h1:c.outs.length≤1000000):Reads Tryz.prog 120 [.box c.ac] [bJ] (.tup [(dJ c).x,.one (.raw (.bool (bM (cK c))))]):=by
 have hm:=Aw (cK c) (by show c.outs.length≤_;omega) (by show 1≤1000000000;decide)
 refine Reads.of Tryz.aA Tryz.func120 rfl _ _ _ rfl rfl (fun C hC => ?_)
 (replace hC:C.n0=3:=hC;change av _ _ _ ⟨_,_,3⟩ _)
 refine xI ?_
 (refine xB ?_)
 cases hb:bM (cK c) with
 | false =>
  rw [hb] at hm
  have hd:=Ow 99 (t:=dM (cK c)) [] (UM hm)
  have hc:dJ c=dB:=by rw [dJ,if_neg (by rw [hb];simp)]
  rw [hc]
  refine xC rfl Tryz.func98 rfl (hd.at [0,6,2] ⟨ah rfl,jr (t:=dM (cK c)) (aY _ _) (aY _ _) (aY _ _) (aY _ _) (aj rfl rfl) (aF (lo:=0) rfl rfl rfl (Nat.le_refl _) (fun i hi=>by obtain rfl:=Nat.lt_one_iff.1 hi;rfl)),u7 _ _ _,trivial⟩ ⟨bD (c:=2) rfl rfl,trivial⟩) ?_
  exact wD (Ends.plain (.inr rfl) rfl rfl)
 | true =>
  rw [hb] at hm
  have he:=enc4 (t:=dM (cK c)) rfl hb hm
  have hlen:=oz (t:=dM (cK c)) hb
  have hd:=Ox 99 [] he (by decide) (qQ _ _ (by omega))
  have hc:dJ c=Ea 99 [gy (dM (cK c))]:=by rw [dJ,if_pos hb]
  rw [hc]
  refine xC rfl Tryz.func98 rfl (hd.at [0,6,2] ⟨ah rfl,jr (t:=dM (cK c)) (aY _ _) (aY _ _) (aY _ _) (aY _ _) (aj rfl rfl) (aF (lo:=0) rfl rfl rfl (Nat.le_refl _) (fun i hi=>by obtain rfl:=Nat.lt_one_iff.1 hi;rfl)),u7 _ _ _,trivial⟩ ⟨bD (c:=2) rfl rfl,trivial⟩) ?_
  exact wD (Ends.plain (.inr rfl) rfl rfl)
set_option maxRecDepth 100000
open Go.Sx
theorem jo {c:aT} (h:bM c=true):c.sigs.all iW=true∧((0≤c.side∧c.side≤7)∧(0≤c.ep∧c.ep≤400)∧(0≤c.qual∧c.qual≤2147483647))∧eZ c.outs=true∧(1≤(c.sigs.length:Int)∧(c.sigs.length:Int)≤5):=by
 simp only [bM,pU,aO,Bool.and_eq_true,decide_eq_true_eq] at h
 exact h
theorem Al {c:aT} (h:bM c=true):bM (cK c)=true:=by
 obtain ⟨-,h2,h3,-⟩:=jo h
 simp only [bM,pU,aO,Bool.and_eq_true,decide_eq_true_eq]
 refine ⟨?_,h2,h3,?_,?_⟩
 ·show [default].all iW=true
  decide
 ·show (1:Int)≤((1:Nat):Int)
  decide
 ·show ((1:Nat):Int)≤5
  decide
def jH (L:List au) (c:aT) (h:Int) (fin:H8):Int :=
 if bM c=false then 4
 else if (L.length:Int)≤c.side then 8
 else if mM (L.getD c.side.toNat default) c h fin=0 then (if oJ (L.getD c.side.toNat default).par (dJ c) c.sigs=true then 0 else 11)
 else mM (L.getD c.side.toNat default) c h fin
def Wj (L:List au) (c:aT) (h:Int) (fin m:H8) (x:au):St :=
 ⟨[some (XV.sv (.ptr 0 0 0 0)),none,some (XV.int .i64 h),none,none,some (XV.sv (.ptr 6 0 0 0)),none,some (XV.sv (.ptr 7 0 0 0)),none,some (XV.sv (.ptr 8 0 0 0)),some (XV.bool true),some (XV.sv (.ptr 9 0 0 0))]++List.replicate 42 none,
  [(0,.abs (fI L)),(1,.ro 9 c.outs.length (bE c.outs)),(2,.ro 282 c.sigs.length (bY c.sigs)),(5,.ext bJ),(6,.cells 43 (bR c (.slc 1 9 0 c.outs.length) (.slc 2 282 0 c.sigs.length))),(7,.cells 29 (fin.cells.map .raw)),(8,.cells 29 (m.cells.map .raw)),(9,.cells 68 (ng x 10 11 12 13)),(10,.vec 29 8 x.par.keys.length (dA x.par.keys)),(11,.vec 59 9 x.cert.outs.length (bE x.cert.outs)),(12,.vec 192 282 x.cert.sigs.length (bY x.cert.sigs)),(13,.vec 3 1 x.used.length (dO x.used))],14⟩
set_option maxHeartbeats 8000000 in
theorem KO (L:List au) (c:aT) (h:Int) (fin:H8) (hL:∀ i,i<L.length→(L.getD i default).gN) (hl:L.length≤1000) (ho:c.outs.length≤1000000) (hs:c.sigs.length≤1000000):fH Tryz.prog 68 (.abs (fI L)) (.abs (fI L)) [.box c.ac,.plain (.one (.raw (.int .i64 h))),.plain fin.x] [bJ] (XV.int .i64 (jH L c h fin)):=by
 refine fH.of Tryz.aA Tryz.func68 rfl _ _ _ _ _ rfl rfl rfl (fun C hC => ?_)
 (replace hC:C.n0=6:=hC;change av _ _ _ ⟨_,_,6⟩ _)
 have hmay:=Aw c (by omega) (by omega)
 have hmsg:=Iy c ho
 obtain ⟨m,hm⟩:∃ m,dJ c=m:=⟨_,rfl⟩
 have hchk:jH L c h fin=if bM c=false then 4 else if (L.length:Int)≤c.side then 8 else if mM (L.getD c.side.toNat default) c h fin=0 then (if oJ (L.getD c.side.toNat default).par m c.sigs=true then 0 else 11) else mM (L.getD c.side.toNat default) c h fin:=by rw [jH,hm]
 rw [hm] at hmsg
 rw [hchk]
 cases hb:bM c with
 | false =>
  rw [hb] at hmay
  rw [if_pos rfl]
  obtain ⟨ob,hob⟩:∃ ob,bM (cK c)=ob:=⟨_,rfl⟩
  rw [hob] at hmsg
  cases ob with
  | false =>
   refine xI ?_
   (refine xB ?_)
   refine xC rfl Tryz.func120 rfl (hmsg.at [1,2,5] ⟨bS (c:=c) (aj rfl rfl) (aj rfl rfl),trivial⟩ ⟨bD (c:=5) rfl rfl,trivial⟩) ?_
   exact wD (Ends.bZ (.inr rfl) (aN.refl _) rfl rfl rfl)
  | true =>
   refine xI ?_
   (refine xB ?_)
   refine xC rfl Tryz.func120 rfl (hmsg.at [1,2,5] ⟨bS (c:=c) (aj rfl rfl) (aj rfl rfl),trivial⟩ ⟨bD (c:=5) rfl rfl,trivial⟩) ?_
   refine xC rfl Tryz.func82 rfl (hmay.at [1,2] ⟨jr (t:=dM c) (aY _ _) (aY _ _) (aY _ _) (aY _ _) (aj rfl rfl) (aj rfl rfl),trivial⟩ trivial) ?_
   exact wD (Ends.bZ (.inr rfl) (aN.refl _) rfl rfl rfl)
 | true =>
  obtain ⟨-,⟨⟨s1,s2⟩,-,-⟩,-,-⟩:=jo hb
  rw [hb] at hmay
  rw [Al hb] at hmsg
  rw [if_neg (by simp)]
  refine xK 3 ?_
  refine xC rfl Tryz.func120 rfl (hmsg.at [1,2,5] ⟨bS (c:=c) (aj rfl rfl) (aj rfl rfl),trivial⟩ ⟨bD (c:=5) rfl rfl,trivial⟩) ?_
  refine xC rfl Tryz.func82 rfl (hmay.at [1,2] ⟨jr (t:=dM c) (aY _ _) (aY _ _) (aY _ _) (aY _ _) (aj rfl rfl) (aj rfl rfl),trivial⟩ trivial) ?_
  refine wD <| ak <| ?_
  by_cases h8:(L.length:Int)≤c.side
  ·rw [if_pos h8]
   have ho:=Dx L c.side (by rw [Nn,decide_eq_false (show ¬ c.side<(L.length:Int) by omega),Bool.and_false])
   refine xI ?_
   (refine xB ?_)
   refine xC rfl Tryz.func22 rfl (ho.QK [] rfl rfl rfl ⟨ah rfl,trivial⟩ trivial) ?_
   exact wD (Ends.bZ (.inr rfl) (aN.refl _) rfl rfl rfl)
  rw [if_neg h8]
  have hi:c.side.toNat<L.length:=by omega
  have hz:=hL _ hi
  have hin:=qR L c.side.toNat hi hz
  rw [Int.toNat_of_nonneg s1] at hin
  generalize L.getD c.side.toNat default=x at hin hz ⊢
  refine xK 1 ?_
  refine xC rfl Tryz.func22 rfl (hin.QK [] rfl rfl rfl ⟨ah rfl,trivial⟩ trivial) ?_
  refine wD <| ak <| ?_
  refine av.ent (aN.unpack (c:=32) (l:=kR x) rfl) <| av.ent (S':=Wj L c h fin m x) ?_ ?_
  ·unfold Wj
   ((try dsimp only);exact xE [0,1,2,3,4,5,6,7,14,36,39,40,41,42] hC)
  unfold Wj
  have hf:=Rv x c h fin ho
  have hq:=SL x.par m c.sigs (by have:=hz.keys;omega) hs
  obtain ⟨fx,hfx⟩:∃ fx,mM x c h fin=fx:=⟨_,rfl⟩
  obtain ⟨qb,hqb⟩:∃ qb,oJ x.par m c.sigs=qb:=⟨_,rfl⟩
  rw [hfx] at hf ⊢
  rw [hqb] at hq ⊢
  refine xI ?_
  (refine xB ?_)
  refine xC rfl Tryz.func121 rfl (hf.at [10,11,12,13,1,2] ⟨bL (x:=x) (aF (lo:=0) rfl rfl rfl (Nat.le_of_eq (Nat.zero_add _)) (fun i _=>by rw [Nat.zero_add])) (aF (lo:=0) rfl rfl rfl (Nat.le_of_eq (Nat.zero_add _)) (fun i _=>by rw [Nat.zero_add])) (aF (lo:=0) rfl rfl rfl (Nat.le_of_eq (Nat.zero_add _)) (fun i _=>by rw [Nat.zero_add])) (aF (lo:=0) rfl rfl rfl (Nat.le_of_eq (Nat.zero_add _)) (fun i _=>by rw [Nat.zero_add])),bS (c:=c) (aj rfl rfl) (aj rfl rfl),ah rfl,ah rfl,trivial⟩ trivial) ?_
  refine wC (fun h1 => ?_) (fun h1 => ?_)
  ·have h1':fx≠0:=by simpa using h1
   rw [if_neg h1']
   (refine xG ?_)
   exact wD (Ends.bZ (.inr rfl) (aN.refl _) rfl rfl rfl)
  have h1':fx=0:=by simpa using h1
  rw [if_pos h1']
  (refine xG ?_)
  refine xC rfl Tryz.func122 rfl (hq.at [10,2,5] ⟨gG (p:=x.par) (aF (lo:=0) rfl rfl rfl (Nat.le_of_eq (Nat.zero_add _)) (fun i _=>by rw [Nat.zero_add])),ah rfl,aj rfl rfl,trivial⟩ ⟨bD (c:=5) rfl rfl,trivial⟩) ?_
  refine wC (fun h2 => ?_) (fun h2 => ?_)
  ·have h2':qb=false:=by simpa using h2
   rw [h2',if_neg (by simp)]
   (refine xG ?_)
   exact wD (Ends.bZ (.inr rfl) (aN.refl _) rfl rfl rfl)
  have h2':qb=true:=by simpa using h2
  rw [h2',if_pos rfl]
  (refine xG ?_)
  exact wD (Ends.bZ (.inr rfl) (aN.refl _) rfl rfl rfl)
set_option maxRecDepth 100000
open Go.Sx
def nY (x:au) (c:aT):au:={ x with pend:=true,cert:=c }
def takeC (L:List au) (c:aT) (h:Int) (fin:H8):List au×Int :=
 if jH L c h fin=0 then (L.set c.side.toNat (nY (L.getD c.side.toNat default) c),0) else (L,jH L c h fin)
theorem rX {L:List au} {c:aT} {h:Int} {fin:H8} (h0:jH L c h fin=0):bM c=true∧¬ (L.length:Int)≤c.side∧mM (L.getD c.side.toNat default) c h fin=0∧oJ (L.getD c.side.toNat default).par (dJ c) c.sigs=true:=by
 unfold jH at h0
 by_cases h1:bM c=false
 ·rw [if_pos h1] at h0;exact absurd h0 (by decide)
 rw [if_neg h1] at h0
 by_cases h2:(L.length:Int)≤c.side
 ·rw [if_pos h2] at h0;exact absurd h0 (by decide)
 rw [if_neg h2] at h0
 by_cases h3:mM (L.getD c.side.toNat default) c h fin=0
 ·rw [if_pos h3] at h0
  by_cases h4:oJ (L.getD c.side.toNat default).par (dJ c) c.sigs=true
  ·exact ⟨by simpa using h1,h2,h3,h4⟩
  ·rw [if_neg h4] at h0;exact absurd h0 (by decide)
 ·rw [if_neg h3] at h0;exact absurd h0 h3
def TS (L:List au) (c:aT) (x:au):St :=
 ⟨[some (XV.sv (.ptr 0 0 0 0)),none,none,none,none,some (XV.sv (.ptr 6 0 0 0)),none,none,none,none,some (XV.sv (.ptr 7 0 0 0))]++List.replicate 24 none,
  [(0,.abs (fI L)),(1,.ro 9 c.outs.length (bE c.outs)),(2,.ro 282 c.sigs.length (bY c.sigs)),(5,.ext bJ),(6,.cells 43 (bR c (.slc 1 9 0 c.outs.length) (.slc 2 282 0 c.sigs.length))),(7,.cells 68 (ng x 8 9 10 11)),(8,.vec 29 8 x.par.keys.length (dA x.par.keys)),(9,.vec 59 9 x.cert.outs.length (bE x.cert.outs)),(10,.vec 192 282 x.cert.sigs.length (bY x.cert.sigs)),(11,.vec 3 1 x.used.length (dO x.used))],12⟩
set_option maxHeartbeats 8000000 in
theorem EO (L:List au) (c:aT) (h:Int) (fin:H8) (hL:∀ i,i<L.length→(L.getD i default).gN) (hl:L.length≤1000) (ho:c.outs.length≤1000000) (hs:c.sigs.length≤1000000):fH Tryz.prog 31 (.abs (fI L)) (.abs (fI (takeC L c h fin).1)) [.box c.ac,.plain (.one (.raw (.int .i64 h))),.plain fin.x] [bJ] (XV.int .i64 (takeC L c h fin).2):=by
 refine fH.of Tryz.aA Tryz.func31 rfl _ _ _ _ _ rfl rfl rfl (fun C hC => ?_)
 (replace hC:C.n0=6:=hC;change av _ _ _ ⟨_,_,6⟩ _)
 have hchk:=KO L c h fin hL hl ho hs
 obtain ⟨e,he⟩:∃ e,jH L c h fin=e:=⟨_,rfl⟩
 have ht:takeC L c h fin=if e=0 then (L.set c.side.toNat (nY (L.getD c.side.toNat default) c),0) else (L,e):=by rw [takeC,he]
 rw [ht]
 rw [he] at hchk
 refine xK 3 ?_
 refine xC rfl Tryz.func68 rfl (hchk.at [1,2,5] rfl rfl rfl ⟨bS (c:=c) (aj rfl rfl) (aj rfl rfl),ah rfl,ah rfl,trivial⟩ ⟨bD (c:=5) rfl rfl,trivial⟩) ?_
 refine wC (fun h1 => ?_) (fun h1 => ?_)
 ·have h1':e≠0:=by simpa using h1
  rw [if_neg h1']
  (refine xG ?_)
  exact wD <| aV <| Ends.bZ (.inr rfl) (aN.refl _) rfl rfl rfl
 have h1':e=0:=by simpa using h1
 subst h1'
 rw [if_pos rfl]
 obtain ⟨hb,h8,-,-⟩:=rX he
 obtain ⟨-,⟨⟨s1,s2⟩,-,-⟩,-,-⟩:=jo hb
 have hi:c.side.toNat<L.length:=by omega
 have hz:=hL _ hi
 have hin:=qR L c.side.toNat hi hz
 have hset:=wK L c.side.toNat hi (nY (L.getD c.side.toNat default) c)
 rw [Int.toNat_of_nonneg s1] at hin hset
 generalize L.getD c.side.toNat default=x at hin hz hset ⊢
 replace hset:=hset ⟨hz.keys,ho,hs,hz.used⟩
 (refine xG ?_)
 refine xC rfl Tryz.func22 rfl (hin.QK [] rfl rfl rfl ⟨ah rfl,trivial⟩ trivial) ?_
 refine wD <| ak <| av.ent (aN.unpack (c:=20) (l:=kR x) rfl) <| av.ent (S':=TS L c x) ?_ ?_
 ·unfold TS
  ((try dsimp only);exact xE [0,1,2,3,4,5,6,24,27,28,29,30] hC)
 unfold TS
 refine xI ?_
 (refine xB ?_)
 refine xC rfl Tryz.func49 rfl (hset.at [8,1,2,11] rfl rfl rfl ⟨ah rfl,bL (x:=nY x c) (aF (lo:=0) rfl rfl rfl (Nat.le_of_eq (Nat.zero_add _)) (fun i _=>by rw [Nat.zero_add];rfl)) (aj rfl rfl) (aj rfl rfl) (aF (lo:=0) rfl rfl rfl (Nat.le_of_eq (Nat.zero_add _)) (fun i _=>by rw [Nat.zero_add];rfl)),trivial⟩ trivial) ?_
 exact wD (Ends.bZ (.inr rfl) (aN.refl _) rfl rfl rfl)
set_option maxRecDepth 100000
open Go.Sx
def iw (s e:Int) (fin:H8):H8:=Ea 119 [bA s 1,bA e 4,fin.l]
theorem TB (p:UInt8) (a b c:List UInt8) (h:a.length + b.length + c.length≤900000000):Short (jI p [a,b,c]):=by
 show (lY p [a,b,c] 3).length≤_
 rw [dR,dR,dR]
 show [p].length + 4 + a.length + 4 + b.length + 4 + c.length≤_
 simp;omega
theorem YQ (n:Int):bA n 1=[dn (IntKind.u8.wrap n)]:=by
 show [dn (IntKind.u8.wrap (iN .i64 n ((8 * 0:Nat):Int)))]=_
 rw [show ((8 * 0:Nat):Int)=0 from rfl,Xh]
theorem YR (n:Int):bA n 4=[dn (IntKind.u8.wrap n),dn (IntKind.u8.wrap (iN .i64 n 8)),dn (IntKind.u8.wrap (iN .i64 n 16)),dn (IntKind.u8.wrap (iN .i64 n 24))]:=by
 show [dn (IntKind.u8.wrap (iN .i64 n ((8 * 0:Nat):Int))),dn (IntKind.u8.wrap (iN .i64 n ((8 * 1:Nat):Int))),dn (IntKind.u8.wrap (iN .i64 n ((8 * 2:Nat):Int))),dn (IntKind.u8.wrap (iN .i64 n ((8 * 3:Nat):Int)))]=_
 rw [show ((8 * 0:Nat):Int)=0 from rfl,Xh]
 rfl
set_option maxHeartbeats 2000000 in
theorem LZ (s e:Int) (fin:H8):Reads Tryz.prog 124 [.plain (.one (.raw (.int .i64 s))),.plain (.one (.raw (.int .i64 e))),.plain fin.x] [bJ] (mO (iw s e fin)):=by
 rw [iw,YQ,YR]
 refine Reads.of Tryz.aA Tryz.func124 rfl _ _ _ rfl (mR _ _) (fun C hC => ?_)
 (replace hC:C.n0=4:=hC;change av _ _ _ ⟨_,_,4⟩ _)
 refine xI ?_
 (refine xB ?_)
 (refine wP _ _ (dQ Tryz.aA rfl rfl rfl) ?_;refine xZ ?_)
 refine xC rfl Tryz.func146 rfl ((zO 119 [[dn (IntKind.u8.wrap s)],[dn (IntKind.u8.wrap e),dn (IntKind.u8.wrap (iN .i64 e 8)),dn (IntKind.u8.wrap (iN .i64 e 16)),dn (IntKind.u8.wrap (iN .i64 e 24))],fin.l] (TB _ _ _ _ (by simp [H8.jg]))).at [22,8,20,4,3] ⟨ah rfl,eD [[dn (IntKind.u8.wrap s)],[dn (IntKind.u8.wrap e),dn (IntKind.u8.wrap (iN .i64 e 8)),dn (IntKind.u8.wrap (iN .i64 e 16)),dn (IntKind.u8.wrap (iN .i64 e 24))],fin.l] rfl rfl rfl ⟨jN (lo:=0) rfl rfl (Nat.le_refl _) (Y3 (dI _).symm),jN (lo:=0) rfl rfl (Nat.le_refl _) (Yk (dI _).symm (dI _).symm (dI _).symm (dI _).symm),eX rfl rfl (fun _ _=>rfl) rfl,trivial⟩,trivial⟩ ⟨bD (c:=3) rfl rfl,trivial⟩) ?_
 exact wD (Ends.plain (.inr rfl) rfl rfl)
set_option maxRecDepth 100000
open Go.Sx
def jR (c:aT):Int:=(kD 0 (bV c.outs c.outs.length)).getD 0
def o9 (x:au):au:={ x with bal:=wr (x.bal - jR x.cert),mat:=wr (x.mat + jR x.cert),root:=x.cert.root,pend:=false,cert:=pR }
def ji (S:aB) (x:au) (i:Int) (h:Int64):aB×Int:=dX (iw i x.cert.ep x.cert.fin) h false S 0 x.cert.outs
def o8 (S:aB) (x:au) (i:Int) (h:Int64) (a b:Nat):XV :=
 if (ji S x i h).2=0 then .tup [.agg (gq (o9 x) (.slc a 8 0 x.par.keys.length) lG lG (.slc b 1 0 x.used.length)),.one (.raw (.int .i64 0))]
 else .tup [.agg (gq FZ lG lG lG lG),.one (.raw (.int .i64 (ji S x i h).2))]
def JK (S:aB) (x:au):List Chunk:=[.abs (dU S),.vec 29 8 x.par.keys.length (dA x.par.keys),.vec 59 9 x.cert.outs.length (bE x.cert.outs),.vec 192 282 x.cert.sigs.length (bY x.cert.sigs),.vec 3 1 x.used.length (dO x.used)]
theorem Pk (S:aB) (x:au) (i:Int) (h:Int64):(o8 S x i h 1 4).ok (fun i=>Nat.blt i 6)=true:=by
 unfold o8
 by_cases h0:(ji S x i h).2=0
 ·rw [if_pos h0];rfl
 ·rw [if_neg h0];rfl
theorem L9 (S:aB) (x:au) (i:Int) (h:Int64) (ρ:Nat→Nat):(o8 S x i h 1 4).ren ρ=o8 S x i h (ρ 1) (ρ 4):=by
 unfold o8
 by_cases h0:(ji S x i h).2=0
 ·rw [if_pos h0,if_pos h0];rfl
 ·rw [if_neg h0,if_neg h0];rfl
set_option maxHeartbeats 8000000 in
theorem JL (S:aB) (x:au) (i:Int) (h:Int64) (hx:x.cert.outs.length≤1000) (hS:S.steps.length<900000) {M:Mem} {u k o s us e d:Nat}
  (hids:(Nat.beq u k || Nat.beq u o || Nat.beq u s || Nat.beq u us || Nat.beq k o || Nat.beq k s || Nat.beq k us || Nat.beq o s || Nat.beq o us || Nat.beq s us)=false)
  (hd:(Nat.beq d u || Nat.beq d k || Nat.beq d o || Nat.beq d s || Nat.beq d us || Nat.beq d e)=false)
  (hg:Gets M [u,k,o,s,us] (JK S x)) (hg':Gets M [e] [.ext bJ]) :
  aC Tryz.prog 71 [.agg (ng x k o s us),.one (.raw (.int .i64 i)),.one (.ptr u 0 0 0),.one (.raw (.int .i64 h.toInt))] M d { v:=o8 S x i h k us,upd:=H9 [u,k,o,s,us] (JK (ji S x i h).1 x),wr:=[u,k,o,s,us] } [u,k,o,s,us,e]:=by
 simp only [Bool.or_eq_false_iff,aL,decide_eq_false_iff_not] at hids hd
 obtain ⟨⟨⟨⟨⟨⟨⟨⟨⟨d1,d2⟩,d3⟩,d4⟩,d5⟩,d6⟩,d7⟩,d8⟩,d9⟩,d10⟩:=hids
 obtain ⟨⟨⟨⟨⟨f1,f2⟩,f3⟩,f4⟩,f5⟩,f6⟩:=hd
 refine wR (Xl:=[.agg (ng x 1 2 3 4),.one (.raw (.int .i64 i)),.one (.ptr 0 0 0 0),.one (.raw (.int .i64 h.toInt))]) (X:=o8 S x i h 1 4) (chs:=JK S x) (chs':=JK (ji S x i h).1 x) (es:=[.ext bJ]) (ids:=[u,k,o,s,us]) (rids:=[e]) (k1:=5) (n0:=6) (M0:=[(0,.abs (dU S)),(1,.vec 29 8 x.par.keys.length (dA x.par.keys)),(2,.vec 59 9 x.cert.outs.length (bE x.cert.outs)),(3,.vec 192 282 x.cert.sigs.length (bY x.cert.sigs)),(4,.vec 3 1 x.used.length (dO x.used)),(5,.ext bJ)]) Tryz.aA Tryz.func71 rfl rfl rfl rfl (by simp [*]) (by simp [*]) rfl (Pk S x i h) rfl rfl rfl hg hg' (fun C hC => ?_) rfl (L9 S x i h (fun i=>([u,k,o,s,us]++[e])[i]?.getD d)).symm rfl rfl
 have hout:=Sl S (iw i x.cert.ep x.cert.fin) x.cert.outs h false hx hS
 have hpid:=LZ i x.cert.ep x.cert.fin
 have hsum:=IK x.cert (by omega)
 have hpo:o8 S x i h 1 4=if (dX (iw i x.cert.ep x.cert.fin) h false S 0 x.cert.outs).2=0 then .tup [.agg (gq (o9 x) (.slc 1 8 0 x.par.keys.length) lG lG (.slc 4 1 0 x.used.length)),.one (.raw (.int .i64 0))] else .tup [.agg (gq FZ lG lG lG lG),.one (.raw (.int .i64 (dX (iw i x.cert.ep x.cert.fin) h false S 0 x.cert.outs).2))]:=rfl
 rw [hpo,ji]
 clear hpo
 unfold JK ng
 obtain ⟨⟨S',er⟩,ho⟩:∃ p,dX (iw i x.cert.ep x.cert.fin) h false S 0 x.cert.outs=p:=⟨_,rfl⟩
 rw [ho] at hout ⊢
 dsimp only at hout ⊢
 unfold Ab at hsum
 have hcs:jR x.cert=(kD 0 (bV x.cert.outs x.cert.outs.length)).getD 0:=rfl
 have hpx:o9 x={ x with bal:=wr (x.bal - jR x.cert),mat:=wr (x.mat + jR x.cert),root:=x.cert.root,pend:=false,cert:=pR }:=rfl
 rw [← hcs] at hsum
 obtain ⟨n,hn⟩:∃ n,jR x.cert=n:=⟨_,rfl⟩
 rw [hn] at hsum hpx
 rw [hpx]
 refine xK 4 ?_
 refine xC rfl Tryz.func124 rfl (hpid.at [5] ⟨ah rfl,ah rfl,ah rfl,trivial⟩ ⟨bD (c:=5) rfl rfl,trivial⟩) ?_
 refine xC rfl Tryz.func52 rfl (hout.at [2] rfl rfl rfl ⟨ah rfl,aF (lo:=0) rfl rfl rfl (Nat.le_of_eq (Nat.zero_add _)) (fun i _=>by rw [Nat.zero_add]),ah rfl,ah rfl,trivial⟩ trivial) ?_
 refine wC (fun h1 => ?_) (fun h1 => ?_)
 ·have h1':er≠0:=by simpa using h1
  rw [if_neg h1']
  (refine xG ?_)
  exact wD <| aV <| Ends.owned (.inr rfl) (aN.refl _) rfl rfl ⟨rfl,rfl,rfl,rfl,rfl,trivial⟩
 ·have h1':er=0:=by simpa using h1
  rw [if_pos h1']
  (refine xG ?_)
  refine xC rfl Tryz.func125 rfl (hsum.at [2,3] ⟨bS (c:=x.cert) (aF (lo:=0) rfl rfl rfl (Nat.le_of_eq (Nat.zero_add _)) (fun i _=>by rw [Nat.zero_add])) (aF (lo:=0) rfl rfl rfl (Nat.le_of_eq (Nat.zero_add _)) (fun i _=>by rw [Nat.zero_add])),trivial⟩ trivial) ?_
  refine wD <| ak <| xI ?_
  (refine xB ?_)
  exact wD (Ends.owned (.inr rfl) (aN.refl _) rfl rfl ⟨rfl,rfl,rfl,rfl,rfl,trivial⟩)
set_option maxRecDepth 100000
open Go.Sx
def iE (x:au) (h:Int):au:={ x with ceased:=true,hgt:=h }
def gT (h:Int64) (i:Nat) (L:List au) (S:aB) (x:au):(List au×aB)×Int :=
 if (kW x h.toInt).2=false then ((L,S),0)
 else if (x.pend && (x.cert.ep == (kW x h.toInt).1))=true then
  (if (ji S x i h).2=0 then ((L.set i (o9 x),(ji S x i h).1),0) else ((L,(ji S x i h).1),(ji S x i h).2))
 else ((L.set i (iE x h.toInt),S),0)
def iY (h:Int64) (L:List au) (S:aB):Nat→(List au×aB)×Int
 | 0=>((L,S),0)
 | i + 1=>if (iY h L S i).2=0 then gT h i (iY h L S i).1.1 (iY h L S i).1.2 ((iY h L S i).1.1.getD i default) else iY h L S i
def uT (h:Int64) (L:List au) (S:aB):(List au×aB)×Int:=iY h L S L.length
theorem yL (id:H8) (h:Int64) (base:Bool):∀ (l:List dG) (S:aB) (i:Nat),(dX id h base S i l).1.steps.length≤S.steps.length + l.length
 | [],S,i=>Nat.le_refl _
 | o::l,S,i=>by
  rw [dX]
  by_cases h1:S.has (dz id i)=true
  ·rw [if_pos h1];exact Nat.le_add_right _ _
  ·rw [if_neg h1]
   by_cases h2:S.okB (dz id i) ⟨o.to,o.amt,h,base⟩=true
   ·rw [if_pos h2]
    have h3:=yL id h base l (S.add1 (dz id i) ⟨o.to,o.amt,h,base⟩) (i + 1)
    have h4:(S.add1 (dz id i) ⟨o.to,o.amt,h,base⟩).steps.length=S.steps.length + 1:=by simp [aB.add1]
    simp only [List.length_cons];omega
   ·rw [if_neg h2];exact Nat.le_add_right _ _
theorem K8 (h:Int64) (i:Nat) (L:List au) (S:aB) (x:au):(gT h i L S x).1.1.length=L.length:=by
 unfold gT
 split
 ·rfl
 ·split
  ·split
   ·exact List.length_set ..
   ·rfl
  ·exact List.length_set ..
theorem OB (h:Int64) {i j:Nat} (hj:j≠i) (L:List au) (S:aB) (x:au):(gT h i L S x).1.1.getD j default=L.getD j default:=by
 have hs:∀ y,(L.set i y).getD j default=L.getD j default:=fun y=>by rw [List.getD_eq_getElem?_getD,List.getD_eq_getElem?_getD,List.getElem?_set_ne (fun e=>hj e.symm)]
 unfold gT
 split
 ·rfl
 ·split
  ·split
   ·exact hs _
   ·rfl
  ·exact hs _
theorem Gz (h:Int64) (i:Nat) (L:List au) (S:aB) {x:au} (hx:x.cert.outs.length≤1000):(gT h i L S x).1.2.steps.length≤S.steps.length + 1000:=by
 have h1:=yL (iw i x.cert.ep x.cert.fin) h false x.cert.outs S 0
 have hp:ji S x i h=dX (iw i x.cert.ep x.cert.fin) h false S 0 x.cert.outs:=rfl
 unfold gT
 rw [hp]
 split
 ·dsimp only;omega
 ·split
  ·split
   ·dsimp only;omega
   ·dsimp only;omega
  ·dsimp only;omega
theorem r9 (h:Int64) (L:List au) (S:aB):∀ i,(iY h L S i).1.1.length=L.length
 | 0=>rfl
 | i + 1=>by
  rw [iY]
  split
  ·rw [K8,r9 h L S i]
  ·exact r9 h L S i
theorem xL (h:Int64) (L:List au) (S:aB):∀ i j,i≤j→(iY h L S i).1.1.getD j default=L.getD j default
 | 0,_,_=>rfl
 | i + 1,j,hj=>by
  rw [iY]
  split
  ·rw [OB h (by omega),xL h L S i j (by omega)]
  ·exact xL h L S i j (by omega)
theorem vR (h:Int64) (L:List au) (S:aB) (hL:∀ i,i<L.length→(L.getD i default).cert.outs.length≤1000):∀ i,i≤L.length→(iY h L S i).1.2.steps.length≤S.steps.length + 1000 * i
 | 0,_=>Nat.le_refl _
 | i + 1,hi=>by
  have h1:=vR h L S hL i (by omega)
  rw [iY]
  split
  ·have h2:=Gz h i (iY h L S i).1.1 (iY h L S i).1.2 (x:=(iY h L S i).1.1.getD i default) (by rw [xL h L S i i (Nat.le_refl _)];exact hL i (by omega))
   omega
  ·omega
theorem BP (h:Int64) (L:List au) (S:aB) {i:Nat} (h0:(iY h L S i).2≠0):∀ k,iY h L S (i + k)=iY h L S i
 | 0=>rfl
 | k + 1=>by
  rw [← Nat.add_assoc,iY,BP h L S h0 k,if_neg h0]
def Rn (n:Nat) (h:Int64) (L:List au) (S:aB) (i:Nat):St :=
 ⟨[some (XV.sv (.ptr 0 0 0 0)),some (XV.sv (.ptr 1 0 0 0)),some (XV.int .i64 h.toInt)]++List.replicate 17 none++[some (XV.int .i64 n),some (XV.int .i64 i)]++List.replicate 46 none,
  [(0,.abs (fI L)),(1,.abs (dU S)),(3,.ext bJ)],4⟩
def Lb (n:Nat) (h:Int64) (L:List au) (S:aB) (i:Nat) (x:au):St :=
 ⟨[some (XV.sv (.ptr 0 0 0 0)),some (XV.sv (.ptr 1 0 0 0)),some (XV.int .i64 h.toInt),none,none,none,none,some (XV.int .i64 i),some (XV.sv (.ptr 4 0 0 0))]++List.replicate 11 none++[some (XV.int .i64 n),some (XV.int .i64 i)]++List.replicate 46 none,
  [(0,.abs (fI L)),(1,.abs (dU S)),(3,.ext bJ),(4,.cells 68 (ng x 5 6 7 8)),(5,.vec 29 8 x.par.keys.length (dA x.par.keys)),(6,.vec 59 9 x.cert.outs.length (bE x.cert.outs)),(7,.vec 192 282 x.cert.sigs.length (bY x.cert.sigs)),(8,.vec 3 1 x.used.length (dO x.used))],9⟩
section
variable (S:aB) (x:au) (i:Int) (h:Int64) (hx:x.cert.outs.length≤1000) (hS:S.steps.length<900000) {M:Mem} {u k o s us e d:Nat}
  (hids:(Nat.beq u k || Nat.beq u o || Nat.beq u s || Nat.beq u us || Nat.beq k o || Nat.beq k s || Nat.beq k us || Nat.beq o s || Nat.beq o us || Nat.beq s us)=false)
  (hd:(Nat.beq d u || Nat.beq d k || Nat.beq d o || Nat.beq d s || Nat.beq d us || Nat.beq d e)=false)
  (hg:Gets M [u,k,o,s,us] (JK S x)) (hg':Gets M [e] [.ext bJ])
include hx hS hids hd hg hg'
theorem WM (h0:(ji S x i h).2=0) {S':aB} (hS':(ji S x i h).1=S') :
  aC Tryz.prog 71 [.agg (ng x k o s us),.one (.raw (.int .i64 i)),.one (.ptr u 0 0 0),.one (.raw (.int .i64 h.toInt))] M d { v := .tup [.agg (gq (o9 x) (.slc k 8 0 x.par.keys.length) lG lG (.slc us 1 0 x.used.length)),.one (.raw (.int .i64 0))],upd:=H9 [u,k,o,s,us] (JK S' x),wr:=[u,k,o,s,us] } [u,k,o,s,us,e]:=by
 have hp:=JL S x i h hx hS hids hd hg hg'
 rw [o8,if_pos h0,hS'] at hp
 exact hp
theorem Vi {S':aB} {er:Int} (hE:ji S x i h=(S',er)) (h0:er≠0) :
  aC Tryz.prog 71 [.agg (ng x k o s us),.one (.raw (.int .i64 i)),.one (.ptr u 0 0 0),.one (.raw (.int .i64 h.toInt))] M d { v := .tup [.agg (gq FZ lG lG lG lG),.one (.raw (.int .i64 er))],upd:=H9 [u,k,o,s,us] (JK S' x),wr:=[u,k,o,s,us] } [u,k,o,s,us,e]:=by
 have hp:=JL S x i h hx hS hids hd hg hg'
 rw [o8,hE,if_neg h0] at hp
 exact hp
end
structure YE (h:Int64) (L:List au) (S:aB) where
 i:Nat
 Li:List au
 Si:aB
 le:i≤L.length
 go:iY h L S i=((Li,Si),0)
set_option maxHeartbeats 8000000 in
theorem Ng (L:List au) (S:aB) (h:Int64) (hL:∀ i,i<L.length→(L.getD i default).gN) (hc:∀ i,i<L.length→(L.getD i default).cert.outs.length≤1000) (hl:L.length≤100) (hS:S.steps.length<700000) :
  Does Tryz.prog 34 [(.abs (fI L),.abs (fI (uT h L S).1.1)),(.abs (dU S),.abs (dU (uT h L S).1.2))] [.plain (.one (.raw (.int .i64 h.toInt)))] [bJ] (XV.int .i64 (uT h L S).2) none:=by
 refine Does.of Tryz.aA Tryz.func34 rfl _ _ _ _ _ rfl rfl rfl 0 (fun C hC => ?_)
 (replace hC:C.n0=4:=hC;change av _ _ _ ⟨_,_,4⟩ _)
 refine xK 2 ?_
 refine wD <| ak <| av.seq ?_
 refine xK 1 ?_
 refine xC rfl Tryz.func35 rfl ((wJ L).at [] rfl rfl rfl trivial trivial) ?_
 refine wD <| ak <| av.block ?_
 refine av.loop (α:=YE h L S) (fun p=>Rn L.length h p.Li p.Si p.i) (fun p=>L.length - p.i) ⟨0,L,S,Nat.zero_le _,rfl⟩ ?_ ?_
 ·unfold Rn
  ((try dsimp only);exact xE [0,1,2,3] hC)
 rintro ⟨i,Li,Si,hi,he⟩
 dsimp only
 unfold Rn
 have hlen:=r9 h L S i
 have hget:=xL h L S i i (Nat.le_refl _)
 have hst:=vR h L S hc i hi
 have hnext:iY h L S (i + 1)=gT h i (iY h L S i).1.1 (iY h L S i).1.2 ((iY h L S i).1.1.getD i default):=by rw [iY,if_pos (by rw [he])]
 have hfin:(iY h L S (i + 1)).2≠0→i<L.length→uT h L S=iY h L S (i + 1):=fun h1 h2=>by
  rw [uT,show L.length=i + 1 + (L.length - (i + 1)) by omega,BP h L S h1]
 rw [hget] at hnext
 rw [he] at hlen hst hnext hget
 dsimp only at hlen hst hnext hget
 obtain ⟨n,hn⟩:∃ n,L.length=n:=⟨_,rfl⟩
 rw [hn] at hlen ⊢
 refine xK 2 ?_
 refine wC (fun h1 => ?_) (fun h1 => ?_)
 ·(refine xG ?_)
  have h1':i<n:=xW
  have hw:IntKind.i64.wrap ((i:Int) + 1)=((i + 1:Nat):Int):=xW
  have hz:=hL i (by omega)
  have hzc:=hc i (by omega)
  have hin:=qR Li i (by omega) (by rw [hget];exact hz)
  rw [hget] at hin
  obtain ⟨x,hx⟩:∃ x,L.getD i default=x:=⟨_,rfl⟩
  rw [hx] at hz hzc hin hnext
  have hdue:=Nb x h.toInt
  have hone:gT h i Li Si x=if (kW x h.toInt).2=false then ((Li,Si),0) else if (x.pend && (x.cert.ep == (kW x h.toInt).1))=true then (if (ji Si x i h).2=0 then ((Li.set i (o9 x),(ji Si x i h).1),0) else ((Li,(ji Si x i h).1),(ji Si x i h).2)) else ((Li.set i (iE x h.toInt),Si),0):=rfl
  rw [hone] at hnext
  clear hone
  obtain ⟨⟨dv,db⟩,hd⟩:∃ p,kW x h.toInt=p:=⟨_,rfl⟩
  rw [hd] at hdue hnext
  dsimp only at hdue hnext
  refine wD <| ak <| av.seq <| av.block ?_
  refine xK 2 ?_
  refine xC rfl Tryz.func22 rfl (hin.QK [] rfl rfl rfl ⟨ah rfl,trivial⟩ trivial) ?_
  refine wD <| ak <| av.ent (aN.unpack (c:=9) (l:=kR x) rfl) <| av.ent (S':=Lb n h Li Si i x) ?_ ?_
  ·unfold Lb
   ((try dsimp only);exact xE [0,1,2,3,13,16,17,18,19] hC)
  unfold Lb
  have hset1:=wK Li i (by omega) (o9 x) ⟨hz.keys,Nat.zero_le _,Nat.zero_le _,hz.used⟩
  have hset2:=wK Li i (by omega) (iE x h.toInt) ⟨hz.keys,hz.outs,hz.sigs,hz.used⟩
  refine xI ?_
  (refine xB ?_)
  refine xC rfl Tryz.func27 rfl (hdue.at [5,6,7,8] ⟨bL (x:=x) (aF (lo:=0) rfl rfl rfl (Nat.le_of_eq (Nat.zero_add _)) (fun i _=>by rw [Nat.zero_add])) (aF (lo:=0) rfl rfl rfl (Nat.le_of_eq (Nat.zero_add _)) (fun i _=>by rw [Nat.zero_add])) (aF (lo:=0) rfl rfl rfl (Nat.le_of_eq (Nat.zero_add _)) (fun i _=>by rw [Nat.zero_add])) (aF (lo:=0) rfl rfl rfl (Nat.le_of_eq (Nat.zero_add _)) (fun i _=>by rw [Nat.zero_add])),ah rfl,trivial⟩ trivial) ?_
  refine wC (fun h2 => ?_) (fun h2 => ?_)
  ·have hdb:db=false:=by simpa using h2
   rw [if_pos hdb] at hnext
   (refine xG ?_)
   refine wD <| aI <| ak <| xI ?_
   (refine xB ?_)
   refine wD <| aP ⟨⟨i + 1,Li,Si,by omega,hnext⟩,by dsimp only;omega,?_⟩
   rw [hw]
   ((try dsimp only);exact xE [0,1,2,3] hC)
  have hdb:db=true:=by simpa using h2
  rw [if_neg (by rw [hdb];simp)] at hnext
  (refine xG ?_)
  refine wC (fun h3 => ?_) (fun h3 => ?_)
  ·(refine xG ?_)
   refine wC (fun h4 => ?_) (fun h4 => ?_)
   ·rw [if_pos (by rw [h3,Bool.true_and];exact h4)] at hnext
    obtain ⟨⟨S',er⟩,hpg⟩:∃ p,ji Si x i h=p:=⟨_,rfl⟩
    rw [hpg] at hnext
    dsimp only at hnext
    (refine xG ?_)
    by_cases h5:er=0
    ·subst h5
     rw [if_pos rfl] at hnext
     refine xC rfl Tryz.func71 rfl (WM Si x i h hzc (by omega) (u:=1) (k:=5) (o:=6) (s:=7) (us:=8) (e:=3) rfl rfl ⟨rfl,rfl,rfl,rfl,rfl,trivial⟩ ⟨rfl,trivial⟩ (by rw [hpg]) (S':=S') (by rw [hpg])) ?_
     refine xC rfl Tryz.func49 rfl (hset1.at [5,8] rfl rfl rfl ⟨ah rfl,bL (x:=o9 x) (aF (lo:=0) rfl rfl rfl (Nat.le_of_eq (Nat.zero_add _)) (fun i _=>by rw [Nat.zero_add];rfl)) (aY _ _) (aY _ _) (aF (lo:=0) rfl rfl rfl (Nat.le_of_eq (Nat.zero_add _)) (fun i _=>by rw [Nat.zero_add];rfl)),trivial⟩ trivial) ?_
     refine wD <| aJ <| ak <| xI ?_
     (refine xB ?_)
     refine wD <| aP ⟨⟨i + 1,Li.set i (o9 x),S',by omega,hnext⟩,by dsimp only;omega,?_⟩
     rw [hw]
     ((try dsimp only);exact xE [0,1,2,3] hC)
    ·rw [if_neg h5] at hnext
     refine xC rfl Tryz.func71 rfl (Vi Si x i h hzc (by omega) (u:=1) (k:=5) (o:=6) (s:=7) (us:=8) (e:=3) rfl rfl ⟨rfl,rfl,rfl,rfl,rfl,trivial⟩ ⟨rfl,trivial⟩ hpg h5) ?_
     have hE:uT h L S=((Li,S'),er):=by rw [hfin (by rw [hnext];exact h5) (by omega),hnext]
     rw [hE]
     refine zm (by simpa using h5) ?_
     (refine xG ?_)
     exact wD <| aQ <| aV <| fq <| aQ <| aV <| Ends.wQ (.inr rfl) (aN.refl _) rfl rfl rfl rfl
   ·rw [if_neg (by rw [h3,Bool.true_and];intro h6;rw [show (x.cert.ep == dv)=false from h4] at h6;cases h6)] at hnext
    (refine xG ?_)
    refine xC rfl Tryz.func49 rfl (hset2.at [5,6,7,8] rfl rfl rfl ⟨ah rfl,bL (x:=iE x h.toInt) (aF (lo:=0) rfl rfl rfl (Nat.le_of_eq (Nat.zero_add _)) (fun i _=>by rw [Nat.zero_add];rfl)) (aF (lo:=0) rfl rfl rfl (Nat.le_of_eq (Nat.zero_add _)) (fun i _=>by rw [Nat.zero_add];rfl)) (aF (lo:=0) rfl rfl rfl (Nat.le_of_eq (Nat.zero_add _)) (fun i _=>by rw [Nat.zero_add];rfl)) (aF (lo:=0) rfl rfl rfl (Nat.le_of_eq (Nat.zero_add _)) (fun i _=>by rw [Nat.zero_add];rfl)),trivial⟩ trivial) ?_
    refine wD <| aJ <| ak <| xI ?_
    (refine xB ?_)
    refine wD <| aP ⟨⟨i + 1,Li.set i (iE x h.toInt),Si,by omega,hnext⟩,by dsimp only;omega,?_⟩
    rw [hw]
    ((try dsimp only);exact xE [0,1,2,3] hC)
  ·rw [if_neg (by rw [h3,Bool.false_and];simp)] at hnext
   (refine xG ?_)
   refine xC rfl Tryz.func49 rfl (hset2.at [5,6,7,8] rfl rfl rfl ⟨ah rfl,bL (x:=iE x h.toInt) (aF (lo:=0) rfl rfl rfl (Nat.le_of_eq (Nat.zero_add _)) (fun i _=>by rw [Nat.zero_add];rfl)) (aF (lo:=0) rfl rfl rfl (Nat.le_of_eq (Nat.zero_add _)) (fun i _=>by rw [Nat.zero_add];rfl)) (aF (lo:=0) rfl rfl rfl (Nat.le_of_eq (Nat.zero_add _)) (fun i _=>by rw [Nat.zero_add];rfl)) (aF (lo:=0) rfl rfl rfl (Nat.le_of_eq (Nat.zero_add _)) (fun i _=>by rw [Nat.zero_add];rfl)),trivial⟩ trivial) ?_
   refine wD <| aJ <| ak <| xI ?_
   (refine xB ?_)
   refine wD <| aP ⟨⟨i + 1,Li.set i (iE x h.toInt),Si,by omega,hnext⟩,by dsimp only;omega,?_⟩
   rw [hw]
   ((try dsimp only);exact xE [0,1,2,3] hC)
 ·(refine xG ?_)
  have h1':i=n:=xW
  subst h1'
  have hE:uT h L S=((Li,Si),0):=by rw [uT,hn,he]
  rw [hE]
  refine wD <| bW <| aS <| aI <| ak <| xI ?_
  (refine xB ?_)
  exact wD (Ends.wQ (.inr rfl) (aN.refl _) rfl rfl rfl rfl)
end Go.Proofs.YtnpkdoggfnlapaaGreatDoor
