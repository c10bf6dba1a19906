/- Parts Bs Bt Zb Bu Ka Kb Kc Kd By Ke Zn Kf Kg Bm Ma. -/
import Derived.Test.YtnpkdoggfnlapaaGreatDoorG24
import Derived.Test.YtnpkdoggfnlapaaGreatDoorG22
import Derived.Test.YtnpkdoggfnlapaaGreatDoorG20
import Derived.Test.YtnpkdoggfnlapaaGreatDoorG15
import Derived.Test.YtnpkdoggfnlapaaGreatDoorG12
import Derived.LaidMore
import Derived.LaidHandle
import Derived.MakeChecks
import Derived.Stop.Joined
set_option linter.unusedSimpArgs false
set_option linter.unusedVariables false
namespace Go.Proofs.YtnpkdoggfnlapaaGreatDoor
set_option maxRecDepth 100000
open Go.Sx
theorem Wy {k:Nat} (h:k<3):mp.keys.getD k default=vE (pY (k:Int)):=by
 show (tF 3).getD k default=_
 rw [tF,List.getD_eq_getElem?_getD,List.getElem?_map,List.getElem?_range h]
 rfl
theorem Td {m:H8} {who:List Int} {i k:Nat} (hk:who.getD i 0=(k:Int)) (h:k<3):jZ mp m (Dv m who i)=true:=by
 have e1:(Dv m who i).key=(k:Int):=hk
 have e2:(Dv m who i).sig=Km (pY (k:Int)) (i % 8) m:=by rw [← hk];rfl
 have h3:mp.keys.length=3:=mF
 rw [jZ,e1,e2,Int.toNat_natCast,Wy h,El _ _ (Nat.mod_lt _ (by decide)),h3,decide_eq_true (Int.natCast_nonneg k),decide_eq_true (show (k:Int)<((3:Nat):Int) by omega)]
 rfl
theorem SN {m:H8} {who:List Int} {a b:Nat} (h0:who.getD 0 0=(a:Int)) (h1:who.getD 1 0=(b:Int)) (hab:a<b) (hb:b<3):oJ mp m (rA m who 2)=true:=by
 have e:rA m who 2=[Dv m who 0,Dv m who 1]:=rfl
 have k0:(Dv m who 0).key=(a:Int):=h0
 have k1:(Dv m who 1).key=(b:Int):=h1
 have hn:mp.need=2:=rfl
 rw [oJ,RY,e,hn,rF,rF,rF,k0,k1,Td h0 (by omega),Td h1 hb,decide_eq_false (show ¬ (a:Int) ≤ -1 by omega),decide_eq_false (show ¬ (b:Int)≤(a:Int) by omega)]
 rfl
theorem Gp (p:aZ):dJ (bQ p)=dJ (jG p):=by
 have h:cK (bQ p)=cK (jG p):=rfl
 unfold dJ
 rw [h]
structure KG (p:aZ) (a b:Nat):Prop where
 bend:p.bend=0
 who:p.who.length=2
 ha:(p.who.getD 0 0).toNat=a
 hb:(p.who.getD 1 0).toNat=b
 lt:a<b
 up:b<3
 side:0≤p.side∧p.side≤7
 ep:0≤p.ep∧p.ep≤400
 qual:0≤p.qual∧p.qual≤2147483647
 few:p.am.length≤16
 am:∀ i,i<p.am.length→1≤(p.am.getD i 0).toInt∧(p.am.getD i 0).toInt≤1125899906842624
theorem CS {p:aZ} {n:Nat} {o:dG} (h:o∈kM p n):∃ i,i<n∧o=Fg p i:=by
 rw [kM,List.mem_map] at h
 obtain ⟨i,hi,rfl⟩:=h
 exact ⟨i,List.mem_range.1 hi,rfl⟩
section
variable {p:aZ} {a b:Nat} (hp:KG p a b)
include hp
theorem Sz:IY p=mE:=by rw [IY,hp.bend,if_neg (by decide)]
theorem SA:CF p=dJ (bQ p):=by rw [CF,BF,hp.bend,if_neg (by decide),Gp]
theorem uF:(qj p 2).getD 0 0=(a:Int)∧(qj p 2).getD 1 0=(b:Int):=by
 have e0:(qj p 2).getD 0 0=vF p 0:=rfl
 have e1:(qj p 2).getD 1 0=vF p 1:=rfl
 rw [e0,e1,vF,vF,hp.bend,if_neg (by decide),if_neg (by decide),hp.ha,hp.hb]
 exact ⟨rfl,rfl⟩
theorem FB:(bQ p).sigs=rA (dJ (bQ p)) (qj p 2) 2:=by
 rw [← SA hp,← hp.who];rfl
theorem Pp:oJ mp (dJ (bQ p)) (bQ p).sigs=true:=by
 rw [FB hp]
 generalize dJ (bQ p)=m
 exact SN (uF hp).1 (uF hp).2 hp.lt hp.up
theorem JM:∀ o∈(bQ p).outs,1≤o.amt.toInt:=fun o ho=>by
 obtain ⟨i,hi,rfl⟩:=CS ho
 exact (hp.am i hi).1
theorem Vj:bM (bQ p)=true:=by
 refine dW.2 ⟨?_,⟨hp.side,hp.ep,hp.qual⟩,?_,?_⟩
 ·rw [FB hp]
  have k0:=(uF hp).1
  have k1:=(uF hp).2
  generalize dJ (bQ p)=m
  have e:rA m (qj p 2) 2=[Dv m (qj p 2) 0,Dv m (qj p 2) 1]:=rfl
  have h1:=hp.lt
  have h2:=hp.up
  rw [e,List.all_cons,List.all_cons,List.all_nil,ko.2 ⟨?_,?_⟩,ko.2 ⟨?_,?_⟩]
  ·rfl
  ·show 0≤(qj p 2).getD 1 0∧(qj p 2).getD 1 0≤4
   rw [k1];omega
  ·show 0≤((1 % 8:Nat):Int)∧((1 % 8:Nat):Int)≤255
   decide
  ·show 0≤(qj p 2).getD 0 0∧(qj p 2).getD 0 0≤4
   rw [k0];omega
  ·show 0≤((0 % 8:Nat):Int)∧((0 % 8:Nat):Int)≤255
   decide
 ·show eZ (kM p p.am.length)=true
  rw [eZ,Bool.and_eq_true,decide_eq_true_eq,lH]
  refine ⟨List.all_eq_true.2 fun o ho => ?_,hp.few⟩
  obtain ⟨i,hi,rfl⟩:=CS ho
  have h1:=hp.am i hi
  have hz:ku (Fg p i).to=false:=by
   rw [ku,decide_eq_false_iff_not]
   intro h
   have:=congrArg H8.b0 h
   cases this
  rw [pX,hz,nN,aO]
  show (true && (decide (1≤(p.am.getD i 0).toInt) && decide ((p.am.getD i 0).toInt≤1125899906842624)))=true
  rw [decide_eq_true h1.1,decide_eq_true h1.2];rfl
 ·have e:(bQ p).sigs.length=2:=by rw [show (bQ p).sigs.length=p.who.length from zV _ _ _,hp.who]
  rw [e];decide
end
structure Goes (x:au):Prop where
 par:x.par=mp
 made:x.made=3
 ceased:x.ceased=false
theorem DT {x:au} (h1:x.par=mp) (h2:x.made=3):eH x=true:=by
 rw [iL,h1,h2];decide
theorem GR {x:au} (h1:x.par=mp):x.par.len=4∧x.par.win=2:=by rw [h1];exact ⟨rfl,rfl⟩
theorem Nh {x:au} (h1:x.par=mp) (h2:x.made=3) {e:Int} (he:0≤e∧e≤400):jL x e=3 + (e + 1) * 4:=by
 have hw:aO e 0 400=true:=by rw [aO,decide_eq_true he.1,decide_eq_true he.2];rfl
 rw [jL,DT h1 h2,hw,if_neg (by decide),(GR h1).1,h2]
 have e1:wr (e + 1)=e + 1:=bK (by omega)
 have e2:wr ((e + 1) * 4)=(e + 1) * 4:=bK (by omega)
 rw [e1,e2]
 exact bK (by omega)
theorem Vb {x:au} (h1:x.par=mp) (h2:x.made=3) {e h:Int} (he:0≤e∧e≤400):qZ x e h=(decide (3 + (e + 1) * 4<h) && decide (h≤3 + (e + 1) * 4 + 2)):=by
 have hw:aO e 0 400=true:=by rw [aO,decide_eq_true he.1,decide_eq_true he.2];rfl
 rw [qZ,DT h1 h2,hw,Nh h1 h2 he,(GR h1).2,Bool.true_and,Bool.true_and,show wr (3 + (e + 1) * 4 + 2)=3 + (e + 1) * 4 + 2 from bK (by omega)]
theorem OH {x:au} {c:aT} {h:Int} {fin:H8} (h1:x.ceased=false) (h2:qZ x c.ep h=true) (h3:c.fin=fin) (h4:x.pend=false∨x.cert.qual<c.qual) (h5:kD 0 (bV c.outs c.outs.length)=some (kY c.outs)) (h6:kY c.outs≤x.bal):mM x c h fin=0:=by
 have e4:(x.pend && decide (c.qual≤x.cert.qual))=false:=by
  rcases h4 with h4 |h4
  ·rw [h4,Bool.false_and]
  ·rw [decide_eq_false (by omega),Bool.and_false]
 rw [mM,h1,h2,h3,e4,h5,if_neg (by simp),if_neg (by simp),if_neg (by simp),if_neg]
 simp only [Option.isSome_some,Bool.not_true,Bool.false_or,Option.getD_some,decide_eq_true_eq]
 omega
theorem Qg {L:List au} {p:aZ} {a b:Nat} {h:Int} {x:au} (hp:KG p a b) (hi:p.side.toNat<L.length) (hx:L.getD p.side.toNat default=x) (hg:Goes x) (ho:3 + (p.ep + 1) * 4<h∧h≤3 + (p.ep + 1) * 4 + 2) (hq:x.pend=false∨x.cert.qual<p.qual) (hs:kY (bQ p).outs≤x.bal) (hm:kY (bQ p).outs≤1125899906842624) :
  takeC L (bQ p) h mE=(L.set p.side.toNat (nY x (bQ p)),0):=by
 have hside:(bQ p).side=p.side:=rfl
 have hep:(bQ p).ep=p.ep:=rfl
 have hfin:(bQ p).fin=mE:=Sz hp
 have hc:jH L (bQ p) h mE=0:=by
  have hf:mM x (bQ p) h mE=0:=OH hg.ceased (by rw [hep,Vb hg.par hg.made hp.ep,decide_eq_true ho.1,decide_eq_true ho.2];rfl) hfin hq (IB (JM hp) hm) hs
  have hqu:=Pp hp
  rw [← hg.par] at hqu
  have h1:=hp.side
  rw [jH,Vj hp,if_neg (by simp),hside,if_neg (by omega),hx,if_pos hf,if_pos hqu]
 rw [takeC,if_pos hc,hside,hx]
def vQ (h:Nat):Bool:=decide (9≤h) && decide ((h - 9) % 4=0)
theorem K7 {x:au} (hg:Goes x) {h:Nat} (hh:h≤1000):(kW x (h:Int)).2=vQ h∧(vQ h=true→(kW x (h:Int)).1=(((h - 9) / 4:Nat):Int)):=by
 have hw:wr ((h:Int) - x.par.win)=(h:Int) - 2:=by rw [(GR hg.par).2];exact bK (by omega)
 rw [kW,hg.ceased,if_neg (by simp),hw]
 by_cases h5:h≤5
 ·have he:gU x ((h:Int) - 2)=(0,false):=by
   rw [gU,hg.made,if_pos]
   rw [Bool.or_eq_true,decide_eq_true_eq];exact .inr (by omega)
  have hd:vQ h=false:=by rw [vQ,decide_eq_false (by omega),Bool.false_and]
  rw [he,if_pos (by simp),hd]
  exact ⟨rfl,fun h=>by cases h⟩
 ·have e0:((((h:Int) - 6)).tdiv 4)=(((h - 6) / 4:Nat):Int):=by
   rw [show ((h:Int) - 6)=((h - 6:Nat):Int) by omega];rfl
  have he:gU x ((h:Int) - 2)=((((h - 6) / 4:Nat):Int),true):=by
   rw [gU,hg.made,DT hg.par hg.made,if_neg (by rw [Bool.not_true,Bool.false_or,decide_eq_true_eq];omega),(GR hg.par).1]
   rw [show wr ((h:Int) - 2 - 3)=(h:Int) - 5 by rw [show (h:Int) - 2 - 3=(h:Int) - 5 by omega];exact bK (by omega),show wr ((h:Int) - 5 - 1)=(h:Int) - 6 by rw [show (h:Int) - 5 - 1=(h:Int) - 6 by omega];exact bK (by omega),e0]
   congr 1
   exact bK (by omega)
  rw [he]
  dsimp only
  rw [Nh hg.par hg.made (by omega),decide_eq_false (show ¬ (400:Int)<(((h - 6) / 4:Nat):Int) by omega),Bool.not_true,Bool.false_or,Bool.false_or]
  by_cases hd:9≤h∧(h - 9) % 4=0
  ·have e1:vQ h=true:=by rw [vQ,decide_eq_true hd.1,decide_eq_true hd.2];rfl
   rw [if_neg (by rw [bne_iff_ne,ne_eq,Decidable.not_not];omega),e1]
   exact ⟨rfl,fun _=>by show (((h - 6) / 4:Nat):Int)=_;omega⟩
  ·have e1:vQ h=false:=by
    rw [vQ,Bool.and_eq_false_iff,decide_eq_false_iff_not,decide_eq_false_iff_not]
    by_cases h9:9≤h
    ·exact .inr fun h10=>hd ⟨h9,h10⟩
    ·exact .inl h9
   rw [if_pos (by rw [bne_iff_ne];omega),e1]
   exact ⟨rfl,fun h=>by cases h⟩
theorem K6 {x:au} (h:x.ceased=true) (n:Int):kW x n=(0,false):=by rw [kW,if_pos h]
set_option maxRecDepth 100000
open Go.Sx
theorem Gy {h:Int64} {i:Nat} {L:List au} {S:aB} {x:au} (hd:(kW x h.toInt).2=true) (hp:x.pend=false∨x.cert.ep≠(kW x h.toInt).1):gT h i L S x=((L.set i (iE x h.toInt),S),0):=by
 rw [gT,if_neg (by rw [hd];simp),if_neg]
 rw [Bool.and_eq_true,beq_iff_eq]
 rintro ⟨h1,h2⟩
 rcases hp with hp |hp
 ·rw [hp] at h1;cases h1
 ·exact hp h2
theorem K9 {h:Int64} {i:Nat} {L:List au} {S S':aB} {x:au} (hd:(kW x h.toInt).2=true) (hp:x.pend=true) (he:x.cert.ep=(kW x h.toInt).1) (hg:ji S x i h=(S',0)):gT h i L S x=((L.set i (o9 x),S'),0):=by
 rw [gT,if_neg (by rw [hd];simp),if_pos (by rw [Bool.and_eq_true,beq_iff_eq];exact ⟨hp,he⟩),hg,if_pos rfl]
structure KD (x:au):Prop where
 am:∀ o∈x.cert.outs,1≤o.amt.toInt
 few:x.cert.outs.length≤16
 sum:kY x.cert.outs≤x.bal
theorem Pm {x:au} {S:aB} {i:Int} {h:Int64} (hx:KD x) (h1:0≤S.total) (h2:S.total + kY x.cert.outs≤1125899906842624) (hf:∀ k,k<x.cert.outs.length→dS S.coins (dz (iw i x.cert.ep x.cert.fin) (0 + k))=none) :
  ∃ S',ji S x i h=(S',0)∧VD (iw i x.cert.ep x.cert.fin) h 0 x.cert.outs S S' :=
 Fj _ h x.cert.outs S 0 hx.am h1 h2 (by have:=hx.few;omega) hf
theorem Sv {x:au} (hx:KD x) (hb:x.bal≤1125899906842624) (hm:0≤x.mat∧x.mat≤1125899906842624):o9 x={ x with bal:=x.bal - kY x.cert.outs,mat:=x.mat + kY x.cert.outs,root:=x.cert.root,pend:=false,cert:=pR }:=by
 have h1:=tY hx.am
 have h2:=hx.sum
 have hs:jR x.cert=kY x.cert.outs:=by rw [jR,IB hx.am (by omega)];rfl
 rw [o9,hs,show wr (x.bal - kY x.cert.outs)=x.bal - kY x.cert.outs from bK (by omega),show wr (x.mat + kY x.cert.outs)=x.mat + kY x.cert.outs from bK (by omega)]
theorem toInt_ofNat {n:Nat} (h:n<1000000):(Int64.ofNat n).toInt=(n:Int):=(oF h).symm
theorem ER {h:Int64} {L Li:List au} {S Si:aB} {i:Nat} (h0:iY h L S i=((Li,Si),0)):iY h L S (i + 1)=gT h i Li Si (Li.getD i default):=by rw [iY,h0,if_pos rfl]
def p0:aZ:=⟨0,0,3,[4],[0,2],0⟩
theorem VO:KG p0 0 2:=⟨rfl,rfl,rfl,rfl,by decide,by decide,by decide,by decide,by decide,by decide,fun i hi=>by
 obtain rfl:i=0:=by have:i<1:=hi;omega
 decide⟩
theorem wG:kY (bQ p0).outs=4:=by
 show kY [Fg p0 0]=4
 decide
theorem Cc {m:Int} (h1:1≤m) (h2:m≤1000000000):Goes (dL m)∧(dL m).bal=m∧(dL m).mat=0∧(dL m).fwd=m∧(dL m).pend=false∧(dL m).cert=pR∧(dL m).used=[]:=by
 rw [TD h1 h2]
 exact ⟨⟨rfl,rfl,rfl⟩,rfl,rfl,rfl,rfl,rfl,rfl⟩
theorem Io:∃ (x1 x2:au) (S:aB),takeC (gD [9,9] 2) (bQ p0) 8 mE=([nY (dL 9) (bQ p0),dL 9],0)∧uT (Int64.ofNat 9) [nY (dL 9) (bQ p0),dL 9] aB.empty=(([x1,x2],S),0)∧x1.mat=4∧x1.bal=5∧x1.ceased=false∧x2.ceased=true∧x2.hgt=9∧S.total=4∧S.steps.length≤1∧x1.gN∧x2.gN:=by
 have hL:gD [9,9] 2=[dL 9,dL 9]:=rfl
 obtain ⟨g1,g2,g3,g4,g5,g6,g7⟩:=Cc (m:=9) (by decide) (by decide)
 have hmpl:mp.keys.length≤1000000:=by rw [mF];decide
 have ht:takeC (gD [9,9] 2) (bQ p0) 8 mE=((gD [9,9] 2).set 0 (nY (dL 9) (bQ p0)),0) :=
  Qg (x:=dL 9) VO (by rw [hL];decide) rfl g1 (by decide) (.inl g5) (by rw [wG,g2];decide) (by rw [wG];decide)
 have hc0:(bQ p0).outs.length=1:=rfl
 obtain ⟨y,hy⟩:∃ y,nY (dL 9) (bQ p0)=y:=⟨_,rfl⟩
 have y1:Goes y:=by rw [← hy];exact ⟨g1.par,g1.made,g1.ceased⟩
 have y2:y.pend=true:=by rw [← hy];rfl
 have y3:y.cert=bQ p0:=by rw [← hy];rfl
 have y4:y.bal=9:=by rw [← hy];exact g2
 have y5:y.mat=0:=by rw [← hy];exact g3
 have y6:y.used=[]:=by rw [← hy];exact g7
 have h9:(Int64.ofNat 9).toInt=((9:Nat):Int):=toInt_ofNat (by decide)
 have d1:=K7 y1 (h:=9) (by decide)
 have d2:=K7 g1 (h:=9) (by decide)
 have hcp:KD y:=⟨by rw [y3];exact JM VO,by rw [y3,hc0];decide,by rw [y3,wG,y4];decide⟩
 obtain ⟨S,hg,hS⟩:=Pm (i:=((0:Nat):Int)) (h:=Int64.ofNat 9) (S:=aB.empty) hcp (Int.le_refl 0) (by rw [y3,wG];decide) (fun _ _=>rfl)
 have hv:=Sv hcp (by rw [y4];decide) (by rw [y5];decide)
 have e1:gT (Int64.ofNat 9) 0 [y,dL 9] aB.empty y=(([o9 y,dL 9],S),0) :=
  K9 (by rw [h9];exact d1.1) y2 (by rw [h9,d1.2 rfl,y3];rfl) hg
 have e2:gT (Int64.ofNat 9) 1 [o9 y,dL 9] S (dL 9)=(([o9 y,iE (dL 9) (Int64.ofNat 9).toInt],S),0) :=
  Gy (by rw [h9];exact d2.1) (.inl g5)
 refine ⟨o9 y,iE (dL 9) (Int64.ofNat 9).toInt,S,?_,?_,?_,?_,?_,rfl,h9,?_,?_,?_,?_⟩
 ·rw [ht,hL,hy];rfl
 ·rw [hy]
  have n1:iY (Int64.ofNat 9) [y,dL 9] aB.empty 1=(([o9 y,dL 9],S),0):=(ER rfl).trans e1
  exact (ER n1).trans e2
 ·rw [hv];show y.mat + _=4;rw [y5,y3,wG];rfl
 ·rw [hv];show y.bal - _=5;rw [y4,y3,wG];rfl
 ·rw [hv];exact y1.ceased
 ·rw [hS.total,y3,wG];rfl
 ·rw [hS.steps,y3,hc0];exact Nat.le_refl _
 ·rw [hv]
  exact ⟨by show y.par.keys.length≤_;rw [y1.par];exact hmpl,Nat.zero_le _,Nat.zero_le _,by show y.used.length≤_;rw [y6];exact Nat.zero_le _⟩
 ·exact ⟨by show (dL 9).par.keys.length≤_;rw [g1.par];exact hmpl,by show (dL 9).cert.outs.length≤_;rw [g6];exact Nat.zero_le _,by show (dL 9).cert.sigs.length≤_;rw [g6];exact Nat.zero_le _,by show (dL 9).used.length≤_;rw [g7];exact Nat.zero_le _⟩
set_option maxRecDepth 100000
open Go.Sx
set_option maxRecDepth 100000
open Go.Sx
theorem Av {M:Mem} {rd:List Nat} {p:aZ} {k s:SV} (h1:bC M rd (.one k) (.row 1 p.am.length (dO p.XI))) (h2:bC M rd (.one s) (.row 1 p.who.length (bI p.who))):bC M rd (.agg [.raw (.int .i64 p.side),.raw (.int .i64 p.ep),.raw (.int .i64 p.qual),k,s,.raw (u8 p.bend)]) (.box p.ac) :=
 sF ⟨rfl,rfl,rfl,h1,h2,rfl,trivial⟩
def QM (L:List au):St :=
 ⟨[none,some (XV.sv (.ptr 1 0 0 0)),none,some (XV.sv (.ptr 2 0 0 0))]++List.replicate 79 none,[(0,.ext bJ),(1,.abs (fI L)),(2,.abs (dU aB.empty))],3⟩
def QN (L:List au):St :=
 ⟨[none,some (XV.sv (.ptr 1 0 0 0)),none,some (XV.sv (.ptr 2 0 0 0)),some (XV.int .i64 0)]++List.replicate 78 none,[(0,.ext bJ),(1,.abs (fI L)),(2,.abs (dU aB.empty))],3⟩
def QO (L:List au) (S:aB):St :=
 ⟨[none,some (XV.sv (.ptr 1 0 0 0)),none,some (XV.sv (.ptr 2 0 0 0)),some (XV.int .i64 0),some (XV.int .i64 0)]++List.replicate 77 none,[(0,.ext bJ),(1,.abs (fI L)),(2,.abs (dU S))],3⟩
theorem Wx:∀ i,i<2→dO [9,9] i=rD [.int .i64 9,.int .i64 9] 1 (0 + i):=fun i hi=>by
 rw [Nat.zero_add]
 match i,hi with
 | 0,_=>rfl
 | 1,_=>rfl
set_option maxHeartbeats 8000000 in
theorem Uy:Reads Tryz.prog 26 [] [bJ] (XV.bool true):=by
 obtain ⟨x1,x2,S',t1,t2,m1,m2,m3,m4,m5,m6,m7,z1,z2⟩:=Io
 have g1:=Cc (m:=9) (by decide) (by decide)
 have hmk:=Cu p0 (by decide) (by decide)
 have hsz:∀ i,i<(gD [9,9] 2).length→((gD [9,9] 2).getD i default).gN:=fun i hi=>by
  have hs:(dL 9).gN:=⟨by rw [g1.1.par,mF];decide,by rw [g1.2.2.2.2.2.1];decide,by rw [g1.2.2.2.2.2.1];decide,by rw [g1.2.2.2.2.2.2];decide⟩
  match i,hi with
  | 0,_=>exact hs
  | 1,_=>exact hs
 have ktake:=EO (gD [9,9] 2) (bQ p0) 8 mE hsz (by decide) (by decide) (by decide)
 rw [t1] at ktake
 refine Reads.of Tryz.aA Tryz.func26 rfl _ _ _ rfl rfl (fun C hC => ?_)
 (replace hC:C.n0=1:=hC;change av _ _ _ ⟨_,_,1⟩ _)
 refine xK 3 ?_
 refine xC rfl Tryz.func29 rfl ((BS [9,9] (by decide)).at [2] ⟨aF (lo:=0) rfl rfl rfl (Nat.le_refl _) Wx,trivial⟩ trivial) ?_
 refine xC rfl Tryz.func19 rfl (Jv) ?_
 refine wD <| ak <| av.ent (aN.unpack (c:=3) (l:=qC (gD [9,9] 2)) rfl) <| av.ent (S':=QM (gD [9,9] 2)) ?_ ?_
 ·unfold QM
  ((try dsimp only);exact xE [0,11,9] hC)
 unfold QM
 have hlen:(gD [9,9] 2).length=2:=lC _ _
 generalize gD [9,9] 2=L0 at ktake hlen ⊢
 refine xK 2 ?_
 refine xC rfl Tryz.func32 rfl (hmk.at [10,11] ⟨Av (p:=p0) (aF (lo:=0) rfl rfl rfl (Nat.le_refl _) (fun i hi=>by obtain rfl:=Nat.lt_one_iff.1 hi;rfl)) (aF (lo:=0) rfl rfl rfl (Nat.le_refl _) (fun i hi=>by match i,hi with |0,_=>rfl |1,_=>rfl)),trivial⟩ trivial) ?_
 refine xC rfl Tryz.func33 rfl (uo.at [] trivial trivial) ?_
 refine xC rfl Tryz.func31 rfl (ktake.at [13,0] rfl rfl rfl ⟨bS (c:=bQ p0) (Jh (j:=0) rfl rfl rfl rfl (Nat.le_refl _) (fun _ _=>rfl)) (Jh (j:=1) rfl rfl rfl rfl (Nat.le_refl _) (fun _ _=>rfl)),ah rfl,ah rfl,trivial⟩ ⟨bD (c:=0) rfl rfl,trivial⟩) ?_
 dsimp only
 obtain ⟨y,hy⟩:∃ y,nY (dL 9) (bQ p0)=y:=⟨_,rfl⟩
 have zy:y.gN:=by
  rw [← hy]
  exact ⟨by show (dL 9).par.keys.length≤_;rw [g1.1.par,mF];decide,by show 1≤1000000;decide,by show 2≤1000000;decide,by show (dL 9).used.length≤_;rw [g1.2.2.2.2.2.2];decide⟩
 have oy:y.cert.outs.length≤1000:=by rw [← hy];show 1≤1000;decide
 have zs:(dL 9).gN∧(dL 9).cert.outs.length≤1000:=⟨⟨by rw [g1.1.par,mF];decide,by rw [g1.2.2.2.2.2.1];decide,by rw [g1.2.2.2.2.2.1];decide,by rw [g1.2.2.2.2.2.2];decide⟩,by rw [g1.2.2.2.2.2.1];decide⟩
 rw [hy] at t2 ⊢
 have kend:=Ng [y,dL 9] aB.empty (Int64.ofNat 9) (fun i hi=>by match i,hi with |0,_=>exact zy |1,_=>exact zs.1) (fun i hi=>by match i,hi with |0,_=>exact oy |1,_=>exact zs.2) (show 2≤100 by decide) (by decide)
 rw [t2] at kend
 have k0:=qR [x1,x2] 0 (show 0<2 by decide) z1
 have k1:=qR [x1,x2] 1 (show 1<2 by decide) z2
 rw [show [x1,x2].getD 0 default=x1 from rfl] at k0
 rw [show [x1,x2].getD 1 default=x2 from rfl] at k1
 generalize dL 9=x0 at kend ⊢
 refine wD <| ak <| av.ent (S':=QN [y,x0]) ?_ ?_
 ·unfold QN
  ((try dsimp only);exact xE [0,1,2] hC)
 unfold QN
 refine xK 1 ?_
 refine xC rfl Tryz.func34 rfl (kend.at2 [0] rfl rfl rfl rfl ⟨ah rfl,trivial⟩ ⟨bD (c:=0) rfl rfl,trivial⟩) ?_
 refine wD <| ak <| av.ent (S':=QO [x1,x2] S') ?_ ?_
 ·unfold QO
  ((try dsimp only);exact xE [0,1,2] hC)
 unfold QO
 refine xI ?_
 (refine xB ?_)
 refine xC rfl Tryz.func22 rfl (k0.QK [] rfl rfl rfl ⟨ah rfl,trivial⟩ trivial) ?_
 refine xC rfl Tryz.func22 rfl (k1.QK [] rfl rfl rfl ⟨ah rfl,trivial⟩ trivial) ?_
 refine zm (by rw [m1];rfl) ?_
 (refine xG ?_)
 refine zm (by rw [m2];rfl) ?_
 (refine xG ?_)
 refine zm (by rw [m3];rfl) ?_
 (refine xG ?_)
 refine zm m4 ?_
 (refine xG ?_)
 refine zm (by rw [m5];rfl) ?_
 (refine xG ?_)
 refine xC rfl Tryz.func23 rfl (DU S' (c0:=2) rfl rfl) ?_
 exact wD (Ends.plain (.inr rfl) rfl (by rw [m6];rfl))
set_option maxRecDepth 100000
open Go.Sx
def dG.v (c:dG):Value := .agg c.cells.toArray
theorem dG.inj (a b:dG) (h:a.v=b.v):a=b:=by
 have h:a.cells=b.cells:=by
  have:=congrArg (fun v=>v.cells.toList) h
  simpa [dG.v,Value.cells] using this
 obtain ⟨⟨_,_,_,_,_,_,_,_⟩,_⟩:=a
 obtain ⟨⟨_,_,_,_,_,_,_,_⟩,_⟩:=b
 simp only [dG.cells,H8.cells,List.cons_append,List.nil_append,List.cons.injEq] at h
 obtain ⟨h0,h1,h2,h3,h4,h5,h6,h7,h8,_⟩:=h
 rw [dN h0,dN h1,dN h2,dN h3,dN h4,dN h5,dN h6,dN h7,Bt h8]
def CQ:List Kd:=gV++[.int .i64]
theorem Sj (h:dG):Fits CQ h.cells :=
 ⟨_,_,rfl,mY _,_,_,rfl,mY _,_,_,rfl,mY _,_,_,rfl,mY _,_,_,rfl,mY _,_,_,rfl,mY _,_,_,rfl,mY _,_,_,rfl,mY _,_,_,rfl,Ws _,rfl⟩
theorem Vg:(59:TypeId)<Tryz.prog.types.size:=of_decide_eq_true (by kernel_rfl)
theorem CR:Tryz.prog.keyTypeAt 8 59=true:=by kernel_rfl
theorem Sk:Tryz.prog.keyType 59=true:=by kernel_rfl
theorem Vf:WideMaps.KeyLaw Tryz.prog 59:=deep_law_laid laid (m:=8) (by omega) Vg CR (by rw [Tryz.underlying59])
theorem Ph:CQ.length=Tryz.prog.cellsOf 59:=by kernel_rfl
theorem Ve (h:dG):∃ l,keyOf Tryz.prog 59 h.v=some l:=nJ Tryz.aA (f:=8) (ks:=CQ) rfl CR Sk nW (by rw [Tryz.underlying59]) (Sj h) Ph
theorem JE:Tryz.prog.eqGuardType Tryz.prog.depth 59=false:=by kernel_rfl
theorem YS:Ie Tryz.prog 59 dG.v:=Ie.of (m:=8) Vf (by omega) CR (by rw [Tryz.underlying59]) Ve dG.inj JE (fun a=>⟨_,rfl⟩)
set_option maxHeartbeats 2000000 in
theorem PX (s e:Int) (fin:H8):Reads Tryz.prog 36 [.plain (.one (.raw (.int .i64 s))),.plain (.one (.raw (.int .i64 e))),.plain fin.x] [] (mO (iw s e fin)):=by
 rw [iw]
 refine Reads.of Tryz.aA Tryz.func36 rfl _ _ _ rfl (mR _ _) (fun C hC => ?_)
 (replace hC:C.n0=3:=hC;change av _ _ _ ⟨_,_,3⟩ _)
 refine xI ?_
 (refine xB ?_)
 refine xC rfl Tryz.func72 rfl ((jT s 1 (by decide)).at [] ⟨ah rfl,ah rfl,trivial⟩ trivial) ?_
 refine xC rfl Tryz.func72 rfl ((jT e 4 (by decide)).at [] ⟨ah rfl,ah rfl,trivial⟩ trivial) ?_
 (refine wP _ _ (dQ Tryz.aA rfl rfl rfl) ?_;refine xZ ?_)
 refine xC rfl Tryz.func45 rfl ((jd 119 [bA s 1,bA e 4,fin.l] (TB _ _ _ _ (by simp only [aK,H8.jg];omega))).at [10,6,8,3] ⟨ah rfl,eD [bA s 1,bA e 4,fin.l] rfl rfl rfl ⟨uz rfl rfl,uz rfl rfl,eX rfl rfl (fun _ _=>rfl) rfl,trivial⟩,trivial⟩ trivial) ?_
 exact wD (Ends.plain (.inr rfl) rfl rfl)
set_option maxRecDepth 100000
open Go.Sx
theorem vW {x:au} (h1:x.par=mp) (h2:x.cert.outs.length≤1000) (h3:x.cert.sigs.length≤1000) (h4:x.used=[]):x.gN :=
 ⟨by rw [h1,mF];decide,by omega,by omega,by rw [h4];exact Nat.zero_le _⟩
set_option maxRecDepth 100000
open Go.Sx
set_option maxRecDepth 100000
open Go.Sx
def po (e:Nat):aZ:=⟨0,(e:Int),1,[Int64.ofNat (10 + e)],[0,1],0⟩
def Nw:Nat→Int
 | 0=>0
 | n + 1=>Nw n + 10 + (n:Int)
def jO (h:Nat):Nat:=(h - 6) / 4
def waits (stop b h:Nat):Bool:=decide (b=0∧9≤h∧(h - 9) % 4=0∧(h - 9) / 4<stop)
structure Once (stop b h:Nat) (x:au) (S:aB):Prop where
 par:x.par=mp
 made:x.made=3
 used:x.used=[]
 mat:x.mat=Nw (min (jO h) stop)
 bal:x.bal=900 - Nw (min (jO h) stop)
 tot:S.total=Nw (min (jO h) stop)
 steps:S.steps.length≤jO h
 goes:jO h≤stop→x.ceased=false
 gone:stop<jO h→x.ceased=true∧x.hgt=((9 + 4 * stop:Nat):Int)
 pend:x.pend=waits stop b h
 cert:waits stop b h=true→x.cert=bQ (po ((h - 9) / 4))
 few:x.cert.outs.length≤1∧x.cert.sigs.length≤2
 fresh:∀ e,e<8→min (jO h) stop≤e→dS S.coins (dz (iw 0 (e:Int) mE) 0)=none
theorem Once.sized {stop b h:Nat} {x:au} {S:aB} (h:Once stop b h x S):x.gN :=
 vW h.par (by have:=h.few;omega) (by have:=h.few;omega) h.used
set_option maxRecDepth 100000
open Go.Sx
set_option maxRecDepth 100000
open Go.Sx
structure VA (x:au):Prop where
 par:x.par=mp
 made:x.made=3
 used:x.used=[]
 bal0:0≤x.bal
 mat0:0≤x.mat
 fwd:x.fwd=x.bal + x.mat
 cap:x.fwd≤1099511627776
 outs:x.cert.outs.length≤16
 sigs:x.cert.sigs.length≤5
 wait:x.pend=true→x.ceased=false→(∀ o∈x.cert.outs,1≤o.amt.toInt)∧kY x.cert.outs≤x.bal∧x.cert.fin=mE
theorem VA.sized {x:au} (h:VA x):x.gN:=vW h.par (by have:=h.outs;omega) (by have:=h.sigs;omega) h.used
theorem Tw {L:List au} {i j:Nat} {y:au} (hi:i<L.length):(L.set i y).getD j default=if j=i then y else L.getD j default:=by
 rw [List.getD_eq_getElem?_getD,List.getD_eq_getElem?_getD]
 by_cases h:j=i
 ·subst h
  rw [if_pos rfl,List.getElem?_set_self hi];rfl
 ·rw [if_neg h,List.getElem?_set_ne (fun e=>h e.symm)]
theorem Om {c:aT} (h:bM c=true):(∀ o∈c.outs,1≤o.amt.toInt)∧c.outs.length≤16∧c.sigs.length≤5:=by
 obtain ⟨-,-,h3,h4⟩:=dW.1 h
 have h5:=CW h3
 refine ⟨fun o ho => ?_,h5,by omega⟩
 rw [eZ,Bool.and_eq_true] at h3
 have h6:=List.all_eq_true.1 h3.1 o ho
 rw [pX,Bool.and_eq_true,nN,within_iff] at h6
 exact h6.2.1
theorem Sm {h:Nat} (hd:vQ h=true):jO h=(h - 9) / 4∧jO (h + 1)=jO h + 1∧9≤h∧(h - 9) % 4=0:=by
 rw [vQ,Bool.and_eq_true,decide_eq_true_eq,decide_eq_true_eq] at hd
 rw [jO,jO];omega
set_option maxRecDepth 100000
open Go.Sx Go.RowKit Go.ChangeShapes Go.WideShapes Go.ChangeAt
theorem own:ownKnob Tryz.prog.godebug=none:=by kernel_rfl
theorem Rw {v:Value} (h:(Kd.int .i64).fits v):∃ y:Int64,v=i64 y:=by
 obtain ⟨n,rfl,hw⟩:=h
 have e1:IntKind.i64.min = -9223372036854775808:=rfl
 have e2:IntKind.i64.max=9223372036854775807:=rfl
 simp [Lit.wf,e1,e2] at hw
 refine ⟨Int64.ofInt n,?_⟩
 simp only [i64,Value.int.injEq,true_and]
 exact (Int64.toInt_ofInt_of_le (by omega) (by omega)).symm
theorem UO {v:Value} (h:(Kd.int .u8).fits v):∃ y:UInt8,v=u8 y:=by
 obtain ⟨n,rfl,hw⟩:=h
 have e1:IntKind.u8.min=0:=rfl
 have e2:IntKind.u8.max=255:=rfl
 simp [Lit.wf,e1,e2] at hw
 refine ⟨UInt8.ofNat n.toNat,?_⟩
 simp only [u8,Value.int.injEq,true_and]
 have:(UInt8.ofNat n.toNat).toNat=n.toNat:=UInt8.toNat_ofNat_of_lt' (by simp [UInt8.size];omega)
 omega
theorem xu (cs:List Value) (h:Fits [.int .u8] cs):∃ x:UInt8,cs=[u8 x]:=by
 obtain ⟨_,_,rfl,a0,rfl⟩:=h
 obtain ⟨b0,rfl⟩:=UO a0
 exact ⟨b0,rfl⟩
section
variable {H:Type} {enc:TypeId×Value→H} {W:World}
end
theorem UF {w:World} {a:Addr} {v:Value} (h:w.cell? a=some v):a.block<w.heap.size:=by
 by_cases hb:a.block<w.heap.size
 ·exact hb
 ·have e:w.heap[a.block]? = none:=Array.getElem?_eq_none (by omega)
  simp [World.cell?,e] at h
theorem MU:Tryz.prog.globalNamed "drawbridge/hash.steps" = some 0:=by kernel_rfl
theorem Xn:(Tryz.prog.globals[0]?).map (·.type)=some 227:=by kernel_rfl
set_option maxRecDepth 100000 in
theorem MV {W:World} (h:laidMetH Tryz.prog [("drawbridge/hash.steps",Rows.laid_drawbridge_hash_steps)] W):Ev W [bJ]:=by
 rw [MakeChecks.laidMetH_plain _ _ _ (by kernel_rfl)] at h
 have hT:Lib.TabIs Tryz.prog W "drawbridge/hash.steps" .u32 NW:=Lib.tabIs_of_head (zs:=NW) (k := .u32) MU Xn Tryz.underlying227 Tryz.underlying225 (by kernel_rfl) (by kernel_rfl) h
 refine ⟨QW ?_ fun i hi=>⟨rfl,fun j v hj => ?_⟩,trivial⟩
 ·exact UF (hT.cell MU 0 (by decide))
 ·have hc:=hT.cell MU i (by show i<64;exact hi)
  cases j with
  | zero =>
   have hv:v = .int .u32 (NW.getD i 0):=by simpa [bq,stepW,u32] using hj.symm
   rw [hv]
   show W.cell? ⟨0,i * 1 + 0,none⟩=_
   rw [Nat.mul_one,Nat.add_zero]
   exact hc
  | succ j=>simp [bq] at hj
theorem Rl (os:Os) (args:Array Value):laidMetH Tryz.prog [("drawbridge/hash.steps",Rows.laid_drawbridge_hash_steps)] ((World.doorLaid Tryz.prog 14 os).forCall (fun _ _=>0) ⟨#[],args,[]⟩).memory :=
 laidMetH_of_parts3 (fuel:=8) (laidMet_of_run' 8 (by kernel_rfl) (by kernel_rfl)) (by kernel_rfl) (by kernel_rfl)
set_option maxRecDepth 100000
open Go.Sx Go.RowKit Go.ChangeShapes Go.WideShapes Go.ChangeAt
instance:Inhabited aZ:=⟨⟨0,0,0,[],[],0⟩⟩
theorem yc (cs:List Value) (h:Fits [.int .i64] cs):∃ x:Int64,cs=[i64 x]:=by
 obtain ⟨_,_,rfl,a0,rfl⟩:=h
 obtain ⟨b0,rfl⟩:=Rw a0
 exact ⟨b0,rfl⟩
theorem Ce (l:List Int64):(fun i=>[i64 (l.getD i 0)])=dO (l.map Int64.toInt):=by
 funext i
 have:(l.map Int64.toInt).getD i 0=(l.getD i 0).toInt:=by
  rw [List.getD_eq_getElem?_getD,List.getElem?_map,List.getD_eq_getElem?_getD]
  cases l[i]?<;>rfl
 rw [dO,this];rfl
section
variable {H:Type} {enc:TypeId×Value→H} {W:World}
theorem Jy {v:Value} {d:DataW H} {p:List MemPlace} (h:DataW.Trod enc Tryz.prog W 0 (fun _=>true) true 66 v d p) (hv:Value.okWide Tryz.prog W .any 0 66 v):∃ l:List Int64,l.length≤maxLen∧Ey W v 1 l.length (dO (l.map Int64.toInt)):=by
 obtain ⟨l,h1,h2⟩:=Go.Sx.open_row Tryz.aA (t:=66) (e:=3) rfl rfl rfl (f:=8) (ks:=[.int .i64]) rfl h hv (fun x=>[i64 x]) yc 0
 rw [Ce] at h2
 exact ⟨l,h1,h2⟩
theorem Pq:Tryz.prog.cellsOf 3=1∧Tryz.prog.cellsOf 66=1∧Tryz.prog.cellsOf 73=1∧Tryz.prog.cellsOf 5=1:=⟨by kernel_rfl,by kernel_rfl,by kernel_rfl,by kernel_rfl⟩
def NI (p:aZ):Prop:=p.am.length≤maxLen∧p.who.length≤maxLen
set_option maxRecDepth 100000 in
theorem Sy (n:Nat) (cs:List Value) (y:DataW H×List MemPlace) (h:DataW.trod enc Tryz.prog W 0 (fun _=>true) true n 95 cs=some y) (hl:cs.length=6) (b0:Nat) (hb0:b0<W.heap.size) :
  ∃ (z:aZ) (g:Nat→Option Addr×Nat),NI z∧cs=dK 0 z.ac g∧∀ j y,z.ac[j]? = some y→∃ v,AC.at W (fun k=>k<W.heap.size) y (g j) v:=by
 obtain ⟨s1,s2,s3,s4⟩:=Pq
 obtain ⟨xs,n',_,_,_,hxl,hf⟩:=DataW.trod_struct Tryz.underlying95 h
 match cs,hl with
 | [c0,c1,c2,c3,c4,c5],_ =>
  match xs,hxl with
  | [x0,x1,x2,x3,x4,x5],_ =>
   have e0:DataW.trod enc Tryz.prog W 0 (fun _=>true) true n' 3 (List.take (Tryz.prog.cellsOf 3) (List.drop 0 [c0,c1,c2,c3,c4,c5]))=some x0:=hf 0 _ rfl
   have e1:DataW.trod enc Tryz.prog W 0 (fun _=>true) true n' 3 (List.take (Tryz.prog.cellsOf 3) (List.drop 1 [c0,c1,c2,c3,c4,c5]))=some x1:=hf 1 _ rfl
   have e2:DataW.trod enc Tryz.prog W 0 (fun _=>true) true n' 3 (List.take (Tryz.prog.cellsOf 3) (List.drop 2 [c0,c1,c2,c3,c4,c5]))=some x2:=hf 2 _ rfl
   have e3:DataW.trod enc Tryz.prog W 0 (fun _=>true) true n' 66 (List.take (Tryz.prog.cellsOf 66) (List.drop 3 [c0,c1,c2,c3,c4,c5]))=some x3:=hf 3 _ rfl
   have e4:DataW.trod enc Tryz.prog W 0 (fun _=>true) true n' 73 (List.take (Tryz.prog.cellsOf 73) (List.drop 4 [c0,c1,c2,c3,c4,c5]))=some x4:=hf 4 _ rfl
   have e5:DataW.trod enc Tryz.prog W 0 (fun _=>true) true n' 5 (List.take (Tryz.prog.cellsOf 5) (List.drop 5 [c0,c1,c2,c3,c4,c5]))=some x5:=hf 5 _ rfl
   rw [s1] at e0 e1 e2
   rw [s2] at e3
   rw [s3] at e4
   rw [s4] at e5
   obtain ⟨y0,k0⟩:=yc [c0] (jD Tryz.aA 8 3 [.int .i64] rfl n' _ x0 e0)
   obtain ⟨y1,k1⟩:=yc [c1] (jD Tryz.aA 8 3 [.int .i64] rfl n' _ x1 e1)
   obtain ⟨y2,k2⟩:=yc [c2] (jD Tryz.aA 8 3 [.int .i64] rfl n' _ x2 e2)
   obtain ⟨l3,p3,b3,k3,v3⟩:=AO Tryz.aA (t:=66) (e:=3) rfl rfl rfl (by decide) (f:=8) (ks:=[.int .i64]) rfl (cs:=[c3]) e3 hb0 (fun x=>[i64 x]) yc 0
   obtain ⟨l4,p4,b4,k4,v4⟩:=AO Tryz.aA (t:=73) (e:=5) rfl rfl rfl (by decide) (f:=8) (ks:=[.int .u8]) rfl (cs:=[c4]) e4 hb0 (fun x=>[u8 x]) xu 0
   obtain ⟨y5,k5⟩:=xu [c5] (jD Tryz.aA 8 5 [.int .u8] rfl n' _ x5 e5)
   simp only [List.cons.injEq,and_true] at k0 k1 k2 k3 k4 k5
   subst k0 k1 k2 k3 k4 k5
   rw [Ce] at v3
   refine ⟨⟨y0.toInt,y1.toInt,y2.toInt,l3,l4,y5⟩,fun j=>if j=3 then p3 else p4,⟨b3,b4⟩,rfl,fun j y hy => ?_⟩
   match j,hy with
   | 0,hy=>obtain rfl:=Option.some.inj hy;exact ⟨_,rfl⟩
   | 1,hy=>obtain rfl:=Option.some.inj hy;exact ⟨_,rfl⟩
   | 2,hy=>obtain rfl:=Option.some.inj hy;exact ⟨_,rfl⟩
   | 3,hy=>obtain rfl:=Option.some.inj hy;exact v3
   | 4,hy=>obtain rfl:=Option.some.inj hy;exact v4
   | 5,hy=>obtain rfl:=Option.some.inj hy;exact ⟨_,rfl⟩
   | j + 6,hy=>simp [aZ.ac] at hy
theorem LW {v:Value} {d:DataW H} {p:List MemPlace} (h:DataW.Trod enc Tryz.prog W 0 (fun _=>true) true 91 v d p) (hv:Value.okWide Tryz.prog W .any 0 91 v) :
  ∃ (l:List aZ) (ad:Nat→Nat→Option Addr×Nat),l.length≤maxLen∧(∀ i,i<l.length→NI (l.getD i default))∧Sx.Came W v (.deep 6 l.length (fun i=>(l.getD i default).ac) ad):=by
 obtain ⟨fuel,hf⟩:=h
 have hv':Cell.okWide Tryz.prog W .any 0 91 v:=by
  simp only [Value.okWide,Tryz.underlying91] at hv
  exact hv
 have hc:v.cells.toList=[v]:=by
  cases v with
  | agg cs=>simp [Cell.okWide,Cell.ok,Tryz.underlying91] at hv'
  | _=>rfl
 rw [hc] at hf
 exact O8 Tryz.aA (t:=91) (e:=95) rfl rfl rfl (by decide) hf hv' aZ.ac NI (fun n cs y h1 h2 b0 hb=>Sy n cs y h1 h2 b0 hb) default
end
set_option maxRecDepth 100000
open Go.Sx
theorem Cm {M:Mem} {rd:List Nat} {q n i:Nat} {l:List aZ} {ad:Nat→Nat→Option Addr×Nat} (hm:M.get q=some (.ext (Gh n (fun i=>(l.getD i default).ac) ad))) (hrd:gI q rd=true) (hi:i<n):bC M rd (.agg ((dK 0 (l.getD i default).ac (ad i)).map .raw)) (.box (l.getD i default).ac) :=
 Av (p:=l.getD i default) (k := .raw (.slice (ad i 3).1 _ (ad i 3).2)) (s := .raw (.slice (ad i 4).1 _ (ad i 4).2)) (Ck (F:=fun i=>(l.getD i default).ac) (j:=3) hm hrd hi rfl) (Ck (F:=fun i=>(l.getD i default).ac) (j:=4) hm hrd hi rfl)
set_option maxRecDepth 100000
open Go.Sx
theorem Jz {p:gZ} {m:H8}:∀ {l:List gP} {last:Int},-1≤last→last<(p.keys.length:Int)→rF p m last l=true→(l.length:Int) + last + 1≤(p.keys.length:Int)
 | [],last,h1,h2,_=>by simp only [List.length_nil];omega
 | s::r,last,h1,h2,h=>by
  rw [rF,Bool.and_eq_true,Bool.and_eq_true,Bool.not_eq_true',decide_eq_false_iff_not] at h
  obtain ⟨h3,h4,h5⟩:=h
  rw [jZ,Bool.and_eq_true,Bool.and_eq_true,decide_eq_true_eq,decide_eq_true_eq] at h4
  have h6:=Jz (by omega) h4.2.1 h5
  simp only [List.length_cons]
  omega
set_option maxHeartbeats 8000000 in
theorem MC (p:gZ) (m:H8) (s:gP):Reads Tryz.prog 169 [.box p.ac,.plain m.x,.plain s.x] [] (XV.bool (jZ p m s)):=by
 refine Reads.of Tryz.aA Tryz.func169 rfl _ _ _ rfl rfl (fun C hC => ?_)
 (replace hC:C.n0=3:=hC;change av _ _ _ ⟨_,_,3⟩ _)
 have hk:=D6 (p.keys.getD s.key.toNat default) m s.sig
 have hr:jZ p m s=(decide (0≤s.key) && (decide (s.key<p.keys.length) && vN (p.keys.getD s.key.toNat default) m s.sig)):=rfl
 rw [hr]
 obtain ⟨b,hb⟩:∃ b,vN (p.keys.getD s.key.toNat default) m s.sig=b:=⟨_,rfl⟩
 rw [hb] at hk ⊢
 refine xI ?_
 (refine xB ?_)
 refine wC (fun h1 => ?_) (fun h1 => ?_)
 rotate_left
 ·(refine xG ?_)
  exact wD (Ends.plain (.inr rfl) rfl (by rw [h1];rfl))
 (refine xG ?_)
 refine wC (fun h2 => ?_) (fun h2 => ?_)
 rotate_left
 ·(refine xG ?_)
  exact wD (Ends.plain (.inr rfl) rfl (by rw [h1,h2];rfl))
 have h1':=of_decide_eq_true h1
 have h2':=of_decide_eq_true h2
 (refine xG ?_)
 refine wN ⟨h1',h2'⟩ ?_
 (refine xG ?_)
 simp only [Nat.zero_add]
 refine wN (show s.key.toNat<p.keys.length by omega) ?_
 (refine xG ?_)
 refine xC rfl Tryz.func201 rfl (hk.at [] ⟨ah rfl,ah rfl,ah rfl,trivial⟩ trivial) ?_
 exact wD (Ends.plain (.inr rfl) rfl (by rw [h1,h2];rfl))
def Jf (l:List gP):Nat→Int
 | 0 => -1
 | i + 1=>(l.getD i default).key
def Ti (p:gZ) (m:H8) (l:List gP) (i:Nat):St :=
 ⟨[none,none,some (XV.sv (.slc 2 282 0 l.length)),some (XV.sv (.ptr 3 0 0 0)),some (XV.sv (.ptr 4 0 0 0)),none,none,some (XV.int .i64 i)]++List.replicate 50 none,
  [(0,.ro 8 p.keys.length (dA p.keys)),(2,.ro 282 l.length (bY l)),(3,.cells 40 (vK 0 p.ac)),(4,.cells 29 (m.cells.map .raw))],5⟩
theorem Pf (p:gZ) (m:H8) (s:gP) (b:Bool):(!(decide (s.key ≤ -1)) && (jZ p m s && b))=(jZ p m s && b):=by
 cases hr:jZ p m s with
 | false=>rw [Bool.false_and,Bool.and_false]
 | true =>
  rw [jZ,Bool.and_eq_true,decide_eq_true_eq] at hr
  rw [decide_eq_false (by omega)];rfl
set_option maxHeartbeats 8000000 in
theorem PY (p:gZ) (m:H8) (l:List gP) (hp:p.keys.length≤1000000000) (hl:l.length≤1000000):Reads Tryz.prog 127 [.box p.ac,.plain m.x,.row 282 l.length (bY l)] [] (XV.bool (oJ p m l)):=by
 refine Reads.of Tryz.aA Tryz.func127 rfl _ _ _ rfl rfl (fun C hC => ?_)
 (replace hC:C.n0=3:=hC;change av _ _ _ ⟨_,_,3⟩ _)
 have hq:=AL p hp
 have hx:oJ p m l=(rG p && (!(decide ((l.length:Int)<p.need)) && rF p m (-1) l)):=rfl
 rw [hx]
 obtain ⟨pb,hpb⟩:∃ pb,rG p=pb:=⟨_,rfl⟩
 rw [hpb] at hq ⊢
 refine xK 2 ?_
 refine xC rfl Tryz.func112 rfl (hq.at [0] ⟨gG (p:=p) (aj rfl rfl),trivial⟩ trivial) ?_
 refine wC (fun h1 => ?_) (fun h1 => ?_)
 ·have h1':pb=false:=by simpa using h1
  (refine xG ?_)
  exact wD <| aV <| Ends.plain (.inr rfl) rfl (by rw [h1'];rfl)
 have h1':pb=true:=by simpa using h1
 (refine xG ?_)
 refine wC (fun h2 => ?_) (fun h2 => ?_)
 ·(refine xG ?_)
  exact wD <| aV <| Ends.plain (.inr rfl) rfl (by rw [h1',h2];rfl)
 (refine xG ?_)
 refine wC (fun h3 => ?_) (fun h3 => ?_)
 ·have h3':¬ (l.length:Int)≤(p.keys.length:Int):=by have h9:(p.keys.length:Int)<(l.length:Int):=of_decide_eq_true h3;omega
  (refine xG ?_)
  refine wD <| aV <| Ends.plain (.inr rfl) rfl ?_
  cases ho:rF p m (-1) l with
  | false=>rw [Bool.and_false,Bool.and_false]
  | true=>exact absurd (by have:=Jz (Int.le_refl _) (by omega) ho;omega) h3'
 rw [h1',h2,Bool.true_and,Bool.not_false,Bool.true_and]
 (refine xG ?_)
 refine wD <| ak <| av.seq ?_
 refine xK 1 ?_
 refine wD <| ak <| av.block ?_
 refine av.loop (α:={ i:Nat // i≤l.length∧rF p m (-1) l=rF p m (Jf l i) (l.drop i) }) (fun i=>Ti p m l i.1) (fun i=>l.length - i.1) ⟨0,Nat.zero_le _,by rw [List.drop_zero];rfl⟩ ?_ ?_
 ·unfold Ti
  ((try dsimp only);exact xE [0,1,2,3,4] hC)
 rintro ⟨i,hi,hg⟩
 dsimp only at hi hg ⊢
 unfold Ti
 refine xK 1 ?_
 refine wC (fun h4 => ?_) (fun h4 => ?_)
 ·(refine xG ?_)
  have h4':i<l.length:=xW
  have hw:IntKind.i64.wrap ((i:Int) + 1)=((i + 1:Nat):Int):=xW
  rw [qB h4',rF] at hg
  obtain ⟨s,hs⟩:∃ s,l.getD i default=s:=⟨_,rfl⟩
  rw [hs] at hg
  have hrt:=MC p m s
  refine wD <| ak <| av.seq <| av.block <| xI ?_
  rcases i with _ |j
  ·rw [Jf,Pf] at hg
   obtain ⟨rb,hrb⟩:∃ rb,jZ p m s=rb:=⟨_,rfl⟩
   rw [hrb] at hrt hg
   (refine xB ?_)
   (repeat (refine wN ?_ ?_;exact xW;refine xG ?_))
   try simp only [Nat.zero_add,Int.toNat_natCast,hs]
   refine xC rfl Tryz.func169 rfl (hrt.at [0] ⟨gG (p:=p) (aj rfl rfl),ah rfl,ah rfl,trivial⟩ trivial) ?_
   refine wC (fun h5 => ?_) (fun h5 => ?_)
   ·have h5':rb=false:=by simpa using h5
    rw [h5',Bool.false_and] at hg
    (refine xG ?_)
    exact wD <| aQ <| aV <| fq <| aQ <| aV <| Ends.plain (.inr rfl) rfl (by rw [hg])
   have h5':rb=true:=by simpa using h5
   rw [h5',Bool.true_and] at hg
   (refine xG ?_)
   refine wD <| aJ <| ak <| xI ?_
   (refine xB ?_)
   refine wD <| aP ⟨⟨0 + 1,h4',by rw [hg,Jf,hs]⟩,by dsimp only;omega,?_⟩
   rw [hw]
   ((try dsimp only);exact xE [0,1,2,3,4] hC)
  ·rw [Jf] at hg
   obtain ⟨rb,hrb⟩:∃ rb,jZ p m s=rb:=⟨_,rfl⟩
   rw [hrb] at hrt hg
   have hw1:IntKind.i64.wrap (((j + 1:Nat):Int) - 1)=((j:Nat):Int):=xW
   (refine xB ?_)
   (refine zm ?_ ?_;(first |refine decide_eq_true ?_ |rw [beq_iff_eq] |rw [bne_iff_ne]);exact xW;refine xG ?_)
   (repeat (refine wN ?_ ?_;exact xW;refine xG ?_))
   simp only [Nat.zero_add,Int.toNat_natCast,hw1,hs]
   (repeat (refine wN ?_ ?_;exact xW;refine xG ?_))
   try simp only [Nat.zero_add,Int.toNat_natCast,hw1,hs]
   refine wC (fun h6 => ?_) (fun h6 => ?_)
   ·rw [h6,Bool.not_true,Bool.false_and] at hg
    (refine xG ?_)
    exact wD <| aQ <| aV <| fq <| aQ <| aV <| Ends.plain (.inr rfl) rfl (by rw [hg])
   rw [h6,Bool.not_false,Bool.true_and] at hg
   (refine xG ?_)
   (repeat (refine wN ?_ ?_;exact xW;refine xG ?_))
   try simp only [Nat.zero_add,Int.toNat_natCast,hs]
   refine xC rfl Tryz.func169 rfl (hrt.at [0] ⟨gG (p:=p) (aj rfl rfl),ah rfl,ah rfl,trivial⟩ trivial) ?_
   refine wC (fun h5 => ?_) (fun h5 => ?_)
   ·have h5':rb=false:=by simpa using h5
    rw [h5',Bool.false_and] at hg
    (refine xG ?_)
    exact wD <| aQ <| aV <| fq <| aQ <| aV <| Ends.plain (.inr rfl) rfl (by rw [hg])
   have h5':rb=true:=by simpa using h5
   rw [h5',Bool.true_and] at hg
   (refine xG ?_)
   refine wD <| aJ <| ak <| xI ?_
   (refine xB ?_)
   refine wD <| aP ⟨⟨(j + 1) + 1,h4',by rw [hg,Jf,hs]⟩,by dsimp only;omega,?_⟩
   rw [hw]
   ((try dsimp only);exact xE [0,1,2,3,4] hC)
 ·(refine xG ?_)
  have h4':i=l.length:=xW
  subst h4'
  rw [List.drop_length,rF] at hg
  refine wD <| bW <| aS <| aI <| ak <| xI ?_
  (refine xB ?_)
  exact wD (Ends.plain (.inr rfl) rfl (by rw [hg]))
set_option maxRecDepth 100000
open Go.Sx
theorem FP (n:Int) (M:Mem) (d:Nat):aC Tryz.prog 202 [.one (.raw (.int .i64 n))] M d { v:=XV.bool (kX n) } []:=by
 refine jC Tryz.mixed Tryz.aA Tryz.func202 rfl _ _ rfl rfl (fun C _ => ?_) M d
 (refine xB ?_)
 refine wC (fun h1 => ?_) (fun h1 => ?_)
 all_goals
  (refine xG ?_)
  refine Ends.plain (.inr rfl) rfl ?_
  simp [kX,h1]
theorem RX {n:Int}:kX n=true↔0≤n∧n≤1125899906842624:=by rw [kX,Bool.and_eq_true,decide_eq_true_eq,decide_eq_true_eq]
theorem Od {a b:Int} (ha:kX a=true) (hb:kX b=true):iH a b (IntKind.i64.wrap (a + b)) = !decide (IntKind.i64.wrap (1125899906842624 - b)<a):=by
 rw [iH,ha,hb,Bool.true_and,Bool.true_and]
 rw [RX] at ha hb
 rw [wrap_i64 (n:=1125899906842624 - b) (by omega) (by omega),wrap_i64 (n:=a + b) (by omega) (by omega),kX]
 rw [Bool.eq_iff_iff]
 simp only [Bool.and_eq_true,decide_eq_true_eq,Bool.not_eq_true',decide_eq_false_iff_not]
 omega
theorem FE (a b:Int) (M:Mem) (d:Nat):aC Tryz.prog 170 [.one (.raw (.int .i64 a)),.one (.raw (.int .i64 b))] M d { v := .tup (rV a b (IntKind.i64.wrap (a + b))) } []:=by
 refine jC Tryz.mixed Tryz.aA Tryz.func170 rfl _ _ rfl rfl (fun C _ => ?_) M d
 (refine xB ?_)
 refine xC rfl Tryz.func202 rfl (FP _ _ _) ?_
 refine wC (fun h1 => ?_) (fun h1 => ?_)
 ·have h1:kX a=false:=by simpa using h1
  (refine xG ?_)
  refine Ends.plain (.inr rfl) rfl ?_
  rw [lX (by rw [iH,h1];rfl)]
 ·have h1:kX a=true:=by simpa using h1
  (refine xG ?_)
  refine xC rfl Tryz.func202 rfl (FP _ _ _) ?_
  refine wC (fun h2 => ?_) (fun h2 => ?_)
  ·have h2:kX b=false:=by simpa using h2
   (refine xG ?_)
   refine Ends.plain (.inr rfl) rfl ?_
   rw [lX (by rw [iH,h1,h2];rfl)]
  ·have h2:kX b=true:=by simpa using h2
   (refine xG ?_)
   have hb:=Od h1 h2
   refine wC (fun h3 => ?_) (fun h3 => ?_)
   ·(refine xG ?_)
    refine Ends.plain (.inr rfl) rfl ?_
    rw [lX (by rw [hb,h3];rfl)]
   ·(refine xG ?_)
    refine Ends.plain (.inr rfl) rfl ?_
    rw [vJ (by rw [hb,h3];rfl)]
theorem PD {a b:Int} (h:iH a b (IntKind.i64.wrap (a + b))=true) (M:Mem) (d:Nat):aC Tryz.prog 170 [.one (.raw (.int .i64 a)),.one (.raw (.int .i64 b))] M d { v := .tup [.one (.raw (.int .i64 (IntKind.i64.wrap (a + b)))),.one (.raw (.bool true))] } []:=vJ h▸FE a b M d
theorem Mi {a b:Int} (h:iH a b (IntKind.i64.wrap (a + b))=false) (M:Mem) (d:Nat):aC Tryz.prog 170 [.one (.raw (.int .i64 a)),.one (.raw (.int .i64 b))] M d { v := .tup [.one (.raw (.int .i64 0)),.one (.raw (.bool false))] } []:=lX h▸FE a b M d
structure YG (l:List Int) where
 i:Nat
 acc:Int
 ok:Bool
 le:i≤l.length
 good:ok=true→kD 0 l=kD acc (l.drop i)
 bad:ok=false→kD 0 l=none∧acc=0
def Tk (l:List Int) (i:Nat) (acc:Int) (ok:Bool):St:=⟨[some (XV.sv (.slc 0 1 0 l.length)),none,none,none,some (XV.int .i64 acc),some (XV.bool ok),some (XV.int .i64 i)]++List.replicate 20 none,[(0,.ro 1 l.length (M8 l))],1⟩
set_option maxHeartbeats 2000000 in
theorem PS (l:List Int) (hl:l.length≤2000000000):Reads Tryz.prog 128 [.row 1 l.length (M8 l)] [] (Ab l):=by
 refine Reads.of Tryz.aA Tryz.func128 rfl _ _ _ rfl rfl (fun C hC => ?_)
 (replace hC:C.n0=1:=hC;change av _ _ _ ⟨_,_,1⟩ _)
 refine xK 2 ?_
 refine wD <| ak <| av.seq ?_
 refine xK 1 ?_
 refine wD <| ak <| av.block ?_
 refine av.loop (α:=YG l) (fun x=>Tk l x.i x.acc x.ok) (fun x=>l.length - x.i) ⟨0,0,true,Nat.zero_le _,fun _=>by rw [List.drop_zero],fun h=>by cases h⟩ ?_ ?_
 ·((try dsimp only);exact xE [0] hC)
 rintro ⟨i,acc,ok,hi,hg,hb⟩
 unfold Tk
 dsimp only
 refine xK 1 ?_
 refine wC (fun h1 => ?_) (fun h1 => ?_)
 ·(refine xG ?_)
  have h1':i<l.length:=xW
  have hw:IntKind.i64.wrap ((i:Int) + 1)=((i + 1:Nat):Int):=xW
  refine wC (fun h2 => ?_) (fun h2 => ?_)
  ·have hs:=hg h2
   rw [drop_cons h1',kD] at hs
   (refine xG ?_)
   refine wD <| ak <| av.seq <| av.block <| xI ?_
   (refine xB ?_)
   (repeat (refine wN ?_ ?_;exact xW;refine xG ?_))
   simp only [Nat.zero_add,Int.toNat_natCast]
   cases h3:iH acc (l.getD i 0) (IntKind.i64.wrap (acc + l.getD i 0)) with
   | true =>
    rw [h3,if_pos rfl] at hs
    refine xC rfl Tryz.func170 rfl (PD h3 _ _) ?_
    refine wD <| aJ <| ak <| xI ?_
    (refine xB ?_)
    refine wD <| aP ⟨⟨i + 1,IntKind.i64.wrap (acc + l.getD i 0),true,h1',fun _=>hs,fun h=>by cases h⟩,by dsimp only;omega,?_⟩
    rw [hw]
    ((try dsimp only);exact xE [0] hC)
   | false =>
    rw [h3,if_neg (by simp)] at hs
    refine xC rfl Tryz.func170 rfl (Mi h3 _ _) ?_
    refine wD <| aJ <| ak <| xI ?_
    (refine xB ?_)
    refine wD <| aP ⟨⟨i + 1,0,false,h1',fun h=>(by cases h),fun _=>⟨hs,rfl⟩⟩,by dsimp only;omega,?_⟩
    rw [hw]
    ((try dsimp only);exact xE [0] hC)
  ·(refine xG ?_)
   obtain ⟨hs,rfl⟩:=hb h2
   refine wD <| bW <| aS <| aI <| ak <| xI ?_
   (refine xB ?_)
   refine wD (Ends.plain (.inr rfl) rfl ?_)
   rw [Ab,hs,h2];rfl
 ·(refine xG ?_)
  have h1':i=l.length:=xW
  refine wD <| bW <| aS <| aI <| ak <| xI ?_
  (refine xB ?_)
  refine wD (Ends.plain (.inr rfl) rfl ?_)
  cases ok with
  | true =>
   have hs:=hg rfl
   rw [h1',List.drop_length,kD] at hs
   rw [Ab,hs];rfl
  | false =>
   obtain ⟨hs,rfl⟩:=hb rfl
   rw [Ab,hs];rfl
set_option maxHeartbeats 4000000 in
theorem zU (x:au):Reads Tryz.prog 74 [.box x.ac] [] (XV.bool (eH x)):=by
 have bad:(eH x=true→False)→XV.bool false=XV.bool (eH x):=fun h=>by
  cases hc:eH x with
  | false=>rfl
  | true=>exact (h hc).elim
 refine Reads.of Tryz.aA Tryz.func74 rfl _ _ _ rfl rfl (fun C hC => ?_)
 (replace hC:C.n0=4:=hC;change av _ _ _ ⟨_,_,4⟩ _)
 refine xI ?_
 (refine xB ?_)
 refine wC (fun h1 => ?_) (fun h1 => ?_)
 rotate_left
 ·(refine xG ?_)
  exact wD (Ends.plain (.inr rfl) rfl (bad fun h=>by have:=iL.1 h;simp only [decide_eq_false_iff_not] at h1;omega))
 (refine xG ?_)
 refine wC (fun h2 => ?_) (fun h2 => ?_)
 rotate_left
 ·(refine xG ?_)
  exact wD (Ends.plain (.inr rfl) rfl (bad fun h=>by have:=iL.1 h;simp only [decide_eq_false_iff_not] at h2;omega))
 (refine xG ?_)
 refine wC (fun h3 => ?_) (fun h3 => ?_)
 rotate_left
 ·(refine xG ?_)
  exact wD (Ends.plain (.inr rfl) rfl (bad fun h=>by have:=iL.1 h;simp only [decide_eq_false_iff_not] at h3;omega))
 (refine xG ?_)
 refine wC (fun h4 => ?_) (fun h4 => ?_)
 rotate_left
 ·(refine xG ?_)
  exact wD (Ends.plain (.inr rfl) rfl (bad fun h=>by have:=iL.1 h;simp only [decide_eq_false_iff_not] at h4;omega))
 (refine xG ?_)
 refine wC (fun h5 => ?_) (fun h5 => ?_)
 rotate_left
 ·(refine xG ?_)
  exact wD (Ends.plain (.inr rfl) rfl (bad fun h=>by have:=iL.1 h;simp only [decide_eq_false_iff_not] at h5;omega))
 (refine xG ?_)
 refine wD (Ends.plain (.inr rfl) rfl (congrArg (fun b:Bool=>XV.bool b) ?_))
 simp only [decide_eq_true_eq] at h1 h2 h3 h4 h5
 rw [Bool.eq_iff_iff,decide_eq_true_eq,iL]
 omega
set_option maxHeartbeats 4000000 in
theorem PL (x:au) (e:Int):Reads Tryz.prog 168 [.box x.ac,.plain (.one (.raw (.int .i64 e)))] [] (XV.int .i64 (jL x e)):=by
 have hfr:=zU x
 have hx:jL x e=if (!eH x || !aO e 0 400)=true then 0 else wr (x.made + wr (wr (e + 1) * x.par.len)):=rfl
 rw [hx]
 obtain ⟨tb,htb⟩:∃ tb,eH x=tb:=⟨_,rfl⟩
 rw [htb] at hfr ⊢
 refine Reads.of Tryz.aA Tryz.func168 rfl _ _ _ rfl rfl (fun C hC => ?_)
 (replace hC:C.n0=5:=hC;change av _ _ _ ⟨_,_,5⟩ _)
 refine xI ?_
 (refine xB ?_)
 refine wC (fun h1 => ?_) (fun h1 => ?_)
 ·(refine xG ?_)
  exact wD (Ends.plain (.inr rfl) rfl (by rw [if_pos (by rw [aO,decide_eq_false (show ¬ 0≤e by have:=of_decide_eq_true h1;omega)];simp)]))
 (refine xG ?_)
 refine wC (fun h2 => ?_) (fun h2 => ?_)
 ·(refine xG ?_)
  exact wD (Ends.plain (.inr rfl) rfl (by rw [if_pos (by rw [aO,decide_eq_false (show ¬ e≤400 by have:=of_decide_eq_true h2;omega)];simp)]))
 have hw:aO e 0 400=true:=by
  rw [aO,decide_eq_true (show 0≤e by have:=of_decide_eq_false h1;omega),decide_eq_true (show e≤400 by have:=of_decide_eq_false h2;omega)];rfl
 (refine xG ?_)
 refine xC rfl Tryz.func74 rfl (hfr.at [0,1,2,3] ⟨bL (x:=x) (aj rfl rfl) (aj rfl rfl) (aj rfl rfl) (aj rfl rfl),trivial⟩ trivial) ?_
 refine wC (fun h3 => ?_) (fun h3 => ?_)
 ·(refine xG ?_)
  exact wD (Ends.plain (.inr rfl) rfl (by rw [if_pos (by rw [h3];rfl)]))
 ·(refine xG ?_)
  exact wD (Ends.plain (.inr rfl) rfl (by rw [if_neg (by rw [h3,hw];simp)];rfl))
set_option maxHeartbeats 4000000 in
theorem PU (x:au) (e h:Int):Reads Tryz.prog 126 [.box x.ac,.plain (.one (.raw (.int .i64 e))),.plain (.one (.raw (.int .i64 h)))] [] (XV.bool (qZ x e h)):=by
 have hfr:=zU x
 have hen:=PL x e
 have hx:qZ x e h=(eH x && (aO e 0 400 && (decide (jL x e<h) && decide (h≤wr (jL x e + x.par.win))))):=rfl
 rw [hx]
 obtain ⟨tb,htb⟩:∃ tb,eH x=tb:=⟨_,rfl⟩
 obtain ⟨E,hE⟩:∃ E,jL x e=E:=⟨_,rfl⟩
 rw [htb] at hfr ⊢
 rw [hE] at hen ⊢
 refine Reads.of Tryz.aA Tryz.func126 rfl _ _ _ rfl rfl (fun C hC => ?_)
 (replace hC:C.n0=6:=hC;change av _ _ _ ⟨_,_,6⟩ _)
 refine xI ?_
 (refine xB ?_)
 refine wC (fun h1 => ?_) (fun h1 => ?_)
 ·(refine xG ?_)
  exact wD (Ends.plain (.inr rfl) rfl (by rw [aO,decide_eq_false (show ¬ 0≤e by have:=of_decide_eq_true h1;omega)];simp))
 (refine xG ?_)
 refine wC (fun h2 => ?_) (fun h2 => ?_)
 ·(refine xG ?_)
  exact wD (Ends.plain (.inr rfl) rfl (by rw [aO,decide_eq_false (show ¬ e≤400 by have:=of_decide_eq_true h2;omega)];simp))
 have hw:aO e 0 400=true:=by
  rw [aO,decide_eq_true (show 0≤e by have:=of_decide_eq_false h1;omega),decide_eq_true (show e≤400 by have:=of_decide_eq_false h2;omega)];rfl
 rw [hw,Bool.true_and]
 (refine xG ?_)
 refine xC rfl Tryz.func74 rfl (hfr.at [0,1,2,3] ⟨bL (x:=x) (aj rfl rfl) (aj rfl rfl) (aj rfl rfl) (aj rfl rfl),trivial⟩ trivial) ?_
 refine wC (fun h3 => ?_) (fun h3 => ?_)
 ·have h3':tb=false:=by simpa using h3
  (refine xG ?_)
  exact wD (Ends.plain (.inr rfl) rfl (by rw [h3'];rfl))
 have h3':tb=true:=by simpa using h3
 rw [h3',Bool.true_and]
 (refine xG ?_)
 refine xC rfl Tryz.func168 rfl (hen.at [0,1,2,3] ⟨bL (x:=x) (aj rfl rfl) (aj rfl rfl) (aj rfl rfl) (aj rfl rfl),ah rfl,trivial⟩ trivial) ?_
 refine wC (fun h4 => ?_) (fun h4 => ?_)
 ·(refine xG ?_)
  refine xC rfl Tryz.func168 rfl (hen.at [0,1,2,3] ⟨bL (x:=x) (aj rfl rfl) (aj rfl rfl) (aj rfl rfl) (aj rfl rfl),ah rfl,trivial⟩ trivial) ?_
  exact wD (Ends.plain (.inr rfl) rfl (by rw [h4,Bool.true_and];rfl))
 ·(refine xG ?_)
  exact wD (Ends.plain (.inr rfl) rfl (by rw [h4,Bool.false_and]))
end Go.Proofs.YtnpkdoggfnlapaaGreatDoor
