/- Parts Yd Yn Yj Yk Yo Yp Yq Ys Yu Yv Yw Ra Rb Rc Rd Re Rf Zg Zh Zi Px. -/
import Derived.Test.YtnpkdoggfnlapaaGreatDoorG19
import Derived.Test.YtnpkdoggfnlapaaGreatDoorG18
import Derived.Test.YtnpkdoggfnlapaaGreatDoorG12
import Derived.Test.YtnpkdoggfnlapaaGreatDoorG15
import Derived.Sort.Statements
set_option linter.unusedSimpArgs false
set_option linter.unusedVariables false
namespace Go.Proofs.YtnpkdoggfnlapaaGreatDoor
set_option maxRecDepth 100000
open Go.Sx
def u16 (x:UInt16):Value := .int .u16 (x.toNat:Int)
def Yl (l:List UInt16):Nat→List Value:=fun i=>[u16 (l.getD i 0)]
structure jF where
 pl:List UInt16
 am:List UInt16
def jF.ac (a:jF):List AC:=[.row 1 a.pl.length (Yl a.pl),.row 1 a.am.length (Yl a.am)]
def C8 (a:jF) (i:Nat):Nat:=(a.pl.getD i 0).toNat
def zA (a:jF) (i:Nat):Bool:=(List.range i).all fun k => !decide (C8 a k=C8 a i)
def rO (a:jF) (i:Nat):Ii:=⟨⟨119,dn (IntKind.u8.wrap ((i:Int) + 1)),0,0,0,0,0,0⟩,1 + ((a.am.getD i 0).toNat:Int),((i % 8:Nat):Int)⟩
def VJ (a:jF) (i:Nat):H8:=Ns (C8 a i:Int) (rO a i)
def DV (a:jF):Nat→Bn
 | 0=>[]
 | k + 1=>Nv (DV a k) (C8 a k) (VJ a k)
def NU (a:jF):H8:=vv (DV a a.pl.length) 0 16
def bB (a:jF) (i:Nat):dx:=if i<a.pl.length then ⟨0,C8 a i,rO a i,JO (DV a a.pl.length) (C8 a i)⟩ else nI
structure Fair (a:jF):Prop where
 few:a.pl.length≤12
 le:a.pl.length≤a.am.length
 am:a.am.length≤50
 apart:∀ i k,i<a.pl.length→k<a.pl.length→C8 a k=C8 a i→k=i
theorem Sw (a:jF) (i:Nat):C8 a i<65536:=(a.pl.getD i 0).toNat_lt
theorem Ky {a:jF} (hf:Fair a):∀ (n:Nat),n≤a.pl.length→∀ k,k<n→jh (DV a n) (C8 a k)=VJ a k
 | 0,_,k,hk=>absurd hk (Nat.not_lt_zero _)
 | n + 1,hn,k,hk=>by
  rw [DV,OW]
  by_cases e:C8 a k=C8 a n
  ·rw [if_pos e,hf.apart n k (by omega) (by omega) e]
  ·have hkn:k≠n:=fun h=>e (by rw [h])
   rw [if_neg e]
   exact Ky hf n (by omega) k (by omega)
theorem wY (a:jF) (i:Nat):1≤(rO a i).amt∧(rO a i).amt≤65536:=by
 have:=(a.am.getD i 0).toNat_lt
 simp only [rO]
 omega
theorem KJ (a:jF) (i:Nat):ku (rO a i).owner=false:=by
 rw [ku,decide_eq_false_iff_not]
 intro h
 have:=congrArg H8.b0 h
 cases this
theorem EJ {a:jF} {i:Nat} (hi:i<a.pl.length):lS (bB a i)=true:=by
 have h1:=wY a i
 have h2:=KJ a i
 have h3:=Sw a i
 rw [bB,if_pos hi]
 refine oD.2 ⟨⟨Int.le_refl 0,show (0:Int)≤7 by decide⟩,⟨?_,?_⟩,h2,⟨h1.1,?_⟩,?_,?_⟩
 ·exact Int.natCast_nonneg _
 ·show ((C8 a i:Nat):Int)≤65535;omega
 ·show (rO a i).amt≤_;omega
 ·exact Int.natCast_nonneg _
 ·show ((i % 8:Nat):Int)≤255;omega
theorem xA {a:jF} (hf:Fair a) {i:Nat} (hi:i<a.pl.length):uH (NU a) (bB a i)=true:=by
 rw [bB,if_pos hi]
 refine decide_eq_true ?_
 show V3 (Ns (C8 a i:Int) (rO a i)) ((C8 a i:Nat):Int).toNat (JO (DV a a.pl.length) (C8 a i)) 16=_
 rw [Int.toNat_natCast,show Ns (C8 a i:Int) (rO a i)=jh (DV a a.pl.length) (C8 a i) from (Ky hf _ (Nat.le_refl _) i hi).symm]
 exact Vw _ _ (Sw a i)
theorem Ao {a:jF} {i:Nat} (hi:i<a.pl.length):(bB a i).side=0:=by rw [bB,if_pos hi]
theorem Am {a:jF} {i:Nat} (hi:i<a.pl.length):(bB a i).acct=(C8 a i:Int):=by rw [bB,if_pos hi]
theorem EK {a:jF} {i:Nat} (hi:i<a.pl.length):(bB a i).st=rO a i:=by rw [bB,if_pos hi]
theorem qA {x:au} {c:dx} (h1:lS c=true) (h2:c.side=0):qz [x] c=kI x c:=by
 rw [qz,if_neg (by rw [h1];simp),if_neg (by rw [h2];simp),h2];rfl
theorem IC {x:au} {c:dx} (h1:x.ceased=true) (h2:c.acct ∉ x.used) (h3:uH x.root c=true) (h4:c.st.amt≤x.bal):kI x c=0:=by
 rw [kI,if_neg (by rw [h1];simp),if_neg h2,if_neg (by rw [h3];simp),if_neg (by omega)]
theorem Qf {x:au} {S:aB} {c:dx} {h:Int64} (h1:lS c=true) (h2:c.side=0) (h3:kI x c=0) (h4:S.has (dz (bO c) 0)=false) (h5:S.okB (dz (bO c) 0) ⟨c.st.owner,Int64.ofInt c.st.amt,h,false⟩=true) :
  uf [x] S c h=(([DK x c],S.add1 (dz (bO c) 0) ⟨c.st.owner,Int64.ofInt c.st.amt,h,false⟩),0):=by
 have eo:dX (bO c) h false S 0 [gB c]=(S.add1 (dz (bO c) 0) ⟨c.st.owner,Int64.ofInt c.st.amt,h,false⟩,0):=by
  have e5:S.okB (dz (bO c) 0) ⟨(gB c).to,(gB c).amt,h,false⟩=true:=h5
  rw [ND,if_neg (by rw [h4];simp),if_pos e5];rfl
 rw [uf,qA h1 h2,if_pos h3,eo,if_pos rfl,h2];rfl
theorem DL {x:au} {S:aB} {c:dx} {h:Int64} {e:Int} (h3:qz [x] c=e) (he:e≠0):uf [x] S c h=(([x],S),e):=by
 rw [uf,if_neg (by rw [h3];exact he),h3]
theorem WJ {S:aB} {p:Pt} {k:bF} (h1:S.has p=false) (h2:p.no.toInt=0) (h3:1≤k.amt.toInt) (h4:0≤S.total) (h5:S.total + k.amt.toInt≤1125899906842624):S.okB p k=true:=by
 have e:IntKind.i64.wrap (S.total + k.amt.toInt)=S.total + k.amt.toInt:=bK (by omega)
 simp only [aB.okB,h1,h2,iH,kX,e,Bool.and_eq_true,Bool.not_eq_true',decide_eq_false_iff_not,decide_eq_true_eq,Bool.not_false,and_true]
 omega
set_option maxRecDepth 100000
open Go.Sx
def Ii.x (a:Ii):CV := .agg (a.cells.map .raw)
set_option maxRecDepth 100000
open Go.Sx
def iO (p:gZ) (h:Int):au:={ FZ with par:=p,made:=h }
theorem HY {p:gZ} {h:Int} (hl:p.keys.length≤1000000):(iO p h).gN:=⟨hl,Nat.zero_le _,Nat.zero_le _,Nat.zero_le _⟩
set_option maxHeartbeats 4000000 in
theorem K3 (L:List au) (p:gZ) (h:Int) (hl:p.keys.length≤1000000) (hL:L.length<8) (hp:rG p=true):fH Tryz.prog 63 (.abs (fI L)) (.abs (fI (L++[iO p h]))) [.box p.ac,.plain (.one (.raw (.int .i64 h)))] [] (.tup [.one (.raw (.int .i64 L.length)),.one (.raw (.int .i64 0))]):=by
 have hq:=JU p (by omega)
 rw [hp] at hq
 have hc:=vP (iO p h) (HY hl)
 refine fH.of Tryz.aA Tryz.func63 rfl _ _ _ _ _ rfl rfl rfl (fun C hC => ?_)
 (replace hC:C.n0=3:=hC;change av _ _ _ ⟨_,_,3⟩ _)
 rcases L with _ |⟨x,r⟩
 ·refine Reg.qJ zx zw 0 rfl (xI ?_)
  (refine xB ?_)
  refine xC rfl Tryz.func116 rfl (hq.at [1] ⟨gG (aj rfl rfl),trivial⟩ trivial) ?_
  refine xC rfl Tryz.func56 rfl (hc.at [1] ⟨bL (x:=iO p h) (aj rfl rfl) (aY _ _) (aY _ _) (aY _ _),trivial⟩ trivial) ?_
  (refine wP _ _ (ou Tryz.aA rfl rfl rfl) ?_;refine xZ ?_)
  (refine wP _ _ (xq Tryz.aA rfl rfl rfl rfl rfl rfl rfl rfl rfl rfl rfl (by decide) (zC (iO p h) 29)) ?_;refine xZ ?_)
  exact wD (Ends.bZ (.inr rfl) (Reg.shuts zx zw [iO p h] 0 (i1:=31) Nat.one_pos rfl rfl rfl rfl rfl (Ig rfl)) rfl rfl rfl)
 ·refine Reg.wB zx zw (x::r) 0 (Nat.succ_pos _) rfl (xI ?_)
  (refine xB ?_)
  refine xC rfl Tryz.func116 rfl (hq.at [1] ⟨gG (aj rfl rfl),trivial⟩ trivial) ?_
  (refine kE ?_ ?_;(first |refine decide_eq_false ?_ |rw [beq_eq_false_iff_ne] |rw [bne_eq_false_iff_eq]);exact xW;refine xG ?_)
  refine xC rfl Tryz.func56 rfl (hc.at [1] ⟨bL (x:=iO p h) (aj rfl rfl) (aY _ _) (aY _ _) (aY _ _),trivial⟩ trivial) ?_
  (refine wP _ _ (ou Tryz.aA rfl rfl rfl) ?_;refine xZ ?_)
  (refine wP _ _ (rU Tryz.aA rfl rfl rfl rfl rfl rfl rfl rfl rfl rfl (by decide) (by decide) rfl rfl (by simp only [maxLen];omega) (by dsimp only;omega) (zC (iO p h) 30)) ?_;refine xZ ?_)
  have hl1:((x::r)++[iO p h]).length=(x::r).length + 1:=by simp
  refine wD (Ends.bZ (.inr rfl) (Reg.shuts zx zw ((x::r)++[iO p h]) 0 (i1:=32) (by omega) rfl rfl rfl hl1.symm hl1.symm (fun i hi=>FK (by omega))) rfl rfl ?_)
  have e:IntKind.i64.wrap ((((x::r).length + 1:Nat):Int) - 1)=((x::r).length:Int):=xW
  rw [e]
theorem iU {L:List au} {i:Nat} (hi:i<L.length) {x:au}:bP (L.set i x) i=x.ac:=by
 rw [bP,List.getD_eq_getElem?_getD,List.getElem?_set_self hi];rfl
theorem iV {L:List au} {i k:Nat} (h:k≠i) {x:au}:bP (L.set i x) k=bP L k:=by
 rw [bP,bP,List.getD_eq_getElem?_getD,List.getD_eq_getElem?_getD,List.getElem?_set_ne (fun e=>h e.symm)]
theorem qd {x y:au} (h1:x.par.keys=y.par.keys) (h2:x.cert.outs=y.cert.outs) (h3:x.cert.sigs=y.cert.sigs) (h4:x.used=y.used) {j:Nat} {a:AC} (h:x.ac[j]? = some a):(∃ u,a=AC.raw u)∨y.ac[j]? = some a:=by
 have hj:j<42:=by have:=(List.getElem?_eq_some_iff.1 h).1;rwa [au.QC] at this
 have e3:x.ac[3]? = y.ac[3]?:=by show some (AC.row 8 x.par.keys.length (dA x.par.keys))=some (AC.row 8 y.par.keys.length (dA y.par.keys));rw [h1]
 have e39:x.ac[39]? = y.ac[39]?:=by show some (AC.row 9 x.cert.outs.length (bE x.cert.outs))=some (AC.row 9 y.cert.outs.length (bE y.cert.outs));rw [h2]
 have e40:x.ac[40]? = y.ac[40]?:=by show some (AC.row 282 x.cert.sigs.length (bY x.cert.sigs))=some (AC.row 282 y.cert.sigs.length (bY y.cert.sigs));rw [h3]
 have e41:x.ac[41]? = y.ac[41]?:=by show some (AC.row 1 x.used.length (dO x.used))=some (AC.row 1 y.used.length (dO y.used));rw [h4]
 by_cases k3:j=3
 ·subst k3;exact .inr (e3▸h)
 by_cases k39:j=39
 ·subst k39;exact .inr (e39▸h)
 by_cases k40:j=40
 ·subst k40;exact .inr (e40▸h)
 by_cases k41:j=41
 ·subst k41;exact .inr (e41▸h)
 left
 have raw:∀ j,j<42→j≠3→j≠39→j≠40→j≠41→∃ u,x.ac[j]? = some (AC.raw u):=by
  intro j hj _ _ _ _
  iterate 42 (rcases j with _ |j;· first |exact ⟨_,rfl⟩ |contradiction)
  omega
 obtain ⟨u,hu⟩:=raw j hj k3 k39 k40 k41
 rw [hu] at h
 exact ⟨u,by simpa using h.symm⟩
def X5 (s a:Int) (o:H8) (n:Int):CV := .agg ((.int .i64 s :: .int .i64 a::(o.cells++[.int .i64 n])).map .raw)
def yV (n:Int):Int:=IntKind.i64.wrap (1125899906842624 - n)
def jY (x:au) (n:Int):Bool := !(decide (n<1)) && (kX n && (!(decide (yV n<x.bal)) && !(decide (yV n<x.fwd))))
def rE (x:au) (n:Int):Int:=if x.ceased=true then 14 else if jY x n=true then 0 else 5
def xQ (x:au) (n:Int):au:=if rE x n=0 then { x with bal:=IntKind.i64.wrap (x.bal + n),fwd:=IntKind.i64.wrap (x.fwd + n) } else x
theorem Tx {L:List au} {i:Nat} (hi:i<L.length) {x:au} (h:x=L.getD i default):L.set i x=L:=by
 subst h
 rw [List.getD_eq_getElem?_getD,List.getElem?_eq_getElem hi]
 exact List.set_getElem_self hi
theorem I8 {L:List au} {i:Nat} (hi:i<L.length) {n:Int} (h:rE (L.getD i default) n≠0):L.set i (xQ (L.getD i default) n)=L:=Tx hi (by rw [xQ,if_neg h])
set_option maxHeartbeats 4000000 in
theorem Lj (L:List au) (i:Nat) (hi:i<L.length) (a:Int) (o:H8) (n:Int):fH Tryz.prog 66 (.abs (fI L)) (.abs (fI (L.set i (xQ (L.getD i default) n)))) [.plain (X5 i a o n)] [] (XV.int .i64 (rE (L.getD i default) n)):=by
 have h0:0<L.length:=by omega
 have hin:Nn L (i:Int)=true:=by rw [Nn,Bool.and_eq_true,decide_eq_true_eq,decide_eq_true_eq];omega
 have hreg:=uJ L (i:Int)
 rw [hin] at hreg
 refine fH.of Tryz.aA Tryz.func66 rfl _ _ _ _ _ rfl rfl rfl (fun C hC => ?_)
 (replace hC:C.n0=2:=hC;change av _ _ _ ⟨_,_,2⟩ _)
 refine xK 2 ?_
 refine xC rfl Tryz.func55 rfl (hreg.at [] rfl rfl rfl ⟨ah rfl,trivial⟩ trivial) ?_
 refine wD <| ak <| Reg.opens zx zw L 0 h0 rfl (Nat.le_of_ble_eq_true rfl) (fun ad => ?_)
 refine xK 4 ?_
 (repeat (refine wN ?_ ?_;exact xW;refine xG ?_))
 simp only [Nat.zero_add,Int.toNat_natCast]
 obtain ⟨x,hx⟩:∃ x,L.getD i default=x:=⟨_,rfl⟩
 have no:∀ {S:St} {mem:Mem} {e:Int},rE x n=e→e≠0→aN C S ⟨S.slots,(0,.abs (fI L))::mem,S.nx⟩→tK Tryz.T ⟨S.slots,(0,.abs (fI L))::mem,S.nx⟩ Tryz.f66.results.toList=some (XV.int .i64 e) →
   Sx.Ends C Tryz.T Tryz.f66.results.toList 1 2 ⟨XV.int .i64 (rE (L.getD i default) n),[(0,.abs (fI (L.set i (xQ (L.getD i default) n))))],none⟩ .ret S:=by
  intro S mem e he h0 hE hr
  rw [I8 hi (by rw [hx,he];exact h0),hx,he]
  exact Ends.bZ (.inr rfl) hE rfl hr rfl
 have shut:=fun {slots:List (Option XV)} {mem:Mem} {nx:Nat} k0 k1 k2=>Reg.mJ (C:=C) (slots:=slots) (mem:=mem) (nx:=nx) zx zw L L 0 (i1:=14) (q:=15) (ad:=ad) (m:=L.length) (n:=L.length) h0 k0 k1 k2 rfl rfl rfl (fun _ _=>rfl) jP
 refine wC (fun h1 => ?_) (fun h1 => ?_)
 ·rw [hx] at h1
  (refine xG ?_)
  exact wD (aV (no (if_pos h1) (by decide) (shut rfl rfl rfl) rfl))
 rw [hx] at h1
 have bad:jY x n=false→rE x n=5:=fun h=>by rw [rE,if_neg (by rw [h1];simp),if_neg (by rw [h];simp)]
 (refine xG ?_)
 refine wC (fun h2 => ?_) (fun h2 => ?_)
 ·(refine xG ?_)
  exact wD (aV (no (bad (by rw [jY,h2];rfl)) (by decide) (shut rfl rfl rfl) rfl))
 (refine xG ?_)
 refine xC rfl Tryz.func119 rfl (yB n _ _) ?_
 refine wC (fun h3 => ?_) (fun h3 => ?_)
 ·have h3:kX n=false:=by simpa using h3
  (refine xG ?_)
  exact wD (aV (no (bad (by rw [jY,h2,h3];rfl)) (by decide) (shut rfl rfl rfl) rfl))
 have h3:kX n=true:=by simpa using h3
 (refine xG ?_)
 (repeat (refine wN ?_ ?_;exact xW;refine xG ?_))
 refine wC (fun h4 => ?_) (fun h4 => ?_)
 ·rw [hx] at h4
  (refine xG ?_)
  exact wD (aV (no (bad (by rw [jY,h2,h3,yV,h4];rfl)) (by decide) (shut rfl rfl rfl) rfl))
 rw [hx] at h4
 (refine xG ?_)
 (repeat (refine wN ?_ ?_;exact xW;refine xG ?_))
 refine wC (fun h5 => ?_) (fun h5 => ?_)
 ·rw [hx] at h5
  (refine xG ?_)
  exact wD (aV (no (bad (by rw [jY,h2,h3,yV,h4,h5];rfl)) (by decide) (shut rfl rfl rfl) rfl))
 rw [hx] at h5
 have he:rE x n=0:=by rw [rE,if_neg (by rw [h1];simp),if_pos (by rw [jY,h2,h3,yV,h4,h5];rfl)]
 have hX:xQ x n={ x with bal:=IntKind.i64.wrap (x.bal + n),fwd:=IntKind.i64.wrap (x.fwd + n) }:=by rw [xQ,if_pos he]
 (refine xG ?_)
 (repeat (refine wN ?_ ?_;exact xW;refine xG ?_))
 simp only [Nat.zero_add,Int.toNat_natCast]
 rw [hx]
 refine wD <| ak <| av.ent (aN.D7 (c:=14) (g:=fun k=>dK 0 (bP (L.set i { x with bal:=IntKind.i64.wrap (x.bal + n) }) k) (ad k)) rfl fun k hk => ?_) (xI ?_)
 ·by_cases hki:k=i
  ·subst hki
   rw [jE,iU hi,bP,hx];rfl
  ·rw [iG hki,iV hki]
 (refine xB ?_)
 (repeat (refine wN ?_ ?_;exact xW;refine xG ?_))
 simp only [Nat.zero_add,Int.toNat_natCast]
 have hg:(L.set i { x with bal:=IntKind.i64.wrap (x.bal + n) }).getD i default={ x with bal:=IntKind.i64.wrap (x.bal + n) }:=by
  rw [List.getD_eq_getElem?_getD,List.getElem?_set_self hi];rfl
 rw [hg,he,hX]
 have hl:∀ y:au,(L.set i y).length=L.length:=fun y=>List.length_set ..
 refine wD (Ends.bZ (.inr rfl) (Reg.mJ zx zw L (L.set i { x with bal:=IntKind.i64.wrap (x.bal + n),fwd:=IntKind.i64.wrap (x.fwd + n) }) 0 (i1:=14) (q:=15) (ad:=ad) (by rw [hl];exact h0) rfl rfl rfl rfl (hl _).symm (hl _).symm (fun k hk => ?_) (fun k hk j y hy => ?_)) rfl rfl rfl)
 ·by_cases hki:k=i
  ·subst hki
   rw [jE,iU hi,iU hi];rfl
  ·rw [iG hki,iV hki,iV hki]
 ·by_cases hki:k=i
  ·subst hki
   rw [iU hi] at hy
   rw [bP,hx]
   exact qd (x:={ x with bal:=IntKind.i64.wrap (x.bal + n),fwd:=IntKind.i64.wrap (x.fwd + n) }) (y:=x) rfl rfl rfl rfl hy
  ·rw [iV hki] at hy
   exact .inr hy
set_option maxRecDepth 100000
open Go.Sx
def q8 (p:gZ):Bool:=wI p && yN p
theorem Vh (p:gZ):rG p=(q8 p && oZ p.keys):=by
 rw [rG,q8,Bool.and_assoc,Bool.and_comm (oZ _)]
theorem IW (a b:H8):Ut a b=decide (b=a):=by rw [Ut,Bool.eq_iff_iff,decide_eq_true_eq,decide_eq_true_eq];exact eq_comm
def PO (p:gZ):Mem:=[(0,.ro 8 p.keys.length (dA p.keys)),(1,.cells 40 (Yd p))]
set_option maxHeartbeats 4000000 in
theorem AL (p:gZ) (hl:p.keys.length≤1000000000):Reads Tryz.prog 112 [.box p.ac] [] (XV.bool (rG p)):=by
 refine Reads.of Tryz.aA Tryz.func112 rfl _ _ _ rfl rfl (fun C hC => ?_)
 (replace hC:C.n0=1:=hC;change av _ _ _ ⟨_,_,1⟩ _)
 rw [Vh]
 refine xK 2 ?_
 have no:q8 p=false→XV.bool false=XV.bool (q8 p && oZ p.keys):=fun h=>by rw [h,Bool.false_and]
 refine wC (fun h1 => ?_) (fun h1 => ?_)
 ·(refine xG ?_)
  exact wD <| aV <| Ends.plain (.inr rfl) rfl (no (by rw [q8,wI,h1];rfl))
 (refine xG ?_)
 refine wC (fun h2 => ?_) (fun h2 => ?_)
 ·(refine xG ?_)
  exact wD <| aV <| Ends.plain (.inr rfl) rfl (no (by rw [q8,wI,h1,h2];rfl))
 (refine xG ?_)
 refine wC (fun h3 => ?_) (fun h3 => ?_)
 ·(refine xG ?_)
  exact wD <| aV <| Ends.plain (.inr rfl) rfl (no (by rw [q8,wI,h1,h2,h3];rfl))
 (refine xG ?_)
 refine wC (fun h4 => ?_) (fun h4 => ?_)
 ·(refine xG ?_)
  exact wD <| aV <| Ends.plain (.inr rfl) rfl (no (by rw [q8,wI,h1,h2,h3,h4];rfl))
 have hN:wI p=true:=by rw [wI,h1,h2,h3,h4];rfl
 have noT:yN p=false→XV.bool false=XV.bool (q8 p && oZ p.keys):=fun h=>no (by rw [q8,h,Bool.and_false])
 (refine xG ?_)
 refine wC (fun h5 => ?_) (fun h5 => ?_)
 ·(refine xG ?_)
  exact wD <| aV <| Ends.plain (.inr rfl) rfl (noT (by rw [yN,decide_eq_false (show ¬ 2≤p.len by simp only [decide_eq_true_eq] at h5;omega)];rfl))
 (refine xG ?_)
 refine wC (fun h6 => ?_) (fun h6 => ?_)
 ·(refine xG ?_)
  exact wD <| aV <| Ends.plain (.inr rfl) rfl (noT (by rw [yN,decide_eq_false (show ¬ p.len≤64 by simp only [decide_eq_true_eq] at h6;omega),Bool.false_and,Bool.and_false]))
 (refine xG ?_)
 refine wC (fun h7 => ?_) (fun h7 => ?_)
 ·(refine xG ?_)
  exact wD <| aV <| Ends.plain (.inr rfl) rfl (noT (by rw [yN,decide_eq_false (show ¬ 1≤p.win by simp only [decide_eq_true_eq] at h7;omega),Bool.false_and,Bool.and_false,Bool.and_false]))
 (refine xG ?_)
 refine wC (fun h8 => ?_) (fun h8 => ?_)
 ·(refine xG ?_)
  exact wD <| aV <| Ends.plain (.inr rfl) rfl (noT (by rw [yN,decide_eq_false (show ¬ p.win≤p.len by simp only [decide_eq_true_eq] at h8;omega),Bool.and_false,Bool.and_false,Bool.and_false]))
 have hT:yN p=true:=by
  simp only [decide_eq_false_iff_not] at h5 h6 h7 h8
  rw [yN,decide_eq_true (show 2≤p.len by omega),decide_eq_true (show p.len≤64 by omega),decide_eq_true (show 1≤p.win by omega),decide_eq_true (show p.win≤p.len by omega)];rfl
 have hN2:q8 p=true:=by rw [q8,hN,hT];rfl
 rw [hN2,Bool.true_and]
 (refine xG ?_)
 refine wD <| ak <| av.seq ?_
 refine xK 1 ?_
 refine wD <| ak <| av.block ?_
 refine av.loop (α:={ i:Nat // i≤p.keys.length∧(List.range i).all (pW p.keys)=true }) (fun i=>⟨[none,some (XV.sv (.ptr 1 0 0 0)),none,some (XV.int .i64 i.1)]++List.replicate 75 none,PO p,2⟩) (fun i=>p.keys.length - i.1) ⟨0,Nat.zero_le _,rfl⟩ ?_ ?_
 ·unfold PO
  ((try dsimp only);exact xE [0,1] hC)
 rintro ⟨i,hi,ha⟩
 dsimp only
 unfold PO
 refine xK 1 ?_
 refine wC (fun k1 => ?_) (fun k1 => ?_)
 ·(refine xG ?_)
  have h1':i<p.keys.length:=xW
  have hs:=tH (pW p.keys) i
  have hw:IntKind.i64.wrap ((i:Int) + 1)=((i + 1:Nat):Int):=xW
  have bad:pW p.keys i=false→XV.bool false=XV.bool (oZ p.keys):=fun h=>by rw [oZ,ru h1' h]
  refine wD <| ak <| av.seq <| av.block ?_
  refine av.seq ?_
  refine av.seq (xI ?_)
  (refine xB ?_)
  refine wD <| ak <| av.block ?_
  refine av.loop (α:={ k:Nat // k≤i∧(p.keys.take k).any (Ut (p.keys.getD i default))=false }) (fun k=>⟨[none,some (XV.sv (.ptr 1 0 0 0)),none,some (XV.int .i64 i),some (XV.int .i64 k.1)]++List.replicate 74 none,PO p,2⟩) (fun k=>i - k.1) ⟨0,Nat.zero_le _,by simp⟩ ?_ ?_
  ·unfold PO
   ((try dsimp only);exact xE [0,1] hC)
  rintro ⟨k,hk,hka⟩
  dsimp only
  unfold PO
  refine xK 1 ?_
  refine wC (fun k2 => ?_) (fun k2 => ?_)
  ·(refine xG ?_)
   have h2':k<i:=xW
   have hw2:IntKind.i64.wrap ((k:Int) + 1)=((k + 1:Nat):Int):=xW
   have hsk:=rR (p:=Ut (p.keys.getD i default)) (show k<p.keys.length by omega)
   refine wD <| ak <| av.seq <| av.block <| xI ?_
   (refine xB ?_)
   (repeat (refine wN ?_ ?_;exact xW;refine xG ?_))
   simp only [Nat.zero_add,Int.toNat_natCast]
   (refine wP _ _ (uW pV rfl (p.keys.getD k default) (p.keys.getD i default) rfl rfl) ?_;refine xZ ?_)
   refine wC (fun k3 => ?_) (fun k3 => ?_)
   ·(refine xG ?_)
    have hq:(p.keys.take i).any (Ut (p.keys.getD i default))=true:=by
     rw [List.any_eq_true]
     refine ⟨p.keys.getD k default,?_,by rw [IW];exact k3⟩
     rw [List.getD_eq_getElem?_getD,List.getElem?_eq_getElem (by omega)]
     show p.keys[k]∈_
     rw [List.mem_take_iff_getElem]
     exact ⟨k,by omega,rfl⟩
    exact wD <| aQ <| aV <| fq <| aQ <| aV <| aQ <| aV <| fq <| aQ <| aV <| Ends.plain (.inr rfl) rfl (bad (by rw [pW,hq];simp))
   ·(refine xG ?_)
    refine wD <| aJ <| ak <| xI ?_
    (refine xB ?_)
    refine wD <| aP ⟨⟨k + 1,h2',by rw [hsk,hka,Bool.false_or,IW];exact k3⟩,by dsimp only;omega,?_⟩
    rw [hw2]
    ((try dsimp only);exact xE [0,1] hC)
  ·(refine xG ?_)
   have h2':k=i:=xW
   subst h2'
   refine wD <| bW <| aS <| aI <| ak <| xI ?_
   (refine xB ?_)
   (repeat (refine wN ?_ ?_;exact xW;refine xG ?_))
   simp only [Nat.zero_add,Int.toNat_natCast]
   refine xC rfl Tryz.func147 rfl ((FU (p.keys.getD k default)).at [] ⟨ah rfl,trivial⟩ trivial) ?_
   refine wC (fun k3 => ?_) (fun k3 => ?_)
   ·(refine xG ?_)
    exact wD <| aQ <| aV <| fq <| aQ <| aV <| Ends.plain (.inr rfl) rfl (bad (by rw [pW,k3];rfl))
   ·(refine xG ?_)
    refine wD <| aJ <| ak <| xI ?_
    (refine xB ?_)
    refine wD <| aP ⟨⟨k + 1,h1',by rw [hs,ha,pW,k3,hka];rfl⟩,by dsimp only;omega,?_⟩
    rw [hw]
    ((try dsimp only);exact xE [0,1] hC)
 ·(refine xG ?_)
  have h1':i=p.keys.length:=xW
  subst h1'
  refine wD <| bW <| aS <| aI <| ak <| xI ?_
  (refine xB ?_)
  exact wD (Ends.plain (.inr rfl) rfl (by rw [oZ,ha]))
def pY (k:Int):H8:=⟨113,dn (IntKind.u8.wrap k),0,0,0,0,0,0⟩
theorem Ke (k:Int):Reads Tryz.prog 118 [.plain (.one (.raw (.int .i64 k)))] [] (.cv (pY k).x):=by
 refine Reads.of Tryz.aA Tryz.func118 rfl _ _ _ rfl rfl (fun C hC => ?_)
 (replace hC:C.n0=1:=hC;change av _ _ _ ⟨_,_,1⟩ _)
 refine xI ?_
 (refine xB ?_)
 refine wD (Ends.plain (.inr rfl) rfl ?_)
 show _=XV.cv (.agg [.raw (u8 113),.raw (u8 (dn (IntKind.u8.wrap k))),.raw (u8 0),.raw (u8 0),.raw (u8 0),.raw (u8 0),.raw (u8 0),.raw (u8 0)])
 rw [dI];rfl
def tF (n:Nat):List H8:=(List.range n).map fun k:Nat=>vE (pY (k:Int))
theorem qK (n:Nat):tF (n + 1)=tF n++[vE (pY (n:Int))]:=by simp [tF,List.range_succ]
theorem FD (n:Nat):(tF n).length=n:=by simp [tF]
def VK (n:Nat) (need:Int):gZ:=⟨4,2,need,tF n⟩
theorem OQ {l:List H8} {x:H8} {f:Nat→List Value} {m k:Nat} (hm:m=l.length) (hf:f 0=x.cells) (hk:k<m + 1):eB (dA l) m f k=dA (l++[x]) k:=by
 subst hm
 simp only [eB,yG]
 by_cases h:k<l.length
 ·rw [decide_eq_true h,cond_true,dA,rowOf,dA,rowOf,List.getD_eq_getElem?_getD,List.getD_eq_getElem?_getD,List.getElem?_append_left h]
 ·obtain rfl:k=l.length:=by omega
  rw [decide_eq_false h,cond_false,Nat.sub_self,hf,dA,rowOf];simp
def LM (n:Nat) (need:Int) (i:Nat):St :=
 ⟨[some (XV.int .i64 n),none,none,none,some (XV.sv (.ptr 2 0 0 0)),some (XV.sv (.ptr 3 0 0 0)),some (XV.int .i64 i)]++List.replicate 20 none,
  [(2,.cells 40 (sU L6 (.raw (.slice none 0 0)))),(3,.cells 40 [.raw (.int .i64 4),.raw (.int .i64 2),.raw (.int .i64 need),.slc 4 8 0 i]),(4,.vec 29 8 i (dA (tF i)))],5⟩
set_option maxHeartbeats 2000000 in
theorem Jo (n:Nat) (hn:n≤8) (need:Int):Makes Tryz.prog 64 [.plain (.one (.raw (.int .i64 n))),.plain (.one (.raw (.int .i64 need)))] [] (.cv (.agg [.raw (.int .i64 4),.raw (.int .i64 2),.raw (.int .i64 need),.slc 0 8 0 n])) (.vec 29 8 n (dA (tF n))):=by
 refine Makes.of Tryz.aA Tryz.func64 rfl _ _ _ _ rfl rfl rfl rfl 4 (fun C hC => ?_)
 (replace hC:C.n0=2:=hC;change av _ _ _ ⟨_,_,2⟩ _)
 refine xK 2 ?_
 refine wD <| ak <| av.ent (aN.sM (c:=5) (e:=40) (cs:=[.raw (.int .i64 4),.raw (.int .i64 2),.raw (.int .i64 need),.raw (.slice none 0 0)]) (j:=3) rfl rfl 29 8) <| av.seq ?_
 refine xK 1 ?_
 refine wD <| ak <| av.block ?_
 refine av.loop (α:={ i:Nat // i≤n }) (fun i=>LM n need i.1) (fun i=>n - i.1) ⟨0,Nat.zero_le _⟩ ?_ ?_
 ·unfold LM
  ((try dsimp only);refine aN.dH [0,1,2,5,7] hC ?_ ?_<;>repeat' (first |exact trivial |exact rfl |exact ⟨_,rfl,rfl,rfl,Nat.le_refl _,fun _ _=>rfl⟩ |exact ⟨_,rfl,rfl,rfl,fun _ _=>rfl⟩ |exact ⟨_,rfl,rfl,rfl⟩ |exact ⟨_,rfl,rfl⟩ |refine ⟨_,rfl,rfl,rfl,by omega,fun k hk => ?_⟩ |refine ⟨?_,?_⟩ |fail))
  exact absurd hk (Nat.not_lt_zero _)
 rintro ⟨i,hi⟩
 dsimp only
 unfold LM
 refine xK 1 ?_
 refine wC (fun h1 => ?_) (fun h1 => ?_)
 ·(refine xG ?_)
  have h1':i<n:=xW
  have hw:IntKind.i64.wrap ((i:Int) + 1)=((i + 1:Nat):Int):=xW
  (refine zm ?_ ?_;(first |refine decide_eq_true ?_ |rw [beq_iff_eq] |rw [bne_iff_ne]);exact xW;refine xG ?_)
  refine wD <| ak <| av.seq <| av.block <| xI ?_
  (refine xB ?_)
  refine xC rfl Tryz.func118 rfl ((Ke (i:Int)).at [] ⟨ah rfl,trivial⟩ trivial) ?_
  refine xC rfl Tryz.func117 rfl ((TV (pY (i:Int))).at [] ⟨ah rfl,trivial⟩ trivial) ?_
  (refine wP _ _ (aD Tryz.aA rfl rfl rfl rfl rfl [4,17] (aR rfl rfl (Nat.le_refl _) rfl) (bU (lo:=0) rfl rfl (Nat.le_refl _) rfl) rfl (Ig rfl) (by simp only [maxLen];omega) (by dsimp only;omega)) ?_;refine xZ ?_)
  refine wD <| aJ <| ak <| xI ?_
  (refine xB ?_)
  refine wD <| aP ⟨⟨i + 1,h1'⟩,by dsimp only;omega,?_⟩
  rw [hw]
  ((try dsimp only);refine aN.dH [0,1,2,3,18] hC ?_ ?_<;>repeat' (first |exact trivial |exact rfl |exact ⟨_,rfl,rfl,rfl,Nat.le_refl _,fun _ _=>rfl⟩ |exact ⟨_,rfl,rfl,rfl,fun _ _=>rfl⟩ |exact ⟨_,rfl,rfl,rfl⟩ |exact ⟨_,rfl,rfl⟩ |refine ⟨_,rfl,rfl,rfl,by omega,fun k hk => ?_⟩ |refine ⟨?_,?_⟩ |fail))
  rw [qK]
  exact OQ (FD _).symm rfl hk
 ·(refine xG ?_)
  have h1':i=n:=xW
  subst h1'
  refine wD <| bW <| aS <| aI <| ak <| xI ?_
  (refine xB ?_)
  exact wD (Ends.made (.inr rfl) (aN.refl _) rfl (Nat.le_of_ble_eq_true rfl) rfl)
set_option maxRecDepth 100000
open Go.Sx
abbrev YN:TypeId:=177
def YL (l:Bn):Nat→List Value:=fun i=>[.int .i64 ((l.getD i default).1:Int)]
def YM (l:Bn):Nat→List Value:=fun i=>(l.getD i default).2.cells
def RP (l:Bn):Mem:=[(0,.cells YN [.slc 1 1 0 l.length,.slc 2 8 0 l.length]),(1,.vec 3 1 l.length (YL l)),(2,.vec 29 8 l.length (YM l))]
def Zc (l:Bn):mQ:=vB (RP l) True
section
variable {P:Program} {C:Ctx} {cd:Code} {slots:List (Option XV)} {mem:Mem} {nx:Nat} {Q:Exit→St→Prop}
theorem Lv.opens (l:Bn) (c:Nat) (hc:mem.get c=some (.abs (Zc l)))
  (h:av P C cd ⟨slots,(c,.cells YN [.slc (nx + 1) 1 0 l.length,.slc (nx + 2) 8 0 l.length])::(nx + 1,.vec 3 1 l.length (YL l))::(nx + 2,.vec 29 8 l.length (YM l))::mem.del c,nx + 3⟩ Q):av P C cd ⟨slots,mem,nx⟩ Q :=
 av.opens (M:=RP l) (m:=3) (inv:=True) (c:=c) hc rfl fun _=>h
theorem Lv.shuts (l:Bn) (c:Nat) {i1 i2 m1 m2 n1 n2:Nat} {f g:Nat→List Value}
  (k0:mem.get c=some (.cells YN [.slc i1 1 0 m1,.slc i2 8 0 m2])) (k1:mem.get i1=some (.vec 3 1 n1 f)) (k2:mem.get i2=some (.vec 29 8 n2 g))
  (hids:(Nat.beq c i1 || Nat.beq c i2 || Nat.beq i1 i2)=false) (hm1:m1=l.length) (hm2:m2=l.length) (hl1:l.length≤n1) (hl2:l.length≤n2) (hf:∀ i,i<l.length→f i=YL l i) (hg:∀ i,i<l.length→g i=YM l i) :
  aN C ⟨slots,mem,nx⟩ ⟨slots,(c,.abs (Zc l))::mem.mD [c,i1,i2],nx⟩:=by
 subst hm1 hm2
 exact aN.Ki (S:=⟨slots,mem,nx⟩) (M:=RP l) (inv:=True) hids trivial rfl rfl rfl rfl k0 k1 k2 rfl ⟨rfl,rfl⟩ ⟨rfl,rfl,hl1,hf⟩ ⟨rfl,rfl,hl2,hg⟩
end
set_option maxRecDepth 100000
open Go.Sx
set_option maxRecDepth 100000
open Go.Sx
set_option maxRecDepth 100000
open Go.Sx
set_option maxRecDepth 100000
open Go.Sx
set_option maxRecDepth 100000
open Go.Sx
def ng (x:au) (a b d e:Nat):List SV:=gq x (.slc a 8 0 x.par.keys.length) (.slc b 9 0 x.cert.outs.length) (.slc d 282 0 x.cert.sigs.length) (.slc e 1 0 x.used.length)
end Go.Proofs.YtnpkdoggfnlapaaGreatDoor
namespace Go.Sx
theorem Does.at2 {P:Program} {f:FuncId} {a b a2 b2:Chunk} {l:List AD} {es:List iX} {X:XV} {fr:Option Chunk} (h:Does P f [(a,b),(a2,b2)] l es X fr) {Xs:List CV} {M:Mem} {c c2 d:Nat} (rd:List Nat) (hc:M.get c=some a) (hc2:M.get c2=some a2) (hids:(Nat.beq c c2 || Nat.beq c d || Nat.beq c2 d)=false) (hrd:(gI c rd || gI c2 rd)=false) (ha:lg M rd Xs l) (he:lq M rd es) :
  aC P f (.one (.ptr c 0 0 0) :: .one (.ptr c2 0 0 0)::Xs) M d { v:=X.ren fun _=>d,upd:=(c,b)::(c2,b2)::UR d fr,wr:=[c,c2] } (c::c2::rd):=by
 simp only [Bool.or_eq_false_iff,aL,decide_eq_false_iff_not] at hids hrd
 refine h.at [c,c2] rd rfl (by simp [hids.1.1,hids.1.2,hids.2]) (by simp [hrd.1,hrd.2]) (fun i c' x h1 h2 => ?_) ha he
 match i with
 | 0 =>
  simp only [List.getElem?_cons_zero,Option.some.injEq] at h1 h2
  subst h1 h2;exact hc
 | 1 =>
  simp only [List.getElem?_cons_succ,List.getElem?_cons_zero,Option.some.injEq] at h1 h2
  subst h1 h2;exact hc2
 | i + 2=>simp at h1
theorem Ends.wQ {C:Ctx} {T:aU} {rs:List ResultVar} {n0:Nat} {X v:XV} {S S':St} {e:Exit} {ch ch2:Chunk} (he:e = .normal∨e = .ret) (hE:aN C S S') (hm:S'.mem.get 0=some ch) (hm2:S'.mem.get 1=some ch2) (hr:tK T S' rs=some v) (hv:v=X) :
  Ends C T rs 2 n0 ⟨X,[(0,ch),(1,ch2)],none⟩ e S:=by
 refine ⟨he,_,hE,by rw [hr,hv],fun i ch' h => ?_,fun i ch h=>by cases h⟩
 simp only [Mem.get,aL] at h
 by_cases hk:0=i
 ·subst hk
  simp only [decide_true,cond_true,Option.some.injEq] at h
  exact ⟨by omega,by rw [← h];exact hm⟩
 ·by_cases hk1:1=i
  ·subst hk1
   simp only [hk,decide_false,decide_true,cond_true,cond_false,Option.some.injEq] at h
   exact ⟨by omega,by rw [← h];exact hm2⟩
  ·simp [hk,hk1] at h
end Go.Sx
namespace Go.Proofs.YtnpkdoggfnlapaaGreatDoor
set_option maxRecDepth 100000
open Go.Sx
set_option maxRecDepth 100000
open Go.Sx
def Gf.x (f:Gf):CV := .agg (f.cells.map .raw)
theorem Wp {a b:Int}:decide (b<a) = !decide (a≤b):=by rw [Bool.eq_iff_iff];simp
theorem Wo {a b c:Int} (h:b=c):decide (a<b) = !decide (c≤a):=by subst h;rw [Bool.eq_iff_iff];simp
theorem uD (o:dG):pX o = !(ku o.to || (decide (o.amt.toInt<1) || decide (1125899906842624<o.amt.toInt))):=by
 rw [pX,nN,aO,Wo (a:=o.amt.toInt) (b:=1) rfl,Wp]
 cases ku o.to<;>cases decide (1≤o.amt.toInt)<;>cases decide (o.amt.toInt≤1125899906842624)<;>rfl
theorem PW (l:List dG) (hl:l.length≤1000000000):Reads Tryz.prog 110 [.row 9 l.length (bE l)] [] (XV.bool (eZ l)):=by
 refine Reads.of Tryz.aA Tryz.func110 rfl _ _ _ rfl rfl (fun C hC => ?_)
 (replace hC:C.n0=1:=hC;change av _ _ _ ⟨_,_,1⟩ _)
 refine xK 2 ?_
 refine wC (fun h0 => ?_) (fun h0 => ?_)
 ·have h0':16<l.length:=xW
  (refine xG ?_)
  refine wD <| aV <| Ends.plain (.inr rfl) rfl ?_
  rw [eZ,show decide (l.length≤16)=false by rw [decide_eq_false_iff_not];omega,Bool.and_false]
 have h0':l.length≤16:=xW
 (refine xG ?_)
 refine wD <| ak <| av.seq ?_
 refine xK 1 ?_
 refine wD <| ak <| av.block ?_
 refine av.loop (α:={ i:Nat // i≤l.length∧(l.take i).all pX=true }) (fun i=>⟨[some (XV.sv (.slc 0 9 0 l.length)),none,none,some (XV.int .i64 i.1)]++List.replicate 31 none,[(0,.ro 9 l.length (bE l))],1⟩) (fun i=>l.length - i.1) ⟨0,Nat.zero_le _,rfl⟩ ?_ ?_
 ·((try dsimp only);exact xE [0] hC)
 rintro ⟨i,hi,ha⟩
 dsimp only
 refine xK 1 ?_
 refine wC (fun h1 => ?_) (fun h1 => ?_)
 ·(refine xG ?_)
  have h1':i<l.length:=xW
  have hs:=lQ (p:=pX) h1'
  have hw:IntKind.i64.wrap ((i:Int) + 1)=((i + 1:Nat):Int):=xW
  refine wD <| ak <| av.seq <| av.block <| xI ?_
  (refine xB ?_)
  (repeat (refine wN ?_ ?_;exact xW;refine xG ?_))
  simp only [Nat.zero_add,Int.toNat_natCast]
  refine xC rfl Tryz.func147 rfl ((FU (l.getD i default).to).at [] ⟨ah rfl,trivial⟩ trivial) ?_
  refine wC (fun h2 => ?_) (fun h2 => ?_)
  ·(refine xG ?_)
   refine wD <| aQ <| aV <| fq <| aQ <| aV <| Ends.plain (.inr rfl) rfl ?_
   rw [eZ,all_false h1' (by rw [uD,h2];rfl),Bool.false_and]
  ·(refine xG ?_)
   (repeat (refine wN ?_ ?_;exact xW;refine xG ?_))
   simp only [Nat.zero_add,Int.toNat_natCast]
   refine wC (fun h3 => ?_) (fun h3 => ?_)
   ·(refine xG ?_)
    refine wD <| aQ <| aV <| fq <| aQ <| aV <| Ends.plain (.inr rfl) rfl ?_
    rw [eZ,all_false h1' (by rw [uD,h2,h3];rfl),Bool.false_and]
   ·(refine xG ?_)
    (repeat (refine wN ?_ ?_;exact xW;refine xG ?_))
    simp only [Nat.zero_add,Int.toNat_natCast]
    refine wC (fun h4 => ?_) (fun h4 => ?_)
    ·(refine xG ?_)
     refine wD <| aQ <| aV <| fq <| aQ <| aV <| Ends.plain (.inr rfl) rfl ?_
     rw [eZ,all_false h1' (by rw [uD,h2,h3,h4];rfl),Bool.false_and]
    ·(refine xG ?_)
     refine wD <| aJ <| ak <| xI ?_
     (refine xB ?_)
     refine wD <| aP ⟨⟨i + 1,h1',by rw [hs,ha,uD,h2,h3,h4];rfl⟩,by dsimp only;omega,?_⟩
     rw [hw]
     ((try dsimp only);exact xE [0] hC)
 ·(refine xG ?_)
  have h1':i=l.length:=xW
  subst h1'
  rw [List.take_length] at ha
  refine wD <| bW <| aS <| aI <| ak <| xI ?_
  (refine xB ?_)
  refine wD (Ends.plain (.inr rfl) rfl ?_)
  rw [eZ,ha,show decide (l.length≤16)=true from decide_eq_true h0'];rfl
set_option maxRecDepth 100000
open Go.Sx
set_option maxRecDepth 100000
open Go.Sx
theorem O6 (p:gZ) (hl:p.keys.length≤1000000000):Reads Tryz.prog 108 [.box p.ac] [] (XV.bool (uU p)):=by
 refine Reads.of Tryz.aA Tryz.func108 rfl _ _ _ rfl rfl (fun C hC => ?_)
 (replace hC:C.n0=1:=hC;change av _ _ _ ⟨_,_,1⟩ _)
 refine xI ?_
 (refine xB ?_)
 refine wC (fun h1 => ?_) (fun h1 => ?_)
 ·(refine xG ?_)
  refine wC (fun h2 => ?_) (fun h2 => ?_)
  ·(refine xG ?_)
   refine wC (fun h3 => ?_) (fun h3 => ?_)
   ·(refine xG ?_)
    exact wD (Ends.plain (.inr rfl) rfl (by rw [uU,h1,h2,h3];rfl))
   ·(refine xG ?_)
    exact wD (Ends.plain (.inr rfl) rfl (by rw [uU,h1,h2,h3];rfl))
  ·(refine xG ?_)
   exact wD (Ends.plain (.inr rfl) rfl (by rw [uU,h1,h2];rfl))
 ·(refine xG ?_)
  exact wD (Ends.plain (.inr rfl) rfl (by rw [uU,h1];rfl))
end Go.Proofs.YtnpkdoggfnlapaaGreatDoor
namespace Go.Sx
theorem R3 {S:St} {x:Operand} {c off sz sz1 i j k cap n:Nat} {f g:Nat→List Value} {rd:List Nat} (hx:S.ev x=some (XV.sv (.sla c off sz1 k cap))) (hm:S.mem.get c=some (.ro sz n f)) (hrd:gI c rd=true) (hoff:off=i * sz + j) (hi:i<n) (hl:∀ q,q<k→(g q).length=sz1) (hf:((f i).drop j).take (k * sz1)=fZ g 0 k):Ai S x rd sz1 k g:=by
 intro β ow w v h1 h2
 have hv:=h1 _ hx
 have hh:=h2 c ((bH c rd).1 hrd) _ hm
 obtain ⟨a,e1,e2,e3⟩:=hv
 simp only [Holds] at hh
 by_cases hnil:(β c).nil=true
 ·rw [if_pos hnil] at hh
  omega
 rw [if_neg hnil] at hh
 obtain ⟨v1,v2,v7⟩:=hh
 refine ⟨⟨some a,_,e1,fun hk=>⟨a,rfl,lD hl fun q hq r v hv => ?_⟩⟩,hl⟩
 have hr:r<sz1:=by rw [← hl q hq];exact (List.getElem?_eq_some_iff.1 hv).1
 have hg:((f i).drop j)[q * sz1 + r]? = some v:=by
  have h5:=flat_get (m:=k) hl hq hr
  rw [← nk,← hf,hv] at h5
  rw [List.getElem?_take] at h5
  split at h5
  ·exact h5
  ·cases h5
 rw [List.getElem?_drop] at hg
 have:=(v7 i hi).2 (j + (q * sz1 + r)) v hg
 rw [e3 (by omega),gH,← this]
 congr 2
 rw [hoff];omega
end Go.Sx
namespace Go.Proofs.YtnpkdoggfnlapaaGreatDoor
set_option maxRecDepth 100000
open Go.Sx
theorem IQ {E:Type} (pre l:List E) (k:Nat):(pre++l).drop (pre.length + k)=l.drop k:=by rw [← List.drop_drop,List.drop_left]
theorem xR (p:Nat→H8):dV p 0=[]:=rfl
theorem zk (p:Nat→H8):∀ (m i n:Nat) (post:List Value),n<m→(((fZ (bG p) i m++post).drop (n * 8)).take 8)=(p (i + n)).cells
 | 0,_,_,_,h=>absurd h (Nat.not_lt_zero _)
 | m + 1,i,0,post,_=>rfl
 | m + 1,i,n + 1,post,h=>by
  have e:(n + 1) * 8=(p i).cells.length + n * 8:=by show _=8 + n * 8;omega
  show (((p i).cells++fZ (bG p) (i + 1) m++post).drop ((n + 1) * 8)).take 8=_
  rw [List.append_assoc,e,IQ,zk p m (i + 1) n post (by omega)]
  rw [show i + 1 + n=i + (n + 1) by omega]
theorem tZ (p:Nat→H8) (j:Nat) {m n off l:Nat} {pre post cs:List Value} (hcs:cs=pre++(fZ (bG p) 0 m++post)) (hn:n<m) (hj:j=pre.length) (hoff:off=j + n * 8) (hl:l=8):((cs.map SV.raw).drop off).take (l * 1)=(fZ (bI (p n).l) 0 l).map .raw:=by
 subst hcs hoff hj hl
 rw [← List.map_drop,← List.map_take,IQ,zk p m 0 n post hn,Nat.zero_add]
 rfl
def oL (s:kF) (a b c:Nat):List UInt8:=(bA s.idx 1::(dV s.opn a++(dV s.shut b++dV s.path c))).flatten
theorem uO (s:kF) (a b c:Nat):(oL s a b c).length=1 + 8 * (a + b + c):=by
 simp only [oL,List.flatten_cons,List.flatten_append,List.length_append,qE,aK];omega
theorem Vo (s:kF) (a:Nat):oL s (a + 1) 0 0=oL s a 0 0++(s.opn a).l:=by simp [oL,kJ,xR]
theorem Vp (s:kF) (b:Nat):oL s 16 (b + 1) 0=oL s 16 b 0++(s.shut b).l:=by simp [oL,kJ,xR]
theorem Vq (s:kF) (c:Nat):oL s 16 16 (c + 1)=oL s 16 16 c++(s.path c).l:=by simp [oL,kJ]
theorem Kj (s:kF):s.cells=[.int .i64 s.idx]++(fZ (bG s.opn) 0 16++(fZ (bG s.shut) 0 16++fZ (bG s.path) 0 3)):=by simp [kF.cells]
theorem Kk (s:kF):s.cells=(.int .i64 s.idx::fZ (bG s.opn) 0 16)++(fZ (bG s.shut) 0 16++fZ (bG s.path) 0 3):=by simp [kF.cells]
theorem Kl (s:kF):s.cells=(.int .i64 s.idx::(fZ (bG s.opn) 0 16++fZ (bG s.shut) 0 16))++(fZ (bG s.path) 0 3++[]):=by simp [kF.cells]
def qN (s:kF) (pre:List (Option XV)) (post:Nat) (b:List UInt8) (i:Nat):St :=
 ⟨[none,some (XV.sv (.ptr 1 0 0 0)),none,some (XV.sv (.slc 2 1 0 b.length))]++pre++[some (XV.int .i64 i)]++List.replicate post none,[(1,.cells 190 (s.cells.map .raw)),(2,.vec 5 1 b.length (bI b))],3⟩
set_option maxHeartbeats 4000000 in
theorem Tj (s:kF):Makes Tryz.prog 149 [.plain s.x] [] (XV.sv (.slc 0 1 0 281)) (.vec 5 1 281 (bI s.parts.flatten)):=by
 refine Makes.of Tryz.aA Tryz.func149 rfl _ _ _ _ rfl rfl rfl rfl 2 (fun C hC => ?_)
 (replace hC:C.n0=1:=hC;change av _ _ _ ⟨_,_,1⟩ _)
 refine xK 2 ?_
 refine xC rfl Tryz.func72 rfl ((jT s.idx 1 (by decide)).at [] ⟨ah rfl,ah rfl,trivial⟩ trivial) ?_
 refine wD <| ak <| av.seq ?_
 refine xK 1 ?_
 refine wD <| ak <| av.block ?_
 refine av.loop (α:={ i:Nat // i≤16 }) (fun i=>qN s [] 36 (oL s i.1 0 0) i.1) (fun i=>16 - i.1) ⟨0,Nat.zero_le _⟩ ?_ ?_
 ·dsimp only
  rw [qN,uO]
  ((try dsimp only);exact xE [0,1,5] hC)
 rintro ⟨i,hi⟩
 dsimp only
 have hl:=uO s i 0 0
 refine xK 1 ?_
 refine wC (fun h1 => ?_) (fun h1 => ?_)
 ·(refine xG ?_)
  have h1':i<16:=xW
  have hw:IntKind.i64.wrap ((i:Int) + 1)=((i + 1:Nat):Int):=xW
  refine wD <| ak <| av.seq <| av.block <| xI ?_
  (refine xB ?_)
  (repeat (refine wN ?_ ?_;exact xW;refine xG ?_))
  simp only [Nat.zero_add,Int.toNat_natCast]
  (refine wP _ _ (aD Tryz.aA rfl rfl rfl rfl rfl [2,1] (aR rfl rfl (Nat.le_refl _) rfl) (jw (g:=bI (s.opn i).l) rfl rfl rfl (fun _ _=>rfl) (tZ s.opn 1 (Kj s) h1' rfl (by omega) rfl)) rfl (fun _ _=>rfl) (by simp only [maxLen];omega) (by dsimp only;omega)) ?_;refine xZ ?_)
  refine wD <| aJ <| ak <| xI ?_
  (refine xB ?_)
  refine wD <| aP ⟨⟨i + 1,h1'⟩,by dsimp only;omega,?_⟩
  rw [hw]
  dsimp only
  rw [qN,Vo,List.length_append]
  ((try dsimp only);refine aN.dH [0,1,10] hC ?_ ?_<;>repeat' (first |exact trivial |exact rfl |exact ⟨_,rfl,rfl,rfl,Nat.le_refl _,fun _ _=>rfl⟩ |exact ⟨_,rfl,rfl,rfl,fun _ _=>rfl⟩ |exact ⟨_,rfl,rfl,rfl⟩ |exact ⟨_,rfl,rfl⟩ |refine ⟨_,rfl,rfl,rfl,by omega,fun k hk => ?_⟩ |refine ⟨?_,?_⟩ |fail))
  ·exact Nat.le_refl _
  exact fun k hk=>eG rfl (fun _ _=>rfl) (fun _ _=>rfl) hk
 ·(refine xG ?_)
  have h1':i=16:=xW
  subst h1'
  refine wD <| bW <| aS <| aI <| ak <| av.seq ?_
  refine xK 1 ?_
  refine wD <| ak <| av.block ?_
  refine av.loop (α:={ i:Nat // i≤16 }) (fun i=>qN s [none] 35 (oL s 16 i.1 0) i.1) (fun i=>16 - i.1) ⟨0,Nat.zero_le _⟩ ?_ ?_
  ·dsimp only
   rw [qN]
   ((try dsimp only);exact xE [0,1,2] hC)
  rintro ⟨i,hi⟩
  dsimp only
  have hl:=uO s 16 i 0
  refine xK 1 ?_
  refine wC (fun h1 => ?_) (fun h1 => ?_)
  ·(refine xG ?_)
   have h1':i<16:=xW
   have hw:IntKind.i64.wrap ((i:Int) + 1)=((i + 1:Nat):Int):=xW
   refine wD <| ak <| av.seq <| av.block <| xI ?_
   (refine xB ?_)
   (repeat (refine wN ?_ ?_;exact xW;refine xG ?_))
   simp only [Nat.zero_add,Int.toNat_natCast]
   (refine wP _ _ (aD Tryz.aA rfl rfl rfl rfl rfl [2,1] (aR rfl rfl (Nat.le_refl _) rfl) (jw (g:=bI (s.shut i).l) rfl rfl rfl (fun _ _=>rfl) (tZ s.shut 129 (Kk s) h1' rfl (by omega) rfl)) rfl (fun _ _=>rfl) (by simp only [maxLen];omega) (by dsimp only;omega)) ?_;refine xZ ?_)
   refine wD <| aJ <| ak <| xI ?_
   (refine xB ?_)
   refine wD <| aP ⟨⟨i + 1,h1'⟩,by dsimp only;omega,?_⟩
   rw [hw]
   dsimp only
   rw [qN,Vp,List.length_append]
   ((try dsimp only);refine aN.dH [0,1,10] hC ?_ ?_<;>repeat' (first |exact trivial |exact rfl |exact ⟨_,rfl,rfl,rfl,Nat.le_refl _,fun _ _=>rfl⟩ |exact ⟨_,rfl,rfl,rfl,fun _ _=>rfl⟩ |exact ⟨_,rfl,rfl,rfl⟩ |exact ⟨_,rfl,rfl⟩ |refine ⟨_,rfl,rfl,rfl,by omega,fun k hk => ?_⟩ |refine ⟨?_,?_⟩ |fail))
   ·exact Nat.le_refl _
   exact fun k hk=>eG rfl (fun _ _=>rfl) (fun _ _=>rfl) hk
  ·(refine xG ?_)
   have h1':i=16:=xW
   subst h1'
   refine wD <| bW <| aS <| aI <| ak <| av.seq ?_
   refine xK 1 ?_
   refine wD <| ak <| av.block ?_
   refine av.loop (α:={ i:Nat // i≤3 }) (fun i=>qN s [none,none] 34 (oL s 16 16 i.1) i.1) (fun i=>3 - i.1) ⟨0,Nat.zero_le _⟩ ?_ ?_
   ·dsimp only
    rw [qN]
    ((try dsimp only);exact xE [0,1,2] hC)
   rintro ⟨i,hi⟩
   dsimp only
   have hl:=uO s 16 16 i
   refine xK 1 ?_
   refine wC (fun h1 => ?_) (fun h1 => ?_)
   ·(refine xG ?_)
    have h1':i<3:=xW
    have hw:IntKind.i64.wrap ((i:Int) + 1)=((i + 1:Nat):Int):=xW
    refine wD <| ak <| av.seq <| av.block <| xI ?_
    (refine xB ?_)
    (repeat (refine wN ?_ ?_;exact xW;refine xG ?_))
    simp only [Nat.zero_add,Int.toNat_natCast]
    (refine wP _ _ (aD Tryz.aA rfl rfl rfl rfl rfl [2,1] (aR rfl rfl (Nat.le_refl _) rfl) (jw (g:=bI (s.path i).l) rfl rfl rfl (fun _ _=>rfl) (tZ s.path 257 (Kl s) h1' rfl (by omega) rfl)) rfl (fun _ _=>rfl) (by simp only [maxLen];omega) (by dsimp only;omega)) ?_;refine xZ ?_)
    refine wD <| aJ <| ak <| xI ?_
    (refine xB ?_)
    refine wD <| aP ⟨⟨i + 1,h1'⟩,by dsimp only;omega,?_⟩
    rw [hw]
    dsimp only
    rw [qN,Vq,List.length_append]
    ((try dsimp only);refine aN.dH [0,1,10] hC ?_ ?_<;>repeat' (first |exact trivial |exact rfl |exact ⟨_,rfl,rfl,rfl,Nat.le_refl _,fun _ _=>rfl⟩ |exact ⟨_,rfl,rfl,rfl,fun _ _=>rfl⟩ |exact ⟨_,rfl,rfl,rfl⟩ |exact ⟨_,rfl,rfl⟩ |refine ⟨_,rfl,rfl,rfl,by omega,fun k hk => ?_⟩ |refine ⟨?_,?_⟩ |fail))
    ·exact Nat.le_refl _
    exact fun k hk=>eG rfl (fun _ _=>rfl) (fun _ _=>rfl) hk
   ·(refine xG ?_)
    have h1':i=3:=xW
    subst h1'
    refine wD <| bW <| aS <| aI <| ak <| xI ?_
    (refine xB ?_)
    exact wD (Ends.made (.inr rfl) (aN.refl _) rfl (Nat.le_of_ble_eq_true rfl) rfl)
set_option maxRecDepth 100000
open Go.Sx
theorem fO {a b:List UInt8} {f g:Nat→List Value} {m:Nat} (hm:m=a.length) (hf:∀ i,i<a.length→f i=bI a i) (hg:∀ i,i<b.length→g i=bI b i):∀ i,i<(a++b).length→eB f m g i=bI (a++b) i:=fun i hi=>eG hm hf hg (by rw [← List.length_append];exact hi)
theorem Qp {f:Nat→List Value} {n:Nat}:∀ i,i<n→f (0 + i)=f i:=fun i _=>by rw [Nat.zero_add]
def sP (l:List dG) (i:Nat):List UInt8:=(bA (l.length:Int) 1::(l.take i).flatMap dG.parts).flatten
theorem CU {l:List dG} {i:Nat} (hi:i<l.length):sP l (i + 1)=sP l i++(l.getD i default).to.l++bA (l.getD i default).amt.toInt 7:=by
 rw [sP,sP,iQ _ hi]
 simp [dG.parts]
theorem Fh (l:List dG):sP l l.length=(eF l).flatten:=by rw [sP,List.take_length,eF]
theorem uE (l:List dG):∀ i,i≤l.length→(sP l i).length=1 + 15 * i
 | 0,_=>by simp [sP,aK]
 | i + 1,h=>by rw [CU h,List.length_append,List.length_append,uE l i (by omega),aK,H8.jg];omega
set_option maxHeartbeats 1000000 in
theorem Mx (l:List dG) (hn:l.length≤1000):Makes Tryz.prog 89 [.row 9 l.length (bE l)] [] (XV.sv (.slc 0 1 0 (eF l).flatten.length)) (.vec 5 1 (eF l).flatten.length (bI (eF l).flatten)):=by
 refine Makes.of Tryz.aA Tryz.func89 rfl _ _ _ _ rfl rfl rfl rfl 1 (fun C hC => ?_)
 (replace hC:C.n0=1:=hC;change av _ _ _ ⟨_,_,1⟩ _)
 refine xK 2 ?_
 refine xC rfl Tryz.func72 rfl ((jT (l.length:Int) 1 (by decide)).at [] ⟨ah rfl,ah rfl,trivial⟩ trivial) ?_
 refine wD <| ak <| av.seq ?_
 refine xK 1 ?_
 refine wD <| ak <| av.block ?_
 refine av.loop (α:={ i:Nat // i≤l.length }) (fun i=>⟨[some (XV.sv (.slc 0 9 0 l.length)),none,none,some (XV.sv (.slc 1 1 0 (sP l i.1).length)),some (XV.int .i64 i.1)]++List.replicate 24 none,[(0,.ro 9 l.length (bE l)),(1,.vec 5 1 (sP l i.1).length (bI (sP l i.1)))],2⟩) (fun i=>l.length - i.1) ⟨0,Nat.zero_le _⟩ ?_ ?_
 ·dsimp only
  rw [uE l 0 (Nat.zero_le _)]
  ((try dsimp only);exact xE [0,4] hC)
 rintro ⟨i,hi⟩
 dsimp only
 have hl:=uE l i hi
 refine xK 1 ?_
 refine wC (fun h1 => ?_) (fun h1 => ?_)
 ·(refine xG ?_)
  have h1':i<l.length:=xW
  have hw:IntKind.i64.wrap ((i:Int) + 1)=((i + 1:Nat):Int):=xW
  refine wD <| ak <| av.seq <| av.block <| xI ?_
  (refine xB ?_)
  (repeat (refine wN ?_ ?_;exact xW;refine xG ?_))
  simp only [Nat.zero_add,Int.toNat_natCast]
  (refine wP _ _ (aD Tryz.aA rfl rfl rfl rfl rfl [1,0] (aR rfl rfl (Nat.le_refl _) rfl) (R3 (i:=i) (j:=0) (g:=bI (l.getD i default).to.l) rfl rfl rfl (by omega) h1' (fun _ _=>rfl) rfl) rfl (fun _ _=>rfl) (by simp only [maxLen];omega) (by dsimp only;omega)) ?_;refine xZ ?_)
  (repeat (refine wN ?_ ?_;exact xW;refine xG ?_))
  simp only [Nat.zero_add,Int.toNat_natCast]
  refine xC rfl Tryz.func72 rfl ((jT (l.getD i default).amt.toInt 7 (by decide)).at [] ⟨ah rfl,ah rfl,trivial⟩ trivial) ?_
  (refine wP _ _ (aD Tryz.aA rfl rfl rfl rfl rfl [12,18] (aR rfl rfl (Nat.le_refl _) rfl) (bU (lo:=0) rfl rfl (Nat.le_refl _) rfl) rfl (fun _ _=>rfl) (by simp only [maxLen];omega) (by dsimp only;omega)) ?_;refine xZ ?_)
  refine wD <| aJ <| ak <| xI ?_
  (refine xB ?_)
  refine wD <| aP ⟨⟨i + 1,h1'⟩,by dsimp only;omega,?_⟩
  rw [hw]
  dsimp only
  rw [CU h1',List.length_append,List.length_append]
  ((try dsimp only);refine aN.dH [0,19] hC ?_ ?_<;>repeat' (first |exact trivial |exact rfl |exact ⟨_,rfl,rfl,rfl,Nat.le_refl _,fun _ _=>rfl⟩ |exact ⟨_,rfl,rfl,rfl,fun _ _=>rfl⟩ |exact ⟨_,rfl,rfl,rfl⟩ |exact ⟨_,rfl,rfl⟩ |refine ⟨_,rfl,rfl,rfl,by omega,fun k hk => ?_⟩ |refine ⟨?_,?_⟩ |fail))
  ·exact Nat.le_refl _
  rw [← List.length_append,← List.length_append]
  exact fO (by rw [List.length_append];rfl) (fO rfl (fun _ _=>rfl) (fun _ _=>rfl)) Qp
 ·(refine xG ?_)
  have h1':i=l.length:=xW
  subst h1'
  rw [Fh]
  refine wD <| bW <| aS <| aI <| ak <| xI ?_
  (refine xB ?_)
  exact wD (Ends.made (.inr rfl) (aN.refl _) rfl (Nat.le_of_ble_eq_true rfl) rfl)
set_option maxRecDepth 100000
open Go.Sx
set_option maxRecDepth 100000
open Go.Sx
set_option maxRecDepth 100000
open Go.Sx
theorem WH:Reads Tryz.prog 108 [.box L6.ac] [] (XV.bool true):=O6 L6 (Nat.zero_le _)
set_option maxRecDepth 100000
open Go.Sx
set_option maxRecDepth 100000
open Go.Lib Go.Sort
def uR:List UInt8→Nat
 | []=>0
 | x::r=>x.toNat * 256 ^ r.length + uR r
theorem qo:∀ l:List UInt8,uR l<256 ^ l.length
 | []=>by simp [uR]
 | x::r=>by
  have:=qo r
  have h:=x.toNat_lt
  simp only [uR,List.length_cons,Nat.pow_succ]
  have:(x.toNat + 1) * 256 ^ r.length≤256 * 256 ^ r.length:=Nat.mul_le_mul_right _ (by omega)
  rw [Nat.add_mul,Nat.one_mul] at this
  omega
theorem CO (x y:UInt8) (m a b:Nat) (ha:a<m) (hb:b<m):(x.toNat * m + a<y.toNat * m + b↔x.toNat<y.toNat∨(x=y∧a<b))∧(x.toNat * m + a=y.toNat * m + b↔x=y∧a=b):=by
 rcases Nat.lt_trichotomy x.toNat y.toNat with h |h |h
 ·have h1:(x.toNat + 1) * m≤y.toNat * m:=Nat.mul_le_mul_right _ h
  rw [Nat.add_mul,Nat.one_mul] at h1
  have hne:x≠y:=fun e=>by rw [e] at h;omega
  exact ⟨⟨fun _ => .inl h,fun _=>by omega⟩,⟨fun e=>by omega,fun e=>absurd e.1 hne⟩⟩
 ·have e:x=y:=UInt8.toNat_inj.1 h
  subst e
  exact ⟨⟨fun h => .inr ⟨rfl,by omega⟩,fun h=>by rcases h with h |h<;>omega⟩,⟨fun h=>⟨rfl,by omega⟩,fun h=>by omega⟩⟩
 ·have h1:(y.toNat + 1) * m≤x.toNat * m:=Nat.mul_le_mul_right _ h
  rw [Nat.add_mul,Nat.one_mul] at h1
  have hne:x≠y:=fun e=>by rw [e] at h;omega
  exact ⟨⟨fun _=>by omega,fun e=>by rcases e with e |e;omega;exact absurd e.1 hne⟩,⟨fun e=>by omega,fun e=>absurd e.1 hne⟩⟩
theorem Ip:∀ {a b:List UInt8},a.length=b.length→uR a=uR b→a=b
 | [],[],_,_=>rfl
 | x::a,y::b,hl,h=>by
  have hl':a.length=b.length:=by simpa using hl
  simp only [uR,hl'] at h
  obtain ⟨rfl,h2⟩:=(CO x y _ _ _ (hl'▸qo a) (qo b)).2.1 h
  rw [Ip hl' h2]
theorem Nu:∀ {a b:List UInt8},a.length=b.length→(Jl a b=true↔uR a<uR b)
 | [],[],_=>by simp [Jl,uR]
 | x::a,y::b,hl=>by
  have hl':a.length=b.length:=by simpa using hl
  have h:=(CO x y _ _ _ (hl'▸qo a) (qo b)).1
  simp only [Jl,uR,hl',h]
  by_cases e:x=y
  ·subst e;simp [Nu hl']
  ·simp [e,UInt8.lt_iff_toNat_lt]
def Pt.num (p:Pt):Nat:=uR p.tx.l
theorem Pt.R7 {p q:Pt}:p.num=q.num↔p.tx=q.tx:=by
 constructor
 ·intro h
  have h:=Ip (a:=p.tx.l) (b:=q.tx.l) rfl h
  obtain ⟨⟨_,_,_,_,_,_,_,_⟩,_⟩:=p
  obtain ⟨⟨_,_,_,_,_,_,_,_⟩,_⟩:=q
  simp only [H8.l,List.cons.injEq,and_true] at h
  obtain ⟨rfl,rfl,rfl,rfl,rfl,rfl,rfl,rfl⟩:=h
  rfl
 ·intro h;simp only [Pt.num,h]
theorem Cq (p q:Pt):ig p q=true↔p.num<q.num∨(p.num=q.num∧p.no.toInt<q.no.toInt):=by
 unfold ig
 simp only [Bool.or_eq_true,Bool.and_eq_true,decide_eq_true_eq,Nu (a:=p.tx.l) (b:=q.tx.l) rfl,Pt.R7]
 rfl
theorem nL (p q:Pt):ig p q=false↔¬ (p.num<q.num∨(p.num=q.num∧p.no.toInt<q.no.toInt)):=by
 rw [← Cq];simp
theorem Cr:SWO ig where
 irrefl x:=by rw [nL];omega
 trans x y z h1 h2:=by rw [Cq] at *;omega
 ntrans x y z h1 h2:=by rw [nL] at *;omega
theorem Pt.X3 {p q:Pt} (h1:p.num=q.num) (h2:p.no.toInt=q.no.toInt):p=q:=by
 have h1:=Pt.R7.1 h1
 have h2:=Int64.toInt_inj.1 h2
 obtain ⟨_,_⟩:=p
 obtain ⟨_,_⟩:=q
 subst h1 h2
 rfl
theorem wo (x y:Pt) (h1:ig x y=false) (h2:ig y x=false):x=y:=by
 rw [nL] at *
 exact Pt.X3 (by omega) (by omega)
def jU (l:List Pt):List Pt:=l.mergeSort fun x y => !ig y x
theorem LB (a b c:Pt) (h1:(!ig b a)=true) (h2:(!ig c b)=true):(!ig c a)=true:=by
 simp only [Bool.not_eq_true',nL] at *;omega
theorem LA (a b:Pt):((!ig b a) || (!ig a b))=true:=by
 simp only [Bool.or_eq_true,Bool.not_eq_true',nL];omega
theorem nR (l:List Pt):(jU l).Pairwise fun x y=>(!ig y x)=true:=List.pairwise_mergeSort LB LA l
theorem jB (l:List Pt):(jU l).Perm l:=List.mergeSort_perm l _
theorem DC {l l':List Pt} (h:l.Perm l') (h1:l.Pairwise fun x y=>(!ig y x)=true) (h2:l'.Pairwise fun x y=>(!ig y x)=true):l=l':=by
 refine List.Perm.eq_of_pairwise (le:=fun x y=>(!ig y x)=true) (fun a b _ _ h1 h2 => ?_) h1 h2 h
 simp only [Bool.not_eq_true'] at h1 h2
 exact wo a b h2 h1
theorem Bj {l l':List Pt} (h:l.Perm l'):jU l=jU l' :=
 DC (((jB l).trans h).trans (jB l').symm) (nR l) (nR l')
end Go.Proofs.YtnpkdoggfnlapaaGreatDoor
