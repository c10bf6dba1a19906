/- Parts Zt Mh Mi Mj Zc Zd Zq Zu Mk Bw Ml. -/
import Derived.Test.YtnpkdoggfnlapaaGreatDoorG26
import Derived.Test.YtnpkdoggfnlapaaGreatDoorG20
import Derived.Test.YtnpkdoggfnlapaaGreatDoorG13
import Derived.Test.YtnpkdoggfnlapaaGreatDoorG25
import Derived.Test.YtnpkdoggfnlapaaGreatDoorG22
set_option linter.unusedSimpArgs false
set_option linter.unusedVariables false
namespace Go.Proofs.YtnpkdoggfnlapaaGreatDoor
set_option maxRecDepth 100000
open Go.Sx
def TT (L:List au):Nat→Int
 | 0=>0
 | i + 1=>IntKind.i64.wrap (TT L i + (L.getD i default).bal)
def Xx (L:List au) (ad:Nat→Nat→Option Addr×Nat) (i:Nat):St :=
 ⟨[none,none,none,some (XV.int .i64 (TT L i)),none,none,none,none,none,none,none,some (XV.sv (.slc 1 42 0 L.length)),some (XV.int .i64 L.length),some (XV.int .i64 i)]++List.replicate 9 none,
  [(0,.cells zx [.slc 1 42 0 L.length]),(1,.vec zw 42 L.length fun i=>dK 0 (bP L i) (ad i)),(2,.abs (dP L.length (bP L) ad))],3⟩
set_option maxHeartbeats 4000000 in
theorem MF (L:List au) (h0:0<L.length) (hl:L.length≤1000000):fH Tryz.prog 76 (.abs (fI L)) (.abs (fI L)) [] [] (XV.int .i64 (TT L L.length)):=by
 refine fH.of Tryz.aA Tryz.func76 rfl _ _ _ _ _ rfl rfl rfl (fun C hC => ?_)
 (replace hC:C.n0=1:=hC;change av _ _ _ ⟨_,_,1⟩ _)
 refine Reg.opens zx zw L 0 h0 rfl (Nat.le_of_ble_eq_true rfl) (fun ad => ?_)
 refine xK 3 ?_
 refine wD <| ak <| av.seq ?_
 refine xK 1 ?_
 refine wD <| ak <| av.block ?_
 refine av.loop (α:={ i:Nat // i≤L.length }) (fun i=>Xx L ad i.1) (fun i=>L.length - i.1) ⟨0,Nat.zero_le _⟩ ?_ ?_
 ·unfold Xx
  ((try dsimp only);exact xE [0,2,3] hC)
 rintro ⟨i,hi⟩
 dsimp only
 unfold Xx
 refine xK 2 ?_
 refine wC (fun h1 => ?_) (fun h1 => ?_)
 ·(refine xG ?_)
  have h1':i<L.length:=xW
  have hw:IntKind.i64.wrap ((i:Int) + 1)=((i + 1:Nat):Int):=xW
  refine wD <| ak <| av.seq <| av.block <| xI ?_
  (refine xB ?_)
  (repeat (refine wN ?_ ?_;exact xW;refine xG ?_))
  simp only [Nat.zero_add,Int.toNat_natCast]
  refine wD <| aJ <| ak <| xI ?_
  (refine xB ?_)
  refine wD <| aP ⟨⟨i + 1,h1'⟩,by dsimp only;omega,?_⟩
  rw [hw]
  ((try dsimp only);exact xE [0,1,2] hC)
 ·(refine xG ?_)
  have h1':i=L.length:=xW
  subst h1'
  refine wD <| bW <| aS <| aI <| ak <| xI ?_
  (refine xB ?_)
  exact wD (Ends.bZ (.inr rfl) (Reg.mJ zx zw L L 0 (i1:=1) (q:=2) (ad:=ad) h0 rfl rfl rfl rfl rfl rfl (fun _ _=>rfl) jP) rfl rfl rfl)
theorem Wt {a b e ch:Chunk} {i:Nat} (h:Mem.get [(0,a),(1,b),(2,e)] i=some ch):(i=0∧ch=a)∨(i=1∧ch=b)∨(i=2∧ch=e):=by
 match i with
 | 0=>exact .inl ⟨rfl,(Option.some.inj h).symm⟩
 | 1=>exact .inr (.inl ⟨rfl,(Option.some.inj h).symm⟩)
 | 2=>exact .inr (.inr ⟨rfl,(Option.some.inj h).symm⟩)
 | i + 3=>cases (show (none:Option Chunk)=some ch from h)
def AQ (L:List au) (ad:Nat→Nat→Option Addr×Nat):Mem :=
 [(0,.cells lV [.slc 1 42 0 L.length]),(1,.vec og 42 L.length fun i=>dK 0 (bP L i) (ad i)),(2,.abs (dP L.length (bP L) ad))]
theorem PI {f:FuncId} {fn:Func} {body:Code} (hf:Tryz.prog.funcs[f]? = some fn) (hb:fn.body=some body) (L:List au) (ad:Nat→Nat→Option Addr×Nat) (X:XV) (hX:X.ok (fun _=>false)=true) {M:Mem} {c i1 i2 d:Nat}
  (k0:M.get c=some (.cells lV [.slc i1 42 0 L.length])) (k1:M.get i1=some (.vec og 42 L.length fun i=>dK 0 (bP L i) (ad i))) (k2:M.get i2=some (.abs (dP L.length (bP L) ad))) (hdist:(Nat.beq c i1 || Nat.beq c i2 || Nat.beq i1 i2)=false) (hd:(Nat.beq d c || Nat.beq d i1 || Nat.beq d i2)=false)
  (h:∀ C:Ctx,C.n0=3→av Tryz.prog C body ⟨fV fn.ntmps [.cv (.one (.ptr 0 0 0 0))],AQ L ad,3⟩ (Sx.Ends C Tryz.T fn.results.toList 3 3 ⟨X,AQ L ad,none⟩)) :
  aC Tryz.prog f [.one (.ptr c 0 0 0)] M d { v:=X,upd:=[(c,.cells lV [.slc i1 42 0 L.length]),(i1,.vec og 42 L.length fun i=>dK 0 (bP L i) (ad i)),(i2,.abs (dP L.length (bP L) ad))],wr:=[c,i1,i2] } [c,i1,i2]:=by
 simp only [Bool.or_eq_false_iff,aL,decide_eq_false_iff_not] at hdist hd
 obtain ⟨⟨n1,n2⟩,n3⟩:=hdist
 obtain ⟨⟨m1,m2⟩,m3⟩:=hd
 refine qU (ids:=[c,i1,i2]) (rids:=[]) (k1:=3) (n0:=3) (Xl:=[.one (.ptr 0 0 0 0)]) (M0:=AQ L ad) (out:=⟨X,AQ L ad,none⟩) Tryz.aA hf hb (by simp [n1,n2,n3]) rfl rfl (by simp [m1,m2,m3]) rfl (fun i ch hi => ?_) (fun i ch hi => ?_) (fun i ch hi=>by cases hi) (XV.aG (fun _ h=>by cases h) hX) h rfl (XV.aM hX).symm rfl (fun q ch hq => ?_)
 ·rcases Wt hi with ⟨rfl,rfl⟩ |⟨rfl,rfl⟩ |⟨rfl,rfl⟩
  ·exact ⟨by decide,rfl,fun h=>by omega,fun ci hci=>by simp at hci;subst hci;exact k0⟩
  ·exact ⟨by decide,rfl,fun h=>by omega,fun ci hci=>by simp at hci;subst hci;exact k1⟩
  ·exact ⟨by decide,rfl,fun h=>by omega,fun ci hci=>by simp at hci;subst hci;exact k2⟩
 ·rcases Wt hi with ⟨rfl,rfl⟩ |⟨rfl,rfl⟩ |⟨rfl,rfl⟩<;>exact ⟨rfl,rfl⟩
 ·simp only [Mem.get,aL] at hq
  by_cases e0:c=q
  ·subst e0;simp at hq;subst hq;exact ⟨.cells lV [.slc 1 42 0 L.length],rfl,.inl ⟨0,rfl,rfl⟩⟩
  ·by_cases e1:i1=q
   ·subst e1;simp [e0] at hq;subst hq;exact ⟨_,rfl,.inl ⟨1,rfl,rfl⟩⟩
   ·by_cases e2:i2=q
    ·subst e2;simp [e0,e1] at hq;subst hq;exact ⟨_,rfl,.inl ⟨2,rfl,rfl⟩⟩
    ·simp [e0,e1,e2] at hq
def Xm (L:List au) (ad:Nat→Nat→Option Addr×Nat) (i:Nat):St :=
 ⟨[some (XV.sv (.ptr 0 0 0 0)),none,none,some (XV.int .i64 (TT L i)),some (XV.int .i64 i)]++List.replicate 20 none,AQ L ad,3⟩
set_option maxHeartbeats 4000000 in
theorem Kt (L:List au) (ad:Nat→Nat→Option Addr×Nat) (hl:L.length≤1000000) {M:Mem} {c i1 i2 d:Nat} (k0:M.get c=some (.cells lV [.slc i1 42 0 L.length])) (k1:M.get i1=some (.vec og 42 L.length fun i=>dK 0 (bP L i) (ad i))) (k2:M.get i2=some (.abs (dP L.length (bP L) ad))) (hdist:(Nat.beq c i1 || Nat.beq c i2 || Nat.beq i1 i2)=false) (hd:(Nat.beq d c || Nat.beq d i1 || Nat.beq d i2)=false) :
  aC Tryz.prog 77 [.one (.ptr c 0 0 0)] M d { v:=XV.int .i64 (TT L L.length),upd:=[(c,.cells lV [.slc i1 42 0 L.length]),(i1,.vec og 42 L.length fun i=>dK 0 (bP L i) (ad i)),(i2,.abs (dP L.length (bP L) ad))],wr:=[c,i1,i2] } [c,i1,i2]:=by
 refine PI Tryz.func77 rfl L ad _ rfl k0 k1 k2 hdist hd (fun C hC => ?_)
 unfold AQ
 refine xK 2 ?_
 refine wD <| ak <| av.seq ?_
 refine xK 1 ?_
 refine wD <| ak <| av.block ?_
 refine av.loop (α:={ i:Nat // i≤L.length }) (fun i=>Xm L ad i.1) (fun i=>L.length - i.1) ⟨0,Nat.zero_le _⟩ ?_ ?_
 ·unfold Xm AQ
  ((try dsimp only);exact xE [0,1,2] hC)
 rintro ⟨i,hi⟩
 dsimp only
 unfold Xm AQ
 refine xK 1 ?_
 refine wC (fun h1 => ?_) (fun h1 => ?_)
 ·(refine xG ?_)
  have h1':i<L.length:=xW
  have hw:IntKind.i64.wrap ((i:Int) + 1)=((i + 1:Nat):Int):=xW
  refine wD <| ak <| av.seq <| av.block <| xI ?_
  (refine xB ?_)
  (repeat (refine wN ?_ ?_;exact xW;refine xG ?_))
  simp only [Nat.zero_add,Int.toNat_natCast]
  refine wD <| aJ <| ak <| xI ?_
  (refine xB ?_)
  refine wD <| aP ⟨⟨i + 1,h1'⟩,by dsimp only;omega,?_⟩
  rw [hw]
  ((try dsimp only);exact xE [0,1,2] hC)
 ·(refine xG ?_)
  have h1':i=L.length:=xW
  subst h1'
  refine wD <| bW <| aS <| aI <| ak <| xI ?_
  (refine xB ?_)
  refine wD ⟨.inr rfl,_,aN.refl _,rfl,fun i ch hi => ?_,fun i ch h=>by cases h⟩
  rcases Wt hi with ⟨rfl,rfl⟩ |⟨rfl,rfl⟩ |⟨rfl,rfl⟩<;>exact ⟨by decide,rfl⟩
def Xe (L:List au) (ad:Nat→Nat→Option Addr×Nat) (i:Nat):St :=
 ⟨[some (XV.sv (.ptr 0 0 0 0)),some (XV.sv (.ptr 1 0 0 0)),none,none,none,some (XV.int .i64 i)]++List.replicate 64 none,
  [(0,.abs (fI L)),(1,.cells lV [.slc 2 42 0 L.length]),(2,.vec og 42 L.length fun i=>dK 0 (bP L i) (ad i)),(3,.abs (dP L.length (bP L) ad))],4⟩
set_option maxRecDepth 100000
open Go.Sx
def FW (c:aT):Mem :=
 [(0,.ro 9 c.outs.length (bE c.outs)),(1,.ro 282 c.sigs.length (bY c.sigs)),(2,.ro 9 c.outs.length (bE c.outs)),(3,.ro 282 c.sigs.length (bY c.sigs)),(4,.cells 43 (bR c (.slc 0 9 0 c.outs.length) (.slc 1 282 0 c.sigs.length))),(5,.cells 43 (bR c (.slc 2 9 0 c.outs.length) (.slc 3 282 0 c.sigs.length)))]
def Tt (c:aT) (i:Nat):St:=⟨[none,none,some (XV.sv (.ptr 4 0 0 0)),some (XV.sv (.ptr 5 0 0 0)),none,some (XV.int .i64 i)]++List.replicate 88 none,FW c,6⟩
def Tv (c:aT) (i:Nat):St:=⟨[none,none,some (XV.sv (.ptr 4 0 0 0)),some (XV.sv (.ptr 5 0 0 0)),none,none,some (XV.int .i64 i)]++List.replicate 87 none,FW c,6⟩
set_option maxHeartbeats 8000000 in
theorem Hu (c:aT) (ho:c.outs.length≤1000000) (hs:c.sigs.length≤1000000) (hg:c.sigs.all iW=true):Reads Tryz.prog 130 [.box c.ac,.box c.ac] [] (XV.bool true):=by
 refine Reads.of Tryz.aA Tryz.func130 rfl _ _ _ rfl rfl (fun C hC => ?_)
 (replace hC:C.n0=4:=hC;change av _ _ _ ⟨_,_,4⟩ _)
 refine xK 2 ?_
 refine kE (by simp) ?_
 (refine xG ?_)
 refine kE (by simp) ?_
 (refine xG ?_)
 refine kE (by simp) ?_
 (refine xG ?_)
 (refine wP _ _ (o7 pV rfl c.fin c.fin rfl rfl) ?_;refine xZ ?_)
 refine kE (by simp) ?_
 (refine xG ?_)
 (refine wP _ _ (o7 pV rfl c.root c.root rfl rfl) ?_;refine xZ ?_)
 refine kE (by simp) ?_
 (refine xG ?_)
 refine kE (by simp) ?_
 (refine xG ?_)
 refine kE (by simp) ?_
 (refine xG ?_)
 refine wD <| ak <| av.seq ?_
 refine xK 1 ?_
 refine wD <| ak <| av.block ?_
 refine av.loop (α:={ i:Nat // i≤c.outs.length }) (fun i=>Tt c i.1) (fun i=>c.outs.length - i.1) ⟨0,Nat.zero_le _⟩ ?_ ?_
 ·unfold Tt FW
  ((try dsimp only);exact xE [0,1,2,3,4,5] hC)
 rintro ⟨i,hi⟩
 dsimp only
 unfold Tt FW
 refine xK 1 ?_
 refine wC (fun h1 => ?_) (fun h1 => ?_)
 ·(refine xG ?_)
  have h1':i<c.outs.length:=xW
  have hw:IntKind.i64.wrap ((i:Int) + 1)=((i + 1:Nat):Int):=xW
  refine wD <| ak <| av.seq <| av.block <| xI ?_
  (refine xB ?_)
  (repeat (refine wN ?_ ?_;exact xW;refine xG ?_))
  simp only [Nat.zero_add,Int.toNat_natCast]
  (refine wP _ _ (o7 YS rfl (c.outs.getD i default) (c.outs.getD i default) rfl rfl) ?_;refine xZ ?_)
  refine kE (by simp) ?_
  (refine xG ?_)
  refine wD <| aJ <| ak <| xI ?_
  (refine xB ?_)
  refine wD <| aP ⟨⟨i + 1,h1'⟩,by dsimp only;omega,?_⟩
  rw [hw]
  ((try dsimp only);exact xE [0,1,2,3,4,5] hC)
 (refine xG ?_)
 refine wD <| bW <| aS <| aI <| ak <| av.seq ?_
 refine xK 1 ?_
 refine wD <| ak <| av.block ?_
 refine av.loop (α:={ i:Nat // i≤c.sigs.length }) (fun i=>Tv c i.1) (fun i=>c.sigs.length - i.1) ⟨0,Nat.zero_le _⟩ ?_ ?_
 ·unfold Tv FW
  ((try dsimp only);exact xE [0,1,2,3,4,5] hC)
 rintro ⟨i,hi⟩
 dsimp only
 unfold Tv FW
 refine xK 1 ?_
 refine wC (fun h1 => ?_) (fun h1 => ?_)
 ·(refine xG ?_)
  have h1':i<c.sigs.length:=xW
  have hw:IntKind.i64.wrap ((i:Int) + 1)=((i + 1:Nat):Int):=xW
  have hE:=Y5 (s:=c.sigs.getD i default) (by
   rw [List.getD_eq_getElem?_getD,List.getElem?_eq_getElem h1']
   exact List.all_eq_true.1 hg _ (List.getElem_mem _))
  refine wD <| ak <| av.seq <| av.block <| xI ?_
  (refine xB ?_)
  (repeat (refine wN ?_ ?_;exact xW;refine xG ?_))
  simp only [Nat.zero_add,Int.toNat_natCast]
  (refine wP _ _ (o7 hE rfl () () rfl rfl) ?_;refine xZ ?_)
  refine wD <| aJ <| ak <| xI ?_
  (refine xB ?_)
  refine wD <| aP ⟨⟨i + 1,h1'⟩,by dsimp only;omega,?_⟩
  rw [hw]
  ((try dsimp only);exact xE [0,1,2,3,4,5] hC)
 (refine xG ?_)
 refine wD <| bW <| aS <| aI <| ak <| xI ?_
 (refine xB ?_)
 exact wD (Ends.plain (.inr rfl) rfl rfl)
set_option maxHeartbeats 8000000 in
theorem Ei (x:au) (hx:x.gN) (hg:x.cert.sigs.all iW=true):Reads Tryz.prog 78 [.box x.ac,.box x.ac] [] (XV.bool true):=by
 have h1:=hx.keys
 have h4:=hx.used
 have hcc:=Hu x.cert hx.outs hx.sigs hg
 refine Reads.of Tryz.aA Tryz.func78 rfl _ _ _ rfl rfl (fun C hC => ?_)
 (replace hC:C.n0=8:=hC;change av _ _ _ ⟨_,_,8⟩ _)
 refine xK 2 ?_
 refine kE (by simp) ?_
 (refine xG ?_)
 refine kE (by simp) ?_
 (refine xG ?_)
 refine kE (by simp) ?_
 (refine xG ?_)
 refine xC rfl Tryz.func129 rfl ((Lp x.par.keys h1).at [0,4] ⟨aj rfl rfl,aj rfl rfl,trivial⟩ trivial) ?_
 refine kE (by simp) ?_
 (refine xG ?_)
 refine wD <| ak <| av.seq ?_
 refine xK 1 ?_
 refine wD <| ak <| av.block ?_
 refine av.loop (α:={ i:Nat // i≤x.used.length }) (fun i=>Xk x i.1) (fun i=>x.used.length - i.1) ⟨0,Nat.zero_le _⟩ ?_ ?_
 ·unfold Xk TH
  ((try dsimp only);exact xE [0,1,2,3,4,5,6,7,8,9] hC)
 rintro ⟨i,hi⟩
 dsimp only
 unfold Xk TH
 refine xK 1 ?_
 refine wC (fun k1 => ?_) (fun k1 => ?_)
 ·(refine xG ?_)
  have h1':i<x.used.length:=by have h9:((i:Nat):Int)<((x.used.length:Nat):Int):=of_decide_eq_true k1;omega
  have hw:IntKind.i64.wrap ((i:Int) + 1)=((i + 1:Nat):Int):=bK (by omega)
  have hiI:(0:Int)≤(i:Int)∧((i:Nat):Int)<((x.used.length:Nat):Int):=⟨Int.natCast_nonneg _,Int.ofNat_lt.2 h1'⟩
  refine wD <| ak <| av.seq <| av.block <| xI ?_
  (refine xB ?_)
  refine wN hiI ?_
  (refine xG ?_)
  simp only [Nat.zero_add,Int.toNat_natCast]
  refine wN h1' ?_
  (refine xG ?_)
  refine wN hiI ?_
  (refine xG ?_)
  simp only [Nat.zero_add,Int.toNat_natCast]
  refine wN h1' ?_
  (refine xG ?_)
  refine kE (by simp) ?_
  (refine xG ?_)
  refine wD <| aJ <| ak <| xI ?_
  (refine xB ?_)
  refine wD <| aP ⟨⟨i + 1,h1'⟩,by dsimp only;omega,?_⟩
  rw [hw]
  ((try dsimp only);exact xE [0,1,2,3,4,5,6,7,8,9] hC)
 ·(refine xG ?_)
  refine wD <| bW <| aS <| aI <| ak <| xI ?_
  (refine xB ?_)
  refine zm (by simp) ?_
  (refine xG ?_)
  refine zm (by simp) ?_
  (refine xG ?_)
  refine zm (by simp) ?_
  (refine xG ?_)
  refine zm (by simp) ?_
  (refine xG ?_)
  refine zm (by simp) ?_
  (refine xG ?_)
  refine zm (by simp) ?_
  (refine xG ?_)
  refine zm (by simp) ?_
  (refine xG ?_)
  (refine wP _ _ (uW pV rfl x.root x.root rfl rfl) ?_;refine xZ ?_)
  refine zm (by simp) ?_
  (refine xG ?_)
  refine zm (by simp) ?_
  (refine xG ?_)
  refine xC rfl Tryz.func130 rfl (hcc.at [1,2,5,6] ⟨bS (c:=x.cert) (aj rfl rfl) (aj rfl rfl),bS (c:=x.cert) (aj rfl rfl) (aj rfl rfl),trivial⟩ trivial) ?_
  exact wD (Ends.plain (.inr rfl) rfl rfl)
set_option maxRecDepth 100000
open Go.Sx
set_option maxHeartbeats 4000000 in
theorem Kc (L:List au) (h0:0<L.length) (hl:L.length≤1000000) (hL:∀ i,i<L.length→(L.getD i default).gN) (hP:∀ i,i<L.length→(L.getD i default).cert.sigs.all iW=true):Does Tryz.prog 40 [(.abs (fI L),.abs (fI L)),(.abs (kC L),.abs (kC L))] [] [] (XV.bool true) none:=by
 refine Does.of Tryz.aA Tryz.func40 rfl _ _ _ _ _ rfl rfl rfl 0 (fun C hC => ?_)
 (replace hC:C.n0=2:=hC;change av _ _ _ ⟨_,_,2⟩ _)
 refine Reg.opens lV og L 1 h0 rfl (Nat.le_of_ble_eq_true rfl) (fun ad => ?_)
 refine xK 2 ?_
 refine xC rfl Tryz.func35 rfl ((wJ L).at [] rfl rfl rfl trivial trivial) ?_
 refine kE (by simp) ?_
 (refine xG ?_)
 refine xC rfl Tryz.func76 rfl ((MF L h0 hl).at [] rfl rfl rfl trivial trivial) ?_
 refine xC rfl Tryz.func77 rfl (Kt L ad hl (i2:=4) rfl rfl rfl rfl rfl) ?_
 refine kE (by simp) ?_
 (refine xG ?_)
 refine wD <| ak <| av.seq ?_
 refine xK 1 ?_
 refine wD <| ak <| av.block ?_
 refine av.loop (α:={ i:Nat // i≤L.length }) (fun i=>Xe L ad i.1) (fun i=>L.length - i.1) ⟨0,Nat.zero_le _⟩ ?_ ?_
 ·unfold Xe
  ((try dsimp only);exact xE [0,1,3,4] hC)
 rintro ⟨i,hi⟩
 dsimp only
 unfold Xe
 refine xK 1 ?_
 refine wC (fun h1 => ?_) (fun h1 => ?_)
 ·(refine xG ?_)
  have h1':i<L.length:=xW
  have hw:IntKind.i64.wrap ((i:Int) + 1)=((i + 1:Nat):Int):=xW
  have k3:=qR L i h1' (hL i h1')
  have k4:=Ei (L.getD i default) (hL i h1') (hP i h1')
  refine wD <| ak <| av.seq <| av.block ?_
  refine xK 1 ?_
  refine xC rfl Tryz.func22 rfl (k3.QK [] rfl rfl rfl ⟨ah rfl,trivial⟩ trivial) ?_
  refine wD <| ak <| av.ent (aN.unpack (c:=13) (l:=kR (L.getD i default)) rfl) <| xI ?_
  (refine xB ?_)
  (repeat (refine wN ?_ ?_;exact xW;refine xG ?_))
  simp only [Nat.zero_add,Int.toNat_natCast]
  refine xC rfl Tryz.func78 rfl (k4.at [20,21,22,23,3] ⟨bL (x:=L.getD i default) (aF (lo:=0) rfl rfl rfl (Nat.le_of_eq (Nat.zero_add _)) (fun i _=>by rw [Nat.zero_add])) (aF (lo:=0) rfl rfl rfl (Nat.le_of_eq (Nat.zero_add _)) (fun i _=>by rw [Nat.zero_add])) (aF (lo:=0) rfl rfl rfl (Nat.le_of_eq (Nat.zero_add _)) (fun i _=>by rw [Nat.zero_add])) (aF (lo:=0) rfl rfl rfl (Nat.le_of_eq (Nat.zero_add _)) (fun i _=>by rw [Nat.zero_add])),sG (q:=3) (L:=L) (i:=i) (ad:=ad) rfl rfl h1',trivial⟩ trivial) ?_
  refine wD <| aJ <| ak <| xI ?_
  (refine xB ?_)
  refine wD <| aP ⟨⟨i + 1,h1'⟩,by dsimp only;omega,?_⟩
  rw [hw]
  ((try dsimp only);exact xE [0,1,2,3] hC)
 ·(refine xG ?_)
  have ho:=Dx L (L.length:Int) (by rw [Nn,decide_eq_false (Int.lt_irrefl _),Bool.and_false])
  refine wD <| bW <| aS <| aI <| ak <| xI ?_
  (refine xB ?_)
  refine xC rfl Tryz.func22 rfl (ho.QK [] rfl rfl rfl ⟨ah rfl,trivial⟩ trivial) ?_
  exact wD (Sx.Ends.wQ (.inr rfl) (Reg.mJ lV og L L 1 (i1:=2) (q:=3) (ad:=ad) h0 rfl rfl rfl rfl rfl rfl (fun _ _=>rfl) jP) rfl rfl rfl rfl)
set_option maxHeartbeats 4000000 in
theorem MG:fH Tryz.prog 76 (.abs (fI [])) (.abs (fI [])) [] [] (XV.int .i64 0):=by
 refine fH.of Tryz.aA Tryz.func76 rfl _ _ _ _ _ rfl rfl rfl (fun C hC => ?_)
 (replace hC:C.n0=1:=hC;change av _ _ _ ⟨_,_,1⟩ _)
 refine Reg.qJ zx zw 0 rfl ?_
 refine xK 3 ?_
 refine wD <| ak <| av.seq ?_
 refine xK 1 ?_
 refine wD <| ak <| av.block (av.loop (α:=Unit) (fun _=>_) (fun _=>0) () (aN.refl _) (fun _ => ?_))
 refine xK 2 ?_
 refine wD <| bW <| aS <| aI <| ak <| xI ?_
 (refine xB ?_)
 exact wD (Ends.bZ (.inr rfl) (Reg.pz zx zw 0 rfl) rfl rfl rfl)
set_option maxHeartbeats 4000000 in
theorem MW {M:Mem} {c d:Nat} (k0:M.get c=some (.cells lV [.raw (.slice none 0 0)])) (hd:Nat.beq d c=false) :
  aC Tryz.prog 77 [.one (.ptr c 0 0 0)] M d { v:=XV.int .i64 0,upd:=H9 [c] [.cells lV [.raw (.slice none 0 0)]],wr:=[c] } [c]:=by
 simp only [aL,decide_eq_false_iff_not] at hd
 refine wR (Xl:=[.one (.ptr 0 0 0 0)]) (X:=XV.int .i64 0) (chs:=[.cells lV [.raw (.slice none 0 0)]]) (chs':=[.cells lV [.raw (.slice none 0 0)]]) (es:=[]) (ids:=[c]) (rids:=[]) (k1:=1) (n0:=1) (M0:=[(0,.cells lV [.raw (.slice none 0 0)])]) Tryz.aA Tryz.func77 rfl rfl rfl rfl (by simp) (by simp [hd]) rfl rfl rfl rfl rfl ⟨k0,trivial⟩ trivial (fun C hC => ?_) rfl rfl rfl rfl
 refine xK 2 ?_
 refine wD <| ak <| av.seq ?_
 refine xK 1 ?_
 refine wD <| ak <| av.block (av.loop (α:=Unit) (fun _=>_) (fun _=>0) () (aN.refl _) (fun _ => ?_))
 refine xK 1 ?_
 refine wD <| bW <| aS <| aI <| ak <| xI ?_
 (refine xB ?_)
 exact wD (Sx.Ends.owned (.inr rfl) (aN.refl _) rfl rfl ⟨rfl,trivial⟩)
set_option maxHeartbeats 4000000 in
theorem MH:Does Tryz.prog 40 [(.abs (fI []),.abs (fI [])),(.abs (kC []),.abs (kC []))] [] [] (XV.bool true) none:=by
 refine Does.of Tryz.aA Tryz.func40 rfl _ _ _ _ _ rfl rfl rfl 0 (fun C hC => ?_)
 (replace hC:C.n0=2:=hC;change av _ _ _ ⟨_,_,2⟩ _)
 refine Reg.qJ lV og 1 rfl ?_
 refine xK 2 ?_
 refine xC rfl Tryz.func35 rfl ((wJ []).at [] rfl rfl rfl trivial trivial) ?_
 repeat (first |(refine kE rfl ?_;refine xG ?_) |(refine zm rfl ?_;refine xG ?_))
 refine xC rfl Tryz.func76 rfl (MG.at [] rfl rfl rfl trivial trivial) ?_
 refine xC rfl Tryz.func77 rfl (MW rfl rfl) ?_
 repeat (first |(refine kE rfl ?_;refine xG ?_) |(refine zm rfl ?_;refine xG ?_))
 refine wD <| ak <| av.seq ?_
 refine xK 1 ?_
 refine wD <| ak <| av.block (av.loop (α:=Unit) (fun _=>_) (fun _=>0) () (aN.refl _) (fun _ => ?_))
 refine xK 1 ?_
 have ho:=Dx [] (0:Int) (by decide)
 refine wD <| bW <| aS <| aI <| ak <| xI ?_
 (refine xB ?_)
 refine xC rfl Tryz.func22 rfl (ho.QK [] rfl rfl rfl ⟨ah rfl,trivial⟩ trivial) ?_
 exact wD (Sx.Ends.wQ (.inr rfl) (Reg.pz lV og 1 rfl) rfl rfl rfl rfl)
set_option maxRecDepth 100000
open Go.Sx
structure pK (x:au):Prop where
 par:x.par=mp
 made:x.made=3
 used:x.used=[]
 outs:x.cert.outs.length≤16
 sigs:x.cert.sigs.length≤5
 sgd:x.cert.sigs.all iW=true
theorem pK.sized {x:au} (h:pK x):x.gN:=vW h.par (by have:=h.outs;omega) (by have:=h.sigs;omega) h.used
theorem pK.due {x:au} (hx:pK x) {h:Nat} (hh:h≤1000) (hd:vQ h=false):(kW x (h:Int)).2=false:=by
 by_cases hc:x.ceased=true
 ·rw [K6 hc]
 ·exact (K7 ⟨hx.par,hx.made,by simpa using hc⟩ hh).1.trans hd
structure Il (L:List au) (S:aB) (R:RC) (h:Nat):Prop where
 all:∀ i,i<L.length→pK (L.getD i default)
 len:L.length≤8
 twin:Twin S R
 room:R.P.length≤128 * jO h
 steps:S.steps.length≤8000 * h
theorem IV {L:List au} {i:Nat} {y:au} (hi:i<L.length) (ha:∀ i,i<L.length→pK (L.getD i default)) (hy:pK y):∀ j,j<(L.set i y).length→pK ((L.set i y).getD j default):=fun j hj=>by
 rw [Tw hi]
 split
 ·exact hy
 ·exact ha j (by rwa [List.length_set] at hj)
theorem OC {L:List au} {S:aB} {R:RC} {h:Nat} (H:Il L S R h) (c:aT):Il (takeC L c (h:Int) mE).1 S R h∧(takeC L c (h:Int) mE).1.length=L.length:=by
 by_cases h0:jH L c (h:Int) mE=0
 ·have ht:takeC L c (h:Int) mE=(L.set c.side.toNat (nY (L.getD c.side.toNat default) c),0):=by rw [takeC,if_pos h0]
  obtain ⟨h1,h2,h3,-⟩:=rX h0
  obtain ⟨g1,⟨⟨s1,s2⟩,-,-⟩,-⟩:=dW.1 h1
  have hi:c.side.toNat<L.length:=by omega
  obtain ⟨-,a2,a3⟩:=Om h1
  have kx:=H.all _ hi
  obtain ⟨x,hx⟩:∃ x,L.getD c.side.toNat default=x:=⟨_,rfl⟩
  rw [hx] at kx
  have kw:pK (nY x c):=⟨kx.par,kx.made,kx.used,a2,a3,g1⟩
  rw [ht,hx]
  exact ⟨⟨IV hi H.all kw,by rw [List.length_set];exact H.len,H.twin,H.room,H.steps⟩,List.length_set ..⟩
 ·have ht:takeC L c (h:Int) mE=(L,jH L c (h:Int) mE):=by rw [takeC,if_neg h0]
  rw [ht]
  exact ⟨H,rfl⟩
theorem pK.pay {x:au} (h:pK x):pK (o9 x):=⟨h.par,h.made,h.used,Nat.zero_le _,Nat.zero_le _,rfl⟩
theorem pK.cease {x:au} (h:pK x) (n:Int):pK (iE x n):=⟨h.par,h.made,h.used,h.outs,h.sigs,h.sgd⟩
theorem Rs {L:List au} {R:RC} {h i:Nat} (hh:h≤1000) (hi:i<L.length) (hPC:R.P.length=R.C.length) (ha:∀ j,j<L.length→pK (L.getD j default)) :
  (∀ j,j<L.length→pK ((fQ (Int64.ofNat h) i L R (L.getD i default)).1.1.getD j default))∧(fQ (Int64.ofNat h) i L R (L.getD i default)).1.2.P.length≤R.P.length + (if vQ h=true then 16 else 0):=by
 have hhi:(Int64.ofNat h).toInt=(h:Int):=toInt_ofNat (by omega)
 have kx:=ha i hi
 have h1:=wE (iw i (L.getD i default).cert.ep (L.getD i default).cert.fin) (Int64.ofNat h) false (L.getD i default).cert.outs R 0 hPC
 have h2:=kx.outs
 have hd:=kx.due hh
 obtain ⟨x,hx⟩:∃ x,L.getD i default=x:=⟨_,rfl⟩
 rw [hx] at kx h1 h2 hd ⊢
 have hp:mH R x i (Int64.ofNat h)=eT (iw i x.cert.ep x.cert.fin) (Int64.ofNat h) false R 0 x.cert.outs:=rfl
 have hs:∀ y,pK y→∀ j,j<L.length→pK ((L.set i y).getD j default):=fun y hy j hj=>IV hi ha hy j (by rwa [List.length_set])
 unfold fQ
 rw [hp,hhi]
 by_cases d:vQ h=true
 ·rw [if_pos d]
  split
  ·exact ⟨ha,by dsimp only;omega⟩
  ·split
   ·split
    ·exact ⟨hs _ kx.pay,by dsimp only;omega⟩
    ·exact ⟨ha,by dsimp only;omega⟩
   ·exact ⟨hs _ (kx.cease _),by dsimp only;omega⟩
 ·rw [if_neg d,if_pos (hd (by simpa using d))]
  exact ⟨ha,Nat.le_refl _⟩
theorem Rp {L:List au} {S:aB} {R:RC} {h:Nat} (hh:h≤1000) (H:Il L S R h):∀ i,i≤L.length→(∀ j,j<L.length→pK ((dY (Int64.ofNat h) L R i).1.1.getD j default))∧(dY (Int64.ofNat h) L R i).1.2.P.length≤R.P.length + (if vQ h=true then 16 * i else 0)
 | 0,_=>⟨H.all,by rw [dY];split<;>exact Nat.le_add_right _ _⟩
 | i + 1,hi=>by
  obtain ⟨h1,h2⟩:=Rp hh H i (by omega)
  have hl:=uL (Int64.ofNat h) L R i
  have hpc:=(wL (Int64.ofNat h) L R (fun i hi=>by have:=(H.all i hi).outs;omega) H.twin.lens.2 i (by omega)).2
  rw [dY]
  split
  ·obtain ⟨g1,g2⟩:=Rs (L:=(dY (Int64.ofNat h) L R i).1.1) (i:=i) hh (by omega) hpc (fun j hj=>h1 j (by omega))
   refine ⟨fun j hj=>g1 j (by omega),?_⟩
   split at h2<;>split at g2<;>first |omega |(split<;>omega) |skip
   all_goals (split<;>first |omega |simp_all)
  ·refine ⟨h1,?_⟩
   split at h2<;>split<;>first |omega |simp_all
theorem Ro {L:List au} {S:aB} {R:RC} {h:Nat} (h3:3≤h) (h40:h<40) (H:Il L S R h) :
  (rz (Int64.ofNat h) L R).1.1=(uT (Int64.ofNat h) L S).1.1∧(rz (Int64.ofNat h) L R).2=(uT (Int64.ofNat h) L S).2∧Il (uT (Int64.ofNat h) L S).1.1 (uT (Int64.ofNat h) L S).1.2 (rz (Int64.ofNat h) L R).1.2 (h + 1):=by
 obtain ⟨e1,e2,e3⟩:=F5 (Int64.ofNat h) L H.twin L.length
 obtain ⟨g1,g2⟩:=Rp (by omega) H L.length (Nat.le_refl _)
 have hst:=vR (Int64.ofNat h) L S (fun i hi=>by have:=(H.all i hi).outs;omega) L.length (Nat.le_refl _)
 have hlen:=H.len
 have hroom:=H.room
 have hsteps:=H.steps
 refine ⟨e1,e2,⟨fun i hi => ?_,?_,e3,?_,?_⟩⟩
 ·have hl:(uT (Int64.ofNat h) L S).1.1.length=L.length:=r9 _ _ _ _
  have:=g1 i (by omega)
  rw [e1] at this
  exact this
 ·have hl:(uT (Int64.ofNat h) L S).1.1.length=L.length:=r9 _ _ _ _
  omega
 ·show (dY (Int64.ofNat h) L R L.length).1.2.P.length≤_
  by_cases hd:vQ h=true
  ·have:=Sm hd
   rw [if_pos hd] at g2
   omega
  ·rw [if_neg hd] at g2
   have h5:jO h≤jO (h + 1):=by rw [jO,jO];omega
   omega
 ·show (iY (Int64.ofNat h) L S L.length).1.2.steps.length≤_
  omega
theorem Lc {money:List Int} (hl:money.length≤8):Il (gD money money.length) aB.empty RC.empty 3:=by
 refine ⟨fun i hi => ?_,by rw [lC];exact hl,Twin.empty,Nat.zero_le _,Nat.zero_le _⟩
 rw [lC] at hi
 have hg:(gD money money.length).getD i default=dL (money.getD i 0):=by
  rw [gD,List.getD_eq_getElem?_getD,List.getElem?_map,List.getElem?_range hi];rfl
 rw [hg,dL,xQ]
 split
 ·exact ⟨rfl,rfl,rfl,Nat.zero_le _,Nat.zero_le _,rfl⟩
 ·exact ⟨rfl,rfl,rfl,Nat.zero_le _,Nat.zero_le _,rfl⟩
set_option maxRecDepth 100000
open Go.Sx
set_option maxRecDepth 100000
open Go.Sx
set_option maxRecDepth 100000
open Go.Sx
set_option maxRecDepth 100000
open Go.Sx
def V7:Prop:=∀ (S:aB) (R:RC),Twin S R→S.coins.length≤1000→∀ {M:Mem} {c0 c1 d:Nat},M.get c0=some (.abs (dU S))→M.get c1=some (.abs (Bg R))→(Nat.beq c0 c1 || Nat.beq d c0 || Nat.beq d c1)=false →
  aC Tryz.prog 41 [.one (.ptr c0 0 0 0),.one (.ptr c1 0 0 0)] M d { v:=XV.bool true,upd:=[(c0,.abs (dU S)),(c1,.abs (Bg R))],wr:=[c0,c1] } [c0,c1]
theorem Kept.plain {x:au} {k:Nat} (h:Kept x k):Plain x:=⟨by rw [h.cert];rfl,by rw [h.cert];rfl⟩
set_option maxRecDepth 100000
open Go.Sx
theorem Nz {P:Program} {C:Ctx} {x y:Code} {S:St} {Q:Exit→St→Prop} {α:Type} (F:α→St) (hx:av P C x S (fun e S1=>(e = .normal∧∃ a,aN C S1 (F a))∨(e = .ret∧Q .ret S1))) (hy:∀ a,av P C y (F a) Q):av P C (.seq x y) S Q:=by
 refine av.seq (av.mono hx fun e S1 h => ?_)
 rcases h with ⟨rfl,a,h⟩ |⟨rfl,h⟩
 ·exact ak (av.ent h (hy a))
 ·exact aV h
def Ih (money:List Int) (l:List aZ) (ad:Nat→Nat→Option Addr×Nat) (n0 n1:UInt8):Mem :=
 [(0,.ro 1 money.length (dO money)),(1,.ro 6 l.length fun k=>dK 0 (l.getD k default).ac (ad k)),(2,.ext (Gh l.length (fun i=>(l.getD i default).ac) ad)),(4,.ext bJ),(5,.cells 104 [.raw (u8 n0),.raw (u8 n1)])]
def Pn (money:List Int) (l:List aZ) (ad:Nat→Nat→Option Addr×Nat) (n0 n1:UInt8) (L:List au) (S:aB) (R:RC) (k h i:Option XV):St :=
 ⟨[none,some (XV.sv (.slc 1 6 0 l.length)),none,none,none,some (XV.sv (.ptr 5 0 0 0)),none,some (XV.sv (.ptr 6 0 0 0)),some (XV.sv (.ptr 7 0 0 0)),some (XV.sv (.ptr 8 0 0 0)),some (XV.sv (.ptr 9 0 0 0)),k,h,none,i]++List.replicate 146 none,Ih money l ad n0 n1++[(6,.abs (fI L)),(7,.abs (kC L)),(8,.abs (dU S)),(9,.abs (Bg R))],10⟩
def YT (money:List Int) (l:List aZ) (ad:Nat→Nat→Option Addr×Nat) (n0 n1:UInt8) (L:List au) (S:aB) (R:RC) (k h:Option XV) (c:aT):St :=
 ⟨[none,some (XV.sv (.slc 1 6 0 l.length)),none,none,none,some (XV.sv (.ptr 5 0 0 0)),none,some (XV.sv (.ptr 6 0 0 0)),some (XV.sv (.ptr 7 0 0 0)),some (XV.sv (.ptr 8 0 0 0)),some (XV.sv (.ptr 9 0 0 0)),k,h,some (XV.sv (.ptr 10 0 0 0))]++List.replicate 147 none,Ih money l ad n0 n1++[(6,.abs (fI L)),(7,.abs (kC L)),(8,.abs (dU S)),(9,.abs (Bg R)),(10,.cells 43 (bR c (.slc 11 9 0 c.outs.length) (.slc 12 282 0 c.sigs.length))),(11,.vec 59 9 c.outs.length (bE c.outs)),(12,.vec 192 282 c.sigs.length (bY c.sigs))],13⟩
def YU (money:List Int) (l:List aZ) (ad:Nat→Nat→Option Addr×Nat) (n0 n1:UInt8) (L:List au) (S:aB) (R:RC) (k h i:Option XV) (bd:Nat→Nat→Option Addr×Nat):St :=
 ⟨[none,some (XV.sv (.slc 1 6 0 l.length)),none,none,none,some (XV.sv (.ptr 5 0 0 0)),none,some (XV.sv (.ptr 6 0 0 0)),some (XV.sv (.ptr 7 0 0 0)),some (XV.sv (.ptr 8 0 0 0)),some (XV.sv (.ptr 9 0 0 0)),k,h,none,i]++List.replicate 146 none,Ih money l ad n0 n1++[(6,.abs (fI L)),(7,.cells lV [.slc 10 42 0 L.length]),(8,.abs (dU S)),(9,.abs (Bg R)),(10,.vec og 42 L.length fun i=>dK 0 (bP L i) (bd i)),(11,.abs (dP L.length (bP L) bd))],12⟩
def YV (money:List Int) (l:List aZ) (ad:Nat→Nat→Option Addr×Nat) (n0 n1:UInt8) (L:List au) (S:aB) (R:RC) (k h i:Option XV) (bd:Nat→Nat→Option Addr×Nat) (x:au):St :=
 ⟨[none,some (XV.sv (.slc 1 6 0 l.length)),none,none,none,some (XV.sv (.ptr 5 0 0 0)),none,some (XV.sv (.ptr 6 0 0 0)),some (XV.sv (.ptr 7 0 0 0)),some (XV.sv (.ptr 8 0 0 0)),some (XV.sv (.ptr 9 0 0 0)),k,h,none,i,some (XV.sv (.ptr 12 0 0 0))]++List.replicate 145 none,Ih money l ad n0 n1++[(6,.abs (fI L)),(7,.cells lV [.slc 10 42 0 L.length]),(8,.abs (dU S)),(9,.abs (Bg R)),(10,.vec og 42 L.length fun i=>dK 0 (bP L i) (bd i)),(11,.abs (dP L.length (bP L) bd)),
  (12,.cells 68 (ng x 13 14 15 16)),(13,.vec 29 8 x.par.keys.length (dA x.par.keys)),(14,.vec 59 9 x.cert.outs.length (bE x.cert.outs)),(15,.vec 192 282 x.cert.sigs.length (bY x.cert.sigs)),(16,.vec 3 1 x.used.length (dO x.used))],17⟩
structure XL (n:Nat) where
 h:Nat
 k:Nat
 L:List au
 S:aB
 R:RC
 lo:3≤h
 hi:h≤34
 le:k≤n
 keep:Il L S R h
structure Vz (S:aB) (R:RC) (h n:Nat) where
 k:Nat
 L:List au
 le:k≤n
 keep:Il L S R h
set_option maxHeartbeats 16000000 in
theorem Bf (hsame:V7) (money:List Int) (l:List aZ) (ad:Nat→Nat→Option Addr×Nat) (n0 n1:UInt8) (hm:money.length≤maxLen) (hl:l.length≤maxLen) (hq:∀ i,i<l.length→NI (l.getD i default)) :
  Reads Tryz.prog 11 [.row 1 money.length (dO money),.deep 6 l.length (fun i=>(l.getD i default).ac) ad,.plain (.agg [.raw (u8 n0),.raw (u8 n1)])] [bJ] (XV.bool true):=by
 refine Reads.of Tryz.aA Tryz.func11 rfl _ _ _ rfl rfl (fun C hC => ?_)
 (replace hC:C.n0=5:=hC;change av _ _ _ ⟨_,_,5⟩ _)
 refine xK 3 ?_
 refine xC rfl Tryz.func26 rfl (Uy.at [4] trivial ⟨bD (c:=4) rfl rfl,trivial⟩) ?_
 refine wC (fun g1 => ?_) (fun g1 => ?_)
 ·(refine xG ?_)
  exact wD <| aV <| Ends.plain (.inr rfl) rfl rfl
 (refine xG ?_)
 refine wC (fun g2 => ?_) (fun g2 => ?_)
 ·(refine xG ?_)
  exact wD <| aV <| Ends.plain (.inr rfl) rfl rfl
 have hm8:money.length≤8:=by have:=of_decide_eq_false g1;omega
 have hl6:l.length≤6:=by have:=of_decide_eq_false g2;omega
 clear g1 g2
 (refine xG ?_)
 have hks:=Lc hm8
 obtain ⟨L0,hL0⟩:∃ L,gD money money.length=L:=⟨_,rfl⟩
 have kf:=BS money hm8
 rw [hL0] at hks kf
 clear hL0
 refine wD <| ak ?_
 refine xK 2 ?_
 refine xC rfl Tryz.func29 rfl (kf.at [0] ⟨aj rfl rfl,trivial⟩ trivial) ?_
 refine xC rfl Tryz.func19 rfl (Jv) ?_
 refine wD <| ak <| av.ent (aN.sM (c:=26) (e:=78) (cs:=[.raw (.slice none 0 0),.raw (.slice none 0 0)]) (j:=0) rfl rfl 65 9) <|
  av.ent (aN.sM (c:=26) (e:=78) (cs:=[.slc 29 9 0 0,.raw (.slice none 0 0)]) (j:=1) rfl rfl 162 11) <|
  av.ent (aN.Ki (i0:=26) (i1:=29) (i2:=30) (M:=RC.empty.mem) (inv:=True) rfl trivial rfl rfl rfl rfl rfl rfl rfl rfl ⟨rfl,rfl⟩ ⟨rfl,rfl,Nat.le_refl _,fun i hi=>absurd hi (Nat.not_lt_zero i)⟩ ⟨rfl,rfl,Nat.le_refl _,fun i hi=>absurd hi (Nat.not_lt_zero i)⟩) <|
  av.ent (aN.unpack (c:=18) (l:=qC L0) rfl) <| av.ent (S':=Pn money l ad n0 n1 L0 aB.empty RC.empty none none none) ?_ ?_
 ·unfold Pn Ih
  ((try dsimp only);exact xE [0,1,2,3,4,5,31,32,24,26] hC)
 unfold Pn Ih
 obtain ⟨N,hN⟩:∃ N,n0.toNat % 30=N:=⟨_,rfl⟩
 have hN30:N<30:=by omega
 have hn:IntKind.i64.wrap (4 + Int.tmod (IntKind.i64.wrap ((n0.toNat:Nat):Int)) 30)=((4 + N:Nat):Int):=by
  have h3:=n0.toNat_lt
  have e1:IntKind.i64.wrap ((n0.toNat:Nat):Int)=((n0.toNat:Nat):Int):=bK (by omega)
  have e2:Int.tmod ((n0.toNat:Nat):Int) 30=((n0.toNat % 30:Nat):Int):=rfl
  rw [e1,e2,hN,show (4:Int) + (N:Int)=((4 + N:Nat):Int) by omega]
  exact bK (by omega)
 clear hN
 refine xK 2 ?_
 refine wD <| ak <| av.seq ?_
 refine xK 1 ?_
 refine wD <| ak <| av.block ?_
 refine av.loop (α:=XL l.length) (fun p=>Pn money l ad n0 n1 p.L p.S p.R (some (XV.int .i64 p.k)) (some (XV.int .i64 p.h)) none) (fun p=>34 - p.h) ⟨3,0,L0,aB.empty,RC.empty,Nat.le_refl _,by decide,Nat.zero_le _,hks⟩ ?_ ?_
 ·unfold Pn Ih
  ((try dsimp only);exact xE [0,1,2,3,4,5,6,7,8,9] hC)
 clear hks kf
 rintro ⟨h,k0,L,S,R,h3,h34,hk0,hk⟩
 dsimp only
 unfold Pn Ih
 refine xK 1 ?_
 simp only [hn]
 refine wC (fun c1 => ?_) (fun c1 => ?_)
 ·(refine xG ?_)
  have hlt:h<4 + N:=Int.ofNat_lt.1 (of_decide_eq_true c1)
  have hw:IntKind.i64.wrap ((h:Int) + 1)=((h + 1:Nat):Int):=by
   rw [show (h:Int) + 1=((h + 1:Nat):Int) by omega];exact bK (by omega)
  clear c1 hn
  refine wD <| ak <| av.seq <| av.block <| Nz (α:=Vz S R h l.length) (fun p=>Pn money l ad n0 n1 p.L S R (some (XV.int .i64 p.k)) (some (XV.int .i64 h)) none) (av.block ?_) ?_
  rotate_left
  ·rintro ⟨k,L1,hkl,hk1⟩
   dsimp only
   refine Nz (α:=Unit) (fun _=>Pn money l ad n0 n1 L1 S R (some (XV.int .i64 k)) (some (XV.int .i64 h)) none) ?_ (fun _ => ?_)
   ·unfold Pn Ih
    rcases Nat.eq_zero_or_pos L1.length with h0 |h0
    ·obtain rfl:=List.length_eq_zero_iff.1 h0
     refine Reg.qJ lV og 7 rfl ?_
     refine xK 1 ?_
     refine wD <| ak <| av.block (av.loop (α:=Unit) (fun _=>_) (fun _=>0) () (aN.refl _) (fun _ => ?_))
     refine xK 1 ?_
     refine wD <| bW <| aS <| aI <| .inl ⟨rfl,(),(Reg.pz lV og 7 rfl).trans ?_⟩
     ((try dsimp only);exact xE [0,1,2,3,4,5,6,7,8,9] hC)
    ·refine Reg.opens lV og L1 7 h0 rfl (Nat.le_of_ble_eq_true rfl) (fun bd => ?_)
     refine xK 1 ?_
     refine wD <| ak <| av.block ?_
     refine av.loop (α:={ i:Nat // i≤L1.length }) (fun i=>YU money l ad n0 n1 L1 S R (some (XV.int .i64 k)) (some (XV.int .i64 h)) (some (XV.int .i64 i.1)) bd) (fun i=>L1.length - i.1) ⟨0,Nat.zero_le _⟩ ?_ ?_
     ·unfold YU Ih
      ((try dsimp only);exact xE [0,1,2,3,4,5,6,7,8,9,11,12] hC)
     rintro ⟨i,hi⟩
     dsimp only
     unfold YU Ih
     refine xK 1 ?_
     refine wC (fun c1 => ?_) (fun c1 => ?_)
     ·(refine xG ?_)
      have h1':i<L1.length:=Int.ofNat_lt.1 (of_decide_eq_true c1)
      have hl8:=hk1.len
      have hwi:IntKind.i64.wrap ((i:Int) + 1)=((i + 1:Nat):Int):=by
       rw [show (i:Int) + 1=((i + 1:Nat):Int) by omega];exact bK (by omega)
      clear c1
      have kx:=hk1.all i h1'
      have kin:=qR L1 i h1' kx.sized
      have kd:=Nb (L1.getD i default) (h:Int)
      have kr:=J5 (L1.getD i default) (h:Int)
      rw [Nc (by omega) (by omega)] at kr
      obtain ⟨⟨dv,db⟩,hd⟩:∃ p,kW (L1.getD i default) (h:Int)=p:=⟨_,rfl⟩
      rw [hd] at kd kr
      dsimp only at kd kr
      refine wD <| ak <| av.seq <| av.block ?_
      refine xK 1 ?_
      refine xC rfl Tryz.func22 rfl (kin.QK [] rfl rfl rfl ⟨ah rfl,trivial⟩ trivial) ?_
      refine wD <| ak <| av.ent (aN.unpack (c:=21) (l:=kR (L1.getD i default)) rfl) <| av.ent (S':=YV money l ad n0 n1 L1 S R (some (XV.int .i64 k)) (some (XV.int .i64 h)) (some (XV.int .i64 i)) bd (L1.getD i default)) ?_ ?_
      ·unfold YV Ih
       ((try dsimp only);exact xE [0,1,2,3,4,5,6,7,8,9,10,11,25,28,29,30,31] hC)
      unfold YV Ih
      refine xI ?_
      (refine xB ?_)
      refine xC rfl Tryz.func27 rfl (kd.at [13,14,15,16] ⟨bL (x:=L1.getD i default) (aF (lo:=0) rfl rfl rfl (Nat.le_of_eq (Nat.zero_add _)) (fun i _=>by rw [Nat.zero_add])) (aF (lo:=0) rfl rfl rfl (Nat.le_of_eq (Nat.zero_add _)) (fun i _=>by rw [Nat.zero_add])) (aF (lo:=0) rfl rfl rfl (Nat.le_of_eq (Nat.zero_add _)) (fun i _=>by rw [Nat.zero_add])) (aF (lo:=0) rfl rfl rfl (Nat.le_of_eq (Nat.zero_add _)) (fun i _=>by rw [Nat.zero_add])),ah rfl,trivial⟩ trivial) ?_
      (repeat (refine wN ?_ ?_;exact xW;refine xG ?_))
      simp only [Nat.zero_add,Int.toNat_natCast]
      refine xC rfl Tryz.func38 rfl (kr.at [11] ⟨sG (q:=11) (L:=L1) (i:=i) (ad:=bd) rfl rfl h1',ah rfl,trivial⟩ trivial) ?_
      refine kE (by simp) ?_
      (refine xG ?_)
      refine kE (by simp) ?_
      (refine xG ?_)
      refine wD <| aJ <| ak <| xI ?_
      (refine xB ?_)
      refine wD <| aP ⟨⟨i + 1,h1'⟩,by dsimp only;omega,?_⟩
      rw [hwi]
      ((try dsimp only);exact xE [0,1,2,3,4,5,6,7,8,9,10,11] hC)
     ·(refine xG ?_)
      refine wD <| bW <| aS <| aI <| .inl ⟨rfl,(),(Reg.mJ lV og L1 L1 7 (i1:=10) (q:=11) (ad:=bd) h0 rfl rfl rfl rfl rfl rfl (fun _ _=>rfl) jP).trans ?_⟩
      ((try dsimp only);exact xE [0,1,2,3,4,5,6,7,8,9] hC)
   have hhi:(Int64.ofNat h).toInt=(h:Int):=toInt_ofNat (by omega)
   obtain ⟨e1,e2,hk2⟩:=Ro h3 (by omega) hk1
   have hlen:=hk1.len
   have hrm:=hk1.room
   have hst:=hk1.steps
   have hov:jO h≤7:=by rw [jO];omega
   have kend:=Ng L1 S (Int64.ofNat h) (fun i hi=>(hk1.all i hi).sized) (fun i hi=>by have:=(hk1.all i hi).outs;omega) (by omega) (by omega)
   have krend:=S9 L1 R (Int64.ofNat h) (by rw [hhi];omega) (fun i hi=>(hk1.all i hi).sized) (fun i hi=>by have:=(hk1.all i hi).outs;omega) (by omega) hk1.twin.lens.2 (by omega)
   rw [hhi] at kend krend
   rw [e1,e2] at krend
   obtain ⟨R2,hR2⟩:∃ r,(rz (Int64.ofNat h) L1 R).1.2=r:=⟨_,rfl⟩
   obtain ⟨⟨⟨L2,S2⟩,er⟩,hE⟩:∃ p,uT (Int64.ofNat h) L1 S=p:=⟨_,rfl⟩
   rw [hR2] at krend hk2
   rw [hE] at kend krend hk2
   dsimp only at kend krend hk2
   clear e1 e2 hE hR2
   have ks13:Does Tryz.prog 40 [(.abs (fI L2),.abs (fI L2)),(.abs (kC L2),.abs (kC L2))] [] [] (XV.bool true) none:=by
    rcases Nat.eq_zero_or_pos L2.length with h0 |h0
    ·obtain rfl:=List.length_eq_zero_iff.1 h0
     exact MH
    ·exact Kc L2 h0 (by have:=hk2.len;omega) (fun i hi=>(hk2.all i hi).sized) (fun i hi=>(hk2.all i hi).sgd)
   have hco:S2.coins.length≤1000:=by
    have h5:=hk2.twin.lens.1
    have h6:=hk2.room
    have h7:jO (h + 1)≤7:=by rw [jO];omega
    omega
   have htw:=hk2.twin
   unfold Pn Ih
   refine xI ?_
   (refine xB ?_)
   refine xC rfl Tryz.func34 rfl (kend.at2 [4] rfl rfl rfl rfl ⟨ah rfl,trivial⟩ ⟨bD (c:=4) rfl rfl,trivial⟩) ?_
   refine xC rfl Tryz.func39 rfl (krend.at2 [] rfl rfl rfl rfl ⟨ah rfl,trivial⟩ trivial) ?_
   refine kE (by simp) ?_
   (refine xG ?_)
   refine xC rfl Tryz.func40 rfl (ks13.at2 [] rfl rfl rfl rfl trivial trivial) ?_
   refine xC rfl Tryz.func41 rfl (hsame S2 R2 htw hco (c0:=8) (c1:=9) rfl rfl rfl) ?_
   refine wD <| aJ <| ak <| xI ?_
   (refine xB ?_)
   refine wD <| aP ⟨⟨h + 1,k,L2,S2,R2,by omega,by omega,hkl,hk2⟩,by dsimp only;omega,?_⟩
   rw [hw]
   ((try dsimp only);exact xE [0,1,2,3,4,5,6,7,8,9] hC)
  refine av.loop (α:=Vz S R h l.length) (fun p=>Pn money l ad n0 n1 p.L S R (some (XV.int .i64 p.k)) (some (XV.int .i64 h)) none) (fun p=>l.length - p.k) ⟨k0,L,hk0,hk⟩ ?_ ?_
  ·unfold Pn Ih
   ((try dsimp only);exact xE [0,1,2,3,4,5,6,7,8,9] hC)
  rintro ⟨k,L1,hkl,hk1⟩
  dsimp only
  unfold Pn Ih
  refine xK 1 ?_
  refine wC (fun c1 => ?_) (fun c1 => ?_)
  ·(refine xG ?_)
   have hkn:k<l.length:=Int.ofNat_lt.1 (of_decide_eq_true c1)
   have hwk:IntKind.i64.wrap ((k:Int) + 1)=((k + 1:Nat):Int):=by
    rw [show (k:Int) + 1=((k + 1:Nat):Int) by omega];exact bK (by omega)
   clear c1
   refine wN (show 0≤IntKind.u64.wrap _ from Int.emod_nonneg _ (by decide)) ?_
   (refine xG ?_)
   refine wC (fun c2 => ?_) (fun c2 => ?_)
   ·(refine xG ?_)
    clear c2
    obtain ⟨q1,q2⟩:=hq k hkn
    have kfew:=OE (l.getD k default) q1 q2
    refine wD <| ak <| av.block ?_
    refine xK 1 ?_
    (repeat (refine wN ?_ ?_;exact xW;refine xG ?_))
    simp only [Nat.zero_add,Int.toNat_natCast]
    refine xC rfl Tryz.func30 rfl (kfew.at [2] ⟨Cm (q:=2) rfl rfl hkn,trivial⟩ trivial) ?_
    refine wC (fun c2 => ?_) (fun c2 => ?_)
    ·(refine xG ?_)
     refine wD ?_
     repeat (first |with_reducible refine aQ ?_ |with_reducible refine aV ?_ |with_reducible refine fq ?_)
     refine .inr ⟨rfl,?_⟩
     repeat (first |with_reducible refine aQ ?_ |with_reducible refine aV ?_ |with_reducible refine fq ?_)
     exact Ends.plain (.inr rfl) rfl rfl
    have hfw:IX (l.getD k default)=true:=by simpa using c2
    have hf30:(l.getD k default).am.length≤30∧(l.getD k default).who.length≤7:=by
     rw [IX,Bool.and_eq_true,decide_eq_true_eq,decide_eq_true_eq] at hfw
     exact hfw
    (refine xG ?_)
    have hmk:=Cu (l.getD k default) (by omega) (by omega)
    change Makes _ _ _ _ _ (.abs (mK [.vec 59 9 (l.getD k default).am.length (bE (bQ (l.getD k default)).outs),.vec 192 282 (l.getD k default).who.length (bY (bQ (l.getD k default)).sigs)])) at hmk
    have hol:(l.getD k default).am.length=(bQ (l.getD k default)).outs.length:=(lH _ _).symm
    have hsl:(l.getD k default).who.length=(bQ (l.getD k default)).sigs.length:=(zV _ _ _).symm
    obtain ⟨pa,hpa⟩:∃ pa,(l.getD k default).am.length=pa:=⟨_,rfl⟩
    obtain ⟨pw,hpw⟩:∃ pw,(l.getD k default).who.length=pw:=⟨_,rfl⟩
    rw [hpa,hpw] at hmk hf30
    rw [hpa] at hol
    rw [hpw] at hsl
    generalize bQ (l.getD k default)=c at hmk hol hsl
    subst hol
    subst hsl
    have hkt:=OC hk1 c
    have ktake:=EO L1 c (h:Int) mE (fun i hi=>(hk1.all i hi).sized) (by have:=hk1.len;omega) (by omega) (by omega)
    have rtake:=fun {M:Mem} {g o s d:Nat}=>Ka L1 c (h:Int) mE (fun i hi=>(hk1.all i hi).sized) (by have:=hk1.len;omega) (by omega) (by omega) (M:=M) (g:=g) (o:=o) (s:=s) (d:=d)
    obtain ⟨⟨L',f⟩,htk⟩:∃ q,takeC L1 c (h:Int) mE=q:=⟨_,rfl⟩
    rw [htk] at hkt ktake rtake
    dsimp only at hkt ktake rtake
    refine wD <| ak ?_
    refine xK 1 ?_
    (repeat (refine wN ?_ ?_;exact xW;refine xG ?_))
    simp only [Nat.zero_add,Int.toNat_natCast]
    refine xC rfl Tryz.func32 rfl (hmk.at [2] ⟨Cm (q:=2) rfl rfl hkn,trivial⟩ trivial) ?_
    refine wD <| ak <| av.ent (aN.unpack (c:=41) (l:=[.vec 59 9 c.outs.length (bE c.outs),.vec 192 282 c.sigs.length (bY c.sigs)]) rfl) <| av.ent (S':=YT money l ad n0 n1 L1 S R (some (XV.int .i64 k)) (some (XV.int .i64 h)) c) ?_ ?_
    ·unfold YT Ih
     ((try dsimp only);exact xE [0,1,2,3,4,5,6,7,8,9,42,44,45] hC)
    unfold YT Ih
    refine xI ?_
    (refine xB ?_)
    refine xC rfl Tryz.func33 rfl (uo.at [] trivial trivial) ?_
    refine xC rfl Tryz.func31 rfl (ktake.at [11,12,4] rfl rfl rfl ⟨bS (c:=c) (aF (lo:=0) rfl rfl rfl (Nat.le_of_eq (Nat.zero_add _)) (fun i _=>by rw [Nat.zero_add])) (aF (lo:=0) rfl rfl rfl (Nat.le_of_eq (Nat.zero_add _)) (fun i _=>by rw [Nat.zero_add])),ah rfl,ah rfl,trivial⟩ ⟨bD (c:=4) rfl rfl,trivial⟩) ?_
    refine xC rfl Tryz.func33 rfl (uo.at [] trivial trivial) ?_
    refine xC rfl Tryz.func37 rfl (rtake (g:=7) (o:=11) (s:=12) rfl rfl ⟨rfl,rfl,rfl,trivial⟩) ?_
    refine kE (by simp) ?_
    (refine xG ?_)
    refine wD <| aJ <| aP ⟨⟨k + 1,L',hkn,hkt.1⟩,by dsimp only;omega,?_⟩
    rw [hwk]
    ((try dsimp only);exact xE [0,1,2,3,4,5,6,7,8,9] hC)
   ·(refine xG ?_)
    refine wD <| bW <| aS <| aI <| .inl ⟨rfl,⟨k,L1,hkl,hk1⟩,?_⟩
    ((try dsimp only);exact xE [0,1,2,3,4,5,6,7,8,9] hC)
  ·(refine xG ?_)
   refine wD <| bW <| aS <| aI <| .inl ⟨rfl,⟨k,L1,hkl,hk1⟩,?_⟩
   ((try dsimp only);exact xE [0,1,2,3,4,5,6,7,8,9] hC)
 ·(refine xG ?_)
  refine wD <| bW <| aS <| aI <| ak <| xI ?_
  (refine xB ?_)
  exact wD (Ends.plain (.inr rfl) rfl rfl)
set_option maxRecDepth 100000
open Go.Sx Go.RowKit Go.ChangeShapes Go.WideShapes Go.ChangeAt
set_option maxRecDepth 100000
open Go.Sx Go.RowKit Go.ChangeShapes Go.WideShapes Go.ChangeAt
theorem O9 {H:Type} {enc:TypeId×Value→H} {W:World} {v:Value} {d:DataW H} {p:List MemPlace} (h:DataW.Trod enc Tryz.prog W 0 (fun _=>true) true 104 v d p) (hv:Value.okWide Tryz.prog W .any 0 104 v):∃ (x y:UInt8) (arr:Array Value),v = .agg arr∧arr.toList=[u8 x,u8 y]:=by
 simp only [Value.okWide,Tryz.underlying104] at hv
 obtain ⟨arr,rfl,_,_⟩:=hv
 obtain ⟨fuel,hf⟩:=h
 obtain ⟨_,_,e0,a0,_,_,e1,a1,e2⟩:=jD Tryz.aA 8 104 [.int .u8,.int .u8] rfl fuel _ _ hf
 obtain ⟨x,hx⟩:=xu [_] ⟨_,_,rfl,a0,rfl⟩
 obtain ⟨y,hy⟩:=xu [_] ⟨_,_,rfl,a1,rfl⟩
 simp only [List.cons.injEq,and_true] at hx hy
 refine ⟨x,y,arr,rfl,?_⟩
 have e:(Value.agg arr).cells.toList=arr.toList:=rfl
 rw [← e,e0,e1,e2,hx,hy]
theorem Oh {W:World} {arr:Array Value} {x y:UInt8} (h:arr.toList=[u8 x,u8 y]):Sx.Came W (.agg arr) (.plain (.agg [.raw (u8 x),.raw (u8 y)])) :=
 ⟨[default],rfl,fun i β0 _=>⟨⟨arr,rfl,_,_,h,rfl,_,_,rfl,rfl,rfl⟩,fun c ch h=>by cases h⟩⟩
end Go.Proofs.YtnpkdoggfnlapaaGreatDoor
