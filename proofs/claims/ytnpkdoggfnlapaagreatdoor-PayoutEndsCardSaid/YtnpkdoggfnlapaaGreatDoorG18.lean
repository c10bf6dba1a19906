/- Parts La Ya Yg Yh Yi Ba Td Te Tf. -/
import Derived.Test.YtnpkdoggfnlapaaGreatDoorG17
import Derived.Test.YtnpkdoggfnlapaaGreatDoorG12
set_option linter.unusedSimpArgs false
set_option linter.unusedVariables false
namespace Go.Proofs.YtnpkdoggfnlapaaGreatDoor
set_option maxRecDepth 100000
open Go.Sx
def Lr {E:Type} (q:E→Bool) (l:List E):Int:=if l.any q=true then ((l.findIdx q:Nat):Int) else -1
theorem OP {E:Type} {q:E→Bool} {l:List E} (h:l.any q=false):Lr q l = -1:=by rw [Lr,if_neg (by rw [h];simp)]
theorem UY {E:Type} [Inhabited E] {q:E→Bool} {l:List E} {i:Nat} (hi:i<l.length) (h:(l.take i).any q=false) (hq:q (l.getD i default)=true):Lr q l=(i:Int):=by
 have hm:l.getD i default∈l:=by rw [List.getD_eq_getElem?_getD,List.getElem?_eq_getElem hi];exact List.getElem_mem hi
 have h1:l.any q=true:=List.any_eq_true.2 ⟨_,hm,hq⟩
 rw [Lr,if_pos h1]
 congr 1
 refine (List.findIdx_eq hi).2 ⟨?_,fun j hj => ?_⟩
 ·rw [List.getD_eq_getElem?_getD,List.getElem?_eq_getElem hi] at hq;exact hq
 ·have:l[j]∈l.take i:=by rw [List.mem_take_iff_getElem];exact ⟨j,by omega,rfl⟩
  have:=List.any_eq_false.1 h _ this
  simpa using this
theorem UZ {E:Type} (q:E→Bool) (l:List E):decide ((0:Int)≤Lr q l)=l.any q:=by
 unfold Lr
 cases h:l.any q with
 | true=>rw [if_pos rfl];simp
 | false=>rw [if_neg (by simp)];rfl
theorem rR {E:Type} [Inhabited E] {p:E→Bool} {l:List E} {i:Nat} (hi:i<l.length):(l.take (i + 1)).any p=((l.take i).any p || p (l.getD i default)):=by
 rw [List.take_add_one,List.any_append]
 have:l[i]?.toList=[l.getD i default]:=by rw [List.getElem?_eq_getElem hi,List.getD_eq_getElem?_getD,List.getElem?_eq_getElem hi];rfl
 rw [this];simp
def dO (l:List Int):Nat→List Value:=fun i=>[.int .i64 (l.getD i 0)]
def Ut (a x:H8):Bool:=decide (a=x)
theorem Lu (a:H8) (l:List H8) (hl:l.length≤1000000000):Reads Tryz.prog 194 [.row 8 l.length (dA l),.plain a.x] [] (XV.int .i64 (Lr (Ut a) l)):=by
 refine Reads.of Tryz.aA Tryz.func194 rfl _ _ _ rfl rfl (fun C hC => ?_)
 (replace hC:C.n0=2:=hC;change av _ _ _ ⟨_,_,2⟩ _)
 refine xK 1 ?_
 refine wD <| ak <| av.seq ?_
 refine xK 1 ?_
 refine wD <| ak <| av.block ?_
 refine av.loop (α:={ i:Nat // i≤l.length∧(l.take i).any (Ut a)=false }) (fun i=>⟨[some (XV.sv (.slc 0 8 0 l.length)),none,none,some (XV.sv (.ptr 2 0 0 0)),none,none,none,some (XV.int .i64 l.length),some (XV.int .i64 i.1)]++List.replicate 10 none,[(0,.ro 8 l.length (dA l)),(2,.cells 29 (a.cells.map .raw))],3⟩) (fun i=>l.length - i.1) ⟨0,Nat.zero_le _,by simp⟩ ?_ ?_
 ·((try dsimp only);exact xE [0,1,2] hC)
 rintro ⟨i,hi,ha⟩
 dsimp only
 refine xK 2 ?_
 refine wC (fun h1 => ?_) (fun h1 => ?_)
 ·(refine xG ?_)
  have h1':i<l.length:=xW
  have hs:=rR (p:=Ut a) h1'
  have hw:IntKind.i64.wrap ((i:Int) + 1)=((i + 1:Nat):Int):=xW
  refine wD <| ak <| av.seq <| av.block <| xI ?_
  (refine xB ?_)
  (repeat (refine wN ?_ ?_;exact xW;refine xG ?_))
  simp only [Nat.zero_add,Int.toNat_natCast]
  (refine wP _ _ (uW pV rfl a (l.getD i default) rfl rfl) ?_;refine xZ ?_)
  refine wC (fun h2 => ?_) (fun h2 => ?_)
  ·(refine xG ?_)
   refine wD <| aQ <| aV <| fq <| aQ <| aV <| Ends.plain (.inr rfl) rfl ?_
   rw [UY h1' ha h2]
  ·(refine xG ?_)
   refine wD <| aJ <| ak <| xI ?_
   (refine xB ?_)
   refine wD <| aP ⟨⟨i + 1,h1',by rw [hs,ha,Bool.false_or];exact h2⟩,by dsimp only;omega,?_⟩
   rw [hw]
   ((try dsimp only);exact xE [0,1,2] hC)
 ·(refine xG ?_)
  have h1':i=l.length:=xW
  subst h1'
  rw [List.take_length] at ha
  refine wD <| bW <| aS <| aI <| ak <| xI ?_
  (refine xB ?_)
  exact wD (Ends.plain (.inr rfl) rfl (by rw [OP ha]))
theorem D9 (a:H8) (l:List H8) (hl:l.length≤1000000000):Reads Tryz.prog 160 [.row 8 l.length (dA l),.plain a.x] [] (XV.bool (l.any (Ut a))):=by
 refine Reads.of Tryz.aA Tryz.func160 rfl _ _ _ rfl rfl (fun C hC => ?_)
 (replace hC:C.n0=2:=hC;change av _ _ _ ⟨_,_,2⟩ _)
 refine xI ?_
 (refine xB ?_)
 refine xC rfl Tryz.func194 rfl ((Lu a l hl).at [0] ⟨aj rfl rfl,ah rfl,trivial⟩ trivial) ?_
 exact wD (Ends.plain (.inr rfl) rfl (by rw [← UZ]))
def pW (l:List H8) (i:Nat):Bool := !(ku (l.getD i default)) && !((l.take i).any (Ut (l.getD i default)))
def oZ (l:List H8):Bool:=(List.range l.length).all (pW l)
def wI (p:gZ):Bool := !(decide ((p.keys.length:Int)<1)) && (!(decide (5<(p.keys.length:Int))) && (!(decide (p.need<1)) && !(decide ((p.keys.length:Int)<p.need))))
def yN (p:gZ):Bool:=decide (2≤p.len) && (decide (p.len≤64) && (decide (1≤p.win) && decide (p.win≤p.len)))
def rG (p:gZ):Bool:=wI p && (oZ p.keys && yN p)
def Yd (p:gZ):List SV := .raw (.int .i64 p.len) :: .raw (.int .i64 p.win) :: .raw (.int .i64 p.need)::[.slc 0 8 0 p.keys.length]
def SK (p:gZ):Mem:=[(0,.ro 8 p.keys.length (dA p.keys)),(1,.cells 40 (Yd p))]
set_option maxHeartbeats 2000000 in
theorem JU (p:gZ) (hl:p.keys.length≤1000000000):Reads Tryz.prog 116 [.box p.ac] [] (XV.bool (rG p)):=by
 refine Reads.of Tryz.aA Tryz.func116 rfl _ _ _ rfl rfl (fun C hC => ?_)
 (replace hC:C.n0=1:=hC;change av _ _ _ ⟨_,_,1⟩ _)
 refine xK 3 ?_
 have no:wI p=false→XV.bool false=XV.bool (rG p):=fun h=>by rw [rG,h,Bool.false_and]
 refine wC (fun h1 => ?_) (fun h1 => ?_)
 ·(refine xG ?_)
  exact wD <| aV <| Ends.plain (.inr rfl) rfl (no (by rw [wI,h1];rfl))
 (refine xG ?_)
 refine wC (fun h2 => ?_) (fun h2 => ?_)
 ·(refine xG ?_)
  exact wD <| aV <| Ends.plain (.inr rfl) rfl (no (by rw [wI,h1,h2];rfl))
 (refine xG ?_)
 refine wC (fun h3 => ?_) (fun h3 => ?_)
 ·(refine xG ?_)
  exact wD <| aV <| Ends.plain (.inr rfl) rfl (no (by rw [wI,h1,h2,h3];rfl))
 (refine xG ?_)
 refine wC (fun h4 => ?_) (fun h4 => ?_)
 ·(refine xG ?_)
  exact wD <| aV <| Ends.plain (.inr rfl) rfl (no (by rw [wI,h1,h2,h3,h4];rfl))
 have hN:wI p=true:=by rw [wI,h1,h2,h3,h4];rfl
 (refine xG ?_)
 refine wD <| ak <| av.seq ?_
 refine xK 1 ?_
 refine wD <| ak <| av.block ?_
 refine av.loop (α:={ i:Nat // i≤p.keys.length∧(List.range i).all (pW p.keys)=true }) (fun i=>⟨[none,some (XV.sv (.ptr 1 0 0 0))]++List.replicate 25 none++[some (XV.sv (.slc 0 8 0 p.keys.length)),some (XV.int .i64 p.keys.length),some (XV.int .i64 i.1)]++List.replicate 35 none,SK p,2⟩) (fun i=>p.keys.length - i.1) ⟨0,Nat.zero_le _,rfl⟩ ?_ ?_
 ·unfold SK
  ((try dsimp only);exact xE [0,1] hC)
 rintro ⟨i,hi,ha⟩
 dsimp only
 unfold SK
 refine xK 2 ?_
 refine wC (fun h5 => ?_) (fun h5 => ?_)
 ·(refine xG ?_)
  have h1':i<p.keys.length:=xW
  have hs:=tH (pW p.keys) i
  have hw:IntKind.i64.wrap ((i:Int) + 1)=((i + 1:Nat):Int):=xW
  have hlen:(p.keys.take i).length=i:=by rw [List.length_take];omega
  have bad:pW p.keys i=false→rG p=false:=fun h=>by rw [rG,hN,oZ,ru h1' h];rfl
  refine wD <| ak <| av.seq <| av.block <| xI ?_
  (refine xB ?_)
  (repeat (refine wN ?_ ?_;exact xW;refine xG ?_))
  simp only [Nat.zero_add,Int.toNat_natCast]
  refine xC rfl Tryz.func145 rfl ((zq (p.keys.getD i default)).at [] ⟨ah rfl,trivial⟩ trivial) ?_
  refine wC (fun h2 => ?_) (fun h2 => ?_)
  ·(refine xG ?_)
   refine wD <| aQ <| aV <| fq <| aQ <| aV <| Ends.plain (.inr rfl) rfl ?_
   rw [bad (by rw [pW,h2];rfl)]
  (refine xG ?_)
  (repeat (refine wN ?_ ?_;exact xW;refine xG ?_))
  simp only [Nat.zero_add,Int.toNat_natCast]
  refine xC rfl Tryz.func160 rfl ((D9 (p.keys.getD i default) (p.keys.take i) (by rw [hlen];omega)).at [0] ⟨by rw [hlen];exact jq rfl rfl (by omega) (fun j hj=>by rw [Nat.zero_add];exact congrArg H8.cells (getD_take hj)),ah rfl,trivial⟩ trivial) ?_
  refine wC (fun h3 => ?_) (fun h3 => ?_)
  ·(refine xG ?_)
   refine wD <| aQ <| aV <| fq <| aQ <| aV <| Ends.plain (.inr rfl) rfl ?_
   rw [bad (by rw [pW,h2,h3];rfl)]
  ·(refine xG ?_)
   refine wD <| aJ <| ak <| xI ?_
   (refine xB ?_)
   refine wD <| aP ⟨⟨i + 1,h1',by rw [hs,ha,pW,h2,h3];rfl⟩,by dsimp only;omega,?_⟩
   rw [hw]
   ((try dsimp only);exact xE [0,1] hC)
 ·(refine xG ?_)
  have h1':i=p.keys.length:=xW
  subst h1'
  have hk:rG p=yN p:=by rw [rG,hN,oZ,ha,Bool.true_and,Bool.true_and]
  refine wD <| bW <| aS <| aI <| ak <| xI ?_
  rw [hk]
  (refine xB ?_)
  refine wC (fun k1 => ?_) (fun k1 => ?_)
  ·(refine xG ?_)
   refine wC (fun k2 => ?_) (fun k2 => ?_)
   ·(refine xG ?_)
    refine wC (fun k3 => ?_) (fun k3 => ?_)
    ·(refine xG ?_)
     exact wD (Ends.plain (.inr rfl) rfl (by rw [yN,k1,k2,k3];rfl))
    ·(refine xG ?_)
     exact wD (Ends.plain (.inr rfl) rfl (by rw [yN,k1,k2,k3];rfl))
   ·(refine xG ?_)
    exact wD (Ends.plain (.inr rfl) rfl (by rw [yN,k1,k2];rfl))
  ·(refine xG ?_)
   exact wD (Ends.plain (.inr rfl) rfl (by rw [yN,k1];rfl))
set_option maxRecDepth 100000
open Go.Sx
structure au where
 par:gZ
 made:Int
 bal:Int
 fwd:Int
 mat:Int
 clm:Int
 ceased:Bool
 hgt:Int
 root:H8
 pend:Bool
 cert:aT
 used:List Int
def FZ:au:=⟨L6,0,0,0,0,0,false,0,dB,false,pR,[]⟩
instance:Inhabited au:=⟨FZ⟩
def au.ac (x:au):List AC:=x.par.ac++(iC x.made::iC x.bal::iC x.fwd::iC x.mat::iC x.clm :: .raw (.bool x.ceased)::iC x.hgt::(rC x.root.cells++(.raw (.bool x.pend)::(x.cert.ac++[.row 1 x.used.length (dO x.used)]))))
def gq (x:au) (k o s u:SV):List SV:=sU x.par k++(.raw (.int .i64 x.made) :: .raw (.int .i64 x.bal) :: .raw (.int .i64 x.fwd) :: .raw (.int .i64 x.mat) :: .raw (.int .i64 x.clm) :: .raw (.bool x.ceased) :: .raw (.int .i64 x.hgt)::(x.root.cells.map .raw++(.raw (.bool x.pend)::(bR x.cert o s++[u]))))
theorem bL {M:Mem} {rd:List Nat} {x:au} {k o s u:SV} (h1:bC M rd (.one k) (.row 8 x.par.keys.length (dA x.par.keys))) (h2:bC M rd (.one o) (.row 9 x.cert.outs.length (bE x.cert.outs))) (h3:bC M rd (.one s) (.row 282 x.cert.sigs.length (bY x.cert.sigs)))
  (h4:bC M rd (.one u) (.row 1 x.used.length (dO x.used))):bC M rd (.agg (gq x k o s u)) (.box x.ac):=by
 refine sF ⟨rfl,rfl,rfl,h1,rfl,rfl,rfl,rfl,rfl,rfl,rfl,?_⟩
 refine fJ.PE ?_ _
 refine ⟨rfl,?_⟩
 exact qX h2 h3 ⟨h4,trivial⟩
structure au.gN (x:au):Prop where
 keys:x.par.keys.length≤1000000
 outs:x.cert.outs.length≤1000000
 sigs:x.cert.sigs.length≤1000000
 used:x.used.length≤1000000
theorem au.QC (x:au):x.ac.length=42:=rfl
theorem au.V8 (x:au):x.ac.all AC.one=true:=rfl
theorem kH {p:Nat} {l:List Chunk}:∀ {a:List SV} {b:List AC} {a':List SV} {b':List AC},Boxed p l a b→Boxed p l a' b'→Boxed p l (a++a') (b++b')
 | [],[],_,_,_,h=>h
 | _::_,.raw _::_,_,_,⟨h1,h2⟩,h=>⟨h1,kH h2 h⟩
 | _::_,.row _ _ _::_,_,_,⟨h1,h2⟩,h=>⟨h1,kH h2 h⟩
 | [],_::_,_,_,h,_=>h.elim
 | _::_,[],_,_,h,_=>h.elim
theorem qw {p:Nat} {l:List Chunk}:∀ vs:List Value,Boxed p l (vs.map .raw) (rC vs)
 | []=>trivial
 | _::vs=>⟨rfl,qw vs⟩
theorem BJ {p:Nat} {l:List Chunk} {x:au} {k o s u:SV} (hk:Boxed p l [k] [.row 8 x.par.keys.length (dA x.par.keys)]) (ho:Boxed p l [o] [.row 9 x.cert.outs.length (bE x.cert.outs)]) (hs:Boxed p l [s] [.row 282 x.cert.sigs.length (bY x.cert.sigs)])
  (hu:Boxed p l [u] [.row 1 x.used.length (dO x.used)]):Boxed p l (gq x k o s u) x.ac:=by
 refine ⟨rfl,rfl,rfl,hk.1,rfl,rfl,rfl,rfl,rfl,rfl,rfl,?_⟩
 refine kH (qw _) ?_
 refine ⟨rfl,rfl,rfl,rfl,?_⟩
 show Boxed p l ((x.cert.fin.cells.map .raw++(x.cert.root.cells.map .raw++[o,s]))++[u]) ((rC x.cert.fin.cells++(rC x.cert.root.cells++[AC.row 9 x.cert.outs.length (bE x.cert.outs),.row 282 x.cert.sigs.length (bY x.cert.sigs)]))++[AC.row 1 x.used.length (dO x.used)])
 rw [List.append_assoc,List.append_assoc,List.append_assoc,List.append_assoc]
 exact kH (qw _) (kH (qw _) ⟨ho.1,hs.1,hu.1,trivial⟩)
set_option maxRecDepth 100000
open Go.Sx
theorem Ik {e sz n:Nat} {F F':Nat→List AC} (h:∀ i,i<n→F i=F' i):iP e sz n F=iP e sz n F':=by
 unfold iP
 congr 1
 funext w b s O
 refine propext ⟨?_,?_⟩
 ·rintro ⟨h1,h2,h3,h4,arr,h5,h6,h7⟩
  refine ⟨h1,h2,h3,h4,arr,h5,h6,fun i hi => ?_⟩
  rw [← h i hi];exact h7 i hi
 ·rintro ⟨h1,h2,h3,h4,arr,h5,h6,h7⟩
  refine ⟨h1,h2,h3,h4,arr,h5,h6,fun i hi => ?_⟩
  rw [h i hi];exact h7 i hi
def bP (L:List au):Nat→List AC:=fun i=>(L.getD i default).ac
def Yj (tS tE:TypeId):List au→Mem
 | []=>[(0,.cells tS [.raw (.slice none 0 0)])]
 | x::r=>[(0,.cells tS [.slc 1 42 0 (x::r).length]),(1,.abs (iP tE 42 (x::r).length (bP (x::r))))]
def Dl (tS tE:TypeId) (L:List au):mQ:=vB (Yj tS tE L) True
theorem J6 {tS tE:TypeId} {L:List au} (h:0<L.length):Yj tS tE L=[(0,.cells tS [.slc 1 42 0 L.length]),(1,.abs (iP tE 42 L.length (bP L)))]:=by
 cases L with
 | nil=>cases h
 | cons x r=>rfl
section
variable {P:Program} {C:Ctx} {cd:Code} {slots:List (Option XV)} {mem:Mem} {nx:Nat} {Q:Exit→St→Prop}
theorem Reg.wB (tS tE:TypeId) (L:List au) (c:Nat) (h0:0<L.length) (hc:mem.get c=some (.abs (Dl tS tE L)))
  (h:av P C cd ⟨slots,(c,.cells tS [.slc (nx + 1) 42 0 L.length])::(nx + 1,.abs (iP tE 42 L.length (bP L)))::mem.del c,nx + 2⟩ Q):av P C cd ⟨slots,mem,nx⟩ Q:=by
 refine av.opens (M:=[(0,.cells tS [.slc 1 42 0 L.length]),(1,.abs (iP tE 42 L.length (bP L)))]) (m:=2) (inv:=True) (c:=c) ?_ rfl fun _=>h
 rw [← J6 h0];exact hc
theorem Reg.qJ (tS tE:TypeId) (c:Nat) (hc:mem.get c=some (.abs (Dl tS tE [])))
  (h:av P C cd ⟨slots,(c,.cells tS [.raw (.slice none 0 0)])::mem.del c,nx + 1⟩ Q):av P C cd ⟨slots,mem,nx⟩ Q :=
 av.opens (M:=[(0,.cells tS [.raw (.slice none 0 0)])]) (m:=1) (inv:=True) (c:=c) hc rfl fun _=>h
theorem Reg.opens (tS tE:TypeId) (L:List au) (c:Nat) (h0:0<L.length) (hc:mem.get c=some (.abs (Dl tS tE L))) (hcn:c<nx)
  (h:∀ ad:Nat→Nat→Option Addr×Nat,av P C cd ⟨slots,(nx + 1,.vec tE 42 L.length fun i=>dK 0 (bP L i) (ad i))::(nx + 2,.abs (dP L.length (bP L) ad))::(c,.cells tS [.slc (nx + 1) 42 0 L.length])::(mem.del c).del (nx + 1),nx + 3⟩ Q):av P C cd ⟨slots,mem,nx⟩ Q:=by
 refine Reg.wB tS tE L c h0 hc (av.Sc (c:=nx + 1) (e:=tE) (sz:=42) (n:=L.length) (F:=bP L) ?_ fun ad => ?_)
 ·simp only [Mem.get,aL]
  rw [show decide (c=nx + 1)=false from decide_eq_false (by omega)]
  simp
 ·have e:Mem.del ((c,.cells tS [.slc (nx + 1) 42 0 L.length])::(nx + 1,.abs (iP tE 42 L.length (bP L)))::mem.del c) (nx + 1)=(c,.cells tS [.slc (nx + 1) 42 0 L.length])::(mem.del c).del (nx + 1):=by
   simp only [Mem.del,aL]
   rw [show decide (c=nx + 1)=false from decide_eq_false (by omega)]
   simp
  rw [e]
  exact h ad
theorem Reg.shuts (tS tE:TypeId) (L:List au) (c:Nat) {i1 m n:Nat} {F:Nat→List AC} (h0:0<L.length) (k0:mem.get c=some (.cells tS [.slc i1 42 0 m])) (k1:mem.get i1=some (.abs (iP tE 42 n F))) (hids:Nat.beq c i1=false) (hm:m=L.length) (hn:n=L.length) (hF:∀ i,i<n→F i=bP L i) :
  aN C ⟨slots,mem,nx⟩ ⟨slots,(c,.abs (Dl tS tE L))::mem.mD [c,i1],nx⟩:=by
 subst hm
 subst hn
 rw [Ik hF] at k1
 unfold Dl
 rw [J6 h0]
 exact aN.VT (S:=⟨slots,mem,nx⟩) (M:=[(0,.cells tS [.slc 1 42 0 L.length]),(1,.abs (iP tE 42 L.length (bP L)))]) (inv:=True) hids trivial rfl rfl rfl k0 k1 rfl ⟨rfl,rfl⟩ rfl
theorem Reg.pz (tS tE:TypeId) (c:Nat) (k0:mem.get c=some (.cells tS [.raw (.slice none 0 0)])):aN C ⟨slots,mem,nx⟩ ⟨slots,(c,.abs (Dl tS tE []))::mem.mD [c],nx⟩ :=
 aN.shut (S:=⟨slots,mem,nx⟩) (c:=c) (ids:=[c]) (M:=[(0,.cells tS [.raw (.slice none 0 0)])]) (inv:=True) (by simp) rfl trivial ⟨_,k0,rfl⟩ rfl (fun j i hj=>by
  match j with
  | 0=>simp at hj;subst hj;exact ⟨_,_,rfl,k0,rfl,rfl⟩
  | j + 1=>simp at hj)
theorem Reg.mJ (tS tE:TypeId) (L L':List au) (c:Nat) {i1 q m n:Nat} {G:Nat→List Value} {ad:Nat→Nat→Option Addr×Nat} (h0:0<L'.length) (k0:mem.get c=some (.cells tS [.slc i1 42 0 m])) (k1:mem.get i1=some (.vec tE 42 n G)) (k2:mem.get q=some (.abs (dP n (bP L) ad)))
  (hids:(Nat.beq c i1 || Nat.beq c q || Nat.beq i1 q)=false) (hm:m=L'.length) (hn:n=L'.length) (hG:∀ i,i<n→G i=dK 0 (bP L' i) (ad i)) (hF:∀ i,i<n→∀ (j:Nat) (x:AC),(bP L' i)[j]? = some x→(∃ u,x=AC.raw u)∨(bP L i)[j]? = some x) :
  aN C ⟨slots,mem,nx⟩ ⟨slots,(c,.abs (Dl tS tE L'))::Mem.mD ((i1,.abs (iP tE 42 n (bP L')))::mem.mD [i1,q]) [c,i1],nx⟩:=by
 simp only [Bool.or_eq_false_iff,aL,decide_eq_false_iff_not] at hids
 obtain ⟨⟨d1,d2⟩,d3⟩:=hids
 refine (aN.Dw (S:=⟨slots,mem,nx⟩) (F:=bP L') (ad:=ad) [q] k1 (by omega) (Nat.le_refl _) (by simpa using d3) hG (fun i hi j x hx => ?_)).trans ?_
 ·rcases hF i hi j x hx with h |h
  ·exact .inl h
  ·exact rH.old (by simp) k2 hi h
 ·refine Reg.shuts tS tE L' c h0 ?_ ?_ (by simpa [aL] using d1) hm hn fun _ _=>rfl
  ·simp only [Mem.get,aL,Mem.eU]
   rw [show decide (i1=c)=false from decide_eq_false (fun e=>d1 e.symm)]
   simp only [cond_false]
   rw [if_neg (by simp only [List.mem_cons,List.not_mem_nil,or_false,not_or];exact ⟨d1,d2⟩)]
   exact k0
  ·simp [Mem.get,aL]
end
theorem sG {M:Mem} {rd:List Nat} {q n i:Nat} {L:List au} {ad:Nat→Nat→Option Addr×Nat} (hm:M.get q=some (.abs (dP n (bP L) ad))) (hrd:gI q rd=true) (hi:i<n):bC M rd (.agg ((dK 0 (bP L i) (ad i)).map .raw)) (.box (L.getD i default).ac) :=
 bL (x:=L.getD i default) (k := .raw (.slice (ad i 3).1 _ (ad i 3).2)) (o := .raw (.slice (ad i 39).1 _ (ad i 39).2)) (s := .raw (.slice (ad i 40).1 _ (ad i 40).2)) (u := .raw (.slice (ad i 41).1 _ (ad i 41).2))
  (gK (F:=bP L) (j:=3) hm hrd hi rfl) (gK (F:=bP L) (j:=39) hm hrd hi rfl) (gK (F:=bP L) (j:=40) hm hrd hi rfl) (gK (F:=bP L) (j:=41) hm hrd hi rfl)
theorem SX {L:List au} {i:Nat} (hi:i<L.length) (x:au):(fun k=>if k=i then x.ac else bP L k)=bP (L.set i x):=by
 funext k
 unfold bP
 by_cases h:k=i
 ·subst h
  rw [if_pos rfl,List.getD_eq_getElem?_getD,List.getElem?_set_self hi];rfl
 ·rw [if_neg h,List.getD_eq_getElem?_getD,List.getD_eq_getElem?_getD,List.getElem?_set_ne (fun e=>h e.symm)]
theorem FK {L:List au} {x:au} {k:Nat} (hk:k<L.length + 1):(if k<L.length then bP L k else x.ac)=bP (L++[x]) k:=by
 unfold bP
 by_cases h:k<L.length
 ·rw [if_pos h,List.getD_eq_getElem?_getD,List.getD_eq_getElem?_getD,List.getElem?_append_left h]
 ·obtain rfl:k=L.length:=by omega
  rw [if_neg h];simp
set_option maxRecDepth 100000
open Go.Sx
theorem KT (l:List H8) (hl:l.length≤1000000):Makes Tryz.prog 104 [.row 8 l.length (dA l)] [] (XV.sv (.slc 0 8 0 l.length)) (.vec 29 8 l.length (dA l)):=by
 refine Makes.of Tryz.aA Tryz.func104 rfl _ _ _ _ rfl rfl rfl rfl 1 (fun C hC => ?_)
 (replace hC:C.n0=1:=hC;change av _ _ _ ⟨_,_,1⟩ _)
 refine xK 1 ?_
 refine wD <| ak <| av.sK 0 rfl (fun h0 => ?_) (fun cap hcap => ?_)
 ·obtain rfl:l=[]:=List.length_eq_zero_iff.1 h0
  refine xI ?_
  (refine xB ?_)
  refine wD (Ends.made (S':=⟨[none,none,some (XV.sv (.slc 1 8 0 0)),none,none,none,none,none],[(0,.ro 8 0 (dA [])),(1,.vec 29 8 0 (dA []))],2⟩) (.inr rfl) ((aN.nO (t:=2) rfl 29 8).trans ?_) rfl (Nat.le_refl _) rfl)
  ((try dsimp only);refine aN.dH [0,5] hC ?_ ?_<;>repeat' (first |exact trivial |exact rfl |exact ⟨_,rfl,rfl,rfl,Nat.le_refl _,fun _ _=>rfl⟩ |exact ⟨_,rfl,rfl,rfl,fun _ _=>rfl⟩ |exact ⟨_,rfl,rfl,rfl⟩ |exact ⟨_,rfl,rfl⟩ |refine ⟨_,rfl,rfl,rfl,by omega,fun k hk => ?_⟩ |refine ⟨?_,?_⟩ |fail))
  exact absurd hk (Nat.not_lt_zero _)
 ·refine xI ?_
  (refine xB ?_)
  (refine wP _ _ (aD Tryz.aA rfl rfl rfl rfl rfl [0,4] (aR rfl rfl (Nat.le_refl _) rfl) (sJ (lo:=0) rfl rfl rfl (Nat.zero_mul _).symm (by omega)) rfl (fun _ _=>rfl) (by simp only [maxLen];omega) (by dsimp only;omega)) ?_;refine xZ ?_)
  simp only [Nat.zero_add]
  refine wD (Ends.made (S':=⟨[none,none,some (XV.sv (.slc 1 8 0 l.length)),none,none,none,none,none],[(0,.ro 8 l.length (dA l)),(1,.vec 29 8 l.length (dA l))],2⟩) (.inr rfl) ?_ rfl (Nat.le_refl _) rfl)
  ((try dsimp only);exact xE [0,6] hC)
theorem KV (l:List dG) (hl:l.length≤1000000):Makes Tryz.prog 105 [.row 9 l.length (bE l)] [] (XV.sv (.slc 0 9 0 l.length)) (.vec 59 9 l.length (bE l)):=by
 refine Makes.of Tryz.aA Tryz.func105 rfl _ _ _ _ rfl rfl rfl rfl 1 (fun C hC => ?_)
 (replace hC:C.n0=1:=hC;change av _ _ _ ⟨_,_,1⟩ _)
 refine xK 1 ?_
 refine wD <| ak <| av.sK 0 rfl (fun h0 => ?_) (fun cap hcap => ?_)
 ·obtain rfl:l=[]:=List.length_eq_zero_iff.1 h0
  refine xI ?_
  (refine xB ?_)
  refine wD (Ends.made (S':=⟨[none,none,some (XV.sv (.slc 1 9 0 0)),none,none,none,none,none],[(0,.ro 9 0 (bE [])),(1,.vec 59 9 0 (bE []))],2⟩) (.inr rfl) ((aN.nO (t:=2) rfl 59 9).trans ?_) rfl (Nat.le_refl _) rfl)
  ((try dsimp only);refine aN.dH [0,5] hC ?_ ?_<;>repeat' (first |exact trivial |exact rfl |exact ⟨_,rfl,rfl,rfl,Nat.le_refl _,fun _ _=>rfl⟩ |exact ⟨_,rfl,rfl,rfl,fun _ _=>rfl⟩ |exact ⟨_,rfl,rfl,rfl⟩ |exact ⟨_,rfl,rfl⟩ |refine ⟨_,rfl,rfl,rfl,by omega,fun k hk => ?_⟩ |refine ⟨?_,?_⟩ |fail))
  exact absurd hk (Nat.not_lt_zero _)
 ·refine xI ?_
  (refine xB ?_)
  (refine wP _ _ (aD Tryz.aA rfl rfl rfl rfl rfl [0,4] (aR rfl rfl (Nat.le_refl _) rfl) (sJ (lo:=0) rfl rfl rfl (Nat.zero_mul _).symm (by omega)) rfl (fun _ _=>rfl) (by simp only [maxLen];omega) (by dsimp only;omega)) ?_;refine xZ ?_)
  simp only [Nat.zero_add]
  refine wD (Ends.made (S':=⟨[none,none,some (XV.sv (.slc 1 9 0 l.length)),none,none,none,none,none],[(0,.ro 9 l.length (bE l)),(1,.vec 59 9 l.length (bE l))],2⟩) (.inr rfl) ?_ rfl (Nat.le_refl _) rfl)
  ((try dsimp only);exact xE [0,6] hC)
theorem KW (l:List gP) (hl:l.length≤1000000):Makes Tryz.prog 106 [.row 282 l.length (bY l)] [] (XV.sv (.slc 0 282 0 l.length)) (.vec 192 282 l.length (bY l)):=by
 refine Makes.of Tryz.aA Tryz.func106 rfl _ _ _ _ rfl rfl rfl rfl 1 (fun C hC => ?_)
 (replace hC:C.n0=1:=hC;change av _ _ _ ⟨_,_,1⟩ _)
 refine xK 1 ?_
 refine wD <| ak <| av.sK 0 rfl (fun h0 => ?_) (fun cap hcap => ?_)
 ·obtain rfl:l=[]:=List.length_eq_zero_iff.1 h0
  refine xI ?_
  (refine xB ?_)
  refine wD (Ends.made (S':=⟨[none,none,some (XV.sv (.slc 1 282 0 0)),none,none,none,none,none],[(0,.ro 282 0 (bY [])),(1,.vec 192 282 0 (bY []))],2⟩) (.inr rfl) ((aN.nO (t:=2) rfl 192 282).trans ?_) rfl (Nat.le_refl _) rfl)
  ((try dsimp only);refine aN.dH [0,5] hC ?_ ?_<;>repeat' (first |exact trivial |exact rfl |exact ⟨_,rfl,rfl,rfl,Nat.le_refl _,fun _ _=>rfl⟩ |exact ⟨_,rfl,rfl,rfl,fun _ _=>rfl⟩ |exact ⟨_,rfl,rfl,rfl⟩ |exact ⟨_,rfl,rfl⟩ |refine ⟨_,rfl,rfl,rfl,by omega,fun k hk => ?_⟩ |refine ⟨?_,?_⟩ |fail))
  exact absurd hk (Nat.not_lt_zero _)
 ·refine xI ?_
  (refine xB ?_)
  (refine wP _ _ (aD Tryz.aA rfl rfl rfl rfl rfl [0,4] (aR rfl rfl (Nat.le_refl _) rfl) (sJ (lo:=0) rfl rfl rfl (Nat.zero_mul _).symm (by omega)) rfl (fun _ _=>rfl) (by simp only [maxLen];omega) (by dsimp only;omega)) ?_;refine xZ ?_)
  simp only [Nat.zero_add]
  refine wD (Ends.made (S':=⟨[none,none,some (XV.sv (.slc 1 282 0 l.length)),none,none,none,none,none],[(0,.ro 282 l.length (bY l)),(1,.vec 192 282 l.length (bY l))],2⟩) (.inr rfl) ?_ rfl (Nat.le_refl _) rfl)
  ((try dsimp only);exact xE [0,6] hC)
theorem KU (l:List Int) (hl:l.length≤1000000):Makes Tryz.prog 107 [.row 1 l.length (dO l)] [] (XV.sv (.slc 0 1 0 l.length)) (.vec 3 1 l.length (dO l)):=by
 refine Makes.of Tryz.aA Tryz.func107 rfl _ _ _ _ rfl rfl rfl rfl 1 (fun C hC => ?_)
 (replace hC:C.n0=1:=hC;change av _ _ _ ⟨_,_,1⟩ _)
 refine xK 1 ?_
 refine wD <| ak <| av.sK 0 rfl (fun h0 => ?_) (fun cap hcap => ?_)
 ·obtain rfl:l=[]:=List.length_eq_zero_iff.1 h0
  refine xI ?_
  (refine xB ?_)
  refine wD (Ends.made (S':=⟨[none,none,some (XV.sv (.slc 1 1 0 0)),none,none,none,none,none],[(0,.ro 1 0 (dO [])),(1,.vec 3 1 0 (dO []))],2⟩) (.inr rfl) ((aN.nO (t:=2) rfl 3 1).trans ?_) rfl (Nat.le_refl _) rfl)
  ((try dsimp only);refine aN.dH [0,5] hC ?_ ?_<;>repeat' (first |exact trivial |exact rfl |exact ⟨_,rfl,rfl,rfl,Nat.le_refl _,fun _ _=>rfl⟩ |exact ⟨_,rfl,rfl,rfl,fun _ _=>rfl⟩ |exact ⟨_,rfl,rfl,rfl⟩ |exact ⟨_,rfl,rfl⟩ |refine ⟨_,rfl,rfl,rfl,by omega,fun k hk => ?_⟩ |refine ⟨?_,?_⟩ |fail))
  exact absurd hk (Nat.not_lt_zero _)
 ·refine xI ?_
  (refine xB ?_)
  (refine wP _ _ (aD Tryz.aA rfl rfl rfl rfl rfl [0,4] (aR rfl rfl (Nat.le_refl _) rfl) (sJ (lo:=0) rfl rfl rfl (Nat.zero_mul _).symm (by omega)) rfl (fun _ _=>rfl) (by simp only [maxLen];omega) (by dsimp only;omega)) ?_;refine xZ ?_)
  simp only [Nat.zero_add]
  refine wD (Ends.made (S':=⟨[none,none,some (XV.sv (.slc 1 1 0 l.length)),none,none,none,none,none],[(0,.ro 1 l.length (dO l)),(1,.vec 3 1 l.length (dO l))],2⟩) (.inr rfl) ?_ rfl (Nat.le_refl _) rfl)
  ((try dsimp only);exact xE [0,6] hC)
def kR (x:au):List Chunk:=[.vec 29 8 x.par.keys.length (dA x.par.keys),.vec 59 9 x.cert.outs.length (bE x.cert.outs),.vec 192 282 x.cert.sigs.length (bY x.cert.sigs),.vec 3 1 x.used.length (dO x.used)]
def HV (x:au) (p:Nat):List SV:=gq x (.ins p 4 0 x.par.keys.length) (.ins p 4 1 x.cert.outs.length) (.ins p 4 2 x.cert.sigs.length) (.ins p 4 3 x.used.length)
theorem zC (x:au) (p:Nat):Boxed p (kR x) (HV x p) x.ac :=
 BJ ⟨.inr ⟨0,_,_,rfl,rfl,Nat.le_refl _,rfl⟩,trivial⟩ ⟨.inr ⟨1,_,_,rfl,rfl,Nat.le_refl _,rfl⟩,trivial⟩ ⟨.inr ⟨2,_,_,rfl,rfl,Nat.le_refl _,rfl⟩,trivial⟩ ⟨.inr ⟨3,_,_,rfl,rfl,Nat.le_refl _,rfl⟩,trivial⟩
set_option maxHeartbeats 4000000 in
theorem vP (x:au) (hx:x.gN):Makes Tryz.prog 56 [.box x.ac] [] (.cv (.agg (HV x 0))) (.abs (mK (kR x))):=by
 have h1:=hx.keys
 have h2:=hx.outs
 have h3:=hx.sigs
 have h4:=hx.used
 refine Makes.of Tryz.aA Tryz.func56 rfl _ _ _ _ rfl rfl rfl rfl 34 (fun C hC => ?_)
 (replace hC:C.n0=4:=hC;change av _ _ _ ⟨_,_,4⟩ _)
 refine xI ?_
 (refine xB ?_)
 refine xC rfl Tryz.func104 rfl ((KT x.par.keys h1).at [0] ⟨aj rfl rfl,trivial⟩ trivial) ?_
 refine xC rfl Tryz.func105 rfl ((KV x.cert.outs h2).at [1] ⟨aj rfl rfl,trivial⟩ trivial) ?_
 refine xC rfl Tryz.func106 rfl ((KW x.cert.sigs h3).at [2] ⟨aj rfl rfl,trivial⟩ trivial) ?_
 refine xC rfl Tryz.func107 rfl ((KU x.used h4).at [3] ⟨aj rfl rfl,trivial⟩ trivial) ?_
 refine wD (Ends.made (.inr rfl) (aN.NG [9,16,23,29] (kR x) (by decide) rfl rfl (fun j i ch hi hj => ?_)) rfl (Nat.le_of_ble_eq_true rfl) rfl)
 rcases j with _ |_ |_ |_ |j
 ·cases hi;cases hj;exact ⟨_,rfl,kZ.refl _ rfl⟩
 ·cases hi;cases hj;exact ⟨_,rfl,kZ.refl _ rfl⟩
 ·cases hi;cases hj;exact ⟨_,rfl,kZ.refl _ rfl⟩
 ·cases hi;cases hj;exact ⟨_,rfl,kZ.refl _ rfl⟩
 ·cases hi
set_option maxRecDepth 100000
open Go.Sx
abbrev zx:TypeId:=139
abbrev zw:TypeId:=68
abbrev fI (L:List au):mQ:=Dl zx zw L
def Nn (L:List au) (i:Int):Bool:=decide (0≤i) && decide (i<(L.length:Int))
theorem uJ (L:List au) (i:Int):fH Tryz.prog 55 (.abs (fI L)) (.abs (fI L)) [.plain (.one (.raw (.int .i64 i)))] [] (XV.bool (Nn L i)):=by
 refine fH.of Tryz.aA Tryz.func55 rfl _ _ _ _ _ rfl rfl rfl (fun C hC => ?_)
 (replace hC:C.n0=2:=hC;change av _ _ _ ⟨_,_,2⟩ _)
 rcases L with _ |⟨x,r⟩
 ·refine Reg.qJ zx zw 0 rfl (xI ?_)
  (refine xB ?_)
  refine wC (fun h1 => ?_) (fun h1 => ?_)
  ·(refine xG ?_)
   exact wD (Ends.bZ (.inr rfl) (Reg.pz zx zw 0 rfl) rfl rfl (by rw [Nn,h1];rfl))
  ·(refine xG ?_)
   exact wD (Ends.bZ (.inr rfl) (Reg.pz zx zw 0 rfl) rfl rfl (by rw [Nn,h1];rfl))
 ·refine Reg.wB zx zw (x::r) 0 (Nat.succ_pos _) rfl (xI ?_)
  (refine xB ?_)
  refine wC (fun h1 => ?_) (fun h1 => ?_)
  ·(refine xG ?_)
   exact wD (Ends.bZ (.inr rfl) (Reg.shuts zx zw (x::r) 0 (Nat.succ_pos _) rfl rfl rfl rfl rfl (fun _ _=>rfl)) rfl rfl (by rw [Nn,h1];rfl))
  ·(refine xG ?_)
   exact wD (Ends.bZ (.inr rfl) (Reg.shuts zx zw (x::r) 0 (Nat.succ_pos _) rfl rfl rfl rfl rfl (fun _ _=>rfl)) rfl rfl (by rw [Nn,h1];rfl))
theorem wJ (L:List au):fH Tryz.prog 35 (.abs (fI L)) (.abs (fI L)) [] [] (XV.int .i64 L.length):=by
 refine fH.of Tryz.aA Tryz.func35 rfl _ _ _ _ _ rfl rfl rfl (fun C hC => ?_)
 (replace hC:C.n0=1:=hC;change av _ _ _ ⟨_,_,1⟩ _)
 rcases L with _ |⟨x,r⟩
 ·refine Reg.qJ zx zw 0 rfl (xI ?_)
  (refine xB ?_)
  exact wD (Ends.bZ (.inr rfl) (Reg.pz zx zw 0 rfl) rfl rfl rfl)
 ·refine Reg.wB zx zw (x::r) 0 (Nat.succ_pos _) rfl (xI ?_)
  (refine xB ?_)
  exact wD (Ends.bZ (.inr rfl) (Reg.shuts zx zw (x::r) 0 (Nat.succ_pos _) rfl rfl rfl rfl rfl (fun _ _=>rfl)) rfl rfl rfl)
theorem J7 {M:Mem} {d:Nat}:aC Tryz.prog 62 [] M d { v:=XV.sv (.ptr d 0 0 0),upd:=[(d,.abs (fI []))] } []:=by
 refine Kq Tryz.aA Tryz.func62 rfl [] rfl 2 (fun C hC => ?_)
 refine xI ?_
 (refine xB ?_)
 exact wD (Ends.made (.inr rfl) (Reg.pz zx zw 2 rfl) rfl (Nat.zero_le _) rfl)
theorem jP {L:List au}:∀ i,i<L.length→∀ (j:Nat) (x:AC),(bP L i)[j]? = some x→(∃ u,x=AC.raw u)∨(bP L i)[j]? = some x:=fun _ _ _ _ h => .inr h
set_option maxHeartbeats 4000000 in
theorem qR (L:List au) (i:Nat) (hi:i<L.length) (hx:(L.getD i default).gN):Does Tryz.prog 22 [(.abs (fI L),.abs (fI L))] [.plain (.one (.raw (.int .i64 i)))] []
  (.tup [.agg (HV (L.getD i default) 0),.one (.raw (.bool true))]) (some (.abs (mK (kR (L.getD i default))))):=by
 have h0:0<L.length:=by omega
 have hin:Nn L (i:Int)=true:=by rw [Nn,Bool.and_eq_true,decide_eq_true_eq,decide_eq_true_eq];omega
 have hc:=vP (L.getD i default) hx
 have hreg:=uJ L (i:Int)
 rw [hin] at hreg
 refine Does.of Tryz.aA Tryz.func22 rfl _ _ _ _ _ rfl rfl rfl 18 (fun C hC => ?_)
 (replace hC:C.n0=2:=hC;change av _ _ _ ⟨_,_,2⟩ _)
 refine xK 2 ?_
 refine xC rfl Tryz.func55 rfl (hreg.at [] rfl rfl rfl ⟨ah rfl,trivial⟩ trivial) ?_
 refine wD <| ak <| Reg.opens zx zw L 0 h0 rfl (Nat.le_of_ble_eq_true rfl) (fun ad=>xI ?_)
 (refine xB ?_)
 (repeat (refine wN ?_ ?_;exact xW;refine xG ?_))
 simp only [Nat.zero_add,Int.toNat_natCast]
 refine xC rfl Tryz.func56 rfl (hc.at [10] ⟨sG (q:=10) (L:=L) (i:=i) (ad:=ad) rfl rfl hi,trivial⟩ trivial) ?_
 exact wD (Ends.does (.inr rfl) (Reg.mJ zx zw L L 0 (i1:=9) (q:=10) h0 rfl rfl rfl rfl rfl rfl (fun _ _=>rfl) jP) rfl rfl (Nat.le_of_ble_eq_true rfl) rfl)
abbrev lG:SV := .raw (.slice none 0 0)
def Yn:XV := .tup [.agg (gq FZ lG lG lG lG),.one (.raw (.bool false))]
theorem Dx (L:List au) (i:Int) (hi:Nn L i=false):Does Tryz.prog 22 [(.abs (fI L),.abs (fI L))] [.plain (.one (.raw (.int .i64 i)))] [] Yn none:=by
 have hreg:=uJ L i
 rw [hi] at hreg
 refine Does.of Tryz.aA Tryz.func22 rfl _ _ _ _ _ rfl rfl rfl 0 (fun C hC => ?_)
 (replace hC:C.n0=2:=hC;change av _ _ _ ⟨_,_,2⟩ _)
 refine xI ?_
 (refine xB ?_)
 refine xC rfl Tryz.func55 rfl (hreg.at [] rfl rfl rfl ⟨ah rfl,trivial⟩ trivial) ?_
 exact wD (Ends.bZ (.inr rfl) (aN.refl _) rfl rfl rfl)
set_option maxHeartbeats 4000000 in
theorem wK (L:List au) (i:Nat) (hi:i<L.length) (x:au) (hx:x.gN):fH Tryz.prog 49 (.abs (fI L)) (.abs (fI (L.set i x))) [.plain (.one (.raw (.int .i64 i))),.box x.ac] [] (XV.bool true):=by
 have h0:0<L.length:=by omega
 have hin:Nn L (i:Int)=true:=by rw [Nn,Bool.and_eq_true,decide_eq_true_eq,decide_eq_true_eq];omega
 have hc:=vP x hx
 have hreg:=uJ L (i:Int)
 rw [hin] at hreg
 refine fH.of Tryz.aA Tryz.func49 rfl _ _ _ _ _ rfl rfl rfl (fun C hC => ?_)
 (replace hC:C.n0=6:=hC;change av _ _ _ ⟨_,_,6⟩ _)
 refine xK 2 ?_
 refine xC rfl Tryz.func55 rfl (hreg.at [] rfl rfl rfl ⟨ah rfl,trivial⟩ trivial) ?_
 refine wD <| ak <| Reg.wB zx zw L 0 h0 rfl (xI ?_)
 (refine xB ?_)
 refine xC rfl Tryz.func56 rfl (hc.at [2,3,4,5] ⟨bL (aj rfl rfl) (aj rfl rfl) (aj rfl rfl) (aj rfl rfl),trivial⟩ trivial) ?_
 (repeat (refine wN ?_ ?_;exact xW;refine xG ?_))
 simp only [Nat.zero_add,Int.toNat_natCast]
 (refine wP _ _ (H7 Tryz.aA rfl rfl rfl rfl rfl rfl (by decide) rfl rfl rfl hi (zC x 20)) ?_;refine xZ ?_)
 refine wD (Ends.bZ (.inr rfl) (Reg.shuts zx zw (L.set i x) 0 (i1:=13) (by rw [List.length_set];exact h0) rfl rfl rfl (by rw [List.length_set]) (by rw [List.length_set]) (fun k _ => ?_)) rfl rfl rfl)
 exact congrFun (SX hi x) k
set_option maxRecDepth 100000
open Go.Sx
theorem mo (n a b:Int):Reads Tryz.prog 61 [.plain (.one (.raw (.int .i64 n))),.plain (.one (.raw (.int .i64 a))),.plain (.one (.raw (.int .i64 b)))] [] (XV.bool (aO n a b)):=by
 refine Reads.of Tryz.aA Tryz.func61 rfl _ _ _ rfl rfl (fun C hC => ?_)
 (replace hC:C.n0=3:=hC;change av _ _ _ ⟨_,_,3⟩ _)
 refine xI ?_
 (refine xB ?_)
 refine wC (fun h => ?_) (fun h => ?_)
 ·(refine xG ?_)
  exact wD (Ends.plain (.inr rfl) rfl (by rw [aO,h];rfl))
 ·(refine xG ?_)
  exact wD (Ends.plain (.inr rfl) rfl (by rw [aO,h];rfl))
def eH (x:au):Bool:=aO x.par.len 1 64 && (aO x.par.win 0 64 && aO x.made 0 400)
theorem iL {x:au}:eH x=true↔(1≤x.par.len∧x.par.len≤64)∧(0≤x.par.win∧x.par.win≤64)∧(0≤x.made∧x.made≤400):=by
 simp only [eH,aO,Bool.and_eq_true,decide_eq_true_eq]
set_option maxHeartbeats 4000000 in
theorem Ac (x:au):Reads Tryz.prog 60 [.box x.ac] [] (XV.bool (eH x)):=by
 refine Reads.of Tryz.aA Tryz.func60 rfl _ _ _ rfl rfl (fun C hC => ?_)
 (replace hC:C.n0=4:=hC;change av _ _ _ ⟨_,_,4⟩ _)
 refine xI ?_
 (refine xB ?_)
 refine xC rfl Tryz.func61 rfl ((mo x.par.len 1 64).at [] ⟨ah rfl,ah rfl,ah rfl,trivial⟩ trivial) ?_
 refine wC (fun h => ?_) (fun h => ?_)
 ·(refine xG ?_)
  refine xC rfl Tryz.func61 rfl ((mo x.par.win 0 64).at [] ⟨ah rfl,ah rfl,ah rfl,trivial⟩ trivial) ?_
  refine wC (fun h2 => ?_) (fun h2 => ?_)
  ·(refine xG ?_)
   refine xC rfl Tryz.func61 rfl ((mo x.made 0 400).at [] ⟨ah rfl,ah rfl,ah rfl,trivial⟩ trivial) ?_
   exact wD (Ends.plain (.inr rfl) rfl (by rw [eH,h,h2];rfl))
  ·(refine xG ?_)
   exact wD (Ends.plain (.inr rfl) rfl (by rw [eH,h,h2];rfl))
 ·(refine xG ?_)
  exact wD (Ends.plain (.inr rfl) rfl (by rw [eH,h];rfl))
def wr (n:Int):Int:=IntKind.i64.wrap n
def gU (x:au) (h:Int):Int×Bool:=if (!eH x || decide (h≤x.made))=true then (0,false) else (wr ((wr (wr (h - x.made) - 1)).tdiv x.par.len),true)
set_option maxHeartbeats 4000000 in
theorem OD (x:au) (h:Int):Reads Tryz.prog 59 [.box x.ac,.plain (.one (.raw (.int .i64 h)))] [] (.tup [.one (.raw (.int .i64 (gU x h).1)),.one (.raw (.bool (gU x h).2))]):=by
 refine Reads.of Tryz.aA Tryz.func59 rfl _ _ _ rfl rfl (fun C hC => ?_)
 (replace hC:C.n0=5:=hC;change av _ _ _ ⟨_,_,5⟩ _)
 have ht:=Ac x
 refine xI ?_
 (refine xB ?_)
 cases hb:eH x with
 | false =>
  rw [hb] at ht
  refine xC rfl Tryz.func60 rfl (ht.at [0,1,2,3] ⟨bL (x:=x) (aj rfl rfl) (aj rfl rfl) (aj rfl rfl) (aj rfl rfl),trivial⟩ trivial) ?_
  exact wD (Ends.plain (.inr rfl) rfl (by rw [gU,hb];rfl))
 | true =>
  rw [hb] at ht
  have htm:=iL.1 hb
  refine xC rfl Tryz.func60 rfl (ht.at [0,1,2,3] ⟨bL (x:=x) (aj rfl rfl) (aj rfl rfl) (aj rfl rfl) (aj rfl rfl),trivial⟩ trivial) ?_
  refine wC (fun h1 => ?_) (fun h1 => ?_)
  ·(refine xG ?_)
   exact wD (Ends.plain (.inr rfl) rfl (by rw [gU,hb,h1];rfl))
  ·(refine xG ?_)
   refine wN (show x.par.len≠0 by omega) ?_
   (refine xG ?_)
   exact wD (Ends.plain (.inr rfl) rfl (by rw [gU,hb,h1];rfl))
def jL (x:au) (e:Int):Int:=if (!eH x || !aO e 0 400)=true then 0 else wr (x.made + wr (wr (e + 1) * x.par.len))
set_option maxHeartbeats 4000000 in
theorem IU (x:au) (e:Int):Reads Tryz.prog 28 [.box x.ac,.plain (.one (.raw (.int .i64 e)))] [] (XV.int .i64 (jL x e)):=by
 refine Reads.of Tryz.aA Tryz.func28 rfl _ _ _ rfl rfl (fun C hC => ?_)
 (replace hC:C.n0=5:=hC;change av _ _ _ ⟨_,_,5⟩ _)
 have ht:=Ac x
 refine xI ?_
 (refine xB ?_)
 cases hb:eH x with
 | false =>
  rw [hb] at ht
  refine xC rfl Tryz.func60 rfl (ht.at [0,1,2,3] ⟨bL (x:=x) (aj rfl rfl) (aj rfl rfl) (aj rfl rfl) (aj rfl rfl),trivial⟩ trivial) ?_
  exact wD (Ends.plain (.inr rfl) rfl (by rw [jL,hb];rfl))
 | true =>
  rw [hb] at ht
  refine xC rfl Tryz.func60 rfl (ht.at [0,1,2,3] ⟨bL (x:=x) (aj rfl rfl) (aj rfl rfl) (aj rfl rfl) (aj rfl rfl),trivial⟩ trivial) ?_
  refine xC rfl Tryz.func61 rfl ((mo e 0 400).at [] ⟨ah rfl,ah rfl,ah rfl,trivial⟩ trivial) ?_
  refine wC (fun h1 => ?_) (fun h1 => ?_)
  ·(refine xG ?_)
   exact wD (Ends.plain (.inr rfl) rfl (by rw [jL,hb,h1];rfl))
  ·(refine xG ?_)
   exact wD (Ends.plain (.inr rfl) rfl (by rw [jL,hb,h1];rfl))
def kW (x:au) (h:Int):Int×Bool :=
 if x.ceased=true then (0,false)
 else if (!(gU x (wr (h - x.par.win))).2 || (decide (400<(gU x (wr (h - x.par.win))).1) || (jL x (gU x (wr (h - x.par.win))).1 != wr (h - x.par.win))))=true then (0,false)
 else ((gU x (wr (h - x.par.win))).1,true)
set_option maxHeartbeats 4000000 in
theorem Nb (x:au) (h:Int):Reads Tryz.prog 27 [.box x.ac,.plain (.one (.raw (.int .i64 h)))] [] (.tup [.one (.raw (.int .i64 (kW x h).1)),.one (.raw (.bool (kW x h).2))]):=by
 refine Reads.of Tryz.aA Tryz.func27 rfl _ _ _ rfl rfl (fun C hC => ?_)
 (replace hC:C.n0=5:=hC;change av _ _ _ ⟨_,_,5⟩ _)
 have he:=OD x (wr (h - x.par.win))
 refine xI ?_
 (refine xB ?_)
 refine wC (fun h1 => ?_) (fun h1 => ?_)
 ·(refine xG ?_)
  exact wD (Ends.plain (.inr rfl) rfl (by rw [kW,if_pos h1]))
 (refine xG ?_)
 have hd:kW x h=if (!(gU x (wr (h - x.par.win))).2 || (decide (400<(gU x (wr (h - x.par.win))).1) || (jL x (gU x (wr (h - x.par.win))).1 != wr (h - x.par.win))))=true then (0,false) else ((gU x (wr (h - x.par.win))).1,true):=by rw [kW,if_neg (by rw [h1];simp)]
 obtain ⟨⟨e,ok⟩,hp⟩:∃ p,gU x (wr (h - x.par.win))=p:=⟨_,rfl⟩
 rw [hp] at he hd
 have hn:=IU x e
 dsimp only at he hd
 refine xC rfl Tryz.func59 rfl (he.at [0,1,2,3] ⟨bL (x:=x) (aj rfl rfl) (aj rfl rfl) (aj rfl rfl) (aj rfl rfl),ah rfl,trivial⟩ trivial) ?_
 refine wC (fun h2 => ?_) (fun h2 => ?_)
 ·(refine xG ?_)
  exact wD (Ends.plain (.inr rfl) rfl (by rw [hd,if_pos (by rw [h2];rfl)]))
 (refine xG ?_)
 refine wC (fun h3 => ?_) (fun h3 => ?_)
 ·(refine xG ?_)
  exact wD (Ends.plain (.inr rfl) rfl (by rw [hd,if_pos (by rw [h2,h3];rfl)]))
 (refine xG ?_)
 refine xC rfl Tryz.func28 rfl (hn.at [0,1,2,3] ⟨bL (x:=x) (aj rfl rfl) (aj rfl rfl) (aj rfl rfl) (aj rfl rfl),ah rfl,trivial⟩ trivial) ?_
 refine wC (fun h4 => ?_) (fun h4 => ?_)
 ·(refine xG ?_)
  exact wD (Ends.plain (.inr rfl) rfl (by rw [hd,if_pos (by rw [h2,h3];exact h4)]))
 ·(refine xG ?_)
  exact wD (Ends.plain (.inr rfl) rfl (by rw [hd,if_neg (by rw [h2,h3,Bool.false_or,Bool.false_or];intro h5;rw [show (jL x e != wr (h - x.par.win))=false from h4] at h5;cases h5)]))
set_option maxRecDepth 100000
open Go.Sx
set_option maxRecDepth 100000
open Go.Sx
theorem FQ (n:Int):∀ {w k:Nat},k<w→cO (zN n) k=bI (bA n w) k
 | w + 1,k,hk=>by
  rw [bA]
  by_cases h:k<w
  ·rw [FQ n h]
   simp [bI,cO,List.getD_eq_getElem?_getD,List.getElem?_append_left (show k<(bA n w).length by rw [aK];exact h)]
  ·obtain rfl:k=w:=by omega
   simp [bI,cO,List.getD_eq_getElem?_getD,aK]
def UK (n:Int) (i:Nat):Nat→UInt8:=fun k=>if k<i then zN n k else 0
def XU (n:Int) (w i:Nat):St :=
 ⟨[some (XV.int .i64 n),none,none,none,none,some (XV.sv (.slc 2 1 0 w)),none,none,none,some (XV.sv (.slc 2 1 0 w)),some (XV.int .i64 w),some (XV.int .i64 i)]++List.replicate 12 none,
  [(2,.vec 5 1 w (cO (UK n i)))],3⟩
theorem K5 (n:Int) (w:Nat) (hw:w≤7):Makes Tryz.prog 212 [.plain (.one (.raw (.int .i64 n))),.plain (.one (.raw (.int .i64 w)))] [] (XV.sv (.slc 0 1 0 w)) (.vec 5 1 w (bI (bA n w))):=by
 refine Makes.of Tryz.aA Tryz.func212 rfl _ _ _ _ rfl rfl rfl rfl 2 (fun C hC => ?_)
 (replace hC:C.n0=2:=hC;change av _ _ _ ⟨_,_,2⟩ _)
 refine xK 2 ?_
 refine wN ⟨rfl,by omega,by omega⟩ ?_
 (refine xG ?_)
 refine wD <| ak <| av.seq ?_
 refine xK 1 ?_
 refine wD <| ak <| av.block ?_
 refine av.loop (α:={ i:Nat // i≤w }) (fun i=>XU n w i.1) (fun i=>w - i.1) ⟨0,Nat.zero_le _⟩ ?_ ?_
 ·simp only [Int.toNat_natCast]
  ((try dsimp only);exact xE [0,1,4] hC)
 rintro ⟨i,hi⟩
 dsimp only
 refine xK 2 ?_
 refine wC (fun h1 => ?_) (fun h1 => ?_)
 ·(refine xG ?_)
  have h1':i<w:=xW
  have hw1:IntKind.i64.wrap ((i:Int) + 1)=((i + 1:Nat):Int):=xW
  have hw8:IntKind.i64.wrap (8 * (i:Int))=((8 * i:Nat):Int):=xW
  refine wD <| ak <| av.seq <| av.block <| xI ?_
  (refine xB ?_)
  simp only [hw8]
  (repeat (refine wN ?_ ?_;exact xW;refine xG ?_))
  refine wD <| aJ <| ak <| xI ?_
  (refine xB ?_)
  refine wD <| aP ⟨⟨i + 1,h1'⟩,by dsimp only;omega,?_⟩
  rw [hw1]
  ((try dsimp only);refine aN.dH [0,1,2] hC ?_ ?_<;>repeat' (first |exact trivial |exact rfl |exact ⟨_,rfl,rfl,rfl,Nat.le_refl _,fun _ _=>rfl⟩ |exact ⟨_,rfl,rfl,rfl,fun _ _=>rfl⟩ |exact ⟨_,rfl,rfl,rfl⟩ |exact ⟨_,rfl,rfl⟩ |refine ⟨_,rfl,rfl,rfl,by omega,fun k hk => ?_⟩ |refine ⟨?_,?_⟩ |fail))
  simp only [Int.toNat_natCast,Nat.zero_add]
  rw [← dI,XE]
  simp only [cO,UK]
  by_cases hk2:k=i
  ·subst hk2
   rw [if_pos rfl,if_pos (Nat.lt_succ_self k)]
   rfl
  ·rw [if_neg hk2]
   by_cases hk3:k<i
   ·rw [if_pos hk3,if_pos (by omega)]
   ·rw [if_neg hk3,if_neg (by omega)]
 ·(refine xG ?_)
  have h1':i=w:=xW
  subst h1'
  have hf:∀ k,k<i→cO (UK n i) k=bI (bA n i) k:=fun k hk=>by
   rw [← FQ n hk];simp [cO,UK,hk]
  refine wD <| bW <| aS <| aI <| ak <| av.ent (aN.D7 (c:=2) (g:=bI (bA n i)) rfl hf) <| xI ?_
  (refine xB ?_)
  exact wD (Ends.made (.inr rfl) (aN.refl _) rfl (Nat.le_refl _) rfl)
structure kU where
 b:List UInt8
 e:Int
def Y9 (ty:TypeId) (W:kU):Mem:=[(0,.cells ty [.slc 1 1 0 W.b.length,.raw (.int .i64 W.e)]),(1,.vec 5 1 W.b.length (bI W.b))]
def DX (ty:TypeId) (W:kU):mQ:=vB (Y9 ty W) True
theorem kU.opens {P:Program} {C:Ctx} {cd:Code} {slots:List (Option XV)} {mem:Mem} {nx:Nat} {Q:Exit→St→Prop} (ty:TypeId) (W:kU) (c:Nat) (hc:mem.get c=some (.abs (DX ty W)))
  (h:av P C cd ⟨slots,(c,.cells ty [.slc (nx + 1) 1 0 W.b.length,.raw (.int .i64 W.e)])::(nx + 1,.vec 5 1 W.b.length (bI W.b))::mem.del c,nx + 2⟩ Q):av P C cd ⟨slots,mem,nx⟩ Q :=
 av.opens (M:=Y9 ty W) (m:=2) (inv:=True) (c:=c) hc rfl fun _=>h
theorem kU.shuts {C:Ctx} {slots:List (Option XV)} {mem:Mem} {nx:Nat} (ty:TypeId) (W:kU) (c:Nat) {i1 m n:Nat} {er:Int} {f:Nat→List Value} (k0:mem.get c=some (.cells ty [.slc i1 1 0 m,.raw (.int .i64 er)])) (k1:mem.get i1=some (.vec 5 1 n f))
  (hids:Nat.beq c i1=false) (hm:m=W.b.length) (he:er=W.e) (hle:W.b.length≤n) (hf:∀ i,i<W.b.length→f i=bI W.b i):aN C ⟨slots,mem,nx⟩ ⟨slots,(c,.abs (DX ty W))::mem.mD [c,i1],nx⟩:=by
 subst hm he
 exact aN.VT (S:=⟨slots,mem,nx⟩) (M:=Y9 ty W) (inv:=True) hids trivial rfl rfl rfl k0 k1 rfl ⟨rfl,rfl⟩ ⟨rfl,rfl,hle,hf⟩
theorem kU.ends {C:Ctx} {T:aU} {rs:List ResultVar} {X X':XV} {e:Exit} {n0:Nat} {slots:List (Option XV)} {mem:Mem} {nx:Nat} {W0:kU} (ty:TypeId) (W:kU) {i1 m n:Nat} {er:Int} {f:Nat→List Value} (he:e = .normal∨e = .ret)
  (k0:mem.get 0=some (.cells ty [.slc i1 1 0 m,.raw (.int .i64 er)])) (k1:mem.get i1=some (.vec 5 1 n f)) (hids:Nat.beq 0 i1=false) (hr:tK T ⟨slots,(0,.abs (DX ty W))::mem.mD [0,i1],nx⟩ rs=some X') (hX:X'=X) (hW:W=W0)
  (hm:m=W.b.length) (her:er=W.e) (hle:W.b.length≤n) (hf:∀ i,i<W.b.length→f i=bI W.b i):Sx.Ends C T rs 1 n0 ⟨X,[(0,.abs (DX ty W0))],none⟩ e ⟨slots,mem,nx⟩:=by
 subst hX hW
 exact Ends.bZ he (kU.shuts ty W 0 k0 k1 hids hm her hle hf) rfl hr rfl
def kU.put (W:kU) (b:List UInt8):kU:=if W.e=0 then (if (131072:Int) - (W.b.length:Int)<(b.length:Int) then ⟨W.b,3⟩ else ⟨W.b++b,W.e⟩) else W
theorem NP (ty:TypeId) (W:kU) (b:List UInt8) (hW:W.b.length≤1000000) (hb:b.length≤1000000):fH Tryz.prog 211 (.abs (DX ty W)) (.abs (DX ty (W.put b))) [.row 1 b.length (bI b)] [] (.tup []):=by
 refine fH.of Tryz.aA Tryz.func211 rfl _ _ _ _ _ rfl rfl rfl (fun C hC => ?_)
 (replace hC:C.n0=2:=hC;change av _ _ _ ⟨_,_,2⟩ _)
 refine kU.opens ty W 0 rfl (xI ?_)
 (refine xB ?_)
 refine wC (fun h1 => ?_) (fun h1 => ?_)
 ·have h1':¬ W.e=0:=by simpa using h1
  (refine xG ?_)
  refine wD (kU.ends ty W (.inl rfl) rfl rfl rfl rfl rfl ?_ rfl rfl (Nat.le_refl _) (fun _ _=>rfl))
  rw [kU.put,if_neg h1']
 ·have h1':W.e=0:=by simpa using h1
  (refine xG ?_)
  have e1:IntKind.i64.wrap (131072 - (W.b.length:Int))=131072 - (W.b.length:Int):=xW
  simp only [e1]
  refine wC (fun h2 => ?_) (fun h2 => ?_)
  ·have h2':(131072:Int) - (W.b.length:Int)<(b.length:Int):=of_decide_eq_true h2
   (refine xG ?_)
   refine wD (kU.ends ty ⟨W.b,3⟩ (.inl rfl) rfl rfl rfl rfl rfl ?_ rfl rfl (Nat.le_refl _) (fun _ _=>rfl))
   rw [kU.put,if_pos h1',if_pos h2']
  ·have h2':¬ (131072:Int) - (W.b.length:Int)<(b.length:Int):=of_decide_eq_false h2
   (refine xG ?_)
   (refine wP _ _ (aD Tryz.aA rfl rfl rfl rfl rfl [3,1] (aR rfl rfl (Nat.le_refl _) rfl) (CJ (lo:=0) rfl rfl (Nat.le_of_eq (Nat.zero_add _)) rfl) rfl (fun _ _=>rfl) (by simp only [maxLen];omega) (by dsimp only;omega)) ?_;refine xZ ?_)
   refine wD (kU.ends ty ⟨W.b++b,W.e⟩ (.inl rfl) rfl rfl rfl rfl rfl ?_ (List.length_append).symm rfl (Nat.le_of_eq List.length_append) (fun i hi => ?_))
   ·rw [kU.put,if_pos h1',if_neg h2']
   ·exact eG rfl (fun _ _=>rfl) (fun _ _=>by rw [Nat.zero_add]) (by rw [← List.length_append];exact hi)
def Ew (n:Int) (w:Nat):Prop:=1≤w∧w≤7∧0≤n∧n<2 ^ (8 * w)
theorem Rx {n:Int} {w:Nat} (h:Ew n w):iN .i64 n ((8 * w:Nat):Int)=0:=by
 obtain ⟨h1,h2,h3,h4⟩:=h
 have hb:IntKind.i64.bits=64:=rfl
 have e:min (((8 * w:Nat):Int).toNat) IntKind.i64.bits=8 * w:=by rw [hb];omega
 rw [iN,e,Int.fdiv_eq_ediv_of_nonneg _ (Int.le_of_lt (Int.pow_pos (by decide)))]
 exact Int.ediv_eq_zero_of_lt h3 h4
theorem kT (ty:TypeId) (W:kU) (n:Int) (w:Nat) (hn:Ew n w) (hW:W.b.length≤1000000):fH Tryz.prog 183 (.abs (DX ty W)) (.abs (DX ty (W.put (bA n w)))) [.plain (.one (.raw (.int .i64 n))),.plain (.one (.raw (.int .i64 w)))] [] (.tup []):=by
 obtain ⟨f1,f2,f3,f4⟩:=id hn
 refine fH.of Tryz.aA Tryz.func183 rfl _ _ _ _ _ rfl rfl rfl (fun C hC => ?_)
 (replace hC:C.n0=3:=hC;change av _ _ _ ⟨_,_,3⟩ _)
 refine kU.opens ty W 0 rfl (av.block ?_)
 refine xK 1 ?_
 refine wD <| ak <| av.cond (b:=(W.e != 0)) rfl (fun h1 => ?_) (fun h1 => ?_)
 ·have h1':¬ W.e=0:=by simpa using h1
  refine av.skip (aJ (kU.ends ty W (.inl rfl) rfl rfl rfl rfl rfl ?_ rfl rfl (Nat.le_refl _) (fun _ _=>rfl)))
  rw [kU.put,if_neg h1']
 ·have e8:IntKind.i64.wrap (8 * (w:Int))=((8 * w:Nat):Int):=xW
  refine av.ent (kU.shuts ty W 0 rfl rfl rfl rfl rfl (Nat.le_refl _) (fun _ _=>rfl)) (xI ?_)
  (refine xB ?_)
  (refine kE ?_ ?_;(first |refine decide_eq_false ?_ |rw [beq_eq_false_iff_ne] |rw [bne_eq_false_iff_eq]);exact xW;refine xG ?_)
  (refine kE ?_ ?_;(first |refine decide_eq_false ?_ |rw [beq_eq_false_iff_ne] |rw [bne_eq_false_iff_eq]);exact xW;refine xG ?_)
  (refine kE ?_ ?_;(first |refine decide_eq_false ?_ |rw [beq_eq_false_iff_ne] |rw [bne_eq_false_iff_eq]);exact xW;refine xG ?_)
  simp only [e8]
  (repeat (refine wN ?_ ?_;exact xW;refine xG ?_))
  simp only [Rx hn]
  (refine kE rfl ?_;refine xG ?_)
  refine xC rfl Tryz.func212 rfl ((K5 n w f2).at [] ⟨ah rfl,ah rfl,trivial⟩ trivial) ?_
  refine xC rfl Tryz.func211 rfl ((NP ty W (bA n w) hW (by rw [aK];omega)).at [36] rfl rfl rfl ⟨aF (aK n w).symm rfl rfl (by rw [aK];omega) (fun i _=>by rw [Nat.zero_add]),trivial⟩ trivial) ?_
  exact wD (aJ (Ends.bZ (.inl rfl) (aN.refl _) rfl rfl rfl))
def kU.hash (W:kU) (h:H8):kU:=W.put h.l
theorem uQ (ty:TypeId) (W:kU) (h:H8) (hW:W.b.length≤1000000):fH Tryz.prog 213 (.abs (DX ty W)) (.abs (DX ty (W.put h.l))) [.plain h.x] [] (.tup []):=by
 refine fH.of Tryz.aA Tryz.func213 rfl _ _ _ _ _ rfl rfl rfl (fun C hC => ?_)
 (replace hC:C.n0=2:=hC;change av _ _ _ ⟨_,_,2⟩ _)
 refine xI ?_
 (refine xB ?_)
 refine xC rfl Tryz.func211 rfl ((NP ty W h.l hW (by simp [H8.jg])).at [2] rfl rfl rfl ⟨eX rfl rfl (fun _ _=>rfl) rfl,trivial⟩ trivial) ?_
 exact wD (Ends.bZ (.inl rfl) (aN.refl _) rfl rfl rfl)
set_option maxRecDepth 100000
open Go.Sx
def kU.puts (W:kU) (cs:List (List UInt8)):kU:=cs.foldl kU.put W
theorem Pz (W:kU) (cs:List (List UInt8)) (c:List UInt8):W.puts (cs++[c])=(W.puts cs).put c:=by simp [kU.puts]
theorem mh (W:kU) (cs ds:List (List UInt8)):W.puts (cs++ds)=(W.puts cs).puts ds:=by simp [kU.puts]
theorem lT {W:kU} {b:List UInt8} (h:W.b.length≤131072):(W.put b).b.length≤131072:=by
 unfold kU.put
 split
 ·split
  ·exact h
  ·rename_i h2
   simp only [List.length_append]
   omega
 ·exact h
theorem nQ:∀ {cs:List (List UInt8)} {W:kU},W.b.length≤131072→(W.puts cs).b.length≤131072
 | [],_,h=>h
 | c::cs,W,h=>nQ (cs:=cs) (lT (b:=c) h)
theorem NQ:∀ {cs:List (List UInt8)} {W:kU},W.e=0→W.b.length + cs.flatten.length≤131072→W.puts cs=⟨W.b++cs.flatten,0⟩
 | [],W,h,_=>by
  cases W
  simp only at h
  simp [kU.puts,h]
 | c::cs,W,h,hl=>by
  simp only [List.flatten_cons,List.length_append] at hl
  have e:W.put c=⟨W.b++c,0⟩:=by
   rw [kU.put,if_pos h,if_neg (by omega),h]
  show (W.put c).puts cs=_
  rw [e,NQ rfl (by simp only [List.length_append];omega)]
  simp
def dV (p:Nat→H8) (n:Nat):List (List UInt8):=(List.range n).map fun i=>(p i).l
theorem kJ (p:Nat→H8) (n:Nat):dV p (n + 1)=dV p n++[(p n).l]:=by simp [dV,List.range_succ]
theorem Hq (ty:TypeId) (W:kU) (p:Nat→H8) (n:Nat) (hn:n≤1000000000) (hW:W.b.length≤131072):fH Tryz.prog 215 (.abs (DX ty W)) (.abs (DX ty (W.puts (dV p n)))) [.row 8 n (bG p)] [] (.tup []):=by
 refine fH.of Tryz.aA Tryz.func215 rfl _ _ _ _ _ rfl rfl rfl (fun C hC => ?_)
 (replace hC:C.n0=2:=hC;change av _ _ _ ⟨_,_,2⟩ _)
 refine xK 1 ?_
 refine wD <| ak <| av.block ?_
 refine av.loop (α:={ i:Nat // i≤n }) (fun i=>⟨[some (XV.sv (.ptr 0 0 0 0)),none,none,none,none,none,some (XV.sv (.slc 1 8 0 n)),some (XV.int .i64 n),some (XV.int .i64 i.1)]++List.replicate 9 none,[(0,.abs (DX ty (W.puts (dV p i.1)))),(1,.ro 8 n (bG p))],2⟩) (fun i=>n - i.1) ⟨0,Nat.zero_le _⟩ ?_ ?_
 ·((try dsimp only);exact xE [0,1] hC)
 rintro ⟨i,hi⟩
 dsimp only
 refine xK 2 ?_
 refine wC (fun h1 => ?_) (fun h1 => ?_)
 ·(refine xG ?_)
  have h1':i<n:=xW
  have hw:IntKind.i64.wrap ((i:Int) + 1)=((i + 1:Nat):Int):=xW
  have hp:=nQ (cs:=dV p i) hW
  refine wD <| ak <| av.seq <| av.block <| xI ?_
  (refine xB ?_)
  (repeat (refine wN ?_ ?_;exact xW;refine xG ?_))
  simp only [Nat.zero_add,Int.toNat_natCast]
  refine xC rfl Tryz.func213 rfl ((uQ ty (W.puts (dV p i)) (p i) (by omega)).at [] rfl rfl rfl ⟨ah rfl,trivial⟩ trivial) ?_
  refine wD <| aJ <| ak <| xI ?_
  (refine xB ?_)
  refine wD <| aP ⟨⟨i + 1,h1'⟩,by dsimp only;omega,?_⟩
  rw [hw]
  dsimp only
  rw [kJ,Pz]
  ((try dsimp only);exact xE [0,1] hC)
 ·(refine xG ?_)
  have h1':i=n:=xW
  subst h1'
  exact wD <| bW <| aS <| aI (Ends.bZ (.inl rfl) (aN.refl _) rfl rfl rfl)
def kF.parts (s:kF):List (List UInt8):=bA s.idx 1::(dV s.opn 16++(dV s.shut 16++dV s.path 3))
theorem Vr (ty:TypeId) (W:kU) (s:kF) (hs:Ew s.idx 1) (hW:W.b.length≤131072):fH Tryz.prog 214 (.abs (DX ty W)) (.abs (DX ty (W.puts s.parts))) [.plain s.x] [] (.tup []):=by
 have h1:=lT (b:=bA s.idx 1) hW
 have h2:=nQ (cs:=dV s.opn 16) h1
 have h3:=nQ (cs:=dV s.shut 16) h2
 refine fH.of Tryz.aA Tryz.func214 rfl _ _ _ _ _ rfl rfl rfl (fun C hC => ?_)
 (replace hC:C.n0=2:=hC;change av _ _ _ ⟨_,_,2⟩ _)
 refine xI ?_
 (refine xB ?_)
 refine xC rfl Tryz.func183 rfl ((kT ty W s.idx 1 hs (by omega)).at [] rfl rfl rfl ⟨ah rfl,ah rfl,trivial⟩ trivial) ?_
 refine xC rfl Tryz.func215 rfl ((Hq ty (W.put (bA s.idx 1)) s.opn 16 (by decide) h1).at [2] rfl rfl rfl ⟨eX rfl rfl (fun _ _=>rfl) rfl,trivial⟩ trivial) ?_
 refine xC rfl Tryz.func215 rfl ((Hq ty ((W.put (bA s.idx 1)).puts (dV s.opn 16)) s.shut 16 (by decide) h2).at [2] rfl rfl rfl ⟨eX rfl rfl (fun _ _=>rfl) rfl,trivial⟩ trivial) ?_
 refine xC rfl Tryz.func215 rfl ((Hq ty (((W.put (bA s.idx 1)).puts (dV s.opn 16)).puts (dV s.shut 16)) s.path 3 (by decide) h3).at [2] rfl rfl rfl ⟨eX rfl rfl (fun _ _=>rfl) rfl,trivial⟩ trivial) ?_
 have e:W.puts s.parts=(((W.put (bA s.idx 1)).puts (dV s.opn 16)).puts (dV s.shut 16)).puts (dV s.path 3):=by
  show (W.put (bA s.idx 1)).puts _=_
  rw [mh,mh]
 rw [e]
 exact wD (Ends.bZ (.inl rfl) (aN.refl _) rfl rfl rfl)
end Go.Proofs.YtnpkdoggfnlapaaGreatDoor
