/- Parts Ur Ui Uj Uk Um Pd Pn Pq Ye. -/
import Derived.Test.YtnpkdoggfnlapaaGreatDoorG15
import Derived.Test.YtnpkdoggfnlapaaGreatDoorG06
import Derived.Test.YtnpkdoggfnlapaaGreatDoorG20
import Derived.Test.YtnpkdoggfnlapaaGreatDoorG19
set_option linter.unusedSimpArgs false
set_option linter.unusedVariables false
namespace Go.Proofs.YtnpkdoggfnlapaaGreatDoor
set_option maxRecDepth 100000
open Go.Sx
theorem wrap_i64 {n:Int} (h1 : -9223372036854775808≤n) (h2:n<9223372036854775808):IntKind.i64.wrap n=n:=by
 have e1:IntKind.i64.bits=64:=rfl
 have e2:IntKind.i64.signed=true:=rfl
 simp only [IntKind.wrap,e1,e2,Bool.true_and]
 split<;>rename_i h<;>simp only [ge_iff_le,decide_eq_true_eq] at h<;>omega
theorem GQ (c:bF) (M:Mem) (d:Nat):aC Tryz.prog 81 [c.cv] M d { v := .cv c.cv } []:=by
 refine jC Tryz.mixed Tryz.aA Tryz.func81 rfl _ _ rfl rfl (fun C _ => ?_) M d
 (refine xB ?_)
 exact Ends.plain (.inr rfl) rfl rfl
structure RC where
 P:List Pt
 C:List bF
def RC.mem (R:RC):Mem:=[(0,.cells 78 [.slc 1 9 0 R.P.length,.slc 2 11 0 R.C.length]),(1,.vec 65 9 R.P.length fun i=>(R.P.getD i default).cells),(2,.vec 162 11 R.C.length fun i=>(R.C.getD i default).cells)]
def Bg (R:RC):mQ:=vB R.mem True
def RC.empty:RC:=⟨[],[]⟩
set_option maxRecDepth 100000
open Go.Sx
def RC.root (R:RC) (i1 i2:Nat):Chunk := .cells 78 [.slc i1 9 0 R.P.length,.slc i2 11 0 R.C.length]
def RC.Et (R:RC):Chunk := .vec 65 9 R.P.length fun i=>(R.P.getD i default).cells
def RC.Er (R:RC):Chunk := .vec 162 11 R.C.length fun i=>(R.C.getD i default).cells
theorem RC.yC {R:RC} {i:Nat} {ch:Chunk} (h:R.mem.get i=some ch):(i=0∧ch=R.root 1 2)∨(i=1∧ch=R.Et)∨(i=2∧ch=R.Er):=by
 simp only [RC.mem,Mem.get,aL] at h
 by_cases h0:0=i
 ·subst h0;simp at h;exact .inl ⟨rfl,h.symm⟩
 ·by_cases h1:1=i
  ·subst h1;simp at h;exact .inr (.inl ⟨rfl,h.symm⟩)
  ·by_cases h2:2=i
   ·subst h2;simp at h;exact .inr (.inr ⟨rfl,h.symm⟩)
   ·simp [h0,h1,h2] at h
theorem JZ {f:FuncId} {fn:Func} {body:Code} (hf:Tryz.prog.funcs[f]? = some fn) (hb:fn.body=some body) (R:RC) (Xl:List CV) (X:XV) (hXl:Xl.all (CV.ok fun _=>false)=true) (hX:X.ok (fun _=>false)=true) {M:Mem} {c i1 i2 d:Nat}
  (k0:M.get c=some (R.root i1 i2)) (k1:M.get i1=some R.Et) (k2:M.get i2=some R.Er) (hdist:(Nat.beq c i1 || Nat.beq c i2 || Nat.beq i1 i2)=false) (hd:(Nat.beq d c || Nat.beq d i1 || Nat.beq d i2)=false)
  (h:∀ C:Ctx,C.n0=3→av Tryz.prog C body ⟨fV fn.ntmps (.cv (.one (.ptr 0 0 0 0))::Xl.map .cv),R.mem,3⟩ (Sx.Ends C Tryz.T fn.results.toList 3 3 ⟨X,R.mem,none⟩)) :
  aC Tryz.prog f (.one (.ptr c 0 0 0)::Xl) M d { v:=X,upd:=[(c,R.root i1 i2),(i1,R.Et),(i2,R.Er)],wr:=[c,i1,i2] } [c,i1,i2]:=by
 simp only [Bool.or_eq_false_iff,aL,decide_eq_false_iff_not] at hdist hd
 obtain ⟨⟨n1,n2⟩,n3⟩:=hdist
 obtain ⟨⟨m1,m2⟩,m3⟩:=hd
 refine qU (ids:=[c,i1,i2]) (rids:=[]) (k1:=3) (n0:=3) (Xl := .one (.ptr 0 0 0 0)::Xl) (M0:=R.mem) (out:=⟨X,R.mem,none⟩) Tryz.aA hf hb (by simp [n1,n2,n3]) rfl rfl (by simp [m1,m2,m3]) ?_ (fun i ch hi => ?_) (fun i ch hi => ?_) (fun i ch hi=>by cases hi) (XV.aG (fun _ h=>by cases h) hX) h ?_ (XV.aM hX).symm rfl (fun q ch hq => ?_)
 ·simp only [List.all_cons,Bool.and_eq_true]
  refine ⟨by simp [CV.ok,SV.ok],?_⟩
  simp only [List.all_eq_true] at hXl ⊢
  exact fun s hs=>CV.aG (fun _ h=>by cases h) (hXl s hs)
 ·rcases RC.yC hi with ⟨rfl,rfl⟩ |⟨rfl,rfl⟩ |⟨rfl,rfl⟩
  ·exact ⟨by decide,rfl,fun h=>by omega,fun ci hci=>by simp at hci;subst hci;exact k0⟩
  ·exact ⟨by decide,rfl,fun h=>by omega,fun ci hci=>by simp at hci;subst hci;exact k1⟩
  ·exact ⟨by decide,rfl,fun h=>by omega,fun ci hci=>by simp at hci;subst hci;exact k2⟩
 ·rcases RC.yC hi with ⟨rfl,rfl⟩ |⟨rfl,rfl⟩ |⟨rfl,rfl⟩<;>exact ⟨rfl,rfl⟩
 ·simp only [List.map_cons,iB.aM hXl]
  rfl
 ·simp only [Mem.get,aL] at hq
  by_cases e0:c=q
  ·subst e0;simp at hq;subst hq;exact ⟨R.root 1 2,rfl,.inl ⟨0,rfl,rfl⟩⟩
  ·by_cases e1:i1=q
   ·subst e1;simp [e0] at hq;subst hq;exact ⟨R.Et,rfl,.inl ⟨1,rfl,rfl⟩⟩
   ·by_cases e2:i2=q
    ·subst e2;simp [e0,e1] at hq;subst hq;exact ⟨R.Er,rfl,.inl ⟨2,rfl,rfl⟩⟩
    ·simp [e0,e1,e2] at hq
def RC.z8 (R:RC):Nat→Int
 | 0=>0
 | i + 1=>IntKind.i64.wrap (R.z8 i + (R.C.getD i default).amt.toInt)
def PG (R:RC) (i:Nat):St:=⟨[some (XV.sv (.ptr 0 0 0 0)),none,none,some (XV.int .i64 (R.z8 i)),some (XV.int .i64 i)]++List.replicate 21 none,R.mem,3⟩
set_option maxHeartbeats 1000000 in
set_option maxRecDepth 100000 in
theorem yS (R:RC) (hlen:R.C.length<1000000) {M:Mem} {c i1 i2 d:Nat} (k0:M.get c=some (R.root i1 i2)) (k1:M.get i1=some R.Et) (k2:M.get i2=some R.Er) (hdist:(Nat.beq c i1 || Nat.beq c i2 || Nat.beq i1 i2)=false) (hd:(Nat.beq d c || Nat.beq d i1 || Nat.beq d i2)=false) :
  aC Tryz.prog 80 [.one (.ptr c 0 0 0)] M d { v:=XV.int .i64 (R.z8 R.C.length),upd:=[(c,R.root i1 i2),(i1,R.Et),(i2,R.Er)],wr:=[c,i1,i2] } [c,i1,i2]:=by
 refine JZ Tryz.func80 rfl R [] _ rfl rfl k0 k1 k2 hdist hd (fun C hC => ?_)
 have hC0:∀ i,i<C.n0→([0,1,2]:List Nat)[i]? = some i:=fun i hi=>by
  rw [hC] at hi
  match i,hi with
  | 0,_=>rfl
  | 1,_=>rfl
  | 2,_=>rfl
 have hC1:C.n0≤3:=by rw [hC];decide
 refine xK 2 ?_
 refine wD <| ak <| av.seq ?_
 refine xK 1 ?_
 refine wD <| ak <| av.block ?_
 refine av.loop (α:={ i:Nat // i≤R.C.length }) (fun i=>PG R i.1) (fun i=>R.C.length - i.1) ⟨0,Nat.zero_le _⟩ ?_ ?_
 ·exact aN.ren [0,1,2] (by decide) rfl hC0 hC1 rfl ⟨rfl,rfl,rfl,trivial⟩ ⟨⟨_,rfl,rfl,rfl⟩,⟨_,rfl,rfl,rfl,Nat.le_refl _,fun _ _=>rfl⟩,⟨_,rfl,rfl,rfl,Nat.le_refl _,fun _ _=>rfl⟩,trivial⟩
 rintro ⟨i,hi⟩
 dsimp only
 refine xK 1 ?_
 refine wC (fun h1 => ?_) (fun h1 => ?_)
 ·(refine xG ?_)
  have h1':i<R.C.length:=by simp only [decide_eq_true_eq] at h1;omega
  refine wD <| ak <| av.seq <| av.block <| xI ?_
  (refine xB ?_)
  refine wN ⟨by omega,by omega⟩ ?_
  (refine xG ?_)
  refine wN (by omega) ?_
  (refine xG ?_)
  refine wD <| aJ <| ak <| xI ?_
  (refine xB ?_)
  have hw:IntKind.i64.wrap ((i:Int) + 1)=((i + 1:Nat):Int):=by rw [wrap_i64 (by omega) (by omega)];omega
  have hg:R.C.getD (0 + ((i:Nat):Int).toNat) default=R.C.getD i default:=by simp
  have hsum:IntKind.i64.wrap (R.z8 i + (R.C.getD (0 + ((i:Nat):Int).toNat) default).amt.toInt)=R.z8 (i + 1):=by rw [hg];rfl
  refine wD <| aP ⟨⟨i + 1,h1'⟩,by dsimp only;omega,?_⟩
  exact aN.ren [0,1,2] (by decide) rfl hC0 hC1 rfl ⟨rfl,congrArg (fun n:Int=>some (XV.int .i64 n)) hsum,congrArg (fun n:Int=>some (XV.int .i64 n)) hw,trivial⟩ ⟨⟨_,rfl,rfl,rfl⟩,⟨_,rfl,rfl,rfl,Nat.le_refl _,fun _ _=>rfl⟩,⟨_,rfl,rfl,rfl,Nat.le_refl _,fun _ _=>rfl⟩,trivial⟩
 ·(refine xG ?_)
  have h1':i=R.C.length:=by simp only [decide_eq_false_iff_not] at h1;omega
  subst h1'
  refine wD <| bW <| aS <| aI <| ak <| xI ?_
  (refine xB ?_)
  refine wD ⟨.inr rfl,_,aN.refl _,rfl,fun j ch hj => ?_,fun j ch hj=>by cases hj⟩
  rcases RC.yC hj with ⟨rfl,rfl⟩ |⟨rfl,rfl⟩ |⟨rfl,rfl⟩<;>exact ⟨by decide,rfl⟩
def kP (p:Pt):List Pt→Nat
 | []=>0
 | q::r=>if ig q p=true then kP p r + 1 else 0
def RC.pos (R:RC) (p:Pt):Nat:=kP p R.P
def RC.oW (R:RC) (p:Pt):Bool:=decide (R.pos p<R.P.length) && decide (R.P.getD (R.pos p) default=p)
def Xb (R:RC) (p:Pt) (i:Nat):St:=⟨[some (XV.sv (.ptr 0 0 0 0)),none,none,some (XV.sv (.ptr 3 0 0 0)),some (XV.int .i64 (0:Int)),some (XV.bool false),some (XV.int .i64 i)]++List.replicate 34 none,R.mem++[(3,.cells 65 (p.cells.map .raw))],4⟩
set_option maxHeartbeats 1000000 in
set_option maxRecDepth 100000 in
theorem FH (R:RC) (p:Pt) (hlen:R.P.length<1000000) {M:Mem} {c i1 i2 d:Nat} (k0:M.get c=some (R.root i1 i2)) (k1:M.get i1=some R.Et) (k2:M.get i2=some R.Er) (hdist:(Nat.beq c i1 || Nat.beq c i2 || Nat.beq i1 i2)=false) (hd:(Nat.beq d c || Nat.beq d i1 || Nat.beq d i2)=false) :
  aC Tryz.prog 159 [.one (.ptr c 0 0 0),p.cv] M d { v := .tup [.one (.raw (.int .i64 (R.pos p))),.one (.raw (.bool (R.oW p)))],upd:=[(c,R.root i1 i2),(i1,R.Et),(i2,R.Er)],wr:=[c,i1,i2] } [c,i1,i2]:=by
 refine JZ Tryz.func159 rfl R [p.cv] _ rfl rfl k0 k1 k2 hdist hd (fun C hC => ?_)
 have hC0:∀ i,i<C.n0→([0,1,2,3]:List Nat)[i]? = some i:=fun i hi=>by
  rw [hC] at hi
  match i,hi with
  | 0,_=>rfl
  | 1,_=>rfl
  | 2,_=>rfl
 have hC1:C.n0≤4:=by rw [hC];decide
 refine xK 1 ?_
 refine wD <| ak <| av.seq ?_
 refine xK 1 ?_
 refine wD <| ak <| av.block ?_
 refine av.loop (α:={ i:Nat // i≤R.P.length∧R.pos p=i + kP p (R.P.drop i) }) (fun i=>Xb R p i.1) (fun i=>R.P.length - i.1) ⟨0,Nat.zero_le _,by simp [RC.pos]⟩ ?_ ?_
 ·exact aN.ren [0,1,2,3] (by decide) rfl hC0 hC1 rfl ⟨rfl,rfl,rfl,rfl,rfl,trivial⟩ ⟨⟨_,rfl,rfl,rfl⟩,⟨_,rfl,rfl,rfl,Nat.le_refl _,fun _ _=>rfl⟩,⟨_,rfl,rfl,rfl,Nat.le_refl _,fun _ _=>rfl⟩,⟨_,rfl,rfl,rfl⟩,trivial⟩
 rintro ⟨i,hi,hpos⟩
 dsimp only
 refine xK 1 ?_
 refine wC (fun h1 => ?_) (fun h1 => ?_)
 ·(refine xG ?_)
  have h1':i<R.P.length:=by simp only [decide_eq_true_eq] at h1;omega
  have hdrop:R.P.drop i=R.P.getD i default::R.P.drop (i + 1):=by
   rw [List.drop_eq_getElem_cons h1']
   simp [List.getD_eq_getElem?_getD,h1']
  have hg:R.P.getD (0 + ((i:Nat):Int).toNat) default=R.P.getD i default:=by simp
  refine wD <| ak <| av.seq <| av.block <| xI ?_
  (refine xB ?_)
  refine wN ⟨by omega,by omega⟩ ?_
  (refine xG ?_)
  refine wN (by omega) ?_
  (refine xG ?_)
  refine xC rfl Tryz.func193 rfl (Cn (R.P.getD (0 + ((i:Nat):Int).toNat) default) p _ _) ?_
  refine wC (fun h2 => ?_) (fun h2 => ?_)
  ·(refine xG ?_)
   refine wN ⟨by omega,by omega⟩ ?_
   (refine xG ?_)
   refine wN (by omega) ?_
   (refine xG ?_)
   (refine wP _ _ (uW Zd rfl (R.P.getD (0 + ((i:Nat):Int).toNat) default) p rfl rfl) ?_;refine xZ ?_)
   simp only [Bool.not_eq_true'] at h2
   rw [hg] at h2
   have hp:R.pos p=i:=by rw [hpos,hdrop,kP,if_neg (by rw [h2];simp)];rfl
   refine wD <| aQ <| aV <| fq <| aQ <| aV ⟨.inr rfl,_,aN.refl _,?_,fun j ch hj => ?_,fun j ch hj=>by cases hj⟩
   ·have hx:R.oW p=decide (R.P.getD (0 + ((i:Nat):Int).toNat) default=p):=by simp only [RC.oW,hp,hg,h1',decide_true,Bool.true_and]
    rw [hx,hp]
    rfl
   ·rcases RC.yC hj with ⟨rfl,rfl⟩ |⟨rfl,rfl⟩ |⟨rfl,rfl⟩<;>exact ⟨by decide,rfl⟩
  ·(refine xG ?_)
   simp only [Bool.not_eq_false'] at h2
   rw [hg] at h2
   have hw:IntKind.i64.wrap ((i:Int) + 1)=((i + 1:Nat):Int):=by rw [wrap_i64 (by omega) (by omega)];omega
   refine wD <| aJ <| ak <| xI ?_
   (refine xB ?_)
   refine wD <| aP ⟨⟨i + 1,h1',by rw [hpos,hdrop,kP,if_pos h2];omega⟩,by dsimp only;omega,?_⟩
   exact aN.ren [0,1,2,3] (by decide) rfl hC0 hC1 rfl ⟨rfl,rfl,rfl,rfl,congrArg (fun n:Int=>some (XV.int .i64 n)) hw,trivial⟩ ⟨⟨_,rfl,rfl,rfl⟩,⟨_,rfl,rfl,rfl,Nat.le_refl _,fun _ _=>rfl⟩,⟨_,rfl,rfl,rfl,Nat.le_refl _,fun _ _=>rfl⟩,⟨_,rfl,rfl,rfl⟩,trivial⟩
 ·(refine xG ?_)
  have h1':i=R.P.length:=by simp only [decide_eq_false_iff_not] at h1;omega
  have hp:R.pos p=R.P.length:=by rw [hpos,h1',List.drop_length];rfl
  refine wD <| bW <| aS <| aI <| ak <| xI ?_
  (refine xB ?_)
  refine wD ⟨.inr rfl,_,aN.refl _,?_,fun j ch hj => ?_,fun j ch hj=>by cases hj⟩
  ·have hx:R.oW p=false:=by simp [RC.oW,hp]
   rw [hx,hp]
   rfl
  ·rcases RC.yC hj with ⟨rfl,rfl⟩ |⟨rfl,rfl⟩ |⟨rfl,rfl⟩<;>exact ⟨by decide,rfl⟩
set_option maxRecDepth 100000
open Go.Sx
theorem RC.opens {P:Program} {C:Ctx} {cd:Code} {slots:List (Option XV)} {mem:Mem} {nx:Nat} {Q:Exit→St→Prop} (R:RC) (c:Nat) (hc:mem.get c=some (.abs (Bg R)))
  (h:av P C cd ⟨slots,(c,R.root (nx + 1) (nx + 2))::(nx + 1,R.Et)::(nx + 2,R.Er)::mem.del c,nx + 3⟩ Q):av P C cd ⟨slots,mem,nx⟩ Q :=
 av.opens (M:=R.mem) (m:=3) (inv:=True) (c:=c) hc rfl fun _=>h
theorem RC.shuts {C:Ctx} {slots:List (Option XV)} {mem:Mem} {nx:Nat} (R:RC) (c:Nat) {i1 i2 m1 m2 n1 n2:Nat} {f g:Nat→List Value}
  (k0:mem.get c=some (.cells 78 [.slc i1 9 0 m1,.slc i2 11 0 m2])) (k1:mem.get i1=some (.vec 65 9 n1 f)) (k2:mem.get i2=some (.vec 162 11 n2 g))
  (hids:(Nat.beq c i1 || Nat.beq c i2 || Nat.beq i1 i2)=false) (hm1:m1=R.P.length) (hm2:m2=R.C.length) (hl1:R.P.length≤n1) (hl2:R.C.length≤n2) (hf:∀ i,i<R.P.length→f i=(R.P.getD i default).cells) (hg:∀ i,i<R.C.length→g i=(R.C.getD i default).cells) :
  aN C ⟨slots,mem,nx⟩ ⟨slots,(c,.abs (Bg R))::mem.mD [c,i1,i2],nx⟩:=by
 subst hm1 hm2
 exact aN.Ki (S:=⟨slots,mem,nx⟩) (M:=R.mem) (inv:=True) hids trivial rfl rfl rfl rfl k0 k1 k2 rfl ⟨rfl,rfl⟩ ⟨rfl,rfl,hl1,hf⟩ ⟨rfl,rfl,hl2,hg⟩
set_option maxRecDepth 100000
open Go.Sx
theorem yQ (p:Pt):∀ l:List Pt,kP p l≤l.length
 | []=>Nat.le_refl _
 | q::r=>by
  simp only [kP]
  split
  ·have:=yQ p r;simp;omega
  ·simp
theorem Nq {E:Type} (cells:E→List Value) (dflt:E) (l:List E) (k:Nat) (hk:k≤l.length) (x:E) (i:Nat) (hi:i<l.length + 1) :
  eB (tT (eB (fun _=>[]) 0 (fun q=>cells (l.getD (0 + q) dflt))) (0 + k) (cells x)) (0 + k + 1) (fun q=>cells (l.getD (0 + k + q) dflt)) i=cells ((l.take k++x::l.drop k).getD i dflt):=by
 simp only [eB,tT,yG,Nat.zero_add]
 by_cases h1:i<k
 ·have h2:i<k + 1:=by omega
  have h3:¬ i<0:=by omega
  simp only [h1,h2,h3,decide_true,decide_false,cond_true,cond_false,Nat.sub_zero]
  have:(l.take k++x::l.drop k)[i]? = l[i]?:=by
   rw [List.getElem?_append_left (by rw [List.length_take];omega),List.getElem?_take,if_pos h1]
  simp [List.getD_eq_getElem?_getD,this]
 ·by_cases h2:i<k + 1
  ·have h4:i=k:=by omega
   subst h4
   simp only [h2,Nat.lt_irrefl,decide_true,decide_false,cond_true,cond_false]
   have:(l.take i++x::l.drop i)[i]? = some x:=by
    rw [List.getElem?_append_right (by rw [List.length_take];omega),List.length_take]
    have:i - min i l.length=0:=by omega
    rw [this];rfl
   simp [List.getD_eq_getElem?_getD,this]
  ·simp only [h2,decide_false,cond_false]
   have:(l.take k++x::l.drop k)[i]? = l[k + (i - (k + 1))]?:=by
    rw [List.getElem?_append_right (by rw [List.length_take];omega),List.length_take]
    have:i - min k l.length=(i - (k + 1)) + 1:=by omega
    rw [this,List.getElem?_cons_succ,List.getElem?_drop]
   simp [List.getD_eq_getElem?_getD,this]
def RC.okB (R:RC) (p:Pt) (c:bF):Bool := !(R.oW p) && !(decide (p.no.toInt<0)) && !(decide (255<p.no.toInt)) && !(decide (c.amt.toInt<1)) && !(decide (1125899906842624<c.amt.toInt)) && !(decide (IntKind.i64.wrap (1125899906842624 - c.amt.toInt)<R.z8 R.C.length))
def RC.add1 (R:RC) (p:Pt) (c:bF):RC:=⟨R.P.take (R.pos p)++p::R.P.drop (R.pos p),R.C.take (R.pos p)++c::R.C.drop (R.pos p)⟩
def RC.add (R:RC) (p:Pt) (c:bF):RC:=if R.okB p c=true then R.add1 p c else R
theorem RC.ends {C:Ctx} {T:aU} {rs:List ResultVar} {X X':XV} {e:Exit} {slots:List (Option XV)} {mem:Mem} {nx:Nat} {R0:RC} (R:RC) {i1 i2 m1 m2 n1 n2:Nat} {f g:Nat→List Value} (he:e = .normal∨e = .ret)
  (k0:mem.get 0=some (.cells 78 [.slc i1 9 0 m1,.slc i2 11 0 m2])) (k1:mem.get i1=some (.vec 65 9 n1 f)) (k2:mem.get i2=some (.vec 162 11 n2 g))
  (hids:(Nat.beq 0 i1 || Nat.beq 0 i2 || Nat.beq i1 i2)=false) (hr:tK T ⟨slots,(0,.abs (Bg R))::mem.mD [0,i1,i2],nx⟩ rs=some X') (hX:X'=X) (hR:R=R0) (hm1:m1=R.P.length) (hm2:m2=R.C.length) (hl1:R.P.length≤n1) (hl2:R.C.length≤n2)
  (hf:∀ i,i<R.P.length→f i=(R.P.getD i default).cells) (hg:∀ i,i<R.C.length→g i=(R.C.getD i default).cells):Sx.Ends C T rs 1 1 ⟨X,[(0,.abs (Bg R0))],none⟩ e ⟨slots,mem,nx⟩:=by
 subst hX hR
 refine ⟨he,_,RC.shuts R 0 k0 k1 k2 hids hm1 hm2 hl1 hl2 hf hg,hr,fun i ch h => ?_,fun i ch h=>by cases h⟩
 simp only [Mem.get,aL] at h
 by_cases hk:0=i
 ·subst hk
  simp only [decide_true,cond_true,Option.some.injEq] at h
  exact ⟨by omega,by rw [← h];rfl⟩
 ·simp [hk] at h
set_option maxHeartbeats 2000000 in
set_option maxRecDepth 100000 in
theorem Mj (R:RC) (p:Pt) (c:bF) (hPC:R.P.length=R.C.length) (hlen:R.P.length<1000000) {M:Mem} {c0 d:Nat} (hM:M.get c0=some (.abs (Bg R))) (hd:Nat.beq d c0=false):aC Tryz.prog 115 [.one (.ptr c0 0 0 0),p.cv,c.cv] M d { v:=XV.bool (R.okB p c),upd:=[(c0,.abs (Bg (R.add p c)))],wr:=[c0] } [c0]:=by
 refine nS Tryz.aA Tryz.func115 rfl [p.cv,c.cv] (XV.bool (R.okB p c)) rfl rfl hM hd (fun C _ => ?_)
 refine RC.opens R 0 rfl ?_
 have hpl:R.pos p≤R.P.length:=yQ p R.P
 refine xK 3 ?_
 refine xC rfl Tryz.func159 rfl (FH R p hlen rfl rfl rfl rfl rfl) ?_
 refine wC (fun h1 => ?_) (fun h1 => ?_)
 ·(refine xG ?_)
  refine wD <| aV (RC.ends R (.inr rfl) rfl rfl rfl rfl rfl ?_ ?_ rfl rfl (Nat.le_refl _) (Nat.le_refl _) (fun _ _=>rfl) (fun _ _=>rfl))
  ·simp [RC.okB,h1]
  ·simp [RC.add,RC.okB,h1]
 (refine xG ?_)
 refine wC (fun h2 => ?_) (fun h2 => ?_)
 ·(refine xG ?_)
  refine wD <| aV (RC.ends R (.inr rfl) rfl rfl rfl rfl rfl ?_ ?_ rfl rfl (Nat.le_refl _) (Nat.le_refl _) (fun _ _=>rfl) (fun _ _=>rfl))
  ·simp [RC.okB,h2]
  ·simp [RC.add,RC.okB,h2]
 (refine xG ?_)
 refine wC (fun h3 => ?_) (fun h3 => ?_)
 ·(refine xG ?_)
  refine wD <| aV (RC.ends R (.inr rfl) rfl rfl rfl rfl rfl ?_ ?_ rfl rfl (Nat.le_refl _) (Nat.le_refl _) (fun _ _=>rfl) (fun _ _=>rfl))
  ·simp [RC.okB,h3]
  ·simp [RC.add,RC.okB,h3]
 (refine xG ?_)
 refine wC (fun h4 => ?_) (fun h4 => ?_)
 ·(refine xG ?_)
  refine wD <| aV (RC.ends R (.inr rfl) rfl rfl rfl rfl rfl ?_ ?_ rfl rfl (Nat.le_refl _) (Nat.le_refl _) (fun _ _=>rfl) (fun _ _=>rfl))
  ·simp [RC.okB,h4]
  ·simp [RC.add,RC.okB,h4]
 (refine xG ?_)
 refine wC (fun h5 => ?_) (fun h5 => ?_)
 ·(refine xG ?_)
  refine wD <| aV (RC.ends R (.inr rfl) rfl rfl rfl rfl rfl ?_ ?_ rfl rfl (Nat.le_refl _) (Nat.le_refl _) (fun _ _=>rfl) (fun _ _=>rfl))
  ·simp [RC.okB,h5]
  ·simp [RC.add,RC.okB,h5]
 (refine xG ?_)
 refine xC rfl Tryz.func80 rfl (yS R (hPC▸hlen) rfl rfl rfl rfl rfl) ?_
 refine wC (fun h6 => ?_) (fun h6 => ?_)
 ·(refine xG ?_)
  refine wD <| aV (RC.ends R (.inr rfl) rfl rfl rfl rfl rfl ?_ ?_ rfl rfl (Nat.le_refl _) (Nat.le_refl _) (fun _ _=>rfl) (fun _ _=>rfl))
  ·simp [RC.okB,h6]
  ·simp [RC.add,RC.okB,h6]
 (refine xG ?_)
 have hok:R.okB p c=true:=by simp only [RC.okB,h1,h2,h3,h4,h5,h6];rfl
 refine wD <| ak <| xI ?_
 (refine xB ?_)
 refine wN ⟨by omega,by omega⟩ ?_
 (refine xG ?_)
 have hto:((R.pos p:Nat):Int).toNat=R.pos p:=rfl
 have a1:0 + ((R.pos p:Nat):Int).toNat≤maxLen:=by simp only [maxLen];omega
 have a2:(0 + ((R.pos p:Nat):Int).toNat) * 16≤140737488355328:=by omega
 have b1:0 + ((R.pos p:Nat):Int).toNat + 1≤maxLen:=by simp only [maxLen];omega
 have b2:(0 + ((R.pos p:Nat):Int).toNat + 1) * 16≤140737488355328:=by omega
 (refine wP _ _ (aD Tryz.aA rfl rfl rfl rfl rfl [2] (yJ rfl _ _ _ (fun _=>[])) (bU rfl rfl (by omega) rfl) rfl (fun _ _=>rfl) a1 a2) ?_;refine xZ ?_)
 (refine wP _ _ (vH Tryz.aA rfl rfl rfl rfl p.cells rfl rfl rfl (Nat.le_refl _) rfl rfl rfl rfl rfl b1 b2) ?_;refine xZ ?_)
 refine wN ⟨by omega,by omega⟩ ?_
 (refine xG ?_)
 have e1:0 + ((R.pos p:Nat):Int).toNat + 1 + (R.P.length - ((R.pos p:Nat):Int).toNat)≤maxLen:=by simp only [maxLen];omega
 have e2:(0 + ((R.pos p:Nat):Int).toNat + 1 + (R.P.length - ((R.pos p:Nat):Int).toNat)) * 16≤140737488355328:=by omega
 (refine wP _ _ (aD Tryz.aA rfl rfl rfl rfl rfl [57,2] (aR rfl rfl (Nat.le_refl _) rfl) (bU rfl rfl (by omega) rfl) rfl (fun _ _=>rfl) e1 e2) ?_;refine xZ ?_)
 refine wN ⟨by omega,by omega⟩ ?_
 (refine xG ?_)
 have c2:(0 + ((R.pos p:Nat):Int).toNat) * 32≤140737488355328:=by omega
 have d2:(0 + ((R.pos p:Nat):Int).toNat + 1) * 32≤140737488355328:=by omega
 have f1:0 + ((R.pos p:Nat):Int).toNat + 1 + (R.C.length - ((R.pos p:Nat):Int).toNat)≤maxLen:=by simp only [maxLen];omega
 have f2:(0 + ((R.pos p:Nat):Int).toNat + 1 + (R.C.length - ((R.pos p:Nat):Int).toNat)) * 32≤140737488355328:=by omega
 (refine wP _ _ (aD Tryz.aA rfl rfl rfl rfl rfl [3] (yJ rfl _ _ _ (fun _=>[])) (bU rfl rfl (by omega) rfl) rfl (fun _ _=>rfl) a1 c2) ?_;refine xZ ?_)
 (refine wP _ _ (vH Tryz.aA rfl rfl rfl rfl c.cells rfl rfl rfl (Nat.le_refl _) rfl rfl rfl rfl rfl b1 d2) ?_;refine xZ ?_)
 refine wN ⟨by omega,by omega⟩ ?_
 (refine xG ?_)
 (refine wP _ _ (aD Tryz.aA rfl rfl rfl rfl rfl [78,3] (aR rfl rfl (Nat.le_refl _) rfl) (bU rfl rfl (by omega) rfl) rfl (fun _ _=>rfl) f1 f2) ?_;refine xZ ?_)
 have hkC:R.pos p≤R.C.length:=by omega
 refine wD (RC.ends (R.add1 p c) (.inr rfl) rfl rfl rfl rfl rfl ?_ ?_ ?_ ?_ ?_ ?_ ?_ ?_)
 ·rw [hok]
 ·rw [RC.add,if_pos hok]
 ·simp only [RC.add1,List.length_append,List.length_take,List.length_cons,List.length_drop];omega
 ·simp only [RC.add1,List.length_append,List.length_take,List.length_cons,List.length_drop];omega
 ·simp only [RC.add1,List.length_append,List.length_take,List.length_cons,List.length_drop];omega
 ·simp only [RC.add1,List.length_append,List.length_take,List.length_cons,List.length_drop];omega
 ·intro i hi
  simp only [RC.add1,List.length_append,List.length_take,List.length_cons,List.length_drop] at hi
  exact Nq Pt.cells default R.P (R.pos p) hpl p i (by omega)
 ·intro i hi
  simp only [RC.add1,List.length_append,List.length_take,List.length_cons,List.length_drop] at hi
  exact Nq bF.cells default R.C (R.pos p) hkC c i (by omega)
set_option maxRecDepth 100000
open Go.Sx
def RC.get (R:RC) (p:Pt):bF:=if R.oW p=true then R.C.getD (R.pos p) default else EM
set_option maxRecDepth 100000
open Go.Sx
def nK (l:List (Pt×bF)):Prop:=(l.map (·.1)).Nodup
theorem zM:∀ {l:List (Pt×bF)} {k:Pt} {v:bF},nK l→(jJ l k v).Perm ((k,v)::l.filter (fun x=>x.1≠k))
 | [],k,v,_=>List.Perm.refl _
 | x::r,k,v,h=>by
  simp only [nK,List.map_cons,List.nodup_cons] at h
  simp only [jJ]
  by_cases hk:x.1=k
  ·have hr:r.filter (fun x=>x.1≠k)=r:=by
    rw [List.filter_eq_self]
    intro y hy
    have:y.1≠k:=fun e=>h.1 (by rw [hk,← e];exact List.mem_map.2 ⟨y,hy,rfl⟩)
    simpa using this
   rw [if_pos hk,List.filter_cons_of_neg (by simpa using hk),hr]
  ·rw [if_neg hk,List.filter_cons_of_pos (by simpa using hk)]
   exact ((zM h.2).cons x).trans (List.Perm.swap _ _ _)
theorem O4 {l:List (Pt×bF)} {k:Pt} (h:nK l):nK (l.filter (fun x=>x.1≠k)):=by
 have:=(List.filter_sublist (p:=fun x:Pt×bF=>decide (x.1≠k)) (l:=l)).map (·.1)
 exact h.sublist this
theorem U8 {l:List (Pt×bF)} {k:Pt} {v:bF} (h:nK l):nK (jJ l k v):=by
 have hp:=(zM (k:=k) (v:=v) h).map (·.1)
 unfold nK
 rw [hp.nodup_iff,List.map_cons,List.nodup_cons]
 refine ⟨fun hm => ?_,O4 h⟩
 obtain ⟨y,hy,he⟩:=List.mem_map.1 hm
 have:=(List.mem_filter.1 hy).2
 simp [he] at this
theorem yE:∀ {l:List (Pt×bF)} {k:Pt},(dS l k).isSome=false→∀ x∈l,x.1≠k
 | [],k,_,x,hx=>by cases hx
 | y::r,k,h,x,hx=>by
  simp only [dS] at h
  by_cases hk:y.1=k
  ·rw [if_pos hk] at h;cases h
  ·rw [if_neg hk] at h
   rcases List.mem_cons.1 hx with rfl |hx
   ·exact hk
   ·exact yE h x hx
theorem Jr:∀ {l:List (Pt×bF)} {k:Pt} {v:bF},dS l k=some v→(k,v)∈l
 | [],k,v,h=>by cases h
 | y::r,k,v,h=>by
  simp only [dS] at h
  by_cases hk:y.1=k
  ·rw [if_pos hk] at h;cases h;rw [← hk];simp
  ·rw [if_neg hk] at h;exact List.mem_cons_of_mem _ (Jr h)
theorem wrap_add (a b:Int):IntKind.i64.wrap (IntKind.i64.wrap a + b)=IntKind.i64.wrap (a + b):=by
 have e1:IntKind.i64.bits=64:=rfl
 have e2:IntKind.i64.signed=true:=rfl
 simp only [IntKind.wrap,e1,e2,Bool.true_and]
 split<;>split<;>split<;>rename_i h h' h''<;>simp only [ge_iff_le,decide_eq_true_eq] at h h' h''<;>omega
def nU:List (Pt×bF)→Int
 | []=>0
 | x::r=>x.2.amt.toInt + nU r
theorem uP {l l':List (Pt×bF)} (h:l.Perm l'):nU l=nU l':=by
 induction h with
 | nil=>rfl
 | cons x _ ih=>simp only [nU,ih]
 | swap x y l=>simp only [nU];omega
 | trans _ _ h1 h2=>rw [h1,h2]
theorem Ay:∀ {l:List (Pt×bF)} {k:Pt} {v:bF},nK l→(k,v)∈l→dS l k=some v
 | x::r,k,v,hn,h=>by
  simp only [nK,List.map_cons,List.nodup_cons] at hn
  simp only [dS]
  rcases List.mem_cons.1 h with rfl |h
  ·simp
  ·have:x.1≠k:=fun e=>hn.1 (e▸List.mem_map.2 ⟨_,h,rfl⟩)
   rw [if_neg this]
   exact Ay hn.2 h
structure Inv (S:aB):Prop where
 nd:nK S.coins
 tot:S.total=IntKind.i64.wrap (nU S.coins)
theorem Inv.empty:Inv aB.empty:=⟨List.nodup_nil,rfl⟩
theorem NC {S:aB} {p:Pt} {c:bF} (h:S.okB p c=true):S.has p=false:=by
 simp only [aB.okB,Bool.and_eq_true,Bool.not_eq_true'] at h
 exact h.1.2
theorem Inv.add {S:aB} (h:Inv S) (p:Pt) (c:bF):Inv (S.add p c):=by
 unfold aB.add
 split
 ·rename_i hok
  have hh:=yE (NC hok)
  refine ⟨U8 h.nd,?_⟩
  simp only [aB.add1,aB.put,h.tot,wrap_add]
  congr 1
  have hf:S.coins.filter (fun x=>x.1≠p)=S.coins:=by
   rw [List.filter_eq_self]
   intro y hy
   simpa using hh y hy
  have:=uP (zM (k:=p) (v:=c) h.nd)
  rw [hf] at this
  rw [this]
  simp only [nU]
  omega
 ·exact h
theorem UW {S:aB} {p:Pt} (h:S.has p=true):dS S.coins p=some (S.get p):=by
 unfold aB.has at h
 unfold aB.get
 cases hm:dS S.coins p with
 | none=>rw [hm] at h;cases h
 | some v=>rfl
section
variable {S:aB} {R:RC} {zs:List (Pt×bF)}
structure gu (S:aB) (R:RC) (zs:List (Pt×bF)):Prop where
 P:R.P=zs.map (·.1)
 C:R.C=zs.map (·.2)
 perm:zs.Perm S.coins
 srt:zs.Pairwise fun a b=>ig a.1 b.1=true
 inv:Inv S
 amt:∀ x∈zs,1≤x.2.amt.toInt
 most:nU zs≤1125899906842624
def Twin (S:aB) (R:RC):Prop:=∃ zs,gu S R zs
theorem Ku (a b:List (Pt×bF)):nU (a++b)=nU a + nU b:=by
 induction a with
 | nil=>simp [nU]
 | cons x r ih=>simp only [List.cons_append,nU,ih];omega
theorem TP {l:List (Pt×bF)} (h:∀ x∈l,1≤x.2.amt.toInt):0≤nU l:=by
 induction l with
 | nil=>simp [nU]
 | cons x r ih =>
  have:=h x (by simp)
  have:=ih (fun y hy=>h y (by simp [hy]))
  simp only [nU];omega
theorem Ct {a b c:Pt} (h1:ig a b=true) (h2:ig b c=true):ig a c=true:=Cr.trans a b c h1 h2
theorem Jm (a:Pt):ig a a=false:=Cr.irrefl a
theorem LJ {a b:Pt} (h:ig a b=true):ig b a=false:=by
 cases h2:ig b a with
 | false=>rfl
 | true=>have:=Ct h h2;rw [Jm] at this;cases this
theorem sV {p:Pt}:∀ {zs:List (Pt×bF)},zs.Pairwise (fun a b=>ig a.1 b.1=true)→kP p (zs.map (·.1))≤zs.length∧(∀ x∈zs.take (kP p (zs.map (·.1))),ig x.1 p=true)∧(∀ x∈zs.drop (kP p (zs.map (·.1))),ig x.1 p=false)
 | [],_=>by simp [kP]
 | z::r,h=>by
  rw [List.pairwise_cons] at h
  obtain ⟨h1,h2,h3⟩:=sV (p:=p) h.2
  simp only [List.map_cons,kP]
  by_cases hz:ig z.1 p=true
  ·rw [if_pos hz]
   refine ⟨by simp;omega,fun x hx => ?_,fun x hx => ?_⟩
   ·rw [List.take_succ_cons] at hx
    rcases List.mem_cons.1 hx with rfl |hx
    ·exact hz
    ·exact h2 x hx
   ·rw [List.drop_succ_cons] at hx
    exact h3 x hx
  ·rw [if_neg hz]
   have hz':ig z.1 p=false:=by simpa using hz
   refine ⟨by simp,fun x hx=>by simp at hx,fun x hx => ?_⟩
   rw [List.drop_zero] at hx
   rcases List.mem_cons.1 hx with rfl |hx
   ·exact hz'
   ·cases hy:ig x.1 p with
    | false=>rfl
    | true=>have:=Ct (h.1 x hx) hy;rw [hz'] at this;cases this
theorem gu.len (h:gu S R zs):R.P.length=zs.length∧R.C.length=zs.length:=by rw [h.P,h.C];simp
theorem gu.nd (h:gu S R zs):nK zs:=by
 have:=h.perm.map (fun x:Pt×bF=>x.1)
 exact this.nodup_iff.2 h.inv.nd
theorem gu.at (h:gu S R zs) {i:Nat} (hi:i<zs.length):R.P.getD i default=(zs[i]).1∧R.C.getD i default=(zs[i]).2∧dS S.coins (zs[i]).1=some (zs[i]).2:=by
 refine ⟨?_,?_,Ay h.inv.nd (h.perm.mem_iff.1 (List.getElem_mem hi))⟩
 ·rw [h.P];simp [List.getD_eq_getElem?_getD,hi]
 ·rw [h.C];simp [List.getD_eq_getElem?_getD,hi]
theorem gu.total (h:gu S R zs):S.total=nU zs∧0≤nU zs:=by
 have h0:=TP h.amt
 have:=h.most
 refine ⟨?_,h0⟩
 rw [h.inv.tot,← uP h.perm]
 exact wrap_i64 (by omega) (by omega)
theorem gu.z8 (h:gu S R zs):∀ i,i≤zs.length→R.z8 i=IntKind.i64.wrap (nU (zs.take i))
 | 0,_=>by simp [RC.z8,nU];rfl
 | i + 1,hi=>by
  have hil:i<zs.length:=by omega
  rw [RC.z8,h.z8 i (by omega),wrap_add,(h.at hil).2.1,List.take_succ_eq_append_getElem hil,Ku]
  simp [nU]
theorem gu.sum (h:gu S R zs):R.z8 R.C.length=S.total:=by
 rw [h.len.2,h.z8 _ (Nat.le_refl _),List.take_length,h.inv.tot,uP h.perm]
theorem vo:∀ {l:List (Pt×bF)} {k:Pt},(dS l k).isSome=true↔k∈l.map (·.1)
 | [],_=>by simp [dS]
 | x::r,k=>by
  rw [dS]
  by_cases e:x.1=k
  ·rw [if_pos e];simp [e]
  ·rw [if_neg e,vo,List.map_cons,List.mem_cons]
   exact ⟨Or.inr,fun h=>h.resolve_left fun h=>e h.symm⟩
theorem gu.Nl (h:gu S R zs) (p:Pt):S.has p=true↔p∈zs.map (·.1):=by
 rw [aB.has,vo]
 exact (h.perm.map (·.1)).mem_iff.symm
theorem gu.pos (h:gu S R zs) (p:Pt):R.pos p=kP p (zs.map (·.1)):=by rw [RC.pos,h.P]
theorem gu.RF (h:gu S R zs) (p:Pt):R.oW p=true↔p∈zs.map (·.1):=by
 obtain ⟨h1,h2,h3⟩:=sV (p:=p) h.srt
 have hp:=h.pos p
 unfold RC.oW
 simp only [Bool.and_eq_true,decide_eq_true_eq,hp,h.len.1]
 constructor
 ·rintro ⟨hl,he⟩
  rw [(h.at hl).1] at he
  exact List.mem_map.2 ⟨_,List.getElem_mem hl,he⟩
 ·intro hm
  obtain ⟨x,hx,rfl⟩:=List.mem_map.1 hm
  have hx':x∈zs.drop (kP x.1 (zs.map (·.1))):=by
   rw [← List.take_append_drop (kP x.1 (zs.map (·.1))) zs] at hx
   rcases List.mem_append.1 hx with hx |hx
   ·have:=h2 x hx;rw [Jm] at this;cases this
   ·exact hx
  have hl:kP x.1 (zs.map (·.1))<zs.length:=by
   have:=List.length_pos_of_mem hx'
   rw [List.length_drop] at this;omega
  refine ⟨hl,?_⟩
  rw [(h.at hl).1]
  have hd:=List.drop_eq_getElem_cons hl
  rw [hd] at hx'
  rcases List.mem_cons.1 hx' with e |hx'
  ·rw [← e]
  ·have hs:=h.srt.drop (i:=kP x.1 (zs.map (·.1)))
   rw [hd,List.pairwise_cons] at hs
   have h4:=hs.1 x hx'
   have h5:=h3 _ (by rw [hd];exact List.mem_cons_self ..)
   rw [h5] at h4;cases h4
theorem gu.oW (h:gu S R zs) (p:Pt):R.oW p=S.has p:=by
 rw [Bool.eq_iff_iff,h.RF,h.Nl]
theorem gu.okB (h:gu S R zs) (p:Pt) (c:bF):R.okB p c=S.okB p c:=by
 have ht:=h.total
 have hm:=h.most
 rw [Bool.eq_iff_iff]
 simp only [RC.okB,aB.okB,h.oW,h.sum,iH,kX,Bool.and_eq_true,Bool.not_eq_true',decide_eq_false_iff_not,decide_eq_true_eq,ht.1]
 have hc:=c.amt.toInt_lt
 by_cases ha:1≤c.amt.toInt∧c.amt.toInt≤1125899906842624
 ·rw [wrap_i64 (n:=1125899906842624 - c.amt.toInt) (by omega) (by omega),wrap_i64 (n:=nU zs + c.amt.toInt) (by omega) (by omega)]
  constructor
  ·rintro ⟨⟨⟨⟨⟨a1,a2⟩,a3⟩,a4⟩,a5⟩,a6⟩;exact ⟨⟨⟨⟨by omega,by omega⟩,by omega⟩,a1⟩,⟨⟨⟨by omega,by omega⟩,⟨by omega,by omega⟩⟩,⟨by omega,by omega⟩⟩⟩
  ·rintro ⟨⟨⟨⟨a1,a2⟩,a3⟩,a4⟩,⟨⟨⟨a5,a6⟩,⟨a7,a8⟩⟩,⟨a9,a10⟩⟩⟩;exact ⟨⟨⟨⟨⟨a4,by omega⟩,by omega⟩,by omega⟩,by omega⟩,by omega⟩
 ·constructor
  ·rintro ⟨⟨⟨⟨⟨a1,a2⟩,a3⟩,a4⟩,a5⟩,a6⟩;omega
  ·rintro ⟨⟨⟨⟨a1,a2⟩,a3⟩,a4⟩,⟨⟨⟨a5,a6⟩,⟨a7,a8⟩⟩,⟨a9,a10⟩⟩⟩;omega
theorem gu.get (h:gu S R zs) (p:Pt):R.get p=S.get p:=by
 unfold RC.get
 by_cases hp:R.oW p=true
 ·rw [if_pos hp]
  have hp':=hp
  simp only [RC.oW,Bool.and_eq_true,decide_eq_true_eq] at hp'
  have hl:R.pos p<zs.length:=by rw [← h.len.1];exact hp'.1
  have ha:=h.at hl
  rw [hp'.2] at ha
  have h2:=ha.2.2
  rw [← ha.1] at h2
  unfold aB.get
  rw [h2,ha.2.1]
  rfl
 ·rw [if_neg hp]
  rw [h.oW] at hp
  unfold aB.has at hp
  unfold aB.get
  cases hm:dS S.coins p with
  | none=>rfl
  | some v=>rw [hm] at hp;exact absurd rfl hp
theorem gu.add1 (h:gu S R zs) {p:Pt} {c:bF} (hok:S.okB p c=true):Twin (S.add1 p c) (R.add1 p c):=by
 obtain ⟨h1,h2,h3⟩:=sV (p:=p) h.srt
 have hhas:=NC hok
 have hnot:p ∉ zs.map (·.1):=fun hm=>by rw [(h.Nl p).2 hm] at hhas;cases hhas
 have hokR:=hok
 rw [← h.okB] at hokR
 simp only [RC.okB,h.sum,Bool.and_eq_true,Bool.not_eq_true',decide_eq_false_iff_not,h.total.1] at hokR
 obtain ⟨⟨⟨⟨⟨_,_⟩,_⟩,a4⟩,a5⟩,a6⟩:=hokR
 have h0:=h.total.2
 have hm:=h.most
 rw [wrap_i64 (by omega) (by omega)] at a6
 have hzp:(zs.take (R.pos p)++(p,c)::zs.drop (R.pos p)).Perm ((p,c)::zs):=by
  refine List.perm_middle.trans ?_
  rw [List.take_append_drop]
 have hinv:Inv (S.add1 p c):=by
  have:=h.inv.add p c
  unfold aB.add at this
  rwa [if_pos hok] at this
 refine ⟨zs.take (R.pos p)++(p,c)::zs.drop (R.pos p),?_,?_,?_,?_,hinv,?_,?_⟩
 ·simp only [RC.add1,h.P,List.map_append,List.map_cons,List.map_take,List.map_drop]
 ·simp only [RC.add1,h.C,List.map_append,List.map_cons,List.map_take,List.map_drop]
 ·have hc:(S.add1 p c).coins=S.coins++[(p,c)]:=by
   simp only [aB.add1,aB.put]
   exact zL (yE hhas)
  rw [hc]
  exact (hzp.trans (h.perm.cons _)).trans (List.perm_append_singleton _ _).symm
 ·rw [h.pos]
  have hsplit:=h.srt
  rw [← List.take_append_drop (kP p (zs.map (·.1))) zs,List.pairwise_append] at hsplit
  obtain ⟨s1,s2,s3⟩:=hsplit
  rw [List.pairwise_append]
  refine ⟨s1,?_,fun x hx y hy => ?_⟩
  ·rw [List.pairwise_cons]
   refine ⟨fun y hy => ?_,s2⟩
   have hy1:=h3 y hy
   have hne:y.1≠p:=fun e=>hnot (List.mem_map.2 ⟨y,List.mem_of_mem_drop hy,e⟩)
   show ig p y.1=true
   cases hl:ig p y.1 with
   | true=>rfl
   | false=>exact absurd (wo _ _ hl hy1).symm hne
  ·rcases List.mem_cons.1 hy with rfl |hy
   ·exact h2 x hx
   ·exact s3 x hx y hy
 ·intro x hx
  rcases List.mem_cons.1 (hzp.mem_iff.1 hx) with rfl |hx
  ·show 1≤c.amt.toInt;omega
  ·exact h.amt x hx
 ·rw [uP hzp]
  simp only [nU]
  omega
theorem Twin.empty:Twin aB.empty RC.empty:=⟨[],rfl,rfl,List.Perm.refl _,List.Pairwise.nil,Inv.empty,fun _ h=>(by cases h),by decide⟩
theorem Twin.add {S:aB} {R:RC} (h:Twin S R) (p:Pt) (c:bF):Twin (S.add p c) (R.add p c):=by
 obtain ⟨zs,h⟩:=h
 unfold aB.add RC.add
 rw [h.okB]
 split
 ·rename_i hok;exact h.add1 hok
 ·exact ⟨zs,h⟩
end
set_option maxRecDepth 100000
open Go.Sx
set_option maxHeartbeats 2000000 in
theorem Mk (R:RC) (p:Pt) (hPC:R.P.length=R.C.length) (hlen:R.P.length<1000000) {M:Mem} {c0 d:Nat} (hM:M.get c0=some (.abs (Bg R))) (hd:Nat.beq d c0=false):aC Tryz.prog 114 [.one (.ptr c0 0 0 0),p.cv] M d { v := .tup [(R.get p).cv,.one (.raw (.bool (R.oW p)))],upd:=[(c0,.abs (Bg R))],wr:=[c0] } [c0]:=by
 refine nS Tryz.aA Tryz.func114 rfl [p.cv] (.tup [(R.get p).cv,.one (.raw (.bool (R.oW p)))]) rfl rfl hM hd (fun C _ => ?_)
 refine RC.opens R 0 rfl ?_
 have hpl:R.pos p≤R.P.length:=yQ p R.P
 refine xK 3 ?_
 refine xC rfl Tryz.func159 rfl (FH R p hlen rfl rfl rfl rfl rfl) ?_
 refine wC (fun h1 => ?_) (fun h1 => ?_)
 ·(refine xG ?_)
  simp only [Bool.not_eq_true'] at h1
  refine wD <| aV (RC.ends R (.inr rfl) rfl rfl rfl rfl rfl ?_ rfl rfl rfl (Nat.le_refl _) (Nat.le_refl _) (fun _ _=>rfl) (fun _ _=>rfl))
  simp only [RC.get,h1];rfl
 (refine xG ?_)
 simp only [Bool.not_eq_false'] at h1
 have hlt:R.pos p<R.P.length:=by
  simp only [RC.oW,Bool.and_eq_true,decide_eq_true_eq] at h1
  exact h1.1
 have hltC:R.pos p<R.C.length:=by omega
 refine wD <| ak <| xI ?_
 (refine xB ?_)
 (repeat (refine wN ?_ ?_;exact xW;refine xG ?_))
 refine wD (RC.ends R (.inr rfl) rfl rfl rfl rfl rfl ?_ rfl rfl rfl (Nat.le_refl _) (Nat.le_refl _) (fun _ _=>rfl) (fun _ _=>rfl))
 have h0:0 + ((R.pos p:Nat):Int).toNat=R.pos p:=by omega
 simp only [RC.get,h1,if_true,h0];rfl
def V5 (S:aB) (R:RC):Prop:=∀ p,R.oW p=S.has p∧R.get p=S.get p
def eT (id:H8) (h:Int64) (base:Bool):RC→Nat→List dG→RC×Int
 | R,_,[]=>(R,0)
 | R,i,o::r=>if R.oW (dz id i)=true then (R,6) else if R.okB (dz id i) ⟨o.to,o.amt,h,base⟩=true then eT id h base (R.add1 (dz id i) ⟨o.to,o.amt,h,base⟩) (i + 1) r else (R,5)
theorem G6 (p:Pt) (l:List Pt):kP p l≤l.length:=yQ p l
theorem zS {R:RC} (hPC:R.P.length=R.C.length) (p:Pt) (c:bF):(R.add1 p c).P.length=R.P.length + 1∧(R.add1 p c).P.length=(R.add1 p c).C.length:=by
 have h:=G6 p R.P
 have h':R.pos p≤R.P.length:=h
 simp only [RC.add1,List.length_append,List.length_take,List.length_drop,List.length_cons]
 omega
structure V6 (id:H8) (h:Int64) (base:Bool) (R:RC) (l:List dG) where
 i:Nat
 W:RC
 le:i≤l.length
 go:eT id h base R 0 l=eT id h base W i (l.drop i)
 len:W.P.length=R.P.length + i
 same:W.P.length=W.C.length
def Xc (id:H8) (h:Int64) (base:Bool) (l:List dG) (W:RC) (i:Nat):St :=
 ⟨[some (XV.sv (.ptr 0 0 0 0)),none,some (XV.sv (.slc 2 9 0 l.length)),some (XV.int .i64 h.toInt),some (XV.bool base),none,some (XV.sv (.ptr 5 0 0 0)),none,none,none,none,some (XV.int .i64 i)]++List.replicate 30 none,[(0,.abs (Bg W)),(2,.ro 9 l.length (bE l)),(5,.cells 29 (id.cells.map .raw))],6⟩
set_option maxHeartbeats 2000000 in
theorem G9 (R:RC) (id:H8) (l:List dG) (h:Int64) (base:Bool) (hl:l.length≤1000) (hPC:R.P.length=R.C.length) (hR:R.P.length<900000) :
  fH Tryz.prog 58 (.abs (Bg R)) (.abs (Bg (eT id h base R 0 l).1)) [.plain id.x,.row 9 l.length (bE l),.plain (.one (.raw (.int .i64 h.toInt))),.plain (.one (.raw (.bool base)))] [] (XV.int .i64 (eT id h base R 0 l).2):=by
 refine fH.of Tryz.aA Tryz.func58 rfl _ _ _ _ _ rfl rfl rfl (fun C hC => ?_)
 (replace hC:C.n0=5:=hC;change av _ _ _ ⟨_,_,5⟩ _)
 refine xK 1 ?_
 refine wD <| ak <| av.seq ?_
 refine xK 1 ?_
 refine wD <| ak <| av.block ?_
 refine av.loop (α:=V6 id h base R l) (fun x=>Xc id h base l x.W x.i) (fun x=>l.length - x.i) ⟨0,R,Nat.zero_le _,rfl,rfl,hPC⟩ ?_ ?_
 ·unfold Xc
  ((try dsimp only);exact xE [0,1,2,3,4,5] hC)
 rintro ⟨i,W,hi,hg,hst,hWC⟩
 unfold Xc
 dsimp only
 refine xK 1 ?_
 refine wC (fun h1 => ?_) (fun h1 => ?_)
 ·(refine xG ?_)
  have h1':i<l.length:=xW
  have hw:IntKind.i64.wrap ((i:Int) + 1)=((i + 1:Nat):Int):=xW
  have e64:=oF (i:=i) (by omega)
  rw [qB h1',eT] at hg
  refine wD <| ak <| av.seq <| av.block <| xI ?_
  (refine xB ?_)
  rw [e64]
  refine xC rfl Tryz.func114 rfl (Mk W (dz id i) hWC (by omega) rfl rfl) ?_
  refine wC (fun h2 => ?_) (fun h2 => ?_)
  ·rw [if_pos h2] at hg
   (refine xG ?_)
   refine wD <| aQ <| aV <| fq <| aQ <| aV ?_
   rw [hg]
   exact Ends.bZ (.inr rfl) (aN.refl _) rfl rfl rfl
  ·rw [if_neg (by rw [h2];simp)] at hg
   (refine xG ?_)
   rw [← e64]
   (repeat (refine wN ?_ ?_;exact xW;refine xG ?_))
   simp only [Nat.zero_add,Int.toNat_natCast]
   rw [e64]
   refine xC rfl Tryz.func115 rfl (Mj W (dz id i) ⟨(l.getD i default).to,(l.getD i default).amt,h,base⟩ hWC (by omega) rfl rfl) ?_
   refine wC (fun h3 => ?_) (fun h3 => ?_)
   ·have h3:W.okB (dz id i) ⟨(l.getD i default).to,(l.getD i default).amt,h,base⟩=false:=by simpa using h3
    rw [if_neg (by rw [h3];simp)] at hg
    (refine xG ?_)
    refine wD <| aQ <| aV <| fq <| aQ <| aV ?_
    rw [hg,RC.add,if_neg (by rw [h3];simp)]
    exact Ends.bZ (.inr rfl) (aN.refl _) rfl rfl rfl
   ·have h3:W.okB (dz id i) ⟨(l.getD i default).to,(l.getD i default).amt,h,base⟩=true:=by simpa using h3
    rw [if_pos h3] at hg
    (refine xG ?_)
    refine wD <| aJ <| ak <| xI ?_
    (refine xB ?_)
    have hln:=zS hWC (dz id i) ⟨(l.getD i default).to,(l.getD i default).amt,h,base⟩
    refine wD <| aP ⟨⟨i + 1,W.add1 (dz id i) ⟨(l.getD i default).to,(l.getD i default).amt,h,base⟩,h1',hg,by omega,hln.2⟩,by dsimp only;omega,?_⟩
    rw [← e64,hw,RC.add,if_pos h3]
    ((try dsimp only);exact xE [0,1,2,3,4,5] hC)
 ·(refine xG ?_)
  have h1':i=l.length:=xW
  subst h1'
  rw [List.drop_length,eT] at hg
  refine wD <| bW <| aS <| aI <| ak <| xI ?_
  rw [hg]
  (refine xB ?_)
  exact wD (Ends.bZ (.inr rfl) (aN.refl _) rfl rfl rfl)
set_option maxRecDepth 100000
open Go.Sx
theorem Twin.look {S:aB} {R:RC} (h:Twin S R):V5 S R:=fun p=>by
 obtain ⟨zs,hz⟩:=h
 exact ⟨hz.oW p,hz.get p⟩
theorem Twin.lens {S:aB} {R:RC} (h:Twin S R):R.P.length=S.coins.length∧R.P.length=R.C.length:=by
 obtain ⟨zs,hz⟩:=h
 have h1:=hz.len
 have h2:=hz.perm.length_eq
 omega
theorem Twin.okB {S:aB} {R:RC} (h:Twin S R) (p:Pt) (c:bF):R.okB p c=S.okB p c:=by
 obtain ⟨zs,hz⟩:=h
 exact hz.okB p c
theorem Twin.add1 {S:aB} {R:RC} (h:Twin S R) {p:Pt} {c:bF} (hok:S.okB p c=true):Twin (S.add1 p c) (R.add1 p c):=by
 obtain ⟨zs,hz⟩:=h
 exact hz.add1 hok
theorem F6 (id:H8) (h:Int64) (base:Bool):∀ (l:List dG) (S:aB) (R:RC) (i:Nat),Twin S R→Twin (dX id h base S i l).1 (eT id h base R i l).1∧(dX id h base S i l).2=(eT id h base R i l).2
 | [],S,R,i,ht=>⟨ht,rfl⟩
 | o::l,S,R,i,ht=>by
  rw [dX,eT,(ht.look (dz id i)).1,ht.okB]
  by_cases h1:S.has (dz id i)=true
  ·rw [if_pos h1,if_pos h1];exact ⟨ht,rfl⟩
  ·rw [if_neg h1,if_neg h1]
   by_cases h2:S.okB (dz id i) ⟨o.to,o.amt,h,base⟩=true
   ·rw [if_pos h2,if_pos h2]
    exact F6 id h base l _ _ (i + 1) (ht.add1 h2)
   ·rw [if_neg h2,if_neg h2];exact ⟨ht,rfl⟩
theorem wE (id:H8) (h:Int64) (base:Bool):∀ (l:List dG) (R:RC) (i:Nat),R.P.length=R.C.length→(eT id h base R i l).1.P.length≤R.P.length + l.length
 | [],R,i,_=>Nat.le_refl _
 | o::l,R,i,hPC=>by
  rw [eT]
  split
  ·simp only [List.length_cons];omega
  ·split
   ·have h1:=zS hPC (dz id i) ⟨o.to,o.amt,h,base⟩
    have h2:=wE id h base l _ (i + 1) h1.2
    simp only [List.length_cons]
    omega
   ·simp only [List.length_cons];omega
set_option maxRecDepth 100000
open Go.Sx
def mU (a:jF):Nat→Int
 | 0=>0
 | n + 1=>mU a n + (rO a n).amt
theorem EB {a:jF} {i j:Nat} (h:i≤j):mU a i + (j - i:Nat)≤mU a j:=by
 induction j with
 | zero =>
   obtain rfl:i=0:=by omega
   simp
 | succ j ih =>
  have:=(wY a j).1
  by_cases e:i=j + 1
  ·subst e;simp
  ·have:=ih (by omega)
   rw [mU];omega
theorem M7 (a:jF) (n:Nat):0≤mU a n∧mU a n≤65536 * n:=by
 induction n with
 | zero=>simp [mU]
 | succ n ih =>
  have:=wY a n
  rw [mU];omega
def rJ (n t i k:Nat):Prop:=(t≤k∧k<t + i)∨k + n<t + i
def Ap (a:jF) (n t i:Nat):Int:=if t + i≤n then mU a (t + i) - mU a t else mU a n - mU a t + mU a (t + i - n)
structure Qs (a:jF) (rest:Int) (t i:Nat) (x:au) (S:aB):Prop where
 keep:Ah (mU a a.pl.length + rest) x S
 ceased:x.ceased=true
 root:x.root=NU a
 bal:x.bal=mU a a.pl.length + rest - Ap a a.pl.length t i
 used:∀ k,k<a.pl.length→((C8 a k:Int)∈x.used↔rJ a.pl.length t i k)
 many:x.used.length=i
 coins:∀ k,k<a.pl.length→S.has (dz (bO (bB a k)) 0)=true→rJ a.pl.length t i k
def nextK (n t i:Nat):Nat:=(t + i) % n
theorem R4 {n t i:Nat} (hn:0<n):nextK n t i<n:=Nat.mod_lt _ hn
theorem CK {n t i:Nat} (ht:t<n) (hi:i<n):nextK n t i=if t + i<n then t + i else t + i - n:=by
 unfold nextK
 split
 ·rw [Nat.mod_eq_of_lt (by assumption)]
 ·rw [Nat.mod_eq_sub_mod (by omega),Nat.mod_eq_of_lt (by omega)]
theorem DR {n t i k:Nat} (ht:t<n) (hi:i<n) (hk:k<n):rJ n t (i + 1) k↔(rJ n t i k∨k=nextK n t i):=by
 rw [CK ht hi]
 unfold rJ
 split<;>omega
theorem O7 {n t i:Nat} (ht:t<n) (hi:i<n):¬ rJ n t i (nextK n t i):=by
 rw [CK ht hi]
 unfold rJ
 split<;>omega
theorem Oy {a:jF} {n t i:Nat} (ht:t<n) (hi:i<n):Ap a n t (i + 1)=Ap a n t i + (rO a (nextK n t i)).amt:=by
 rw [CK ht hi]
 unfold Ap
 by_cases h:t + i<n
 ·rw [if_pos h,if_pos (by omega),if_pos (by omega),← Nat.add_assoc,mU];omega
 ·rw [if_neg h]
  by_cases h2:t + i=n
  ·rw [if_neg (by omega),if_pos (by omega),show t + (i + 1) - n=0 + 1 by omega,h2,Nat.sub_self,mU,mU];omega
  ·rw [if_neg (by omega),if_neg (by omega),show t + (i + 1) - n=t + i - n + 1 by omega,mU];omega
theorem UL {a:jF} {n t i:Nat} (ht:t<n) (hi:i≤n):Ap a n t i≤mU a n:=by
 unfold Ap
 split
 ·have:=EB (a:=a) (i:=t + i) (j:=n) (by omega)
  have:=(M7 a t).1
  omega
 ·have:=EB (a:=a) (i:=t + i - n) (j:=t) (by omega)
  omega
theorem Rk {a:jF} {n t:Nat} (ht:t<n):Ap a n t n=mU a n:=by
 unfold Ap
 split
 ·obtain rfl:t=0:=by omega
  simp [mU]
 ·rw [show t + n - n=t by omega];omega
theorem Qs.step {a:jF} {rest:Int} {t i:Nat} {x:au} {S:aB} (h:Qs a rest t i x S) (hf:Fair a) (hr:0≤rest∧rest≤100000) (ht:t<a.pl.length) (hi:i<a.pl.length) (ids:∀ j k,j<a.pl.length→k<a.pl.length→bO (bB a j)=bO (bB a k)→j=k) (H:Int64) :
  ∃ x' S',uf [x] S (bB a (nextK a.pl.length t i)) H=(([x'],S'),0)∧uf [x'] S' (bB a (nextK a.pl.length t i)) H=(([x'],S'),13)∧Qs a rest t (i + 1) x' S' ∧
   S'.has (dz (bO (bB a (nextK a.pl.length t i))) 0)=true∧S'.get (dz (bO (bB a (nextK a.pl.length t i))) 0)=⟨(rO a (nextK a.pl.length t i)).owner,Int64.ofInt (rO a (nextK a.pl.length t i)).amt,H,false⟩ ∧
   S'.steps.length=S.steps.length + 1∧x'.par=x.par∧x'.cert=x.cert:=by
 obtain ⟨k,hk⟩:∃ k,nextK a.pl.length t i=k:=⟨_,rfl⟩
 have hkl:k<a.pl.length:=by rw [← hk];exact R4 (by omega)
 have hnt:¬ rJ a.pl.length t i k:=by rw [← hk];exact O7 ht hi
 have hd:=Oy (a:=a) ht hi
 have hdl:=UL (a:=a) (n:=a.pl.length) (t:=t) (i:=i + 1) ht hi
 rw [hk] at hd ⊢
 have h1:=EJ (a:=a) hkl
 have h2:=Ao (a:=a) hkl
 have e1:=Am (a:=a) hkl
 have e2:=EK (a:=a) hkl
 have ham:=wY a k
 have hsl:=M7 a a.pl.length
 have hfew:=hf.few
 have hbal:=h.bal
 have hk0:=h.keep.sum
 have hb0:=h.keep.bal
 have hc0:=h.keep.clm
 have htot:=h.keep.tot
 have h3:kI x (bB a k)=0:=IC h.ceased (by rw [e1,h.used k hkl];exact hnt) (by rw [h.root];exact xA hf hkl) (by rw [e2];omega)
 have h4:S.has (dz (bO (bB a k)) 0)=false:=by
  cases hh:S.has (dz (bO (bB a k)) 0) with
  | false=>rfl
  | true=>exact absurd (h.coins k hkl hh) hnt
 have h64:(Int64.ofInt (bB a k).st.amt).toInt=(bB a k).st.amt:=QE h1
 have h5:S.okB (dz (bO (bB a k)) 0) ⟨(bB a k).st.owner,Int64.ofInt (bB a k).st.amt,H,false⟩=true:=WJ h4 rfl (by show 1≤(Int64.ofInt (bB a k).st.amt).toInt;rw [h64,e2];exact ham.1) (by omega) (by show S.total + (Int64.ofInt (bB a k).st.amt).toInt≤_;rw [h64,e2];omega)
 have hp:=h.keep.paid (by omega) h1 h3 (k:=⟨(bB a k).st.owner,Int64.ofInt (bB a k).st.amt,H,false⟩) h4 h64
 refine ⟨_,_,Qf h1 h2 h3 h4 h5,?_,⟨hp.1,h.ceased,h.root,?_,fun j hj => ?_,?_,fun j hj hh => ?_⟩,?_,?_,?_,rfl,rfl⟩
 ·refine DL ?_ (by decide)
  rw [qA h1 h2,kI,if_neg (by show ¬ x.ceased=false;rw [h.ceased];simp),if_pos (show (bB a k).acct∈(DK x (bB a k)).used from yD.2 (.inl rfl))]
 ·rw [hp.2.1,e2,hbal,hd];omega
 ·show (C8 a j:Int)∈sD x.used (bB a k).acct↔_
  rw [yD,DR ht hi hj,hk,h.used j hj,e1]
  constructor
  ·rintro (h6 |h6)
   ·exact .inr (hf.apart k j hkl hj (by omega))
   ·exact .inl h6
  ·rintro (h6 |h6)
   ·exact .inr h6
   ·exact .inl (by rw [h6])
 ·show (sD x.used (bB a k).acct).length=_
  rw [x9,h.many]
 ·rw [DR ht hi hj,hk]
  by_cases e:bO (bB a j)=bO (bB a k)
  ·exact .inr (ids j k hj hkl e)
  ·refine .inl (h.coins j hj ?_)
   have hne:dz (bO (bB a j)) 0≠dz (bO (bB a k)) 0:=fun e'=>e (congrArg Pt.tx e')
   have:(dS (jJ S.coins (dz (bO (bB a k)) 0) _) (dz (bO (bB a j)) 0)).isSome=true:=hh
   rwa [Js hne] at this
 ·show (dS (jJ S.coins _ _) _).isSome=true
  rw [vk];rfl
 ·show (dS (jJ S.coins _ _) _).getD EM=_
  rw [vk,e2];rfl
 ·show (S.steps++[_]).length=_
  rw [List.length_append];rfl
theorem Qs.done {a:jF} {rest:Int} {t:Nat} {x:au} {S:aB} (h:Qs a rest t a.pl.length x S) (ht:t<a.pl.length):x.clm=mU a a.pl.length∧x.bal=rest∧x.used.length=a.pl.length∧S.total=mU a a.pl.length:=by
 have h1:=h.bal
 have h2:=h.keep.sum
 have h3:=h.keep.tot
 rw [Rk ht] at h1
 exact ⟨by omega,by omega,h.many,by omega⟩
structure Gg (a:jF) (n:Int) (used:Nat→Bool) (x:au) (S:aB):Prop where
 keep:Ah n x S
 ceased:x.ceased=true
 root:x.root=NU a
 used:∀ k,k<a.pl.length→((C8 a k:Int)∈x.used↔used k=true)
theorem Gg.step {a:jF} {n:Int} {used:Nat→Bool} {x:au} {S:aB} (h:Gg a n used x S) (hf:Fair a) (hn:n≤1000) {k:Nat} (hk:k<a.pl.length) (H:Int64) :
  ∃ x' S' e,uf [x] S (bB a k) H=(([x'],S'),e)∧(used k=true→e=13)∧(used k=false→x.bal<(rO a k).amt→e=5)∧(e≠0→x'=x∧S'=S) ∧
   (e=0→x'.bal=x.bal - (rO a k).amt)∧Gg a n (fun j=>if e=0∧j=k then true else used j) x' S'∧S'.steps.length≤S.steps.length + 1∧x'.used.length≤x.used.length + 1∧x'.par=x.par∧x'.cert=x.cert:=by
 have h1:=EJ (a:=a) hk
 have h2:=Ao (a:=a) hk
 have e1:=Am (a:=a) hk
 have e2:=EK (a:=a) hk
 have same:∀ e:Int,e≠0→Gg a n (fun j=>if e=0∧j=k then true else used j) x S:=fun e he=>by
  have:(fun j=>if e=0∧j=k then true else used j)=used:=funext fun j=>if_neg fun h=>he h.1
  rw [this];exact h
 cases hu:used k with
 | true =>
  have hb:qz [x] (bB a k)=13:=by
   rw [qA h1 h2,kI,if_neg (by rw [h.ceased];simp),if_pos (by rw [e1];exact (h.used k hk).2 hu)]
  exact ⟨x,S,13,DL hb (by decide),fun _=>rfl,fun h=>(by cases h),fun _=>⟨rfl,rfl⟩,fun h=>(by cases h),same 13 (by decide),Nat.le_succ _,Nat.le_succ _,rfl,rfl⟩
 | false =>
  have hnu:(bB a k).acct ∉ x.used:=by rw [e1,h.used k hk,hu];simp
  have hpr:uH x.root (bB a k)=true:=by rw [h.root];exact xA hf hk
  by_cases hm:x.bal<(rO a k).amt
  ·have hb:qz [x] (bB a k)=5:=by
    rw [qA h1 h2,kI,if_neg (by rw [h.ceased];simp),if_neg hnu,if_neg (by rw [hpr];simp),if_pos (by rw [e2];exact hm)]
   exact ⟨x,S,5,DL hb (by decide),fun h=>(by cases h),fun _ _=>rfl,fun _=>⟨rfl,rfl⟩,fun h=>(by cases h),same 5 (by decide),Nat.le_succ _,Nat.le_succ _,rfl,rfl⟩
  ·rcases AV x S (bB a k) H with ⟨e,he,h3⟩ |⟨h3,_,h4,h5,_⟩
   ·exact ⟨x,S,e,h3,fun h=>(by cases h),fun _ h=>absurd h hm,fun _=>⟨rfl,rfl⟩,fun h=>absurd h he,same e he,Nat.le_succ _,Nat.le_succ _,rfl,rfl⟩
   ·have hp:=h.keep.paid (k:=⟨(bB a k).st.owner,Int64.ofInt (bB a k).st.amt,H,false⟩) (by omega) h1 h4 h5 (QE h1)
    refine ⟨_,_,0,h3,fun h=>(by cases h),fun _ h=>absurd h hm,fun h=>absurd rfl h,fun _=>by rw [hp.2.1,e2],⟨hp.1,h.ceased,h.root,fun j hj => ?_⟩,?_,?_,rfl,rfl⟩
    ·show (C8 a j:Int)∈sD x.used (bB a k).acct↔_
     rw [yD,h.used j hj,e1]
     by_cases e:j=k
     ·subst e;simp
     ·rw [if_neg (by intro h;exact e h.2)]
      constructor
      ·rintro (h6 |h6)
       ·exact absurd (hf.apart k j hk hj (by omega)) e
       ·exact h6
      ·exact fun h6 => .inr h6
    ·show (S.steps++[_]).length≤_
     rw [List.length_append];exact Nat.le_refl _
    ·show (sD x.used (bB a k).acct).length≤_
     rw [x9];exact Nat.le_refl _
end Go.Proofs.YtnpkdoggfnlapaaGreatDoor
