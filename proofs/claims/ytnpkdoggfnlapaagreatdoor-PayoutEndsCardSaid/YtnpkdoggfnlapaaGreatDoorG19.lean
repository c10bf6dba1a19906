/- Parts Tg Th Ti Tj Tk Tn Vt Lb Lc Wf Wg Yb Yc. -/
import Derived.Test.YtnpkdoggfnlapaaGreatDoorG18
import Derived.Test.YtnpkdoggfnlapaaGreatDoorG17
import Derived.Shelf.Lays2
import Derived.Ground.Names2Prog
import Derived.Test.YtnpkdoggfnlapaaGreatDoorProg
set_option linter.unusedSimpArgs false
set_option linter.unusedVariables false
namespace Go.Proofs.YtnpkdoggfnlapaaGreatDoor
set_option maxRecDepth 100000
open Go.Sx
theorem iQ {E F:Type} [Inhabited E] (f:E→List F) {l:List E} {i:Nat} (hi:i<l.length):(l.take (i + 1)).flatMap f=(l.take i).flatMap f++f (l.getD i default):=by
 rw [List.take_add_one,List.flatMap_append]
 have:l[i]?.toList=[l.getD i default]:=by rw [List.getElem?_eq_getElem hi,List.getD_eq_getElem?_getD,List.getElem?_eq_getElem hi];rfl
 rw [this];simp
theorem KM {E:Type} [Inhabited E] {p:E→Bool} {l:List E} (h:l.all p=true) {i:Nat} (hi:i<l.length):p (l.getD i default)=true:=by
 rw [List.getD_eq_getElem?_getD,List.getElem?_eq_getElem hi]
 exact List.all_eq_true.1 h _ (List.getElem_mem hi)
theorem within_iff {n a b:Int}:aO n a b=true↔a≤n∧n≤b:=by simp [aO]
theorem l8 {n b:Int} {w:Nat} (h:aO n 0 b=true) (hw:1≤w∧w≤7) (hb:b<2 ^ (8 * w)):Ew n w:=by
 rw [within_iff] at h
 exact ⟨hw.1,hw.2,h.1,Int.lt_of_le_of_lt h.2 hb⟩
theorem Lg {n:Int} (h:nN n=true):Ew n 7:=by
 rw [nN,within_iff] at h
 exact ⟨by decide,by decide,by omega,by omega⟩
theorem IZ {n:Nat} (h:n≤255):Ew (n:Int) 1:=⟨by decide,by decide,by omega,by omega⟩
def dG.parts (o:dG):List (List UInt8):=[o.to.l,bA o.amt.toInt 7]
def eF (l:List dG):List (List UInt8):=bA (l.length:Int) 1::l.flatMap dG.parts
theorem Qo (ty:TypeId) (W:kU) (l:List dG) (hl:eZ l=true) (hW:W.b.length≤131072):fH Tryz.prog 184 (.abs (DX ty W)) (.abs (DX ty (W.puts (eF l)))) [.row 9 l.length (bE l)] [] (.tup []):=by
 rw [eZ,Bool.and_eq_true,decide_eq_true_eq] at hl
 obtain ⟨ha,hn⟩:=hl
 refine fH.of Tryz.aA Tryz.func184 rfl _ _ _ _ _ rfl rfl rfl (fun C hC => ?_)
 (replace hC:C.n0=2:=hC;change av _ _ _ ⟨_,_,2⟩ _)
 refine xK 2 ?_
 refine xC rfl Tryz.func183 rfl ((kT ty W (l.length:Int) 1 (IZ (by omega)) (by omega)).at [] rfl rfl rfl ⟨ah rfl,ah rfl,trivial⟩ trivial) ?_
 refine wD <| ak <| av.block ?_
 refine av.loop (α:={ i:Nat // i≤l.length }) (fun i=>⟨[some (XV.sv (.ptr 0 0 0 0)),none,none,none,none,none,none,none,none,none,none,none,some (XV.sv (.slc 1 9 0 l.length)),some (XV.int .i64 l.length),some (XV.int .i64 i.1)]++List.replicate 16 none,[(0,.abs (DX ty (W.puts (bA (l.length:Int) 1::(l.take i.1).flatMap dG.parts)))),(1,.ro 9 l.length (bE l))],2⟩) (fun i=>l.length - i.1) ⟨0,Nat.zero_le _⟩ ?_ ?_
 ·((try dsimp only);exact xE [0,1] hC)
 rintro ⟨i,hi⟩
 dsimp only
 refine xK 2 ?_
 refine wC (fun h1 => ?_) (fun h1 => ?_)
 ·(refine xG ?_)
  have h1':i<l.length:=xW
  have hw:IntKind.i64.wrap ((i:Int) + 1)=((i + 1:Nat):Int):=xW
  have ho:=KM ha h1'
  rw [pX,Bool.and_eq_true] at ho
  have hp:=nQ (cs:=bA (l.length:Int) 1::(l.take i).flatMap dG.parts) hW
  have hp2:=lT (b:=(l.getD i default).to.l) hp
  refine wD <| ak <| av.seq <| av.block <| xI ?_
  (refine xB ?_)
  (repeat (refine wN ?_ ?_;exact xW;refine xG ?_))
  simp only [Nat.zero_add,Int.toNat_natCast]
  refine xC rfl Tryz.func213 rfl ((uQ ty (W.puts (bA (l.length:Int) 1::(l.take i).flatMap dG.parts)) (l.getD i default).to (by omega)).at [] rfl rfl rfl ⟨ah rfl,trivial⟩ trivial) ?_
  refine xC rfl Tryz.func183 rfl ((kT ty ((W.puts (bA (l.length:Int) 1::(l.take i).flatMap dG.parts)).put (l.getD i default).to.l) (l.getD i default).amt.toInt 7 (Lg ho.2) (by omega)).at [] rfl rfl rfl ⟨ah rfl,ah rfl,trivial⟩ trivial) ?_
  refine wD <| aJ <| ak <| xI ?_
  (refine xB ?_)
  refine wD <| aP ⟨⟨i + 1,h1'⟩,by dsimp only;omega,?_⟩
  rw [hw]
  dsimp only
  rw [iQ _ h1',← List.cons_append,mh]
  ((try dsimp only);exact xE [0,1] hC)
 ·(refine xG ?_)
  have h1':i=l.length:=xW
  subst h1'
  rw [List.take_length]
  exact wD <| bW <| aS <| aI (Ends.bZ (.inl rfl) (aN.refl _) rfl rfl rfl)
def Gf.parts (f:Gf):List (List UInt8):=[bA f.side.toInt 1,bA f.acct.toInt 2,f.owner.l,bA f.amt.toInt 7]
def Ur.parts (x:Ur):List (List UInt8):=x.pt.tx.l::bA x.pt.no.toInt 1::x.key.l::x.sig.parts
set_option maxRecDepth 100000
open Go.Sx
theorem Um (ty:TypeId) (b:List UInt8) (hb:b.length≤1000000):Does Tryz.prog 190 [(.abs (DX ty ⟨b,0⟩),.abs (DX ty ⟨b,0⟩))] [] [] (.tup [.one (.slc 0 1 0 b.length),.one (.raw (.int .i64 0))]) (some (.vec 5 1 b.length (bI b))):=by
 refine Does.of Tryz.aA Tryz.func190 rfl _ _ _ _ _ rfl rfl rfl 18 (fun C hC => ?_)
 (replace hC:C.n0=1:=hC;change av _ _ _ ⟨_,_,1⟩ _)
 refine kU.opens ty ⟨b,0⟩ 0 rfl (xI ?_)
 (refine xB ?_)
 (refine kE rfl ?_;refine xG ?_)
 refine xC rfl Tryz.func208 rfl ((EL b (Nat.le_trans hb (by decide))).at [2] ⟨uz rfl rfl,trivial⟩ trivial) ?_
 exact wD (Ends.does (.inr rfl) (kU.shuts ty ⟨b,0⟩ 0 rfl rfl rfl rfl rfl (Nat.le_refl _) (fun _ _=>rfl)) rfl rfl (Nat.le_of_ble_eq_true rfl) rfl)
abbrev YD:TypeId:=260
theorem jX {E:Type} {f:E→List (List UInt8)} {k:Nat} (h:∀ x,(f x).flatten.length≤k):∀ l:List E,(l.flatMap f).flatten.length≤k * l.length
 | []=>by simp
 | x::l=>by
  have:=jX h l
  have:=h x
  simp only [List.flatMap_cons,List.flatten_append,List.length_append,List.length_cons,Nat.mul_add]
  omega
theorem qE (p:Nat→H8):∀ n,(dV p n).flatten.length=8 * n
 | 0=>rfl
 | n + 1=>by rw [kJ,List.flatten_append,List.length_append,qE p n];simp [H8.jg];omega
theorem za (s:kF):s.parts.flatten.length=281:=by
 simp only [kF.parts,List.flatten_cons,List.flatten_append,List.length_append,qE,aK]
set_option maxRecDepth 100000
open Go.Sx
theorem Fy {M:Mem} {rd:List Nat} {q n i sz cp k:Nat} {ln:Nat→Nat} {g:Nat→Nat→List Value} {ad:Nat→Option Addr} {cell:List Value} {f:Nat→List Value} (hm:M.get q=some (.ext (PartsAt sz n ln g ad))) (hrd:gI q rd=true) (hi:i<n) (hc:cell=[.slice (ad i) (ln i) cp]) (hk:ln i=k) (hf:g i=f):KF M rd sz cell k f :=
 ⟨q,n,ln,g,ad,i,cp,hm,hrd,hi,hc,hk,hf⟩
theorem L8 {M:Mem} {rd:List Nat} {q1 q2 cp0 n:Nat} {ad0:Option Addr} {ad:Nat→Option Addr} {cp:Nat→Nat} {e:List UInt8} {bss:List (List UInt8)} {F:Nat→List Value}
  (h1:M.get q1=some (.ext (PartsAt 1 1 (fun _=>e.length) (fun _=>bI e) (fun _=>ad0)))) (r1:gI q1 rd=true) (h2:M.get q2=some (.ext (PartsAt 1 bss.length (fun i=>(bss.getD i []).length) (fun i=>bI (bss.getD i [])) ad))) (r2:gI q2 rd=true)
  (hF:F=eB (rD [.slice ad0 e.length cp0] 1) 1 (fun i=>[.slice (ad (0 + i)) ((bss.getD (0 + i) []).length) (cp (0 + i))])) (hn:n=bss.length):∀ i,i<n + 1→KF M rd 1 (F i) (((e::bss).getD i []).length) (bI ((e::bss).getD i [])):=by
 subst hF hn
 intro i hi
 cases i with
 | zero=>exact Fy (i:=0) h1 r1 (by decide) rfl rfl rfl
 | succ i =>
  refine Fy (i:=i) (cp:=cp i) h2 r2 (by omega) ?_ rfl rfl
  simp only [eB,yG,show ¬ i + 1<1 by omega,decide_false,cond_false,Nat.add_sub_cancel,Nat.zero_add]
set_option maxRecDepth 100000
open Go.Sx
theorem Y3 {x:UInt8} {v:Value} (h:v=u8 x):∀ i,i<[x].length→bI [x] i=rD [v] 1 (0 + i):=by
 subst h
 intro i hi
 match i,hi with
 | 0,_=>rfl
set_option maxRecDepth 100000
open Go.Sx
def M8 (l:List Int):Nat→List Value:=fun i=>[.int .i64 (l.getD i 0)]
def kD:Int→List Int→Option Int
 | acc,[]=>some acc
 | acc,x::r=>if iH acc x (IntKind.i64.wrap (acc + x))=true then kD (IntKind.i64.wrap (acc + x)) r else none
def Ab (l:List Int):XV := .tup [.one (.raw (.int .i64 ((kD 0 l).getD 0))),.one (.raw (.bool (kD 0 l).isSome))]
theorem vJ {a b n:Int} (h:iH a b n=true):rV a b n=[.one (.raw (.int .i64 n)),.one (.raw (.bool true))]:=by rw [rV,h];rfl
theorem lX {a b n:Int} (h:iH a b n=false):rV a b n=[.one (.raw (.int .i64 0)),.one (.raw (.bool false))]:=by rw [rV,h];rfl
theorem QD {a b:Int} (h:iH a b (IntKind.i64.wrap (a + b))=true) (M:Mem) (d:Nat):aC Tryz.prog 154 [.one (.raw (.int .i64 a)),.one (.raw (.int .i64 b))] M d { v := .tup [.one (.raw (.int .i64 (IntKind.i64.wrap (a + b)))),.one (.raw (.bool true))] } []:=vJ h▸BA a b M d
theorem N9 {a b:Int} (h:iH a b (IntKind.i64.wrap (a + b))=false) (M:Mem) (d:Nat):aC Tryz.prog 154 [.one (.raw (.int .i64 a)),.one (.raw (.int .i64 b))] M d { v := .tup [.one (.raw (.int .i64 0)),.one (.raw (.bool false))] } []:=lX h▸BA a b M d
theorem drop_cons {l:List Int} {i:Nat} (hi:i<l.length):l.drop i=l.getD i 0::l.drop (i + 1):=by
 rw [List.drop_eq_getElem_cons hi,List.getD_eq_getElem?_getD,List.getElem?_eq_getElem hi];rfl
theorem RZ (l:List Int) (hl:l.length≤2000000000):Reads Tryz.prog 167 [.row 1 l.length (M8 l)] [] (Ab l):=by
 refine Reads.of Tryz.aA Tryz.func167 rfl _ _ _ rfl rfl (fun C hC => ?_)
 (replace hC:C.n0=1:=hC;change av _ _ _ ⟨_,_,1⟩ _)
 refine xK 2 ?_
 refine wD <| ak <| av.seq ?_
 refine xK 1 ?_
 refine wD <| ak <| av.block ?_
 refine av.loop (α:={ x:Nat×Int // x.1≤l.length∧kD 0 l=kD x.2 (l.drop x.1) }) (fun x=>⟨[some (XV.sv (.slc 0 1 0 l.length)),none,none,none,some (XV.int .i64 x.1.2),none,none,none,some (XV.sv (.slc 0 1 0 l.length)),some (XV.int .i64 l.length),some (XV.int .i64 x.1.1)]++List.replicate 13 none,[(0,.ro 1 l.length (M8 l))],1⟩) (fun x=>l.length - x.1.1) ⟨(0,0),Nat.zero_le _,by rw [List.drop_zero]⟩ ?_ ?_
 ·((try dsimp only);exact xE [0] hC)
 rintro ⟨⟨i,acc⟩,hi,hs⟩
 dsimp only at hi hs ⊢
 refine xK 2 ?_
 refine wC (fun h1 => ?_) (fun h1 => ?_)
 ·(refine xG ?_)
  have h1':i<l.length:=xW
  have hw:IntKind.i64.wrap ((i:Int) + 1)=((i + 1:Nat):Int):=xW
  rw [drop_cons h1',kD] at hs
  refine wD <| ak <| av.seq <| av.block <| xI ?_
  (refine xB ?_)
  (repeat (refine wN ?_ ?_;exact xW;refine xG ?_))
  simp only [Nat.zero_add,Int.toNat_natCast]
  cases h2:iH acc (l.getD i 0) (IntKind.i64.wrap (acc + l.getD i 0)) with
  | true =>
   rw [h2,if_pos rfl] at hs
   refine xC rfl Tryz.func154 rfl (QD h2 _ _) ?_
   refine wD <| aJ <| ak <| xI ?_
   (refine xB ?_)
   refine wD <| aP ⟨⟨(i + 1,IntKind.i64.wrap (acc + l.getD i 0)),h1',hs⟩,by dsimp only;omega,?_⟩
   rw [hw]
   ((try dsimp only);exact xE [0] hC)
  | false =>
   rw [h2,if_neg (by simp)] at hs
   refine xC rfl Tryz.func154 rfl (N9 h2 _ _) ?_
   refine wD <| aQ <| aV <| fq <| aQ <| aV <| Ends.plain (.inr rfl) rfl ?_
   rw [Ab,hs];rfl
 ·(refine xG ?_)
  have h1':i=l.length:=xW
  subst h1'
  rw [List.drop_length,kD] at hs
  refine wD <| bW <| aS <| aI <| ak <| xI ?_
  (refine xB ?_)
  refine wD (Ends.plain (.inr rfl) rfl ?_)
  rw [Ab,hs];rfl
set_option maxRecDepth 100000
open Go.Sx
def dz (id:H8) (i:Nat):Pt:=⟨id,Int64.ofNat i⟩
def dX (id:H8) (h:Int64) (base:Bool):aB→Nat→List dG→aB×Int
 | S,_,[]=>(S,0)
 | S,i,o::r=>if S.has (dz id i)=true then (S,6) else if S.okB (dz id i) ⟨o.to,o.amt,h,base⟩=true then dX id h base (S.add1 (dz id i) ⟨o.to,o.amt,h,base⟩) (i + 1) r else (S,5)
theorem qB {E:Type} [Inhabited E] {l:List E} {i:Nat} (hi:i<l.length):l.drop i=l.getD i default::l.drop (i + 1):=by
 rw [List.drop_eq_getElem_cons hi,List.getD_eq_getElem?_getD,List.getElem?_eq_getElem hi];rfl
theorem oF {i:Nat} (h:i<1000000):((i:Nat):Int)=(Int64.ofNat i).toInt:=by
 rw [Int64.toInt_ofNat_of_lt (by omega)]
structure XM (id:H8) (h:Int64) (base:Bool) (S:aB) (l:List dG) where
 i:Nat
 W:aB
 le:i≤l.length
 go:dX id h base S 0 l=dX id h base W i (l.drop i)
 steps:W.steps.length=S.steps.length + i
set_option maxHeartbeats 2000000 in
theorem Sl (S:aB) (id:H8) (l:List dG) (h:Int64) (base:Bool) (hl:l.length≤1000) (hS:S.steps.length<900000) :
  fH Tryz.prog 52 (.abs (dU S)) (.abs (dU (dX id h base S 0 l).1)) [.plain id.x,.row 9 l.length (bE l),.plain (.one (.raw (.int .i64 h.toInt))),.plain (.one (.raw (.bool base)))] [] (XV.int .i64 (dX id h base S 0 l).2):=by
 refine fH.of Tryz.aA Tryz.func52 rfl _ _ _ _ _ rfl rfl rfl (fun C hC => ?_)
 (replace hC:C.n0=5:=hC;change av _ _ _ ⟨_,_,5⟩ _)
 refine xK 2 ?_
 refine wD <| ak <| av.seq ?_
 refine xK 1 ?_
 refine wD <| ak <| av.block ?_
 refine av.loop (α:=XM id h base S l) (fun x=>⟨[some (XV.sv (.ptr 0 0 0 0)),none,none,some (XV.int .i64 h.toInt),some (XV.bool base),none,some (XV.sv (.ptr 5 0 0 0))]++List.replicate 11 none++[some (XV.sv (.slc 2 9 0 l.length)),some (XV.int .i64 l.length),some (XV.int .i64 x.i)]++List.replicate 23 none,[(0,.abs (dU x.W)),(2,.ro 9 l.length (bE l)),(5,.cells 29 (id.cells.map .raw))],6⟩) (fun x=>l.length - x.i) ⟨0,S,Nat.zero_le _,by rw [List.drop_zero],rfl⟩ ?_ ?_
 ·((try dsimp only);exact xE [0,1,2,3,4,5] hC)
 rintro ⟨i,W,hi,hg,hst⟩
 dsimp only
 refine xK 2 ?_
 refine wC (fun h1 => ?_) (fun h1 => ?_)
 ·(refine xG ?_)
  have h1':i<l.length:=xW
  have hw:IntKind.i64.wrap ((i:Int) + 1)=((i + 1:Nat):Int):=xW
  have e64:=oF (i:=i) (by omega)
  rw [qB h1',dX] at hg
  refine wD <| ak <| av.seq <| av.block <| xI ?_
  (refine xB ?_)
  (repeat (refine wN ?_ ?_;exact xW;refine xG ?_))
  simp only [Nat.zero_add,Int.toNat_natCast]
  rw [e64]
  refine xC rfl Tryz.func21 rfl (I9 W (dz id i) rfl rfl) ?_
  refine wC (fun h2 => ?_) (fun h2 => ?_)
  ·rw [if_pos h2] at hg
   (refine xG ?_)
   refine wD <| aQ <| aV <| fq <| aQ <| aV ?_
   rw [hg]
   exact Ends.bZ (.inr rfl) (aN.refl _) rfl rfl rfl
  ·rw [if_neg (by rw [h2];simp)] at hg
   (refine xG ?_)
   refine xC rfl Tryz.func99 rfl (Qi W (dz id i) ⟨(l.getD i default).to,(l.getD i default).amt,h,base⟩ (by omega) rfl rfl) ?_
   refine wC (fun h3 => ?_) (fun h3 => ?_)
   ·have h3:W.okB (dz id i) ⟨(l.getD i default).to,(l.getD i default).amt,h,base⟩=false:=by simpa using h3
    rw [if_neg (by rw [h3];simp)] at hg
    (refine xG ?_)
    refine wD <| aQ <| aV <| fq <| aQ <| aV ?_
    rw [hg,aB.add,if_neg (by rw [h3];simp)]
    exact Ends.bZ (.inr rfl) (aN.refl _) rfl rfl rfl
   ·have h3:W.okB (dz id i) ⟨(l.getD i default).to,(l.getD i default).amt,h,base⟩=true:=by simpa using h3
    rw [if_pos h3] at hg
    (refine xG ?_)
    refine wD <| aJ <| ak <| xI ?_
    (refine xB ?_)
    refine wD <| aP ⟨⟨i + 1,W.add1 (dz id i) ⟨(l.getD i default).to,(l.getD i default).amt,h,base⟩,h1',hg,by simp only [aB.add1,List.length_append,List.length_singleton];omega⟩,by dsimp only;omega,?_⟩
    rw [← e64,hw,aB.add,if_pos h3]
    ((try dsimp only);exact xE [0,1,2,3,4,5] hC)
 ·(refine xG ?_)
  have h1':i=l.length:=xW
  subst h1'
  rw [List.drop_length,dX] at hg
  refine wD <| bW <| aS <| aI <| ak <| xI ?_
  rw [hg]
  (refine xB ?_)
  exact wD (Ends.bZ (.inr rfl) (aN.refl _) rfl rfl rfl)
end Go.Proofs.YtnpkdoggfnlapaaGreatDoor
namespace Go.Proofs
open Go.Shelf
end Go.Proofs
namespace Go.Proofs.YtnpkdoggfnlapaaGreatDoor
set_option maxRecDepth 100000
open Go.Sx
theorem gG {M:Mem} {rd:List Nat} {p:gZ} {k:SV} (h:bC M rd (.one k) (.row 8 p.keys.length (dA p.keys))):bC M rd (.agg (sU p k)) (.box p.ac):=sF ⟨rfl,rfl,rfl,h,trivial⟩
theorem bS {M:Mem} {rd:List Nat} {c:aT} {o s:SV} (h1:bC M rd (.one o) (.row 9 c.outs.length (bE c.outs))) (h2:bC M rd (.one s) (.row 282 c.sigs.length (bY c.sigs))):bC M rd (.agg (bR c o s)) (.box c.ac):=by
 refine sF ⟨rfl,rfl,rfl,?_⟩
 refine fJ.PE ?_ _
 refine fJ.PE ?_ _
 exact ⟨h1,h2,trivial⟩
def dx.x (c:dx):CV := .agg (c.cells.map .raw)
def iW (s:gP):Bool:=aO s.key 0 4 && aO s.sig.idx 0 255
def pU (c:aT):Bool:=aO c.side 0 7 && (aO c.ep 0 400 && aO c.qual 0 2147483647)
def bM (c:aT):Bool:=c.sigs.all iW && (pU c && (eZ c.outs && aO (c.sigs.length:Int) 1 5))
def Ak (c:aT):Mem:=[(0,.ro 9 c.outs.length (bE c.outs)),(1,.ro 282 c.sigs.length (bY c.sigs)),(2,.cells 43 (vK 0 c.ac))]
def qy (c:aT) (n:Bool):St:=⟨[none,some (XV.sv (.ptr 2 0 0 0)),none,none,none,some (XV.bool n)]++List.replicate 44 none,Ak c,3⟩
set_option maxHeartbeats 2000000 in
theorem KQ (c:aT) (ho:c.outs.length≤1000000000) (hl:c.sigs.length≤1000000000):Reads Tryz.prog 138 [.box c.ac] [] (XV.bool (bM c)):=by
 refine Reads.of Tryz.aA Tryz.func138 rfl _ _ _ rfl rfl (fun C hC => ?_)
 (replace hC:C.n0=2:=hC;change av _ _ _ ⟨_,_,2⟩ _)
 refine xK 1 ?_
 refine wD <| ak <| av.seq ?_
 refine xK 1 ?_
 refine wD <| ak <| av.block ?_
 refine av.loop (α:={ i:Nat // i≤c.sigs.length∧(c.sigs.take i).all iW=true }) (fun i=>⟨[none,some (XV.sv (.ptr 2 0 0 0)),none,none,none,none,none,some (XV.sv (.slc 1 282 0 c.sigs.length)),some (XV.int .i64 c.sigs.length),some (XV.int .i64 i.1)]++List.replicate 40 none,Ak c,3⟩) (fun i=>c.sigs.length - i.1) ⟨0,Nat.zero_le _,rfl⟩ ?_ ?_
 ·unfold Ak
  ((try dsimp only);exact xE [0,1,2] hC)
 rintro ⟨i,hi,ha⟩
 dsimp only
 unfold Ak
 refine xK 2 ?_
 refine wC (fun h1 => ?_) (fun h1 => ?_)
 ·(refine xG ?_)
  have h1':i<c.sigs.length:=xW
  have hs:=lQ (p:=iW) h1'
  have hw:IntKind.i64.wrap ((i:Int) + 1)=((i + 1:Nat):Int):=xW
  have bad:iW (c.sigs.getD i default)=false→bM c=false:=fun h=>by rw [bM,all_false h1' h,Bool.false_and]
  refine wD <| ak <| av.seq <| av.block <| xI ?_
  (refine xB ?_)
  (repeat (refine wN ?_ ?_;exact xW;refine xG ?_))
  simp only [Nat.zero_add,Int.toNat_natCast]
  refine xC rfl Tryz.func134 rfl ((j4 (c.sigs.getD i default).key 0 4).at [] ⟨ah rfl,ah rfl,ah rfl,trivial⟩ trivial) ?_
  refine wC (fun h2 => ?_) (fun h2 => ?_)
  ·have h2:aO (c.sigs.getD i default).key 0 4=false:=by simpa using h2
   (refine xG ?_)
   refine wD <| aQ <| aV <| fq <| aQ <| aV <| Ends.plain (.inr rfl) rfl ?_
   rw [bad (by rw [iW,h2];rfl)]
  have h2:aO (c.sigs.getD i default).key 0 4=true:=by simpa using h2
  (refine xG ?_)
  refine xC rfl Tryz.func134 rfl ((j4 (c.sigs.getD i default).sig.idx 0 255).at [] ⟨ah rfl,ah rfl,ah rfl,trivial⟩ trivial) ?_
  refine wC (fun h3 => ?_) (fun h3 => ?_)
  ·have h3:aO (c.sigs.getD i default).sig.idx 0 255=false:=by simpa using h3
   (refine xG ?_)
   refine wD <| aQ <| aV <| fq <| aQ <| aV <| Ends.plain (.inr rfl) rfl ?_
   rw [bad (by rw [iW,h2,h3];rfl)]
  ·have h3:aO (c.sigs.getD i default).sig.idx 0 255=true:=by simpa using h3
   (refine xG ?_)
   refine wD <| aJ <| ak <| xI ?_
   (refine xB ?_)
   refine wD <| aP ⟨⟨i + 1,h1',by rw [hs,ha,iW,h2,h3];rfl⟩,by dsimp only;omega,?_⟩
   rw [hw]
   ((try dsimp only);exact xE [0,1,2] hC)
 ·(refine xG ?_)
  have h1':i=c.sigs.length:=xW
  subst h1'
  rw [List.take_length] at ha
  refine wD <| bW <| aS <| aI <| ak <| av.merge (qy c (pU c)) (xI ?_) (xI ?_)
  ·have fin:∀ {S:St} {b:Bool},b=pU c→aN C S (qy c b)→aN C S (qy c (pU c)):=by
    intro S b hb h;subst hb;exact h
   (refine xB ?_)
   refine xC rfl Tryz.func134 rfl ((j4 c.side 0 7).at [] ⟨ah rfl,ah rfl,ah rfl,trivial⟩ trivial) ?_
   refine wC (fun k1 => ?_) (fun k1 => ?_)
   ·(refine xG ?_)
    refine xC rfl Tryz.func134 rfl ((j4 c.ep 0 400).at [] ⟨ah rfl,ah rfl,ah rfl,trivial⟩ trivial) ?_
    refine wC (fun k2 => ?_) (fun k2 => ?_)
    ·(refine xG ?_)
     refine xC rfl Tryz.func134 rfl ((j4 c.qual 0 2147483647).at [] ⟨ah rfl,ah rfl,ah rfl,trivial⟩ trivial) ?_
     refine wD ⟨rfl,fin (b:=aO c.qual 0 2147483647) (by rw [pU,k1,k2];rfl) ?_⟩
     unfold qy Ak
     ((try dsimp only);exact xE [0,1,2] hC)
    ·(refine xG ?_)
     refine wD ⟨rfl,fin (b:=false) (by rw [pU,k1,k2];rfl) ?_⟩
     unfold qy Ak
     ((try dsimp only);exact xE [0,1,2] hC)
   ·(refine xG ?_)
    refine wD ⟨rfl,fin (b:=false) (by rw [pU,k1];rfl) ?_⟩
    unfold qy Ak
    ((try dsimp only);exact xE [0,1,2] hC)
  ·unfold qy Ak
   have hc0:bM c=(pU c && (eZ c.outs && aO (c.sigs.length:Int) 1 5)):=by rw [bM,ha,Bool.true_and]
   rw [hc0]
   generalize pU c=bn
   (refine xB ?_)
   refine wC (fun k1 => ?_) (fun k1 => ?_)
   ·subst k1
    (refine xG ?_)
    refine xC rfl Tryz.func135 rfl ((LX c.outs ho).at [0] ⟨aj rfl rfl,trivial⟩ trivial) ?_
    refine wC (fun k2 => ?_) (fun k2 => ?_)
    ·(refine xG ?_)
     refine xC rfl Tryz.func134 rfl ((j4 (c.sigs.length:Int) 1 5).at [] ⟨ah rfl,ah rfl,ah rfl,trivial⟩ trivial) ?_
     exact wD (Ends.plain (.inr rfl) rfl (by rw [k2];rfl))
    ·(refine xG ?_)
     exact wD (Ends.plain (.inr rfl) rfl (by rw [k2];rfl))
   ·subst k1
    (refine xG ?_)
    exact wD (Ends.plain (.inr rfl) rfl rfl)
def lS (c:dx):Bool:=VE c.side c.acct && (!ku c.st.owner && (nN c.st.amt && aO c.st.nonce 0 255))
def wW.ED (t:wW):wW:={ t with cert:=pR }
set_option maxHeartbeats 4000000 in
theorem RV (t:wW) (hk:t.kind=4) (hs:gN t) (hc:t.claim.Wf):Reads Tryz.prog 82 [.box t.ac] [] (XV.bool (bM t.cert && (oU t.ED && Gu t.claim hc))):=by
 have ho:=hs.couts
 have hg:=hs.sigs
 have hs':gN t.ED:=⟨hs.ins,hs.outs,hs.fwds,hs.keys,Nat.zero_le _,Nat.zero_le _⟩
 obtain ⟨kind,height,ins,outs,fwds,par,cert,claim⟩:=t
 dsimp only at hk ho hg
 subst hk
 refine Reads.of Tryz.aA Tryz.func82 rfl _ _ _ rfl rfl (fun C hC => ?_)
 (replace hC:C.n0=6:=hC;change av _ _ _ ⟨_,_,6⟩ _)
 refine xI ?_
 (refine xB ?_)
 (refine kE rfl ?_;refine xG ?_)
 (refine kE rfl ?_;refine xG ?_)
 (refine kE rfl ?_;refine xG ?_)
 (refine zm rfl ?_;refine xG ?_)
 refine xC rfl Tryz.func138 rfl ((KQ cert ho hg).at [4,5] ⟨bS (aj rfl rfl) (aj rfl rfl),trivial⟩ trivial) ?_
 refine wC (fun h1 => ?_) (fun h1 => ?_)
 ·(refine xG ?_)
  refine xC rfl Tryz.func140 rfl ((Oz (wW.ED ⟨4,height,ins,outs,fwds,par,cert,claim⟩) hs' hc).at [0,1,2,3] ⟨jr (t:=wW.ED ⟨4,height,ins,outs,fwds,par,cert,claim⟩) (aj rfl rfl) (aj rfl rfl) (aj rfl rfl) (aj rfl rfl) (aY _ _) (aY _ _),trivial⟩ trivial) ?_
  exact wD (Ends.plain (.inr rfl) rfl (by rw [h1];rfl))
 ·(refine xG ?_)
  exact wD (Ends.plain (.inr rfl) rfl (by rw [h1];rfl))
set_option maxRecDepth 100000
open Go.Sx
theorem Py (W:kU) (c:List UInt8) (cs:List (List UInt8)):W.puts (c::cs)=(W.put c).puts cs:=rfl
def Wl (c:dx):List (List UInt8):=bA c.side 1::bA c.acct 2::c.st.owner.l::bA c.st.amt 7::bA c.st.nonce 1::dV c.proof 16
theorem oD {c:dx}:lS c=true↔(0≤c.side∧c.side≤7)∧(0≤c.acct∧c.acct≤65535)∧ku c.st.owner=false∧(1≤c.st.amt∧c.st.amt≤1125899906842624)∧(0≤c.st.nonce∧c.st.nonce≤255):=by
 simp only [lS,VE,nN,aO,Bool.and_eq_true,decide_eq_true_eq,Bool.not_eq_true']
 constructor
 ·rintro ⟨⟨h1,h2⟩,h3,h4,h5⟩;exact ⟨h1,h2,h3,h4,h5⟩
 ·rintro ⟨h1,h2,h3,h4,h5⟩;exact ⟨⟨h1,h2⟩,h3,h4,h5⟩
def gP.parts (s:gP):List (List UInt8):=bA s.key 1::s.sig.parts
def oC (c:aT):List (List UInt8):=bA c.side 1::bA c.ep 4::bA c.qual 4::c.fin.l::c.root.l::(eF c.outs++(bA (c.sigs.length:Int) 1::c.sigs.flatMap gP.parts))
def Gr (W:kU) (c:aT):kU:=(((((W.put (bA c.side 1)).put (bA c.ep 4)).put (bA c.qual 4)).put c.fin.l).put c.root.l).puts (eF c.outs)
theorem Q5 (W:kU) (c:aT):W.puts (oC c)=(Gr W c).puts (bA (c.sigs.length:Int) 1::c.sigs.flatMap gP.parts):=by
 show (((((W.put (bA c.side 1)).put (bA c.ep 4)).put (bA c.qual 4)).put c.fin.l).put c.root.l).puts (eF c.outs++_)=_
 rw [mh];rfl
theorem BL {c:aT} (h:bM c=true):c.sigs.all iW=true∧aO c.side 0 7=true∧aO c.ep 0 400=true∧aO c.qual 0 2147483647=true∧eZ c.outs=true∧(1≤c.sigs.length∧c.sigs.length≤5):=by
 simp only [bM,pU,Bool.and_eq_true] at h
 obtain ⟨h1,⟨h2,h3,h4⟩,h5,h6⟩:=h
 rw [within_iff] at h6
 exact ⟨h1,h2,h3,h4,h5,by omega⟩
set_option maxHeartbeats 2000000 in
theorem Qn (ty:TypeId) (W:kU) (c:aT) (hc:bM c=true) (hW:W.b.length≤131072):fH Tryz.prog 188 (.abs (DX ty W)) (.abs (DX ty (W.puts (oC c)))) [.box c.ac] [] (.tup []):=by
 obtain ⟨f0,f1,f2,f3,f4,f5⟩:=BL hc
 have p1:=lT (b:=bA c.side 1) hW
 have p2:=lT (b:=bA c.ep 4) p1
 have p3:=lT (b:=bA c.qual 4) p2
 have p4:=lT (b:=c.fin.l) p3
 have p5:=lT (b:=c.root.l) p4
 have p6:(Gr W c).b.length≤131072:=nQ (cs:=eF c.outs) p5
 refine fH.of Tryz.aA Tryz.func188 rfl _ _ _ _ _ rfl rfl rfl (fun C hC => ?_)
 (replace hC:C.n0=3:=hC;change av _ _ _ ⟨_,_,3⟩ _)
 rw [Q5]
 refine xK 9 ?_
 refine xC rfl Tryz.func183 rfl ((kT ty W c.side 1 (l8 f1 (by decide) (by decide)) (by omega)).at [] rfl rfl rfl ⟨ah rfl,ah rfl,trivial⟩ trivial) ?_
 refine xC rfl Tryz.func183 rfl ((kT ty (W.put (bA c.side 1)) c.ep 4 (l8 f2 (by decide) (by decide)) (by omega)).at [] rfl rfl rfl ⟨ah rfl,ah rfl,trivial⟩ trivial) ?_
 refine xC rfl Tryz.func183 rfl ((kT ty ((W.put (bA c.side 1)).put (bA c.ep 4)) c.qual 4 (l8 f3 (by decide) (by decide)) (by omega)).at [] rfl rfl rfl ⟨ah rfl,ah rfl,trivial⟩ trivial) ?_
 refine xC rfl Tryz.func213 rfl ((uQ ty (((W.put (bA c.side 1)).put (bA c.ep 4)).put (bA c.qual 4)) c.fin (by omega)).at [] rfl rfl rfl ⟨ah rfl,trivial⟩ trivial) ?_
 refine xC rfl Tryz.func213 rfl ((uQ ty ((((W.put (bA c.side 1)).put (bA c.ep 4)).put (bA c.qual 4)).put c.fin.l) c.root (by omega)).at [] rfl rfl rfl ⟨ah rfl,trivial⟩ trivial) ?_
 refine xC rfl Tryz.func184 rfl ((Qo ty (((((W.put (bA c.side 1)).put (bA c.ep 4)).put (bA c.qual 4)).put c.fin.l).put c.root.l) c.outs f4 p5).at [1] rfl rfl rfl ⟨aj rfl rfl,trivial⟩ trivial) ?_
 rw [show (((((W.put (bA c.side 1)).put (bA c.ep 4)).put (bA c.qual 4)).put c.fin.l).put c.root.l).puts (eF c.outs)=Gr W c from rfl]
 generalize Gr W c=Y at p6 ⊢
 refine xC rfl Tryz.func183 rfl ((kT ty Y (c.sigs.length:Int) 1 (IZ (by omega)) (by omega)).at [] rfl rfl rfl ⟨ah rfl,ah rfl,trivial⟩ trivial) ?_
 refine wD <| ak <| av.block ?_
 refine av.loop (α:={ i:Nat // i≤c.sigs.length }) (fun i=>⟨[some (XV.sv (.ptr 0 0 0 0))]++List.replicate 47 none++[some (XV.sv (.slc 2 282 0 c.sigs.length)),some (XV.int .i64 c.sigs.length),some (XV.int .i64 i.1)]++List.replicate 14 none,[(0,.abs (DX ty (Y.puts (bA (c.sigs.length:Int) 1::(c.sigs.take i.1).flatMap gP.parts)))),(1,.ro 9 c.outs.length (bE c.outs)),(2,.ro 282 c.sigs.length (bY c.sigs))],3⟩) (fun i=>c.sigs.length - i.1) ⟨0,Nat.zero_le _⟩ ?_ ?_
 ·((try dsimp only);exact xE [0,1,2] hC)
 rintro ⟨i,hi⟩
 dsimp only
 refine xK 2 ?_
 refine wC (fun h1 => ?_) (fun h1 => ?_)
 ·(refine xG ?_)
  have h1':i<c.sigs.length:=xW
  have hw:IntKind.i64.wrap ((i:Int) + 1)=((i + 1:Nat):Int):=xW
  have ho:=KM f0 h1'
  rw [iW,Bool.and_eq_true] at ho
  obtain ⟨V,hV,hp⟩:∃ V,Y.puts (bA (c.sigs.length:Int) 1::(c.sigs.take i).flatMap gP.parts)=V∧V.b.length≤131072:=⟨_,rfl,nQ p6⟩
  have hp1:=lT (b:=bA (c.sigs.getD i default).key 1) hp
  rw [hV]
  refine wD <| ak <| av.seq <| av.block <| xI ?_
  (refine xB ?_)
  (repeat (refine wN ?_ ?_;exact xW;refine xG ?_))
  simp only [Nat.zero_add,Int.toNat_natCast]
  refine xC rfl Tryz.func183 rfl ((kT ty V (c.sigs.getD i default).key 1 (l8 ho.1 (by decide) (by decide)) (by omega)).at [] rfl rfl rfl ⟨ah rfl,ah rfl,trivial⟩ trivial) ?_
  refine xC rfl Tryz.func214 rfl ((Vr ty (V.put (bA (c.sigs.getD i default).key 1)) (c.sigs.getD i default).sig (l8 ho.2 (by decide) (by decide)) hp1).at [] rfl rfl rfl ⟨ah rfl,trivial⟩ trivial) ?_
  refine wD <| aJ <| ak <| xI ?_
  (refine xB ?_)
  refine wD <| aP ⟨⟨i + 1,h1'⟩,by dsimp only;omega,?_⟩
  rw [hw]
  dsimp only
  rw [iQ _ h1',← List.cons_append,mh,hV]
  ((try dsimp only);exact xE [0,1,2] hC)
 ·(refine xG ?_)
  have h1':i=c.sigs.length:=xW
  subst h1'
  rw [List.take_length]
  exact wD <| bW <| aS <| aI (Ends.bZ (.inl rfl) (aN.refl _) rfl rfl rfl)
abbrev Vy (t:wW) (b:List UInt8):Prop:=Makes Tryz.prog 153 [.box t.ac] [] (.tup [.one (.slc 0 1 0 b.length),.one (.raw (.int .i64 0))]) (.vec 5 1 b.length (bI b))
abbrev Qt (t:wW):Prop:=Reads Tryz.prog 153 [.box t.ac] [] (.tup [.one (.raw (.slice none 0 0)),.one (.raw (.int .i64 1))])
abbrev VB (t:wW) (b:Bool):Prop:=Reads Tryz.prog 82 [.box t.ac] [] (XV.bool b)
theorem UM {t:wW} (hmay:VB t false):Qt t:=by
 refine Reads.of Tryz.aA Tryz.func153 rfl _ _ _ rfl rfl (fun C hC => ?_)
 (replace hC:C.n0=6:=hC;change av _ _ _ ⟨_,_,6⟩ _)
 refine xI ?_
 (refine xB ?_)
 refine xC rfl Tryz.func82 rfl (hmay.at [0,1,2,3,4,5] ⟨jr (t:=t) (aj rfl rfl) (aj rfl rfl) (aj rfl rfl) (aj rfl rfl) (aj rfl rfl) (aj rfl rfl),trivial⟩ trivial) ?_
 exact wD (Ends.plain (.inr rfl) rfl rfl)
theorem Pj {l:List dG} (h:eZ l=true):(eF l).flatten.length≤241:=by
 rw [eZ,Bool.and_eq_true,decide_eq_true_eq] at h
 have e2:=jX (f:=dG.parts) (k:=15) (fun x=>by simp only [dG.parts,List.flatten_cons,List.flatten_nil,List.length_append,List.length_nil,aK,H8.jg];omega) l
 simp only [eF,List.flatten_cons,List.length_append,aK]
 omega
def gy (t:wW):List UInt8:=(bA 4 1::oC t.cert).flatten
theorem oz {t:wW} (h:bM t.cert=true):(gy t).length≤3000:=by
 obtain ⟨_,_,_,_,h4,_,h5⟩:=BL h
 have:=Pj h4
 have e1:=jX (f:=gP.parts) (k:=282) (fun x=>by simp only [gP.parts,List.flatten_cons,List.length_append,aK,za];omega) t.cert.sigs
 simp only [gy,oC,List.flatten_cons,List.flatten_append,List.length_append,aK,H8.jg]
 omega
set_option maxHeartbeats 4000000 in
theorem enc4 {t:wW} (hk:t.kind=4) (hb:bM t.cert=true) (hmay:VB t true):Vy t (gy t):=by
 have hl:=oz hb
 have q1:((⟨[],0⟩:kU).put (bA t.kind 1)).b.length≤131072:=lT (by simp)
 have hpp:((⟨[],0⟩:kU).put (bA t.kind 1)).puts (oC t.cert)=⟨gy t,0⟩:=by
  rw [hk,← Py,NQ rfl (by show 0 + (gy t).length≤_;omega),List.nil_append];rfl
 refine Makes.of Tryz.aA Tryz.func153 rfl _ _ _ _ rfl rfl rfl rfl 39 (fun C hC => ?_)
 (replace hC:C.n0=6:=hC;change av _ _ _ ⟨_,_,6⟩ _)
 refine xK 3 ?_
 refine xC rfl Tryz.func82 rfl (hmay.at [0,1,2,3,4,5] ⟨jr (t:=t) (aj rfl rfl) (aj rfl rfl) (aj rfl rfl) (aj rfl rfl) (aj rfl rfl) (aj rfl rfl),trivial⟩ trivial) ?_
 refine wD <| ak <| av.ent (aN.sM (c:=13) (j:=0) rfl rfl 5 1) <| av.ent (kU.shuts (i1:=15) (n:=0) (f:=fun _=>[]) YD ⟨[],0⟩ 13 rfl rfl rfl rfl rfl (Nat.zero_le _) (fun i hi=>absurd hi (Nat.not_lt_zero _))) <| xI ?_
 (refine xB ?_)
 refine xC rfl Tryz.func183 rfl ((kT YD ⟨[],0⟩ t.kind 1 ⟨by decide,by decide,by omega,by omega⟩ (by decide)).at [] rfl rfl rfl ⟨ah rfl,ah rfl,trivial⟩ trivial) ?_
 (refine kE ?_ ?_;(first |refine decide_eq_false ?_ |rw [beq_eq_false_iff_ne] |rw [bne_eq_false_iff_eq]);exact xW;refine xG ?_)
 (refine kE ?_ ?_;(first |refine decide_eq_false ?_ |rw [beq_eq_false_iff_ne] |rw [bne_eq_false_iff_eq]);exact xW;refine xG ?_)
 (refine kE ?_ ?_;(first |refine decide_eq_false ?_ |rw [beq_eq_false_iff_ne] |rw [bne_eq_false_iff_eq]);exact xW;refine xG ?_)
 (refine zm ?_ ?_;(first |refine decide_eq_true ?_ |rw [beq_iff_eq] |rw [bne_iff_ne]);exact xW;refine xG ?_)
 refine xC rfl Tryz.func188 rfl ((Qn YD ((⟨[],0⟩:kU).put (bA t.kind 1)) t.cert hb q1).at [4,5] rfl rfl rfl ⟨bS (aj rfl rfl) (aj rfl rfl),trivial⟩ trivial) ?_
 rw [hpp]
 refine xC rfl Tryz.func190 rfl ((Um YD (gy t) (by omega)).QK [] rfl rfl rfl trivial trivial) ?_
 exact wD (Ends.made (.inr rfl) (aN.refl _) rfl (Nat.le_of_ble_eq_true rfl) rfl)
set_option maxHeartbeats 2000000 in
theorem Ox (p:UInt8) {t:wW} {b:List UInt8} (bss:List (List UInt8)) (he:Vy t b) (hb:bss.length≤1000) (hsh:Short (jI p (b::bss))):Reads Tryz.prog 98 [.plain (.one (.raw (u8 p))),.box t.ac,CZ bss] [bJ] (.tup [(Ea p (b::bss)).x,.one (.raw (.bool true))]):=by
 refine Reads.of Tryz.aA Tryz.func98 rfl _ _ _ rfl rfl (fun C hC => ?_)
 (replace hC:C.n0=9:=hC;change av _ _ _ ⟨_,_,9⟩ _)
 refine xK 2 ?_
 refine xC rfl Tryz.func153 rfl (he.at [1,2,3,4,5,6] ⟨jr (t:=t) (aj rfl rfl) (aj rfl rfl) (aj rfl rfl) (aj rfl rfl) (aj rfl rfl) (aj rfl rfl),trivial⟩ trivial) ?_
 refine wD <| ak <| av.CP (c:=7) rfl fun ad cp=>av.freeze 8 (c:=13) rfl rfl (Nat.le_refl _) fun ad0 cp0=>xI ?_
 (refine xB ?_)
 (refine wP _ _ (aD Tryz.aA rfl rfl rfl rfl rfl [25,7] (aR rfl rfl (Nat.le_refl _) rfl) (CJ (lo:=0) rfl rfl (Nat.le_of_eq (Nat.zero_add _)) rfl) rfl (fun _ _=>rfl) (by simp only [maxLen];omega) (by dsimp only;omega)) ?_;refine xZ ?_)
 rw [Nat.add_comm 1 bss.length]
 refine xC rfl Tryz.func146 rfl ((zO p (b::bss) hsh).at [27,19,20,8] ⟨ah rfl,Ec rfl rfl (L8 (q1:=20) (q2:=19) rfl rfl rfl rfl rfl rfl),trivial⟩ ⟨bD (c:=8) rfl rfl,trivial⟩) ?_
 exact wD (Ends.plain (.inr rfl) rfl rfl)
theorem Ow (p:UInt8) {t:wW} (bss:List (List UInt8)) (he:Qt t):Reads Tryz.prog 98 [.plain (.one (.raw (u8 p))),.box t.ac,CZ bss] [bJ] (.tup [dB.x,.one (.raw (.bool false))]):=by
 refine Reads.of Tryz.aA Tryz.func98 rfl _ _ _ rfl rfl (fun C hC => ?_)
 (replace hC:C.n0=9:=hC;change av _ _ _ ⟨_,_,9⟩ _)
 refine xI ?_
 (refine xB ?_)
 refine xC rfl Tryz.func153 rfl (he.at [1,2,3,4,5,6] ⟨jr (t:=t) (aj rfl rfl) (aj rfl rfl) (aj rfl rfl) (aj rfl rfl) (aj rfl rfl) (aj rfl rfl),trivial⟩ trivial) ?_
 exact wD (Ends.plain (.inr rfl) rfl rfl)
set_option maxRecDepth 100000
open Go.Sx
def Yu (l:List (Pt×bF)):Prop:=(l.map (·.1)).Nodup
theorem Js {l:List (Pt×bF)} {k q:Pt} {v:bF} (h:q≠k):dS (jJ l k v) q=dS l q:=by
 induction l with
 | nil=>simp [jJ,dS,Ne.symm h]
 | cons x r ih =>
  simp only [jJ]
  by_cases e:x.1=k
  ·rw [if_pos e]
   simp only [dS]
   rw [if_neg (Ne.symm h),if_neg (fun e2=>h (e2.symm.trans e))]
  ·rw [if_neg e]
   simp only [dS,ih]
theorem vk {l:List (Pt×bF)} {k:Pt} {v:bF}:dS (jJ l k v) k=some v:=by
 induction l with
 | nil=>simp [jJ,dS]
 | cons x r ih =>
  simp only [jJ]
  by_cases e:x.1=k
  ·rw [if_pos e];simp [dS]
  ·rw [if_neg e];simp only [dS,if_neg e,ih]
theorem N8 {l:List (Pt×bF)} {k:Pt} (h:dS l k=none):k ∉ l.map (·.1):=by
 induction l with
 | nil=>simp
 | cons x r ih =>
  simp only [dS] at h
  by_cases e:x.1=k
  ·rw [if_pos e] at h;cases h
  ·rw [if_neg e] at h
   simp only [List.map_cons,List.mem_cons,not_or]
   exact ⟨Ne.symm e,ih h⟩
theorem U1 {l:List (Pt×bF)} {k:Pt} {v:bF} (hn:Yu l) (h:dS l k=none):Yu (jJ l k v)∧(jJ l k v).length=l.length + 1:=by
 have ha:=N8 h
 have e:jJ l k v=l++[(k,v)]:=zL fun x hx e=>ha (e▸List.mem_map_of_mem hx)
 rw [e]
 refine ⟨?_,by simp⟩
 simp only [Yu,List.map_append,List.map_cons,List.map_nil]
 rw [List.nodup_append]
 refine ⟨hn,by simp,fun a h1 b h2 => ?_⟩
 simp only [List.mem_singleton] at h2
 subst h2
 rintro rfl
 exact ha h1
set_option maxRecDepth 100000
open Go.Sx
set_option maxRecDepth 100000
open Go.Sx
def Fp (a b:H8):H8:=if (ku a && ku b)=true then dB else Ea 110 [a.l,b.l]
theorem M5:ku dB=true:=by decide
theorem LY:Fp dB dB=dB:=by rw [Fp,if_pos (by rw [M5];rfl)]
abbrev Bn:=List (Nat×H8)
def tC (i:Nat) (h:H8):Bn→Bool→Bn
 | [],done=>if done=true then [] else [(i,h)]
 | (a,x)::r,done=>(if !done && decide (i≤a) then [(i,h)] else [])++((if a=i then [] else [(a,x)])++tC i h r (done || decide (i≤a)))
def Nv (l:Bn) (i:Nat) (h:H8):Bn:=tC i h l (ku h)
def jh:Bn→Nat→H8
 | [],_=>dB
 | (a,x)::r,i=>if a=i then x else jh r i
theorem yu (a b:Bn) (j:Nat) (h:∀ x∈a,x.1≠j):jh (a++b) j=jh b j:=by
 induction a with
 | nil=>rfl
 | cons x r ih =>
  obtain ⟨p,q⟩:=x
  have h1:p≠j:=h _ (List.mem_cons_self ..)
  rw [List.cons_append,jh,if_neg h1]
  exact ih fun x hx=>h x (List.mem_cons_of_mem _ hx)
theorem AB {i:Nat} {h:H8} {j:Nat} (hj:j≠i):∀ (l:Bn) (d:Bool),jh (tC i h l d) j=jh l j
 | [],d=>by
  cases d
  ·show (if i=j then h else dB)=dB
   rw [if_neg (fun e=>hj e.symm)]
  ·rfl
 | (a,x)::r,d=>by
  have ih:=AB (h:=h) hj r (d || decide (i≤a))
  rw [tC,yu]
  ·by_cases e:a=i
   ·rw [if_pos e,List.nil_append,ih,jh,if_neg (by omega)]
   ·rw [if_neg e]
    show (if a=j then x else jh (tC i h r _) j)=_
    rw [ih];rfl
  ·intro y hy
   split at hy
   ·simp only [List.mem_singleton] at hy;subst hy;exact fun e=>hj e.symm
   ·simp at hy
theorem Dg {i:Nat} {h:H8}:∀ (l:Bn),jh (tC i h l true) i=dB
 | []=>rfl
 | (a,x)::r=>by
  have ih:=Dg (i:=i) (h:=h) r
  rw [tC]
  simp only [Bool.not_true,Bool.false_and,Bool.true_or,Bool.false_eq_true,if_false,List.nil_append]
  by_cases e:a=i
  ·rw [if_pos e,List.nil_append,ih]
  ·rw [if_neg e]
   show (if a=i then x else jh (tC i h r true) i)=_
   rw [if_neg e,ih]
theorem JR {i:Nat} {h:H8}:∀ (l:Bn),jh (tC i h l false) i=h
 | []=>by
  show (if i=i then h else dB)=h
  rw [if_pos rfl]
 | (a,x)::r=>by
  have ih:=JR (i:=i) (h:=h) r
  rw [tC]
  by_cases e:i≤a
  ·rw [decide_eq_true e]
   show (if i=i then h else _)=h
   rw [if_pos rfl]
  ·rw [decide_eq_false e]
   simp only [Bool.not_false,Bool.and_false,Bool.or_false,Bool.false_eq_true,if_false,List.nil_append]
   rw [if_neg (show ¬ a=i by omega)]
   show (if a=i then x else jh (tC i h r false) i)=_
   rw [if_neg (show ¬ a=i by omega),ih]
theorem OW (l:Bn) (i:Nat) (h:H8) (j:Nat):jh (Nv l i h) j=if j=i then h else jh l j:=by
 by_cases e:j=i
 ·subst e
  rw [if_pos rfl,Nv]
  cases hz:ku h
  ·exact JR l
  ·rw [Dg]
   simp only [ku,decide_eq_true_eq] at hz
   exact hz.symm
 ·rw [if_neg e,Nv,AB e]
def zW (l:Bn) (f k:Nat):Bool:=l.any fun x=>decide (f≤x.1) && decide (x.1<f + 2 ^ k)
def vv (l:Bn):Nat→Nat→H8
 | f,0=>if zW l f 0=true then jh l f else dB
 | f,k + 1=>if zW l f (k + 1)=true then Fp (vv l f k) (vv l (f + 2 ^ k) k) else dB
def yH (g:Nat→H8):Nat→Nat→H8
 | f,0=>g f
 | f,k + 1=>Fp (yH g f k) (yH g (f + 2 ^ k) k)
theorem LK {l:Bn} {j:Nat} (h:∀ x∈l,x.1≠j):jh l j=dB:=by
 have:=yu l [] j h
 rwa [List.append_nil] at this
theorem wz {g:Nat→H8}:∀ (k f:Nat),(∀ j,f≤j→j<f + 2 ^ k→g j=dB)→yH g f k=dB
 | 0,f,h=>h f (Nat.le_refl _) (by omega)
 | k + 1,f,h=>by
  have e:2 ^ (k + 1)=2 ^ k + 2 ^ k:=by rw [Nat.pow_succ];omega
  rw [yH,wz k f fun j h1 h2=>h j h1 (by omega),wz k (f + 2 ^ k) fun j h1 h2=>h j (by omega) (by omega),LY]
theorem Jw (l:Bn):∀ (k f:Nat),vv l f k=yH (jh l) f k:=by
 have hn:∀ k f,zW l f k=false→yH (jh l) f k=dB:=by
  intro k f h
  refine wz k f fun j h1 h2=>LK fun x hx e => ?_
  rw [zW,List.any_eq_false] at h
  have:=h x hx
  simp only [Bool.and_eq_true,decide_eq_true_eq] at this
  omega
 intro k
 induction k with
 | zero =>
  intro f
  cases h:zW l f 0
  ·rw [vv,if_neg (by rw [h];simp),hn 0 f h]
  ·rw [vv,if_pos h];rfl
 | succ k ih =>
  intro f
  cases h:zW l f (k + 1)
  ·rw [vv,if_neg (by rw [h];simp),hn (k + 1) f h]
  ·rw [vv,if_pos h,ih,ih];rfl
def Ym (m:Nat):Nat:=if m % 2=1 then m - 1 else m + 1
def V3 (leaf:H8) (i:Nat) (p:Nat→H8):Nat→H8
 | 0=>leaf
 | k + 1=>if i / 2 ^ k % 2=1 then Fp (p k) (V3 leaf i p k) else Fp (V3 leaf i p k) (p k)
def JO (l:Bn) (i:Nat) (k:Nat):H8:=vv l (Ym (i / 2 ^ k) * 2 ^ k) k
theorem KA (l:Bn) (i:Nat):∀ n,V3 (jh l i) i (JO l i) n=yH (jh l) (i / 2 ^ n * 2 ^ n) n
 | 0=>by simp [V3,yH]
 | n + 1=>by
  have ih:=KA l i n
  have e:2 ^ (n + 1)=2 * 2 ^ n:=by rw [Nat.pow_succ];omega
  have e1:i / 2 ^ (n + 1)=i / 2 ^ n / 2:=by rw [Nat.pow_succ,← Nat.div_div_eq_div_mul]
  rw [V3,ih,JO,Jw,yH,e1,e]
  obtain ⟨m,hm⟩:∃ m,i / 2 ^ n=m:=⟨_,rfl⟩
  obtain ⟨c,hc⟩:∃ c,2 ^ n=c:=⟨_,rfl⟩
  rw [hm,hc]
  unfold Ym
  by_cases h:m % 2=1
  ·rw [if_pos h,if_pos h]
   have e2:m - 1=m / 2 * 2:=by omega
   have e3:m=m / 2 * 2 + 1:=by omega
   have e4:(m - 1) * c=m / 2 * (2 * c):=by rw [e2,Nat.mul_assoc]
   have e5:m * c=m / 2 * (2 * c) + c:=by
    conv=>lhs;rw [e3]
    rw [Nat.add_mul,Nat.mul_assoc,Nat.one_mul]
   rw [e4,e5]
  ·rw [if_neg h,if_neg h]
   have e3:m=m / 2 * 2:=by omega
   have e4:m * c=m / 2 * (2 * c):=by
    conv=>lhs;rw [e3]
    rw [Nat.mul_assoc]
   have e5:(m + 1) * c=m / 2 * (2 * c) + c:=by rw [Nat.add_mul,e4,Nat.one_mul]
   rw [e4,e5]
theorem Vw (l:Bn) (i:Nat) (hi:i<65536):V3 (jh l i) i (JO l i) 16=vv l 0 16:=by
 rw [KA,Jw,show i / 2 ^ 16=0 from Nat.div_eq_of_lt hi,Nat.zero_mul]
set_option maxRecDepth 100000
open Go.Sx
def sD:List Int→Int→List Int
 | [],a=>[a]
 | x::r,a=>if x<a then x::sD r a else a::x::r
def Pv:List Int→Int→Nat
 | [],_=>0
 | x::r,a=>if x<a then Pv r a + 1 else 0
abbrev KH (l:List Int):Prop:=l.Pairwise (· < ·)
theorem NJ:∀ (l:List Int) (a:Int),Pv l a≤l.length
 | [],_=>Nat.le_refl _
 | x::r,a=>by
  have:=NJ r a
  rw [Pv]
  split
  ·simp only [List.length_cons];omega
  ·exact Nat.zero_le _
theorem Nr:∀ (l:List Int) (a:Int),sD l a=l.take (Pv l a)++a::l.drop (Pv l a)
 | [],_=>rfl
 | x::r,a=>by
  rw [sD,Pv]
  split
  ·rw [Nr r a];rfl
  ·rfl
theorem x9 (l:List Int) (a:Int):(sD l a).length=l.length + 1:=by
 have:=NJ l a
 rw [Nr]
 simp only [List.length_append,List.length_take,List.length_cons,List.length_drop]
 omega
theorem yD {l:List Int} {a b:Int}:b∈sD l a↔b=a∨b∈l:=by
 induction l with
 | nil=>simp [sD]
 | cons x r ih =>
  rw [sD]
  split
  ·simp only [List.mem_cons,ih]
   constructor
   ·rintro (h |h |h)
    ·exact .inr (.inl h)
    ·exact .inl h
    ·exact .inr (.inr h)
   ·rintro (h |h |h)
    ·exact .inr (.inl h)
    ·exact .inl h
    ·exact .inr (.inr h)
  ·simp only [List.mem_cons]
theorem Mv {l:List Int} {a:Int} (h:KH l) (ha:a ∉ l):KH (sD l a):=by
 induction l with
 | nil=>simp [sD]
 | cons x r ih =>
  have h1:=List.pairwise_cons.1 h
  simp only [List.mem_cons,not_or] at ha
  rw [sD]
  split
  ·rename_i hx
   refine List.pairwise_cons.2 ⟨fun y hy => ?_,ih h1.2 ha.2⟩
   rcases yD.1 hy with rfl |hy
   ·exact hx
   ·exact h1.1 y hy
  ·rename_i hx
   have hxa:a<x:=by omega
   refine List.pairwise_cons.2 ⟨fun y hy => ?_,h⟩
   rcases List.mem_cons.1 hy with rfl |hy
   ·exact hxa
   ·exact Int.lt_trans hxa (h1.1 y hy)
def Ns (i:Int) (a:Ii):H8:=Ea 97 [bA i 2,a.owner.l,bA a.amt 7,bA a.nonce 1]
def uH (root:H8) (c:dx):Bool:=decide (V3 (Ns c.acct c.st) c.acct.toNat c.proof 16=root)
def kI (x:au) (c:dx):Int:=if x.ceased=false then 14 else if c.acct∈x.used then 13 else if uH x.root c=false then 12 else if x.bal<c.st.amt then 5 else 0
def qz (L:List au) (c:dx):Int:=if lS c=false then 4 else if (L.length:Int)≤c.side then 8 else kI (L.getD c.side.toNat default) c
def gB (c:dx):dG:=⟨c.st.owner,Int64.ofInt c.st.amt⟩
def DK (x:au) (c:dx):au:={ x with bal:=IntKind.i64.wrap (x.bal - c.st.amt),clm:=IntKind.i64.wrap (x.clm + c.st.amt),used:=sD x.used c.acct }
def KR (c:dx):List (List UInt8):=bA 5 1::Wl c
def Q7 (c:dx):List UInt8:=(KR c).flatten
def bO (c:dx):H8:=Ea 120 [Q7 c]
def uf (L:List au) (S:aB) (c:dx) (h:Int64):(List au×aB)×Int :=
 if qz L c=0 then
  if (dX (bO c) h false S 0 [gB c]).2=0 then ((L.set c.side.toNat (DK (L.getD c.side.toNat default) c),(dX (bO c) h false S 0 [gB c]).1),0)
  else ((L,(dX (bO c) h false S 0 [gB c]).1),(dX (bO c) h false S 0 [gB c]).2)
 else ((L,S),qz L c)
theorem ND (id:H8) (h:Int64) (S:aB) (o:dG):dX id h false S 0 [o]=if S.has (dz id 0)=true then (S,6) else if S.okB (dz id 0) ⟨o.to,o.amt,h,false⟩=true then (S.add1 (dz id 0) ⟨o.to,o.amt,h,false⟩,0) else (S,5):=rfl
theorem AV (x:au) (S:aB) (c:dx) (h:Int64) :
  (∃ e,e≠0∧uf [x] S c h=(([x],S),e)) ∨
  (uf [x] S c h=(([DK x c],S.add1 (dz (bO c) 0) ⟨c.st.owner,Int64.ofInt c.st.amt,h,false⟩),0)∧lS c=true∧kI x c=0∧S.has (dz (bO c) 0)=false∧S.okB (dz (bO c) 0) ⟨c.st.owner,Int64.ofInt c.st.amt,h,false⟩=true):=by
 unfold uf
 by_cases h1:qz [x] c=0
 ·rw [if_pos h1]
  have h1':=h1
  unfold qz at h1'
  cases h2:lS c with
  | false=>rw [if_pos h2] at h1';cases h1'
  | true =>
   rw [if_neg (by rw [h2];simp)] at h1'
   by_cases h3:(([x]:List au).length:Int)≤c.side
   ·rw [if_pos h3] at h1';cases h1'
   ·rw [if_neg h3] at h1'
    have hs:=(oD.1 h2).1
    simp only [List.length_singleton] at h3
    have e0:c.side.toNat=0:=by omega
    rw [e0] at h1' ⊢
    have h1':kI x c=0:=h1'
    cases h4:S.has (dz (bO c) 0) with
    | true =>
     have eo:dX (bO c) h false S 0 [gB c]=(S,6):=by rw [ND,if_pos h4]
     rw [eo]
     exact .inl ⟨6,by decide,rfl⟩
    | false =>
     cases h5:S.okB (dz (bO c) 0) ⟨c.st.owner,Int64.ofInt c.st.amt,h,false⟩ with
     | false =>
      have e5:S.okB (dz (bO c) 0) ⟨(gB c).to,(gB c).amt,h,false⟩=false:=h5
      have eo:dX (bO c) h false S 0 [gB c]=(S,5):=by rw [ND,if_neg (by rw [h4];simp),if_neg (by rw [e5];simp)]
      rw [eo]
      exact .inl ⟨5,by decide,rfl⟩
     | true =>
      have e5:S.okB (dz (bO c) 0) ⟨(gB c).to,(gB c).amt,h,false⟩=true:=h5
      have eo:dX (bO c) h false S 0 [gB c]=(S.add1 (dz (bO c) 0) ⟨c.st.owner,Int64.ofInt c.st.amt,h,false⟩,0):=by rw [ND,if_neg (by rw [h4];simp),if_pos e5];rfl
      rw [eo]
      exact .inr ⟨rfl,rfl,h1',rfl,rfl⟩
 ·rw [if_neg h1]
  exact .inl ⟨_,h1,rfl⟩
theorem QE {c:dx} (h:lS c=true):(Int64.ofInt c.st.amt).toInt=c.st.amt:=by
 have:=(oD.1 h).2.2.2.1
 exact Int64.toInt_ofInt_of_le (by omega) (by omega)
theorem IE {x:au} {c:dx} (h:kI x c=0):x.ceased=true∧c.acct ∉ x.used∧uH x.root c=true∧c.st.amt≤x.bal:=by
 unfold kI at h
 by_cases h1:x.ceased=false
 ·rw [if_pos h1] at h;cases h
 ·rw [if_neg h1] at h
  by_cases h2:c.acct∈x.used
  ·rw [if_pos h2] at h;cases h
  ·rw [if_neg h2] at h
   by_cases h3:uH x.root c=false
   ·rw [if_pos h3] at h;cases h
   ·rw [if_neg h3] at h
    by_cases h4:x.bal<c.st.amt
    ·rw [if_pos h4] at h;cases h
    ·exact ⟨by simpa using h1,h2,by simpa using h3,by omega⟩
structure Ah (n:Int) (x:au) (S:aB):Prop where
 sum:x.bal + x.clm=n
 bal:0≤x.bal
 clm:0≤x.clm
 tot:S.total=x.clm
 len:x.used.length=S.coins.length
 up:KH x.used
 nd:Yu S.coins
theorem bK {n:Int} (h : -2 ^ 63≤n∧n<2 ^ 63):IntKind.i64.wrap n=n:=by rw [IntKind.wrap_i64];omega
theorem OL {S:aB} {p:Pt} (h:S.has p=false):dS S.coins p=none:=by
 have:(dS S.coins p).isSome=false:=h
 simpa using this
theorem Ah.paid {n:Int} {x:au} {S:aB} (h:Ah n x S) (hn:n≤1125899906842624) {c:dx} (h1:lS c=true) (h2:kI x c=0) {p:Pt} {k:bF} (h3:S.has p=false) (hk:k.amt.toInt=c.st.amt):Ah n (DK x c) (S.add1 p k)∧(DK x c).bal=x.bal - c.st.amt∧(DK x c).clm=x.clm + c.st.amt:=by
 obtain ⟨c1,c2,c3,c4⟩:=IE h2
 have hb:=h.bal
 have hc:=h.clm
 have hs:=h.sum
 have ha:=(oD.1 h1).2.2.2.1
 have e1:IntKind.i64.wrap (x.bal - c.st.amt)=x.bal - c.st.amt:=bK (by omega)
 have e2:IntKind.i64.wrap (x.clm + c.st.amt)=x.clm + c.st.amt:=bK (by omega)
 have hp:=U1 (v:=k) h.nd (OL h3)
 refine ⟨⟨?_,?_,?_,?_,?_,Mv h.up c2,hp.1⟩,e1,e2⟩
 ·show IntKind.i64.wrap (x.bal - c.st.amt) + IntKind.i64.wrap (x.clm + c.st.amt)=n
  rw [e1,e2];omega
 ·show 0≤IntKind.i64.wrap (x.bal - c.st.amt)
  rw [e1];omega
 ·show 0≤IntKind.i64.wrap (x.clm + c.st.amt)
  rw [e2];omega
 ·show IntKind.i64.wrap (S.total + k.amt.toInt)=IntKind.i64.wrap (x.clm + c.st.amt)
  rw [h.tot,hk]
 ·show (sD x.used c.acct).length=(jJ S.coins p k).length
  rw [x9,h.len,hp.2]
theorem Ah.take {n:Int} {x:au} {S:aB} (h:Ah n x S) (hn:n≤1125899906842624) (c:dx) (H:Int64):∃ x' S' e,uf [x] S c H=(([x'],S'),e)∧Ah n x' S'∧S'.steps.length≤S.steps.length + 1∧x'.used.length≤x.used.length + 1∧x'.par=x.par∧x'.cert=x.cert:=by
 rcases AV x S c H with ⟨e,_,h1⟩ |⟨h1,h2,h3,h4,_⟩
 ·exact ⟨x,S,e,h1,h,Nat.le_succ _,Nat.le_succ _,rfl,rfl⟩
 ·refine ⟨_,_,_,h1,(h.paid hn h2 h3 h4 (QE h2)).1,?_,?_,rfl,rfl⟩
  ·show (S.steps++[_]).length≤_
   rw [List.length_append];exact Nat.le_refl _
  ·show (sD x.used c.acct).length≤_
   rw [x9];exact Nat.le_refl _
end Go.Proofs.YtnpkdoggfnlapaaGreatDoor
