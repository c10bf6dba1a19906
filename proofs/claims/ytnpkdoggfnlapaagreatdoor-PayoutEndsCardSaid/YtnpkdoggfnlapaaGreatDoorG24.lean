/- Parts Bk Bl Bp Bq Br. -/
import Derived.Test.YtnpkdoggfnlapaaGreatDoorG23
import Derived.Test.YtnpkdoggfnlapaaGreatDoorG20
import Derived.Test.YtnpkdoggfnlapaaGreatDoorG22
set_option linter.unusedSimpArgs false
set_option linter.unusedVariables false
namespace Go.Proofs.YtnpkdoggfnlapaaGreatDoor
set_option maxRecDepth 100000
open Go.Sx
def Te (c:aT) (i:Nat):St:=⟨[none,some (XV.sv (.ptr 2 0 0 0)),none,some (XV.int .i64 i)]++List.replicate 89 none,[(0,.ro 9 c.outs.length (bE c.outs)),(1,.ro 282 c.sigs.length (bY c.sigs)),(2,.cells 43 (vK 0 c.ac))],3⟩
theorem dW {c:aT}:bM c=true↔c.sigs.all iW=true∧(((0≤c.side∧c.side≤7)∧(0≤c.ep∧c.ep≤400)∧(0≤c.qual∧c.qual≤2147483647))∧eZ c.outs=true∧(1≤(c.sigs.length:Int)∧(c.sigs.length:Int)≤5)):=by
 simp only [bM,pU,aO,Bool.and_eq_true,decide_eq_true_eq]
theorem ko {s:gP}:iW s=true↔(0≤s.key∧s.key≤4)∧(0≤s.sig.idx∧s.sig.idx≤255):=by
 simp only [iW,aO,Bool.and_eq_true,decide_eq_true_eq]
set_option maxHeartbeats 8000000 in
theorem yU (c:aT) (ho:c.outs.length≤1000000000) (hl:c.sigs.length≤1000000000):Reads Tryz.prog 113 [.box c.ac] [] (XV.bool (bM c)):=by
 have bad:(bM c=true→False)→XV.bool false=XV.bool (bM c):=fun h=>by
  cases hc:bM c with
  | false=>rfl
  | true=>exact (h hc).elim
 have hm:=PW c.outs ho
 refine Reads.of Tryz.aA Tryz.func113 rfl _ _ _ rfl rfl (fun C hC => ?_)
 (replace hC:C.n0=2:=hC;change av _ _ _ ⟨_,_,2⟩ _)
 refine xK 2 ?_
 refine wC (fun h1 => ?_) (fun h1 => ?_)
 ·(refine xG ?_)
  exact wD <| aV <| Ends.plain (.inr rfl) rfl (bad fun h=>by have:=(dW.1 h).2;simp only [decide_eq_true_eq] at h1;omega)
 (refine xG ?_)
 refine wC (fun h2 => ?_) (fun h2 => ?_)
 ·(refine xG ?_)
  exact wD <| aV <| Ends.plain (.inr rfl) rfl (bad fun h=>by have:=(dW.1 h).2;simp only [decide_eq_true_eq] at h2;omega)
 (refine xG ?_)
 refine wC (fun h3 => ?_) (fun h3 => ?_)
 ·(refine xG ?_)
  exact wD <| aV <| Ends.plain (.inr rfl) rfl (bad fun h=>by have:=(dW.1 h).2;simp only [decide_eq_true_eq] at h3;omega)
 (refine xG ?_)
 refine wC (fun h4 => ?_) (fun h4 => ?_)
 ·(refine xG ?_)
  exact wD <| aV <| Ends.plain (.inr rfl) rfl (bad fun h=>by have:=(dW.1 h).2;simp only [decide_eq_true_eq] at h4;omega)
 (refine xG ?_)
 refine wC (fun h5 => ?_) (fun h5 => ?_)
 ·(refine xG ?_)
  exact wD <| aV <| Ends.plain (.inr rfl) rfl (bad fun h=>by have:=(dW.1 h).2;simp only [decide_eq_true_eq] at h5;omega)
 (refine xG ?_)
 refine wC (fun h6 => ?_) (fun h6 => ?_)
 ·(refine xG ?_)
  exact wD <| aV <| Ends.plain (.inr rfl) rfl (bad fun h=>by have:=(dW.1 h).2;simp only [decide_eq_true_eq] at h6;omega)
 (refine xG ?_)
 refine xC rfl Tryz.func110 rfl (hm.at [0] ⟨aj rfl rfl,trivial⟩ trivial) ?_
 refine wC (fun h7 => ?_) (fun h7 => ?_)
 ·(refine xG ?_)
  exact wD <| aV <| Ends.plain (.inr rfl) rfl (bad fun h=>by have:=(dW.1 h).2.2.1;rw [this] at h7;cases h7)
 (refine xG ?_)
 refine wC (fun h8 => ?_) (fun h8 => ?_)
 ·(refine xG ?_)
  exact wD <| aV <| Ends.plain (.inr rfl) rfl (bad fun h=>by have:=(dW.1 h).2;simp only [decide_eq_true_eq] at h8;omega)
 (refine xG ?_)
 refine wC (fun h9 => ?_) (fun h9 => ?_)
 ·(refine xG ?_)
  exact wD <| aV <| Ends.plain (.inr rfl) rfl (bad fun h=>by have:=(dW.1 h).2;simp only [decide_eq_true_eq] at h9;omega)
 have hN:((0≤c.side∧c.side≤7)∧(0≤c.ep∧c.ep≤400)∧(0≤c.qual∧c.qual≤2147483647))∧eZ c.outs=true∧(1≤(c.sigs.length:Int)∧(c.sigs.length:Int)≤5):=by
  simp only [decide_eq_false_iff_not] at h1 h2 h3 h4 h5 h6 h8 h9
  exact ⟨⟨⟨by omega,by omega⟩,⟨by omega,by omega⟩,by omega,by omega⟩,by simpa using h7,by omega,by omega⟩
 (refine xG ?_)
 refine wD <| ak <| av.seq ?_
 refine xK 1 ?_
 refine wD <| ak <| av.block ?_
 refine av.loop (α:={ i:Nat // i≤c.sigs.length∧(c.sigs.take i).all iW=true }) (fun i=>Te c i.1) (fun i=>c.sigs.length - i.1) ⟨0,Nat.zero_le _,rfl⟩ ?_ ?_
 ·unfold Te
  ((try dsimp only);exact xE [0,1,2] hC)
 rintro ⟨i,hi,ha⟩
 dsimp only
 unfold Te
 refine xK 1 ?_
 refine wC (fun k1 => ?_) (fun k1 => ?_)
 ·(refine xG ?_)
  have h1':i<c.sigs.length:=xW
  have hw:IntKind.i64.wrap ((i:Int) + 1)=((i + 1:Nat):Int):=xW
  have hs:=lQ (p:=iW) h1'
  have bad2:(iW (c.sigs.getD i default)=true→False)→XV.bool false=XV.bool (bM c):=fun h=>bad fun hc=>h (KM (dW.1 hc).1 h1')
  refine wD <| ak <| av.seq <| av.block <| xI ?_
  (refine xB ?_)
  (repeat (refine wN ?_ ?_;exact xW;refine xG ?_))
  simp only [Nat.zero_add,Int.toNat_natCast]
  refine wC (fun k2 => ?_) (fun k2 => ?_)
  ·(refine xG ?_)
   exact wD <| aQ <| aV <| fq <| aQ <| aV <| Ends.plain (.inr rfl) rfl (bad2 fun h=>by have:=ko.1 h;simp only [decide_eq_true_eq] at k2;omega)
  (refine xG ?_)
  (repeat (refine wN ?_ ?_;exact xW;refine xG ?_))
  simp only [Nat.zero_add,Int.toNat_natCast]
  refine wC (fun k3 => ?_) (fun k3 => ?_)
  ·(refine xG ?_)
   exact wD <| aQ <| aV <| fq <| aQ <| aV <| Ends.plain (.inr rfl) rfl (bad2 fun h=>by have:=ko.1 h;simp only [decide_eq_true_eq] at k3;omega)
  (refine xG ?_)
  (repeat (refine wN ?_ ?_;exact xW;refine xG ?_))
  simp only [Nat.zero_add,Int.toNat_natCast]
  refine wC (fun k4 => ?_) (fun k4 => ?_)
  ·(refine xG ?_)
   exact wD <| aQ <| aV <| fq <| aQ <| aV <| Ends.plain (.inr rfl) rfl (bad2 fun h=>by have:=ko.1 h;simp only [decide_eq_true_eq] at k4;omega)
  (refine xG ?_)
  (repeat (refine wN ?_ ?_;exact xW;refine xG ?_))
  simp only [Nat.zero_add,Int.toNat_natCast]
  refine wC (fun k5 => ?_) (fun k5 => ?_)
  ·(refine xG ?_)
   exact wD <| aQ <| aV <| fq <| aQ <| aV <| Ends.plain (.inr rfl) rfl (bad2 fun h=>by have:=ko.1 h;simp only [decide_eq_true_eq] at k5;omega)
  (refine xG ?_)
  have hg:iW (c.sigs.getD i default)=true:=by
   simp only [decide_eq_false_iff_not] at k2 k3 k4 k5
   exact ko.2 ⟨⟨by omega,by omega⟩,by omega,by omega⟩
  refine wD <| aJ <| ak <| xI ?_
  (refine xB ?_)
  refine wD <| aP ⟨⟨i + 1,h1',by rw [hs,ha,hg];rfl⟩,by dsimp only;omega,?_⟩
  rw [hw]
  ((try dsimp only);exact xE [0,1,2] hC)
 ·(refine xG ?_)
  have h1':i=c.sigs.length:=xW
  subst h1'
  rw [List.take_length] at ha
  refine wD <| bW <| aS <| aI <| ak <| xI ?_
  (refine xB ?_)
  exact wD (Ends.plain (.inr rfl) rfl (by rw [dW.2 ⟨ha,hN⟩]))
theorem P7 (l:List gP):(l.flatMap gP.parts).flatten.length=282 * l.length:=by
 induction l with
 | nil=>rfl
 | cons s r ih=>simp only [List.flatMap_cons,List.flatten_append,List.length_append,ih,gP.parts,List.flatten_cons,aK,za,List.length_cons];omega
def zF (c:aT):List UInt8:=bA c.side 1++bA c.ep 4++bA c.qual 4++c.fin.l++c.root.l++(eF c.outs).flatten++bA (c.sigs.length:Int) 1
def lu (c:aT) (i:Nat):List UInt8:=zF c++((c.sigs.take i).flatMap gP.parts).flatten
theorem KP (c:aT):lu c c.sigs.length=(oC c).flatten:=by simp [lu,zF,oC]
theorem Iw {c:aT} {i:Nat} (hi:i<c.sigs.length):lu c (i + 1)=lu c i++bA (c.sigs.getD i default).key 1++(c.sigs.getD i default).sig.parts.flatten:=by
 rw [lu,lu,iQ _ hi]
 simp [gP.parts]
def SQ (c:aT) (i:Nat):St :=
 ⟨[none,some (XV.sv (.ptr 2 0 0 0)),none,some (XV.sv (.slc 3 1 0 (lu c i).length)),some (XV.int .i64 i)]++List.replicate 53 none,[(0,.ro 9 c.outs.length (bE c.outs)),(1,.ro 282 c.sigs.length (bY c.sigs)),(2,.cells 43 (vK 0 c.ac)),(3,.vec 5 1 (lu c i).length (bI (lu c i)))],4⟩
set_option maxHeartbeats 8000000 in
theorem Ml (c:aT) (ho:c.outs.length≤1000) (hl:c.sigs.length≤1000):Makes Tryz.prog 93 [.box c.ac] [] (XV.sv (.slc 0 1 0 (oC c).flatten.length)) (.vec 5 1 (oC c).flatten.length (bI (oC c).flatten)):=by
 refine Makes.of Tryz.aA Tryz.func93 rfl _ _ _ _ rfl rfl rfl rfl 3 (fun C hC => ?_)
 (replace hC:C.n0=2:=hC;change av _ _ _ ⟨_,_,2⟩ _)
 have hob:=uE c.outs c.outs.length (Nat.le_refl _)
 rw [Fh] at hob
 refine xK 4 ?_
 refine xC rfl Tryz.func72 rfl ((jT c.side 1 (by decide)).at [] ⟨ah rfl,ah rfl,trivial⟩ trivial) ?_
 refine xC rfl Tryz.func72 rfl ((jT c.ep 4 (by decide)).at [] ⟨ah rfl,ah rfl,trivial⟩ trivial) ?_
 (refine wP _ _ (aD Tryz.aA rfl rfl rfl rfl rfl [6,9] (aR rfl rfl (Nat.le_refl _) rfl) (bU (lo:=0) rfl rfl (Nat.le_of_eq (Nat.zero_add _)) rfl) rfl (fun _ _=>rfl) (by simp only [maxLen];omega) (by dsimp only;omega)) ?_;refine xZ ?_)
 refine xC rfl Tryz.func72 rfl ((jT c.qual 4 (by decide)).at [] ⟨ah rfl,ah rfl,trivial⟩ trivial) ?_
 (refine wP _ _ (aD Tryz.aA rfl rfl rfl rfl rfl [10,13] (aR rfl rfl (Nat.le_refl _) rfl) (bU (lo:=0) rfl rfl (Nat.le_of_eq (Nat.zero_add _)) rfl) rfl (fun _ _=>rfl) (by simp only [maxLen];omega) (by dsimp only;omega)) ?_;refine xZ ?_)
 (refine wP _ _ (aD Tryz.aA rfl rfl rfl rfl rfl [14,2] (aR rfl rfl (Nat.le_refl _) rfl) (jw (g:=bI c.fin.l) rfl rfl rfl (fun _ _=>rfl) rfl) rfl (fun _ _=>rfl) (by simp only [maxLen];omega) (by dsimp only;omega)) ?_;refine xZ ?_)
 (refine wP _ _ (aD Tryz.aA rfl rfl rfl rfl rfl [19,2] (aR rfl rfl (Nat.le_refl _) rfl) (jw (g:=bI c.root.l) rfl rfl rfl (fun _ _=>rfl) rfl) rfl (fun _ _=>rfl) (by simp only [maxLen];omega) (by dsimp only;omega)) ?_;refine xZ ?_)
 refine xC rfl Tryz.func89 rfl ((Mx c.outs ho).at [0] ⟨aj rfl rfl,trivial⟩ trivial) ?_
 (refine wP _ _ (aD Tryz.aA rfl rfl rfl rfl rfl [22,25] (aR rfl rfl (Nat.le_refl _) rfl) (bU (lo:=0) rfl rfl (Nat.le_of_eq (Nat.zero_add _)) rfl) rfl (fun _ _=>rfl) (by simp only [maxLen];omega) (by dsimp only;omega)) ?_;refine xZ ?_)
 refine xC rfl Tryz.func72 rfl ((jT (c.sigs.length:Int) 1 (by decide)).at [] ⟨ah rfl,ah rfl,trivial⟩ trivial) ?_
 (refine wP _ _ (aD Tryz.aA rfl rfl rfl rfl rfl [26,32] (aR rfl rfl (Nat.le_refl _) rfl) (bU (lo:=0) rfl rfl (Nat.le_of_eq (Nat.zero_add _)) rfl) rfl (fun _ _=>rfl) (by simp only [maxLen];omega) (by dsimp only;omega)) ?_;refine xZ ?_)
 refine wD <| ak <| av.seq ?_
 refine xK 1 ?_
 refine wD <| ak <| av.block ?_
 have hb0:(zF c).length=27 + 15 * c.outs.length:=by simp only [zF,List.length_append,aK,H8.jg,hob];omega
 refine av.loop (α:={ i:Nat // i≤c.sigs.length }) (fun i=>SQ c i.1) (fun i=>c.sigs.length - i.1) ⟨0,Nat.zero_le _⟩ ?_ ?_
 ·dsimp only
  have e0:lu c 0=zF c:=by simp [lu]
  rw [SQ,e0,hb0]
  ((try dsimp only);refine aN.dH [0,1,2,33] hC ?_ ?_<;>repeat' (first |exact trivial |exact rfl |exact ⟨_,rfl,rfl,rfl,Nat.le_refl _,fun _ _=>rfl⟩ |exact ⟨_,rfl,rfl,rfl,fun _ _=>rfl⟩ |exact ⟨_,rfl,rfl,rfl⟩ |exact ⟨_,rfl,rfl⟩ |refine ⟨_,rfl,rfl,rfl,by omega,fun k hk => ?_⟩ |refine ⟨?_,?_⟩ |fail))
  ·exact congrArg (fun q=>some (XV.sv (SV.slc 33 1 0 q))) (show 1 + 4 + 4 + 8 + 8 + (eF c.outs).flatten.length + 1=_ by omega)
  ·refine fO (by simp only [List.length_append,aK,H8.jg];rfl) (fO (by simp only [List.length_append,aK,H8.jg];rfl) (fO (by simp only [List.length_append,aK,H8.jg];rfl) (fO (by simp only [List.length_append,aK]) (fO (by simp only [List.length_append,aK]) (fO (aK _ _).symm (fun _ _=>rfl) Qp) Qp) (fun _ _=>rfl)) (fun _ _=>rfl)) Qp) Qp k ?_
   have hb1:=hb0
   rw [zF] at hb1
   rw [hb1]
   exact hk
 rintro ⟨i,hi⟩
 dsimp only
 have hl2:(lu c i).length=27 + 15 * c.outs.length + 282 * i:=by
  rw [lu,List.length_append,hb0,P7,List.length_take];omega
 unfold SQ
 refine xK 1 ?_
 refine wC (fun h1 => ?_) (fun h1 => ?_)
 ·(refine xG ?_)
  have h1':i<c.sigs.length:=xW
  have hw:IntKind.i64.wrap ((i:Int) + 1)=((i + 1:Nat):Int):=xW
  refine wD <| ak <| av.seq <| av.block <| xI ?_
  (refine xB ?_)
  (repeat (refine wN ?_ ?_;exact xW;refine xG ?_))
  simp only [Nat.zero_add,Int.toNat_natCast]
  refine xC rfl Tryz.func72 rfl ((jT (c.sigs.getD i default).key 1 (by decide)).at [] ⟨ah rfl,ah rfl,trivial⟩ trivial) ?_
  (refine wP _ _ (aD Tryz.aA rfl rfl rfl rfl rfl [3,16] (aR rfl rfl (Nat.le_refl _) rfl) (bU (lo:=0) rfl rfl (Nat.le_of_eq (Nat.zero_add _)) rfl) rfl (fun _ _=>rfl) (by simp only [maxLen];omega) (by dsimp only;omega)) ?_;refine xZ ?_)
  (repeat (refine wN ?_ ?_;exact xW;refine xG ?_))
  simp only [Nat.zero_add,Int.toNat_natCast]
  refine xC rfl Tryz.func149 rfl ((Tj (c.sigs.getD i default).sig).at [] ⟨ah rfl,trivial⟩ trivial) ?_
  (refine wP _ _ (aD Tryz.aA rfl rfl rfl rfl rfl [17,24] (aR rfl rfl (Nat.le_refl _) rfl) (bU (lo:=0) rfl rfl (Nat.le_of_eq (Nat.zero_add _)) rfl) rfl (fun _ _=>rfl) (by simp only [maxLen];omega) (by dsimp only;omega)) ?_;refine xZ ?_)
  refine wD <| aJ <| ak <| xI ?_
  (refine xB ?_)
  refine wD <| aP ⟨⟨i + 1,h1'⟩,by dsimp only;omega,?_⟩
  rw [hw]
  dsimp only
  rw [Iw h1',List.length_append,List.length_append,aK,za]
  ((try dsimp only);refine aN.dH [0,1,2,25] hC ?_ ?_<;>repeat' (first |exact trivial |exact rfl |exact ⟨_,rfl,rfl,rfl,Nat.le_refl _,fun _ _=>rfl⟩ |exact ⟨_,rfl,rfl,rfl,fun _ _=>rfl⟩ |exact ⟨_,rfl,rfl,rfl⟩ |exact ⟨_,rfl,rfl⟩ |refine ⟨_,rfl,rfl,rfl,by omega,fun k hk => ?_⟩ |refine ⟨?_,?_⟩ |fail))
  ·refine fO (by rw [List.length_append,aK]) (fO rfl (fun _ _=>rfl) (fun _ _=>rfl)) Qp k ?_
   simp only [List.length_append,aK,za]
   exact hk
 ·(refine xG ?_)
  have h1':i=c.sigs.length:=xW
  subst h1'
  rw [KP]
  refine wD <| bW <| aS <| aI <| ak <| xI ?_
  (refine xB ?_)
  exact wD (Ends.made (.inr rfl) (aN.refl _) rfl (Nat.le_of_ble_eq_true rfl) rfl)
set_option maxRecDepth 100000
open Go.Sx
theorem CW {l:List dG} (h:eZ l=true):l.length≤16:=by
 rw [eZ,Bool.and_eq_true,decide_eq_true_eq] at h
 exact h.2
set_option maxHeartbeats 4000000 in
theorem FN (c:aT) (h1:c.outs.length≤1000000000) (h2:c.sigs.length≤1000000000):Reads Tryz.prog 57 [.box (dM c).ac] [] (XV.bool (bM c)):=by
 have hm:=yU c h1 h2
 obtain ⟨ob,hob⟩:∃ ob,bM c=ob:=⟨_,rfl⟩
 rw [hob] at hm ⊢
 refine Reads.of Tryz.aA Tryz.func57 rfl _ _ _ rfl rfl (fun C hC => ?_)
 (replace hC:C.n0=6:=hC;change av _ _ _ ⟨_,_,6⟩ _)
 refine xI ?_
 (refine xB ?_)
 repeat (first |(refine kE rfl ?_;refine xG ?_) |(refine zm rfl ?_;refine xG ?_))
 refine xC rfl Tryz.func108 rfl (WH.at [3] ⟨gG (p:=L6) (aj rfl rfl),trivial⟩ trivial) ?_
 repeat (first |(refine kE rfl ?_;refine xG ?_) |(refine zm rfl ?_;refine xG ?_))
 (refine wP _ _ (o7 Q6 rfl (nI.cv nA) (nI.cv nA) rfl rfl) ?_;refine xZ ?_)
 refine kE (by simp) ?_
 (refine xG ?_)
 repeat (first |(refine kE rfl ?_;refine xG ?_) |(refine zm rfl ?_;refine xG ?_))
 refine xC rfl Tryz.func113 rfl (hm.at [4,5] ⟨bS (c:=c) (aj rfl rfl) (aj rfl rfl),trivial⟩ trivial) ?_
 exact wD (Ends.plain (.inr rfl) rfl rfl)
theorem vM (c:aT):gy (dM c)=bA 4 1++(oC c).flatten:=by
 show ((bA 4 1)::oC c).flatten=_
 rfl
theorem Ol {c:aT} (h:bM c=true):(oC c).flatten.length≤3000:=by
 have h1:=oz (t:=dM c) h
 rw [vM,List.length_append] at h1
 omega
set_option maxHeartbeats 4000000 in
theorem Hl (c:aT) (hc:bM c=true):Makes Tryz.prog 44 [.box (dM c).ac] [] (.tup [.one (.slc 0 1 0 (gy (dM c)).length),.one (.raw (.int .i64 0))]) (.vec 5 1 (gy (dM c)).length (bI (gy (dM c)))):=by
 obtain ⟨-,-,h3,-,h5⟩:=jo hc
 have ho:=CW h3
 have hmay:=FN c (by omega) (by omega)
 have hcb:=Ml c (by omega) (by omega)
 rw [hc] at hmay
 have hle:(gy (dM c)).length=1 + (oC c).flatten.length:=by rw [vM,List.length_append,aK]
 have hpl:=Ol hc
 rw [hle]
 refine Makes.of Tryz.aA Tryz.func44 rfl _ _ _ _ rfl rfl rfl rfl 30 (fun C hC => ?_)
 (replace hC:C.n0=6:=hC;change av _ _ _ ⟨_,_,6⟩ _)
 refine xI ?_
 (refine xB ?_)
 refine xC rfl Tryz.func57 rfl (hmay.at [0,1,2,3,4,5] ⟨jr (t:=dM c) (aj rfl rfl) (aj rfl rfl) (aj rfl rfl) (aj rfl rfl) (aj rfl rfl) (aj rfl rfl),trivial⟩ trivial) ?_
 refine xC rfl Tryz.func72 rfl ((jT 4 1 (by decide)).at [] ⟨ah rfl,ah rfl,trivial⟩ trivial) ?_
 repeat (first |(refine kE rfl ?_;refine xG ?_) |(refine zm rfl ?_;refine xG ?_))
 refine xC rfl Tryz.func93 rfl (hcb.at [4,5] ⟨bS (c:=c) (aj rfl rfl) (aj rfl rfl),trivial⟩ trivial) ?_
 (refine wP _ _ (aD Tryz.aA rfl rfl rfl rfl rfl [14,29] (aR rfl rfl (Nat.le_refl _) rfl) (bU (lo:=0) rfl rfl (Nat.le_of_eq (Nat.zero_add _)) rfl) rfl (fun _ _=>rfl) (by simp only [maxLen];omega) (by dsimp only;omega)) ?_;refine xZ ?_)
 refine wD (Ends.made (.inr rfl) (aN.D7 (c:=30) (g:=bI (gy (dM c))) rfl ?_) rfl (Nat.le_of_ble_eq_true rfl) rfl)
 rw [vM]
 simp only [Nat.zero_add]
 intro k hk
 refine fO (aK _ _).symm (fun _ _=>rfl) (fun _ _=>rfl) k ?_
 rw [List.length_append,aK]
 exact hk
set_option maxHeartbeats 4000000 in
theorem Hg (c:aT) (h1:c.outs.length≤1000000000) (h2:c.sigs.length≤1000000000) (hc:bM c=false):Reads Tryz.prog 44 [.box (dM c).ac] [] (.tup [.one (.raw (.slice none 0 0)),.one (.raw (.int .i64 1))]):=by
 have hmay:=FN c h1 h2
 rw [hc] at hmay
 refine Reads.of Tryz.aA Tryz.func44 rfl _ _ _ rfl rfl (fun C hC => ?_)
 (replace hC:C.n0=6:=hC;change av _ _ _ ⟨_,_,6⟩ _)
 refine xI ?_
 (refine xB ?_)
 refine xC rfl Tryz.func57 rfl (hmay.at [0,1,2,3,4,5] ⟨jr (t:=dM c) (aj rfl rfl) (aj rfl rfl) (aj rfl rfl) (aj rfl rfl) (aj rfl rfl) (aj rfl rfl),trivial⟩ trivial) ?_
 exact wD (Ends.plain (.inr rfl) rfl rfl)
set_option maxHeartbeats 4000000 in
theorem yT (c:aT) (h1:c.outs.length≤1000000):Reads Tryz.prog 69 [.box c.ac] [] (.tup [(dJ c).x,.one (.raw (.bool (bM (cK c))))]):=by
 refine Reads.of Tryz.aA Tryz.func69 rfl _ _ _ rfl rfl (fun C hC => ?_)
 (replace hC:C.n0=2:=hC;change av _ _ _ ⟨_,_,2⟩ _)
 cases hb:bM (cK c) with
 | false =>
  have hen:=Hg (cK c) (by show c.outs.length≤_;omega) (by show 1≤1000000000;decide) hb
  have hc:dJ c=dB:=by rw [dJ,if_neg (by rw [hb];simp)]
  rw [hc]
  refine xI ?_
  (refine xB ?_)
  refine xC rfl Tryz.func44 rfl (hen.at [0,6] ⟨jr (t:=dM (cK c)) (aY _ _) (aY _ _) (aY _ _) (aY _ _) (aj rfl rfl) (aF (lo:=0) rfl rfl rfl (Nat.le_refl _) (fun i hi=>by obtain rfl:=Nat.lt_one_iff.1 hi;rfl)),trivial⟩ trivial) ?_
  exact wD (Ends.plain (.inr rfl) rfl rfl)
 | true =>
  have hen:=Hl (cK c) hb
  have hlen:=oz (t:=dM (cK c)) hb
  have hc:dJ c=Ea 99 [gy (dM (cK c))]:=by rw [dJ,if_pos hb]
  rw [hc]
  refine xI ?_
  (refine xB ?_)
  refine xC rfl Tryz.func44 rfl (hen.at [0,6] ⟨jr (t:=dM (cK c)) (aY _ _) (aY _ _) (aY _ _) (aY _ _) (aj rfl rfl) (aF (lo:=0) rfl rfl rfl (Nat.le_refl _) (fun i hi=>by obtain rfl:=Nat.lt_one_iff.1 hi;rfl)),trivial⟩ trivial) ?_
  (refine wP _ _ (dQ Tryz.aA rfl rfl rfl) ?_;refine xZ ?_)
  refine xC rfl Tryz.func45 rfl ((jd 99 [gy (dM (cK c))] (qQ _ _ (by omega))).at [11,20] ⟨ah rfl,eD [gy (dM (cK c))] rfl rfl rfl ⟨uz rfl rfl,trivial⟩,trivial⟩ trivial) ?_
  exact wD (Ends.plain (.inr rfl) rfl rfl)
set_option maxRecDepth 100000
open Go.Sx
def Dv (m:H8) (who:List Int) (i:Nat):gP:=⟨who.getD i 0,Km (pY (who.getD i 0)) (i % 8) m⟩
def rA (m:H8) (who:List Int) (i:Nat):List gP:=(List.range i).map (Dv m who)
theorem zV (m:H8) (who:List Int) (i:Nat):(rA m who i).length=i:=by simp [rA]
theorem MN (m:H8) (who:List Int) (i:Nat):rA m who (i + 1)=rA m who i++[Dv m who i]:=by simp [rA,List.range_succ]
theorem Dp {E:Type} [Inhabited E] {c:E→List Value} {l:List E} {x:E} {f:Nat→List Value} {m k:Nat} (hm:m=l.length) (hf:f 0=c x) (hk:k<m + 1):eB (rowOf c l) m f k=rowOf c (l++[x]) k:=by
 subst hm
 simp only [eB,yG]
 by_cases h:k<l.length
 ·rw [decide_eq_true h,cond_true,rowOf,rowOf,List.getD_eq_getElem?_getD,List.getD_eq_getElem?_getD,List.getElem?_append_left h]
 ·obtain rfl:k=l.length:=by omega
  rw [decide_eq_false h,cond_false,Nat.sub_self,hf,rowOf];simp
def Xg (m:H8) (who:List Int) (i:Nat):St :=
 ⟨[none,some (XV.sv (.slc 1 1 0 who.length)),some (XV.sv (.slc 2 1 0 0)),some (XV.sv (.ptr 3 0 0 0)),none,none,none,some (XV.sv (.slc 4 282 0 i)),some (XV.int .i64 i)]++List.replicate 46 none,
  [(1,.ro 1 who.length (dO who)),(2,.ro 1 0 fun _=>[]),(3,.cells 29 (m.cells.map .raw)),(4,.vec 192 282 i (bY (rA m who i)))],5⟩
set_option maxHeartbeats 8000000 in
theorem MO (m:H8) (who:List Int) (hl:who.length≤100):Makes Tryz.prog 70 [.plain m.x,.row 1 who.length (dO who),.row 1 0 fun _=>[]] [] (XV.sv (.slc 0 282 0 who.length)) (.vec 192 282 who.length (bY (rA m who who.length))):=by
 refine Makes.of Tryz.aA Tryz.func70 rfl _ _ _ _ rfl rfl rfl rfl 4 (fun C hC => ?_)
 (replace hC:C.n0=3:=hC;change av _ _ _ ⟨_,_,3⟩ _)
 refine xK 2 ?_
 refine wD <| ak <| av.ent (aN.nO (t:=7) rfl 192 282) <| av.seq ?_
 refine xK 1 ?_
 refine wD <| ak <| av.block ?_
 refine av.loop (α:={ i:Nat // i≤who.length }) (fun i=>Xg m who i.1) (fun i=>who.length - i.1) ⟨0,Nat.zero_le _⟩ ?_ ?_
 ·unfold Xg
  ((try dsimp only);refine aN.dH [0,1,2,3,6] hC ?_ ?_<;>repeat' (first |exact trivial |exact rfl |exact ⟨_,rfl,rfl,rfl,Nat.le_refl _,fun _ _=>rfl⟩ |exact ⟨_,rfl,rfl,rfl,fun _ _=>rfl⟩ |exact ⟨_,rfl,rfl,rfl⟩ |exact ⟨_,rfl,rfl⟩ |refine ⟨_,rfl,rfl,rfl,by omega,fun k hk => ?_⟩ |refine ⟨?_,?_⟩ |fail))
  all_goals exact absurd ‹_<0› (Nat.not_lt_zero _)
 rintro ⟨i,hi⟩
 dsimp only
 unfold Xg
 refine xK 1 ?_
 refine wC (fun h1 => ?_) (fun h1 => ?_)
 ·(refine xG ?_)
  have h1':i<who.length:=xW
  have hw:IntKind.i64.wrap ((i:Int) + 1)=((i + 1:Nat):Int):=xW
  have e8:Int.tmod ((i:Nat):Int) 8=((i % 8:Nat):Int):=rfl
  have hst:=HZ (pY (who.getD i 0)) (i % 8) m (Nat.mod_lt _ (by decide))
  refine wD <| ak <| av.seq <| av.block <| xI ?_
  (refine xB ?_)
  (refine kE ?_ ?_;(first |refine decide_eq_false ?_ |rw [beq_eq_false_iff_ne] |rw [bne_eq_false_iff_eq]);exact xW;refine xG ?_)
  (repeat (refine wN ?_ ?_;exact xW;refine xG ?_))
  simp only [Nat.zero_add,Int.toNat_natCast,e8]
  refine xC rfl Tryz.func118 rfl ((Ke (who.getD i 0)).at [] ⟨ah rfl,trivial⟩ trivial) ?_
  refine xC rfl Tryz.func123 rfl (hst.at [] ⟨ah rfl,ah rfl,ah rfl,trivial⟩ trivial) ?_
  (repeat (refine wN ?_ ?_;exact xW;refine xG ?_))
  simp only [Nat.zero_add,Int.toNat_natCast]
  (refine wP _ _ (aD Tryz.aA rfl rfl rfl rfl rfl [4,44] (aR rfl rfl (Nat.le_refl _) rfl) (bU (lo:=0) rfl rfl (Nat.le_refl _) rfl) rfl (Ig rfl) (by simp only [maxLen];omega) (by dsimp only;omega)) ?_;refine xZ ?_)
  refine wD <| aJ <| ak <| xI ?_
  (refine xB ?_)
  refine wD <| aP ⟨⟨i + 1,h1'⟩,by dsimp only;omega,?_⟩
  rw [hw]
  ((try dsimp only);refine aN.dH [0,1,2,3,45] hC ?_ ?_<;>repeat' (first |exact trivial |exact rfl |exact ⟨_,rfl,rfl,rfl,Nat.le_refl _,fun _ _=>rfl⟩ |exact ⟨_,rfl,rfl,rfl,fun _ _=>rfl⟩ |exact ⟨_,rfl,rfl,rfl⟩ |exact ⟨_,rfl,rfl⟩ |refine ⟨_,rfl,rfl,rfl,by omega,fun k hk => ?_⟩ |refine ⟨?_,?_⟩ |fail))
  rw [MN]
  exact Dp (zV _ _ _).symm rfl hk
 ·(refine xG ?_)
  have h1':i=who.length:=xW
  subst h1'
  refine wD <| bW <| aS <| aI <| ak <| xI ?_
  (refine xB ?_)
  exact wD (Ends.made (.inr rfl) (aN.refl _) rfl (Nat.le_of_ble_eq_true rfl) rfl)
set_option maxRecDepth 100000
open Go.Sx
structure aZ where
 side:Int
 ep:Int
 qual:Int
 am:List Int64
 who:List UInt8
 bend:UInt8
def aZ.XI (p:aZ):List Int:=p.am.map Int64.toInt
def aZ.ac (p:aZ):List AC:=[iC p.side,iC p.ep,iC p.qual,.row 1 p.am.length (dO p.XI),.row 1 p.who.length (bI p.who),.raw (u8 p.bend)]
def IX (p:aZ):Bool:=decide (p.am.length≤30) && decide (p.who.length≤7)
def mE:H8:=⟨101,1,0,0,0,0,0,0⟩
def VQ (q:Int):H8:=⟨114,dn (IntKind.u8.wrap q),0,0,0,0,0,0⟩
def Fg (p:aZ) (i:Nat):dG:=⟨⟨1,dn (IntKind.u8.wrap (i:Int)),0,0,0,0,0,0⟩,p.am.getD i 0⟩
def kM (p:aZ) (i:Nat):List dG:=(List.range i).map (Fg p)
theorem lH (p:aZ) (i:Nat):(kM p i).length=i:=by simp [kM]
theorem JF (p:aZ) (i:Nat):kM p (i + 1)=kM p i++[Fg p i]:=by simp [kM,List.range_succ]
def IY (p:aZ):H8:=if p.bend=1 then { mE with b7:=1 } else mE
def jG (p:aZ):aT:=⟨p.side,p.ep,p.qual,IY p,VQ p.qual,kM p p.am.length,[]⟩
def VG (m:H8):H8:={ m with b0:=dn (fA .xor .u8 (m.b0.toNat:Int) 1) }
theorem Lh (m:H8):(VG m).cells=[.int .u8 (fA .xor .u8 (m.b0.toNat:Int) 1),u8 m.b1,u8 m.b2,u8 m.b3,u8 m.b4,u8 m.b5,u8 m.b6,u8 m.b7]:=by
 show [u8 (dn (fA .xor .u8 (m.b0.toNat:Int) 1)),u8 m.b1,u8 m.b2,u8 m.b3,u8 m.b4,u8 m.b5,u8 m.b6,u8 m.b7]=_
 rw [show u8 (dn (fA .xor .u8 (m.b0.toNat:Int) 1)) = .int .u8 (fA .xor .u8 (m.b0.toNat:Int) 1) from dI _]
def BF (b:UInt8) (m:H8):H8:=if b=2 then VG m else m
def CF (p:aZ):H8:=BF p.bend (dJ (jG p))
def vF (p:aZ) (i:Nat):Int:=((p.who.getD (if p.bend=3 then p.who.length - 1 - i else i) 0).toNat:Int)
def qj (p:aZ) (i:Nat):List Int:=(List.range i).map (vF p)
theorem Uv (p:aZ) (i:Nat):p.XI.getD i 0=(p.am.getD i 0).toInt:=by
 rw [aZ.XI,List.getD_eq_getElem?_getD,List.getElem?_map,List.getD_eq_getElem?_getD]
 cases p.am[i]?<;>rfl
theorem JD (p:aZ) (i:Nat):(Fg p i).cells=[.int .u8 1,.int .u8 (IntKind.u8.wrap (i:Int)),.int .u8 0,.int .u8 0,.int .u8 0,.int .u8 0,.int .u8 0,.int .u8 0,.int .i64 (p.XI.getD i 0)]:=by
 rw [Uv]
 show [u8 1,u8 (dn (IntKind.u8.wrap (i:Int))),u8 0,u8 0,u8 0,u8 0,u8 0,u8 0,i64 (p.am.getD i 0)]=_
 rw [dI];rfl
theorem zn (p:aZ) (i:Nat):(qj p i).length=i:=by simp [qj]
theorem Gd (p:aZ) (i:Nat):qj p (i + 1)=qj p i++[vF p i]:=by simp [qj,List.range_succ]
def bQ (p:aZ):aT:={ jG p with sigs:=rA (CF p) (qj p p.who.length) p.who.length }
set_option maxHeartbeats 4000000 in
theorem OE (p:aZ) (h1:p.am.length≤maxLen) (h2:p.who.length≤maxLen):Reads Tryz.prog 30 [.box p.ac] [] (XV.bool (IX p)):=by
 refine Reads.of Tryz.aA Tryz.func30 rfl _ _ _ rfl rfl (fun C hC => ?_)
 (replace hC:C.n0=2:=hC;change av _ _ _ ⟨_,_,2⟩ _)
 refine xI ?_
 (refine xB ?_)
 refine wC (fun h3 => ?_) (fun h3 => ?_)
 ·(refine xG ?_)
  exact wD (Ends.plain (.inr rfl) rfl (congrArg (fun b:Bool=>XV.bool b) (by have h4:p.am.length≤30:=xW;rw [IX,decide_eq_true h4,Bool.true_and];rw [Bool.eq_iff_iff,decide_eq_true_eq,decide_eq_true_eq];omega)))
 ·(refine xG ?_)
  exact wD (Ends.plain (.inr rfl) rfl (congrArg (fun b:Bool=>XV.bool b) (by have h4:¬ p.am.length≤30:=xW;rw [IX,decide_eq_false h4,Bool.false_and])))
theorem uo:Reads Tryz.prog 33 [] [] (.cv mE.x):=by
 refine Reads.of Tryz.aA Tryz.func33 rfl _ _ _ rfl rfl (fun C hC => ?_)
 (replace hC:C.n0=0:=hC;change av _ _ _ ⟨_,_,0⟩ _)
 refine xI ?_
 (refine xB ?_)
 exact wD (Ends.plain (.inr rfl) rfl rfl)
theorem Ad {b c:UInt8} {n:Int} (h:n=(c.toNat:Int)):(((b.toNat:Nat):Int) == n)=decide (b=c):=by
 rw [Bool.eq_iff_iff,beq_iff_eq,decide_eq_true_eq,h,← UInt8.toNat_inj]
 omega
def mP (p:aZ) (c:aT) (n:Nat):Mem :=
 [(0,.ro 1 p.am.length (dO p.XI)),(1,.ro 1 p.who.length (bI p.who)),(2,.cells 95 (vK 0 p.ac)),(3,.cells 43 (bR pR (.raw (.slice none 0 0)) (.raw (.slice none 0 0)))),(4,.cells 43 (bR c (.slc 5 9 0 n) (.raw (.slice none 0 0)))),(5,.vec 59 9 n (bE (kM p n)))]
def Gl (p:aZ) (i:Nat):aT:=⟨p.side,p.ep,p.qual,mE,VQ p.qual,kM p i,[]⟩
def XT (p:aZ) (o s:SV):List SV:=[.raw (.int .i64 p.side),.raw (.int .i64 p.ep),.raw (.int .i64 p.qual)]++(mE.cells.map .raw++([.raw (.int .u8 114),.raw (.int .u8 (IntKind.u8.wrap p.qual)),.raw (.int .u8 0),.raw (.int .u8 0),.raw (.int .u8 0),.raw (.int .u8 0),.raw (.int .u8 0),.raw (.int .u8 0)]++[o,s]))
theorem UJ (p:aZ) (i:Nat) (o s:SV):bR (Gl p i) o s=XT p o s:=by
 show [.raw (.int .i64 p.side),.raw (.int .i64 p.ep),.raw (.int .i64 p.qual)]++(mE.cells.map .raw++([.raw (u8 114),.raw (u8 (dn (IntKind.u8.wrap p.qual))),.raw (u8 0),.raw (u8 0),.raw (u8 0),.raw (u8 0),.raw (u8 0),.raw (u8 0)]++[o,s]))=_
 rw [dI];rfl
theorem Iu {p:aZ} (h:p.bend=1) (o s:SV):bR (jG p) o s=(bR (Gl p p.am.length) o s).set 10 (.raw (.int .u8 1)):=by
 rw [jG,IY,if_pos h];rfl
theorem Gn {p:aZ} (h:p.bend≠1):jG p=Gl p p.am.length:=by
 rw [jG,IY,if_neg h];rfl
def YO (p:aZ) (i:Nat):St:=⟨[none,some (XV.sv (.ptr 2 0 0 0)),some (XV.sv (.ptr 3 0 0 0)),some (XV.sv (.ptr 4 0 0 0)),some (XV.int .i64 i)]++List.replicate 86 none,mP p (Gl p i) i,6⟩
def Yw (p:aZ):St:=⟨[none,some (XV.sv (.ptr 2 0 0 0)),some (XV.sv (.ptr 3 0 0 0)),some (XV.sv (.ptr 4 0 0 0))]++List.replicate 87 none,mP p (jG p) p.am.length,6⟩
def WG (p:aZ) (m:H8):St:=⟨[none,some (XV.sv (.ptr 2 0 0 0)),some (XV.sv (.ptr 3 0 0 0)),some (XV.sv (.ptr 4 0 0 0)),none,some (XV.sv (.ptr 6 0 0 0))]++List.replicate 85 none,mP p (jG p) p.am.length++[(6,.cells 29 (m.cells.map .raw))],7⟩
def YP (p:aZ) (i:Nat):St:=⟨[none,some (XV.sv (.ptr 2 0 0 0)),some (XV.sv (.ptr 3 0 0 0)),some (XV.sv (.ptr 4 0 0 0)),none,some (XV.sv (.ptr 6 0 0 0)),none,some (XV.sv (.slc 7 1 0 i)),some (XV.int .i64 i)]++List.replicate 82 none,mP p (jG p) p.am.length++[(6,.cells 29 ((CF p).cells.map .raw)),(7,.vec 3 1 i (dO (qj p i)))],8⟩
set_option maxHeartbeats 8000000 in
theorem Cu (p:aZ) (h1:p.am.length≤1000) (h2:p.who.length≤100):Makes Tryz.prog 32 [.box p.ac] [] (.cv (.agg (bR (bQ p) (.ins 0 2 0 p.am.length) (.ins 0 2 1 p.who.length)))) (.abs (mK [.vec 59 9 p.am.length (bE (kM p p.am.length)),.vec 192 282 p.who.length (bY (bQ p).sigs)])):=by
 refine Makes.of Tryz.aA Tryz.func32 rfl _ _ _ _ rfl rfl rfl rfl 20 (fun C hC => ?_)
 (replace hC:C.n0=2:=hC;change av _ _ _ ⟨_,_,2⟩ _)
 refine xK 2 ?_
 refine xC rfl Tryz.func33 rfl (uo.at [] trivial trivial) ?_
 refine wD <| ak <| av.ent (aN.sM (c:=16) (e:=43) (cs:=XT p (.raw (.slice none 0 0)) (.raw (.slice none 0 0))) (j:=19) rfl rfl 59 9) <| av.seq ?_
 refine xK 1 ?_
 refine wD <| ak <| av.block ?_
 refine av.loop (α:={ i:Nat // i≤p.am.length }) (fun i=>YO p i.1) (fun i=>p.am.length - i.1) ⟨0,Nat.zero_le _⟩ ?_ ?_
 ·unfold YO mP
  rw [UJ]
  ((try dsimp only);refine aN.dH [0,1,2,3,16,18] hC ?_ ?_<;>repeat' (first |exact trivial |exact rfl |exact ⟨_,rfl,rfl,rfl,Nat.le_refl _,fun _ _=>rfl⟩ |exact ⟨_,rfl,rfl,rfl,fun _ _=>rfl⟩ |exact ⟨_,rfl,rfl,rfl⟩ |exact ⟨_,rfl,rfl⟩ |refine ⟨_,rfl,rfl,rfl,by omega,fun k hk => ?_⟩ |refine ⟨?_,?_⟩ |fail))
  all_goals exact absurd ‹_<0› (Nat.not_lt_zero _)
 rintro ⟨i,hi⟩
 dsimp only
 unfold YO mP
 refine xK 1 ?_
 refine wC (fun hh => ?_) (fun hh => ?_)
 ·(refine xG ?_)
  have h':i<p.am.length:=xW
  have hw:IntKind.i64.wrap ((i:Int) + 1)=((i + 1:Nat):Int):=xW
  refine wD <| ak <| av.seq <| av.block <| xI ?_
  (refine xB ?_)
  (repeat (refine wN ?_ ?_;exact xW;refine xG ?_))
  simp only [Nat.zero_add,Int.toNat_natCast]
  (refine wP _ _ (aD Tryz.aA rfl rfl rfl rfl rfl [5,22] (aR rfl rfl (Nat.le_refl _) rfl) (bU (lo:=0) rfl rfl (Nat.le_refl _) rfl) rfl (Ig rfl) (by simp only [maxLen];omega) (by dsimp only;omega)) ?_;refine xZ ?_)
  refine wD <| aJ <| ak <| xI ?_
  (refine xB ?_)
  refine wD <| aP ⟨⟨i + 1,h'⟩,by dsimp only;omega,?_⟩
  rw [hw]
  ((try dsimp only);refine aN.dH [0,1,2,3,4,23] hC ?_ ?_<;>repeat' (first |exact trivial |exact rfl |exact ⟨_,rfl,rfl,rfl,Nat.le_refl _,fun _ _=>rfl⟩ |exact ⟨_,rfl,rfl,rfl,fun _ _=>rfl⟩ |exact ⟨_,rfl,rfl,rfl⟩ |exact ⟨_,rfl,rfl⟩ |refine ⟨_,rfl,rfl,rfl,by omega,fun k hk => ?_⟩ |refine ⟨?_,?_⟩ |fail))
  rw [JF]
  exact Dp (lH _ _).symm (JD p i).symm hk
 ·(refine xG ?_)
  have h':i=p.am.length:=xW
  subst h'
  refine wD <| bW <| aS <| aI <| ak <| av.merge (Yw p) (xI ?_) ?_
  ·(refine xB ?_)
   refine wC (fun hb => ?_) (fun hb => ?_)
   ·rw [Ad (n:=1) (c:=1) rfl,decide_eq_true_eq] at hb
    (refine xG ?_)
    refine wD ⟨rfl,?_⟩
    unfold Yw mP
    rw [Iu hb]
    ((try dsimp only);exact xE [0,1,2,3,4,5] hC)
   ·rw [Ad (n:=1) (c:=1) rfl,decide_eq_false_iff_not] at hb
    (refine xG ?_)
    refine wD ⟨rfl,?_⟩
    unfold Yw mP
    rw [Gn hb]
    ((try dsimp only);exact xE [0,1,2,3,4,5] hC)
  have hmsg:=yT (jG p) (by show (kM p p.am.length).length≤_;rw [lH];omega)
  have hm14:CF p=BF p.bend (dJ (jG p)):=rfl
  have clen:(jG p).outs.length=p.am.length:=lH _ _
  unfold Yw mP
  refine xK 1 ?_
  refine xC rfl Tryz.func69 rfl (hmsg.at [5] ⟨bS (c:=jG p) (aF (lo:=0) (lH _ _).symm rfl rfl (Nat.le_of_eq ((Nat.zero_add _).trans clen)) (fun i _=>by rw [Nat.zero_add];rfl)) (aY _ _),trivial⟩ trivial) ?_
  obtain ⟨m,hm⟩:∃ m,dJ (jG p)=m:=⟨_,rfl⟩
  rw [hm] at hm14 ⊢
  refine wD <| ak <| av.ent (S':=WG p m) ?_ ?_
  ·unfold WG mP
   ((try dsimp only);exact xE [0,1,2,3,4,5,11] hC)
  unfold WG mP
  refine av.merge (WG p (CF p)) (xI ?_) ?_
  ·(refine xB ?_)
   refine wC (fun hb => ?_) (fun hb => ?_)
   ·rw [Ad (n:=2) (c:=2) rfl,decide_eq_true_eq] at hb
    (refine xG ?_)
    refine wD ⟨rfl,?_⟩
    unfold WG mP
    rw [hm14,BF,if_pos hb,Lh]
    ((try dsimp only);exact xE [0,1,2,3,4,5,6] hC)
   ·rw [Ad (n:=2) (c:=2) rfl,decide_eq_false_iff_not] at hb
    (refine xG ?_)
    refine wD ⟨rfl,?_⟩
    unfold WG mP
    rw [hm14,BF,if_neg hb]
    ((try dsimp only);exact xE [0,1,2,3,4,5,6] hC)
  unfold WG mP
  refine xK 1 ?_
  refine wD <| ak <| av.ent (aN.nO (t:=7) rfl 3 1) <| av.seq ?_
  refine xK 1 ?_
  refine wD <| ak <| av.block ?_
  refine av.loop (α:={ i:Nat // i≤p.who.length }) (fun i=>YP p i.1) (fun i=>p.who.length - i.1) ⟨0,Nat.zero_le _⟩ ?_ ?_
  ·unfold YP mP
   ((try dsimp only);refine aN.dH [0,1,2,3,4,5,6,8] hC ?_ ?_<;>repeat' (first |exact trivial |exact rfl |exact ⟨_,rfl,rfl,rfl,Nat.le_refl _,fun _ _=>rfl⟩ |exact ⟨_,rfl,rfl,rfl,fun _ _=>rfl⟩ |exact ⟨_,rfl,rfl,rfl⟩ |exact ⟨_,rfl,rfl⟩ |refine ⟨_,rfl,rfl,rfl,by omega,fun k hk => ?_⟩ |refine ⟨?_,?_⟩ |fail))
   all_goals exact absurd ‹_<0› (Nat.not_lt_zero _)
  rintro ⟨i,hi⟩
  dsimp only
  unfold YP mP
  refine xK 1 ?_
  refine wC (fun hh => ?_) (fun hh => ?_)
  ·(refine xG ?_)
   have h':i<p.who.length:=xW
   have hw:IntKind.i64.wrap ((i:Int) + 1)=((i + 1:Nat):Int):=xW
   have hidx:IntKind.i64.wrap (IntKind.i64.wrap ((p.who.length:Int) - 1) - (i:Int))=((p.who.length - 1 - i:Nat):Int):=xW
   have hu:∀ k,IntKind.i64.wrap (((p.who.getD k 0).toNat:Nat):Int)=(((p.who.getD k 0).toNat:Nat):Int):=fun k=>bK (by have:=(p.who.getD k 0).toNat_lt;omega)
   refine wD <| ak <| av.seq <| av.block <| xI ?_
   (refine xB ?_)
   refine wC (fun hb => ?_) (fun hb => ?_)
   ·rw [Ad (n:=3) (c:=3) rfl,decide_eq_true_eq] at hb
    have hwho:vF p i=(((p.who.getD (p.who.length - 1 - i) 0).toNat:Nat):Int):=by rw [vF,if_pos hb]
    (refine xG ?_)
    simp only [hidx]
    (repeat (refine wN ?_ ?_;exact xW;refine xG ?_))
    simp only [Nat.zero_add,Int.toNat_natCast,hu]
    rw [← hwho]
    (refine wP _ _ (aD Tryz.aA rfl rfl rfl rfl rfl [7,32] (aR rfl rfl (Nat.le_refl _) rfl) (bU (lo:=0) rfl rfl (Nat.le_refl _) rfl) rfl xD (by simp only [maxLen];omega) (by dsimp only;omega)) ?_;refine xZ ?_)
    refine wD <| aJ <| ak <| xI ?_
    (refine xB ?_)
    refine wD <| aP ⟨⟨i + 1,h'⟩,by dsimp only;omega,?_⟩
    rw [hw]
    ((try dsimp only);refine aN.dH [0,1,2,3,4,5,6,33] hC ?_ ?_<;>repeat' (first |exact trivial |exact rfl |exact ⟨_,rfl,rfl,rfl,Nat.le_refl _,fun _ _=>rfl⟩ |exact ⟨_,rfl,rfl,rfl,fun _ _=>rfl⟩ |exact ⟨_,rfl,rfl,rfl⟩ |exact ⟨_,rfl,rfl⟩ |refine ⟨_,rfl,rfl,rfl,by omega,fun k hk => ?_⟩ |refine ⟨?_,?_⟩ |fail))
    rw [Gd]
    exact uy (zn _ _).symm (fun _ _=>rfl) rfl hk
   ·rw [Ad (n:=3) (c:=3) rfl,decide_eq_false_iff_not] at hb
    have hwho:vF p i=(((p.who.getD i 0).toNat:Nat):Int):=by rw [vF,if_neg hb]
    (refine xG ?_)
    (repeat (refine wN ?_ ?_;exact xW;refine xG ?_))
    simp only [Nat.zero_add,Int.toNat_natCast,hu]
    rw [← hwho]
    (refine wP _ _ (aD Tryz.aA rfl rfl rfl rfl rfl [7,25] (aR rfl rfl (Nat.le_refl _) rfl) (bU (lo:=0) rfl rfl (Nat.le_refl _) rfl) rfl xD (by simp only [maxLen];omega) (by dsimp only;omega)) ?_;refine xZ ?_)
    refine wD <| aJ <| ak <| xI ?_
    (refine xB ?_)
    refine wD <| aP ⟨⟨i + 1,h'⟩,by dsimp only;omega,?_⟩
    rw [hw]
    ((try dsimp only);refine aN.dH [0,1,2,3,4,5,6,26] hC ?_ ?_<;>repeat' (first |exact trivial |exact rfl |exact ⟨_,rfl,rfl,rfl,Nat.le_refl _,fun _ _=>rfl⟩ |exact ⟨_,rfl,rfl,rfl,fun _ _=>rfl⟩ |exact ⟨_,rfl,rfl,rfl⟩ |exact ⟨_,rfl,rfl⟩ |refine ⟨_,rfl,rfl,rfl,by omega,fun k hk => ?_⟩ |refine ⟨?_,?_⟩ |fail))
    rw [Gd]
    exact uy (zn _ _).symm (fun _ _=>rfl) rfl hk
  ·(refine xG ?_)
   have h':i=p.who.length:=xW
   subst h'
   have hsg:=MO (CF p) (qj p p.who.length) (by rw [zn];exact h2)
   rw [zn] at hsg
   refine wD <| bW <| aS <| aI <| ak <| xI ?_
   (refine xB ?_)
   refine xC rfl Tryz.func70 rfl (hsg.at [7] ⟨ah rfl,aF (lo:=0) rfl rfl rfl (Nat.le_of_eq (Nat.zero_add _)) (fun i _=>by rw [Nat.zero_add]),aY _ _,trivial⟩ trivial) ?_
   refine wD (Ends.made (.inr rfl) (aN.NG [5,15] [.vec 59 9 p.am.length (bE (kM p p.am.length)),.vec 192 282 p.who.length (bY (bQ p).sigs)] (by decide) rfl rfl (fun j i ch hi hj => ?_)) rfl (Nat.le_of_ble_eq_true rfl) rfl)
   rcases j with _ |_ |j
   ·cases hi;cases hj;exact ⟨_,rfl,kZ.refl _ rfl⟩
   ·cases hi;cases hj;exact ⟨_,rfl,kZ.refl _ rfl⟩
   ·cases hi
set_option maxRecDepth 100000
open Go.Sx
theorem NH {l:List (Pt×bF)} {k q:Pt} {v:bF} (h:q≠k):dS (jJ l k v) q=dS l q:=by
 induction l with
 | nil=>simp [jJ,dS,Ne.symm h]
 | cons x r ih =>
  rw [jJ]
  by_cases hx:x.1=k
  ·rw [if_pos hx,dS,dS,if_neg (fun e=>h e.symm),if_neg (fun e=>h (by rw [← hx];exact e.symm))]
  ·rw [if_neg hx,dS,dS,ih]
theorem Po {l:List (Pt×bF)} {k:Pt} {v:bF}:dS (jJ l k v) k=some v:=by
 induction l with
 | nil=>simp [jJ,dS]
 | cons x r ih =>
  rw [jJ]
  by_cases hx:x.1=k
  ·rw [if_pos hx,dS,if_pos rfl]
  ·rw [if_neg hx,dS,if_neg hx,ih]
theorem SB {l:List (Pt×bF)} {k:Pt} {v:bF} (h:dS l k=none):(jJ l k v).length=l.length + 1:=by
 induction l with
 | nil=>rfl
 | cons x r ih =>
  rw [dS] at h
  by_cases hx:x.1=k
  ·rw [if_pos hx] at h;cases h
  ·rw [if_neg hx] at h
   rw [jJ,if_neg hx,List.length_cons,ih h,List.length_cons]
def kY:List dG→Int
 | []=>0
 | o::l=>o.amt.toInt + kY l
theorem tY:∀ {l:List dG},(∀ o∈l,1≤o.amt.toInt)→0≤kY l
 | [],_=>Int.le_refl 0
 | o::l,h=>by
  have h1:=h o (List.mem_cons_self ..)
  have h2:=tY fun o ho=>h o (List.mem_cons_of_mem _ ho)
  rw [kY];omega
def BN (h:Int64) (o:dG):bF:=⟨o.to,o.amt,h,false⟩
theorem G7 {id:H8} {i:Nat} (h:i<1000000):(dz id i).no.toInt=(i:Int):=(oF h).symm
theorem NK {id:H8} {i j:Nat} (hi:i<1000000) (hj:j<1000000) (h:i≠j):dz id i≠dz id j:=by
 intro e
 have h1:=G7 (id:=id) hi
 rw [e,G7 hj] at h1
 omega
theorem WK {S:aB} {p:Pt} {k:bF} (h1:S.has p=false) (h2:0≤p.no.toInt∧p.no.toInt≤255) (h3:1≤k.amt.toInt) (h4:0≤S.total) (h5:S.total + k.amt.toInt≤1125899906842624):S.okB p k=true:=by
 have e:IntKind.i64.wrap (S.total + k.amt.toInt)=S.total + k.amt.toInt:=bK (by omega)
 simp only [aB.okB,h1,iH,kX,e,Bool.and_eq_true,Bool.not_eq_true',decide_eq_false_iff_not,decide_eq_true_eq,Bool.not_false,and_true]
 omega
structure VD (id:H8) (h:Int64) (i:Nat) (l:List dG) (S S':aB):Prop where
 total:S'.total=S.total + kY l
 len:S'.coins.length=S.coins.length + l.length
 steps:S'.steps.length=S.steps.length + l.length
 old:∀ q,(∀ k,k<l.length→q≠dz id (i + k))→dS S'.coins q=dS S.coins q
 new:∀ k,k<l.length→dS S'.coins (dz id (i + k))=some (BN h (l.getD k default))
theorem Fj (id:H8) (h:Int64):∀ (l:List dG) (S:aB) (i:Nat),(∀ o∈l,1≤o.amt.toInt)→0≤S.total→S.total + kY l≤1125899906842624→i + l.length≤256→(∀ k,k<l.length→dS S.coins (dz id (i + k))=none) →
  ∃ S',dX id h false S i l=(S',0)∧VD id h i l S S'
 | [],S,i,_,_,_,_,_=>⟨S,rfl,by simp [kY],rfl,rfl,fun _ _=>rfl,fun k hk=>absurd hk (Nat.not_lt_zero _)⟩
 | o::l,S,i,h1,h2,h3,h4,h5=>by
  have ho:=h1 o (List.mem_cons_self ..)
  have hl:=tY fun o ho=>h1 o (List.mem_cons_of_mem _ ho)
  rw [kY] at h3
  simp only [List.length_cons] at h4
  have h0:dS S.coins (dz id i)=none:=h5 0 (by simp)
  have hh:S.has (dz id i)=false:=by rw [aB.has,h0];rfl
  have hn:(dz id i).no.toInt=(i:Int):=G7 (by omega)
  have hok:S.okB (dz id i) (BN h o)=true:=WK hh (by omega) ho h2 (by show S.total + o.amt.toInt≤_;omega)
  have et:(S.add1 (dz id i) (BN h o)).total=S.total + o.amt.toInt:=bK (show -2 ^ 63≤S.total + o.amt.toInt∧S.total + o.amt.toInt<2 ^ 63 by omega)
  have ec:(S.add1 (dz id i) (BN h o)).coins=jJ S.coins (dz id i) (BN h o):=rfl
  have es:(S.add1 (dz id i) (BN h o)).steps.length=S.steps.length + 1:=by simp [aB.add1]
  obtain ⟨S',r1,r2⟩:=Fj id h l (S.add1 (dz id i) (BN h o)) (i + 1) (fun o ho=>h1 o (List.mem_cons_of_mem _ ho)) (by rw [et];omega) (by rw [et];omega) (by omega) (fun k hk=>by
   rw [ec,NH (NK (by omega) (by omega) (by omega)),show i + 1 + k=i + (k + 1) by omega]
   exact h5 (k + 1) (by simp only [List.length_cons];omega))
  refine ⟨S',?_,?_,?_,?_,?_,?_⟩
  ·rw [dX,if_neg (by rw [hh];simp),if_pos (show S.okB (dz id i) ⟨o.to,o.amt,h,false⟩=true from hok)]
   exact r1
  ·rw [r2.total,et,kY];omega
  ·rw [r2.len,ec,SB h0,List.length_cons];omega
  ·rw [r2.steps,es,List.length_cons];omega
  ·intro q hq
   rw [r2.old q (fun k hk=>by rw [show i + 1 + k=i + (k + 1) by omega];exact hq (k + 1) (by simp only [List.length_cons];omega)),ec]
   exact NH (hq 0 (by simp))
  ·intro k hk
   match k with
   | 0 =>
    rw [Nat.add_zero,r2.old _ (fun k hk=>NK (by omega) (by omega) (by omega)),ec,Po];rfl
   | k + 1 =>
    have:=r2.new k (by simpa using hk)
    rw [show i + (k + 1)=i + 1 + k by omega,this];rfl
def Ep:List Int→Int
 | []=>0
 | a::l=>a + Ep l
theorem Aa:∀ l:List dG,Ep (bV l l.length)=kY l
 | []=>rfl
 | o::l=>by
  have e:bV (o::l) (o::l).length=o.amt.toInt::bV l l.length:=by simp [bV]
  rw [e,Ep,kY,Aa l]
theorem NY:∀ {l:List Int} {acc:Int},0≤acc→(∀ a∈l,0≤a)→acc + Ep l≤1125899906842624→kD acc l=some (acc + Ep l)
 | [],acc,_,_,_=>by simp [kD,Ep]
 | a::l,acc,h1,h2,h3=>by
  have ha:=h2 a (List.mem_cons_self ..)
  have hl:0≤Ep l:=by
   clear h3
   have h4:=fun b hb=>h2 b (List.mem_cons_of_mem a hb)
   clear h2 ha
   induction l with
   | nil=>exact Int.le_refl 0
   | cons b r ih =>
    have:=h4 b (List.mem_cons_self ..)
    have:=ih fun c hc=>h4 c (List.mem_cons_of_mem _ hc)
    rw [Ep];omega
  rw [Ep] at h3
  have e:IntKind.i64.wrap (acc + a)=acc + a:=bK (by omega)
  have hb:iH acc a (acc + a)=true:=by
   simp only [iH,kX,Bool.and_eq_true,decide_eq_true_eq];omega
  rw [kD,e,if_pos hb,NY (by omega) (fun b hb=>h2 b (List.mem_cons_of_mem _ hb)) (by omega),Ep]
  congr 1;omega
theorem QF {l:List dG} {n:Nat} {a:Int} (h:a∈bV l n):∃ o∈l,a=o.amt.toInt:=by
 rw [bV,List.mem_map] at h
 obtain ⟨o,ho,rfl⟩:=h
 exact ⟨o,List.mem_of_mem_take ho,rfl⟩
theorem IB {c:aT} (h1:∀ o∈c.outs,1≤o.amt.toInt) (h2:kY c.outs≤1125899906842624):kD 0 (bV c.outs c.outs.length)=some (kY c.outs):=by
 have:=NY (l:=bV c.outs c.outs.length) (acc:=0) (Int.le_refl 0) (fun a ha=>by obtain ⟨o,ho,rfl⟩:=QF ha;have:=h1 o ho;omega) (by rw [Aa];omega)
 rw [this,Aa,Int.zero_add]
end Go.Proofs.YtnpkdoggfnlapaaGreatDoor
