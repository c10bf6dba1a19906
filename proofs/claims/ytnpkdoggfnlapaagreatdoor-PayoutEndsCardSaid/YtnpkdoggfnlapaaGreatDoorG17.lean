/- Parts Hn Ho Ta Tb Tc. -/
import Derived.Test.YtnpkdoggfnlapaaGreatDoorG16
import Derived.Test.YtnpkdoggfnlapaaGreatDoorG11
set_option linter.unusedSimpArgs false
set_option linter.unusedVariables false
namespace Go.Proofs.YtnpkdoggfnlapaaGreatDoor
set_option maxRecDepth 100000
open Go.Sx
theorem OU {M:Mem} {rd:List Nat} {c off sz sz1 i k cap n:Nat} {f g:Nat→List Value} (hm:M.get c=some (.ro sz n f)) (hrd:gI c rd=true) (hoff:off=i * sz) (hi:i<n) (hl:∀ j,j<k→(g j).length=sz1) (hf:f i=fZ g 0 k):bC M rd (.one (.sla c off sz1 k cap)) (.row sz1 k g):=by
 refine bC.row ?_
 intro β ow w v _ h hr
 have hh:=hr c ((bH c rd).1 hrd) _ hm
 simp only [CV.rel,SV.rel] at h
 obtain ⟨a,h1,h2,h3⟩:=h
 simp only [Holds] at hh
 by_cases hn:(β c).nil=true
 ·rw [if_pos hn] at hh;omega
 rw [if_neg hn] at hh
 refine ⟨(β c).part off cap,?_,?_⟩
 ·have hn':¬ ((β c).part off cap).nil=true:=hn
  simp only [SV.rel]
  rw [if_neg hn']
  refine ⟨a,by rw [h1];simp [Loc.part],by simpa [Loc.part] using h2,fun hl => ?_⟩
  rw [Loc.lI,h3 (by simpa [Loc.part] using hl)]
  simp
 ·unfold ql
  rw [if_neg (show ¬ ((β c).part off cap).nil=true from hn)]
  refine ⟨⟨hh.2.1,.inl hh.1⟩,fun j hj=>⟨hl j hj,fun q u hu => ?_⟩⟩
  obtain ⟨_,e2⟩:=hh.2.2 i hi
  have hq:q<sz1:=by rw [← hl j hj];exact (List.getElem?_eq_some_iff.1 hu).1
  rw [Loc.lI,hoff]
  refine e2 (j * sz1 + q) u ?_
  rw [hf,nk,flat_get hl hj hq]
  exact hu
theorem Gx (n:Nat) (h1:2≤n) (h2:n≤65536):Reads Tryz.prog 195 [.plain (.one (.raw (.int .i64 n)))] [] (XV.int .i64 (aH n)):=by
 refine Reads.of Tryz.aA Tryz.func195 rfl _ _ _ rfl rfl (fun C hC => ?_)
 (replace hC:C.n0=1:=hC;change av _ _ _ ⟨_,_,1⟩ _)
 refine xK 2 ?_
 refine wD <| ak <| av.seq <| av.block ?_
 refine av.loop (α:={ x:Nat×Nat // x.2=2 ^ x.1∧x.2<n }) (fun x=>⟨[some (XV.int .i64 n),none,none,some (XV.int .i64 x.1.2)]++List.replicate 7 none,[],1⟩) (fun x=>n - x.1.2) ⟨(0,1),rfl,by dsimp only;omega⟩ ?_ ?_
 ·exact aN.ren [0] (by decide) rfl (fun i hi=>by replace hi:=Nat.lt_of_lt_of_eq hi hC;revert i;decide) (Nat.le_trans (Nat.le_of_eq hC) (by decide)) rfl (by repeat' (first |exact trivial |exact rfl |refine ⟨?_,?_⟩ |fail)) (by repeat' (first |exact trivial |exact ⟨_,rfl,rfl,rfl,Nat.le_refl _,fun _ _=>rfl⟩ |exact ⟨_,rfl,rfl,rfl,fun _ _=>rfl⟩ |exact ⟨_,rfl,rfl,rfl⟩ |exact ⟨_,rfl,rfl⟩ |refine ⟨?_,?_⟩ |fail))
 rintro ⟨⟨j,p⟩,hp,hn⟩
 dsimp only at hp hn ⊢
 have hp0:0<p:=by rw [hp];exact Nat.two_pow_pos _
 have e1:IntKind.i64.wrap (2 * (p:Int))=((2 * p:Nat):Int):=xW
 refine xK 1 ?_
 simp only [e1]
 refine wC (fun h3 => ?_) (fun h3 => ?_)
 ·have h3':2 * p<n:=xW
  (refine xG ?_)
  refine wD <| ak <| av.block <| xI ?_
  (refine xB ?_)
  simp only [e1]
  refine wD <| aJ <| aP ⟨⟨(j + 1,2 * p),by dsimp only;rw [hp,Nat.pow_succ];omega,h3'⟩,by dsimp only;omega,?_⟩
  exact aN.ren [0] (by decide) rfl (fun i hi=>by replace hi:=Nat.lt_of_lt_of_eq hi hC;revert i;decide) (Nat.le_trans (Nat.le_of_eq hC) (by decide)) rfl (by repeat' (first |exact trivial |exact rfl |refine ⟨?_,?_⟩ |fail)) (by repeat' (first |exact trivial |exact ⟨_,rfl,rfl,rfl,Nat.le_refl _,fun _ _=>rfl⟩ |exact ⟨_,rfl,rfl,rfl,fun _ _=>rfl⟩ |exact ⟨_,rfl,rfl,rfl⟩ |exact ⟨_,rfl,rfl⟩ |refine ⟨?_,?_⟩ |fail))
 ·have h3':n≤2 * p:=xW
  (refine xG ?_)
  refine wD <| bW <| aS <| aI <| ak <| xI ?_
  (refine xB ?_)
  refine wD (Ends.plain (.inr rfl) rfl ?_)
  rw [UU (k:=j) h1 (by omega) (by omega),hp]
set_option maxHeartbeats 1000000 in
theorem tL:∀ (n:Nat),1≤n→n≤65536→∀ h:Nat→H8,Reads Tryz.prog 161 [.row 8 n (bG h)] [] (mO (oK h n))
 | n,h1,h2,h=>by
  refine Reads.of Tryz.aA Tryz.func161 rfl _ _ _ rfl rfl (fun C hC => ?_)
  (replace hC:C.n0=1:=hC;change av _ _ _ ⟨_,_,1⟩ _)
  refine xI ?_
  (refine xB ?_)
  (refine kE ?_ ?_;(first |refine decide_eq_false ?_ |rw [beq_eq_false_iff_ne] |rw [bne_eq_false_iff_eq]);exact xW;refine xG ?_)
  (refine kE ?_ ?_;(first |refine decide_eq_false ?_ |rw [beq_eq_false_iff_ne] |rw [bne_eq_false_iff_eq]);exact xW;refine xG ?_)
  refine wC (fun h3 => ?_) (fun h3 => ?_)
  ·obtain rfl:n=1:=by
    have:(n:Int)=1:=by simpa using h3
    omega
   (refine xG ?_)
   (repeat (refine wN ?_ ?_;exact xW;refine xG ?_))
   (refine wP _ _ (dQ Tryz.aA rfl rfl rfl) ?_;refine xZ ?_)
   refine xC rfl Tryz.func45 rfl ((jd 108 [(h 0).l] (qQ _ _ (by simp [H8.jg]))).at [0,18] ⟨ah rfl,eD [(h 0).l] rfl rfl rfl ⟨OU (i:=0) rfl rfl rfl (by omega) (fun _ _=>rfl) rfl,trivial⟩,trivial⟩ trivial) ?_
   exact wD (Ends.plain (.inr rfl) rfl rfl)
  ·have h3':n≠1:=by
    intro e;subst e;simp at h3
   have a1:=gF n
   have a2:=iR (n:=n) (by omega)
   (refine xG ?_)
   refine xC rfl Tryz.func195 rfl ((Gx n (by omega) h2).at [] ⟨ah rfl,trivial⟩ trivial) ?_
   (repeat (refine wN ?_ ?_;exact xW;refine xG ?_))
   refine xC rfl Tryz.func161 rfl ((tL (aH n) a1 (by omega) h).at [0] ⟨jq rfl rfl (by omega) (fun i _=>by rw [Nat.zero_add]),trivial⟩ trivial) ?_
   (repeat (refine wN ?_ ?_;exact xW;refine xG ?_))
   simp only [Nat.zero_add,Int.toNat_natCast]
   refine xC rfl Tryz.func161 rfl ((tL (n - aH n) (by omega) (by omega) (fun i=>h (aH n + i))).at [0] ⟨jq (lo:=aH n) rfl rfl (by omega) (fun i _=>rfl),trivial⟩ trivial) ?_
   refine xC rfl Tryz.func182 rfl ((Dq 109 (oK h (aH n)) (oK (fun i=>h (aH n + i)) (n - aH n))).at [] ⟨ah rfl,ah rfl,ah rfl,trivial⟩ trivial) ?_
   refine wD (Ends.plain (.inr rfl) rfl ?_)
   rw [j3 (n:=n) (by omega) h]
   rfl
 termination_by n=>n
def Az (h:Nat→H8) (n i:Nat):Nat→H8:=fun k=>(lJ h n i).getD k dB
def Mc (L:Nat) (p:Nat→H8):St :=
 ⟨[none,none,none,none,some (XV.sv (.slc 2 8 0 L)),some (XV.bool true)]++List.replicate 59 none,[(2,.vec 29 8 L (bG p))],3⟩
theorem EW {l:List H8} {x:H8} {L k:Nat} {f:Nat→List Value} (hL:L=l.length) (hf:f 0=x.cells) (hk:k<L + 1):eB (bG fun k=>l.getD k dB) L f k=bG (fun k=>(l++[x]).getD k dB) k:=by
 subst hL
 simp only [eB,yG]
 by_cases h:k<l.length
 ·simp [h,bG,List.getD_eq_getElem?_getD,List.getElem?_append_left h]
 ·obtain rfl:k=l.length:=by omega
  simp [bG,hf]
set_option maxHeartbeats 1000000 in
theorem zQ:∀ (n:Nat),n≤65536→∀ (h:Nat→H8) (i:Nat),i<n→Makes Tryz.prog 166 [.row 8 n (bG h),.plain (.one (.raw (.int .i64 i)))] [] (.tup [.one (.slc 0 8 0 (bN i n).length),.one (.raw (.bool true))]) (.vec 29 8 (bN i n).length (bG (Az h n i)))
 | n,h2,h,i,hi=>by
  refine Makes.of Tryz.aA Tryz.func166 rfl _ _ _ _ rfl rfl rfl rfl 2 (fun C hC => ?_)
  (replace hC:C.n0=2:=hC;change av _ _ _ ⟨_,_,2⟩ _)
  refine xI ?_
  (refine xB ?_)
  (refine kE ?_ ?_;(first |refine decide_eq_false ?_ |rw [beq_eq_false_iff_ne] |rw [bne_eq_false_iff_eq]);exact xW;refine xG ?_)
  (refine kE ?_ ?_;(first |refine decide_eq_false ?_ |rw [beq_eq_false_iff_ne] |rw [bne_eq_false_iff_eq]);exact xW;refine xG ?_)
  (refine kE ?_ ?_;(first |refine decide_eq_false ?_ |rw [beq_eq_false_iff_ne] |rw [bne_eq_false_iff_eq]);exact xW;refine xG ?_)
  refine wC (fun h3 => ?_) (fun h3 => ?_)
  ·obtain rfl:n=1:=by
    have:(n:Int)=1:=by simpa using h3
    omega
   (refine xG ?_)
   refine wD (Ends.made (S':=Mc 0 (Az h 1 i)) (.inr rfl) ((aN.nO (t:=4) rfl 29 8).trans ?_) rfl (Nat.le_refl _) (by rw [nV (Nat.le_refl _)];rfl))
   ((try dsimp only);refine aN.dH [0,1,22] hC ?_ ?_<;>repeat' (first |exact trivial |exact rfl |exact ⟨_,rfl,rfl,rfl,Nat.le_refl _,fun _ _=>rfl⟩ |exact ⟨_,rfl,rfl,rfl,fun _ _=>rfl⟩ |exact ⟨_,rfl,rfl,rfl⟩ |exact ⟨_,rfl,rfl⟩ |refine ⟨_,rfl,rfl,rfl,by omega,fun k hk => ?_⟩ |refine ⟨?_,?_⟩ |fail))
   exact absurd hk (Nat.not_lt_zero _)
  ·have h3':n≠1:=by
    intro e;subst e;simp at h3
   have a1:=gF n
   have a2:=iR (n:=n) (by omega)
   have b1:=pI n i
   (refine xG ?_)
   refine xC rfl Tryz.func195 rfl ((Gx n (by omega) h2).at [] ⟨ah rfl,trivial⟩ trivial) ?_
   refine wC (fun h4 => ?_) (fun h4 => ?_)
   ·have h4':i<aH n:=xW
    have ht:=iy (i:=i) (n:=n) (by omega)
    have hp:=oI (h:=h) (i:=i) (n:=n) (by omega)
    rw [if_pos h4'] at ht hp
    have ht':(bN i n).length=(bN i (aH n)).length + 1:=by rw [ht];simp
    (refine xG ?_)
    (repeat (refine wN ?_ ?_;exact xW;refine xG ?_))
    refine xC rfl Tryz.func166 rfl ((zQ (aH n) (by omega) h i h4').at [0] ⟨jq rfl rfl (by omega) (fun i _=>by rw [Nat.zero_add]),ah rfl,trivial⟩ trivial) ?_
    (repeat (refine wN ?_ ?_;exact xW;refine xG ?_))
    simp only [Nat.zero_add,Int.toNat_natCast]
    refine xC rfl Tryz.func161 rfl ((tL (n - aH n) (by omega) (by omega) (fun i=>h (aH n + i))).at [0] ⟨jq (lo:=aH n) rfl rfl (by omega) (fun i _=>rfl),trivial⟩ trivial) ?_
    (refine wP _ _ (aD Tryz.aA rfl rfl rfl rfl rfl [31,42] (aR rfl rfl (Nat.le_refl _) rfl) (bU (lo:=0) rfl rfl (Nat.le_refl _) rfl) rfl (Ig rfl) (by simp only [maxLen];omega) (by dsimp only;omega)) ?_;refine xZ ?_)
    refine wD (Ends.made (S':=Mc (bN i n).length (Az h n i)) (.inr rfl) ?_ rfl (Nat.le_refl _) rfl)
    rw [ht']
    ((try dsimp only);refine aN.dH [0,1,43] hC ?_ ?_<;>repeat' (first |exact trivial |exact rfl |exact ⟨_,rfl,rfl,rfl,Nat.le_refl _,fun _ _=>rfl⟩ |exact ⟨_,rfl,rfl,rfl,fun _ _=>rfl⟩ |exact ⟨_,rfl,rfl,rfl⟩ |exact ⟨_,rfl,rfl⟩ |refine ⟨_,rfl,rfl,rfl,by omega,fun k hk => ?_⟩ |refine ⟨?_,?_⟩ |fail))
    unfold Az
    rw [hp]
    exact EW (fF _ _ _).symm rfl hk
   ·have h4':aH n≤i:=xW
    have ht:=iy (i:=i) (n:=n) (by omega)
    have hp:=oI (h:=h) (i:=i) (n:=n) (by omega)
    rw [if_neg (by omega)] at ht hp
    have ht':(bN i n).length=(bN (i - aH n) (n - aH n)).length + 1:=by rw [ht];simp
    have w1:IntKind.i64.wrap ((i:Int) - (aH n:Int))=((i - aH n:Nat):Int):=xW
    (refine xG ?_)
    (repeat (refine wN ?_ ?_;exact xW;refine xG ?_))
    simp only [w1,Nat.zero_add,Int.toNat_natCast]
    refine xC rfl Tryz.func166 rfl ((zQ (n - aH n) (by omega) (fun i=>h (aH n + i)) (i - aH n) (by omega)).at [0] ⟨jq (lo:=aH n) rfl rfl (by omega) (fun i _=>rfl),ah rfl,trivial⟩ trivial) ?_
    (repeat (refine wN ?_ ?_;exact xW;refine xG ?_))
    refine xC rfl Tryz.func161 rfl ((tL (aH n) a1 (by omega) h).at [0] ⟨jq rfl rfl (by omega) (fun i _=>by rw [Nat.zero_add]),trivial⟩ trivial) ?_
    (refine wP _ _ (aD Tryz.aA rfl rfl rfl rfl rfl [33,44] (aR rfl rfl (Nat.le_refl _) rfl) (bU (lo:=0) rfl rfl (Nat.le_refl _) rfl) rfl (Ig rfl) (by simp only [maxLen];omega) (by dsimp only;omega)) ?_;refine xZ ?_)
    refine wD (Ends.made (S':=Mc (bN i n).length (Az h n i)) (.inr rfl) ?_ rfl (Nat.le_refl _) rfl)
    rw [ht']
    ((try dsimp only);refine aN.dH [0,1,45] hC ?_ ?_<;>repeat' (first |exact trivial |exact rfl |exact ⟨_,rfl,rfl,rfl,Nat.le_refl _,fun _ _=>rfl⟩ |exact ⟨_,rfl,rfl,rfl,fun _ _=>rfl⟩ |exact ⟨_,rfl,rfl,rfl⟩ |exact ⟨_,rfl,rfl⟩ |refine ⟨_,rfl,rfl,rfl,by omega,fun k hk => ?_⟩ |refine ⟨?_,?_⟩ |fail))
    unfold Az
    rw [hp]
    exact EW (fF _ _ _).symm rfl hk
 termination_by n=>n
set_option maxHeartbeats 1000000 in
theorem M4 (x:H8) (p:Nat→H8):∀ (L:Nat),L≤1000000000→∀ (i n:Nat),i<n→n≤65536→Reads Tryz.prog 239 [.plain x.x,.plain (.one (.raw (.int .i64 i))),.plain (.one (.raw (.int .i64 n))),.row 8 L (bG p)] [] (.tup [(DY x p L i n).1.x,.one (.raw (.bool (DY x p L i n).2))])
 | L,hL,i,n,hi,h2=>by
  refine Reads.of Tryz.aA Tryz.func239 rfl _ _ _ rfl rfl (fun C hC => ?_)
  (replace hC:C.n0=4:=hC;change av _ _ _ ⟨_,_,4⟩ _)
  refine xI ?_
  (refine xB ?_)
  refine wC (fun h3 => ?_) (fun h3 => ?_)
  ·obtain rfl:n=1:=by
    have:(n:Int)=1:=by simpa using h3
    omega
   (refine xG ?_)
   (refine wP _ _ (dQ Tryz.aA rfl rfl rfl) ?_;refine xZ ?_)
   refine xC rfl Tryz.func45 rfl ((jd 108 [x.l] (qQ _ _ (by simp [H8.jg]))).at [4,10] ⟨ah rfl,eD [x.l] rfl rfl rfl ⟨eX rfl rfl (fun _ _=>rfl) rfl,trivial⟩,trivial⟩ trivial) ?_
   refine wD (Ends.plain (.inr rfl) rfl ?_)
   have e:DY x p L i 1=(yh x,decide (L=0)):=by cases L<;>(rw [DY,if_pos rfl])
   have e2:((L:Int) == 0)=decide (L=0):=by
    rw [Bool.eq_iff_iff];simp
   rw [e,e2]
   rfl
  ·have h3':n≠1:=by
    intro e;subst e;simp at h3
   have a1:=gF n
   have a2:=iR (n:=n) (by omega)
   (refine xG ?_)
   refine wC (fun h4 => ?_) (fun h4 => ?_)
   ·obtain rfl:L=0:=by
     have:(L:Int)=0:=by simpa using h4
     omega
    (refine xG ?_)
    refine wD (Ends.plain (.inr rfl) rfl ?_)
    rw [DY,if_neg h3']
    rfl
   ·obtain ⟨L',rfl⟩:∃ L',L=L' + 1:=⟨L - 1,by
     have:L≠0:=by intro e;subst e;simp at h4
     omega⟩
    have w0:IntKind.i64.wrap (((L' + 1:Nat):Int) - 1)=((L':Nat):Int):=xW
    (refine xG ?_)
    refine xC rfl Tryz.func195 rfl ((Gx n (by omega) h2).at [] ⟨ah rfl,trivial⟩ trivial) ?_
    simp only [w0]
    refine wC (fun h5 => ?_) (fun h5 => ?_)
    ·have h5':i<aH n:=xW
     (refine xG ?_)
     (repeat (refine wN ?_ ?_;exact xW;refine xG ?_))
     refine xC rfl Tryz.func239 rfl ((M4 x p L' (by omega) i (aH n) h5' (by omega)).at [3] ⟨ah rfl,ah rfl,ah rfl,jq rfl rfl (by omega) (fun i _=>by rw [Nat.zero_add]),trivial⟩ trivial) ?_
     (repeat (refine wN ?_ ?_;exact xW;refine xG ?_))
     simp only [Nat.zero_add,Int.toNat_natCast]
     refine xC rfl Tryz.func182 rfl ((Dq 109 (DY x p L' i (aH n)).1 (p L')).at [] ⟨ah rfl,ah rfl,ah rfl,trivial⟩ trivial) ?_
     refine wD (Ends.plain (.inr rfl) rfl ?_)
     rw [DY,if_neg h3']
     simp only [if_pos h5']
     rfl
    ·have h5':aH n≤i:=xW
     have w1:IntKind.i64.wrap ((i:Int) - (aH n:Int))=((i - aH n:Nat):Int):=xW
     have w2:IntKind.i64.wrap ((n:Int) - (aH n:Int))=((n - aH n:Nat):Int):=xW
     (refine xG ?_)
     (repeat (refine wN ?_ ?_;exact xW;refine xG ?_))
     simp only [w1,w2]
     refine xC rfl Tryz.func239 rfl ((M4 x p L' (by omega) (i - aH n) (n - aH n) (by omega) (by omega)).at [3] ⟨ah rfl,ah rfl,ah rfl,jq rfl rfl (by omega) (fun i _=>by rw [Nat.zero_add]),trivial⟩ trivial) ?_
     (repeat (refine wN ?_ ?_;exact xW;refine xG ?_))
     simp only [Nat.zero_add,Int.toNat_natCast]
     refine xC rfl Tryz.func182 rfl ((Dq 109 (p L') (DY x p L' (i - aH n) (n - aH n)).1).at [] ⟨ah rfl,ah rfl,ah rfl,trivial⟩ trivial) ?_
     refine wD (Ends.plain (.inr rfl) rfl ?_)
     rw [DY,if_neg h3']
     simp only [if_neg (show ¬ i<aH n by omega)]
     rfl
 termination_by L=>L
theorem Gs (root x:H8) (i n L:Nat) (p:Nat→H8) (hi:i<n) (hn:n≤65536) (hL:L≤1000000000):Reads Tryz.prog 219 [.plain root.x,.plain x.x,.plain (.one (.raw (.int .i64 i))),.plain (.one (.raw (.int .i64 n))),.row 8 L (bG p)] [] (XV.bool (leads root x i n p L)):=by
 refine Reads.of Tryz.aA Tryz.func219 rfl _ _ _ rfl rfl (fun C hC => ?_)
 (replace hC:C.n0=5:=hC;change av _ _ _ ⟨_,_,5⟩ _)
 refine xI ?_
 (refine xB ?_)
 (refine kE ?_ ?_;(first |refine decide_eq_false ?_ |rw [beq_eq_false_iff_ne] |rw [bne_eq_false_iff_eq]);exact xW;refine xG ?_)
 (refine kE ?_ ?_;(first |refine decide_eq_false ?_ |rw [beq_eq_false_iff_ne] |rw [bne_eq_false_iff_eq]);exact xW;refine xG ?_)
 (refine kE ?_ ?_;(first |refine decide_eq_false ?_ |rw [beq_eq_false_iff_ne] |rw [bne_eq_false_iff_eq]);exact xW;refine xG ?_)
 (refine kE ?_ ?_;(first |refine decide_eq_false ?_ |rw [beq_eq_false_iff_ne] |rw [bne_eq_false_iff_eq]);exact xW;refine xG ?_)
 refine xC rfl Tryz.func239 rfl ((M4 x p L hL i n hi hn).at [4] ⟨ah rfl,ah rfl,ah rfl,jq rfl rfl (by omega) (fun i _=>by rw [Nat.zero_add]),trivial⟩ trivial) ?_
 rw [← Qk root x p L hi]
 refine wC (fun h1 => ?_) (fun h1 => ?_)
 ·(refine xG ?_)
  (refine wP _ _ (uW pV rfl (DY x p L i n).1 root rfl rfl) ?_;refine xZ ?_)
  exact wD (Ends.plain (.inr rfl) rfl (by rw [h1];rfl))
 ·(refine xG ?_)
  exact wD (Ends.plain (.inr rfl) rfl (by rw [h1];rfl))
set_option maxRecDepth 100000
open Go.Sx
structure kF where
 idx:Int
 opn:Nat→H8
 shut:Nat→H8
 path:Nat→H8
def kF.cells (s:kF):List Value := .int .i64 s.idx::(fZ (bG s.opn) 0 16++fZ (bG s.shut) 0 16++fZ (bG s.path) 0 3)
def kF.x (s:kF):CV := .agg (s.cells.map .raw)
theorem BD {mk mk':Nat→Nat→H8} (h:∀ i,i<16→∀ b,b<2→mk i b=mk' i b):∀ n,n≤16→oP mk n=oP mk' n
 | 0,_=>rfl
 | n + 1,hn=>by simp only [oP];rw [BD h n (by omega),h n (by omega) 0 (by decide),h n (by omega) 1 (by decide)]
theorem Mg {mk mk':Nat→Nat→H8} (h:∀ i,i<16→∀ b,b<2→mk i b=mk' i b):zR mk=zR mk':=by
 unfold zR;rw [BD h 16 (Nat.le_refl _)]
def Dc (seed:H8) (k:Nat):H8:=zR fun i b=>nM (mZ seed (k:Int) (i:Int) (b:Int))
theorem Df (seed:H8) (k:Nat) (m:H8):zR (dF m (vw seed (k:Int) m) (vD seed (k:Int) m))=Dc seed k:=by
 refine Mg fun i _ b hb => ?_
 unfold dF vw vD
 have h2:=qp m i
 split
 ·rename_i e;rw [e]
 ·have:b=1 - oh m i:=by omega
  rw [this]
theorem OO {g:Nat→H8} {f:Nat→List Value} {L k:Nat} (hf:f 0=(g L).cells) (hk:k<L + 1):eB (bG g) L f k=bG g k:=by
 simp only [eB,yG]
 by_cases h:k<L
 ·simp [h]
 ·obtain rfl:k=L:=by omega
  simp [hf,bG]
def WT (seed:H8) (k:Nat):St :=
 ⟨[none,some (XV.sv (.ptr 1 0 0 0)),none,some (XV.sv (.slc 2 8 0 k)),some (XV.int .i64 k)]++List.replicate 21 none,
  [(1,.cells 29 (seed.cells.map .raw)),(2,.vec 29 8 k (bG (Dc seed)))],3⟩
set_option maxHeartbeats 2000000 in
theorem AA (seed:H8):Makes Tryz.prog 162 [.plain seed.x] [] (XV.sv (.slc 0 8 0 8)) (.vec 29 8 8 (bG (Dc seed))):=by
 refine Makes.of Tryz.aA Tryz.func162 rfl _ _ _ _ rfl rfl rfl rfl 2 (fun C hC => ?_)
 (replace hC:C.n0=1:=hC;change av _ _ _ ⟨_,_,1⟩ _)
 refine xK 2 ?_
 refine wD <| ak <| av.ent (aN.nO (t:=3) rfl 29 8) <| av.seq ?_
 refine xK 1 ?_
 refine wD <| ak <| av.block ?_
 refine av.loop (α:={ k:Nat // k≤8 }) (fun k=>WT seed k.1) (fun k=>8 - k.1) ⟨0,Nat.zero_le _⟩ ?_ ?_
 ·((try dsimp only);refine aN.dH [0,1,4] hC ?_ ?_<;>repeat' (first |exact trivial |exact rfl |exact ⟨_,rfl,rfl,rfl,Nat.le_refl _,fun _ _=>rfl⟩ |exact ⟨_,rfl,rfl,rfl,fun _ _=>rfl⟩ |exact ⟨_,rfl,rfl,rfl⟩ |exact ⟨_,rfl,rfl⟩ |refine ⟨_,rfl,rfl,rfl,by omega,fun k hk => ?_⟩ |refine ⟨?_,?_⟩ |fail))
  exact absurd hk (Nat.not_lt_zero _)
 rintro ⟨k,hk⟩
 dsimp only
 refine xK 1 ?_
 refine wC (fun h1 => ?_) (fun h1 => ?_)
 ·(refine xG ?_)
  have h1':k<8:=xW
  have hw:IntKind.i64.wrap ((k:Int) + 1)=((k + 1:Nat):Int):=xW
  refine wD <| ak <| av.seq <| av.block <| xI ?_
  (refine xB ?_)
  refine xC rfl Tryz.func165 rfl ((Kn seed (k:Int) dB).at [] ⟨ah rfl,ah rfl,ah rfl,trivial⟩ trivial) ?_
  refine xC rfl Tryz.func196 rfl ((AP dB (vw seed (k:Int) dB) (vD seed (k:Int) dB)).at [] ⟨ah rfl,ah rfl,ah rfl,trivial⟩ trivial) ?_
  (refine wP _ _ (aD Tryz.aA rfl rfl rfl rfl rfl [2,21] (aR rfl rfl (Nat.le_refl _) rfl) (bU (lo:=0) rfl rfl (Nat.le_refl _) rfl) rfl (Ig rfl) (by simp only [maxLen];omega) (by dsimp only;omega)) ?_;refine xZ ?_)
  refine wD <| aJ <| ak <| xI ?_
  (refine xB ?_)
  refine wD <| aP ⟨⟨k + 1,h1'⟩,by dsimp only;omega,?_⟩
  rw [hw]
  ((try dsimp only);refine aN.dH [0,1,22] hC ?_ ?_<;>repeat' (first |exact trivial |exact rfl |exact ⟨_,rfl,rfl,rfl,Nat.le_refl _,fun _ _=>rfl⟩ |exact ⟨_,rfl,rfl,rfl,fun _ _=>rfl⟩ |exact ⟨_,rfl,rfl,rfl⟩ |exact ⟨_,rfl,rfl⟩ |refine ⟨_,rfl,rfl,rfl,by omega,fun k hk => ?_⟩ |refine ⟨?_,?_⟩ |fail))
  rename_i j hj
  exact OO (g:=Dc seed) (L:=j) (congrArg H8.cells (Df seed j dB)) hk
 ·(refine xG ?_)
  have h1':k=8:=xW
  subst h1'
  refine wD <| bW <| aS <| aI <| ak <| xI ?_
  (refine xB ?_)
  exact wD (Ends.made (.inr rfl) (aN.refl _) rfl (Nat.le_succ _) rfl)
def vE (seed:H8):H8:=oK (Dc seed) 8
theorem TV (seed:H8):Reads Tryz.prog 117 [.plain seed.x] [] (mO (vE seed)):=by
 refine Reads.of Tryz.aA Tryz.func117 rfl _ _ _ rfl rfl (fun C hC => ?_)
 (replace hC:C.n0=1:=hC;change av _ _ _ ⟨_,_,1⟩ _)
 refine xI ?_
 (refine xB ?_)
 refine xC rfl Tryz.func162 rfl ((AA seed).at [] ⟨ah rfl,trivial⟩ trivial) ?_
 refine xC rfl Tryz.func161 rfl ((tL 8 (by decide) (by decide) (Dc seed)).at [4] ⟨jN (lo:=0) rfl rfl (by decide) (fun i _=>by rw [Nat.zero_add]),trivial⟩ trivial) ?_
 exact wD (Ends.plain (.inr rfl) rfl rfl)
def Km (seed:H8) (i:Nat) (m:H8):kF:=⟨(i:Int),vw seed (i:Int) m,vD seed (i:Int) m,Az (Dc seed) 8 i⟩
theorem Ue {i:Nat} (hi:i<8):(bN i 8).length=3:=by
 have h:∀ i,i<8→(bN i 8).length=3:=by decide
 exact h i hi
set_option maxHeartbeats 4000000 in
theorem HZ (seed:H8) (i:Nat) (m:H8) (hi:i<8):Reads Tryz.prog 123 [.plain seed.x,.plain (.one (.raw (.int .i64 i))),.plain m.x] [] (.tup [(Km seed i m).x,.one (.raw (.bool true))]):=by
 refine Reads.of Tryz.aA Tryz.func123 rfl _ _ _ rfl (by simp only [XV.ok,List.all_cons,List.all_nil,Bool.and_true,Bool.and_eq_true];exact ⟨jy _ _,rfl⟩) (fun C hC => ?_)
 (replace hC:C.n0=3:=hC;change av _ _ _ ⟨_,_,3⟩ _)
 have h3:=Ue hi
 refine xI ?_
 (refine xB ?_)
 (refine kE ?_ ?_;(first |refine decide_eq_false ?_ |rw [beq_eq_false_iff_ne] |rw [bne_eq_false_iff_eq]);exact xW;refine xG ?_)
 (refine kE ?_ ?_;(first |refine decide_eq_false ?_ |rw [beq_eq_false_iff_ne] |rw [bne_eq_false_iff_eq]);exact xW;refine xG ?_)
 refine xC rfl Tryz.func165 rfl ((Kn seed (i:Int) m).at [] ⟨ah rfl,ah rfl,ah rfl,trivial⟩ trivial) ?_
 refine xC rfl Tryz.func162 rfl ((AA seed).at [] ⟨ah rfl,trivial⟩ trivial) ?_
 refine xC rfl Tryz.func166 rfl ((zQ 8 (by decide) (Dc seed) i hi).at [29] ⟨jN (lo:=0) rfl rfl (by decide) (fun i _=>by rw [Nat.zero_add]),ah rfl,trivial⟩ trivial) ?_
 rw [h3]
 (refine wP _ _ (Bp Tryz.aA (k:=3) (m:=3) (g:=bG (Az (Dc seed) 8 i)) [15,31] rfl rfl rfl rfl rfl (by decide) rfl rfl (bU (lo:=0) rfl rfl (Nat.le_refl _) rfl) rfl (by decide) (Nat.le_of_ble_eq_true rfl) (fun _ _=>rfl) rfl) ?_;refine xZ ?_)
 exact wD (Ends.plain (.inr rfl) rfl rfl)
def vN (root m:H8) (s:kF):Bool:=decide (0≤s.idx) && (decide (s.idx<8) && leads root (zR (dF m s.opn s.shut)) s.idx.toNat 8 s.path 3)
theorem El (seed:H8) (i:Nat) (hi:i<8) (m:H8):vN (vE seed) m (Km seed i m)=true:=by
 unfold vN Km
 have h1:(0:Int)≤(i:Int):=Int.natCast_nonneg _
 have h2:(i:Int)<8:=by omega
 simp only [h1,h2,decide_true,Bool.true_and,Int.toNat_natCast]
 refine LC (Dc seed) hi (Df seed i m) rfl ?_ (fun k _=>rfl)
 rw [fF,Ue hi]
set_option maxHeartbeats 2000000 in
theorem Lx (root m:H8) (s:kF):Reads Tryz.prog 197 [.plain root.x,.plain m.x,.plain s.x] [bJ] (XV.bool (vN root m s)):=by
 refine Reads.of Tryz.aA Tryz.func197 rfl _ _ _ (by simp only [jl,AD.plain,List.all_cons,List.all_nil,Bool.and_true,Bool.and_eq_true];exact ⟨rfl,rfl,jy _ _⟩) rfl (fun C hC => ?_)
 (replace hC:C.n0=4:=hC;change av _ _ _ ⟨_,_,4⟩ _)
 refine xI ?_
 (refine xB ?_)
 refine wC (fun h1 => ?_) (fun h1 => ?_)
 ·have h1':0≤s.idx:=of_decide_eq_true h1
  (refine xG ?_)
  refine wC (fun h2 => ?_) (fun h2 => ?_)
  ·have h2':s.idx<8:=of_decide_eq_true h2
   have hn:((s.idx.toNat:Nat):Int)=s.idx:=by omega
   (refine xG ?_)
   refine xC rfl Tryz.func218 rfl ((Jk m s.opn s.shut).at [3] ⟨ah rfl,ah rfl,ah rfl,trivial⟩ ⟨bD (c:=3) rfl rfl,trivial⟩) ?_
   refine xC rfl Tryz.func217 rfl ((LQ root (zR (dF m s.opn s.shut)) s.idx.toNat 8 3 s.path (by omega) (by decide) (by decide)).at [3,6] ⟨ah rfl,ah rfl,by rw [hn];exact ah rfl,ah rfl,eX rfl rfl (fun _ _=>rfl) rfl,trivial⟩ ⟨bD (c:=3) rfl rfl,trivial⟩) ?_
   refine wD (Ends.plain (.inr rfl) rfl ?_)
   rw [vN,h1,h2,Bool.true_and,Bool.true_and]
  ·(refine xG ?_)
   refine wD (Ends.plain (.inr rfl) rfl ?_)
   rw [vN,h2,Bool.false_and,Bool.and_false]
 ·(refine xG ?_)
  refine wD (Ends.plain (.inr rfl) rfl ?_)
  rw [vN,h1,Bool.false_and]
set_option maxHeartbeats 2000000 in
theorem D6 (root m:H8) (s:kF):Reads Tryz.prog 201 [.plain root.x,.plain m.x,.plain s.x] [] (XV.bool (vN root m s)):=by
 refine Reads.of Tryz.aA Tryz.func201 rfl _ _ _ (by simp only [jl,AD.plain,List.all_cons,List.all_nil,Bool.and_true,Bool.and_eq_true];exact ⟨rfl,rfl,jy _ _⟩) rfl (fun C hC => ?_)
 (replace hC:C.n0=3:=hC;change av _ _ _ ⟨_,_,3⟩ _)
 refine xI ?_
 (refine xB ?_)
 refine wC (fun h1 => ?_) (fun h1 => ?_)
 ·have h1':s.idx<0:=of_decide_eq_true h1
  (refine xG ?_)
  refine wD (Ends.plain (.inr rfl) rfl ?_)
  rw [vN,decide_eq_false (by omega),Bool.false_and]
 ·have h1':0≤s.idx:=by have:=of_decide_eq_false h1;omega
  (refine xG ?_)
  refine wC (fun h2 => ?_) (fun h2 => ?_)
  ·have h2':8≤s.idx:=of_decide_eq_true h2
   (refine xG ?_)
   refine wD (Ends.plain (.inr rfl) rfl ?_)
   rw [vN,decide_eq_false (show ¬ s.idx<8 by omega),Bool.false_and,Bool.and_false]
  ·have h2':s.idx<8:=by have:=of_decide_eq_false h2;omega
   have hn:((s.idx.toNat:Nat):Int)=s.idx:=by omega
   (refine xG ?_)
   refine xC rfl Tryz.func196 rfl ((AP m s.opn s.shut).at [] ⟨ah rfl,ah rfl,ah rfl,trivial⟩ trivial) ?_
   refine xC rfl Tryz.func219 rfl ((Gs root (zR (dF m s.opn s.shut)) s.idx.toNat 8 3 s.path (by omega) (by decide) (by decide)).at [5] ⟨ah rfl,ah rfl,by rw [hn];exact ah rfl,ah rfl,eX rfl rfl (fun _ _=>rfl) rfl,trivial⟩ trivial) ?_
   refine wD (Ends.plain (.inr rfl) rfl ?_)
   rw [vN,decide_eq_true h1',decide_eq_true h2',Bool.true_and,Bool.true_and]
set_option maxRecDepth 100000
open Go.Sx
theorem aj {M:Mem} {rd:List Nat} {c sz n:Nat} {f:Nat→List Value} (hm:M.get c=some (.ro sz n f)) (hrd:gI c rd=true):bC M rd (.one (.slc c sz 0 n)) (.row sz n f) :=
 jq hm hrd (Nat.le_of_eq (Nat.zero_add _)) fun i _=>by rw [Nat.zero_add]
theorem uz {M:Mem} {rd:List Nat} {c e sz n:Nat} {f:Nat→List Value} (hm:M.get c=some (.vec e sz n f)) (hrd:gI c rd=true):bC M rd (.one (.slc c sz 0 n)) (.row sz n f) :=
 jN hm hrd (Nat.le_of_eq (Nat.zero_add _)) fun i _=>by rw [Nat.zero_add]
structure dG where
 to:H8
 amt:Int64
 deriving DecidableEq,Inhabited
def dG.cells (o:dG):List Value:=o.to.cells++[i64 o.amt]
structure Gf where
 side:Int64
 acct:Int64
 owner:H8
 amt:Int64
 deriving DecidableEq,Inhabited
def Gf.cells (f:Gf):List Value:=i64 f.side::i64 f.acct::(f.owner.cells++[i64 f.amt])
def Yo:kF:=⟨0,fun _=>dB,fun _=>dB,fun _=>dB⟩
structure Ur where
 pt:Pt
 key:H8
 sig:kF
def Ur.cells (x:Ur):List Value:=x.pt.cells++(x.key.cells++x.sig.cells)
instance:Inhabited Ur:=⟨⟨default,dB,Yo⟩⟩
structure gP where
 key:Int
 sig:kF
def gP.cells (x:gP):List Value := .int .i64 x.key::x.sig.cells
instance:Inhabited gP:=⟨⟨0,Yo⟩⟩
structure gZ where
 len:Int
 win:Int
 need:Int
 keys:List H8
structure aT where
 side:Int
 ep:Int
 qual:Int
 fin:H8
 root:H8
 outs:List dG
 sigs:List gP
structure Ii where
 owner:H8
 amt:Int
 nonce:Int
def Ii.cells (a:Ii):List Value:=a.owner.cells++[.int .i64 a.amt,.int .i64 a.nonce]
structure dx where
 side:Int
 acct:Int
 st:Ii
 proof:Nat→H8
def dx.cells (c:dx):List Value := .int .i64 c.side :: .int .i64 c.acct::(c.st.cells++fZ (bG c.proof) 0 16)
structure wW where
 kind:Int
 height:Int
 ins:List Ur
 outs:List dG
 fwds:List Gf
 par:gZ
 cert:aT
 claim:dx
def L6:gZ:=⟨0,0,0,[]⟩
def pR:aT:=⟨0,0,0,dB,dB,[],[]⟩
def nI:dx:=⟨0,0,⟨dB,0,0⟩,fun _=>dB⟩
def rowOf {E:Type} [Inhabited E] (cells:E→List Value) (l:List E):Nat→List Value:=fun i=>cells (l.getD i default)
def X8 (l:List Ur):=rowOf Ur.cells l
def bE (l:List dG):=rowOf dG.cells l
def VH (l:List Gf):=rowOf Gf.cells l
def bY (l:List gP):=rowOf gP.cells l
def dA (l:List H8):=rowOf H8.cells l
def iC (n:Int):AC := .raw (.int .i64 n)
def rC (l:List Value):List AC:=l.map .raw
def gZ.ac (p:gZ):List AC:=[iC p.len,iC p.win,iC p.need,.row 8 p.keys.length (dA p.keys)]
def aT.ac (c:aT):List AC:=iC c.side::iC c.ep::iC c.qual::(rC c.fin.cells++(rC c.root.cells++[.row 9 c.outs.length (bE c.outs),.row 282 c.sigs.length (bY c.sigs)]))
def wW.ac (t:wW):List AC:=iC t.kind::iC t.height :: .row 298 t.ins.length (X8 t.ins) :: .row 9 t.outs.length (bE t.outs) :: .row 11 t.fwds.length (VH t.fwds)::(t.par.ac++(t.cert.ac++rC t.claim.cells))
def aO (n a b:Int):Bool:=decide (a≤n) && decide (n≤b)
theorem j4 (n a b:Int):Reads Tryz.prog 134 [.plain (.one (.raw (.int .i64 n))),.plain (.one (.raw (.int .i64 a))),.plain (.one (.raw (.int .i64 b)))] [] (XV.bool (aO n a b)):=by
 refine Reads.of Tryz.aA Tryz.func134 rfl _ _ _ rfl rfl (fun C hC => ?_)
 (replace hC:C.n0=3:=hC;change av _ _ _ ⟨_,_,3⟩ _)
 refine xI ?_
 (refine xB ?_)
 refine wC (fun h1 => ?_) (fun h1 => ?_)
 ·(refine xG ?_)
  exact wD (Ends.plain (.inr rfl) rfl (by rw [aO,h1];rfl))
 ·(refine xG ?_)
  exact wD (Ends.plain (.inr rfl) rfl (by rw [aO,h1];rfl))
def nN (n:Int):Bool:=aO n 1 1125899906842624
theorem Jt (n:Int):Reads Tryz.prog 176 [.plain (.one (.raw (.int .i64 n)))] [] (XV.bool (nN n)):=by
 refine Reads.of Tryz.aA Tryz.func176 rfl _ _ _ rfl rfl (fun C hC => ?_)
 (replace hC:C.n0=1:=hC;change av _ _ _ ⟨_,_,1⟩ _)
 refine xI ?_
 (refine xB ?_)
 refine xC rfl Tryz.func134 rfl ((j4 n 1 1125899906842624).at [] ⟨ah rfl,ah rfl,ah rfl,trivial⟩ trivial) ?_
 exact wD (Ends.plain (.inr rfl) rfl rfl)
def VE (s n:Int):Bool:=aO s 0 7 && aO n 0 65535
def ku (h:H8):Bool:=decide (h=dB)
theorem zq (h:H8):Reads Tryz.prog 145 [.plain h.x] [] (XV.bool (ku h)):=by
 refine Reads.of Tryz.aA Tryz.func145 rfl _ _ _ rfl rfl (fun C hC => ?_)
 (replace hC:C.n0=1:=hC;change av _ _ _ ⟨_,_,1⟩ _)
 refine xI ?_
 (refine xB ?_)
 (refine wP _ _ (uW pV rfl h dB rfl rfl) ?_;refine xZ ?_)
 exact wD (Ends.plain (.inr rfl) rfl rfl)
theorem FU (h:H8):Reads Tryz.prog 147 [.plain h.x] [] (XV.bool (ku h)):=by
 refine Reads.of Tryz.aA Tryz.func147 rfl _ _ _ rfl rfl (fun C hC => ?_)
 (replace hC:C.n0=1:=hC;change av _ _ _ ⟨_,_,1⟩ _)
 refine xI ?_
 (refine xB ?_)
 (refine wP _ _ (uW pV rfl h dB rfl rfl) ?_;refine xZ ?_)
 exact wD (Ends.plain (.inr rfl) rfl rfl)
set_option maxRecDepth 100000
open Go.Sx
theorem lQ {E:Type} [Inhabited E] {p:E→Bool} {l:List E} {i:Nat} (hi:i<l.length):(l.take (i + 1)).all p=((l.take i).all p && p (l.getD i default)):=by
 rw [List.take_add_one,List.all_append]
 have:l[i]?.toList=[l.getD i default]:=by rw [List.getElem?_eq_getElem hi,List.getD_eq_getElem?_getD,List.getElem?_eq_getElem hi];rfl
 rw [this];simp
theorem all_false {E:Type} [Inhabited E] {p:E→Bool} {l:List E} {i:Nat} (hi:i<l.length) (h:p (l.getD i default)=false):l.all p=false:=by
 rw [List.all_eq_false]
 refine ⟨l.getD i default,?_,by rw [h];simp⟩
 rw [List.getD_eq_getElem?_getD,List.getElem?_eq_getElem hi]
 exact List.getElem_mem hi
def pX (o:dG):Bool := !ku o.to && nN o.amt.toInt
def eZ (l:List dG):Bool:=l.all pX && decide (l.length≤16)
theorem LX (l:List dG) (hl:l.length≤1000000000):Reads Tryz.prog 135 [.row 9 l.length (bE l)] [] (XV.bool (eZ l)):=by
 refine Reads.of Tryz.aA Tryz.func135 rfl _ _ _ rfl rfl (fun C hC => ?_)
 (replace hC:C.n0=1:=hC;change av _ _ _ ⟨_,_,1⟩ _)
 refine xK 1 ?_
 refine wD <| ak <| av.seq ?_
 refine xK 1 ?_
 refine wD <| ak <| av.block ?_
 refine av.loop (α:={ i:Nat // i≤l.length∧(l.take i).all pX=true }) (fun i=>⟨[some (XV.sv (.slc 0 9 0 l.length)),none,none,none,none,some (XV.sv (.slc 0 9 0 l.length)),some (XV.int .i64 l.length),some (XV.int .i64 i.1)]++List.replicate 16 none,[(0,.ro 9 l.length (bE l))],1⟩) (fun i=>l.length - i.1) ⟨0,Nat.zero_le _,rfl⟩ ?_ ?_
 ·((try dsimp only);exact xE [0] hC)
 rintro ⟨i,hi,ha⟩
 dsimp only
 refine xK 2 ?_
 refine wC (fun h1 => ?_) (fun h1 => ?_)
 ·(refine xG ?_)
  have h1':i<l.length:=xW
  have hs:=lQ (p:=pX) h1'
  have hw:IntKind.i64.wrap ((i:Int) + 1)=((i + 1:Nat):Int):=xW
  refine wD <| ak <| av.seq <| av.block <| xI ?_
  (refine xB ?_)
  (repeat (refine wN ?_ ?_;exact xW;refine xG ?_))
  simp only [Nat.zero_add,Int.toNat_natCast]
  refine xC rfl Tryz.func145 rfl ((zq (l.getD i default).to).at [] ⟨ah rfl,trivial⟩ trivial) ?_
  refine wC (fun h2 => ?_) (fun h2 => ?_)
  ·(refine xG ?_)
   refine wD <| aQ <| aV <| fq <| aQ <| aV <| Ends.plain (.inr rfl) rfl ?_
   rw [eZ,all_false h1' (by rw [pX,h2];rfl),Bool.false_and]
  ·(refine xG ?_)
   refine xC rfl Tryz.func176 rfl ((Jt (l.getD i default).amt.toInt).at [] ⟨ah rfl,trivial⟩ trivial) ?_
   refine wC (fun h3 => ?_) (fun h3 => ?_)
   ·(refine xG ?_)
    refine wD <| aQ <| aV <| fq <| aQ <| aV <| Ends.plain (.inr rfl) rfl ?_
    rw [eZ,all_false h1' (by rw [pX,h2,show nN (l.getD i default).amt.toInt=false by simpa using h3];rfl),Bool.false_and]
   ·(refine xG ?_)
    refine wD <| aJ <| ak <| xI ?_
    (refine xB ?_)
    refine wD <| aP ⟨⟨i + 1,h1',by rw [hs,ha,pX,h2,show nN (l.getD i default).amt.toInt=true by simpa using h3];rfl⟩,by dsimp only;omega,?_⟩
    rw [hw]
    ((try dsimp only);exact xE [0] hC)
 ·(refine xG ?_)
  have h1':i=l.length:=xW
  subst h1'
  rw [List.take_length] at ha
  refine wD <| bW <| aS <| aI <| ak <| xI ?_
  (refine xB ?_)
  refine wD (Ends.plain (.inr rfl) rfl ?_)
  have e:decide ((l.length:Int)≤16)=decide (l.length≤16):=by rw [Bool.eq_iff_iff];simp;omega
  rw [eZ,ha,e,Bool.true_and]
def AD.cell (sz:Nat) (cells:List Value):AD:=⟨1,fun i => .one (.ptr i 0 sz 0),fun i=>[(i,.ro sz 1 fun _=>cells)],fun h=>GY rfl h⟩
def Ur.x (x:Ur):CV := .agg (x.cells.map .raw)
set_option maxRecDepth 100000
open Go.Sx
theorem tH (p:Nat→Bool) (i:Nat):(List.range (i + 1)).all p=((List.range i).all p && p i):=by rw [List.range_succ,List.all_append];simp
theorem ru {p:Nat→Bool} {n i:Nat} (hi:i<n) (h:p i=false):(List.range n).all p=false:=by
 rw [List.all_eq_false]
 exact ⟨i,List.mem_range.2 hi,by rw [h];simp⟩
theorem getD_take {E:Type} [Inhabited E] {l:List E} {i j:Nat} (h:j<i):(l.take i).getD j default=l.getD j default:=by
 rw [List.getD_eq_getElem?_getD,List.getD_eq_getElem?_getD,List.getElem?_take_of_lt h]
theorem fJ.M6 {M:Mem} {rd:List Nat}:∀ vs:List Value,fJ M rd (vs.map .raw) (vs.map .raw)
 | []=>trivial
 | _::vs=>⟨rfl,fJ.M6 vs⟩
def sU (p:gZ) (s:SV):List SV := .raw (.int .i64 p.len) :: .raw (.int .i64 p.win) :: .raw (.int .i64 p.need)::[s]
def bR (c:aT) (s1 s2:SV):List SV := .raw (.int .i64 c.side) :: .raw (.int .i64 c.ep) :: .raw (.int .i64 c.qual)::(c.fin.cells.map .raw++(c.root.cells.map .raw++[s1,s2]))
def Vv (t:wW) (s1 s2 s3 s4 s5 s6:SV):List SV := .raw (.int .i64 t.kind) :: .raw (.int .i64 t.height)::s1::s2::s3::(sU t.par s4++(bR t.cert s5 s6++t.claim.cells.map .raw))
theorem qX {M:Mem} {rd:List Nat} {c:aT} {s1 s2:SV} {r:List SV} {l:List AC} (h1:bC M rd (.one s1) (.row 9 c.outs.length (bE c.outs))) (h2:bC M rd (.one s2) (.row 282 c.sigs.length (bY c.sigs))) (h:fJ M rd r l):fJ M rd (bR c s1 s2++r) (c.ac++l):=by
 refine ⟨rfl,rfl,rfl,?_⟩
 show fJ M rd ((c.fin.cells.map .raw++(c.root.cells.map .raw++[s1,s2]))++r) ((rC c.fin.cells++(rC c.root.cells++[AC.row 9 c.outs.length (bE c.outs),.row 282 c.sigs.length (bY c.sigs)]))++l)
 rw [List.append_assoc,List.append_assoc,List.append_assoc,List.append_assoc]
 refine fJ.PE ?_ _
 refine fJ.PE ?_ _
 exact ⟨h1,h2,h⟩
theorem jr {M:Mem} {rd:List Nat} {t:wW} {s1 s2 s3 s4 s5 s6:SV} (h1:bC M rd (.one s1) (.row 298 t.ins.length (X8 t.ins))) (h2:bC M rd (.one s2) (.row 9 t.outs.length (bE t.outs))) (h3:bC M rd (.one s3) (.row 11 t.fwds.length (VH t.fwds)))
  (h4:bC M rd (.one s4) (.row 8 t.par.keys.length (dA t.par.keys))) (h5:bC M rd (.one s5) (.row 9 t.cert.outs.length (bE t.cert.outs))) (h6:bC M rd (.one s6) (.row 282 t.cert.sigs.length (bY t.cert.sigs))):bC M rd (.agg (Vv t s1 s2 s3 s4 s5 s6)) (.box t.ac) :=
 sF ⟨rfl,rfl,h1,h2,h3,rfl,rfl,rfl,h4,qX h5 h6 (fJ.M6 _)⟩
def uU (p:gZ):Bool:=p.len == 0 && (p.win == 0 && (p.need == 0 && (p.keys.length:Int) == 0))
def xw (c:aT):Bool:=c.side == 0 && (c.ep == 0 && (c.qual == 0 && (ku c.fin && (ku c.root && ((c.outs.length + c.sigs.length:Nat):Int) == 0))))
def oU (t:wW):Bool:=t.height == 0 && (((t.ins.length + t.outs.length + t.fwds.length:Nat):Int) == 0 && (uU t.par && xw t.cert))
structure gN (t:wW):Prop where
 ins:t.ins.length≤1000000000
 outs:t.outs.length≤1000000000
 fwds:t.fwds.length≤1000000000
 keys:t.par.keys.length≤1000000000
 couts:t.cert.outs.length≤1000000000
 sigs:t.cert.sigs.length≤1000000000
def wW.cs (t:wW):List SV:=vK 0 t.ac
def Rm (t:wW):Mem:=[(6,.cells 48 t.cs)]
def Wh (t:wW):List SV:=vK 4 t.cert.ac
def rZ (t:wW):St:=⟨[none,some (XV.sv (.ptr 6 0 0 0)),none,none,some (XV.sv (.ptr 7 0 0 0)),some (XV.bool (uU t.par))]++List.replicate 86 none,Rm t++[(7,.cells 43 (Wh t))],8⟩
def xJ (t:wW):St:=⟨[none,some (XV.sv (.ptr 6 0 0 0)),none,none,none,some (XV.bool (uU t.par)),some (XV.bool (xw t.cert))]++List.replicate 85 none,Rm t,7⟩
def Gt:List Kd:=[.int .i64,.int .i64]++(gV++([.int .i64,.int .i64]++(List.replicate 16 gV).flatten))
theorem vO:Tryz.prog.keyTypeAt 8 46=true:=by kernel_rfl
theorem KS:Tryz.prog.keyType 46=true:=by kernel_rfl
theorem Ot:(46:TypeId)<Tryz.prog.types.size:=of_decide_eq_true (by kernel_rfl)
theorem Oq:WideMaps.KeyLaw Tryz.prog 46:=deep_law_laid laid (m:=8) (by omega) Ot vO (by rw [Tryz.underlying46])
theorem II:Gt.length=Tryz.prog.cellsOf 46:=by kernel_rfl
theorem D8:Tryz.prog.eqGuardType Tryz.prog.depth 46=false:=by kernel_rfl
def oO:={ cs:List Value // Fits Gt cs }
noncomputable instance:DecidableEq oO:=fun _ _=>Classical.propDecidable _
def oO.v (c:oO):Value := .agg c.1.toArray
theorem oO.inj (a b:oO) (h:a.v=b.v):a=b:=by
 apply Subtype.ext
 have:=congrArg (fun v=>v.cells.toList) h
 simpa [oO.v,Value.cells] using this
theorem Oo (h:oO):∃ l,keyOf Tryz.prog 46 h.v=some l:=nJ Tryz.aA (f:=8) (ks:=Gt) rfl vO KS nW (by rw [Tryz.underlying46]) h.2 II
theorem Q6:Ie Tryz.prog 46 oO.v:=Ie.of (m:=8) Oq (by omega) vO (by rw [Tryz.underlying46]) Oo oO.inj D8 (fun a=>⟨_,rfl⟩)
theorem Ar:∀ (n:Nat) (f:Nat→H8) (i:Nat),Fits ((List.replicate n gV).flatten) (fZ (bG f) i n)
 | 0,_,_=>rfl
 | n + 1,f,i=>by rw [List.replicate_succ,List.flatten_cons];exact Fits.append (uq (f i)) (Ar n f (i + 1))
def Np (n:Int):Prop:=(Lit.int .i64 n).wf=true
structure dx.Wf (c:dx):Prop where
 side:Np c.side
 acct:Np c.acct
 amt:Np c.st.amt
 nonce:Np c.st.nonce
theorem dx.fits {c:dx} (h:c.Wf):Fits Gt c.cells:=by
 refine ⟨_,_,rfl,⟨_,rfl,h.side⟩,_,_,rfl,⟨_,rfl,h.acct⟩,?_⟩
 have e:c.st.cells++fZ (bG c.proof) 0 16=c.st.owner.cells++([.int .i64 c.st.amt,.int .i64 c.st.nonce]++fZ (bG c.proof) 0 16):=by simp [Ii.cells]
 rw [e]
 show Fits (gV++([.int .i64,.int .i64]++(List.replicate 16 gV).flatten)) _
 exact Fits.append (uq _) (Fits.append ⟨_,_,rfl,⟨_,rfl,h.amt⟩,_,_,rfl,⟨_,rfl,h.nonce⟩,rfl⟩ (Ar 16 _ 0))
theorem nA:nI.Wf:=⟨rfl,rfl,rfl,rfl⟩
def dx.cv (c:dx) (h:c.Wf):oO:=⟨c.cells,c.fits h⟩
noncomputable def Gu (c:dx) (h:c.Wf):Bool:=decide (c.cv h=nI.cv nA)
theorem IG (h:nI.Wf):Gu nI h=true:=decide_eq_true rfl
set_option maxHeartbeats 4000000 in
theorem Oz (t:wW) (hs:gN t) (hc:t.claim.Wf):Reads Tryz.prog 140 [.box t.ac] [] (XV.bool (oU t && Gu t.claim hc)):=by
 have hi:=hs.ins
 have ho:=hs.outs
 have hf:=hs.fwds
 have hco:=hs.couts
 have hcs:=hs.sigs
 refine Reads.of Tryz.aA Tryz.func140 rfl _ _ _ rfl rfl (fun C hC => ?_)
 (replace hC:C.n0=6:=hC;change av _ _ _ ⟨_,_,6⟩ _)
 refine xK 2 ?_
 refine wD <| ak <| av.merge (rZ t) (xI ?_) ?_
 ·(refine xB ?_)
  refine wC (fun h1 => ?_) (fun h1 => ?_)
  ·(refine xG ?_)
   refine wC (fun h2 => ?_) (fun h2 => ?_)
   ·(refine xG ?_)
    refine wC (fun h3 => ?_) (fun h3 => ?_)
    ·(refine xG ?_)
     refine wD ⟨rfl,?_⟩
     unfold rZ
     rw [show uU t.par=((t.par.keys.length:Int) == 0) by rw [uU,h1,h2,h3];rfl]
     ((try dsimp only);exact xE [0,1,2,3,4,5,6,13] hC)
    ·(refine xG ?_)
     refine wD ⟨rfl,?_⟩
     unfold rZ
     rw [show uU t.par=false by rw [uU,h1,h2,h3];rfl]
     ((try dsimp only);exact xE [0,1,2,3,4,5,6,13] hC)
   ·(refine xG ?_)
    refine wD ⟨rfl,?_⟩
    unfold rZ
    rw [show uU t.par=false by rw [uU,h1,h2];rfl]
    ((try dsimp only);exact xE [0,1,2,3,4,5,6,13] hC)
  ·(refine xG ?_)
   refine wD ⟨rfl,?_⟩
   unfold rZ
   rw [show uU t.par=false by rw [uU,h1];rfl]
   ((try dsimp only);exact xE [0,1,2,3,4,5,6,13] hC)
 refine av.merge (xJ t) (xI ?_) (xI ?_)
 ·(refine xB ?_)
  have fin:∀ {S:St} {b:Bool},b=xw t.cert→aN C S ⟨(xJ t).slots.set 6 (some (XV.bool b)),(xJ t).mem,7⟩→aN C S (xJ t):=by
   intro S b hb h;subst hb;exact h
  refine wC (fun h1 => ?_) (fun h1 => ?_)
  ·(refine xG ?_)
   refine wC (fun h2 => ?_) (fun h2 => ?_)
   ·(refine xG ?_)
    refine wC (fun h3 => ?_) (fun h3 => ?_)
    ·(refine xG ?_)
     refine xC rfl Tryz.func145 rfl ((zq t.cert.fin).at [] ⟨ah rfl,trivial⟩ trivial) ?_
     refine wC (fun h4 => ?_) (fun h4 => ?_)
     ·(refine xG ?_)
      refine xC rfl Tryz.func145 rfl ((zq t.cert.root).at [] ⟨ah rfl,trivial⟩ trivial) ?_
      refine wC (fun h5 => ?_) (fun h5 => ?_)
      ·(refine xG ?_)
       have e:IntKind.i64.wrap ((t.cert.outs.length:Int) + (t.cert.sigs.length:Int))=((t.cert.outs.length + t.cert.sigs.length:Nat):Int):=xW
       rw [e]
       refine wD ⟨rfl,fin (b:=(((t.cert.outs.length + t.cert.sigs.length:Nat):Int) == 0)) (by rw [xw,h1,h2,h3,h4,h5];rfl) ?_⟩
       ((try dsimp only);exact xE [0,1,2,3,4,5,6] hC)
      ·(refine xG ?_)
       refine wD ⟨rfl,fin (b:=false) (by rw [xw,h1,h2,h3,h4,h5];rfl) ?_⟩
       ((try dsimp only);exact xE [0,1,2,3,4,5,6] hC)
     ·(refine xG ?_)
      refine wD ⟨rfl,fin (b:=false) (by rw [xw,h1,h2,h3,h4];rfl) ?_⟩
      ((try dsimp only);exact xE [0,1,2,3,4,5,6] hC)
    ·(refine xG ?_)
     refine wD ⟨rfl,fin (b:=false) (by rw [xw,h1,h2,h3];rfl) ?_⟩
     ((try dsimp only);exact xE [0,1,2,3,4,5,6] hC)
   ·(refine xG ?_)
    refine wD ⟨rfl,fin (b:=false) (by rw [xw,h1,h2];rfl) ?_⟩
    ((try dsimp only);exact xE [0,1,2,3,4,5,6] hC)
  ·(refine xG ?_)
   refine wD ⟨rfl,fin (b:=false) (by rw [xw,h1];rfl) ?_⟩
   ((try dsimp only);exact xE [0,1,2,3,4,5,6] hC)
 ·(refine xB ?_)
  refine wC (fun h1 => ?_) (fun h1 => ?_)
  ·(refine xG ?_)
   have e1:IntKind.i64.wrap ((t.ins.length:Int) + (t.outs.length:Int))=((t.ins.length + t.outs.length:Nat):Int):=xW
   have e2:IntKind.i64.wrap (((t.ins.length + t.outs.length:Nat):Int) + (t.fwds.length:Int))=((t.ins.length + t.outs.length + t.fwds.length:Nat):Int):=xW
   simp only [e1,e2]
   refine wC (fun h2 => ?_) (fun h2 => ?_)
   ·(refine xG ?_)
    refine wC (fun h3 => ?_) (fun h3 => ?_)
    ·(refine xG ?_)
     refine wC (fun h4 => ?_) (fun h4 => ?_)
     ·(refine xG ?_)
      (refine wP _ _ (uW Q6 rfl (t.claim.cv hc) (nI.cv nA) rfl rfl) ?_;refine xZ ?_)
      refine wD (Ends.plain (.inr rfl) rfl ?_)
      rw [oU,h1,h2,h3,h4];rfl
     ·(refine xG ?_)
      refine wD (Ends.plain (.inr rfl) rfl ?_)
      rw [oU,h1,h2,h3,h4];rfl
    ·(refine xG ?_)
     refine wD (Ends.plain (.inr rfl) rfl ?_)
     rw [oU,h1,h2,h3];rfl
   ·(refine xG ?_)
    refine wD (Ends.plain (.inr rfl) rfl ?_)
    rw [oU,h1,h2];rfl
  ·(refine xG ?_)
   refine wD (Ends.plain (.inr rfl) rfl ?_)
   rw [oU,h1];rfl
end Go.Proofs.YtnpkdoggfnlapaaGreatDoor
