/- Parts He Hf Hg. -/
import Derived.Test.YtnpkdoggfnlapaaGreatDoorG13
set_option linter.unusedSimpArgs false
set_option linter.unusedVariables false
namespace Go.Proofs.YtnpkdoggfnlapaaGreatDoor
set_option maxRecDepth 100000
open Go.Sx
def dn (x:Int):UInt8:=UInt8.ofNat x.toNat
theorem dI (x:Int):u8 (dn (IntKind.u8.wrap x)) = .int .u8 (IntKind.u8.wrap x):=by
 have h:IntKind.u8.wrap x=x % 256:=IntKind.wrap_u8 x
 simp only [u8,dn,h,Value.int.injEq,true_and]
 rw [UInt8.toNat_ofNat']
 omega
def kN (n:Nat):Nat:=(119 - n % 64) % 64
def Wz (n d:Nat):UInt8:=dn (IntKind.u8.wrap (iN .u64 (tO .u64 (IntKind.u64.wrap (n:Int)) 3) (((8 * (7 - d):Nat):Int))))
def vg (n:Nat):Nat→List UInt8
 | 0=>[]
 | d + 1=>vg n d++[Wz n d]
theorem jv (n:Nat):∀ d,(vg n d).length=d
 | 0=>rfl
 | d + 1=>by simp [vg,jv n d]
def yM (l:List UInt8) (j:Nat):List UInt8:=l++[0x80]++List.replicate j 0
def sQ (l:List UInt8):List UInt8:=yM l (kN l.length)++vg l.length 8
theorem gJ (l:List UInt8) (j:Nat):(yM l j).length=l.length + 1 + j:=by simp [yM];omega
theorem sS (l:List UInt8):(sQ l).length=l.length + 9 + kN l.length:=by simp [sQ,gJ,jv];omega
def bX (l:List UInt8):Nat:=(sQ l).length / 64
theorem blocks_eq (l:List UInt8):64 * bX l=(sQ l).length:=by
 unfold bX
 have:=sS l
 have h:(sQ l).length % 64=0:=by rw [this];unfold kN;omega
 omega
def fB (l:List UInt8) (t:Nat):Nat→UInt8:=fun i=>(sQ l).getD (64 * t + i) 0
def gM (l:List UInt8):Nat→Nat→Int
 | 0=>zY
 | t + 1=>kG (gM l t) (fB l t)
def Bh (l:List UInt8) (i:Nat):UInt8:=dn (IntKind.u8.wrap (iN .u32 (gM l (bX l) (i / 4)) ((24 - i % 4 * 8:Nat):Int)))
def Ej (l:List UInt8) (i:Nat):Nat→UInt8:=fun k=>if k<i then Bh l k else 0
theorem Fx (l:List UInt8) (j:Nat):yM l (j + 1)=yM l j++[0]:=by simp [yM,List.replicate_succ']
theorem NR (n:Nat):((n:Int).tmod 64 != 56)=decide (n % 64≠56):=by
 have:(n:Int).tmod 64=((n % 64:Nat):Int):=rfl
 rw [this]
 by_cases h:n % 64=56
 ·rw [h];rfl
 ·have h2:((n % 64:Nat):Int)≠56:=by omega
  rw [decide_eq_true h]
  simpa using h2
def Xq (l L:List UInt8) (m:Nat):St:=⟨[some (XV.sv (.slc 0 1 0 l.length)),none,some (XV.sv (.ptr 2 0 0 0)),some (XV.sv (.slc 3 1 0 m))]++List.replicate 56 none,
 [(0,.ro 1 l.length (bI l)),(1,.ext bJ),(2,.cells 174 ((List.replicate 32 (u8 0)).map .raw)),(3,.vec 5 1 m (bI L))],4⟩
def Xr (l L:List UInt8) (m:Nat) (i:Int):St:=⟨[some (XV.sv (.slc 0 1 0 l.length)),none,some (XV.sv (.ptr 2 0 0 0)),some (XV.sv (.slc 3 1 0 m)),some (XV.int .i64 i)]++List.replicate 55 none,
 [(0,.ro 1 l.length (bI l)),(1,.ext bJ),(2,.cells 174 ((List.replicate 32 (u8 0)).map .raw)),(3,.vec 5 1 m (bI L))],4⟩
def Xt (l:List UInt8) (t:Nat):St:=⟨[none,none,some (XV.sv (.ptr 2 0 0 0)),some (XV.sv (.slc 3 1 (64 * t) (64 * (bX l - t)))),none,some (XV.sv (.ptr 4 0 0 0))]++List.replicate 54 none,
 [(0,.ro 1 l.length (bI l)),(1,.ext bJ),(2,.cells 174 ((List.replicate 32 (u8 0)).map .raw)),(3,.vec 5 1 (sQ l).length (bI (sQ l))),(4,.vec 283 1 8 (bq (gM l t)))],5⟩
def Xu (l:List UInt8) (i:Nat):St:=⟨[none,none,some (XV.sv (.ptr 2 0 0 0)),none,none,some (XV.sv (.ptr 3 0 0 0)),some (XV.sv (.ptr 4 0 0 0))]++List.replicate 36 none++[some (XV.int .i64 i)]++List.replicate 16 none,
 [(0,.ro 1 l.length (bI l)),(1,.ext bJ),(2,.cells 174 ((List.replicate 32 (u8 0)).map .raw)),(3,.vec 283 1 8 (bq (gM l (bX l)))),(4,.vec 174 1 32 (cO (Ej l i)))],5⟩
set_option maxHeartbeats 4000000 in
theorem Vt (l:List UInt8) (hl:Short l):Reads Tryz.prog 181 [.row 1 l.length (bI l)] [bJ] (.cv (.agg ((fZ (cO (Bh l)) 0 32).map .raw))):=by
 have hl':l.length≤1000000000:=hl
 have hZ:kN l.length<64:=by unfold kN;omega
 refine Reads.of Tryz.aA Tryz.func181 rfl _ _ _ rfl (mR _ _) (fun C hC => ?_)
 (replace hC:C.n0=2:=hC;change av _ _ _ ⟨_,_,2⟩ _)
 refine xK 2 ?_
 refine xC rfl Tryz.func208 rfl ((EL l hl).at [0] ⟨jq rfl rfl (by omega) (fun i _=>by rw [Nat.zero_add]),trivial⟩ trivial) ?_
 (refine wP _ _ (aD Tryz.aA rfl rfl rfl rfl rfl [4,5] (aR rfl rfl (Nat.le_refl _) rfl) (bU (lo:=0) rfl rfl (Nat.le_refl _) rfl) rfl (Ig rfl) (by simp only [maxLen];omega) (by dsimp only;omega)) ?_;refine xZ ?_)
 refine wD <| ak <| av.seq ?_
 refine av.block ?_
 refine av.loop (α:={ j:Nat // j≤kN l.length }) (fun j=>Xq l (yM l j.1) (l.length + 1 + j.1)) (fun j=>kN l.length - j.1) ⟨0,Nat.zero_le _⟩ ?_ ?_
 ·dsimp only
  ((try dsimp only);refine aN.dH [0,1,2,6] hC ?_ ?_<;>repeat' (first |exact trivial |exact rfl |exact ⟨_,rfl,rfl,rfl,Nat.le_refl _,fun _ _=>rfl⟩ |exact ⟨_,rfl,rfl,rfl,fun _ _=>rfl⟩ |exact ⟨_,rfl,rfl,rfl⟩ |exact ⟨_,rfl,rfl⟩ |refine ⟨_,rfl,rfl,rfl,by omega,fun k hk => ?_⟩ |refine ⟨?_,?_⟩ |fail))
  rw [show yM l 0=l++[0x80] by simp [yM]]
  exact nE rfl rfl hk
 rintro ⟨j,hj⟩
 dsimp only
 refine xK 1 ?_
 refine wC (fun h1 => ?_) (fun h1 => ?_)
 ·(refine xG ?_)
  have h1':j<kN l.length:=by
   rw [NR,decide_eq_true_eq] at h1
   rcases Nat.lt_or_ge j (kN l.length) with h |h
   ·exact h
   ·have:j=kN l.length:=by omega
    subst this
    unfold kN at h1
    omega
  refine wD <| ak <| av.block <| xI ?_
  (refine xB ?_)
  (refine wP _ _ (aD Tryz.aA rfl rfl rfl rfl rfl [3,9] (aR rfl rfl (Nat.le_refl _) rfl) (bU (lo:=0) rfl rfl (Nat.le_refl _) rfl) rfl (Ig rfl) (by simp only [maxLen];omega) (by dsimp only;omega)) ?_;refine xZ ?_)
  refine wD <| aJ <| aP ⟨⟨j + 1,h1'⟩,by dsimp only;omega,?_⟩
  dsimp only
  ((try dsimp only);refine aN.dH [0,1,2,10] hC ?_ ?_<;>repeat' (first |exact trivial |exact rfl |exact ⟨_,rfl,rfl,rfl,Nat.le_refl _,fun _ _=>rfl⟩ |exact ⟨_,rfl,rfl,rfl,fun _ _=>rfl⟩ |exact ⟨_,rfl,rfl,rfl⟩ |exact ⟨_,rfl,rfl⟩ |refine ⟨_,rfl,rfl,rfl,by omega,fun k hk => ?_⟩ |refine ⟨?_,?_⟩ |fail))
  rw [Fx]
  exact nE (gJ l j).symm rfl (by rw [gJ];exact hk)
 ·(refine xG ?_)
  have h1':j=kN l.length:=by
   rw [NR,decide_eq_false_iff_not,Decidable.not_not] at h1
   unfold kN at hj ⊢
   omega
  subst h1'
  refine wD <| bW <| aS <| aI <| ak <| av.seq ?_
  refine xK 1 ?_
  refine wD <| ak <| av.block ?_
  refine av.loop (α:={ d:Nat // d≤8 }) (fun d=>Xr l (yM l (kN l.length)++vg l.length d.1) (l.length + 1 + kN l.length + d.1) (7 - (d.1:Int))) (fun d=>8 - d.1) ⟨0,Nat.zero_le _⟩ ?_ ?_
  ·dsimp only
   ((try dsimp only);refine aN.dH [0,1,2,3] hC ?_ ?_<;>repeat' (first |exact trivial |exact rfl |exact ⟨_,rfl,rfl,rfl,Nat.le_refl _,fun _ _=>rfl⟩ |exact ⟨_,rfl,rfl,rfl,fun _ _=>rfl⟩ |exact ⟨_,rfl,rfl,rfl⟩ |exact ⟨_,rfl,rfl⟩ |refine ⟨_,rfl,rfl,rfl,by omega,fun k hk => ?_⟩ |refine ⟨?_,?_⟩ |fail))
   simp [vg]
  rintro ⟨d,hd⟩
  dsimp only
  refine xK 1 ?_
  refine wC (fun h2 => ?_) (fun h2 => ?_)
  ·(refine xG ?_)
   have h2':d<8:=xW
   have e8:IntKind.i64.wrap (8 * (7 - (d:Int)))=((8 * (7 - d):Nat):Int):=xW
   have ew:IntKind.i64.wrap (7 - (d:Int) - 1)=7 - ((d + 1:Nat):Int):=xW
   refine wD <| ak <| av.seq <| av.block <| xI ?_
   (refine xB ?_)
   (refine wN ?_ ?_;exact xW;refine xG ?_)
   simp only [e8]
   (refine wP _ _ (aD Tryz.aA rfl rfl rfl rfl rfl [3,15] (aR rfl rfl (Nat.le_refl _) rfl) (bU (lo:=0) rfl rfl (Nat.le_refl _) rfl) rfl (Ig rfl) (by simp only [maxLen];omega) (by dsimp only;omega)) ?_;refine xZ ?_)
   refine wD <| aJ <| ak <| xI ?_
   (refine xB ?_)
   refine wD <| aP ⟨⟨d + 1,h2'⟩,by dsimp only;omega,?_⟩
   dsimp only
   rw [ew]
   ((try dsimp only);refine aN.dH [0,1,2,16] hC ?_ ?_<;>repeat' (first |exact trivial |exact rfl |exact ⟨_,rfl,rfl,rfl,Nat.le_refl _,fun _ _=>rfl⟩ |exact ⟨_,rfl,rfl,rfl,fun _ _=>rfl⟩ |exact ⟨_,rfl,rfl,rfl⟩ |exact ⟨_,rfl,rfl⟩ |refine ⟨_,rfl,rfl,rfl,by omega,fun k hk => ?_⟩ |refine ⟨?_,?_⟩ |fail))
   rw [vg,← List.append_assoc]
   exact nE (by rw [List.length_append,gJ,jv]) (by rw [Wz,dI];rfl) (by rw [List.length_append,gJ,jv];exact hk)
  ·(refine xG ?_)
   have h2':d=8:=xW
   subst h2'
   refine wD <| bW <| aS <| aI <| ak ?_
   refine xK 1 ?_
   refine xC rfl Tryz.func209 rfl (Qc.at [] trivial trivial) ?_
   refine wD <| ak <| av.ent (aN.Gj (c:=7) 1 8 (bq zY) rfl rfl rfl (fun _ _=>rfl) (by decide) rfl (by rw [hC];decide)) ?_
   refine av.seq <| av.block ?_
   have hlen:=sS l
   have hbl:=blocks_eq l
   refine av.loop (α:={ t:Nat // t≤bX l }) (fun t=>Xt l t.1) (fun t=>bX l - t.1) ⟨0,Nat.zero_le _⟩ ?_ ?_
   ·dsimp only
    have e1:l.length + 1 + kN l.length + 8=64 * (bX l - 0):=by omega
    rw [e1]
    ((try dsimp only);exact xE [0,1,2,3,7] hC)
   rintro ⟨t,ht⟩
   dsimp only
   refine xK 1 ?_
   refine wC (fun h3 => ?_) (fun h3 => ?_)
   ·(refine xG ?_)
    have h3':t<bX l:=xW
    refine wD <| ak <| av.seq <| av.block <| xI ?_
    (refine xB ?_)
    (refine wN ?_ ?_;exact xW;refine xG ?_)
    refine xC rfl Tryz.func210 rfl ((Oc (gM l t) (fB l t)).at [3,1] rfl rfl rfl ⟨jN (lo:=64 * t) rfl rfl (by rw [← hbl];omega) (fun _ _=>rfl),trivial⟩ ⟨bD (c:=1) rfl rfl,trivial⟩) ?_
    refine wD <| aJ <| ak <| xI ?_
    (refine xB ?_)
    (refine wN ?_ ?_;exact xW;refine xG ?_)
    refine wD <| aP ⟨⟨t + 1,h3'⟩,by dsimp only;omega,?_⟩
    dsimp only
    have e1:64 * t + (64:Int).toNat=64 * (t + 1):=by omega
    have e2:64 * (bX l - t) - (64:Int).toNat=64 * (bX l - (t + 1)):=by omega
    rw [e1,e2]
    exact aN.ren [0,1,2,3,4] (by decide) rfl (fun i hi=>by replace hi:=Nat.lt_of_lt_of_eq hi hC;revert i;decide) (Nat.le_trans (Nat.le_of_eq hC) (by decide)) rfl (by repeat' (first |exact trivial |exact rfl |refine ⟨?_,?_⟩ |fail)) (by repeat' (first |exact trivial |exact ⟨_,rfl,rfl,rfl,Nat.le_refl _,fun _ _=>rfl⟩ |exact ⟨_,rfl,rfl,rfl,fun _ _=>rfl⟩ |exact ⟨_,rfl,rfl,rfl⟩ |exact ⟨_,rfl,rfl⟩ |refine ⟨?_,?_⟩ |fail))
   ·(refine xG ?_)
    have h3':t=bX l:=xW
    subst h3'
    refine wD <| bW <| aS <| aI <| ak ?_
    refine xK 1 ?_
    refine wD <| ak <| av.ent (aN.mW (c:=8) 1 32 (u8 0) (f:=cO (Ej l 0)) rfl rfl rfl (by decide) rfl (by rw [hC];decide) (fun _ _=>rfl)) <| av.seq ?_
    refine xK 1 ?_
    refine wD <| ak <| av.block ?_
    refine av.loop (α:={ i:Nat // i≤32 }) (fun i=>Xu l i.1) (fun i=>32 - i.1) ⟨0,Nat.zero_le _⟩ ?_ ?_
    ·exact aN.ren [0,1,2,4,8] (by decide) rfl (fun i hi=>by replace hi:=Nat.lt_of_lt_of_eq hi hC;revert i;decide) (Nat.le_trans (Nat.le_of_eq hC) (by decide)) rfl (by repeat' (first |exact trivial |exact rfl |refine ⟨?_,?_⟩ |fail)) (by repeat' (first |exact trivial |exact ⟨_,rfl,rfl,rfl,Nat.le_refl _,fun _ _=>rfl⟩ |exact ⟨_,rfl,rfl,rfl,fun _ _=>rfl⟩ |exact ⟨_,rfl,rfl,rfl⟩ |exact ⟨_,rfl,rfl⟩ |refine ⟨?_,?_⟩ |fail))
    rintro ⟨i,hi⟩
    dsimp only
    refine xK 2 ?_
    refine wC (fun h4 => ?_) (fun h4 => ?_)
    ·(refine xG ?_)
     have h4':i<32:=xW
     have q1:IntKind.i64.wrap (Int.tdiv (i:Int) 4)=((i / 4:Nat):Int):=by
      have:Int.tdiv (i:Int) 4=((i / 4:Nat):Int):=rfl
      rw [this];exact xW
     have q2:Int.tmod (i:Int) 4=((i % 4:Nat):Int):=rfl
     have q3:IntKind.i64.wrap (((i % 4:Nat):Int) * 8)=((i % 4 * 8:Nat):Int):=xW
     have q4:IntKind.i64.wrap (24 - ((i % 4 * 8:Nat):Int))=((24 - i % 4 * 8:Nat):Int):=xW
     refine wD <| ak <| av.seq <| av.block <| xI ?_
     (refine xB ?_)
     simp only [q1]
     (refine wN ?_ ?_;exact xW;refine xG ?_)
     (refine wN ?_ ?_;exact xW;refine xG ?_)
     simp only [q2,q3,q4]
     (repeat (refine wN ?_ ?_;exact xW;refine xG ?_))
     refine wD <| aJ <| ak <| xI ?_
     (refine xB ?_)
     have hw:IntKind.i64.wrap ((i:Int) + 1)=((i + 1:Nat):Int):=xW
     refine wD <| aP ⟨⟨i + 1,h4'⟩,by dsimp only;omega,?_⟩
     rw [hw]
     ((try dsimp only);refine aN.dH [0,1,2,3,4] hC ?_ ?_<;>repeat' (first |exact trivial |exact rfl |exact ⟨_,rfl,rfl,rfl,Nat.le_refl _,fun _ _=>rfl⟩ |exact ⟨_,rfl,rfl,rfl,fun _ _=>rfl⟩ |exact ⟨_,rfl,rfl,rfl⟩ |exact ⟨_,rfl,rfl⟩ |refine ⟨_,rfl,rfl,rfl,by omega,fun k hk => ?_⟩ |refine ⟨?_,?_⟩ |fail))
     simp only [Int.toNat_natCast]
     rw [← dI,XE]
     simp only [cO,Ej]
     by_cases hk2:k=i
     ·subst hk2
      rw [if_pos rfl,if_pos (Nat.lt_succ_self k)]
      rfl
     ·rw [if_neg hk2]
      by_cases hk3:k<i
      ·rw [if_pos hk3,if_pos (by omega)]
      ·rw [if_neg hk3,if_neg (by omega)]
    ·(refine xG ?_)
     have h4':i=32:=xW
     subst h4'
     have hf:∀ k,k<32→cO (Ej l 32) k=cO (Bh l) k:=fun k hk=>by simp [cO,Ej,hk]
     refine wD <| bW <| aS <| aI <| ak <| av.ent (aN.D7 (c:=4) (g:=cO (Bh l)) rfl hf) <| xI ?_
     (refine xB ?_)
     (repeat (refine wN ?_ ?_;exact xW;refine xG ?_))
     exact wD (Ends.plain (.inr rfl) rfl rfl)
set_option maxRecDepth 100000
open Go.Sx
def rS (b h k m at_ w i9 i10 v i14 i19:Option XV):List (Option XV) :=
 [b,none,some (XV.sv (.ptr 1 0 0 0)),h,k,m,none,at_,w,i9,i10,none,none,v,i14,none,none,none,none,i19,none,none]++List.replicate 237 none
def rM (l L:List UInt8) (m:Nat) (h:Nat→Int):Mem :=
 [(0,.ro 1 l.length (bI l)),(1,.cells 174 ((List.replicate 32 (u8 0)).map .raw)),(2,.vec 226 1 8 (bq h)),(3,.vec 227 1 64 (bq stepW)),(4,.vec 5 1 m (bI L))]
def rp (c:Nat):Option XV:=some (XV.sv (.ptr c 0 0 0))
def ri (i:Int):Option XV:=some (XV.int .i64 i)
def YX (l L:List UInt8) (m:Nat):St:=⟨rS (some (XV.sv (.slc 0 1 0 l.length))) (rp 2) (rp 3) (some (XV.sv (.slc 4 1 0 m))) none none none none none none none,rM l L m zY,5⟩
def YZ (l L:List UInt8) (m:Nat) (i:Int):St:=⟨[some (XV.sv (.slc 0 1 0 l.length)),none,some (XV.sv (.ptr 1 0 0 0)),rp 2,rp 3,some (XV.sv (.slc 4 1 0 m)),ri i]++List.replicate 252 none,rM l L m zY,5⟩
def YB (l:List UInt8) (t:Nat):Mem:=rM l (sQ l) (64 * bX l) (gM l t)
def Y0 (l:List UInt8) (t:Nat):St:=⟨rS none (rp 2) (rp 3) (some (XV.sv (.slc 4 1 0 (64 * bX l)))) (ri ((64 * t:Nat):Int)) none none none none none none,YB l t,5⟩
def Y1 (l:List UInt8) (t i:Nat):St:=⟨rS none (rp 2) (rp 3) (some (XV.sv (.slc 4 1 0 (64 * bX l)))) (ri ((64 * t:Nat):Int)) (rp 5) (ri i) none none none none,YB l t++[(5,.vec 227 1 64 (bq (sched (fB l t) i)))],6⟩
def Y2 (l:List UInt8) (t i:Nat):St:=⟨rS none (rp 2) (rp 3) (some (XV.sv (.slc 4 1 0 (64 * bX l)))) (ri ((64 * t:Nat):Int)) (rp 5) none (ri i) none none none,YB l t++[(5,.vec 227 1 64 (bq (sched (fB l t) i)))],6⟩
def Yg (l:List UInt8) (t i:Nat):St:=⟨rS none (rp 2) (rp 3) (some (XV.sv (.slc 4 1 0 (64 * bX l)))) (ri ((64 * t:Nat):Int)) (rp 5) none none (rp 6) (ri i) none,YB l t++[(5,.vec 227 1 64 (bq (sched (fB l t) 64))),(6,.cells 226 (Ib (lM (gM l t) (fB l t) i)))],7⟩
def Yh (l:List UInt8) (t i:Nat):St:=⟨rS none (rp 2) (rp 3) (some (XV.sv (.slc 4 1 0 (64 * bX l)))) (ri ((64 * t:Nat):Int)) none none none (rp 5) none (ri i),rM l (sQ l) (64 * bX l) (rP (gM l t) (fB l t) i)++[(5,.vec 226 1 8 (bq (lM (gM l t) (fB l t) 64)))],6⟩
def Yi (l:List UInt8) (i:Nat):St:=⟨[none,none,rp 1,rp 2]++List.replicate 16 none++[rp 3,ri i]++List.replicate 237 none,
 [(0,.ro 1 l.length (bI l)),(1,.cells 174 ((List.replicate 32 (u8 0)).map .raw)),(2,.vec 226 1 8 (bq (gM l (bX l)))),(3,.vec 174 1 32 (cO (Ej l i)))],4⟩
set_option maxHeartbeats 8000000 in
theorem Tm (l:List UInt8) (hl:Short l):Reads Tryz.prog 95 [.row 1 l.length (bI l)] [] (.cv (.agg ((fZ (cO (Bh l)) 0 32).map .raw))):=by
 have hl':l.length≤1000000000:=hl
 have hZ:kN l.length<64:=by unfold kN;omega
 refine Reads.of Tryz.aA Tryz.func95 rfl _ _ _ rfl (mR _ _) (fun C hC => ?_)
 (replace hC:C.n0=1:=hC;change av _ _ _ ⟨_,_,1⟩ _)
 refine xK 4 ?_
 refine xC rfl Tryz.func150 rfl (Mw.at [] trivial trivial) ?_
 (refine wP _ _ (aD Tryz.aA rfl rfl rfl rfl rfl [0] (yJ rfl _ _ _ fun _=>[]) (CJ (lo:=0) rfl rfl (by omega) rfl) rfl (fun _ _=>rfl) (by simp only [maxLen];omega) (by dsimp only;omega)) ?_;refine xZ ?_)
 (refine wP _ _ (aD Tryz.aA rfl rfl rfl rfl rfl [9,10] (aR rfl rfl (Nat.le_refl _) rfl) (bU (lo:=0) rfl rfl (Nat.le_refl _) rfl) rfl (Ig rfl) (by simp only [maxLen];omega) (by dsimp only;omega)) ?_;refine xZ ?_)
 refine wD <| ak <| av.ent (aN.Gj (c:=3) 1 8 (bq zY) rfl rfl rfl (fun _ _=>rfl) (by decide) rfl (by rw [hC];decide)) <| av.ent (aN.Gj (c:=6) 1 64 (bq stepW) rfl rfl rfl (fun _ _=>rfl) (by decide) rfl (by rw [hC];decide)) ?_
 refine av.seq <| av.block ?_
 simp only [Nat.zero_add]
 refine av.loop (α:={ j:Nat // j≤kN l.length }) (fun j=>YX l (yM l j.1) (l.length + 1 + j.1)) (fun j=>kN l.length - j.1) ⟨0,Nat.zero_le _⟩ ?_ ?_
 ·dsimp only
  ((try dsimp only);refine aN.dH [0,1,3,6,11] hC ?_ ?_<;>repeat' (first |exact trivial |exact rfl |exact ⟨_,rfl,rfl,rfl,Nat.le_refl _,fun _ _=>rfl⟩ |exact ⟨_,rfl,rfl,rfl,fun _ _=>rfl⟩ |exact ⟨_,rfl,rfl,rfl⟩ |exact ⟨_,rfl,rfl⟩ |refine ⟨_,rfl,rfl,rfl,by omega,fun k hk => ?_⟩ |refine ⟨?_,?_⟩ |fail))
  rw [show yM l 0=l++[0x80] by simp [yM]]
  refine eG (b:=[0x80]) rfl (fun i hi => ?_) (Ig rfl) hk
  exact eG (a:=[]) rfl (fun i hi=>absurd hi (Nat.not_lt_zero _)) (fun _ _=>rfl) (by simpa using hi)
 rintro ⟨j,hj⟩
 dsimp only
 refine xK 1 ?_
 refine wC (fun h1 => ?_) (fun h1 => ?_)
 ·(refine xG ?_)
  have h1':j<kN l.length:=by
   rw [NR,decide_eq_true_eq] at h1
   rcases Nat.lt_or_ge j (kN l.length) with h |h
   ·exact h
   ·have:j=kN l.length:=by omega
    subst this
    unfold kN at h1
    omega
  refine wD <| ak <| av.block <| xI ?_
  (refine xB ?_)
  (refine wP _ _ (aD Tryz.aA rfl rfl rfl rfl rfl [4,10] (aR rfl rfl (Nat.le_refl _) rfl) (bU (lo:=0) rfl rfl (Nat.le_refl _) rfl) rfl (Ig rfl) (by simp only [maxLen];omega) (by dsimp only;omega)) ?_;refine xZ ?_)
  refine wD <| aJ <| aP ⟨⟨j + 1,h1'⟩,by dsimp only;omega,?_⟩
  dsimp only
  ((try dsimp only);refine aN.dH [0,1,2,3,11] hC ?_ ?_<;>repeat' (first |exact trivial |exact rfl |exact ⟨_,rfl,rfl,rfl,Nat.le_refl _,fun _ _=>rfl⟩ |exact ⟨_,rfl,rfl,rfl,fun _ _=>rfl⟩ |exact ⟨_,rfl,rfl,rfl⟩ |exact ⟨_,rfl,rfl⟩ |refine ⟨_,rfl,rfl,rfl,by omega,fun k hk => ?_⟩ |refine ⟨?_,?_⟩ |fail))
  rw [Fx]
  exact nE (gJ l j).symm rfl (by rw [gJ];exact hk)
 ·(refine xG ?_)
  have h1':j=kN l.length:=by
   rw [NR,decide_eq_false_iff_not,Decidable.not_not] at h1
   unfold kN at hj ⊢
   omega
  subst h1'
  refine wD <| bW <| aS <| aI <| ak <| av.seq ?_
  refine xK 1 ?_
  refine wD <| ak <| av.block ?_
  refine av.loop (α:={ d:Nat // d≤8 }) (fun d=>YZ l (yM l (kN l.length)++vg l.length d.1) (l.length + 1 + kN l.length + d.1) (7 - (d.1:Int))) (fun d=>8 - d.1) ⟨0,Nat.zero_le _⟩ ?_ ?_
  ·dsimp only
   ((try dsimp only);refine aN.dH [0,1,2,3,4] hC ?_ ?_<;>repeat' (first |exact trivial |exact rfl |exact ⟨_,rfl,rfl,rfl,Nat.le_refl _,fun _ _=>rfl⟩ |exact ⟨_,rfl,rfl,rfl,fun _ _=>rfl⟩ |exact ⟨_,rfl,rfl,rfl⟩ |exact ⟨_,rfl,rfl⟩ |refine ⟨_,rfl,rfl,rfl,by omega,fun k hk => ?_⟩ |refine ⟨?_,?_⟩ |fail))
   simp [vg]
  rintro ⟨d,hd⟩
  dsimp only
  refine xK 1 ?_
  refine wC (fun h2 => ?_) (fun h2 => ?_)
  ·(refine xG ?_)
   have h2':d<8:=xW
   have e8:IntKind.i64.wrap (8 * (7 - (d:Int)))=((8 * (7 - d):Nat):Int):=xW
   have e9:IntKind.u64.wrap ((8 * (7 - d):Nat):Int)=((8 * (7 - d):Nat):Int):=xW
   have ew:IntKind.i64.wrap (7 - (d:Int) - 1)=7 - ((d + 1:Nat):Int):=xW
   refine wD <| ak <| av.seq <| av.block <| xI ?_
   (refine xB ?_)
   simp only [e8,e9]
   (refine wN ?_ ?_;exact xW;refine xG ?_)
   (refine wP _ _ (aD Tryz.aA rfl rfl rfl rfl rfl [4,17] (aR rfl rfl (Nat.le_refl _) rfl) (bU (lo:=0) rfl rfl (Nat.le_refl _) rfl) rfl (Ig rfl) (by simp only [maxLen];omega) (by dsimp only;omega)) ?_;refine xZ ?_)
   refine wD <| aJ <| ak <| xI ?_
   (refine xB ?_)
   refine wD <| aP ⟨⟨d + 1,h2'⟩,by dsimp only;omega,?_⟩
   dsimp only
   rw [ew]
   ((try dsimp only);refine aN.dH [0,1,2,3,18] hC ?_ ?_<;>repeat' (first |exact trivial |exact rfl |exact ⟨_,rfl,rfl,rfl,Nat.le_refl _,fun _ _=>rfl⟩ |exact ⟨_,rfl,rfl,rfl,fun _ _=>rfl⟩ |exact ⟨_,rfl,rfl,rfl⟩ |exact ⟨_,rfl,rfl⟩ |refine ⟨_,rfl,rfl,rfl,by omega,fun k hk => ?_⟩ |refine ⟨?_,?_⟩ |fail))
   rw [vg,← List.append_assoc]
   exact nE (by rw [List.length_append,gJ,jv]) (by rw [Wz,dI];rfl) (by rw [List.length_append,gJ,jv];exact hk)
  ·(refine xG ?_)
   have h2':d=8:=xW
   subst h2'
   have hlen:=sS l
   have hbl:=blocks_eq l
   have hnb:bX l≤20000000:=by omega
   refine wD <| bW <| aS <| aI <| ak <| av.seq ?_
   refine xK 1 ?_
   refine wD <| ak <| av.block ?_
   refine av.loop (α:={ t:Nat // t≤bX l }) (fun t=>Y0 l t.1) (fun t=>bX l - t.1) ⟨0,Nat.zero_le _⟩ ?_ ?_
   ·dsimp only
    have e1:l.length + 1 + kN l.length + 8=64 * bX l:=by omega
    rw [e1]
    exact aN.ren [0,1,2,3,4] (by decide) rfl (fun i hi=>by replace hi:=Nat.lt_of_lt_of_eq hi hC;revert i;decide) (Nat.le_trans (Nat.le_of_eq hC) (by decide)) rfl (by repeat' (first |exact trivial |exact rfl |refine ⟨?_,?_⟩ |fail)) (by repeat' (first |exact trivial |exact ⟨_,rfl,rfl,rfl,Nat.le_refl _,fun _ _=>rfl⟩ |exact ⟨_,rfl,rfl,rfl,fun _ _=>rfl⟩ |exact ⟨_,rfl,rfl,rfl⟩ |exact ⟨_,rfl,rfl⟩ |refine ⟨?_,?_⟩ |fail))
   rintro ⟨t,ht⟩
   dsimp only
   refine xK 1 ?_
   refine wC (fun h3 => ?_) (fun h3 => ?_)
   ·(refine xG ?_)
    have h3':t<bX l:=xW
    refine wD <| ak <| av.seq <| av.block ?_
    refine xK 1 ?_
    refine wD <| ak <| av.ent (aN.mW (c:=9) 1 64 (u32 0) (f:=bq (sched (fB l t) 0)) rfl rfl rfl (by decide) rfl (by rw [hC];decide) (fun _ _=>rfl)) <| av.seq ?_
    refine xK 1 ?_
    refine wD <| ak <| av.block ?_
    refine av.loop (α:={ i:Nat // i≤16 }) (fun i=>Y1 l t i.1) (fun i=>16 - i.1) ⟨0,Nat.zero_le _⟩ ?_ ?_
    ·exact aN.ren [0,1,2,3,4,9] (by decide) rfl (fun i hi=>by replace hi:=Nat.lt_of_lt_of_eq hi hC;revert i;decide) (Nat.le_trans (Nat.le_of_eq hC) (by decide)) rfl (by repeat' (first |exact trivial |exact rfl |refine ⟨?_,?_⟩ |fail)) (by repeat' (first |exact trivial |exact ⟨_,rfl,rfl,rfl,Nat.le_refl _,fun _ _=>rfl⟩ |exact ⟨_,rfl,rfl,rfl,fun _ _=>rfl⟩ |exact ⟨_,rfl,rfl,rfl⟩ |exact ⟨_,rfl,rfl⟩ |refine ⟨?_,?_⟩ |fail))
    rintro ⟨i,hi⟩
    dsimp only
    refine xK 1 ?_
    refine wC (fun h4 => ?_) (fun h4 => ?_)
    ·(refine xG ?_)
     have h4':i<16:=xW
     have g1:IntKind.i64.wrap (4 * (i:Int))=((4 * i:Nat):Int):=xW
     have g2:IntKind.i64.wrap (((64 * t:Nat):Int) + ((4 * i:Nat):Int))=((64 * t + 4 * i:Nat):Int):=xW
     have g3:IntKind.i64.wrap (((64 * t + 4 * i:Nat):Int) + 1)=((64 * t + 4 * i + 1:Nat):Int):=xW
     have g4:IntKind.i64.wrap (((64 * t + 4 * i:Nat):Int) + 2)=((64 * t + 4 * i + 2:Nat):Int):=xW
     have g5:IntKind.i64.wrap (((64 * t + 4 * i:Nat):Int) + 3)=((64 * t + 4 * i + 3:Nat):Int):=xW
     refine wD <| ak <| av.seq <| av.block <| xI ?_
     (refine xB ?_)
     simp only [g1,g2]
     (refine wN ?_ ?_;exact xW;refine xG ?_)
     (refine wN ?_ ?_;exact xW;refine xG ?_)
     simp only [g1,g2,g3]
     (refine wN ?_ ?_;exact xW;refine xG ?_)
     (refine wN ?_ ?_;exact xW;refine xG ?_)
     simp only [g1,g2,g4]
     (refine wN ?_ ?_;exact xW;refine xG ?_)
     (refine wN ?_ ?_;exact xW;refine xG ?_)
     simp only [g1,g2,g5]
     (refine wN ?_ ?_;exact xW;refine xG ?_)
     (refine wN ?_ ?_;exact xW;refine xG ?_)
     (repeat (refine wN ?_ ?_;exact xW;refine xG ?_))
     refine wD <| aJ <| ak <| xI ?_
     (refine xB ?_)
     have hw:IntKind.i64.wrap ((i:Int) + 1)=((i + 1:Nat):Int):=xW
     refine wD <| aP ⟨⟨i + 1,h4'⟩,by dsimp only;omega,?_⟩
     rw [hw]
     ((try dsimp only);refine aN.dH [0,1,2,3,4,5] hC ?_ ?_<;>repeat' (first |exact trivial |exact rfl |exact ⟨_,rfl,rfl,rfl,Nat.le_refl _,fun _ _=>rfl⟩ |exact ⟨_,rfl,rfl,rfl,fun _ _=>rfl⟩ |exact ⟨_,rfl,rfl,rfl⟩ |exact ⟨_,rfl,rfl⟩ |refine ⟨_,rfl,rfl,rfl,by omega,fun k hk => ?_⟩ |refine ⟨?_,?_⟩ |fail))
     simp only [Int.toNat_natCast,Nat.zero_add]
     rw [Ql]
     simp only [bq,lK]
     split
     ·rw [← Un];rfl
     ·rfl
    ·(refine xG ?_)
     have h4':i=16:=xW
     subst h4'
     refine wD <| bW <| aS <| aI <| ak <| av.seq ?_
     refine xK 1 ?_
     refine wD <| ak <| av.block ?_
     refine av.loop (α:={ i:Nat // 16≤i∧i≤64 }) (fun i=>Y2 l t i.1) (fun i=>64 - i.1) ⟨16,Nat.le_refl _,by decide⟩ ?_ ?_
     ·exact aN.ren [0,1,2,3,4,5] (by decide) rfl (fun i hi=>by replace hi:=Nat.lt_of_lt_of_eq hi hC;revert i;decide) (Nat.le_trans (Nat.le_of_eq hC) (by decide)) rfl (by repeat' (first |exact trivial |exact rfl |refine ⟨?_,?_⟩ |fail)) (by repeat' (first |exact trivial |exact ⟨_,rfl,rfl,rfl,Nat.le_refl _,fun _ _=>rfl⟩ |exact ⟨_,rfl,rfl,rfl,fun _ _=>rfl⟩ |exact ⟨_,rfl,rfl,rfl⟩ |exact ⟨_,rfl,rfl⟩ |refine ⟨?_,?_⟩ |fail))
     rintro ⟨i,hi0,hi⟩
     dsimp only
     refine xK 1 ?_
     refine wC (fun h4 => ?_) (fun h4 => ?_)
     ·(refine xG ?_)
      have h4':i<64:=xW
      have e15:IntKind.i64.wrap ((i:Int) - 15)=((i - 15:Nat):Int):=xW
      have e16:IntKind.i64.wrap ((i:Int) - 16)=((i - 16:Nat):Int):=xW
      have e7:IntKind.i64.wrap ((i:Int) - 7)=((i - 7:Nat):Int):=xW
      have e2:IntKind.i64.wrap ((i:Int) - 2)=((i - 2:Nat):Int):=xW
      refine wD <| ak <| av.seq <| av.block <| xI ?_
      (refine xB ?_)
      (repeat (refine wN ?_ ?_;exact xW;refine xG ?_))
      refine xC rfl Tryz.func151 rfl (fG _ _ (by decide) _ _) ?_
      refine xC rfl Tryz.func151 rfl (fG _ _ (by decide) _ _) ?_
      (repeat (refine wN ?_ ?_;exact xW;refine xG ?_))
      refine xC rfl Tryz.func151 rfl (fG _ _ (by decide) _ _) ?_
      refine xC rfl Tryz.func151 rfl (fG _ _ (by decide) _ _) ?_
      (repeat (refine wN ?_ ?_;exact xW;refine xG ?_))
      refine wD <| aJ <| ak <| xI ?_
      (refine xB ?_)
      have hw:IntKind.i64.wrap ((i:Int) + 1)=((i + 1:Nat):Int):=xW
      refine wD <| aP ⟨⟨i + 1,by omega,h4'⟩,by dsimp only;omega,?_⟩
      rw [hw]
      ((try dsimp only);refine aN.dH [0,1,2,3,4,5] hC ?_ ?_<;>repeat' (first |exact trivial |exact rfl |exact ⟨_,rfl,rfl,rfl,Nat.le_refl _,fun _ _=>rfl⟩ |exact ⟨_,rfl,rfl,rfl,fun _ _=>rfl⟩ |exact ⟨_,rfl,rfl,rfl⟩ |exact ⟨_,rfl,rfl⟩ |refine ⟨_,rfl,rfl,rfl,by omega,fun k hk => ?_⟩ |refine ⟨?_,?_⟩ |fail))
      simp only [e15,e16,e7,e2,VY,Ua,T9,Ub,Int.toNat_natCast]
      rw [Ql]
      simp only [bq,lK]
      split
      ·rw [if_neg (by omega)]
       exact congrArg (fun x=>[u32 x]) (U7 _ _ _ _)
      ·rfl
     ·(refine xG ?_)
      have h4':i=64:=xW
      subst h4'
      refine wD <| bW <| aS <| aI <| ak ?_
      refine xK 1 ?_
      (repeat (refine wN ?_ ?_;exact xW;refine xG ?_))
      refine wD <| ak <| av.seq ?_
      refine xK 1 ?_
      refine wD <| ak <| av.block ?_
      refine av.loop (α:={ i:Nat // i≤64 }) (fun i=>Yg l t i.1) (fun i=>64 - i.1) ⟨0,Nat.zero_le _⟩ ?_ ?_
      ·exact aN.ren [0,1,2,3,4,5,9] (by decide) rfl (fun i hi=>by replace hi:=Nat.lt_of_lt_of_eq hi hC;revert i;decide) (Nat.le_trans (Nat.le_of_eq hC) (by decide)) rfl (by repeat' (first |exact trivial |exact rfl |refine ⟨?_,?_⟩ |fail)) (by repeat' (first |exact trivial |exact ⟨_,rfl,rfl,rfl,Nat.le_refl _,fun _ _=>rfl⟩ |exact ⟨_,rfl,rfl,rfl,fun _ _=>rfl⟩ |exact ⟨_,rfl,rfl,rfl⟩ |exact ⟨_,rfl,rfl⟩ |refine ⟨?_,?_⟩ |fail))
      rintro ⟨i,hi⟩
      dsimp only
      refine xK 1 ?_
      refine wC (fun h5 => ?_) (fun h5 => ?_)
      ·(refine xG ?_)
       have h5':i<64:=xW
       refine wD <| ak <| av.seq <| av.block <| xI ?_
       (refine xB ?_)
       (repeat (refine wN ?_ ?_;exact xW;refine xG ?_))
       refine xC rfl Tryz.func151 rfl (fG _ _ (by decide) _ _) ?_
       refine xC rfl Tryz.func151 rfl (fG _ _ (by decide) _ _) ?_
       refine xC rfl Tryz.func151 rfl (fG _ _ (by decide) _ _) ?_
       (repeat (refine wN ?_ ?_;exact xW;refine xG ?_))
       refine xC rfl Tryz.func151 rfl (fG _ _ (by decide) _ _) ?_
       refine xC rfl Tryz.func151 rfl (fG _ _ (by decide) _ _) ?_
       refine xC rfl Tryz.func151 rfl (fG _ _ (by decide) _ _) ?_
       (repeat (refine wN ?_ ?_;exact xW;refine xG ?_))
       refine wD <| aJ <| ak <| xI ?_
       (refine xB ?_)
       have hw:IntKind.i64.wrap ((i:Int) + 1)=((i + 1:Nat):Int):=xW
       refine wD <| aP ⟨⟨i + 1,h5'⟩,by dsimp only;omega,?_⟩
       rw [hw]
       simp only [VX,TW,Ud,VW,TY,Uc]
       exact aN.ren [0,1,2,3,4,5,6] (by decide) rfl (fun i hi=>by replace hi:=Nat.lt_of_lt_of_eq hi hC;revert i;decide) (Nat.le_trans (Nat.le_of_eq hC) (by decide)) rfl (by repeat' (first |exact trivial |exact rfl |refine ⟨?_,?_⟩ |fail)) (by repeat' (first |exact trivial |exact ⟨_,rfl,rfl,rfl,Nat.le_refl _,fun _ _=>rfl⟩ |exact ⟨_,rfl,rfl,rfl,fun _ _=>rfl⟩ |exact ⟨_,rfl,rfl,rfl⟩ |exact ⟨_,rfl,rfl⟩ |refine ⟨?_,?_⟩ |fail))
      ·(refine xG ?_)
       have h5':i=64:=xW
       subst h5'
       refine wD <| bW <| aS <| aI <| ak <| av.ent (aN.Gj (c:=6) 1 8 (bq (lM (gM l t) (fB l t) 64)) rfl rfl rfl (fun _ _=>rfl) (by decide) rfl (by rw [hC];decide)) ?_
       refine xK 1 ?_
       refine wD <| ak <| av.block ?_
       refine av.loop (α:={ i:Nat // i≤8 }) (fun i=>Yh l t i.1) (fun i=>8 - i.1) ⟨0,Nat.zero_le _⟩ ?_ ?_
       ·exact aN.ren [0,1,2,3,4,6] (by decide) rfl (fun i hi=>by replace hi:=Nat.lt_of_lt_of_eq hi hC;revert i;decide) (Nat.le_trans (Nat.le_of_eq hC) (by decide)) rfl (by repeat' (first |exact trivial |exact rfl |refine ⟨?_,?_⟩ |fail)) (by repeat' (first |exact trivial |exact ⟨_,rfl,rfl,rfl,Nat.le_refl _,fun _ _=>rfl⟩ |exact ⟨_,rfl,rfl,rfl,fun _ _=>rfl⟩ |exact ⟨_,rfl,rfl,rfl⟩ |exact ⟨_,rfl,rfl⟩ |refine ⟨?_,?_⟩ |fail))
       rintro ⟨j,hj⟩
       dsimp only
       refine xK 1 ?_
       refine wC (fun h6 => ?_) (fun h6 => ?_)
       ·(refine xG ?_)
        have h6':j<8:=xW
        refine wD <| ak <| av.seq <| av.block <| xI ?_
        (refine xB ?_)
        (repeat (refine wN ?_ ?_;exact xW;refine xG ?_))
        refine wD <| aJ <| ak <| xI ?_
        (refine xB ?_)
        have hw:IntKind.i64.wrap ((j:Int) + 1)=((j + 1:Nat):Int):=xW
        refine wD <| aP ⟨⟨j + 1,h6'⟩,by dsimp only;omega,?_⟩
        rw [hw]
        ((try dsimp only);refine aN.dH [0,1,2,3,4,5] hC ?_ ?_<;>repeat' (first |exact trivial |exact rfl |exact ⟨_,rfl,rfl,rfl,Nat.le_refl _,fun _ _=>rfl⟩ |exact ⟨_,rfl,rfl,rfl,fun _ _=>rfl⟩ |exact ⟨_,rfl,rfl,rfl⟩ |exact ⟨_,rfl,rfl⟩ |refine ⟨_,rfl,rfl,rfl,by omega,fun k hk => ?_⟩ |refine ⟨?_,?_⟩ |fail))
        simp only [Int.toNat_natCast]
        rw [Ql]
        simp only [bq,rP]
        by_cases hk2:k=j
        ·subst hk2
         rw [if_pos rfl,if_neg (Nat.lt_irrefl k),if_pos (Nat.lt_succ_self k)]
         rfl
        ·rw [if_neg hk2]
         by_cases hk3:k<j
         ·rw [if_pos hk3,if_pos (by omega)]
         ·rw [if_neg hk3,if_neg (by omega)]
       ·(refine xG ?_)
        have h6':j=8:=xW
        subst h6'
        have hf:∀ k,k<8→bq (rP (gM l t) (fB l t) 8) k=bq (gM l (t + 1)) k:=fun k hk=>by simp [bq,rP,gM,hk]
        refine wD <| bW <| aS <| aI <| aJ <| ak <| av.ent (aN.D7 (c:=2) (g:=bq (gM l (t + 1))) rfl hf) <| xI ?_
        (refine xB ?_)
        have hw:IntKind.i64.wrap (((64 * t:Nat):Int) + 64)=((64 * (t + 1):Nat):Int):=xW
        refine wD <| aP ⟨⟨t + 1,h3'⟩,by dsimp only;omega,?_⟩
        rw [hw]
        exact aN.ren [0,1,2,3,4] (by decide) rfl (fun i hi=>by replace hi:=Nat.lt_of_lt_of_eq hi hC;revert i;decide) (Nat.le_trans (Nat.le_of_eq hC) (by decide)) rfl (by repeat' (first |exact trivial |exact rfl |refine ⟨?_,?_⟩ |fail)) (by repeat' (first |exact trivial |exact ⟨_,rfl,rfl,rfl,Nat.le_refl _,fun _ _=>rfl⟩ |exact ⟨_,rfl,rfl,rfl,fun _ _=>rfl⟩ |exact ⟨_,rfl,rfl,rfl⟩ |exact ⟨_,rfl,rfl⟩ |refine ⟨?_,?_⟩ |fail))
   ·(refine xG ?_)
    have h3':t=bX l:=xW
    subst h3'
    refine wD <| bW <| aS <| aI <| ak ?_
    refine xK 1 ?_
    refine wD <| ak <| av.ent (aN.mW (c:=9) 1 32 (u8 0) (f:=cO (Ej l 0)) rfl rfl rfl (by decide) rfl (by rw [hC];decide) (fun _ _=>rfl)) <| av.seq ?_
    refine xK 1 ?_
    refine wD <| ak <| av.block ?_
    refine av.loop (α:={ i:Nat // i≤32 }) (fun i=>Yi l i.1) (fun i=>32 - i.1) ⟨0,Nat.zero_le _⟩ ?_ ?_
    ·exact aN.ren [0,1,2,9] (by decide) rfl (fun i hi=>by replace hi:=Nat.lt_of_lt_of_eq hi hC;revert i;decide) (Nat.le_trans (Nat.le_of_eq hC) (by decide)) rfl (by repeat' (first |exact trivial |exact rfl |refine ⟨?_,?_⟩ |fail)) (by repeat' (first |exact trivial |exact ⟨_,rfl,rfl,rfl,Nat.le_refl _,fun _ _=>rfl⟩ |exact ⟨_,rfl,rfl,rfl,fun _ _=>rfl⟩ |exact ⟨_,rfl,rfl,rfl⟩ |exact ⟨_,rfl,rfl⟩ |refine ⟨?_,?_⟩ |fail))
    rintro ⟨i,hi⟩
    dsimp only
    refine xK 1 ?_
    refine wC (fun h4 => ?_) (fun h4 => ?_)
    ·(refine xG ?_)
     have h4':i<32:=xW
     have q1:IntKind.i64.wrap (Int.tdiv (i:Int) 4)=((i / 4:Nat):Int):=by
      have:Int.tdiv (i:Int) 4=((i / 4:Nat):Int):=rfl
      rw [this];exact xW
     have q2:Int.tmod (i:Int) 4=((i % 4:Nat):Int):=rfl
     have q3:IntKind.i64.wrap (8 * ((i % 4:Nat):Int))=((i % 4 * 8:Nat):Int):=xW
     have q4:IntKind.i64.wrap (24 - ((i % 4 * 8:Nat):Int))=((24 - i % 4 * 8:Nat):Int):=xW
     have q5:IntKind.u64.wrap ((24 - i % 4 * 8:Nat):Int)=((24 - i % 4 * 8:Nat):Int):=xW
     refine wD <| ak <| av.seq <| av.block <| xI ?_
     (refine xB ?_)
     simp only [q1]
     (refine wN ?_ ?_;exact xW;refine xG ?_)
     (refine wN ?_ ?_;exact xW;refine xG ?_)
     simp only [q2,q3,q4,q5]
     (repeat (refine wN ?_ ?_;exact xW;refine xG ?_))
     refine wD <| aJ <| ak <| xI ?_
     (refine xB ?_)
     have hw:IntKind.i64.wrap ((i:Int) + 1)=((i + 1:Nat):Int):=xW
     refine wD <| aP ⟨⟨i + 1,h4'⟩,by dsimp only;omega,?_⟩
     rw [hw]
     ((try dsimp only);refine aN.dH [0,1,2,3] hC ?_ ?_<;>repeat' (first |exact trivial |exact rfl |exact ⟨_,rfl,rfl,rfl,Nat.le_refl _,fun _ _=>rfl⟩ |exact ⟨_,rfl,rfl,rfl,fun _ _=>rfl⟩ |exact ⟨_,rfl,rfl,rfl⟩ |exact ⟨_,rfl,rfl⟩ |refine ⟨_,rfl,rfl,rfl,by omega,fun k hk => ?_⟩ |refine ⟨?_,?_⟩ |fail))
     simp only [Int.toNat_natCast]
     rw [← dI,XE]
     simp only [cO,Ej]
     by_cases hk2:k=i
     ·subst hk2
      rw [if_pos rfl,if_pos (Nat.lt_succ_self k)]
      rfl
     ·rw [if_neg hk2]
      by_cases hk3:k<i
      ·rw [if_pos hk3,if_pos (by omega)]
      ·rw [if_neg hk3,if_neg (by omega)]
    ·(refine xG ?_)
     have h4':i=32:=xW
     subst h4'
     have hf:∀ k,k<32→cO (Ej l 32) k=cO (Bh l) k:=fun k hk=>by simp [cO,Ej,hk]
     refine wD <| bW <| aS <| aI <| ak <| av.ent (aN.D7 (c:=3) (g:=cO (Bh l)) rfl hf) <| xI ?_
     (refine xB ?_)
     (repeat (refine wN ?_ ?_;exact xW;refine xG ?_))
     exact wD (Ends.plain (.inr rfl) rfl rfl)
set_option maxRecDepth 100000
open Go.Sx
def zN (n:Int) (i:Nat):UInt8:=dn (IntKind.u8.wrap (iN .i64 n ((8 * i:Nat):Int)))
def bA (n:Int):Nat→List UInt8
 | 0=>[]
 | i + 1=>bA n i++[zN n i]
theorem aK (n:Int):∀ i,(bA n i).length=i
 | 0=>rfl
 | i + 1=>by simp [bA,aK n i]
def Ya (n:Int) (w i:Nat):St:=⟨[some (XV.int .i64 n),some (XV.int .i64 w),none,none,none,some (XV.sv (.slc 2 1 0 i)),some (XV.int .i64 i)]++List.replicate 15 none,[(2,.vec 5 1 i (bI (bA n i)))],3⟩
theorem jT (n:Int) (w:Nat) (hw:w≤8):Makes Tryz.prog 72 [.plain (.one (.raw (.int .i64 n))),.plain (.one (.raw (.int .i64 w)))] [] (XV.sv (.slc 0 1 0 w)) (.vec 5 1 w (bI (bA n w))):=by
 refine Makes.of Tryz.aA Tryz.func72 rfl _ _ _ _ rfl rfl rfl rfl 2 (fun C hC => ?_)
 (replace hC:C.n0=2:=hC;change av _ _ _ ⟨_,_,2⟩ _)
 refine xK 2 ?_
 refine wD <| ak <| av.ent (aN.nO (t:=5) rfl 5 1) <| av.seq ?_
 refine xK 1 ?_
 refine wD <| ak <| av.block ?_
 refine av.loop (α:={ i:Nat // i≤w }) (fun i=>Ya n w i.1) (fun i=>w - i.1) ⟨0,Nat.zero_le _⟩ ?_ ?_
 ·((try dsimp only);refine aN.dH [0,1,4] hC ?_ ?_<;>repeat' (first |exact trivial |exact rfl |exact ⟨_,rfl,rfl,rfl,Nat.le_refl _,fun _ _=>rfl⟩ |exact ⟨_,rfl,rfl,rfl,fun _ _=>rfl⟩ |exact ⟨_,rfl,rfl,rfl⟩ |exact ⟨_,rfl,rfl⟩ |refine ⟨_,rfl,rfl,rfl,by omega,fun k hk => ?_⟩ |refine ⟨?_,?_⟩ |fail))
  exact absurd hk (Nat.not_lt_zero _)
 rintro ⟨i,hi⟩
 dsimp only
 refine xK 1 ?_
 refine wC (fun h1 => ?_) (fun h1 => ?_)
 ·(refine xG ?_)
  have h1':i<w:=xW
  have e1:IntKind.i64.wrap (8 * (i:Int))=((8 * i:Nat):Int):=xW
  have e2:IntKind.u64.wrap ((8 * i:Nat):Int)=((8 * i:Nat):Int):=xW
  refine wD <| ak <| av.seq <| av.block <| xI ?_
  (refine xB ?_)
  simp only [e1,e2]
  (refine wN ?_ ?_;exact xW;refine xG ?_)
  (refine wP _ _ (aD Tryz.aA rfl rfl rfl rfl rfl [2,13] (aR rfl rfl (Nat.le_refl _) rfl) (bU (lo:=0) rfl rfl (Nat.le_refl _) rfl) rfl (Ig rfl) (by simp only [maxLen];omega) (by dsimp only;omega)) ?_;refine xZ ?_)
  refine wD <| aJ <| ak <| xI ?_
  (refine xB ?_)
  have hw:IntKind.i64.wrap ((i:Int) + 1)=((i + 1:Nat):Int):=xW
  refine wD <| aP ⟨⟨i + 1,h1'⟩,by dsimp only;omega,?_⟩
  rw [hw]
  ((try dsimp only);refine aN.dH [0,1,14] hC ?_ ?_<;>repeat' (first |exact trivial |exact rfl |exact ⟨_,rfl,rfl,rfl,Nat.le_refl _,fun _ _=>rfl⟩ |exact ⟨_,rfl,rfl,rfl,fun _ _=>rfl⟩ |exact ⟨_,rfl,rfl,rfl⟩ |exact ⟨_,rfl,rfl⟩ |refine ⟨_,rfl,rfl,rfl,by omega,fun k hk => ?_⟩ |refine ⟨?_,?_⟩ |fail))
  exact nE (a:=bA n i) (x:=zN n i) (aK n i).symm (by rw [zN,dI];rfl) (by rw [aK];exact hk)
 ·(refine xG ?_)
  have h1':i=w:=xW
  subst h1'
  refine wD <| bW <| aS <| aI <| ak <| xI ?_
  (refine xB ?_)
  exact wD (Ends.made (.inr rfl) (aN.refl _) rfl (Nat.le_refl _) rfl)
def lY (p:UInt8) (bss:List (List UInt8)):Nat→List UInt8
 | 0=>[p]
 | i + 1=>lY p bss i++bA ((bss.getD i []).length:Int) 4++bss.getD i []
theorem dR (p:UInt8) (bss:List (List UInt8)) (i:Nat):(lY p bss (i + 1)).length=(lY p bss i).length + 4 + (bss.getD i []).length:=by simp only [lY,List.length_append,aK]
theorem Nf (p:UInt8) (bss:List (List UInt8)) {i j:Nat} (h:i≤j):(lY p bss i).length≤(lY p bss j).length:=by
 induction j with
 | zero =>
   obtain rfl:i=0:=by omega
   exact Nat.le_refl _
 | succ j ih =>
  by_cases hij:i=j + 1
  ·subst hij;exact Nat.le_refl _
  ·have:=ih (by omega)
   rw [dR];omega
def jI (p:UInt8) (bss:List (List UInt8)):List UInt8:=lY p bss bss.length
def Ea (p:UInt8) (bss:List (List UInt8)):H8 :=
 let s:=Bh (jI p bss)
 ⟨s 0,s 1,s 2,s 3,s 4,s 5,s 6,s 7⟩
def CZ (bss:List (List UInt8)):AD := .rows 1 bss.length (fun i=>(bss.getD i []).length) (fun i=>bI (bss.getD i []))
def WI (p:UInt8) (bss:List (List UInt8)) (ad:Nat→Option Addr) (cp:Nat→Nat) (i:Nat):St :=
 ⟨[none,none,none,none,some (XV.sv (.ptr 4 0 0 0)),some (XV.sv (.slc 5 1 0 (lY p bss i).length)),none,none,none,none,none,none,none,some (XV.sv (.slc 1 1 0 bss.length)),some (XV.int .i64 bss.length),some (XV.int .i64 i)]++List.replicate 28 none,
  [(1,.ro 1 bss.length fun i=>[.slice (ad i) (bss.getD i []).length (cp i)]),(2,.ext bJ),(3,.ext (PartsAt 1 bss.length (fun i=>(bss.getD i []).length) (fun i=>bI (bss.getD i [])) ad)),(4,.cells 29 ((List.replicate 8 (u8 0)).map .raw)),(5,.vec 5 1 (lY p bss i).length (bI (lY p bss i)))],6⟩
theorem U2 (n:Nat) (x0 x1 x2 x3:Value) (h0:x0=u8 (zN n 0)) (h1:x1=u8 (zN n 1)) (h2:x2=u8 (zN n 2)) (h3:x3=u8 (zN n 3)):∀ i,i<(bA (n:Int) 4).length→rD [x0,x1,x2,x3] 1 (0 + i)=bI (bA (n:Int) 4) i:=by
 subst h0 h1 h2 h3
 intro i hi
 rw [aK] at hi
 match i,hi with
 | 0,_=>rfl
 | 1,_=>rfl
 | 2,_=>rfl
 | 3,_=>rfl
theorem Xh (n:Int):iN .i64 n 0=n:=by simp [iN]
set_option maxHeartbeats 4000000 in
theorem zO (p:UInt8) (bss:List (List UInt8)) (hl:Short (jI p bss)):Reads Tryz.prog 146 [.plain (.one (.raw (u8 p))),CZ bss] [bJ] (.cv (.agg ((Ea p bss).cells.map .raw))):=by
 have hl':(lY p bss bss.length).length≤1000000000:=hl
 refine Reads.of Tryz.aA Tryz.func146 rfl _ _ _ rfl (mR _ _) (fun C hC => ?_)
 (replace hC:C.n0=3:=hC;change av _ _ _ ⟨_,_,3⟩ _)
 refine av.CP (c:=1) rfl (fun ad cp => ?_)
 refine xK 2 ?_
 refine wD <| ak <| av.seq ?_
 refine xK 1 ?_
 refine wD <| ak <| av.block ?_
 have hbs:bss.length≤1000000000:=by
  have:∀ j,j≤(lY p bss j).length:=by
   intro j
   induction j with
   | zero=>exact Nat.zero_le _
   | succ j ih=>rw [dR];omega
  exact Nat.le_trans (this _) hl'
 refine av.loop (α:={ i:Nat // i≤bss.length }) (fun i=>WI p bss ad cp i.1) (fun i=>bss.length - i.1) ⟨0,Nat.zero_le _⟩ ?_ ?_
 ·dsimp only
  rw [WI,show (lY p bss 0).length=1 from rfl]
  ((try dsimp only);refine aN.dH [0,1,2,3,4,6] hC ?_ ?_<;>repeat' (first |exact trivial |exact rfl |exact ⟨_,rfl,rfl,rfl,Nat.le_refl _,fun _ _=>rfl⟩ |exact ⟨_,rfl,rfl,rfl,fun _ _=>rfl⟩ |exact ⟨_,rfl,rfl,rfl⟩ |exact ⟨_,rfl,rfl⟩ |refine ⟨_,rfl,rfl,rfl,by omega,fun k hk => ?_⟩ |refine ⟨?_,?_⟩ |fail))
  exact Ig (P:=fun k=>rD [u8 p] 1 k=bI [p] k) rfl k hk
 rintro ⟨i,hi⟩
 dsimp only
 refine xK 2 ?_
 refine wC (fun h1 => ?_) (fun h1 => ?_)
 ·(refine xG ?_)
  have h1':i<bss.length:=xW
  have hle:(lY p bss (i + 1)).length≤1000000000:=Nat.le_trans (Nf p bss h1') hl'
  rw [dR] at hle
  refine wD <| ak <| av.seq <| av.block <| xI ?_
  (refine xB ?_)
  (repeat (refine wN ?_ ?_;exact xW;refine xG ?_))
  have ei:0 + ((i:Int)).toNat=i:=by omega
  rw [ei]
  (refine wP _ _ (aD Tryz.aA rfl rfl rfl rfl rfl [5,25] (aR rfl rfl (Nat.le_refl _) rfl) (bU (lo:=0) rfl rfl (Nat.le_refl _) rfl) rfl (fun i hi=>by rcases (by omega:i=0∨i=1∨i=2∨i=3) with rfl |rfl |rfl |rfl<;>rfl) (by simp only [maxLen];omega) (by dsimp only;omega)) ?_;refine xZ ?_)
  (refine wP _ _ (aD Tryz.aA rfl rfl rfl rfl rfl [26,3] (aR rfl rfl (Nat.le_refl _) rfl) (Ju (q:=3) (i:=i) rfl rfl rfl h1') rfl (fun _ _=>rfl) (by simp only [maxLen];omega) (by dsimp only;omega)) ?_;refine xZ ?_)
  refine wD <| aJ <| ak <| xI ?_
  (refine xB ?_)
  have hw:IntKind.i64.wrap ((i:Int) + 1)=((i + 1:Nat):Int):=xW
  refine wD <| aP ⟨⟨i + 1,h1'⟩,by dsimp only;omega,?_⟩
  rw [hw]
  dsimp only
  rw [WI,dR]
  ((try dsimp only);refine aN.dH [0,1,2,3,4,28] hC ?_ ?_<;>repeat' (first |exact trivial |exact rfl |exact ⟨_,rfl,rfl,rfl,Nat.le_refl _,fun _ _=>rfl⟩ |exact ⟨_,rfl,rfl,rfl,fun _ _=>rfl⟩ |exact ⟨_,rfl,rfl,rfl⟩ |exact ⟨_,rfl,rfl⟩ |refine ⟨_,rfl,rfl,rfl,by omega,fun k hk => ?_⟩ |refine ⟨?_,?_⟩ |fail))
  refine eG (a:=lY p bss i++bA ((bss.getD i []).length:Int) 4) (b:=bss.getD i []) (by rw [List.length_append,aK]) (fun i' hi' => ?_) (fun _ _=>rfl) (by rw [List.length_append,aK];exact hk)
  refine eG (b:=bA ((bss.getD i []).length:Int) 4) rfl (fun _ _=>rfl) (U2 _ _ _ _ _ ?_ ?_ ?_ ?_) (by rw [← List.length_append];exact hi')
  ·rw [zN,dI,show ((8 * 0:Nat):Int)=0 from rfl,Xh]
  ·rw [zN,dI];rfl
  ·rw [zN,dI];rfl
  ·rw [zN,dI];rfl
 ·(refine xG ?_)
  have h1':i=bss.length:=xW
  subst h1'
  refine wD <| bW <| aS <| aI <| ak ?_
  refine xK 1 ?_
  refine xC rfl Tryz.func181 rfl ((Vt (jI p bss) hl).at [5,2] ⟨jN rfl rfl (Nat.le_of_eq (Nat.zero_add _)) (fun i _=>by rw [Nat.zero_add];rfl),trivial⟩ ⟨bD (c:=2) rfl rfl,trivial⟩) ?_
  refine wD <| ak ?_
  refine xK 1 ?_
  refine wD <| ak ?_
  refine xK 1 ?_
  (refine wP _ _ (Bp Tryz.aA (k:=32) (m:=8) (g:=cO (Bh (jI p bss))) [11,9] rfl rfl rfl rfl rfl (by decide) rfl rfl (jw rfl rfl rfl (fun _ _=>rfl) rfl) rfl (by decide) (Nat.le_of_ble_eq_true rfl) (fun _ _=>rfl) rfl) ?_;refine xZ ?_)
  refine wD <| ak <| xI ?_
  (refine xB ?_)
  exact wD (Ends.plain (.inr rfl) rfl rfl)
def Wq (p:UInt8) (bss:List (List UInt8)) (ad:Nat→Option Addr) (cp:Nat→Nat) (i:Nat):St :=
 ⟨[none,some (XV.sv (.slc 1 1 0 bss.length)),none,none,some (XV.sv (.ptr 3 0 0 0)),some (XV.sv (.slc 4 1 0 (lY p bss i).length)),some (XV.int .i64 i)]++List.replicate 29 none,
  [(1,.ro 1 bss.length fun i=>[.slice (ad i) (bss.getD i []).length (cp i)]),(2,.ext (PartsAt 1 bss.length (fun i=>(bss.getD i []).length) (fun i=>bI (bss.getD i [])) ad)),(3,.cells 29 ((List.replicate 8 (u8 0)).map .raw)),(4,.vec 5 1 (lY p bss i).length (bI (lY p bss i)))],5⟩
set_option maxHeartbeats 4000000 in
theorem jd (p:UInt8) (bss:List (List UInt8)) (hl:Short (jI p bss)):Reads Tryz.prog 45 [.plain (.one (.raw (u8 p))),CZ bss] [] (.cv (.agg ((Ea p bss).cells.map .raw))):=by
 have hl':(lY p bss bss.length).length≤1000000000:=hl
 refine Reads.of Tryz.aA Tryz.func45 rfl _ _ _ rfl (mR _ _) (fun C hC => ?_)
 (replace hC:C.n0=2:=hC;change av _ _ _ ⟨_,_,2⟩ _)
 refine av.CP (c:=1) rfl (fun ad cp => ?_)
 refine xK 2 ?_
 refine wD <| ak <| av.seq ?_
 refine xK 1 ?_
 refine wD <| ak <| av.block ?_
 have hbs:bss.length≤1000000000:=by
  have:∀ j,j≤(lY p bss j).length:=by
   intro j
   induction j with
   | zero=>exact Nat.zero_le _
   | succ j ih=>rw [dR];omega
  exact Nat.le_trans (this _) hl'
 refine av.loop (α:={ i:Nat // i≤bss.length }) (fun i=>Wq p bss ad cp i.1) (fun i=>bss.length - i.1) ⟨0,Nat.zero_le _⟩ ?_ ?_
 ·dsimp only
  rw [Wq,show (lY p bss 0).length=1 from rfl]
  ((try dsimp only);refine aN.dH [0,1,2,3,5] hC ?_ ?_<;>repeat' (first |exact trivial |exact rfl |exact ⟨_,rfl,rfl,rfl,Nat.le_refl _,fun _ _=>rfl⟩ |exact ⟨_,rfl,rfl,rfl,fun _ _=>rfl⟩ |exact ⟨_,rfl,rfl,rfl⟩ |exact ⟨_,rfl,rfl⟩ |refine ⟨_,rfl,rfl,rfl,by omega,fun k hk => ?_⟩ |refine ⟨?_,?_⟩ |fail))
  exact Ig (P:=fun k=>rD [u8 p] 1 k=bI [p] k) rfl k hk
 rintro ⟨i,hi⟩
 dsimp only
 refine xK 1 ?_
 refine wC (fun h1 => ?_) (fun h1 => ?_)
 ·(refine xG ?_)
  have h1':i<bss.length:=xW
  have hle:(lY p bss (i + 1)).length≤1000000000:=Nat.le_trans (Nf p bss h1') hl'
  rw [dR] at hle
  refine wD <| ak <| av.seq <| av.block <| xI ?_
  (refine xB ?_)
  (repeat (refine wN ?_ ?_;exact xW;refine xG ?_))
  have ei:0 + ((i:Int)).toNat=i:=by omega
  rw [ei]
  refine xC rfl Tryz.func72 rfl ((jT _ 4 (by decide)).at [] ⟨ah rfl,ah rfl,trivial⟩ trivial) ?_
  (refine wP _ _ (aD Tryz.aA rfl rfl rfl rfl rfl [4,15] (aR rfl rfl (Nat.le_refl _) rfl) (bU (lo:=0) rfl rfl (Nat.le_refl _) rfl) rfl (fun i hi=>by rcases (by omega:i=0∨i=1∨i=2∨i=3) with rfl |rfl |rfl |rfl<;>rfl) (by simp only [maxLen];omega) (by dsimp only;omega)) ?_;refine xZ ?_)
  (repeat (refine wN ?_ ?_;exact xW;refine xG ?_))
  rw [ei]
  (refine wP _ _ (aD Tryz.aA rfl rfl rfl rfl rfl [16,2] (aR rfl rfl (Nat.le_refl _) rfl) (Ju (q:=2) (i:=i) rfl rfl rfl h1') rfl (fun _ _=>rfl) (by simp only [maxLen];omega) (by dsimp only;omega)) ?_;refine xZ ?_)
  refine wD <| aJ <| ak <| xI ?_
  (refine xB ?_)
  have hw:IntKind.i64.wrap ((i:Int) + 1)=((i + 1:Nat):Int):=xW
  refine wD <| aP ⟨⟨i + 1,h1'⟩,by dsimp only;omega,?_⟩
  rw [hw]
  dsimp only
  rw [Wq,dR]
  ((try dsimp only);refine aN.dH [0,1,2,3,21] hC ?_ ?_<;>repeat' (first |exact trivial |exact rfl |exact ⟨_,rfl,rfl,rfl,Nat.le_refl _,fun _ _=>rfl⟩ |exact ⟨_,rfl,rfl,rfl,fun _ _=>rfl⟩ |exact ⟨_,rfl,rfl,rfl⟩ |exact ⟨_,rfl,rfl⟩ |refine ⟨_,rfl,rfl,rfl,by omega,fun k hk => ?_⟩ |refine ⟨?_,?_⟩ |fail))
  refine eG (a:=lY p bss i++bA ((bss.getD i []).length:Int) 4) (b:=bss.getD i []) (by rw [List.length_append,aK]) (fun i' hi' => ?_) (fun _ _=>rfl) (by rw [List.length_append,aK];exact hk)
  exact eG (b:=bA ((bss.getD i []).length:Int) 4) rfl (fun _ _=>rfl) (fun j _=>by rw [Nat.zero_add]) (by rw [← List.length_append];exact hi')
 ·(refine xG ?_)
  have h1':i=bss.length:=xW
  subst h1'
  refine wD <| bW <| aS <| aI <| ak ?_
  refine xK 1 ?_
  refine xC rfl Tryz.func95 rfl ((Tm (jI p bss) hl).at [4] ⟨jN rfl rfl (Nat.le_of_eq (Nat.zero_add _)) (fun i _=>by rw [Nat.zero_add];rfl),trivial⟩ trivial) ?_
  refine wD <| ak ?_
  refine xK 1 ?_
  refine wD <| ak ?_
  refine xK 1 ?_
  (repeat (refine wN ?_ ?_;exact xW;refine xG ?_))
  (refine wP _ _ (Bp Tryz.aA (k:=8) (m:=8) (g:=cO (Bh (jI p bss))) [13,11] rfl rfl rfl rfl rfl (by decide) rfl rfl (jw rfl rfl rfl (fun _ _=>rfl) rfl) rfl (by decide) (Nat.le_of_ble_eq_true rfl) (fun _ _=>rfl) rfl) ?_;refine xZ ?_)
  refine wD <| ak <| xI ?_
  (refine xB ?_)
  exact wD (Ends.plain (.inr rfl) rfl rfl)
end Go.Proofs.YtnpkdoggfnlapaaGreatDoor
