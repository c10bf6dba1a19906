/- Parts Hk Hl Hm. -/
import Derived.Test.YtnpkdoggfnlapaaGreatDoorG15
set_option linter.unusedSimpArgs false
set_option linter.unusedVariables false
namespace Go.Proofs.YtnpkdoggfnlapaaGreatDoor
set_option maxRecDepth 100000
open Go.Sx
def JJ (mk:Nat→Nat→H8):Nat→List Value:=fun i=>(mk i 0).cells++(mk i 1).cells
def Yq (mk:Nat→Nat→H8) (i:Nat):Nat→List Value:=fun b=>(mk i b).cells
def GZ (mk:Nat→Nat→H8):CV := .agg ((fZ (JJ mk) 0 16).map .raw)
def preB (mk:Nat→Nat→H8) (i:Nat):Nat→List UInt8
 | 0=>[]
 | b + 1=>preB mk i b++(mk i b).l
theorem sZ (mk:Nat→Nat→H8) (i:Nat):∀ b,(preB mk i b).length=8 * b
 | 0=>rfl
 | b + 1=>by simp only [preB,List.length_append,sZ mk i b,H8.jg];omega
def Yf (mk:Nat→Nat→H8) (i:Nat):St :=
 ⟨[none,none,some (XV.sv (.ptr 2 0 0 0)),some (XV.sv (.slc 3 1 0 (16 * i))),none,none,none,none,some (.cv (GZ mk)),some (XV.int .i64 i)]++List.replicate 14 none,
  [(1,.ext bJ),(2,.cells 29 ((List.replicate 8 (u8 0)).map .raw)),(3,.vec 5 1 (16 * i) (bI (oP mk i)))],4⟩
def WS (mk:Nat→Nat→H8) (i b:Nat):St :=
 ⟨[none,none,some (XV.sv (.ptr 2 0 0 0)),some (XV.sv (.slc 3 1 0 (16 * i + 8 * b))),none,none,none,none,some (.cv (GZ mk)),some (XV.int .i64 i),none,none,some (.cv (.agg ((fZ (Yq mk i) 0 2).map .raw))),some (XV.int .i64 b)]++List.replicate 10 none,
  [(1,.ext bJ),(2,.cells 29 ((List.replicate 8 (u8 0)).map .raw)),(3,.vec 5 1 (16 * i + 8 * b) (bI (oP mk i++preB mk i b)))],4⟩
set_option maxHeartbeats 4000000 in
theorem Mh (mk:Nat→Nat→H8):Reads Tryz.prog 238 [.plain (GZ mk)] [bJ] (mO (zR mk)):=by
 refine Reads.of Tryz.aA Tryz.func238 rfl _ _ _ (by simp only [jl,AD.plain,GZ,List.all_cons,List.all_nil,Bool.and_true];exact jy _ _) rfl (fun C hC => ?_)
 (replace hC:C.n0=2:=hC;change av _ _ _ ⟨_,_,2⟩ _)
 refine xK 2 ?_
 refine wD <| ak <| av.ent (aN.nO (t:=3) rfl 5 1) <| av.seq ?_
 refine xK 1 ?_
 refine wD <| ak <| av.block ?_
 refine av.loop (α:={ i:Nat // i≤16 }) (fun i=>Yf mk i.1) (fun i=>16 - i.1) ⟨0,Nat.zero_le _⟩ ?_ ?_
 ·((try dsimp only);refine aN.dH [0,1,3,5] hC ?_ ?_<;>repeat' (first |exact trivial |exact rfl |exact ⟨_,rfl,rfl,rfl,Nat.le_refl _,fun _ _=>rfl⟩ |exact ⟨_,rfl,rfl,rfl,fun _ _=>rfl⟩ |exact ⟨_,rfl,rfl,rfl⟩ |exact ⟨_,rfl,rfl⟩ |refine ⟨_,rfl,rfl,rfl,by omega,fun k hk => ?_⟩ |refine ⟨?_,?_⟩ |fail))
  exact absurd hk (Nat.not_lt_zero _)
 rintro ⟨i,hi⟩
 dsimp only
 refine xK 2 ?_
 refine wC (fun h1 => ?_) (fun h1 => ?_)
 ·(refine xG ?_)
  have h1':i<16:=xW
  have hw:IntKind.i64.wrap ((i:Int) + 1)=((i + 1:Nat):Int):=xW
  refine wD <| ak <| av.seq <| av.block ?_
  refine xK 2 ?_
  (refine wP _ _ (sw Tryz.aA (JJ mk) rfl rfl rfl rfl rfl rfl (fun _ _=>rfl) rfl (by omega) (by omega) rfl) ?_;refine xZ ?_)
  refine wD <| ak <| av.block ?_
  refine av.loop (α:={ b:Nat // b≤2 }) (fun b=>WS mk i b.1) (fun b=>2 - b.1) ⟨0,Nat.zero_le _⟩ ?_ ?_
  ·((try dsimp only);refine aN.dH [0,1,2,3] hC ?_ ?_<;>repeat' (first |exact trivial |exact rfl |exact ⟨_,rfl,rfl,rfl,Nat.le_refl _,fun _ _=>rfl⟩ |exact ⟨_,rfl,rfl,rfl,fun _ _=>rfl⟩ |exact ⟨_,rfl,rfl,rfl⟩ |exact ⟨_,rfl,rfl⟩ |refine ⟨_,rfl,rfl,rfl,by omega,fun k hk => ?_⟩ |refine ⟨?_,?_⟩ |fail))
   simp [preB]
  rintro ⟨b,hb⟩
  dsimp only
  refine xK 2 ?_
  refine wC (fun h2 => ?_) (fun h2 => ?_)
  ·(refine xG ?_)
   have h2':b<2:=xW
   have hw2:IntKind.i64.wrap ((b:Int) + 1)=((b + 1:Nat):Int):=xW
   refine wD <| ak <| av.seq <| av.block <| xI ?_
   (refine xB ?_)
   (refine wP _ _ (sw Tryz.aA (Yq mk i) rfl rfl rfl rfl rfl rfl (fun _ _=>rfl) rfl (by omega) (by omega) rfl) ?_;refine xZ ?_)
   (refine wP _ _ (aD Tryz.aA rfl rfl rfl rfl rfl [3,6] (aR rfl rfl (Nat.le_refl _) rfl) (jw (g:=bI (mk i b).l) rfl rfl rfl (fun _ _=>rfl) rfl) rfl (fun _ _=>rfl) (by simp only [maxLen];omega) (by dsimp only;omega)) ?_;refine xZ ?_)
   refine wD <| aJ <| ak <| xI ?_
   (refine xB ?_)
   refine wD <| aP ⟨⟨b + 1,h2'⟩,by dsimp only;omega,?_⟩
   rw [hw2]
   have e1:16 * i + 8 * b + (((8:Nat):Int).toNat - (0:Int).toNat)=16 * i + 8 * (b + 1):=by omega
   rw [e1]
   ((try dsimp only);refine aN.dH [0,1,2,10] hC ?_ ?_<;>repeat' (first |exact trivial |exact rfl |exact ⟨_,rfl,rfl,rfl,Nat.le_refl _,fun _ _=>rfl⟩ |exact ⟨_,rfl,rfl,rfl,fun _ _=>rfl⟩ |exact ⟨_,rfl,rfl,rfl⟩ |exact ⟨_,rfl,rfl⟩ |refine ⟨_,rfl,rfl,rfl,by omega,fun k hk => ?_⟩ |refine ⟨?_,?_⟩ |fail))
   rw [preB,← List.append_assoc]
   exact eG (by rw [List.length_append,iq,sZ]) (fun _ _=>rfl) (fun _ _=>rfl) (by rw [List.length_append,iq,sZ,H8.jg];omega)
  ·(refine xG ?_)
   have h2':b=2:=xW
   subst h2'
   refine wD <| bW <| aS <| aI <| aJ <| ak <| xI ?_
   (refine xB ?_)
   refine wD <| aP ⟨⟨i + 1,h1'⟩,by dsimp only;omega,?_⟩
   rw [hw,show 16 * i + 8 * 2=16 * (i + 1) by omega]
   ((try dsimp only);refine aN.dH [0,1,2,3] hC ?_ ?_<;>repeat' (first |exact trivial |exact rfl |exact ⟨_,rfl,rfl,rfl,Nat.le_refl _,fun _ _=>rfl⟩ |exact ⟨_,rfl,rfl,rfl,fun _ _=>rfl⟩ |exact ⟨_,rfl,rfl,rfl⟩ |exact ⟨_,rfl,rfl⟩ |refine ⟨_,rfl,rfl,rfl,by omega,fun k hk => ?_⟩ |refine ⟨?_,?_⟩ |fail))
   simp [preB,oP]
 ·(refine xG ?_)
  have h1':i=16:=xW
  subst h1'
  obtain ⟨L,hL,hlen⟩:∃ L,oP mk 16=L∧L.length=16 * 16:=⟨_,rfl,iq _ _⟩
  refine wD <| bW <| aS <| aI <| ak <| xI ?_
  rw [hL]
  (refine xB ?_)
  (refine wP _ _ (dQ Tryz.aA rfl rfl rfl) ?_;refine xZ ?_)
  refine xC rfl Tryz.func146 rfl ((zO 107 [L] (qQ _ _ (by rw [hlen];decide))).at [6,3,1] ⟨ah rfl,eD [L] rfl rfl rfl ⟨aF (lo:=0) hlen.symm rfl rfl (by show 0 + L.length≤16 * 16;omega) (fun i _=>by rw [Nat.zero_add]),trivial⟩,trivial⟩ ⟨bD (c:=1) rfl rfl,trivial⟩) ?_
  exact wD (Ends.plain (v:=mO (Ea 107 [L])) (.inr rfl) rfl (by rw [zR,hL]))
theorem H8.jm (h:H8):h.cells.length=8:=rfl
theorem Vx {f:Nat→List Value} {i:Nat} (hf:(f i).length=16) (a b:H8) (k:Nat):Af (Af f i 0 a.cells) i 8 b.cells k=if k=i then a.cells++b.cells else f k:=by
 by_cases hk:k=i
 ·subst hk
  rw [if_pos rfl,jE,jE]
  have h1:(List.take 0 (f k)++a.cells++List.drop (0 + a.cells.length) (f k)).take 8=a.cells:=by
   rw [List.take_zero,List.nil_append,List.take_append_of_le_length (Nat.le_of_eq (H8.jm a).symm),List.take_of_length_le (Nat.le_of_eq (H8.jm a))]
  have h2:(List.take 0 (f k)++a.cells++List.drop (0 + a.cells.length) (f k)).drop (8 + b.cells.length)=[]:=by
   apply List.drop_eq_nil_of_le
   simp [H8.jm,hf]
  rw [h1,h2,List.append_nil]
 ·rw [if_neg hk,iG hk,iG hk]
theorem Ui {f:Nat→List Value} {i:Nat} (hf:(f i).length=16) (a b:H8) (k:Nat):Af (Af f i 8 b.cells) i 0 a.cells k=if k=i then a.cells++b.cells else f k:=by
 by_cases hk:k=i
 ·subst hk
  rw [if_pos rfl,jE,jE]
  have h2:((f k).take 8++b.cells++(f k).drop (8 + b.cells.length)).drop (0 + a.cells.length)=b.cells:=by
   have e1:(f k).drop (8 + b.cells.length)=[]:=List.drop_eq_nil_of_le (by rw [H8.jm];omega)
   have e2:((f k).take 8).length=8:=by rw [List.length_take];omega
   rw [e1,List.append_nil,List.drop_append_of_le_length (by rw [e2,H8.jm];decide),List.drop_eq_nil_of_le (by rw [e2,H8.jm];decide),List.nil_append]
  rw [h2,List.take_zero,List.nil_append]
 ·rw [if_neg hk,iG hk,iG hk]
def yx (mk:Nat→Nat→H8) (i:Nat):Nat→List Value:=fun k=>if k<i then JJ mk k else List.replicate 16 (u8 0)
theorem Cy (mk:Nat→Nat→H8) (i k:Nat):(if k=i then (mk i 0).cells++(mk i 1).cells else yx mk i k)=yx mk (i + 1) k:=by
 unfold yx
 by_cases hk:k=i
 ·subst hk;rw [if_pos rfl,if_pos (Nat.lt_succ_self k)];rfl
 ·rw [if_neg hk]
  by_cases hk3:k<i
  ·rw [if_pos hk3,if_pos (by omega)]
  ·rw [if_neg hk3,if_neg (by omega)]
theorem yA (mk:Nat→Nat→H8) (i k:Nat):(yx mk i k).length=16:=by
 unfold yx
 split
 ·rfl
 ·simp
def WB (m:H8) (o s:Nat→H8) (i:Nat):St :=
 ⟨[none,none,none,some (XV.sv (.ptr 4 0 0 0)),none,some (XV.sv (.ptr 5 0 0 0)),some (XV.sv (.ptr 6 0 0 0)),some (XV.sv (.ptr 7 0 0 0)),none,none,none,some (.cv (MB o 16)),some (XV.int .i64 i)]++List.replicate 23 none,
  [(3,.ext bJ),(4,.cells 29 (m.cells.map .raw)),(5,.vec 44 8 16 (bG s)),(6,.cells 29 ((List.replicate 8 (u8 0)).map .raw)),(7,.vec 307 16 16 (yx (dF m o s) i))],8⟩
theorem QS {m:H8} {i b:Nat} (hi:i<64) (hb:oh m i=b):Reads Tryz.prog 236 [.plain m.x,.plain (.one (.raw (.int .i64 i)))] [] (XV.int .i64 b):=hb▸UC m i hi
set_option maxHeartbeats 4000000 in
theorem Jk (m:H8) (o s:Nat→H8):Reads Tryz.prog 218 [.plain m.x,.plain (MB o 16),.plain (MB s 16)] [bJ] (mO (zR (dF m o s))):=by
 refine Reads.of Tryz.aA Tryz.func218 rfl _ _ _ (by simp only [jl,AD.plain,List.all_cons,List.all_nil,Bool.and_true,Bool.and_eq_true];exact ⟨jy _ _,jy _ _,jy _ _⟩) rfl (fun C hC => ?_)
 (replace hC:C.n0=4:=hC;change av _ _ _ ⟨_,_,4⟩ _)
 refine xK 2 ?_
 refine wD <| ak <| av.ent (aN.Gj (c:=6) 8 16 (bG s) rfl rfl rfl (fun _ _=>rfl) (by decide) rfl (by rw [hC];decide)) <| av.ent (aN.mW (c:=8) 16 16 (u8 0) (f:=yx (dF m o s) 0) rfl rfl rfl (by decide) rfl (by rw [hC];decide) (fun _ _=>rfl)) <| av.seq ?_
 refine xK 1 ?_
 refine wD <| ak <| av.block ?_
 refine av.loop (α:={ i:Nat // i≤16 }) (fun i=>WB m o s i.1) (fun i=>16 - i.1) ⟨0,Nat.zero_le _⟩ ?_ ?_
 ·exact aN.ren [0,1,2,3,4,6,7,8] (by decide) rfl (fun i hi=>by replace hi:=Nat.lt_of_lt_of_eq hi hC;revert i;decide) (Nat.le_trans (Nat.le_of_eq hC) (by decide)) rfl (by repeat' (first |exact trivial |exact rfl |refine ⟨?_,?_⟩ |fail)) (by repeat' (first |exact trivial |exact ⟨_,rfl,rfl,rfl,Nat.le_refl _,fun _ _=>rfl⟩ |exact ⟨_,rfl,rfl,rfl,fun _ _=>rfl⟩ |exact ⟨_,rfl,rfl,rfl⟩ |exact ⟨_,rfl,rfl⟩ |refine ⟨?_,?_⟩ |fail))
 rintro ⟨i,hi⟩
 dsimp only
 refine xK 2 ?_
 refine wC (fun h1 => ?_) (fun h1 => ?_)
 ·(refine xG ?_)
  have h1':i<16:=xW
  have hw:IntKind.i64.wrap ((i:Int) + 1)=((i + 1:Nat):Int):=xW
  refine wD <| ak <| av.seq <| av.block ?_
  refine xK 1 ?_
  (refine wP _ _ (sw Tryz.aA (bG o) rfl rfl rfl rfl rfl rfl (fun _ _=>rfl) rfl (by omega) (by omega) rfl) ?_;refine xZ ?_)
  rcases qp m i with hb |hb
  ·refine wD <| ak <| xI ?_
   (refine xB ?_)
   refine xC rfl Tryz.func236 rfl ((QS (b:=0) (by omega) hb).at [] ⟨ah rfl,ah rfl,trivial⟩ trivial) ?_
   refine xC rfl Tryz.func237 rfl ((Jq (o i)).at [3] ⟨ah rfl,trivial⟩ ⟨bD (c:=3) rfl rfl,trivial⟩) ?_
   (repeat (refine wN ?_ ?_;exact xW;refine xG ?_))
   refine wD <| aJ <| ak <| xI ?_
   (refine xB ?_)
   refine wD <| aP ⟨⟨i + 1,h1'⟩,by dsimp only;omega,?_⟩
   rw [hw]
   ((try dsimp only);refine aN.dH [0,1,2,3,4,5,6,7] hC ?_ ?_<;>repeat' (first |exact trivial |exact rfl |exact ⟨_,rfl,rfl,rfl,Nat.le_refl _,fun _ _=>rfl⟩ |exact ⟨_,rfl,rfl,rfl,fun _ _=>rfl⟩ |exact ⟨_,rfl,rfl,rfl⟩ |exact ⟨_,rfl,rfl⟩ |refine ⟨_,rfl,rfl,rfl,by omega,fun k hk => ?_⟩ |refine ⟨?_,?_⟩ |fail))
   have hm0:(dF m o s i 0)=nM (o i):=by unfold dF;rw [if_pos hb.symm]
   have hm1:(dF m o s i 1)=s i:=by unfold dF;rw [if_neg (by omega)]
   rw [← Cy,hm0,hm1]
   exact Vx (yA _ _ _) _ _ _
  ·refine wD <| ak <| xI ?_
   (refine xB ?_)
   refine xC rfl Tryz.func236 rfl ((QS (b:=1) (by omega) hb).at [] ⟨ah rfl,ah rfl,trivial⟩ trivial) ?_
   refine xC rfl Tryz.func237 rfl ((Jq (o i)).at [3] ⟨ah rfl,trivial⟩ ⟨bD (c:=3) rfl rfl,trivial⟩) ?_
   (repeat (refine wN ?_ ?_;exact xW;refine xG ?_))
   refine wD <| aJ <| ak <| xI ?_
   (refine xB ?_)
   refine wD <| aP ⟨⟨i + 1,h1'⟩,by dsimp only;omega,?_⟩
   rw [hw]
   ((try dsimp only);refine aN.dH [0,1,2,3,4,5,6,7] hC ?_ ?_<;>repeat' (first |exact trivial |exact rfl |exact ⟨_,rfl,rfl,rfl,Nat.le_refl _,fun _ _=>rfl⟩ |exact ⟨_,rfl,rfl,rfl,fun _ _=>rfl⟩ |exact ⟨_,rfl,rfl,rfl⟩ |exact ⟨_,rfl,rfl⟩ |refine ⟨_,rfl,rfl,rfl,by omega,fun k hk => ?_⟩ |refine ⟨?_,?_⟩ |fail))
   have hm0:(dF m o s i 0)=s i:=by unfold dF;rw [if_neg (by omega)]
   have hm1:(dF m o s i 1)=nM (o i):=by unfold dF;rw [if_pos hb.symm]
   rw [← Cy,hm0,hm1]
   exact Ui (yA _ _ _) _ _ _
 ·(refine xG ?_)
  have h1':i=16:=xW
  subst h1'
  have hf:∀ k,k<16→yx (dF m o s) 16 k=JJ (dF m o s) k:=fun k hk=>by unfold yx;rw [if_pos hk]
  refine wD <| bW <| aS <| aI <| ak <| av.ent (aN.D7 (c:=7) (g:=JJ (dF m o s)) rfl hf) <| xI ?_
  (refine xB ?_)
  (repeat (refine wN ?_ ?_;exact xW;refine xG ?_))
  refine xC rfl Tryz.func238 rfl ((Mh (dF m o s)).at [3] ⟨ah rfl,trivial⟩ ⟨bD (c:=3) rfl rfl,trivial⟩) ?_
  exact wD (Ends.plain (.inr rfl) rfl rfl)
set_option maxRecDepth 100000
open Go.Sx
def aH (n:Nat):Nat:=2 ^ Nat.log2 (n - 1)
theorem gF (n:Nat):0<aH n:=Nat.two_pow_pos _
theorem iR {n:Nat} (h:2≤n):aH n<n:=by
 have:=Nat.log2_self_le (n:=n - 1) (by omega)
 unfold aH;omega
theorem UU {n k:Nat} (h:2≤n) (h1:2 ^ k<n) (h2:n≤2 * 2 ^ k):aH n=2 ^ k:=by
 unfold aH
 congr 1
 refine (Nat.log2_eq_iff (by omega)).2 ⟨by omega,?_⟩
 rw [Nat.pow_succ];omega
def yX:Nat→(Nat→H8)→Nat→H8
 | 0,_,_=>dB
 | f + 1,h,n=>if n=0 then dB else if n=1 then yh (h 0) else Ch (yX f h (aH n)) (yX f (fun i=>h (aH n + i)) (n - aH n))
def oK (h:Nat→H8) (n:Nat):H8:=yX n h n
theorem qM:∀ (f g n:Nat) (h:Nat→H8),n≤f→n≤g→yX f h n=yX g h n
 | 0,g,n,h,h1,_=>by
  obtain rfl:n=0:=by omega
  cases g with
  | zero=>rfl
  | succ g=>simp [yX]
 | f + 1,0,n,h,_,h2=>by
  obtain rfl:n=0:=by omega
  simp [yX]
 | f + 1,g + 1,n,h,h1,h2=>by
  simp only [yX]
  by_cases h0:n=0
  ·rw [if_pos h0,if_pos h0]
  ·by_cases h3:n=1
   ·rw [if_neg h0,if_neg h0,if_pos h3,if_pos h3]
   ·have a1:=gF n
    have a2:=iR (n:=n) (by omega)
    rw [if_neg h0,if_neg h0,if_neg h3,if_neg h3,qM f g _ _ (by omega) (by omega),qM f g _ _ (by omega) (by omega)]
theorem j3 {n:Nat} (hn:2≤n) (h:Nat→H8):oK h n=Ch (oK h (aH n)) (oK (fun i=>h (aH n + i)) (n - aH n)):=by
 have a1:=gF n
 have a2:=iR hn
 obtain ⟨m,rfl⟩:∃ m,n=m + 1:=⟨n - 1,by omega⟩
 unfold oK
 rw [yX,if_neg (by omega),if_neg (by omega)]
 congr 1
 ·exact qM _ _ _ _ (by omega) (by omega)
 ·exact qM _ _ _ _ (by omega) (by omega)
def pG:Nat→Nat→Nat→List Bool
 | 0,_,_=>[]
 | f + 1,i,n=>if n≤1 then [] else if i<aH n then pG f i (aH n)++[false] else pG f (i - aH n) (n - aH n)++[true]
def bN (i n:Nat):List Bool:=pG n i n
theorem oN:∀ (f g i n:Nat),n≤f→n≤g→pG f i n=pG g i n
 | 0,g,i,n,h1,_=>by
  obtain rfl:n=0:=by omega
  cases g with
  | zero=>rfl
  | succ g=>simp [pG]
 | f + 1,0,i,n,_,h2=>by
  obtain rfl:n=0:=by omega
  simp [pG]
 | f + 1,g + 1,i,n,h1,h2=>by
  simp only [pG]
  by_cases h0:n≤1
  ·rw [if_pos h0,if_pos h0]
  ·have a1:=gF n
   have a2:=iR (n:=n) (by omega)
   rw [if_neg h0,if_neg h0,oN f g _ _ (by omega) (by omega),oN f g _ _ (by omega) (by omega)]
theorem nV {i n:Nat} (h:n≤1):bN i n=[]:=by
 unfold bN
 cases n with
 | zero=>rfl
 | succ n=>rw [pG,if_pos h]
theorem iy {i n:Nat} (hn:2≤n):bN i n=if i<aH n then bN i (aH n)++[false] else bN (i - aH n) (n - aH n)++[true]:=by
 have a1:=gF n
 have a2:=iR hn
 obtain ⟨m,rfl⟩:∃ m,n=m + 1:=⟨n - 1,by omega⟩
 unfold bN
 rw [pG,if_neg (by omega),oN m _ i _ (by omega) (Nat.le_refl _),oN m _ (i - aH (m + 1)) _ (by omega) (Nat.le_refl _)]
theorem pI:∀ (n i:Nat),(bN i n).length≤n
 | n,i=>by
  by_cases h:n≤1
  ·rw [nV h];simp
  ·have a1:=gF n
   have a2:=iR (n:=n) (by omega)
   rw [iy (by omega)]
   split
   ·have:=pI (aH n) i
    simp;omega
   ·have:=pI (n - aH n) (i - aH n)
    simp;omega
 termination_by n=>n
def pq:Nat→(Nat→H8)→Nat→Nat→List H8
 | 0,_,_,_=>[]
 | f + 1,h,n,i=>if n≤1 then [] else if i<aH n then pq f h (aH n) i++[oK (fun j=>h (aH n + j)) (n - aH n)] else pq f (fun j=>h (aH n + j)) (n - aH n) (i - aH n)++[oK h (aH n)]
def lJ (h:Nat→H8) (n i:Nat):List H8:=pq n h n i
theorem oH:∀ (f g n i:Nat) (h:Nat→H8),n≤f→n≤g→pq f h n i=pq g h n i
 | 0,g,n,i,h,h1,_=>by
  obtain rfl:n=0:=by omega
  cases g with
  | zero=>rfl
  | succ g=>simp [pq]
 | f + 1,0,n,i,h,_,h2=>by
  obtain rfl:n=0:=by omega
  simp [pq]
 | f + 1,g + 1,n,i,h,h1,h2=>by
  simp only [pq]
  by_cases h0:n≤1
  ·rw [if_pos h0,if_pos h0]
  ·have a1:=gF n
   have a2:=iR (n:=n) (by omega)
   rw [if_neg h0,if_neg h0,oH f g _ _ _ (by omega) (by omega),oH f g _ _ _ (by omega) (by omega)]
theorem Md {h:Nat→H8} {i n:Nat} (hn:n≤1):lJ h n i=[]:=by
 unfold lJ
 cases n with
 | zero=>rfl
 | succ n=>rw [pq,if_pos hn]
theorem oI {h:Nat→H8} {i n:Nat} (hn:2≤n):lJ h n i=if i<aH n then lJ h (aH n) i++[oK (fun j=>h (aH n + j)) (n - aH n)] else lJ (fun j=>h (aH n + j)) (n - aH n) (i - aH n)++[oK h (aH n)]:=by
 have a1:=gF n
 have a2:=iR hn
 obtain ⟨m,rfl⟩:∃ m,n=m + 1:=⟨n - 1,by omega⟩
 unfold lJ
 rw [pq,if_neg (by omega),oH m _ _ i _ (by omega) (Nat.le_refl _),oH m _ _ (i - aH (m + 1)) _ (by omega) (Nat.le_refl _)]
theorem fF:∀ (n i:Nat) (h:Nat→H8),(lJ h n i).length=(bN i n).length
 | n,i,h=>by
  by_cases h0:n≤1
  ·rw [nV h0,Md h0];rfl
  ·have a1:=gF n
   have a2:=iR (n:=n) (by omega)
   rw [iy (by omega),oI (by omega)]
   split
   ·simp [fF (aH n) i h]
   ·simp [fF (n - aH n) (i - aH n)]
 termination_by n=>n
def TI (x:H8) (b:Bool) (p:H8):H8:=if b=true then Ch p x else Ch x p
def XD:H8→List Bool→List H8→H8
 | x,b::bs,p::ps=>XD (TI x b p) bs ps
 | x,_,_=>x
theorem qh (b:Bool) (p:H8):∀ (bs:List Bool) (ps:List H8) (x:H8),bs.length=ps.length→XD x (bs++[b]) (ps++[p])=TI (XD x bs ps) b p
 | [],[],_,_=>rfl
 | _::bs,_::ps,x,h=>qh b p bs ps _ (by simpa using h)
 | [],_::_,_,h=>by simp at h
 | _::_,[],_,h=>by simp at h
theorem tq:∀ (n i:Nat) (h:Nat→H8),i<n→XD (yh (h i)) (bN i n) (lJ h n i)=oK h n
 | n,i,h,hi=>by
  by_cases h0:n≤1
  ·obtain rfl:n=1:=by omega
   obtain rfl:i=0:=by omega
   rfl
  ·have a1:=gF n
   have a2:=iR (n:=n) (by omega)
   rw [iy (by omega),oI (by omega),j3 (n:=n) (by omega) h]
   by_cases hk:i<aH n
   ·rw [if_pos hk,if_pos hk,qh _ _ _ _ _ (fF _ _ _).symm,tq (aH n) i h hk]
    rfl
   ·rw [if_neg hk,if_neg hk,qh _ _ _ _ _ (fF _ _ _).symm]
    have:=tq (n - aH n) (i - aH n) (fun j=>h (aH n + j)) (by omega)
    rw [show aH n + (i - aH n)=i by omega] at this
    rw [this]
    rfl
 termination_by n=>n
def qY (p:Nat→H8) (L:Nat):List H8:=(List.range L).map p
theorem vY (p:Nat→H8) (L:Nat):qY p (L + 1)=qY p L++[p L]:=by simp [qY,List.range_succ]
theorem qG (p:Nat→H8) (L:Nat):(qY p L).length=L:=by simp [qY]
theorem LH (l:List H8):qY (fun i=>l.getD i dB) l.length=l:=by
 apply List.ext_getElem?
 intro i
 by_cases h:i<l.length
 ·simp [qY,h]
 ·rw [List.getElem?_eq_none (by simp [qY];omega),List.getElem?_eq_none (by omega)]
def leads (root x:H8) (i n:Nat) (p:Nat→H8) (L:Nat):Bool:=decide (L=(bN i n).length) && decide (XD (yh x) (bN i n) (qY p L)=root)
theorem LC {root x:H8} {i n L:Nat} {p:Nat→H8} (h:Nat→H8) (hi:i<n) (hx:x=h i) (hr:root=oK h n) (hL:L=(lJ h n i).length) (hp:∀ k,k<L→p k=(lJ h n i).getD k dB):leads root x i n p L=true:=by
 have e:qY p L=lJ h n i:=by
  rw [← LH (lJ h n i),← hL]
  exact List.map_congr_left fun k hk=>hp k (List.mem_range.1 hk)
 simp only [leads,Bool.and_eq_true,decide_eq_true_eq]
 exact ⟨by rw [hL,fF],by rw [e,hx,hr];exact tq n i h hi⟩
def DY (x:H8) (p:Nat→H8):Nat→Nat→Nat→H8×Bool
 | L,i,n=>if n=1 then (yh x,decide (L=0)) else match L with
  | 0=>(dB,false)
  | L + 1=>if i<aH n then (Ch (DY x p L i (aH n)).1 (p L),(DY x p L i (aH n)).2) else (Ch (p L) (DY x p L (i - aH n) (n - aH n)).1,(DY x p L (i - aH n) (n - aH n)).2)
theorem MZ (x:H8) (p:Nat→H8):∀ (L i n:Nat),i<n→(DY x p L i n).2=decide (L=(bN i n).length)∧(L=(bN i n).length→(DY x p L i n).1=XD (yh x) (bN i n) (qY p L))
 | L,i,n,hi=>by
  by_cases h1:n=1
  ·subst h1
   have ht:bN i 1=[]:=nV (Nat.le_refl _)
   rw [ht]
   cases L with
   | zero=>exact ⟨rfl,fun _=>rfl⟩
   | succ L =>
    have e:DY x p (L + 1) i 1=(yh x,decide (L + 1=0)):=by rw [DY,if_pos rfl]
    rw [e]
    exact ⟨rfl,fun _=>rfl⟩
  ·have a1:=gF n
   have a2:=iR (n:=n) (by omega)
   have ht:=iy (i:=i) (n:=n) (by omega)
   cases L with
   | zero =>
    have hl:(bN i n).length≠0:=by rw [ht];split<;>simp
    refine ⟨?_,fun h=>absurd h.symm hl⟩
    rw [DY,if_neg h1]
    exact (decide_eq_false fun h=>hl h.symm).symm
   | succ L =>
    rw [DY,if_neg h1]
    by_cases hk:i<aH n
    ·rw [if_pos hk] at ht ⊢
     obtain ⟨e1,e2⟩:=MZ x p L i (aH n) hk
     rw [ht]
     refine ⟨by simp only [e1,List.length_append,List.length_singleton,Nat.add_right_cancel_iff],fun h => ?_⟩
     have h':L=(bN i (aH n)).length:=by simpa using h
     rw [vY,qh _ _ _ _ _ (by rw [qG];exact h'.symm),← e2 h']
     rfl
    ·rw [if_neg hk] at ht ⊢
     obtain ⟨e1,e2⟩:=MZ x p L (i - aH n) (n - aH n) (by omega)
     rw [ht]
     refine ⟨by simp only [e1,List.length_append,List.length_singleton,Nat.add_right_cancel_iff],fun h => ?_⟩
     have h':L=(bN (i - aH n) (n - aH n)).length:=by simpa using h
     rw [vY,qh _ _ _ _ _ (by rw [qG];exact h'.symm),← e2 h']
     rfl
theorem Qk (root x:H8) (p:Nat→H8) (L:Nat) {i n:Nat} (hi:i<n):((DY x p L i n).2 && decide ((DY x p L i n).1=root))=leads root x i n p L:=by
 obtain ⟨e1,e2⟩:=MZ x p L i n hi
 unfold leads
 rw [e1]
 by_cases h:L=(bN i n).length
 ·rw [e2 h]
 ·simp [h]
set_option maxRecDepth 100000
open Go.Sx
theorem AU {P:Program} {T:aU} {S:St} {d:Nat} {o:Oper} (hT:bf P T) {t:TypeId} {x i:Operand} {td:pO} {s:ByteArray} {k:IntKind} {n:Int} (b:UInt8) (ho:o.op = .index t x i) (ht:T t=some td) (hd:td.desc = .str)
  (hx:S.ev x=some (XV.val (.string s))) (hi:S.ev i=some (XV.int k n)) (h0:0≤n) (hb:s[n.toNat]? = some b):bT P S d o { v:=XV.int .u8 (b.toNat:Int) } []:=by
 refine dw fun β w a hops => ?_
 have e2:=hops x (by rw [ho];simp [Op.operands]) _ hx
 have e3:=hops i (by rw [ho];simp [Op.operands]) _ hi
 simp only [XV.rel,CV.rel,SV.rel] at e2 e3
 have hu:=F9 hT ht hd
 exact ⟨.int .u8 (b.toNat:Int),by simp [execOp,ho,e2,e3,Instr.index,asIntOf,run_underlying hu,h0,hb],rfl⟩
def len8 (y:Nat):UInt8:=if y=0 then 0 else UInt8.ofNat (Nat.log2 y + 1)
theorem TM {s:ByteArray} {g:Nat→UInt8} {m:Nat} (h:((List.range m).all fun y=>s[y]? == some (g y))=true) {y:Nat} (hy:y<m):s[y]? = some (g y):=by
 have:=List.all_eq_true.1 h y (List.mem_range.2 hy)
 exact eq_of_beq this
theorem Jj {x:Nat} (h:256≤x):Nat.log2 x=8 + Nat.log2 (x / 256):=by
 have h1:=Nat.log2_self_le (n:=x / 256) (by omega)
 have h2:=Nat.lt_log2_self (n:=x / 256)
 refine (Nat.log2_eq_iff (by omega)).2 ⟨?_,?_⟩
 ·rw [Nat.pow_add]
  have:=Nat.mul_le_mul_left (2 ^ 8) h1
  omega
 ·rw [show 8 + (x / 256).log2 + 1=8 + ((x / 256).log2 + 1) by omega,Nat.pow_add]
  have:=Nat.mul_le_mul_left (2 ^ 8) (Nat.succ_le_of_lt h2)
  omega
theorem Cj {y:Nat} (h0:y≠0) (h:y<256):(len8 y).toNat=Nat.log2 y + 1:=by
 have h1:Nat.log2 y<8:=(Nat.log2_lt h0).2 h
 unfold len8
 rw [if_neg h0,UInt8.toNat_ofNat']
 omega
set_option maxHeartbeats 1000000 in
theorem OT (x:Nat) (h1:1≤x) (h2:x<65536):Reads Tryz.prog 229 [.plain (.one (.raw (.int .u64 x)))] [] (XV.int .i64 ((Nat.log2 x + 1:Nat):Int)):=by
 have hl:Nat.log2 x<16:=(Nat.log2_lt (by omega)).2 h2
 refine Reads.of Tryz.aA Tryz.func229 rfl _ _ _ rfl rfl (fun C hC => ?_)
 (replace hC:C.n0=1:=hC;change av _ _ _ ⟨_,_,1⟩ _)
 refine xI ?_
 (refine xB ?_)
 refine wC (fun h => ?_) (fun _ => ?_)
 ·have:False:=xW
  exact this.elim
 (refine xG ?_)
 refine wC (fun h => ?_) (fun _ => ?_)
 ·have:False:=xW
  exact this.elim
 (refine xG ?_)
 refine wC (fun h => ?_) (fun h => ?_)
 ·have hx:256≤x:=xW
  have e:IntKind.u8.wrap (iN .u64 (x:Int) 8)=((x / 256:Nat):Int):=by
   rw [show (8:Int)=((8:Nat):Int) from rfl,Hz _ _ _ (by decide),IntKind.wrap_u8]
   omega
  (refine xG ?_)
  simp only [e]
  (refine wP _ _ (AU Tryz.aA (len8 (x / 256)) rfl rfl rfl rfl rfl (Int.natCast_nonneg _) (TM (m:=256) (by kernel_rfl) (y:=x / 256) (by omega))) ?_;refine xZ ?_)
  refine wD (Ends.plain (.inr rfl) rfl ?_)
  rw [Cj (by omega) (by omega),Jj hx]
  exact congrArg (fun n:Int=>XV.int .i64 n) (by simp only [IntKind.wrap_i64];have:=Jj hx;omega)
 ·have hx:x<256:=xW
  have e:IntKind.u8.wrap (x:Int)=((x:Nat):Int):=by rw [IntKind.wrap_u8];omega
  (refine xG ?_)
  simp only [e]
  (refine wP _ _ (AU Tryz.aA (len8 x) rfl rfl rfl rfl rfl (Int.natCast_nonneg _) (TM (m:=256) (by kernel_rfl) (y:=x) (by omega))) ?_;refine xZ ?_)
  refine wD (Ends.plain (.inr rfl) rfl ?_)
  rw [Cj (by omega) (by omega)]
  exact congrArg (fun n:Int=>XV.int .i64 n) (by simp only [IntKind.wrap_i64];omega)
theorem U3 (x:Nat) (h1:1≤x) (h2:x<65536):Reads Tryz.prog 205 [.plain (.one (.raw (.int .u64 x)))] [] (XV.int .i64 ((Nat.log2 x + 1:Nat):Int)):=by
 have e:IntKind.u64.wrap (x:Int)=x:=by rw [IntKind.wrap_u64];omega
 refine Reads.of Tryz.aA Tryz.func205 rfl _ _ _ rfl rfl (fun C hC => ?_)
 (replace hC:C.n0=1:=hC;change av _ _ _ ⟨_,_,1⟩ _)
 refine xI ?_
 (refine xB ?_)
 refine xC rfl Tryz.func229 rfl ((OT x h1 h2).at [] ⟨ah rfl,trivial⟩ trivial) ?_
 exact wD (Ends.plain (.inr rfl) rfl rfl)
theorem Ry (n:Nat) (h1:2≤n) (h2:n≤65536):Reads Tryz.prog 246 [.plain (.one (.raw (.int .i64 n)))] [] (XV.int .i64 (aH n)):=by
 have e1:IntKind.u64.wrap (IntKind.i64.wrap ((n:Int) - 1))=((n - 1:Nat):Int):=by simp only [IntKind.wrap_u64,IntKind.wrap_i64];omega
 have hl:Nat.log2 (n - 1)<16:=(Nat.log2_lt (by omega)).2 (by omega)
 have e2:IntKind.i64.wrap (((Nat.log2 (n - 1) + 1:Nat):Int) - 1)=((Nat.log2 (n - 1):Nat):Int):=by simp only [IntKind.wrap_i64];omega
 refine Reads.of Tryz.aA Tryz.func246 rfl _ _ _ rfl rfl (fun C hC => ?_)
 (replace hC:C.n0=1:=hC;change av _ _ _ ⟨_,_,1⟩ _)
 refine xI ?_
 (refine xB ?_)
 simp only [e1]
 refine xC rfl Tryz.func205 rfl ((U3 (n - 1) (by omega) (by omega)).at [] ⟨ah rfl,trivial⟩ trivial) ?_
 simp only [e2]
 (repeat (refine wN ?_ ?_;exact xW;refine xG ?_))
 refine wD (Ends.plain (.inr rfl) rfl ?_)
 refine congrArg (fun n:Int=>XV.int .i64 n) ?_
 have e3:min (((Nat.log2 (n - 1):Nat):Int).toNat) IntKind.i64.bits=Nat.log2 (n - 1):=by
  rw [Int.toNat_natCast]
  exact Nat.min_eq_left (Nat.le_trans (Nat.le_of_lt hl) (by decide))
 have hp:2 ^ Nat.log2 (n - 1)<2 ^ 16:=Nat.pow_lt_pow_right (by decide) hl
 rw [tO,e3,Int.one_mul,show ((2:Int) ^ Nat.log2 (n - 1))=((2 ^ Nat.log2 (n - 1):Nat):Int) by rw [Int.natCast_pow];rfl,IntKind.wrap_i64]
 unfold aH
 obtain ⟨p,hp'⟩:∃ p,2 ^ Nat.log2 (n - 1)=p:=⟨_,rfl⟩
 rw [hp'] at hp ⊢
 omega
def vI (l:List Bool):Nat→List Value:=fun i=>[.bool (l.getD i false)]
theorem Aj {b:Bool} {l:List Bool} {f g:Nat→List Value} {k:Nat} (hf:f 0=[.bool b]) (hg:∀ i,i<l.length→g i=vI l i) (hk:k<l.length + 1):eB f 1 g k=vI (b::l) k:=by
 cases k with
 | zero =>
  have:Nat.blt 0 1=true:=rfl
  simp [eB,hf,vI,this]
 | succ k =>
  have:Nat.blt (k + 1) 1=false:=by rw [yG];simp
  rw [eB,this,cond_false,Nat.add_sub_cancel]
  rw [hg k (by omega)]
  simp [vI]
def Xy (i n:Nat) (l:List Bool):St :=
 ⟨[some (XV.int .i64 i),some (XV.int .i64 n),none,none,none,some (XV.sv (.slc 2 1 0 l.length))]++List.replicate 22 none,[(2,.vec 4 1 l.length (vI l))],3⟩
set_option maxHeartbeats 1000000 in
theorem Qh (i0 n0:Nat) (h1:i0<n0) (h2:n0≤65536):Makes Tryz.prog 233 [.plain (.one (.raw (.int .i64 i0))),.plain (.one (.raw (.int .i64 n0)))] [] (XV.sv (.slc 0 1 0 (bN i0 n0).length)) (.vec 4 1 (bN i0 n0).length (vI (bN i0 n0))):=by
 refine Makes.of Tryz.aA Tryz.func233 rfl _ _ _ _ rfl rfl rfl rfl 2 (fun C hC => ?_)
 (replace hC:C.n0=2:=hC;change av _ _ _ ⟨_,_,2⟩ _)
 refine xK 2 ?_
 refine wD <| ak <| av.ent (aN.nO (t:=5) rfl 4 1) <| av.seq <| av.block ?_
 refine av.loop (α:={ x:Nat×Nat×List Bool // x.1<x.2.1∧x.2.1≤65536∧x.2.2.length + x.2.1≤65536∧bN x.1 x.2.1++x.2.2=bN i0 n0 }) (fun x=>Xy x.1.1 x.1.2.1 x.1.2.2) (fun x=>x.1.2.1) ⟨(i0,n0,[]),h1,h2,by simpa using h2,List.append_nil _⟩ ?_ ?_
 ·((try dsimp only);refine aN.dH [0,1,4] hC ?_ ?_<;>repeat' (first |exact trivial |exact rfl |exact ⟨_,rfl,rfl,rfl,Nat.le_refl _,fun _ _=>rfl⟩ |exact ⟨_,rfl,rfl,rfl,fun _ _=>rfl⟩ |exact ⟨_,rfl,rfl,rfl⟩ |exact ⟨_,rfl,rfl⟩ |refine ⟨_,rfl,rfl,rfl,by omega,fun k hk => ?_⟩ |refine ⟨?_,?_⟩ |fail))
  ·exact Nat.le_refl _
  ·exact fun k hk=>absurd hk (Nat.not_lt_zero _)
 rintro ⟨⟨i,n,l⟩,hi,hn,hl,ht⟩
 dsimp only at hi hn hl ht ⊢
 refine xK 1 ?_
 refine wC (fun h3 => ?_) (fun h3 => ?_)
 ·have h3':1<n:=xW
  have a1:=gF n
  have a2:=iR (n:=n) (by omega)
  have e1:IntKind.i64.wrap ((i:Int) - (aH n:Int))=((i:Int) - (aH n:Int)):=xW
  (refine xG ?_)
  refine wD <| ak <| av.block <| xI ?_
  (refine xB ?_)
  refine xC rfl Tryz.func246 rfl ((Ry n (by omega) hn).at [] ⟨ah rfl,trivial⟩ trivial) ?_
  (refine wP _ _ (aD Tryz.aA rfl rfl rfl rfl rfl [13,2] (aR rfl rfl (Nat.le_refl _) rfl) (bU (lo:=0) rfl rfl (by omega) rfl) rfl (fun _ _=>rfl) (by simp only [maxLen];omega) (by dsimp only;omega)) ?_;refine xZ ?_)
  refine wC (fun h4 => ?_) (fun h4 => ?_)
  ·have h4':aH n≤i:=xW
   have w1:IntKind.i64.wrap ((i:Int) - (aH n:Int))=((i - aH n:Nat):Int):=xW
   have w2:IntKind.i64.wrap ((n:Int) - (aH n:Int))=((n - aH n:Nat):Int):=xW
   (refine xG ?_)
   refine wD <| aJ <| aP ⟨⟨(i - aH n,n - aH n,true::l),by dsimp only;omega,by dsimp only;omega,by simp only [List.length_cons];omega,?_⟩,by dsimp only;omega,?_⟩
   ·dsimp only
    rw [← ht,iy (n:=n) (by omega),if_neg (by omega),List.append_assoc];rfl
   rw [w1,w2,h4,Nat.add_comm 1]
   ((try dsimp only);refine aN.dH [0,1,15] hC ?_ ?_<;>repeat' (first |exact trivial |exact rfl |exact ⟨_,rfl,rfl,rfl,Nat.le_refl _,fun _ _=>rfl⟩ |exact ⟨_,rfl,rfl,rfl,fun _ _=>rfl⟩ |exact ⟨_,rfl,rfl,rfl⟩ |exact ⟨_,rfl,rfl⟩ |refine ⟨_,rfl,rfl,rfl,by omega,fun k hk => ?_⟩ |refine ⟨?_,?_⟩ |fail))
   ·exact Nat.le_refl _
   ·exact fun k hk=>Aj rfl (fun _ _=>by rw [Nat.zero_add]) hk
  ·have h4':i<aH n:=xW
   (refine xG ?_)
   refine wD <| aJ <| aP ⟨⟨(i,aH n,false::l),h4',by dsimp only;omega,by simp only [List.length_cons];omega,?_⟩,by dsimp only;omega,?_⟩
   ·dsimp only
    rw [← ht,iy (n:=n) (by omega),if_pos h4',List.append_assoc];rfl
   rw [h4,Nat.add_comm 1]
   ((try dsimp only);refine aN.dH [0,1,15] hC ?_ ?_<;>repeat' (first |exact trivial |exact rfl |exact ⟨_,rfl,rfl,rfl,Nat.le_refl _,fun _ _=>rfl⟩ |exact ⟨_,rfl,rfl,rfl,fun _ _=>rfl⟩ |exact ⟨_,rfl,rfl,rfl⟩ |exact ⟨_,rfl,rfl⟩ |refine ⟨_,rfl,rfl,rfl,by omega,fun k hk => ?_⟩ |refine ⟨?_,?_⟩ |fail))
   ·exact Nat.le_refl _
   ·exact fun k hk=>Aj rfl (fun _ _=>by rw [Nat.zero_add]) hk
 ·have h3':n≤1:=xW
  rw [nV h3',List.nil_append] at ht
  (refine xG ?_)
  refine wD <| bW <| aS <| aI <| ak <| xI ?_
  rw [ht]
  (refine xB ?_)
  exact wD (Ends.made (.inr rfl) (aN.refl _) rfl (Nat.le_refl _) rfl)
def upTo (x:H8) (i n:Nat) (p:Nat→H8) (k:Nat):H8:=XD (yh x) ((bN i n).take k) (qY p k)
theorem Ga {x:H8} {i n:Nat} {p:Nat→H8} {k:Nat} (hk:k<(bN i n).length):upTo x i n p (k + 1)=TI (upTo x i n p k) ((bN i n).getD k false) (p k):=by
 unfold upTo
 rw [List.take_add_one,vY]
 have:(bN i n)[k]?.toList=[(bN i n).getD k false]:=by
  rw [List.getElem?_eq_getElem hk,List.getD_eq_getElem?_getD,List.getElem?_eq_getElem hk];rfl
 rw [this]
 exact qh _ _ _ _ _ (by rw [qG,List.length_take];omega)
def WE (root h:H8) (i n L:Nat) (p:Nat→H8) (k:Nat):St :=
 ⟨[none,none,none,none,none,some (XV.sv (.ptr 6 0 0 0)),none,none,none,none,none,some (XV.sv (.slc 7 1 0 L)),some (XV.sv (.ptr 8 0 0 0))]++List.replicate 27 none++[some (XV.sv (.slc 4 8 0 L)),some (XV.int .i64 L),some (XV.int .i64 k)]++List.replicate 18 none,
  [(4,.ro 8 L (bG p)),(5,.ext bJ),(6,.cells 29 (root.cells.map .raw)),(7,.vec 4 1 L (vI (bN i n))),(8,.cells 29 (h.cells.map .raw))],9⟩
set_option maxHeartbeats 2000000 in
theorem LQ (root x:H8) (i n L:Nat) (p:Nat→H8) (hi:i<n) (hn:n≤65536) (hL:L≤1000000000):Reads Tryz.prog 217 [.plain root.x,.plain x.x,.plain (.one (.raw (.int .i64 i))),.plain (.one (.raw (.int .i64 n))),.row 8 L (bG p)] [bJ] (XV.bool (leads root x i n p L)):=by
 refine Reads.of Tryz.aA Tryz.func217 rfl _ _ _ rfl rfl (fun C hC => ?_)
 (replace hC:C.n0=6:=hC;change av _ _ _ ⟨_,_,6⟩ _)
 refine xK 4 ?_
 (refine kE ?_ ?_;(first |refine decide_eq_false ?_ |rw [beq_eq_false_iff_ne] |rw [bne_eq_false_iff_eq]);exact xW;refine xG ?_)
 (refine kE ?_ ?_;(first |refine decide_eq_false ?_ |rw [beq_eq_false_iff_ne] |rw [bne_eq_false_iff_eq]);exact xW;refine xG ?_)
 (refine kE ?_ ?_;(first |refine decide_eq_false ?_ |rw [beq_eq_false_iff_ne] |rw [bne_eq_false_iff_eq]);exact xW;refine xG ?_)
 (refine kE ?_ ?_;(first |refine decide_eq_false ?_ |rw [beq_eq_false_iff_ne] |rw [bne_eq_false_iff_eq]);exact xW;refine xG ?_)
 refine xC rfl Tryz.func233 rfl ((Qh i n hi hn).at [] ⟨ah rfl,ah rfl,trivial⟩ trivial) ?_
 refine wC (fun h1 => ?_) (fun h1 => ?_)
 ·have h1':¬ L=(bN i n).length:=by
   intro e;rw [← e] at h1;simp at h1
  (refine xG ?_)
  refine wD <| aV <| Ends.plain (.inr rfl) rfl ?_
  have:leads root x i n p L=false:=by unfold leads;rw [decide_eq_false h1'];rfl
  rw [this]
 ·have h1':L=(bN i n).length:=by
   have:((bN i n).length:Int)=(L:Int):=by simpa using h1
   omega
  (refine xG ?_)
  refine wD <| ak ?_
  refine xK 1 ?_
  refine xC rfl Tryz.func234 rfl ((RI x).at [5] ⟨ah rfl,trivial⟩ ⟨bD (c:=5) rfl rfl,trivial⟩) ?_
  refine wD <| ak <| av.seq ?_
  refine xK 1 ?_
  rw [← h1']
  refine wD <| ak <| av.block ?_
  refine av.loop (α:={ k:Nat // k≤L }) (fun k=>WE root (upTo x i n p k.1) i n L p k.1) (fun k=>L - k.1) ⟨0,Nat.zero_le _⟩ ?_ ?_
  ·((try dsimp only);exact xE [0,1,2,3,4,5,6,26,35] hC)
  rintro ⟨k,hk⟩
  dsimp only
  refine xK 2 ?_
  refine wC (fun h2 => ?_) (fun h2 => ?_)
  ·(refine xG ?_)
   have h2':k<L:=xW
   have hw:IntKind.i64.wrap ((k:Int) + 1)=((k + 1:Nat):Int):=xW
   refine wD <| ak <| av.seq <| av.block <| xI ?_
   (refine xB ?_)
   (repeat (refine wN ?_ ?_;exact xW;refine xG ?_))
   simp only [Nat.zero_add,Int.toNat_natCast]
   refine wC (fun h3 => ?_) (fun h3 => ?_)
   ·have h3':(bN i n).getD k false=true:=h3
    have hs:=Ga (x:=x) (p:=p) (k:=k) (i:=i) (n:=n) (by omega)
    rw [h3'] at hs
    (refine xG ?_)
    refine xC rfl Tryz.func235 rfl ((Jd (p k) (upTo x i n p k)).at [5] ⟨ah rfl,ah rfl,trivial⟩ ⟨bD (c:=5) rfl rfl,trivial⟩) ?_
    refine wD <| aJ <| ak <| xI ?_
    (refine xB ?_)
    refine wD <| aP ⟨⟨k + 1,h2'⟩,by dsimp only;omega,?_⟩
    rw [hw]
    dsimp only
    rw [hs]
    ((try dsimp only);exact xE [0,1,2,3,4,5,6,7,8] hC)
   ·have h3':(bN i n).getD k false=false:=h3
    have hs:=Ga (x:=x) (p:=p) (k:=k) (i:=i) (n:=n) (by omega)
    rw [h3'] at hs
    (refine xG ?_)
    refine xC rfl Tryz.func235 rfl ((Jd (upTo x i n p k) (p k)).at [5] ⟨ah rfl,ah rfl,trivial⟩ ⟨bD (c:=5) rfl rfl,trivial⟩) ?_
    refine wD <| aJ <| ak <| xI ?_
    (refine xB ?_)
    refine wD <| aP ⟨⟨k + 1,h2'⟩,by dsimp only;omega,?_⟩
    rw [hw]
    dsimp only
    rw [hs]
    ((try dsimp only);exact xE [0,1,2,3,4,5,6,7,8] hC)
  ·(refine xG ?_)
   have h2':k=L:=xW
   subst h2'
   refine wD <| bW <| aS <| aI <| ak <| xI ?_
   (refine xB ?_)
   (refine wP _ _ (uW pV rfl (upTo x i n p k) root rfl rfl) ?_;refine xZ ?_)
   refine wD (Ends.plain (.inr rfl) rfl ?_)
   have:leads root x i n p k=decide (upTo x i n p k=root):=by
    unfold leads upTo
    rw [decide_eq_true h1',Bool.true_and,h1',List.take_length]
   rw [this]
end Go.Proofs.YtnpkdoggfnlapaaGreatDoor
