/- Parts SxZu Tab Money Ua Ha Hb Hc Hd. -/
import Derived.Test.YtnpkdoggfnlapaaGreatDoorG11
import Derived.Test.YtnpkdoggfnlapaaGreatDoorG03
import Derived.Test.YtnpkdoggfnlapaaGreatDoorG06
import Derived.Test.YtnpkdoggfnlapaaGreatDoorG04
import Derived.Test.YtnpkdoggfnlapaaGreatDoorG05
import Derived.Test.YtnpkdoggfnlapaaGreatDoorG09
import Derived.Test.YtnpkdoggfnlapaaGreatDoorRows
set_option linter.unusedSimpArgs false
set_option linter.unusedVariables false
namespace Go.Sx
open Go.RowKit
theorem av.VP {P:Program} {C:Ctx} {cd:Code} {slots:List (Option XV)} {mem:Mem} {nx:Nat} {Q:Exit→St→Prop} {v e sz n:Nat} {f:Nat→List Value} (t j0:Nat) {cs:List SV} (ht:dD slots t=some (.cv (.agg cs))) (hj:cs[j0]? = some (.slc v sz 0 n)) (hm:mem.get v=some (.vec e sz n f))
  (h:∀ p:Option Addr×Nat,av P C cd ⟨om slots t (some (.cv (.agg (cs.set j0 (.raw (.slice p.1 n p.2)))))),(nx,.abs (dP 1 (fun _=>[.row sz n f]) fun _ _=>p))::mem.del v,nx + 1⟩ Q):av P C cd ⟨slots,mem,nx⟩ Q:=by
 intro a w hs
 obtain ⟨β,ow,g1,g2,g3,g4,g5⟩:=hs
 have hv:=g1.mem v _ hm
 obtain ⟨mW,har,hrel⟩:=g1.slots t _ ht
 obtain ⟨y0,hy0,hsl⟩:=hrel.get j0 _ hj
 have hvn:v<nx:=by simpa using (g2.mem v _ hm).1
 simp only [Holds] at hv
 have hnone:∀ k,ow k≠some nx:=fun k e=>by
  have:=g5 k nx e
  simp only [Nat.blt_eq] at this
  omega
 let ow':Nat→Option Nat:=fun k=>if ow k=some v then some nx else ow k
 let β':Nat→Loc:=fun x=>if x=nx then ⟨0,0,0,false,fun _=>0⟩ else β x
 have hβ:∀ x,Nat.blt x nx=true→β' x=β x:=fun x hx=>by
  simp only [Nat.blt_eq] at hx
  simp only [β'];rw [if_neg (by omega)]
 have hown:∀ k,ow' k=some nx↔ow k=some v:=by
  intro k
  simp only [ow']
  split
  ·rename_i h1;exact ⟨fun _=>h1,fun _=>rfl⟩
  ·rename_i h1;exact ⟨fun e=>absurd e (hnone k),fun e=>absurd e h1⟩
 have hother:∀ x k,x≠v→x≠nx→(ow' k=some x↔ow k=some x):=by
  intro x k e1 e2
  simp only [ow']
  split
  ·rename_i h1
   rw [h1]
   simp only [Option.some.injEq]
   exact ⟨fun e=>absurd e.symm e2,fun e=>absurd e.symm e1⟩
  ·exact Iff.rfl
 have up:∀ i,Nat.blt i nx=true→Nat.blt i (nx + 1)=true:=fun i hi=>by simp only [Nat.blt_eq] at hi ⊢;omega
 simp only [SV.rel] at hsl
 have hp:∃ p:Option Addr×Nat,y0 = .slice p.1 n p.2∧∃ u,AC.at w (fun k=>ow k=some v) (.row sz n f) p u:=by
  by_cases hnil:(β v).nil=true
  ·rw [if_pos hnil] at hv hsl
   obtain ⟨h1,_,h2⟩:=hsl
   exact ⟨(none,0),by rw [h1,h2],_,rfl,.inl ⟨rfl,h2⟩⟩
  ·rw [if_neg hnil] at hv hsl
   obtain ⟨ad,h1,h2,h3⟩:=hsl
   obtain ⟨v1,v2,v3,v4,arr,v5,v6,v7⟩:=hv
   refine ⟨(some ad,(β v).cap),by rw [h1,Nat.sub_zero],_,rfl,.inr ⟨ad,(β v).blk,0,rfl,v3,fun h0 => ?_,v2,fun k hk => ?_⟩⟩
   ·rw [h3 h0]
    simp [Loc.addr,v1]
   ·obtain ⟨w1,w2⟩:=v7 k hk
    refine ⟨w1,fun j u hj => ?_⟩
    have:=w2 j u hj
    simp [World.cell?,v5,this]
 obtain ⟨p,hp1,u,hp2⟩:=hp
 have g4':C.n0≤nx:=g4
 have htl:t<slots.length:=by
  cases hlt:decide (t<slots.length) with
  | true=>exact of_decide_eq_true hlt
  | false=>rw [yj (of_decide_eq_false hlt)] at ht;cases ht
 refine h p a w ⟨β',ow',⟨g1.defers,?_,fun t' X hX => ?_,fun c' ch hc' => ?_,fun k hk => ?_⟩,⟨fun t' X hX => ?_,fun c' ch hc' => ?_⟩,⟨g3.os,g3.tape,g3.output,g3.size,fun k e1 e2 => ?_,fun x hx => ?_⟩,Nat.le_succ_of_le g4,fun k c' hk => ?_⟩
 ·rw [g1.size];exact (eY _ _ _).symm
 ·rw [dZ] at hX
  by_cases htt:t'=t
  ·rw [if_pos htt,if_pos htl] at hX
   cases hX
   rw [htt]
   exact ⟨mW,har,bg.set j0 _ y0 (bg.congr hβ (g2.slots t _ ht) hrel) hy0 hp1⟩
  ·rw [if_neg htt] at hX
   exact XV.aW hβ (g2.slots t' X hX) (g1.slots t' X hX)
 ·simp only [Mem.get,aL] at hc'
  by_cases hcn':nx=c'
  ·simp only [hcn',decide_true,cond_true,Option.some.injEq] at hc'
   subst hc'
   have e0:β' c'=⟨0,0,0,false,fun _=>0⟩:=by simp only [β'];rw [if_pos hcn'.symm]
   simp only [Holds]
   rw [e0]
   refine ⟨rfl,rfl,fun k hk => ?_,fun i hi j x hx => ?_⟩
   ·rw [← hcn'] at hk
    exact g1.wf k (by rw [(hown k).1 hk];simp)
   ·match j with
    | 0 =>
     simp only [List.getElem?_cons_zero,Option.some.injEq] at hx
     subst hx
     exact ⟨u,AC.jk (x := .row sz n f) (p:=p) (v:=u) (fun k hk=>by rw [← hcn'];exact (hown k).2 hk) (fun _ _=>rfl) hp2⟩
    | j + 1=>simp at hx
  ·simp only [hcn',decide_false,cond_false,Mem.eP] at hc'
   split at hc'
   ·cases hc'
   ·rename_i hne
    exact Holds.keep (g2.mem c' ch hc').2 hβ (hβ c' (g2.mem c' ch hc').1) (fun _ k=>hother c' k hne (fun e=>hcn' e.symm)) (fun _ k hn=>by simp [ow',hn]) (g1.mem c' ch hc')
 ·simp only [ow'] at hk
  split at hk
  ·rename_i h1;exact g1.wf k (by rw [h1];simp)
  ·exact g1.wf k hk
 ·rw [dZ] at hX
  by_cases htt:t'=t
  ·rw [if_pos htt,if_pos htl] at hX
   cases hX
   exact List.all_eq_true.2 fun y hy=>(List.mem_or_eq_of_mem_set hy).elim (fun h=>SV.aG up (List.all_eq_true.1 (g2.slots t _ ht) y h)) fun e=>by rw [e];rfl
  ·rw [if_neg htt] at hX
   exact XV.aG up (g2.slots t' X hX)
 ·simp only [Mem.get,aL] at hc'
  by_cases hcn':nx=c'
  ·simp only [hcn',decide_true,cond_true,Option.some.injEq] at hc'
   subst hc'
   exact ⟨by simp only [Nat.blt_eq];omega,rfl⟩
  ·simp only [hcn',decide_false,cond_false,Mem.eP] at hc'
   split at hc'
   ·cases hc'
   ·obtain ⟨n1,n2⟩:=g2.mem c' ch hc'
    exact ⟨up _ n1,Chunk.aG up n2⟩
 ·obtain ⟨e3,e4⟩:=g3.keep k e1 e2
  exact ⟨e3,by simp [ow',e4]⟩
 ·rw [hβ x (by simp only [Nat.blt_eq];omega)]
  exact g3.beta x hx
 ·simp only [ow'] at hk
  split at hk
  ·cases hk;simp only [Nat.blt_eq];omega
  ·exact up _ (g5 k c' hk)
theorem Ends.Sn {C:Ctx} {T:aU} {rs:List ResultVar} {k1 n0:Nat} {X v:XV} {S S':St} {e:Exit} {l:List Chunk} (he:e = .normal∨e = .ret) (hE:aN C S S') (hr:tK T S' rs=some v) (hv:v=X) (hk:l.length≤k1) (hg:Gets S'.mem (List.range l.length) l) :
  Ends C T rs k1 n0 ⟨X,Bb 0 l,none⟩ e S:=by
 obtain ⟨hl,h⟩:=hg.at
 refine ⟨he,_,hE,by rw [hr,hv],fun i ch hi => ?_,fun i ch h=>by cases h⟩
 obtain ⟨-,h2⟩:=sN _ _ _ _ hi
 rw [Nat.sub_zero] at h2
 have hlt:=(List.getElem?_eq_some_iff.1 h2).1
 exact ⟨by omega,h i i ch (by rw [List.getElem?_range hlt]) h2⟩
end Go.Sx
namespace Go.Proofs.YtnpkdoggfnlapaaGreatDoor
open Go.Sx
def Tryz.tab:List (Nat×pO):=[
 (2,{ size:=1,bytes:=8,agg:=false,zero:=[.int .i64 0],desc := .int .i64 }),
 (3,{ size:=1,bytes:=8,agg:=false,zero:=[.int .i64 0],desc := .int .i64 }),
 (4,{ size:=1,bytes:=1,agg:=false,zero:=[.bool false],desc := .bool }),
 (5,{ size:=1,bytes:=1,agg:=false,zero:=[.int .u8 0],desc := .int .u8 }),
 (9,{ size:=1,bytes:=16,agg:=false,zero:=[.string ByteArray.empty],desc := .str }),
 (12,{ size:=1,bytes:=8,agg:=false,zero:=[.int .u64 0],desc := .int .u64 }),
 (21,{ size:=1,bytes:=4,agg:=false,zero:=[.int .i32 0],desc := .int .i32 }),
 (25,{ size:=1,bytes:=2,agg:=false,zero:=[.int .u16 0],desc := .int .u16 }),
 (84,{ size:=1,bytes:=8,agg:=false,zero:=[.int .u64 0],desc := .int .u64 }),
 (225,{ size:=1,bytes:=4,agg:=false,zero:=[.int .u32 0],desc := .int .u32 }),
 (229,{ size:=1,bytes:=8,agg:=false,zero:=[.int .u64 0],desc := .int .u64 }),
 (22,{ size:=1,bytes:=24,agg:=false,zero:=[.slice none 0 0],desc := .slice 25 }),
 (23,{ size:=2,bytes:=48,agg:=true,zero:=[.slice none 0 0,.slice none 0 0],desc := .struct [(22,0),(22,1)] }),
 (24,{ size:=2,bytes:=48,agg:=true,zero:=[.slice none 0 0,.slice none 0 0],desc := .struct [(22,0),(22,1)] }),
 (27,{ size:=1,bytes:=8,agg:=false,zero:=[.map none],desc := .map 29 4 }),
 (28,{ size:=8,bytes:=8,agg:=true,zero:=List.replicate 8 (.int .u8 0),desc := .array 8 5 }),
 (29,{ size:=8,bytes:=8,agg:=true,zero:=List.replicate 8 (.int .u8 0),desc := .array 8 5 }),
 (30,{ size:=10,bytes:=24,agg:=true,zero:=List.replicate 8 (.int .u8 0)++[.int .i64 0,.int .i64 0],desc := .struct [(29,0),(3,8),(3,9)] }),
 (31,{ size:=10,bytes:=24,agg:=true,zero:=List.replicate 8 (.int .u8 0)++[.int .i64 0,.int .i64 0],desc := .struct [(29,0),(3,8),(3,9)] }),
 (35,{ size:=1,bytes:=24,agg:=false,zero:=[.slice none 0 0],desc := .slice 223 }),
 (36,{ size:=1,bytes:=24,agg:=false,zero:=[.slice none 0 0],desc := .slice 59 }),
 (37,{ size:=1,bytes:=24,agg:=false,zero:=[.slice none 0 0],desc := .slice 150 }),
 (38,{ size:=1,bytes:=24,agg:=false,zero:=[.slice none 0 0],desc := .slice 29 }),
 (39,{ size:=4,bytes:=48,agg:=true,zero:=[.int .i64 0,.int .i64 0,.int .i64 0]++[.slice none 0 0],desc := .struct [(3,0),(3,1),(3,2),(38,3)] }),
 (40,{ size:=4,bytes:=48,agg:=true,zero:=[.int .i64 0,.int .i64 0,.int .i64 0]++[.slice none 0 0],desc := .struct [(3,0),(3,1),(3,2),(38,3)] }),
 (41,{ size:=1,bytes:=24,agg:=false,zero:=[.slice none 0 0],desc := .slice 192 }),
 (42,{ size:=21,bytes:=88,agg:=true,zero:=[.int .i64 0,.int .i64 0,.int .i64 0]++List.replicate 16 (.int .u8 0)++[.slice none 0 0,.slice none 0 0],desc := .struct [(3,0),(3,1),(3,2),(29,3),(29,11),(36,19),(41,20)] }),
 (43,{ size:=21,bytes:=88,agg:=true,zero:=[.int .i64 0,.int .i64 0,.int .i64 0]++List.replicate 16 (.int .u8 0)++[.slice none 0 0,.slice none 0 0],desc := .struct [(3,0),(3,1),(3,2),(29,3),(29,11),(36,19),(41,20)] }),
 (44,{ size:=128,bytes:=128,agg:=true,zero:=List.replicate 128 (.int .u8 0),desc := .array 16 29 }),
 (45,{ size:=140,bytes:=168,agg:=true,zero:=[.int .i64 0,.int .i64 0]++List.replicate 8 (.int .u8 0)++[.int .i64 0,.int .i64 0]++List.replicate 128 (.int .u8 0),desc := .struct [(3,0),(3,1),(31,2),(44,12)] }),
 (46,{ size:=140,bytes:=168,agg:=true,zero:=[.int .i64 0,.int .i64 0]++List.replicate 8 (.int .u8 0)++[.int .i64 0,.int .i64 0]++List.replicate 128 (.int .u8 0),desc := .struct [(3,0),(3,1),(31,2),(44,12)] }),
 (47,{ size:=170,bytes:=392,agg:=true,zero:=[.int .i64 0,.int .i64 0]++[.slice none 0 0,.slice none 0 0,.slice none 0 0]++[.int .i64 0,.int .i64 0,.int .i64 0]++[.slice none 0 0]++[.int .i64 0,.int .i64 0,.int .i64 0]++List.replicate 16 (.int .u8 0)++[.slice none 0 0,.slice none 0 0]++[.int .i64 0,.int .i64 0]++List.replicate 8 (.int .u8 0)++[.int .i64 0,.int .i64 0]++List.replicate 128 (.int .u8 0),desc := .struct [(3,0),(3,1),(35,2),(36,3),(37,4),(40,5),(43,9),(46,30)] }),
 (48,{ size:=170,bytes:=392,agg:=true,zero:=[.int .i64 0,.int .i64 0]++[.slice none 0 0,.slice none 0 0,.slice none 0 0]++[.int .i64 0,.int .i64 0,.int .i64 0]++[.slice none 0 0]++[.int .i64 0,.int .i64 0,.int .i64 0]++List.replicate 16 (.int .u8 0)++[.slice none 0 0,.slice none 0 0]++[.int .i64 0,.int .i64 0]++List.replicate 8 (.int .u8 0)++[.int .i64 0,.int .i64 0]++List.replicate 128 (.int .u8 0),desc := .struct [(3,0),(3,1),(35,2),(36,3),(37,4),(40,5),(43,9),(46,30)] }),
 (50,{ size:=1,bytes:=8,agg:=false,zero:=[.pointer none],desc := .ptr }),
 (51,{ size:=1,bytes:=8,agg:=false,zero:=[.pointer none],desc := .ptr }),
 (54,{ size:=1,bytes:=8,agg:=false,zero:=[.pointer none],desc := .ptr }),
 (56,{ size:=1,bytes:=8,agg:=false,zero:=[.int .i64 0],desc := .int .i64 }),
 (58,{ size:=9,bytes:=16,agg:=true,zero:=List.replicate 8 (.int .u8 0)++[.int .i64 0],desc := .struct [(29,0),(3,8)] }),
 (59,{ size:=9,bytes:=16,agg:=true,zero:=List.replicate 8 (.int .u8 0)++[.int .i64 0],desc := .struct [(29,0),(3,8)] }),
 (60,{ size:=11,bytes:=32,agg:=true,zero:=List.replicate 8 (.int .u8 0)++[.int .i64 0,.int .i64 0]++[.bool false],desc := .struct [(59,0),(3,9),(4,10)] }),
 (61,{ size:=11,bytes:=32,agg:=true,zero:=List.replicate 8 (.int .u8 0)++[.int .i64 0,.int .i64 0]++[.bool false],desc := .struct [(59,0),(3,9),(4,10)] }),
 (64,{ size:=9,bytes:=16,agg:=true,zero:=List.replicate 8 (.int .u8 0)++[.int .i64 0],desc := .struct [(29,0),(3,8)] }),
 (65,{ size:=9,bytes:=16,agg:=true,zero:=List.replicate 8 (.int .u8 0)++[.int .i64 0],desc := .struct [(29,0),(3,8)] }),
 (66,{ size:=1,bytes:=24,agg:=false,zero:=[.slice none 0 0],desc := .slice 3 }),
 (67,{ size:=42,bytes:=232,agg:=true,zero:=[.int .i64 0,.int .i64 0,.int .i64 0]++[.slice none 0 0]++List.replicate 5 (.int .i64 0)++[.bool false]++[.int .i64 0]++List.replicate 8 (.int .u8 0)++[.bool false]++[.int .i64 0,.int .i64 0,.int .i64 0]++List.replicate 16 (.int .u8 0)++[.slice none 0 0,.slice none 0 0,.slice none 0 0],desc := .struct [(40,0),(3,4),(3,5),(3,6),(3,7),(3,8),(4,9),(3,10),(29,11),(4,19),(43,20),(66,41)] }),
 (68,{ size:=42,bytes:=232,agg:=true,zero:=[.int .i64 0,.int .i64 0,.int .i64 0]++[.slice none 0 0]++List.replicate 5 (.int .i64 0)++[.bool false]++[.int .i64 0]++List.replicate 8 (.int .u8 0)++[.bool false]++[.int .i64 0,.int .i64 0,.int .i64 0]++List.replicate 16 (.int .u8 0)++[.slice none 0 0,.slice none 0 0,.slice none 0 0],desc := .struct [(40,0),(3,4),(3,5),(3,6),(3,7),(3,8),(4,9),(3,10),(29,11),(4,19),(43,20),(66,41)] }),
 (73,{ size:=1,bytes:=24,agg:=false,zero:=[.slice none 0 0],desc := .slice 5 }),
 (74,{ size:=1,bytes:=8,agg:=false,zero:=[.pointer none],desc := .ptr }),
 (75,{ size:=1,bytes:=24,agg:=false,zero:=[.slice none 0 0],desc := .slice 65 }),
 (76,{ size:=1,bytes:=24,agg:=false,zero:=[.slice none 0 0],desc := .slice 162 }),
 (77,{ size:=2,bytes:=48,agg:=true,zero:=[.slice none 0 0,.slice none 0 0],desc := .struct [(75,0),(76,1)] }),
 (78,{ size:=2,bytes:=48,agg:=true,zero:=[.slice none 0 0,.slice none 0 0],desc := .struct [(75,0),(76,1)] }),
 (79,{ size:=1,bytes:=24,agg:=false,zero:=[.slice none 0 0],desc := .slice 4 }),
 (82,{ size:=2,bytes:=4,agg:=true,zero:=[.int .u16 0,.int .u16 0],desc := .array 2 25 }),
 (86,{ size:=4,bytes:=32,agg:=true,zero:=List.replicate 4 (.int .i64 0),desc := .array 4 3 }),
 (91,{ size:=1,bytes:=24,agg:=false,zero:=[.slice none 0 0],desc := .slice 95 }),
 (94,{ size:=6,bytes:=80,agg:=true,zero:=[.int .i64 0,.int .i64 0,.int .i64 0]++[.slice none 0 0,.slice none 0 0]++[.int .u8 0],desc := .struct [(3,0),(3,1),(3,2),(66,3),(73,4),(5,5)] }),
 (95,{ size:=6,bytes:=80,agg:=true,zero:=[.int .i64 0,.int .i64 0,.int .i64 0]++[.slice none 0 0,.slice none 0 0]++[.int .u8 0],desc := .struct [(3,0),(3,1),(3,2),(66,3),(73,4),(5,5)] }),
 (104,{ size:=2,bytes:=2,agg:=true,zero:=[.int .u8 0,.int .u8 0],desc := .array 2 5 }),
 (106,{ size:=1,bytes:=24,agg:=false,zero:=[.slice none 0 0],desc := .slice 109 }),
 (107,{ size:=1,bytes:=24,agg:=true,zero:=[.slice none 0 0],desc := .struct [(106,0)] }),
 (108,{ size:=1,bytes:=24,agg:=true,zero:=[.slice none 0 0],desc := .struct [(106,0)] }),
 (109,{ size:=42,bytes:=232,agg:=true,zero:=[.int .i64 0,.int .i64 0,.int .i64 0]++[.slice none 0 0]++List.replicate 5 (.int .i64 0)++[.bool false]++[.int .i64 0]++List.replicate 8 (.int .u8 0)++[.bool false]++[.int .i64 0,.int .i64 0,.int .i64 0]++List.replicate 16 (.int .u8 0)++[.slice none 0 0,.slice none 0 0,.slice none 0 0],desc := .struct [(40,0),(3,4),(3,5),(3,6),(3,7),(3,8),(4,9),(3,10),(29,11),(4,19),(43,20),(66,41)] }),
 (115,{ size:=3,bytes:=6,agg:=true,zero:=[.int .u16 0,.int .u16 0,.int .u16 0],desc := .array 3 25 }),
 (123,{ size:=1,bytes:=8,agg:=false,zero:=[.pointer none],desc := .ptr }),
 (128,{ size:=1,bytes:=8,agg:=false,zero:=[.map none],desc := .map 65 61 }),
 (129,{ size:=1,bytes:=24,agg:=false,zero:=[.slice none 0 0],desc := .slice 236 }),
 (130,{ size:=3,bytes:=40,agg:=true,zero:=[.map none]++[.slice none 0 0]++[.int .i64 0],desc := .struct [(128,0),(129,1),(3,2)] }),
 (131,{ size:=3,bytes:=40,agg:=true,zero:=[.map none]++[.slice none 0 0]++[.int .i64 0],desc := .struct [(128,0),(129,1),(3,2)] }),
 (137,{ size:=1,bytes:=24,agg:=false,zero:=[.slice none 0 0],desc := .slice 68 }),
 (138,{ size:=1,bytes:=24,agg:=true,zero:=[.slice none 0 0],desc := .struct [(137,0)] }),
 (139,{ size:=1,bytes:=24,agg:=true,zero:=[.slice none 0 0],desc := .struct [(137,0)] }),
 (149,{ size:=11,bytes:=32,agg:=true,zero:=[.int .i64 0,.int .i64 0]++List.replicate 8 (.int .u8 0)++[.int .i64 0],desc := .struct [(3,0),(3,1),(29,2),(3,10)] }),
 (150,{ size:=11,bytes:=32,agg:=true,zero:=[.int .i64 0,.int .i64 0]++List.replicate 8 (.int .u8 0)++[.int .i64 0],desc := .struct [(3,0),(3,1),(29,2),(3,10)] }),
 (162,{ size:=11,bytes:=32,agg:=true,zero:=List.replicate 8 (.int .u8 0)++[.int .i64 0,.int .i64 0]++[.bool false],desc := .struct [(59,0),(3,9),(4,10)] }),
 (173,{ size:=1,bytes:=24,agg:=false,zero:=[.slice none 0 0],desc := .slice 73 }),
 (174,{ size:=32,bytes:=32,agg:=true,zero:=List.replicate 32 (.int .u8 0),desc := .array 32 5 }),
 (176,{ size:=2,bytes:=48,agg:=true,zero:=[.slice none 0 0,.slice none 0 0],desc := .struct [(66,0),(38,1)] }),
 (177,{ size:=2,bytes:=48,agg:=true,zero:=[.slice none 0 0,.slice none 0 0],desc := .struct [(66,0),(38,1)] }),
 (188,{ size:=24,bytes:=24,agg:=true,zero:=List.replicate 24 (.int .u8 0),desc := .array 3 29 }),
 (189,{ size:=281,bytes:=288,agg:=true,zero:=[.int .i64 0]++List.replicate 280 (.int .u8 0),desc := .struct [(3,0),(44,1),(44,129),(188,257)] }),
 (190,{ size:=281,bytes:=288,agg:=true,zero:=[.int .i64 0]++List.replicate 280 (.int .u8 0),desc := .struct [(3,0),(44,1),(44,129),(188,257)] }),
 (191,{ size:=282,bytes:=296,agg:=true,zero:=[.int .i64 0,.int .i64 0]++List.replicate 280 (.int .u8 0),desc := .struct [(3,0),(190,1)] }),
 (192,{ size:=282,bytes:=296,agg:=true,zero:=[.int .i64 0,.int .i64 0]++List.replicate 280 (.int .u8 0),desc := .struct [(3,0),(190,1)] }),
 (202,{ size:=1,bytes:=8,agg:=false,zero:=[.pointer none],desc := .ptr }),
 (222,{ size:=298,bytes:=312,agg:=true,zero:=List.replicate 8 (.int .u8 0)++[.int .i64 0]++List.replicate 8 (.int .u8 0)++[.int .i64 0]++List.replicate 280 (.int .u8 0),desc := .struct [(65,0),(29,9),(190,17)] }),
 (223,{ size:=298,bytes:=312,agg:=true,zero:=List.replicate 8 (.int .u8 0)++[.int .i64 0]++List.replicate 8 (.int .u8 0)++[.int .i64 0]++List.replicate 280 (.int .u8 0),desc := .struct [(65,0),(29,9),(190,17)] }),
 (226,{ size:=8,bytes:=32,agg:=true,zero:=List.replicate 8 (.int .u32 0),desc := .array 8 225 }),
 (227,{ size:=64,bytes:=256,agg:=true,zero:=List.replicate 64 (.int .u32 0),desc := .array 64 225 }),
 (235,{ size:=21,bytes:=56,agg:=true,zero:=List.replicate 8 (.int .u8 0)++[.int .i64 0]++List.replicate 8 (.int .u8 0)++[.int .i64 0,.int .i64 0]++[.bool false,.bool false],desc := .struct [(65,0),(61,9),(4,20)] }),
 (236,{ size:=21,bytes:=56,agg:=true,zero:=List.replicate 8 (.int .u8 0)++[.int .i64 0]++List.replicate 8 (.int .u8 0)++[.int .i64 0,.int .i64 0]++[.bool false,.bool false],desc := .struct [(65,0),(61,9),(4,20)] }),
 (256,{ size:=1,bytes:=8,agg:=false,zero:=[.pointer none],desc := .ptr }),
 (257,{ size:=2,bytes:=32,agg:=true,zero:=[.slice none 0 0]++[.int .i64 0],desc := .struct [(73,0),(56,1)] }),
 (258,{ size:=2,bytes:=32,agg:=true,zero:=[.slice none 0 0]++[.int .i64 0],desc := .struct [(73,0),(56,1)] }),
 (259,{ size:=2,bytes:=32,agg:=true,zero:=[.slice none 0 0]++[.int .i64 0],desc := .struct [(258,0)] }),
 (260,{ size:=2,bytes:=32,agg:=true,zero:=[.slice none 0 0]++[.int .i64 0],desc := .struct [(258,0)] }),
 (283,{ size:=8,bytes:=32,agg:=true,zero:=List.replicate 8 (.int .u32 0),desc := .array 8 225 }),
 (286,{ size:=1,bytes:=8,agg:=false,zero:=[.pointer none],desc := .ptr }),
 (293,{ size:=1,bytes:=8,agg:=false,zero:=[.int .i64 0],desc := .int .i64 }),
 (301,{ size:=1,bytes:=8,agg:=false,zero:=[.pointer none],desc := .ptr }),
 (304,{ size:=1,bytes:=24,agg:=false,zero:=[.slice none 0 0],desc := .slice 225 }),
 (306,{ size:=16,bytes:=16,agg:=true,zero:=List.replicate 16 (.int .u8 0),desc := .array 2 29 }),
 (307,{ size:=256,bytes:=256,agg:=true,zero:=List.replicate 256 (.int .u8 0),desc := .array 16 306 }),
 (310,{ size:=1,bytes:=8,agg:=false,zero:=[.int .u64 0],desc := .int .u64 }),
 (314,{ size:=1,bytes:=8,agg:=false,zero:=[.pointer none],desc := .ptr }),
 (316,{ size:=1,bytes:=8,agg:=false,zero:=[.pointer none],desc := .ptr }),
 (327,{ size:=1,bytes:=8,agg:=false,zero:=[.pointer none],desc := .ptr })]
abbrev Tryz.T:aU:=F4 Tryz.tab
theorem Tryz.aA:bf Tryz.prog Tryz.T:=Xw (by kernel_rfl)
theorem Tryz.mixed:Tryz.prog.follows .mixedOrders=true:=by kernel_rfl
open Go.Sx
theorem xI {C:Sx.Ctx} {c:Code} {S:Sx.St} {Q:Exit→Sx.St→Prop} (h:kV Tryz.prog C Q (j6 (pE Tryz.T) c S Tree.done)):av Tryz.prog C c S Q:=av.of Tryz.mixed Tryz.aA h
theorem xK (n:Nat) {C:Sx.Ctx} {c:Code} {S:Sx.St} {Q:Exit→Sx.St→Prop} {q:Prop} (h:q) (e:q→nZ Tryz.prog C (K4 Tryz.prog C (IL n c) Q) (pE Tryz.T) (Qr S fun S=>run (pE Tryz.T) 4000 (.ex .normal S ((takeC n c).map Fr.seq))):=by (intro h;(conv=>arg 5;whnf);(repeat (refine xS ?_;conv=>arg 5;whnf));exact h)):av Tryz.prog C c S Q:=av.cut n Tryz.mixed Tryz.aA (e h)
set_option maxRecDepth 100000
open Go.Sx
def kX (n:Int):Bool:=decide (0≤n) && decide (n≤1125899906842624)
theorem yB (n:Int) (M:Mem) (d:Nat):aC Tryz.prog 119 [.one (.raw (.int .i64 n))] M d { v:=XV.bool (kX n) } []:=by
 refine jC Tryz.mixed Tryz.aA Tryz.func119 rfl _ _ rfl rfl (fun C _ => ?_) M d
 (refine xB ?_)
 refine wC (fun h1 => ?_) (fun h1 => ?_)
 all_goals
  (refine xG ?_)
  refine Ends.plain (.inr rfl) rfl ?_
  simp [kX,h1]
def iH (a b n:Int):Bool:=kX a && kX b && kX n
def rV (a b n:Int):List CV:=[.one (.raw (.int .i64 (if iH a b n=true then n else 0))),.one (.raw (.bool (iH a b n)))]
theorem Oe (a b n:Int) (M:Mem) (d:Nat):aC Tryz.prog 191 [.one (.raw (.int .i64 a)),.one (.raw (.int .i64 b)),.one (.raw (.int .i64 n))] M d { v := .tup (rV a b n) } []:=by
 refine jC Tryz.mixed Tryz.aA Tryz.func191 rfl _ _ rfl rfl (fun C _ => ?_) M d
 (refine xB ?_)
 refine xC rfl Tryz.func119 rfl (yB _ _ _) ?_
 refine wC (fun h1 => ?_) (fun h1 => ?_)
 ·(refine xG ?_)
  refine Ends.plain (.inr rfl) rfl ?_
  simp only [Bool.not_eq_true'] at h1
  simp [rV,iH,h1]
 ·(refine xG ?_)
  refine xC rfl Tryz.func119 rfl (yB _ _ _) ?_
  simp only [Bool.not_eq_false'] at h1
  refine wC (fun h2 => ?_) (fun h2 => ?_)
  ·(refine xG ?_)
   refine Ends.plain (.inr rfl) rfl ?_
   simp only [Bool.not_eq_true'] at h2
   simp [rV,iH,h2]
  ·simp only [Bool.not_eq_false'] at h2
   (refine xG ?_)
   refine xC rfl Tryz.func119 rfl (yB _ _ _) ?_
   refine wC (fun h3 => ?_) (fun h3 => ?_)
   ·(refine xG ?_)
    refine Ends.plain (.inr rfl) rfl ?_
    simp only [Bool.not_eq_true'] at h3
    simp [rV,iH,h3]
   ·simp only [Bool.not_eq_false'] at h3
    (refine xG ?_)
    refine Ends.plain (.inr rfl) rfl ?_
    simp [rV,iH,h1,h2,h3]
theorem BA (a b:Int) (M:Mem) (d:Nat):aC Tryz.prog 154 [.one (.raw (.int .i64 a)),.one (.raw (.int .i64 b))] M d { v := .tup (rV a b (IntKind.i64.wrap (a + b))) } []:=by
 refine jC Tryz.mixed Tryz.aA Tryz.func154 rfl _ _ rfl rfl (fun C _ => ?_) M d
 (refine xB ?_)
 refine xC rfl Tryz.func191 rfl (Oe _ _ _ _ _) ?_
 exact Ends.plain (.inr rfl) rfl rfl
set_option maxRecDepth 100000
open Go.Sx
def u8 (x:UInt8):Value := .int .u8 (x.toNat:Int)
def i64 (x:Int64):Value := .int .i64 x.toInt
theorem zl (x:UInt8):(Lit.int .u8 (x.toNat:Int)).wf=true:=by
 have:=x.toNat_lt
 have e1:IntKind.u8.min=0:=rfl
 have e2:IntKind.u8.max=255:=rfl
 simp [Lit.wf,e1,e2]
 omega
theorem RD (x:Int64):(Lit.int .i64 x.toInt).wf=true:=by
 have h1:=x.le_toInt
 have h2:=x.toInt_lt
 have e1:IntKind.i64.min = -9223372036854775808:=rfl
 have e2:IntKind.i64.max=9223372036854775807:=rfl
 simp [Lit.wf,e1,e2]
 omega
structure H8 where
 (b0 b1 b2 b3 b4 b5 b6 b7:UInt8)
 deriving DecidableEq,Inhabited
def H8.cells (h:H8):List Value:=[u8 h.b0,u8 h.b1,u8 h.b2,u8 h.b3,u8 h.b4,u8 h.b5,u8 h.b6,u8 h.b7]
structure Pt where
 tx:H8
 no:Int64
 deriving DecidableEq,Inhabited
def Pt.cells (p:Pt):List Value:=[u8 p.tx.b0,u8 p.tx.b1,u8 p.tx.b2,u8 p.tx.b3,u8 p.tx.b4,u8 p.tx.b5,u8 p.tx.b6,u8 p.tx.b7,i64 p.no]
def Pt.v (p:Pt):Value := .agg p.cells.toArray
structure bF where
 to:H8
 amt:Int64
 height:Int64
 base:Bool
 deriving DecidableEq,Inhabited
def bF.cells (c:bF):List Value:=[u8 c.to.b0,u8 c.to.b1,u8 c.to.b2,u8 c.to.b3,u8 c.to.b4,u8 c.to.b5,u8 c.to.b6,u8 c.to.b7,i64 c.amt,i64 c.height,.bool c.base]
def bF.v (c:bF):Value := .agg c.cells.toArray
def EM:bF:=⟨⟨0,0,0,0,0,0,0,0⟩,0,0,false⟩
structure Stp where
 p:Pt
 c:bF
 added:Bool
 deriving DecidableEq,Inhabited
def Stp.cells (s:Stp):List Value:=[u8 s.p.tx.b0,u8 s.p.tx.b1,u8 s.p.tx.b2,u8 s.p.tx.b3,u8 s.p.tx.b4,u8 s.p.tx.b5,u8 s.p.tx.b6,u8 s.p.tx.b7,i64 s.p.no,
 u8 s.c.to.b0,u8 s.c.to.b1,u8 s.c.to.b2,u8 s.c.to.b3,u8 s.c.to.b4,u8 s.c.to.b5,u8 s.c.to.b6,u8 s.c.to.b7,i64 s.c.amt,i64 s.c.height,.bool s.c.base,.bool s.added]
theorem dN {a b:UInt8} (h:u8 a=u8 b):a=b:=by
 simp only [u8,Value.int.injEq,true_and] at h
 exact UInt8.toNat_inj.1 (by omega)
theorem Bt {a b:Int64} (h:i64 a=i64 b):a=b:=by
 simp only [i64,Value.int.injEq,true_and] at h
 exact Int64.toInt_inj.1 h
theorem Pt.inj (a b:Pt) (h:a.v=b.v):a=b:=by
 have h:a.cells=b.cells:=by
  have:=congrArg (fun v=>v.cells.toList) h
  simpa [Pt.v,Value.cells] using this
 obtain ⟨⟨_,_,_,_,_,_,_,_⟩,_⟩:=a
 obtain ⟨⟨_,_,_,_,_,_,_,_⟩,_⟩:=b
 simp only [Pt.cells,List.cons.injEq] at h
 obtain ⟨h0,h1,h2,h3,h4,h5,h6,h7,h8,_⟩:=h
 rw [dN h0,dN h1,dN h2,dN h3,dN h4,dN h5,dN h6,dN h7,Bt h8]
theorem WR:(65:TypeId)<Tryz.prog.types.size:=of_decide_eq_true (by kernel_rfl)
theorem NM:Tryz.prog.keyTypeAt 3 65=true:=by kernel_rfl
theorem laid:laidOutB Tryz.prog=true:=by kernel_rfl
theorem SE:WideMaps.KeyLaw Tryz.prog 65:=deep_law_laid laid (m:=3) (by omega) WR NM (by rw [Tryz.underlying65])
theorem SC (p:Pt):∃ l,keyOf Tryz.prog 65 p.v=some l:=by
 have hf:p.v.formed Tryz.prog 65=true:=by kernel_rfl
 have hk:Tryz.prog.keyType 65=true:=by kernel_rfl
 have hl:∀ m,∃ ls,Tryz.prog.keyLits (m + 3) 65 p.cells=some ls:=by
  intro m
  have c0:Tryz.prog.cellsOf 65=9:=by kernel_rfl
  have c1:Tryz.prog.cellsOf 29=8:=by kernel_rfl
  have c2:Tryz.prog.cellsOf 5=1:=by kernel_rfl
  have c3:Tryz.prog.cellsOf 3=1:=by kernel_rfl
  have w0:=zl p.tx.b0
  have w1:=zl p.tx.b1
  have w2:=zl p.tx.b2
  have w3:=zl p.tx.b3
  have w4:=zl p.tx.b4
  have w5:=zl p.tx.b5
  have w6:=zl p.tx.b6
  have w7:=zl p.tx.b7
  have w8:=RD p.no
  simp [Program.keyLits,Tryz.underlying65,Tryz.underlying29,Tryz.underlying5,Tryz.underlying3,c0,c1,c2,c3,Pt.cells,u8,i64,List.range,List.range.loop,w0,w1,w2,w3,w4,w5,w6,w7,w8]
 have hs:Tryz.prog.types.size + 1=(Tryz.prog.types.size - 2) + 3:=by kernel_rfl
 obtain ⟨ls,h⟩:=hl (Tryz.prog.types.size - 2)
 refine ⟨.string (keyBytes ls),?_⟩
 unfold keyOf
 rw [Tryz.underlying65]
 simp only [hf,hk,Bool.and_self,if_true]
 rw [hs]
 have e:p.v.cells.toList=p.cells:=by simp [Pt.v,Value.cells]
 rw [e,h]
 rfl
theorem YW:NZ Tryz.prog 65 Pt.v:=NZ.of (Maps.Keyed.of_law SE) Pt.inj SC
set_option maxRecDepth 100000
open Go.Sx
def u32 (x:Int):Value := .int .u32 x
theorem AY (op:BinOp) (a b:Int):0≤fA op .u64 a b:=by
 unfold fA
 split<;>(rw [IntKind.wrap_u64];omega)
def Vl (k:Int):Int:=fA .and .u64 (IntKind.u64.wrap k) 31
def rotL (x k:Int):Int:=fA .or .u32 (tO .u32 x (Vl k)) (iN .u32 x (IntKind.u64.wrap (32 - Vl k)))
theorem PV (x k:Int) (M:Mem) (d:Nat):aC Tryz.prog 245 [.one (.raw (.int .u32 x)),.one (.raw (.int .i64 k))] M d { v:=XV.int .u32 (rotL x k) } []:=by
 refine jC Tryz.mixed Tryz.aA Tryz.func245 rfl _ _ rfl rfl (fun C _ => ?_) M d
 (refine xB ?_)
 refine wN (AY _ _ _) ?_
 (refine xG ?_)
 refine wN (by rw [IntKind.wrap_u64];omega) ?_
 (refine xG ?_)
 exact Ends.plain (.inr rfl) rfl rfl
def rotR (x n:Int):Int:=rotL x (IntKind.i64.wrap (0 - n))
theorem gL (x n:Int) (M:Mem) (d:Nat):aC Tryz.prog 232 [.one (.raw (.int .u32 x)),.one (.raw (.int .i64 n))] M d { v:=XV.int .u32 (rotR x n) } []:=by
 refine jC Tryz.mixed Tryz.aA Tryz.func232 rfl _ _ rfl rfl (fun C _ => ?_) M d
 (refine xB ?_)
 refine xC rfl Tryz.func245 rfl (PV _ _ _ _) ?_
 exact Ends.plain (.inr rfl) rfl rfl
def turn (x n:Int):Int:=fA .or .u32 (iN .u32 x n) (tO .u32 x (IntKind.u64.wrap (32 - n)))
theorem fG (x n:Int) (hn:0≤n) (M:Mem) (d:Nat):aC Tryz.prog 151 [.one (.raw (.int .u32 x)),.one (.raw (.int .u64 n))] M d { v:=XV.int .u32 (turn x n) } []:=by
 refine jC Tryz.mixed Tryz.aA Tryz.func151 rfl _ _ rfl rfl (fun C _ => ?_) M d
 (refine xB ?_)
 refine wN hn ?_
 (refine xG ?_)
 refine wN (by rw [IntKind.wrap_u64];omega) ?_
 (refine xG ?_)
 exact Ends.plain (.inr rfl) rfl rfl
theorem Gm (k:IntKind) (a b:Int):fA .or k a b=fA .or k b a:=by simp only [fA,BitVec.or_comm]
theorem lW (x:Int) {n:Int} (h:Vl (IntKind.i64.wrap (0 - n))=IntKind.u64.wrap (32 - n)) (h2:IntKind.u64.wrap (32 - Vl (IntKind.i64.wrap (0 - n)))=n):turn x n=rotR x n:=by
 unfold rotR rotL turn
 rw [h2,h]
 exact Gm _ _ _
theorem VW (x:Int):turn x 2=rotR x 2:=lW x (by decide) (by decide)
theorem VX (x:Int):turn x 6=rotR x 6:=lW x (by decide) (by decide)
theorem VY (x:Int):turn x 7=rotR x 7:=lW x (by decide) (by decide)
theorem TW (x:Int):turn x 11=rotR x 11:=lW x (by decide) (by decide)
theorem TY (x:Int):turn x 13=rotR x 13:=lW x (by decide) (by decide)
theorem T9 (x:Int):turn x 17=rotR x 17:=lW x (by decide) (by decide)
theorem Ua (x:Int):turn x 18=rotR x 18:=lW x (by decide) (by decide)
theorem Ub (x:Int):turn x 19=rotR x 19:=lW x (by decide) (by decide)
theorem Uc (x:Int):turn x 22=rotR x 22:=lW x (by decide) (by decide)
theorem Ud (x:Int):turn x 25=rotR x 25:=lW x (by decide) (by decide)
def w32 (a b:Int):Int:=IntKind.u32.wrap (a + b)
def YC (x:Int):Int:=fA .xor .u32 (fA .xor .u32 (rotR x 7) (rotR x 18)) (iN .u32 x 3)
def sg1 (x:Int):Int:=fA .xor .u32 (fA .xor .u32 (rotR x 17) (rotR x 19)) (iN .u32 x 10)
def push (w:Int) (x:UInt8):Int:=fA .or .u32 (tO .u32 w 8) (IntKind.u32.wrap (x.toNat:Int))
def word (b:Nat→UInt8) (i:Nat):Int:=push (push (push (push 0 (b (4 * i))) (b (4 * i + 1))) (b (4 * i + 2))) (b (4 * i + 3))
def mix (w:Nat→Int) (n:Nat):Int:=w32 (w32 (w32 (w (n - 16)) (w (n - 7))) (YC (w (n - 15)))) (sg1 (w (n - 2)))
def sched (b:Nat→UInt8):Nat→Nat→Int
 | 0=>fun _=>0
 | n + 1=>fun k=>if k=n then (if n<16 then word b n else mix (sched b n) n) else sched b n k
theorem lK (b:Nat→UInt8) (n k:Nat):sched b (n + 1) k=if k=n then (if n<16 then word b n else mix (sched b n) n) else sched b n k:=rfl
theorem AR (b:Nat→UInt8):∀ n k,n≤k→sched b n k=0
 | 0,k,_=>rfl
 | n + 1,k,h=>by rw [lK,if_neg (by omega)];exact AR b n k (by omega)
theorem VF (x:BitVec 32):BitVec.ofInt 32 (x.toNat:Int)=x:=by
 apply BitVec.eq_of_toInt_eq
 rw [BitVec.toInt_ofInt,BitVec.toInt_eq_toNat_bmod]
theorem Yb (x y:BitVec 32):fA .or .u32 (x.toNat:Int) (y.toNat:Int)=((x ||| y).toNat:Int):=by
 show IntKind.u32.wrap (((BitVec.ofInt 32 (x.toNat:Int) ||| BitVec.ofInt 32 (y.toNat:Int)).toNat:Int))=_
 rw [VF,VF,IntKind.wrap_u32]
 have:=(x ||| y).isLt
 exact Int.emod_eq_of_lt (by omega) (by omega)
theorem MJ (x:BitVec 32) (n:Nat) (hn:n<32):tO .u32 (x.toNat:Int) (n:Int)=((x <<< n).toNat:Int):=by
 show IntKind.u32.wrap ((x.toNat:Int) * 2 ^ (min ((n:Int).toNat) 32))=_
 have e:min ((n:Int).toNat) 32=n:=by omega
 rw [e,IntKind.wrap_u32,BitVec.toNat_shiftLeft,Nat.shiftLeft_eq,Int.natCast_emod,Int.natCast_mul,Int.natCast_pow]
 rfl
def b32 (x:UInt8):BitVec 32:=BitVec.ofNat 32 x.toNat
theorem Uz (x:UInt8):IntKind.u32.wrap (x.toNat:Int)=((b32 x).toNat:Int):=by
 have:=x.toNat_lt
 rw [IntKind.wrap_u32,b32,BitVec.toNat_ofNat]
 omega
def V4 (b:Nat→UInt8) (i:Nat):Int :=
 fA .or .u32 (fA .or .u32 (fA .or .u32 (tO .u32 (IntKind.u32.wrap ((b (4 * i)).toNat:Int)) 24) (tO .u32 (IntKind.u32.wrap ((b (4 * i + 1)).toNat:Int)) 16)) (tO .u32 (IntKind.u32.wrap ((b (4 * i + 2)).toNat:Int)) 8)) (IntKind.u32.wrap ((b (4 * i + 3)).toNat:Int))
theorem Un (b:Nat→UInt8) (i:Nat):V4 b i=word b i:=by
 have h8:∀ x:BitVec 32,tO .u32 (x.toNat:Int) 8=((x <<< 8).toNat:Int):=fun x=>MJ x 8 (by decide)
 have h16:∀ x:BitVec 32,tO .u32 (x.toNat:Int) 16=((x <<< 16).toNat:Int):=fun x=>MJ x 16 (by decide)
 have h24:∀ x:BitVec 32,tO .u32 (x.toNat:Int) 24=((x <<< 24).toNat:Int):=fun x=>MJ x 24 (by decide)
 have h0:(0:Int)=((0:BitVec 32).toNat:Int):=rfl
 simp only [V4,word,push,Uz]
 rw [h0]
 simp only [h8,h16,h24,Yb]
 congr 2
 generalize b32 (b (4 * i))=p
 generalize b32 (b (4 * i + 1))=q
 generalize b32 (b (4 * i + 2))=r
 generalize b32 (b (4 * i + 3))=s
 apply BitVec.eq_of_getLsbD_eq
 intro j hj
 simp only [BitVec.getLsbD_or,BitVec.getLsbD_shiftLeft]
 by_cases c8:j<8
 ·simp [c8,show j<16 by omega,show j<24 by omega]
 ·by_cases c16:j<16
  ·simp [c8,c16,show j<24 by omega,hj,show j - 8<8 by omega,show j - 8<32 by omega]
  ·by_cases c24:j<24
   ·simp [c8,c16,c24,hj,show ¬ j - 8<8 by omega,show j - 16<8 by omega,show j - 8<32 by omega,show j - 8 - 8=j - 16 by omega]
   ·simp [c8,c16,c24,hj,show ¬ j - 8<8 by omega,show ¬ j - 16<8 by omega,show j - 8<32 by omega,show j - 16<32 by omega,show j - 8 - 8=j - 16 by omega,show j - 16 - 8=j - 24 by omega,Bool.or_assoc]
theorem Uk (a b:Int):w32 a b=w32 b a:=by unfold w32;rw [Int.add_comm]
theorem Gb (a b c:Int):w32 (w32 a b) c=w32 a (w32 b c):=by
 unfold w32
 simp only [IntKind.wrap_u32]
 omega
theorem U7 (a b c d:Int):w32 (w32 (w32 a c) b) d=w32 (w32 (w32 a b) c) d:=by
 rw [Gb a c b,Uk c b,← Gb]
set_option maxRecDepth 100000
open Go.Sx
def cO (b:Nat→UInt8):Nat→List Value:=fun i=>[u8 (b i)]
def bq (w:Nat→Int):Nat→List Value:=fun i=>[u32 (w i)]
theorem Ql (w:Nat→Int) (i k:Nat) (x:Int):Af (bq w) i 0 [.int .u32 x] k=bq (fun k=>if k=i then x else w k) k:=by
 by_cases h:k=i
 ·subst h;rw [wS (by rfl)];simp [bq,u32]
 ·rw [iG h];simp [bq,h]
theorem XE (w:Nat→UInt8) (i k:Nat) (x:UInt8):Af (cO w) i 0 [u8 x] k=cO (fun k=>if k=i then x else w k) k:=by
 by_cases h:k=i
 ·subst h;rw [wS (by rfl)];simp [cO]
 ·rw [iG h];simp [cO,h]
def Sr (b:Nat→UInt8) (i:Nat):Nat→Int
 | 0=>0
 | j + 1=>push (Sr b i j) (b (4 * i + j))
def X7 (b:Nat→UInt8) (i j:Nat):Nat→Int:=fun k=>if k=i then Sr b i j else sched b i k
def TG (b:Nat→UInt8) (i:Nat):St:=⟨[some (XV.sv (.slc 0 1 0 64)),none,some (XV.sv (.ptr 1 0 0 0)),some (XV.sv (.ptr 2 0 0 0)),none,none,none,none,none,some (XV.int .i64 i)]++List.replicate 65 none,
 [(0,.ro 1 64 (cO b)),(1,.cells 227 ((List.replicate 64 (u32 0)).map .raw)),(2,.vec 227 1 64 (bq (sched b i)))],3⟩
def Qb (b:Nat→UInt8) (i j:Nat):St:=⟨[some (XV.sv (.slc 0 1 0 64)),none,some (XV.sv (.ptr 1 0 0 0)),some (XV.sv (.ptr 2 0 0 0)),some (XV.int .i64 i),none,none,none,none,some (XV.int .i64 i),none,none,none,none,none,none,none,none,none,none,some (XV.sv (.slc 0 1 (4 * i) 4)),some (XV.int .i64 (4:Nat)),some (XV.int .i64 j)]++List.replicate 52 none,
 [(0,.ro 1 64 (cO b)),(1,.cells 227 ((List.replicate 64 (u32 0)).map .raw)),(2,.vec 227 1 64 (bq (X7 b i j)))],3⟩
def Vs (b:Nat→UInt8):List AD:=[.row 1 64 (cO b)]
set_option maxHeartbeats 2000000 in
theorem MS (b:Nat→UInt8):Reads Tryz.prog 231 (Vs b) [] (.cv (.agg ((fZ (bq (sched b 64)) 0 64).map .raw))):=by
 refine Reads.of Tryz.aA Tryz.func231 rfl _ _ _ rfl (mR _ _) (fun C hC => ?_)
 have hC:C.n0=1:=hC
 refine xK 2 ?_
 refine wD <| ak <| av.ent (aN.mW (c:=2) 1 64 (u32 0) (f:=bq (sched b 0)) rfl rfl rfl (by decide) rfl (by rw [hC];decide) (fun _ _=>rfl)) ?_
 refine av.seq ?_
 refine xK 1 ?_
 refine wD <| ak <| av.block ?_
 refine av.loop (α:={ i:Nat // i≤64 }) (fun i=>TG b i.1) (fun i=>64 - i.1) ⟨0,Nat.zero_le _⟩ ?_ ?_
 ·exact aN.ren [0,1,2] (by decide) rfl (fun i hi=>by replace hi:=Nat.lt_of_lt_of_eq hi hC;revert i;decide) (Nat.le_trans (Nat.le_of_eq hC) (by decide)) rfl (by repeat' (first |exact trivial |exact rfl |refine ⟨?_,?_⟩ |fail)) (by repeat' (first |exact trivial |exact ⟨_,rfl,rfl,rfl,Nat.le_refl _,fun _ _=>rfl⟩ |exact ⟨_,rfl,rfl,rfl,fun _ _=>rfl⟩ |exact ⟨_,rfl,rfl,rfl⟩ |exact ⟨_,rfl,rfl⟩ |refine ⟨?_,?_⟩ |fail))
 rintro ⟨i,hi⟩
 dsimp only
 refine xK 2 ?_
 refine wC (fun h1 => ?_) (fun h1 => ?_)
 ·(refine xG ?_)
  have h1':i<64:=xW
  refine wD <| ak <| av.seq <| av.block ?_
  refine xK 1 ?_
  refine wD <| ak <| av.seq ?_
  refine xK 1 ?_
  refine wD <| ak <| av.cond (b:=decide ((i:Int)<16)) rfl (fun h2 => ?_) (fun h2 => ?_)
  ·have h2':i<16:=xW
   refine av.seq ?_
   have e4:IntKind.i64.wrap (4 * (i:Int))=((4 * i:Nat):Int):=xW
   have e5:IntKind.i64.wrap (((4 * i:Nat):Int) + 4)=((4 * i + 4:Nat):Int):=xW
   refine xK 1 ?_
   simp only [e4,e5]
   (refine wN ?_ ?_;exact xW;refine xG ?_)
   refine wD <| ak <| av.block ?_
   refine av.loop (α:={ j:Nat // j≤4 }) (fun j=>Qb b i j.1) (fun j=>4 - j.1) ⟨0,Nat.zero_le _⟩ ?_ ?_
   ·have hl:(((4 * i + 4:Nat):Int).toNat - ((4 * i:Nat):Int).toNat)=4:=by omega
    have hlo:0 + ((4 * i:Nat):Int).toNat=4 * i:=by omega
    rw [hl,hlo]
    ((try dsimp only);refine aN.dH [0,1,2] hC ?_ ?_<;>repeat' (first |exact trivial |exact rfl |exact ⟨_,rfl,rfl,rfl,Nat.le_refl _,fun _ _=>rfl⟩ |exact ⟨_,rfl,rfl,rfl,fun _ _=>rfl⟩ |exact ⟨_,rfl,rfl,rfl⟩ |exact ⟨_,rfl,rfl⟩ |refine ⟨_,rfl,rfl,rfl,by omega,fun k hk => ?_⟩ |refine ⟨?_,?_⟩ |fail))
    simp only [bq,X7]
    split
    ·rename_i e;rw [e,AR b i i (Nat.le_refl _)];rfl
    ·rfl
   rintro ⟨j,hj⟩
   dsimp only
   refine xK 2 ?_
   refine wC (fun h3 => ?_) (fun h3 => ?_)
   ·(refine xG ?_)
    have h3':j<4:=xW
    refine wD <| ak <| av.seq <| av.block <| xI ?_
    (refine xB ?_)
    (repeat (refine wN ?_ ?_;exact xW;refine xG ?_))
    refine wD <| aJ <| ak <| xI ?_
    (refine xB ?_)
    have hw:IntKind.i64.wrap ((j:Int) + 1)=((j + 1:Nat):Int):=xW
    refine wD <| aP ⟨⟨j + 1,h3'⟩,by dsimp only;omega,?_⟩
    rw [hw]
    ((try dsimp only);refine aN.dH [0,1,2] hC ?_ ?_<;>repeat' (first |exact trivial |exact rfl |exact ⟨_,rfl,rfl,rfl,Nat.le_refl _,fun _ _=>rfl⟩ |exact ⟨_,rfl,rfl,rfl,fun _ _=>rfl⟩ |exact ⟨_,rfl,rfl,rfl⟩ |exact ⟨_,rfl,rfl⟩ |refine ⟨_,rfl,rfl,rfl,by omega,fun k hk => ?_⟩ |refine ⟨?_,?_⟩ |fail))
    simp only [Int.toNat_natCast]
    rw [Ql]
    simp only [bq,X7]
    split
    ·rename_i e;subst e;simp [Sr,push,X7]
    ·rfl
   ·(refine xG ?_)
    have h3':j=4:=xW
    subst h3'
    refine wD <| bW <| aS <| aI <| ak <| xI ?_
    (refine xB ?_)
    refine wD <| bW <| aI <| ak <| xI ?_
    (refine xB ?_)
    have hw:IntKind.i64.wrap ((i:Int) + 1)=((i + 1:Nat):Int):=xW
    refine wD <| aP ⟨⟨i + 1,h1'⟩,by dsimp only;omega,?_⟩
    rw [hw]
    ((try dsimp only);refine aN.dH [0,1,2] hC ?_ ?_<;>repeat' (first |exact trivial |exact rfl |exact ⟨_,rfl,rfl,rfl,Nat.le_refl _,fun _ _=>rfl⟩ |exact ⟨_,rfl,rfl,rfl,fun _ _=>rfl⟩ |exact ⟨_,rfl,rfl,rfl⟩ |exact ⟨_,rfl,rfl⟩ |refine ⟨_,rfl,rfl,rfl,by omega,fun k hk => ?_⟩ |refine ⟨?_,?_⟩ |fail))
    simp only [bq,X7,lK]
    split
    ·rfl
    ·rfl
  ·have h2':16≤i:=xW
   refine av.skip (ak ?_)
   refine xI ?_
   (refine xB ?_)
   (repeat (refine wN ?_ ?_;exact xW;refine xG ?_))
   have e15:IntKind.i64.wrap ((i:Int) - 15)=((i - 15:Nat):Int):=xW
   have e16:IntKind.i64.wrap ((i:Int) - 16)=((i - 16:Nat):Int):=xW
   have e7:IntKind.i64.wrap ((i:Int) - 7)=((i - 7:Nat):Int):=xW
   have e2:IntKind.i64.wrap ((i:Int) - 2)=((i - 2:Nat):Int):=xW
   refine xC rfl Tryz.func232 rfl (gL _ _ _ _) ?_
   refine xC rfl Tryz.func232 rfl (gL _ _ _ _) ?_
   refine xC rfl Tryz.func232 rfl (gL _ _ _ _) ?_
   refine xC rfl Tryz.func232 rfl (gL _ _ _ _) ?_
   (repeat (refine wN ?_ ?_;exact xW;refine xG ?_))
   simp only [e15,e16,e7,e2,Int.toNat_natCast]
   refine wD <| aJ <| ak <| xI ?_
   (refine xB ?_)
   have hw:IntKind.i64.wrap ((i:Int) + 1)=((i + 1:Nat):Int):=xW
   refine wD <| aP ⟨⟨i + 1,h1'⟩,by dsimp only;omega,?_⟩
   rw [hw]
   ((try dsimp only);refine aN.dH [0,1,2] hC ?_ ?_<;>repeat' (first |exact trivial |exact rfl |exact ⟨_,rfl,rfl,rfl,Nat.le_refl _,fun _ _=>rfl⟩ |exact ⟨_,rfl,rfl,rfl,fun _ _=>rfl⟩ |exact ⟨_,rfl,rfl,rfl⟩ |exact ⟨_,rfl,rfl⟩ |refine ⟨_,rfl,rfl,rfl,by omega,fun k hk => ?_⟩ |refine ⟨?_,?_⟩ |fail))
   rw [Ql]
   simp only [bq,lK]
   split
   ·rw [if_neg (by omega)];rfl
   ·rfl
 ·(refine xG ?_)
  have h1':i=64:=xW
  subst h1'
  refine wD <| bW <| aS <| aI <| ak <| xI ?_
  (refine xB ?_)
  (repeat (refine wN ?_ ?_;exact xW;refine xG ?_))
  exact wD (Ends.plain (.inr rfl) rfl rfl)
set_option maxRecDepth 100000
open Go.Sx
def zY:Nat→Int
 | 0=>1779033703 |1=>3144134277 |2=>1013904242 |3=>2773480762 |4=>1359893119 |5=>2600822924 |6=>528734635 |7=>1541459225 |_=>0
def NW:List Int:=[1116352408,1899447441,3049323471,3921009573,961987163,1508970993,2453635748,2870763221,3624381080,310598401,607225278,1426881987,1925078388,2162078206,2614888103,3248222580,3835390401,4022224774,264347078,604807628,770255983,1249150122,1555081692,1996064986,2554220882,2821834349,2952996808,3210313671,3336571891,3584528711,113926993,338241895,666307205,773529912,1294757372,1396182291,1695183700,1986661051,2177026350,2456956037,2730485921,2820302411,3259730800,3345764771,3516065817,3600352804,4094571909,275423344,430227734,506948616,659060556,883997877,958139571,1322822218,1537002063,1747873779,1955562222,2024104815,2227730452,2361852424,2428436474,2756734187,3204031479,3329325298]
def stepW (i:Nat):Int:=NW.getD i 0
def bJ:iX:=Qv 0 1 64 (bq stepW)
theorem Qc:Reads Tryz.prog 209 [] [] (.cv (.agg ((fZ (bq zY) 0 8).map .raw))):=by
 refine Reads.of Tryz.aA Tryz.func209 rfl _ _ _ rfl (mR _ _) (fun C hC => ?_)
 refine xI ?_
 (refine xB ?_)
 exact Ends.plain (.inr rfl) rfl rfl
theorem Mw:Reads Tryz.prog 150 [] [] (.cv (.agg ((fZ (bq stepW) 0 64).map .raw))):=by
 refine Reads.of Tryz.aA Tryz.func150 rfl _ _ _ rfl (mR _ _) (fun C hC => ?_)
 refine xI ?_
 (refine xB ?_)
 exact Ends.plain (.inr rfl) rfl rfl
def Xo (v:Nat→Int):Int:=fA .xor .u32 (fA .xor .u32 (rotR (v 0) 2) (rotR (v 0) 13)) (rotR (v 0) 22)
def Xp (v:Nat→Int):Int:=fA .xor .u32 (fA .xor .u32 (rotR (v 4) 6) (rotR (v 4) 11)) (rotR (v 4) 25)
def YI (v:Nat→Int):Int:=fA .xor .u32 (fA .and .u32 (v 4) (v 5)) (fA .and .u32 (fA .xor .u32 (if IntKind.u32.signed then -1 else IntKind.u32.max) (v 4)) (v 6))
def WC (v:Nat→Int):Int:=fA .xor .u32 (fA .xor .u32 (fA .and .u32 (v 0) (v 1)) (fA .and .u32 (v 0) (v 2))) (fA .and .u32 (v 1) (v 2))
def XK (v:Nat→Int) (k x:Int):Int:=w32 (w32 (w32 (w32 (v 7) (Xp v)) (YI v)) k) x
def Y6 (v:Nat→Int):Int:=w32 (Xo v) (WC v)
def VU (v:Nat→Int) (k x:Int):Nat→Int
 | 0=>w32 (XK v k x) (Y6 v)
 | 1=>v 0
 | 2=>v 1
 | 3=>v 2
 | 4=>w32 (v 3) (XK v k x)
 | 5=>v 4
 | 6=>v 5
 | 7=>v 6
 | _=>0
def lM (h:Nat→Int) (b:Nat→UInt8):Nat→Nat→Int
 | 0=>h
 | n + 1=>VU (lM h b n) (stepW n) (sched b 64 n)
def kG (h:Nat→Int) (b:Nat→UInt8):Nat→Int:=fun i=>w32 (h i) (lM h b 64 i)
def rP (h:Nat→Int) (b:Nat→UInt8) (n:Nat):Nat→Int:=fun i=>if i<n then kG h b i else h i
def Ib (v:Nat→Int):List SV:=(fZ (bq v) 0 8).map .raw
def UD (h:Nat→Int) (b:Nat→UInt8) (i:Nat):St:=⟨[some (XV.sv (.ptr 0 0 0 0)),some (XV.sv (.slc 1 1 0 64)),none,none,some (XV.sv (.ptr 3 0 0 0)),none,none,none,none,none,none,none,none,none,none,none,none,some (.cv (.agg ((fZ (bq (sched b 64)) 0 64).map .raw))),some (XV.int .i64 i)]++List.replicate 87 none,
 [(0,.vec 283 1 8 (bq h)),(1,.ro 1 64 (cO b)),(2,.ext bJ),(3,.cells 283 (Ib (lM h b i)))],4⟩
def QT (h:Nat→Int) (b:Nat→UInt8) (i:Nat):St:=⟨[some (XV.sv (.ptr 0 0 0 0)),some (XV.sv (.slc 1 1 0 64)),none,none,some (XV.sv (.ptr 3 0 0 0))]++List.replicate 86 none++[some (.cv (.agg (Ib (lM h b 64)))),some (XV.int .i64 i)]++List.replicate 13 none,
 [(0,.vec 283 1 8 (bq (rP h b i))),(1,.ro 1 64 (cO b)),(2,.ext bJ),(3,.cells 283 (Ib (lM h b 64)))],4⟩
set_option maxHeartbeats 4000000 in
theorem Oc (h:Nat→Int) (b:Nat→UInt8):fH Tryz.prog 210 (.vec 283 1 8 (bq h)) (.vec 283 1 8 (bq (kG h b))) [.row 1 64 (cO b)] [bJ] (.tup []):=by
 refine fH.of Tryz.aA Tryz.func210 rfl _ _ _ _ _ rfl rfl rfl (fun C hC => ?_)
 have hC:C.n0=3:=hC
 change av _ _ _ ⟨_,_,3⟩ _
 refine xK 1 ?_
 (repeat (refine wN ?_ ?_;exact xW;refine xG ?_))
 refine wD <| ak <| av.seq ?_
 refine xK 1 ?_
 refine xC rfl Tryz.func231 rfl ((MS b).at [1] ⟨jq rfl rfl (by decide) (fun i _=>by rw [Nat.zero_add]),trivial⟩ trivial) ?_
 refine wD <| ak <| av.block ?_
 refine av.loop (α:={ i:Nat // i≤64 }) (fun i=>UD h b i.1) (fun i=>64 - i.1) ⟨0,Nat.zero_le _⟩ ?_ ?_
 ·exact aN.ren [0,1,2,6] (by decide) rfl (fun i hi=>by replace hi:=Nat.lt_of_lt_of_eq hi hC;revert i;decide) (Nat.le_trans (Nat.le_of_eq hC) (by decide)) rfl (by repeat' (first |exact trivial |exact rfl |refine ⟨?_,?_⟩ |fail)) (by repeat' (first |exact trivial |exact ⟨_,rfl,rfl,rfl,Nat.le_refl _,fun _ _=>rfl⟩ |exact ⟨_,rfl,rfl,rfl,fun _ _=>rfl⟩ |exact ⟨_,rfl,rfl,rfl⟩ |exact ⟨_,rfl,rfl⟩ |refine ⟨?_,?_⟩ |fail))
 rintro ⟨i,hi⟩
 dsimp only
 refine xK 2 ?_
 refine wC (fun h1 => ?_) (fun h1 => ?_)
 ·(refine xG ?_)
  have h1':i<64:=xW
  refine wD <| ak <| av.seq <| av.block ?_
  refine xK 1 ?_
  (refine wP _ _ (sw Tryz.aA (bq (sched b 64)) rfl rfl rfl rfl rfl rfl (fun _ _=>rfl) rfl (by omega) (by omega) rfl) ?_;refine xZ ?_)
  refine wD <| ak ?_
  refine xK 1 ?_
  refine wD <| ak ?_
  refine xK 1 ?_
  refine xC rfl Tryz.func232 rfl (gL _ _ _ _) ?_
  refine xC rfl Tryz.func232 rfl (gL _ _ _ _) ?_
  refine xC rfl Tryz.func232 rfl (gL _ _ _ _) ?_
  (refine wP _ _ (GH Tryz.aA rfl rfl rfl rfl rfl rfl (by omega) (by omega)) ?_;refine xZ ?_)
  (refine wP _ _ (Ja Tryz.aA (q:=2) (i:=((i:Int)).toNat) rfl rfl rfl rfl rfl (by omega) rfl) ?_;refine xZ ?_)
  refine wD <| ak ?_
  refine xK 1 ?_
  refine xC rfl Tryz.func232 rfl (gL _ _ _ _) ?_
  refine xC rfl Tryz.func232 rfl (gL _ _ _ _) ?_
  refine xC rfl Tryz.func232 rfl (gL _ _ _ _) ?_
  refine wD <| ak ?_
  refine xK 1 ?_
  (refine wP _ _ (Bp Tryz.aA (k:=7) (m:=7) (g:=bq (lM h b i)) [3] rfl rfl rfl rfl rfl (by decide) rfl rfl (jw rfl rfl rfl (fun _ _=>rfl) rfl) rfl (by decide) (Nat.le_of_ble_eq_true rfl) (fun _ _=>rfl) rfl) ?_;refine xZ ?_)
  refine wD <| ak <| xI ?_
  (refine xB ?_)
  refine wD <| aJ <| ak <| xI ?_
  (refine xB ?_)
  have hw:IntKind.i64.wrap ((i:Int) + 1)=((i + 1:Nat):Int):=xW
  refine wD <| aP ⟨⟨i + 1,h1'⟩,by dsimp only;omega,?_⟩
  rw [hw]
  exact aN.ren [0,1,2,3] (by decide) rfl (fun i hi=>by replace hi:=Nat.lt_of_lt_of_eq hi hC;revert i;decide) (Nat.le_trans (Nat.le_of_eq hC) (by decide)) rfl (by repeat' (first |exact trivial |exact rfl |refine ⟨?_,?_⟩ |fail)) (by repeat' (first |exact trivial |exact ⟨_,rfl,rfl,rfl,Nat.le_refl _,fun _ _=>rfl⟩ |exact ⟨_,rfl,rfl,rfl,fun _ _=>rfl⟩ |exact ⟨_,rfl,rfl,rfl⟩ |exact ⟨_,rfl,rfl⟩ |refine ⟨?_,?_⟩ |fail))
 ·(refine xG ?_)
  have h1':i=64:=xW
  subst h1'
  refine wD <| bW <| aS <| aI <| ak ?_
  refine xK 1 ?_
  refine wD <| ak <| av.block ?_
  refine av.loop (α:={ i:Nat // i≤8 }) (fun i=>QT h b i.1) (fun i=>8 - i.1) ⟨0,Nat.zero_le _⟩ ?_ ?_
  ·exact aN.ren [0,1,2,3] (by decide) rfl (fun i hi=>by replace hi:=Nat.lt_of_lt_of_eq hi hC;revert i;decide) (Nat.le_trans (Nat.le_of_eq hC) (by decide)) rfl (by repeat' (first |exact trivial |exact rfl |refine ⟨?_,?_⟩ |fail)) (by repeat' (first |exact trivial |exact ⟨_,rfl,rfl,rfl,Nat.le_refl _,fun _ _=>rfl⟩ |exact ⟨_,rfl,rfl,rfl,fun _ _=>rfl⟩ |exact ⟨_,rfl,rfl,rfl⟩ |exact ⟨_,rfl,rfl⟩ |refine ⟨?_,?_⟩ |fail))
  rintro ⟨j,hj⟩
  dsimp only
  refine xK 2 ?_
  refine wC (fun h2 => ?_) (fun h2 => ?_)
  ·(refine xG ?_)
   have h2':j<8:=xW
   refine wD <| ak <| av.seq <| av.block <| xI ?_
   (refine xB ?_)
   (refine wP _ _ (sw Tryz.aA (bq (lM h b 64)) rfl rfl rfl rfl rfl rfl (fun _ _=>rfl) rfl (by omega) (by omega) rfl) ?_;refine xZ ?_)
   (repeat (refine wN ?_ ?_;exact xW;refine xG ?_))
   refine wD <| aJ <| ak <| xI ?_
   (refine xB ?_)
   have hw:IntKind.i64.wrap ((j:Int) + 1)=((j + 1:Nat):Int):=xW
   refine wD <| aP ⟨⟨j + 1,h2'⟩,by dsimp only;omega,?_⟩
   rw [hw]
   ((try dsimp only);refine aN.dH [0,1,2,3] hC ?_ ?_<;>repeat' (first |exact trivial |exact rfl |exact ⟨_,rfl,rfl,rfl,Nat.le_refl _,fun _ _=>rfl⟩ |exact ⟨_,rfl,rfl,rfl,fun _ _=>rfl⟩ |exact ⟨_,rfl,rfl,rfl⟩ |exact ⟨_,rfl,rfl⟩ |refine ⟨_,rfl,rfl,rfl,by omega,fun k hk => ?_⟩ |refine ⟨?_,?_⟩ |fail))
   rw [Ql]
   simp only [bq,rP,Int.toNat_natCast]
   by_cases hk2:k=j
   ·subst hk2
    rw [if_pos rfl,if_neg (Nat.lt_irrefl k),if_pos (Nat.lt_succ_self k)]
    rfl
   ·rw [if_neg hk2]
    by_cases hk3:k<j
    ·rw [if_pos hk3,if_pos (by omega)]
    ·rw [if_neg hk3,if_neg (by omega)]
  ·(refine xG ?_)
   have h2':j=8:=xW
   subst h2'
   have hf:∀ k,k<8→bq (rP h b 8) k=bq (kG h b) k:=fun k hk=>by simp [bq,rP,hk]
   refine wD <| bW <| aS <| aI ⟨.inl rfl,⟨_,(0,.vec 283 1 8 (bq (kG h b)))::_,_⟩,aN.D7 rfl hf,rfl,fun i ch hi => ?_,fun i ch hi=>by cases hi⟩
   simp only [Mem.get,aL] at hi
   by_cases hi0:0=i
   ·subst hi0
    simp only [decide_true,cond_true,Option.some.injEq] at hi
    exact ⟨by decide,by rw [← hi];rfl⟩
   ·simp [hi0] at hi
set_option maxRecDepth 100000
open Go.Sx
def bI (l:List UInt8):Nat→List Value:=cO fun i=>l.getD i 0
theorem eG {a b:List UInt8} {f g:Nat→List Value} {m i:Nat} (hm:m=a.length) (hf:∀ i,i<a.length→f i=bI a i) (hg:∀ i,i<b.length→g i=bI b i) (hi:i<a.length + b.length):eB f m g i=bI (a++b) i:=by
 subst hm
 simp only [eB,yG]
 by_cases h:i<a.length
 ·simp only [h,decide_true,cond_true]
  rw [hf i h]
  simp [bI,cO,List.getD_eq_getElem?_getD,List.getElem?_append_left h]
 ·simp only [h,decide_false,cond_false]
  rw [hg _ (by omega)]
  simp [bI,cO,List.getD_eq_getElem?_getD,List.getElem?_append_right (show a.length≤i by omega)]
theorem nE {a:List UInt8} {x:UInt8} {g:Nat→List Value} {m k:Nat} (hm:m=a.length) (hg:g 0=[u8 x]) (hk:k<a.length + 1):eB (bI a) m g k=bI (a++[x]) k :=
 eG (b:=[x]) hm (fun _ _=>rfl) (fun i hi=>by
  have:i=0:=by simp at hi;omega
  subst this
  exact hg) hk
theorem Ig {P:Nat→Prop} (h:P 0):∀ i,i<1→P i:=fun i hi=>by
 have:i=0:=by omega
 rw [this];exact h
def Short (l:List UInt8):Prop:=l.length≤1000000000
theorem EL (l:List UInt8) (hl:Short l):Makes Tryz.prog 208 [.row 1 l.length (bI l)] [] (XV.sv (.slc 0 1 0 l.length)) (.vec 5 1 l.length (bI l)):=by
 refine Makes.of Tryz.aA Tryz.func208 rfl _ _ _ _ rfl rfl rfl rfl 1 (fun C hC => ?_)
 (replace hC:C.n0=1:=hC;change av _ _ _ ⟨_,_,1⟩ _)
 refine xK 1 ?_
 refine wD <| ak <| av.sK 0 rfl (fun h0 => ?_) (fun cap hcap => ?_)
 ·obtain rfl:l=[]:=List.length_eq_zero_iff.1 h0
  refine xI ?_
  (refine xB ?_)
  refine wD (Ends.made (S':=⟨[none,none,some (XV.sv (.slc 1 1 0 0)),none,none,none,none,none],[(0,.ro 1 0 (bI [])),(1,.vec 5 1 0 (bI []))],2⟩) (.inr rfl) ((aN.nO (t:=2) rfl 5 1).trans ?_) rfl (Nat.le_refl _) rfl)
  ((try dsimp only);refine aN.dH [0,5] hC ?_ ?_<;>repeat' (first |exact trivial |exact rfl |exact ⟨_,rfl,rfl,rfl,Nat.le_refl _,fun _ _=>rfl⟩ |exact ⟨_,rfl,rfl,rfl,fun _ _=>rfl⟩ |exact ⟨_,rfl,rfl,rfl⟩ |exact ⟨_,rfl,rfl⟩ |refine ⟨_,rfl,rfl,rfl,by omega,fun k hk => ?_⟩ |refine ⟨?_,?_⟩ |fail))
  exact absurd hk (Nat.not_lt_zero _)
 ·refine xI ?_
  (refine xB ?_)
  have hb:l.length≤1000000000:=hl
  (refine wP _ _ (aD Tryz.aA rfl rfl rfl rfl rfl [0,4] (aR rfl rfl (Nat.le_refl _) rfl) (sJ (lo:=0) rfl rfl rfl (Nat.zero_mul _).symm (by omega)) rfl (fun _ _=>rfl) (by simp only [maxLen];omega) (by dsimp only;omega)) ?_;refine xZ ?_)
  simp only [Nat.zero_add]
  refine wD (Ends.made (S':=⟨[none,none,some (XV.sv (.slc 1 1 0 l.length)),none,none,none,none,none],[(0,.ro 1 l.length (bI l)),(1,.vec 5 1 l.length (bI l))],2⟩) (.inr rfl) ?_ rfl (Nat.le_refl _) rfl)
  ((try dsimp only);exact xE [0,6] hC)
end Go.Proofs.YtnpkdoggfnlapaaGreatDoor
