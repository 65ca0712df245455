/- Part 3 of the proof: Ins, Lay2, Cmp, Hash, Ln, Fast, Add64, Cad, Efb, Good, Word, Mix, Name, NameE, Csm, ModMath, Stable, Csr, ExcL, Sl2, Ty, Cd1, Str, Bkt, Bk2, Gd1, Pl1, Cd2, Cd3, Cd4, Cd5, Con, Cd6, Om1, Om2, Om3, Om4, Rt1, Rt2, Dn, Se1. -/
import Derived.Lib.Overlaps
import Derived.Lib.AppendZerosOnto
import Derived.Laws.IdiomCopy
import Derived.Laws.NewBlocks
import Derived.Laws.Externs
import Derived.Shelf.RegionOpenPlain
import Derived.Shelf.Slices.CompactI
import Derived.Test.YtcieggahhkoeeaaGreatProg
import Derived.Test.YtcieggahhkoeeaaGreatRows
import Derived.Laws.LoneSync
import Derived.Lib.MinMax
import Derived.Test.YtcieggahhkoeeaaGreatM2
open Nat renaming reduceAdd->jB,reduceSub->jC,reduceMul->jD,reduceLT->jE,reduceEqDiff->jF,reduceLeDiff->jG,reduceShiftRight->jH,reduceMod->jI
open Int renaming reduceLE->jJ,reduceLT->jK,reduceToNat->jL
set_option linter.unusedSimpArgs false
set_option linter.unusedVariables false
set_option maxRecDepth 100000
set_option maxHeartbeats 16000000
namespace Go.Proofs.YtcieggahhkoeeaaGreat.Ex
variable{P:Program}{o:Oper}{a:Act}{K:Act->World->Prop}{Q:Exit->Act->World->Prop}{w' w:World}{ops:Array Oper}
section
open Go Go.RowKit Go.Lib
theorem dR(w:World)(dT sT ty elem:TypeId)(b o dLen dCap:Nat)(a:Addr)(sLen sCap z k:Nat)(cs:List Value)
 (hu:P.underlying dT=some (.slice elem)) (hs:(P.info? elem).map (·.size)=some z) (hk:k=Nat.min sLen dLen) (hn:cs.length=k * z)
 (hsrc:∀j v,cs[j]? =some v->w.cell? (a.add j)=some v) (hc:∀j,j<cs.length->(w.cell? ⟨b,o+j,none⟩).isSome=true) (hf:∀j,j<cs.length->w.frozen? ⟨b,o+j,none⟩=false) (h1:∀v∈cs,v.oneCell'=true):
 (Builtin.copy_ #[dT,sT] ty #[.slice (some ⟨b,o,none⟩) dLen dCap,.slice (some a) sLen sCap]).run P w= .ok (goInt k) (w.setCells b o cs):=by
 have hl:=run_loadCells_list (P:=P) w a cs hsrc
 have hst:=run_storeCells_cells (P:=P) b o cs 0 w (by simpa using hc) (by simpa using hf) h1
 cases hq:P.info? elem with
 |none=>simp[hq]at hs
 |some i=>
  have hi:i.size=z:=by simpa [hq]using hs
  simp[Builtin.copy_,run_underlying hu,Builtin.lenOf,Builtin.firstCells,sizeOf,typeInfo,hq,hi,<-hk,<-hn,hl,hst]
theorem j0z(w:World)(d s:Operand)(t t':TypeId)
 (ho:o.op= .call {callee:= .builtin .copy,args:= #[d,s],argTypes:= #[t,t']}) (v u:Value) (hd:a.eval d=v) (hs:a.eval s=u) {v':Value} 
 (hr:(Builtin.copy_ #[t,t'] o.type #[v,u]).run P w= .ok v' w') (h:K (a.put o.dst v') w'):o.wp P a w K Q:=by
 unfold Oper.wp execOp
 simp only[ho,resolve,invoke,builtin,xU,KW,xT,List.map_toArray,kY,Dp,hd,hs,hr]
 exact h
theorem GZ(w:World){rest:List Oper}(hgd:o.guard=none)(d s:Operand)(t t':TypeId)
 (ho:o.op= .call {callee:= .builtin .copy,args:= #[d,s],argTypes:= #[t,t']}) (v u:Value) (hd:a.eval d=v) (hs:a.eval s=u) {v':Value} 
 (hr:(Builtin.copy_ #[t,t'] o.type #[v,u]).run P w= .ok v' w') (h:wpList P ops Q rest (a.put o.dst v') w'):wpList P ops Q (o::rest) a w:=
 wpList_plain hgd fun _ hK=>j0z w d s t t' ho v u hd hs hr (hK _ _ h)
theorem Mq{E:Prop}
 (hg:o.guard=none) (d x:Operand) (dT sT:TypeId) (hop:o.op=Op.call {callee:=Callee.builtin Builtin.copy,args:= #[d,x],argTypes:= #[dT,sT]})
 (v u:Value) (hd:a.eval d=v) (hx:a.eval x=u) {v':Value}  (hr:(Builtin.copy_ #[dT,sT] o.type #[v,u]).run P w= .ok v' w') (hK:K (a.put o.dst v') w'):
 if Region.wanted o (yielded ops a.tmps)=true then Oper.wp P o a w K Q else E:=by
 have hw:Region.wanted o (yielded ops a.tmps)=true:=by simp[Region.wanted,hg]
 rw[if_pos hw]
 unfold Oper.wp
 simp[execOp,hop,resolve,invoke,builtin,hd,hx,hr,Result.andThen]
 exact hK
theorem Lb(b:Nat)(vs:List Value)(o:Nat)(w:World)(h:∀j,j<vs.length->(w.cell? ⟨b,o+j,none⟩).isSome=true)(k:Nat)(hk:(w.cell? ⟨b,k,none⟩).isSome=true):((w.setCells b o vs).cell? ⟨b,k,none⟩).isSome=true:=by
 by_cases hin:o<=k/\k<o+vs.length
 ·have:=World.cell?_setCells_in b vs o w h (k-o) (by omega);rw[show o+(k-o)=k by omega]at this;rw[this];rfl
 ·rw[World.cell?_setCells_out b vs o w ⟨b,k,none⟩ (fun _ _=>by show k<o\/o+vs.length<=k;omega)];exact hk
theorem Yl{t e z n c r o i:Nat}{lo:Int}(ht:P.underlying t=some (.slice e))(he:(P.info? e).map (·.size)=some z)(h0:lo=(i:Int))(h1:i<=n)(h2:i<c)(h3:n<=c)(w:World):
 (Instr.sliceAt t (.slice (some ⟨r,o,none⟩) n c) (some (.int .i64 lo)) none none).run P w= .ok (.slice (some ⟨r,o+i * z,none⟩) (n-i) (c-i)) w:=by
 obtain⟨f,hi0,his⟩:∃f,P.info? e=some f/\f.size=z:=by
  cases hq:P.info? e with
  |none=>simp[hq]at he
  |some f=>exact⟨f,rfl,by simpa [hq]using he⟩
 subst h0
 have hci:¬(c=i):=by omega
 have e1:(0:Int)<=(i:Int):=by omega
 have e2:(i:Int)<=(n:Int):=by omega
 simp[Instr.sliceAt,Instr.slice,run_underlying ht,Instr.sliceBounds,run_sliceBound,sizeOf,typeInfo,hi0,his,e1,e2,hci,Addr.add]
theorem fG{t e z n c r o i:Nat}{hi:Int}(ht:P.underlying t=some (.slice e))(he:(P.info? e).map (·.size)=some z)(h0:hi=(i:Int))(h1:i<=c)(h2:0<c)(w:World):
 (Instr.sliceAt t (.slice (some ⟨r,o,none⟩) n c) none (some (.int .i64 hi)) none).run P w= .ok (.slice (some ⟨r,o,none⟩) i c) w:=by
 obtain⟨f,hi0,his⟩:∃f,P.info? e=some f/\f.size=z:=by
  cases hq:P.info? e with
  |none=>simp[hq]at he
  |some f=>exact⟨f,rfl,by simpa [hq]using he⟩
 subst h0
 have e1:(0:Int)<=(i:Int):=by omega
 have e3:(i:Int)<=(c:Int):=by omega
 simp[Instr.sliceAt,Instr.slice,run_underlying ht,Instr.sliceBounds,run_sliceBound,sizeOf,typeInfo,hi0,e1,e3,Addr.add]
set_option maxHeartbeats 4000000 in
set_option maxRecDepth 100000 in
theorem tV(b off n c i vb voff vc:Nat)(cs vs:List Value)(w:World)(hi:i<n)(hroom:n+1<=c)(hc63:c<=9223372036854775807)(hvb:vb≠b)
 (hcl:cs.length=n * 4) (hvl:vs.length=4)
 (hcs:∀j v,cs[j]? =some v->w.cell? ⟨b,off+j,none⟩=some v) (hsp:∀j,j<n * 4+4->(w.cell? ⟨b,off+j,none⟩).isSome=true) (hfz:∀j,j<n * 4+4->w.frozen? ⟨b,off+j,none⟩=false)
 (hvs:∀j v,vs[j]? =some v->w.cell? ⟨vb,voff+j,none⟩=some v) (h1c:∀v∈cs,v.oneCell'=true) (h1v:∀v∈vs,v.oneCell'=true)
 (tA tB:TypeId) (kA kB:Nat) (hsa:w.shape? vb=some (tA,kA)) (hsb:w.shape? b=some (tB,kB)) (hkB:kB≠0) (hfa:w.frozen? ⟨vb,voff,none⟩=false) (hfe:w.frozen? ⟨vb,kA,none⟩=false):
 Calls Tryz.prog 77 #[.slice (some ⟨b,off,none⟩) n c,.int .i64 i,.slice (some ⟨vb,voff,none⟩) 1 vc] w fun e w'=>
  e= .returned (.slice (some ⟨b,off,none⟩) (n+1) c)/\w'=(w.drew.setCells b (off+(i+1) * 4) (cs.drop (i * 4))).setCells b (off+i * 4) vs:=by
 have U:Tryz.prog.underlying 63=some (.slice 108):=Tryz.underlying63
 have hsz:(Tryz.prog.info? 108).map (·.size)=some 4:=by kernel_rfl
 have hsz':∀w,(Go.sizeOf 108).run Tryz.prog w= .ok 4 w:=fun w=>by
  cases hq:Tryz.prog.info? 108 with
  |none=>rw[hq]at hsz;cases hsz
  |some f=>
   rw[hq]at hsz;simp at hsz;simp[sizeOf,typeInfo,hq,hsz]
 have hov:∀lb cb,(callFunc 105 #[.slice (some ⟨vb,voff,none⟩) 1 vc,.slice (some ⟨b,off+(i+1) * 4,none⟩) lb cb]).run Tryz.prog w= .ok (.value (.bool false)) w:=fun lb cb=>by
  rw[run_callFunc_extern Tryz.func105 (by kernel_rfl) (by kernel_rfl) (by kernel_rfl) (e:=Extern.SlicesOverlaps.overlaps #[63,63] #[4]) (by kernel_rfl),
   Lib.run_overlaps_apart w 63 4 108 U 4 hsz' ⟨vb,voff,none⟩ ⟨b,off+(i+1) * 4,none⟩ 1 vc lb cb hvb tA tB kA kB hsa hsb hkB hfa hfe]
  rfl
 have hdl:(cs.drop (i * 4)).length=(n-i) * 4:=by rw[kT,hcl];omega
 have hw1:IntKind.i64.wrap ((i:Int)+1)=(i:Int)+1:=by rw[YQ];omega
 have hw2:IntKind.i64.wrap ((n:Int)+1)=(n:Int)+1:=by rw[YQ];omega
 have hgt:¬((c:Int)<(n:Int)+1):=by omega
 have s1:=fun w=>Yl (P:=Tryz.prog) (r:=b) (o:=off) (n:=n) (c:=c) (i:=i) (lo:=(i:Int)) U hsz rfl (by omega) (by omega) (by omega) w
 have s2:=fun w=>fG (P:=Tryz.prog) (r:=b) (o:=off) (n:=n) (c:=c) (i:=n+1) (hi:=(n:Int)+1) U hsz (by omega) (by omega) (by omega) w
 have s3:=fun w=>Yl (P:=Tryz.prog) (r:=b) (o:=off) (n:=n+1) (c:=c) (i:=i+1) (lo:=(i:Int)+1) U hsz (by omega) (by omega) (by omega) (by omega) w
 have s4:=fun w=>Yl (P:=Tryz.prog) (r:=b) (o:=off) (n:=n+1) (c:=c) (i:=i) (lo:=(i:Int)) U hsz rfl (by omega) (by omega) (by omega) w
 have hcp1:∀ty dc sc,(Builtin.copy_ #[63,63] ty #[.slice (some ⟨b,off+(i+1) * 4,none⟩) (n+1-(i+1)) dc,.slice (some ⟨b,off+i * 4,none⟩) (n+1-i) sc]).run Tryz.prog w.drew= .ok (goInt ((n-i:Nat):Int)) (w.drew.setCells b (off+(i+1) * 4) (cs.drop (i * 4))):=fun ty dc sc=>
  dR w.drew _ _ ty 108 b (off+(i+1) * 4) (n+1-(i+1)) dc ⟨b,off+i * 4,none⟩ (n+1-i) sc 4 (n-i) (cs.drop (i * 4)) U hsz (by simp only[Nat.min_def];split<;>omega) hdl
   (fun j v hj=>by rw[Addr.add_lit,vI];exact hcs (i * 4+j) v (by rwa [yA]at hj))
   (fun j hj=>by rw[vI];exact hsp _ (by omega)) (fun j hj=>by rw[vI];exact hfz _ (by omega)) (fun v hv=>h1c v (Yo hv))
 obtain⟨W1,hW1⟩:∃W1,W1=w.drew.setCells b (off+(i+1) * 4) (cs.drop (i * 4)):=⟨_,rfl⟩
 have hsp1:∀k,k<n * 4+4->(W1.cell? ⟨b,off+k,none⟩).isSome=true:=fun k hk=>by rw[hW1];exact Lb b _ _ _ (fun j hj=>by rw[vI];exact hsp _ (by omega)) _ (hsp k hk)
 have hcp2:∀(W:World),(∀x,W.cell? x=W1.cell? x)->(∀x,W.frozen? x=W1.frozen? x)->∀ty dc,(Builtin.copy_ #[63,63] ty #[.slice (some ⟨b,off+i * 4,none⟩) (n+1-i) dc,.slice (some ⟨vb,voff,none⟩) 1 vc]).run Tryz.prog W= .ok (goInt ((1:Nat):Int)) (W.setCells b (off+i * 4) vs):=fun W hWc hWf ty dc=>
  dR W _ _ ty 108 b (off+i * 4) (n+1-i) dc ⟨vb,voff,none⟩ 1 vc 4 1 vs U hsz (by simp only[Nat.min_def];split<;>omega) hvl
   (fun j v hj=>by rw[Addr.add_lit,hWc,hW1,World.cell?_setCells_out b _ _ _ _ (fun h _=>absurd h hvb)];exact hvs j v hj)
   (fun j hj=>by rw[hWc,vI];exact hsp1 _ (by omega)) (fun j hj=>by rw[hWf,hW1,World.frozen?_setCells,vI];exact hfz _ (by omega)) h1v
 rw[<-hW1]at hcp1
 have mixed:Tryz.prog.follows .mixedOrders=true:=by kernel_rfl
 clear hsp hfz hvs hcs h1c h1v hsa hsb hfa hfe
 go_enter Tryz.func77,Tryz.ntmps77
 go_wp2_with (simp only[hov])
 go_region_law_o (refine Mq rfl _ _ 63 63 rfl (.slice (some ⟨b,off+(i+1) * 4,none⟩) (n+1-(i+1)) (c-(i+1))) (.slice (some ⟨b,off+i * 4,none⟩) (n+1-i) (c-i)) (by simp[Act.eval,Act.put]) (by simp[Act.eval,Act.put]) (hcp1 _ _ _) ?_)
 go_wp2_with (at_builtin;refine GZ _ rfl _ _ 63 63 rfl _ _ rfl rfl (hcp2 _ (fun _=>rfl) (fun _=>rfl) _ _) ?_)
 go_ret
 exact⟨rfl,rfl⟩
def Df:Array Value:= #[.int .i64 0,.int .i64 0,.int .i64 0,.int .i64 0]
set_option maxHeartbeats 4000000 in
set_option maxRecDepth 100000 in
theorem tU(b off n c i vb voff vc:Nat)(cs vs:List Value)(w:World)(hi:i<n)(hnc:n<=c)(hroom:c<n+1)(hbig:(n+1) * 32<=140737488355328)
 (hcl:cs.length=n * 4) (hvl:vs.length=4)
 (hcs:∀j v,cs[j]? =some v->w.cell? ⟨b,off+j,none⟩=some v)
 (hvs:∀j v,vs[j]? =some v->w.cell? ⟨vb,voff+j,none⟩=some v) (h1c:∀v∈cs,v.oneCell'=true) (h1v:∀v∈vs,v.oneCell'=true):
 Calls Tryz.prog 77 #[.slice (some ⟨b,off,none⟩) n c,.int .i64 i,.slice (some ⟨vb,voff,none⟩) 1 vc] w fun e w'=>
  e= .returned (.slice (some ⟨w.heap.size,0,none⟩) (n+1) (grownCap w (n+1) c 108))/\
  w'=(((w.alloc (.cells ((cs.take (i * 4)).toArray++Builtin.zeroCells Df (n+1-i)++Builtin.zeroCells Df (grownCap w (n+1) c 108-(n+1))) 108)).drew.setCells w.heap.size (i * 4) vs).drew).setCells w.heap.size ((i+1) * 4) (cs.drop (i * 4)):=by
 have U:Tryz.prog.underlying 63=some (.slice 108):=Tryz.underlying63
 have UI:Tryz.prog.underlying 3=some (.int .i64):=by kernel_rfl
 have hI:(Tryz.prog.info? 108).map (fun f=>(f.zero,f.size,f.bytes))=some (some (.agg Df),4,32):=by kernel_rfl
 obtain⟨f,hf0,hfz,hfs,hfb⟩:∃f,Tryz.prog.info? 108=some f/\f.zero=some (.agg Df)/\f.size=4/\f.bytes=32:=by
  cases hq:Tryz.prog.info? 108 with
  |none=>rw[hq]at hI;cases hI
  |some f=>
   rw[hq]at hI;simp only[qD,jP,jV]at hI;exact⟨f,rfl,hI⟩
 have hsz:(Tryz.prog.info? 108).map (·.size)=some 4:=by rw[hf0];simp[hfs]
 have hbw:b<w.heap.size:=block_lt_of_cell (hcs 0 _ (jO (by omega)))
 have hvw:vb<w.heap.size:=block_lt_of_cell (hvs 0 _ (jO (by omega)))
 have hkk:(n:Int)+1-(i:Int)=((n+1-i:Nat):Int):=by omega
 have hik:i+(n+1-i)=n+1:=by omega
 have hold:(Builtin.firstCells f.size i (.slice (some ⟨b,off,none⟩) i c)).run Tryz.prog w.drew= .ok (cs.take (i * 4)).toArray w.drew:=by
  rw[hfs];exact run_firstCells_some w.drew 4 i ⟨b,off,none⟩ i c (cs.take (i * 4)) (by rw[zV];omega) (fun j v hj=>by
   rw[Addr.add_lit];rw[qH]at hj;split at hj
   ·exact hcs j v hj
   ·cases hj)
 have hrz:∀ty,(Builtin.append_ #[63,3] ty #[.slice (some ⟨b,off,none⟩) i c,.int .i64 ((n:Int)+1-(i:Int))]).run Tryz.prog w=
  .ok (.slice (some ⟨w.heap.size,0,none⟩) (n+1) (grownCap w (n+1) c 108)) (w.drew.alloc (.cells ((cs.take (i * 4)).toArray++Builtin.zeroCells Df (n+1-i)++Builtin.zeroCells Df (grownCap w (n+1) c 108-(n+1))) 108)):=fun ty=>by
  have h:=Lib.run_append_grow_zeros w 63 3 ty 108 f _ .i64 .i64 U UI hf0 hfz (some ⟨b,off,none⟩) i c (cs.take (i * 4)) hold (n+1-i) (by omega) (by omega) (by omega) (by omega) (by rw[hfb];omega) (by rw[hfb,hik];exact growslice_fits hroom hbig)
  rw[hik]at h
  rw[hkk]
  exact h
 obtain⟨G,hG⟩:∃G,G=grownCap w (n+1) c 108:=⟨_,rfl⟩
 obtain⟨ROW,hROW⟩:∃ROW:Array Value,ROW=(cs.take (i * 4)).toArray++Builtin.zeroCells Df (n+1-i)++Builtin.zeroCells Df (G-(n+1)):=⟨_,rfl⟩
 rw[<-hG]at hrz ⊢
 rw[<-hROW]at hrz ⊢
 have hRl:(n+1) * 4<=ROW.size:=by rw[hROW];simp[Builtin.zeroCells,Df];omega
 obtain⟨W1,hW1⟩:∃W1,W1=w.drew.alloc (.cells ROW 108):=⟨_,rfl⟩
 rw[<-hW1]at hrz
 have hN:∀j,j<(n+1) * 4->(W1.cell? ⟨w.heap.size,j,none⟩).isSome=true:=fun j hj=>by rw[hW1,World.cell?_alloc_at (w:=w.drew) ROW _ w.heap.size j rfl,Jd (by omega)];rfl
 have hNf:∀j,W1.frozen? ⟨w.heap.size,j,none⟩=false:=fun j=>by rw[hW1];exact World.frozen?_alloc_at (w:=w.drew) ROW _ w.heap.size j rfl
 have hOb:∀j v,w.cell? ⟨b,j,none⟩=some v->W1.cell? ⟨b,j,none⟩=some v:=fun j v h=>by rw[hW1,World.cell?_alloc_past (w:=w.drew) _ b j hbw];exact h
 have hOv:∀j v,w.cell? ⟨vb,j,none⟩=some v->W1.cell? ⟨vb,j,none⟩=some v:=fun j v h=>by rw[hW1,World.cell?_alloc_past (w:=w.drew) _ vb j hvw];exact h
 have hGn:n+1<=G:=by rw[hG];exact grownCap_ge w _ _ _
 have hbN:b≠w.heap.size:=by omega
 have hdl:(cs.drop (i * 4)).length=(n-i) * 4:=by rw[kT,hcl];omega
 have hcpA:∀(W:World),(∀x,W.cell? x=W1.cell? x)->(∀x,W.frozen? x=W1.frozen? x)->∀ty dc,(Builtin.copy_ #[63,63] ty #[.slice (some ⟨w.heap.size,i * 4,none⟩) (n+1-i) dc,.slice (some ⟨vb,voff,none⟩) 1 vc]).run Tryz.prog W= .ok (goInt ((1:Nat):Int)) (W.setCells w.heap.size (i * 4) vs):=fun W hWc hWf ty dc=>
  dR W _ _ ty 108 w.heap.size (i * 4) (n+1-i) dc ⟨vb,voff,none⟩ 1 vc 4 1 vs U hsz (by simp only[Nat.min_def];split<;>omega) hvl
   (fun j v hj=>by rw[Addr.add_lit,hWc];exact hOv _ v (hvs j v hj))
   (fun j hj=>by rw[hWc];exact hN _ (by omega)) (fun j hj=>by rw[hWf];exact hNf _) h1v
 have hcpB:∀(W:World),(∀x,W.cell? x=(W1.setCells w.heap.size (i * 4) vs).cell? x)->(∀x,W.frozen? x=(W1.setCells w.heap.size (i * 4) vs).frozen? x)->∀ty dc sc,(Builtin.copy_ #[63,63] ty #[.slice (some ⟨w.heap.size,(i+1) * 4,none⟩) (n+1-(i+1)) dc,.slice (some ⟨b,off+i * 4,none⟩) (n-i) sc]).run Tryz.prog W= .ok (goInt ((n-i:Nat):Int)) (W.setCells w.heap.size ((i+1) * 4) (cs.drop (i * 4))):=fun W hWc hWf ty dc sc=>
  dR W _ _ ty 108 w.heap.size ((i+1) * 4) (n+1-(i+1)) dc ⟨b,off+i * 4,none⟩ (n-i) sc 4 (n-i) (cs.drop (i * 4)) U hsz (by simp only[Nat.min_def];split<;>omega) hdl
   (fun j v hj=>by rw[Addr.add_lit,hWc,World.cell?_setCells_out _ _ _ _ _ (fun h _=>absurd h hbN),vI];exact hOb _ v (hcs (i * 4+j) v (by rwa [yA]at hj)))
   (fun j hj=>by rw[hWc];exact Lb _ _ _ _ (fun t ht=>hN _ (by omega)) _ (hN _ (by omega)))
   (fun j hj=>by rw[hWf,World.frozen?_setCells];exact hNf _) (fun v hv=>h1c v (Yo hv))
 subst hW1
 have hE1:∀x,((w.alloc (.cells ROW 108)).drew).cell? x=(w.drew.alloc (.cells ROW 108)).cell? x:=fun x=>rfl
 have hE2:∀x,((w.alloc (.cells ROW 108)).drew).frozen? x=(w.drew.alloc (.cells ROW 108)).frozen? x:=fun x=>rfl
 have hF1:∀x,(((w.alloc (.cells ROW 108)).drew.setCells w.heap.size (i * 4) vs).drew).cell? x=((w.drew.alloc (.cells ROW 108)).setCells w.heap.size (i * 4) vs).cell? x:=fun x=>rfl
 have hF2:∀x,(((w.alloc (.cells ROW 108)).drew.setCells w.heap.size (i * 4) vs).drew).frozen? x=((w.drew.alloc (.cells ROW 108)).setCells w.heap.size (i * 4) vs).frozen? x:=fun x=>rfl
 have hw1:IntKind.i64.wrap ((i:Int)+1)=(i:Int)+1:=by rw[YQ];omega
 have hw2:IntKind.i64.wrap ((n:Int)+1)=(n:Int)+1:=by rw[YQ];omega
 have hw3:IntKind.i64.wrap ((n:Int)+1-(i:Int))=(n:Int)+1-(i:Int):=by rw[YQ];omega
 have hgt:(c:Int)<(n:Int)+1:=by omega
 have s1:=fun w=>Yl (P:=Tryz.prog) (r:=b) (o:=off) (n:=n) (c:=c) (i:=i) (lo:=(i:Int)) U hsz rfl (by omega) (by omega) (by omega) w
 have s2:=fun w=>fG (P:=Tryz.prog) (r:=b) (o:=off) (n:=n) (c:=c) (i:=i) (hi:=(i:Int)) U hsz rfl (by omega) (by omega) w
 have s3:=fun W=>Yl (P:=Tryz.prog) (r:=w.heap.size) (o:=0) (n:=n+1) (c:=G) (i:=i) (lo:=(i:Int)) U hsz rfl (by omega) (by omega) (by omega) W
 have s4:=fun W=>Yl (P:=Tryz.prog) (r:=w.heap.size) (o:=0) (n:=n+1) (c:=G) (i:=i+1) (lo:=(i:Int)+1) U hsz (by omega) (by omega) (by omega) (by omega) W
 simp only[yG]at s3 s4
 have mixed:Tryz.prog.follows .mixedOrders=true:=by kernel_rfl
 clear hkk hik hold hROW hG hRl hvs hcs h1c h1v
 go_enter Tryz.func77,Tryz.ntmps77
 go_wp2_with (first
  |(at_builtin;refine Lib.wpList_append_run _ rfl _ _ _ _ rfl _ _ rfl rfl _ _ (hrz _) ?_)
  |(at_builtin;refine GZ _ rfl _ _ 63 63 rfl _ _ rfl rfl (hcpA _ hE1 hE2 _ _) ?_)
  |(at_builtin;refine GZ _ rfl _ _ 63 63 rfl _ _ rfl rfl (hcpB _ (fun _=>rfl) (fun _=>rfl) _ _ _) ?_))
 go_region_law_o (refine Mq rfl _ _ 63 63 rfl (.slice (some ⟨w.heap.size,(i+1) * 4,none⟩) (n+1-(i+1)) (G-(i+1))) (.slice (some ⟨b,off+i * 4,none⟩) (n-i) (c-i)) (by simp[Act.eval,Act.put]) (by simp[Act.eval,Act.put]) (hcpB _ hF1 hF2 3 (G-(i+1)) (c-i)) ?_)
 go_wp2
 go_ret
 exact⟨rfl,rfl⟩
def nE:List AV->AH->Option (AV×AH)
 |[.sl b 0 n (.un 4),.lit (.int .i64 i),.sl b2 o2 1 _],h=>match KL h b,KL h b2 with
  |some (l,e),some (l2,_)=>match cut l 0 (n * 4),cut l2 o2 4 with
   |some old,some new=>bif Nat.beq e 108&&Nat.ble ((n+1) * 32) 140737488355328&& !Nat.beq b b2&&new.all AV.one&&old.all AV.one&&decide (0<=i)&&decide (i<(n:Int))then
     some (.sl h.n 0 (n+1) (.un 4),(h.put b .gone).push (.cells (old.take (i.toNat * 4)++new++old.drop (i.toNat * 4)) e))else none
   |_,_=>none
  |_,_=>none
 |_,_=>none
variable {ρ:Nat->Value} {fl:Nat}
theorem MJ.trans{r:Nat}{w1 w2:World}(a:MJ r w w1)(b:MJ r w1 w2):MJ r w w2:=
 ⟨b.size.trans a.size,fun k hk=>(b.other k hk).trans (a.other k hk),fun k cur e fz h=>let⟨c1,e1,f1,h1,h2⟩:=a.grows k cur e fz h;let⟨c2,e2,f2,h3,h4⟩:=b.grows k c1 e1 f1 h1;⟨c2,e2,f2,h3,h4.trans h2⟩,
   ⟨b.same.1.trans a.same.1,b.same.2.1.trans a.same.2.1,b.same.2.2.trans a.same.2.2⟩⟩
theorem MJ.drew(r:Nat)(w:World):MJ r w w.drew:=⟨rfl,fun _ _=>rfl,fun k cur e fz h=>⟨cur,e,fz,h,rfl⟩,⟨rfl,rfl,rfl⟩⟩
set_option maxHeartbeats 1000000 in
set_option maxRecDepth 10000 in
theorem j2T{μ:Mu}{h h':AH}{v:AV}{args:List AV}{args':List Value}(hg:nE args h=some (v,h'))(hr:HR Tryz.prog ρ fl μ h w)(ha:qF ρ μ w args args'):
 Calls Tryz.prog 77 args'.toArray w fun e w'=>∃μ' v',e= .returned v'/\yD Tryz.prog ρ fl μ h w μ' h' w'/\rel ρ μ' w' v v':=by
 unfold nE at hg
 split at hg
 case h_2=>cases hg
 rename_i b n i b2 o2 k2
 split at hg
 case h_2=>cases hg
 rename_i l e l2 e2 hb hb2
 split at hg
 case h_2=>cases hg
 rename_i old new hco hcn
 cases hcc:(Nat.beq e 108&&Nat.ble ((n+1) * 32) 140737488355328&& !Nat.beq b b2&&new.all AV.one&&old.all AV.one&&decide (0<=i)&&decide (i<(n:Int)))with
 |false=>rw[hcc]at hg;cases hg
 |true=>
 rw[hcc]at hg
 cases hg
 simp only[jW,decide_eq_true_eq]at hcc
 obtain⟨⟨⟨⟨⟨⟨he,hbig⟩,hbb⟩,h1n⟩,h1o⟩,hi0⟩,hin⟩:=hcc
 obtain rfl:=jY he
 have hbig:=Nat.ble_eq.mp hbig
 have hbb:b≠b2:=fun hh=>by subst hh;simp at hbb
 obtain⟨k,rfl⟩:∃k:Nat,i=(k:Int):=⟨i.toNat,by omega⟩
 have hkn:k<n:=by omega
 rw[vD]
 obtain⟨v1,vs1,rfl,r1,ra⟩:=xB ha
 obtain⟨v2,vs2,rfl,r2,ra⟩:=xB ra
 obtain⟨v3,vs3,rfl,r3,ra⟩:=xB ra
 obtain rfl:=xM ra
 obtain rfl:=xF r2
 rcases yP r1 with⟨r,base,o,c,m1,rfl,hro,hcap⟩|hh
 case inr=>exact absurd hh.1 (by omega)
 have hle:=ZI hcap
 obtain rfl:base=o:=(hro.resolve_left (by omega)).symm
 rw[JH]at hcap
 rcases yP r3 with⟨rb,base2,o3,c3,m2,rfl,hro2,hcap2⟩|hh
 case inr=>exact absurd hh.1 (by omega)
 have hle2:=ZI hcap2
 obtain rfl:o3=base2+o2:=hro2.resolve_left (by omega)
 obtain⟨cur,k1,kw,kb⟩:=Xr hr m1 hb
 obtain⟨cur2,k2',kw2,kb2⟩:=Xr hr m2 hb2
 have hx0:=(BG hb).1
 have hx2:=(BG hb2).1
 have hrr:rb≠r:=fun hh=>by subst hh;exact hbb (hr.inj b b2 rb base base2 _ _ m1 m2 hx0 hx2 rfl rfl)
 obtain⟨ovs,p1,p2,p3,p4,p5⟩:=KY kw hco
 obtain⟨nvs,q1,q2,q3,q4,q5⟩:=KY kw2 hcn
 rw[JH]at p5
 have hbg:WJ Tryz.prog 108=false:=by kernel_rfl
 have hml:maxLen<=9223372036854775807:=by unfold maxLen;omega
 obtain⟨hc1,hc2,_,cur',e',fz',y1,y2⟩:=hcap
 rw[k1]at y1
 obtain⟨rfl,rfl,rfl⟩:=Obj.cells.inj (jS y1)
 have hdl:(ovs.drop (k * 4)).length=(n-k) * 4:=by rw[kT,p2];omega
 by_cases hroom:n+1<=c
 ·have hsz:(n+1) * 4<=c * 4:=qW _ hroom;have hfit1:base+(k+1) * 4+(ovs.drop (k * 4)).length<=cur.size:=by omega
  have k1d:w.drew.heap[r]? =some (.cells cur 108 (0,0)):=k1;have o1:=Qt k1d (base+(k+1) * 4) (ovs.drop (k * 4)) hfit1;obtain⟨cA,t1,t2,t3⟩:=Zp (ovs.drop (k * 4)) (base+(k+1) * 4) w.drew cur k1d hfit1;have hfit2:base+k * 4+nvs.length<=cA.size:=by omega
  have o4:=Qt t1 (base+k * 4) nvs hfit2;obtain⟨cB,t4,t5,t6⟩:=Zp nvs (base+k * 4) _ cA t1 hfit2;have hone:=((MJ.drew r w).trans o1).trans o4
  refine(tV r base n c k rb (base2+o2) c3 ovs nvs w hkn hroom (by omega) hrr p2 q2 (fun j u hj=>by rw[qP k1];exact p5 j u hj)
   (fun j hj=>by rw[qP k1,Jd (by omega)];rfl) (fun j hj=>yC k1) (fun j u hj=>by rw[qP k2'];exact q5 j u hj) (VB p1 h1o) (VB q1 h1n)
   e2 108 cur2.size cur.size (by simp[World.shape?,k2']) (by simp[World.shape?,k1]) (by omega) (yC k2') (yC k2')).mono fun e' w' hy=> ?_
  obtain⟨rfl,rfl⟩:=hy;refine⟨_,_,rfl,yD.move (base':=base) hr m1 hx0 rfl hone t4 ⟨cB,rfl,⟨?_,fun j x hj=> ?_⟩,fun hh=>by rw[hbg]at hh;cases hh⟩,?_⟩
  ·simp only[jQ,zV,kT];omega
  ·have hR:qF ρ μ w (old.take (k * 4)++new++old.drop (k * 4)) (ovs.take (k * 4)++nvs++ovs.drop (k * 4)):=Xm (Xm (AC _ p1) q1) (Fh _ p1);obtain⟨u,hu1,hu2⟩:=Zk hR hj;refine⟨u,?_,rel.mono (yZ.refl μ) hone.grows _ _ hu2⟩;have htl:(ovs.take (k * 4)).length=k * 4:=by rw[zV];omega
   rw[t6,t3];by_cases hj1:j<k * 4
   ·rw[zP,jZ (by omega),qH,if_pos hj1]at hu1;rw[if_neg (by omega),if_neg (by omega)];exact p5 j u hu1
   ·by_cases hj2:j<k * 4+4
    ·rw[zP,zQ (by omega),jZ (by omega),htl]at hu1;rw[if_pos (by omega),<-hu1];congr 1;omega
    ·rw[zQ (by simp only[jQ];omega),jQ,htl,q2]at hu1;have:=(List.getElem?_eq_some_iff.1 hu1).1;rw[if_neg (by omega),if_pos (by omega),<-hu1];congr 1;omega
  ·unfold rel;exact .inl ⟨r,base,base,c,Jb _ _ _,rfl,.inr rfl,hroom,hle.2,by decide,cB,_,_,t4,by omega⟩
 ·have hcn':c<n+1:=by omega
  obtain⟨G,hG⟩:∃G,G=grownCap w (n+1) c 108:=⟨_,rfl⟩;have hge:n+1<=G:=by rw[hG];exact grownCap_ge w _ _ _
  have hGm:G<=maxLen:=by rw[hG];exact grownCap_le_maxLen w (n+1) c 108 (by unfold maxLen;omega)
  have hY:=tU r base n c k rb (base2+o2) c3 ovs nvs w hkn hc1 hcn' hbig p2 q2 (fun j u hj=>by rw[qP k1];exact p5 j u hj) (fun j u hj=>by rw[qP k2'];exact q5 j u hj) (VB p1 h1o) (VB q1 h1n);rw[<-hG]at hY;clear hG;refine hY.mono fun e' w' hy=> ?_;obtain⟨rfl,rfl⟩:=hy;obtain⟨ROW,hROW⟩:∃ROW:Array Value,ROW=(ovs.take (k * 4)).toArray++Builtin.zeroCells Df (n+1-k)++Builtin.zeroCells Df (G-(n+1)):=⟨_,rfl⟩;rw[<-hROW];have htl:(ovs.take (k * 4)).length=k * 4:=by rw[zV];omega
  have hRs:ROW.size=G * 4:=by rw[hROW];simp only[Array.size_append,Dq,htl,Dg,show Df.size=4 from rfl];omega
  have hRg:∀j,j<k * 4->ROW[j]? =ovs[j]? :=fun j hj=>by rw[hROW,Array.append_assoc,HY (by simpa [htl]using hj)];simp only[List.getElem?_toArray,qH,if_pos hj]
  clear hROW hY;have e0:yD Tryz.prog ρ fl μ h w μ (h.put b .gone) w:=yD.upd hr m1 hx0 rfl ⟨rfl,fun _ _=>rfl,Jt.refl w,⟨rfl,rfl,rfl⟩⟩ k1 trivial;have e1:=yD.alloc e0.hr (ab:= .cells [] 108) (o:= .cells ROW 108) ⟨ROW,rfl,⟨by simp,fun i x hx=>by simp at hx⟩,fun hh=>by rw[hbg]at hh;cases hh⟩;rw[kZ]at e1;have kN:(w.alloc (.cells ROW 108)).heap[w.heap.size]? =some (.cells ROW 108 (0,0)):=Jp w _;have kNd:(w.alloc (.cells ROW 108)).drew.heap[w.heap.size]? =some (.cells ROW 108 (0,0)):=kN;have hfit1:k * 4+nvs.length<=ROW.size:=by omega
  have o1:=Qt kNd (k * 4) nvs hfit1;obtain⟨cA,t1,t2,t3⟩:=Zp nvs (k * 4) _ ROW kNd hfit1;have t1d:((w.alloc (.cells ROW 108)).drew.setCells w.heap.size (k * 4) nvs).drew.heap[w.heap.size]? =some (.cells cA 108 (0,0)):=t1;have hfit2:(k+1) * 4+(ovs.drop (k * 4)).length<=cA.size:=by omega
  have o4:=Qt t1d ((k+1) * 4) (ovs.drop (k * 4)) hfit2;obtain⟨cB,t4,t5,t6⟩:=Zp (ovs.drop (k * 4)) ((k+1) * 4) _ cA t1d hfit2;have hone:=(((MJ.drew _ _).trans o1).trans (MJ.drew _ _)).trans o4;have hmm:yZ μ (up μ h.n (w.heap.size,0)):=e1.more;have hgr:Jt w (w.alloc (.cells ROW 108)):=e1.grows;have e2:=yD.upd (ab':= .cells (old.take (k * 4)++new++old.drop (k * 4)) 108) e1.hr (Jb _ _ _) (by rw[<-kZ h b .gone];exact zI _ _) rfl hone t4 ⟨cB,rfl,⟨?_,fun j x hj=> ?_⟩,fun hh=>by rw[hbg]at hh;cases hh⟩
  ·refine⟨_,_,rfl,(yD.trans hr (yD.trans hr e0 e1) e2).alike (by rw[<-kZ h b .gone,LV]),?_⟩;unfold rel;exact .inl ⟨w.heap.size,0,0,G,Jb _ _ _,rfl,.inr rfl,hge,hGm,by decide,cB,_,_,t4,by omega⟩
  ·simp only[jQ,zV,kT];omega
  ·have hR:qF ρ μ w (old.take (k * 4)++new++old.drop (k * 4)) (ovs.take (k * 4)++nvs++ovs.drop (k * 4)):=Xm (Xm (AC _ p1) q1) (Fh _ p1);obtain⟨u,hu1,hu2⟩:=Zk hR hj;refine⟨u,?_,rel.mono hmm (hgr.trans hone.grows) _ _ hu2⟩;rw[t6,t3];by_cases hj1:j<k * 4
   ·rw[zP,jZ (by omega),qH,if_pos hj1]at hu1;rw[if_neg (by omega),if_neg (by omega),yG,hRg j hj1];exact hu1
   ·by_cases hj2:j<k * 4+4
    ·rw[zP,zQ (by omega),jZ (by omega),htl]at hu1;rw[if_neg (by omega),if_pos (by omega),<-hu1];congr 1;omega
    ·rw[zQ (by simp only[jQ];omega),jQ,htl,q2]at hu1;have:=(List.getElem?_eq_some_iff.1 hu1).1;rw[if_pos (by omega),<-hu1];congr 1;omega
end
end Go.Proofs.YtcieggahhkoeeaaGreat.Ex
namespace Go.Proofs
section
open Go.Shelf
def Tryz.lays20_ren:Go.Shelf.Ren:=⟨fun|20=>145|n=>n,fun|22=>120|3=>3|4=>4|0=>0|n=>n,fun|n=>n⟩
theorem Tryz.lays20:Go.Proofs.Lays2.n20 Tryz.prog Tryz.lays20_ren:={
 mixed:=by kernel_rfl,
 f20:=Tryz.func145.trans (congrArg some (by kernel_rfl)),
 t0:=Tryz.underlying0,
 a0:=Tryz.isAgg0,
 z0:=Tryz.sizeOf0,
 v0:=Tryz.zeroValue0,
 t3:=Tryz.underlying3,
 a3:=Tryz.isAgg3,
 z3:=Tryz.sizeOf3,
 v3:=Tryz.zeroValue3,
 t4:=Tryz.underlying4,
 a4:=Tryz.isAgg4,
 z4:=Tryz.sizeOf4,
 v4:=Tryz.zeroValue4,
 t22:=Tryz.underlying120,
 a22:=Tryz.isAgg120,
 z22:=Tryz.sizeOf120,
 v22:=Tryz.zeroValue120,
 i3:=by kernel_rfl}
end
end Go.Proofs
namespace Go.Proofs.YtcieggahhkoeeaaGreat.Ex
open Go
section
open Go Go.RowKit Go.Lib Go.Sort
def OW(xs:List Int):List Int:=Lib.compact xs
def EG(xs:List Int):List Int:=OW xs++List.replicate (xs.length-(OW xs).length) 0
theorem dP(xs:List Int):(OW xs).length<=xs.length:=by unfold OW Lib.compact Lib.compactUpTo;rw[yH];have:=List.length_filter_le (Lib.keeps xs.toArray) (List.range xs.length);rw[List.length_range]at this;exact this
theorem sM(xs:List Int):(EG xs).length=xs.length:=by have:=dP xs;unfold EG;rw[jQ,AM];omega
def YJ:List AV->AH->Option (AV×AH)
 |[.sl b 0 n cap],h=>bif Nat.beq n 0 then some (.sl b 0 n cap,h)else match h.at b with
  |some (.cells l e)=>match AU l with
   |some xs=>bif Nat.beq n xs.length&&Nat.ble xs.length 4611686018427387903 then some (.sl b 0 (OW xs).length cap,h.put b (.cells (Ix (EG xs)) e))else none
   |none=>none
  |_=>none
 |[.lit (.slice none 0 0)],h=>some (.lit (.slice none 0 0),h)
 |_,_=>none
variable {ρ:Nat->Value} {fl:Nat}
theorem TB{μ:Mu}{h h':AH}{w:World}{v:AV}{args:List AV}{args':List Value}(hg:YJ args h=some (v,h'))(hr:HR Tryz.prog ρ fl μ h w)(ha:qF ρ μ w args args'):
 Calls Tryz.prog 145 args'.toArray w fun e w'=>∃μ' v',e= .returned v'/\yD Tryz.prog ρ fl μ h w μ' h' w'/\rel ρ μ' w' v v':=by
 have hnone:∀p c,Calls Tryz.prog 145 #[.slice p 0 c] w fun e w'=>e= .returned (.slice p 0 c)/\w'=w:=fun p c=>Any.slices_Compact_int_empty Tryz.lays20 p c w
 unfold YJ at hg
 split at hg
 ·rename_i b n c;obtain⟨v1,vs,rfl,r1,r2⟩:=xB ha;obtain rfl:=xM r2;cases hn:Nat.beq n 0 with
  |true=>
   rw[hn]at hg;cases hg;have h0:n=0:=jY hn;subst h0;have hv:∃p c',v1= .slice p 0 c':=by
    rcases yP r1 with⟨r,base,o,c',_,rfl,_⟩|hh
    ·exact⟨_,_,rfl⟩
    ·obtain⟨h1,h2,p,rfl⟩:=hh;exact⟨_,_,rfl⟩
   obtain⟨p,c',rfl⟩:=hv;refine(hnone p c').mono fun e w' hy=> ?_;obtain⟨rfl,rfl⟩:=hy;exact⟨μ,_,rfl,yD.refl hr,r1⟩
  |false=>
  rw[hn]at hg;simp only[cond_false]at hg;split at hg;case h_2=>cases hg
  rename_i l e hb;split at hg;case h_2=>cases hg
  rename_i xs hxs;cases hcc:(Nat.beq n xs.length&&Nat.ble xs.length 4611686018427387903)with
  |false=>rw[hcc]at hg;cases hg
  |true=>
  rw[hcc]at hg;cases hg;simp only[jW]at hcc;have hnx:n=xs.length:=jY hcc.1;have hle:xs.length<=4611686018427387903:=Nat.le_of_ble_eq_true hcc.2;have hn0:n≠0:=fun hh=>by subst hh;cases hn
  obtain rfl:=IX hxs;subst hnx;rcases yP r1 with⟨r,base,o,c',m1,rfl,hco,hcap⟩|hh
  case inr=>exact absurd hh.1 hn0
  have hc0:=(ZI hcap).1;have ho:o=base:=by rcases hco with h|h<;>omega
  subst ho;have hgb:KL h b=some (Ix xs,e):=by unfold KL;rw[hb]
  obtain⟨cur,k1,k2,k3⟩:=Xr hr m1 hgb;have hgx:∀(ys:List Int) (j:Nat) (hj:j<ys.length),(Ix ys)[j]? =some (.lit (.int .i64 ys[j])):=fun ys j hj=>by unfold Ix;rw[vF,jO hj];rfl
  have hlA:(Ix xs).length=xs.length:=by unfold Ix;simp
  have hH:Holds (Value.int .i64) w r o xs.toArray:=fun j hj=>by
   have hj':j<xs.length:=by simpa using hj
   obtain⟨v0,q1,q2⟩:=k2.2 j _ (hgx xs j hj');refine⟨?_,yC k1⟩;rw[qP k1,q1,xF q2];simp[hj']
  have hsl:(EG xs).length=xs.length:=sM xs;refine(Any.slices_Compact_int Tryz.lays20 r o c' xs w hH (by omega) hc0).mono fun e' w' hy=> ?_;obtain⟨rfl,n',rfl⟩:=hy;obtain⟨hone,hat⟩:=LF (enc:=Value.int .i64) k1 n' o (EG xs).toArray;have hef:yD Tryz.prog ρ fl μ h w μ (h.put b (.cells (Ix (EG xs)) e)) (putRow (Value.int .i64) (Sort.ahead w n') r o (EG xs).toArray):=by
   refine yD.upd hr m1 hb rfl hone hat ⟨_,rfl,⟨?_,fun i x hi=> ?_⟩,fun hbg=> ?_⟩
   ·have:=k2.1;unfold putCells Ix;rw[hlA]at this;simpa [hsl]using this
   ·have hi':i<(EG xs).length:=by
     have:=(List.getElem?_eq_some_iff.1 hi).1
     unfold Ix at this
     simpa using this
    rw[hgx _ i hi']at hi
    cases hi
    refine⟨.int .i64 (EG xs)[i],?_,vN rfl⟩
    have hsz:=k2.1
    rw[hlA]at hsz
    unfold putCells
    rw[Array.getElem?_mapIdx,Jd (by omega)]
    simp only[qD,Dq]
    rw[if_pos ⟨Nat.le_add_right _ _,by omega⟩,show o+i-o=i by omega]
    simp[hi']
   ·obtain⟨b1,b2⟩:=k3 hbg;refine⟨b1,?_⟩;rw[hlA]at b2;unfold putCells Ix;simpa [hsl]using b2
  have hgr:Jt w (putRow (Value.int .i64) (Sort.ahead w n') r o (EG xs).toArray):=hef.grows;have hcl:=dP xs;refine⟨μ,_,rfl,hef,?_⟩;have hcap2:Uy w r (o+0) (OW xs).length c c':=by
   cases c with
   |kn k=>exact⟨hcap.1,zY hcl hcap.2.1,hcap.2.2⟩
   |un z=>exact⟨zY hcl hcap.1,hcap.2.1,hcap.2.2.1,hcap.2.2.2⟩
  unfold rel;exact .inl ⟨r,o,o,c',m1,rfl,.inr (by omega),hcap2.mono hgr⟩
 ·cases hg;obtain⟨v1,vs,rfl,r1,r2⟩:=xB ha;obtain rfl:=xM r2;have r1':=r1;obtain rfl:=xF r1;refine(hnone none 0).mono fun e w' hy=> ?_;obtain⟨rfl,rfl⟩:=hy;exact⟨μ,_,rfl,yD.refl hr,r1'⟩
 ·cases hg
end
variable{a:Int}{x:AB}
section
abbrev I3:=Int×Int×Int
def ST(s0 s1 s2:Int)(x:I3):I3:=
 let a:=Ka .u32 (IntKind.u32.wrap (IntKind.u32.wrap (x.1-x.2.1)-x.2.2)) (YL .u32 x.2.2 s0)
 let b:=Ka .u32 (IntKind.u32.wrap (IntKind.u32.wrap (x.2.1-x.2.2)-a)) (UG .u32 a s1)
 let c:=Ka .u32 (IntKind.u32.wrap (IntKind.u32.wrap (x.2.2-a)-b)) (YL .u32 b s2)
 (a,b,c)
def SS:Nat->I3->I3
 |0,x=>x
 |1,x=>ST 13 8 13 x
 |2,x=>ST 12 16 5 (ST 13 8 13 x)
 |_,x=>ST 3 10 15 (ST 12 16 5 (ST 13 8 13 x))
def QV(x:I3):I3:=SS 3 x
def u3(a:Int):AV:= .lit (.int .u32 a)
def Pw:AV:= .agg [.lit (.int .i64 13),.lit (.int .i64 8),.lit (.int .i64 13),.lit (.int .i64 12),.lit (.int .i64 16),.lit (.int .i64 5),.lit (.int .i64 3),.lit (.int .i64 10),.lit (.int .i64 15)]
theorem j6u:yS Tryz.prog (Instr.index 251 (.agg #[.int .i64 13,.int .i64 8,.int .i64 13,.int .i64 12,.int .i64 16,.int .i64 5,.int .i64 3,.int .i64 10,.int .i64 15]) (.int .i64 0))=some (.ok (.agg #[.int .i64 13,.int .i64 8,.int .i64 13])):=by kernel_rfl
theorem j6v:yS Tryz.prog (Instr.index 251 (.agg #[.int .i64 13,.int .i64 8,.int .i64 13,.int .i64 12,.int .i64 16,.int .i64 5,.int .i64 3,.int .i64 10,.int .i64 15]) (.int .i64 1))=some (.ok (.agg #[.int .i64 12,.int .i64 16,.int .i64 5])):=by kernel_rfl
theorem j6w:yS Tryz.prog (Instr.index 251 (.agg #[.int .i64 13,.int .i64 8,.int .i64 13,.int .i64 12,.int .i64 16,.int .i64 5,.int .i64 3,.int .i64 10,.int .i64 15]) (.int .i64 2))=some (.ok (.agg #[.int .i64 3,.int .i64 10,.int .i64 15])):=by kernel_rfl
section
variable {t:TM} {h:AH} {d:Option Tmp} {ty:TypeId} {ps:String} {af:Array Edge} {g:Option (Nat×Bool)}
theorem j2j{i j:Nat}(hx:t.get i=Pw)(hy:t.get j= .lit (.int .i64 0)):Js Tryz.prog (zH Tryz.prog kR) ⟨d,.index 251 (.tmp i) (.tmp j),ty,ps,af,g⟩ t h=some (.val (.agg [.lit (.int .i64 13),.lit (.int .i64 8),.lit (.int .i64 13)]),h):=
 Kd (by rw[hx];rfl) (by rw[hy];rfl) j6u rfl
theorem j2k{i j:Nat}(hx:t.get i=Pw)(hy:t.get j= .lit (.int .i64 1)):Js Tryz.prog (zH Tryz.prog kR) ⟨d,.index 251 (.tmp i) (.tmp j),ty,ps,af,g⟩ t h=some (.val (.agg [.lit (.int .i64 12),.lit (.int .i64 16),.lit (.int .i64 5)]),h):=
 Kd (by rw[hx];rfl) (by rw[hy];rfl) j6v rfl
theorem j2l{i j:Nat}(hx:t.get i=Pw)(hy:t.get j= .lit (.int .i64 2)):Js Tryz.prog (zH Tryz.prog kR) ⟨d,.index 251 (.tmp i) (.tmp j),ty,ps,af,g⟩ t h=some (.val (.agg [.lit (.int .i64 3),.lit (.int .i64 10),.lit (.int .i64 15)]),h):=
 Kd (by rw[hx];rfl) (by rw[hy];rfl) j6w rfl
end
theorem j5k{H:AH}{p:Nat}{x:I3}(hp:H.at p=some (.cells [.lit (.int .u32 x.1),.lit (.int .u32 x.2.1),.lit (.int .u32 x.2.2)] 234)):
 WC Tryz.prog (zH Tryz.prog kR) oQ 130 [.ptr p 0] H fun r h'=>h'.at p=some (.cells [.lit (.int .u32 (QV x).1),.lit (.int .u32 (QV x).2.1),.lit (.int .u32 (QV x).2.2)] 234)/\H.n<=h'.n/\∀q,q<H.n->q≠p->h'.at q=H.at q:=by
 refine zW Tryz.func130 rfl rfl ?_
 have hlt:=jR hp
 have L0:=fun e off=>Xy (T:=zH Tryz.prog kR) hp e off
 simp only[jN,jC,Tryz.ntmps130]
 rw[zL [0,1,2,3,4,5,6,7,8,9,10,11,12,13,14] 26958519655973595170767904528538414010378582634470141901892646633472 (by kernel_rfl)]
 repeat ((with_reducible refine jX ?_;simp only[vO];try simp only[vP,jB,jD,jH,jI,jF]);simp only[jN,jB,jD,jE,jF,reduceCtorEq,jG,jJ,jL,zG,L0])
 refine kO 3 (fun i t h=>zM H.n H h/\t.n=63/\t.get 0= .ptr p 0/\t.get 2= .lit (.int .u32 (SS i x).1)/\t.get 3= .lit (.int .u32 (SS i x).2.1)/\t.get 4= .lit (.int .u32 (SS i x).2.2)/\t.get 22=Pw/\t.get 23= .lit (.int .i64 i)) ?_ ?_ _ _ ?_
 ·rintro i t h hi hc ⟨he,hn,g0,g2,g3,g4,g22,g23⟩ ih;have hi3:i=0\/i=1\/i=2:=by omega
  rcases hi3 with rfl|rfl|rfl
  ·have g23:t.get 23= .lit (.int .i64 0):=g23;have hw:IntKind.i64.wrap ((0:Int)+1)=((0+1:Nat):Int):=by decide
   have hc:((0:Int)<3)=True:=by decide
   simp only[jN,jB,jE,jF,reduceCtorEq,jG,jJ,jL,hn,g0,g2,g3,g4,g22,g23,hc,hw,j2j];refine ih _ _ ?_;simp only[jN,jE,jF,reduceCtorEq,hn,g0,g22];refine⟨he.push _ he.1,?_⟩;(repeat' apply And.intro)<;>first|rfl|trivial
  ·have g23:t.get 23= .lit (.int .i64 1):=g23;have hw:IntKind.i64.wrap ((1:Int)+1)=((1+1:Nat):Int):=by decide
   have hc:((1:Int)<3)=True:=by decide
   simp only[jN,jB,jE,jF,reduceCtorEq,jG,jJ,jL,hn,g0,g2,g3,g4,g22,g23,hc,hw,j2k];refine ih _ _ ?_;simp only[jN,jB,jE,jF,reduceCtorEq,hn,g0,g22];refine⟨he.push _ he.1,?_⟩;(repeat' apply And.intro)<;>first|rfl|trivial
  ·have g23:t.get 23= .lit (.int .i64 2):=g23;have hw:IntKind.i64.wrap ((2:Int)+1)=((2+1:Nat):Int):=by decide
   have hc:((2:Int)<3)=True:=by decide
   simp only[jN,jB,jE,jF,reduceCtorEq,jG,jJ,jL,hn,g0,g2,g3,g4,g22,g23,hc,hw,j2l];refine ih _ _ ?_;simp only[jN,jB,jE,jF,reduceCtorEq,hn,g0,g22];refine⟨he.push _ he.1,?_⟩;(repeat' apply And.intro)<;>first|rfl|trivial
 ·rintro t h hc ⟨he,hn,g0,g2,g3,g4,g22,g23⟩;have g23:t.get 23= .lit (.int .i64 3):=g23;have hc:((3:Int)<3)=False:=by decide
  have hp2:h.at p=some (.cells [.lit (.int .u32 x.1),.lit (.int .u32 x.2.1),.lit (.int .u32 x.2.2)] 234):=(he.2 p hlt).trans hp;have hlt2:p<h.n:=jR hp2;simp only[jN,jB,jE,jF,reduceCtorEq,jG,hn,g0,g2,g3,g4,g23,hc,hp2];refine⟨.inl trivial,qJ _ hlt2,he.1,fun q hq hqp=> ?_⟩;rw[zE _ (Ne.symm hqp)];exact he.2 q hq
 ·simp only[jN,jB,jE,jF,reduceCtorEq];refine⟨zM.refl _ _,?_⟩;(repeat' apply And.intro)<;>first|rfl|trivial
def Bx(h:AH)(p:Nat)(a:Int):Prop:=h.at p=some (.cells [.lit (.int .u32 a)] 157)
theorem FW{H:AH}{p q r:Nat}{x:I3}(hp:Bx H p x.1)(hq:Bx H q x.2.1)(hr:Bx H r x.2.2)(pq:p≠q)(pr:p≠r)(qr:q≠r):
 WC Tryz.prog (zH Tryz.prog kR) oQ 134 [.ptr p 0,.ptr q 0,.ptr r 0] H fun _ h'=>Bx h' p (QV x).1/\Bx h' q (QV x).2.1/\Bx h' r (QV x).2.2/\H.n<=h'.n/\∀b,b<H.n->b≠p->b≠q->b≠r->h'.at b=H.at b:=by
 refine zW Tryz.func134 rfl rfl ?_
 have lp:=jR hp
 have lq:=jR hq
 have lr:=jR hr
 have Lp:=fun e off=>Xy (T:=zH Tryz.prog kR) hp e off
 have Lq:=fun e off=>Xy (T:=zH Tryz.prog kR) hq e off
 have Lr:=fun e off=>Xy (T:=zH Tryz.prog kR) hr e off
 simp only[jN,jB,jC,Tryz.ntmps134]
 rw[zL [0,1,2,3,4,5,6,7,8,9,10,11] 11144928247238770519951308239364144742010880 (by kernel_rfl)]
 repeat ((with_reducible refine jX ?_;simp only[vO];try simp only[vP,jB,jD,jH,jI]);simp only[jN,jB,jE,jF,jG,zG,Lp,Lq,Lr,lp,lq,lr])
 refine(j5k (x:=x) (zI H _)).mono ?_
 rintro _ h1 ⟨h2,h3,h4⟩
 rw[zF]at h3 h4
 have e1:∀b,b<H.n->h1.at b=H.at b:=fun b hb=>(h4 b (by omega) (by omega)).trans (xE _ hb)
 have lp1:p<h1.n:=by omega
 have lq1:q<h1.n:=by omega
 have lr1:r<h1.n:=by omega
 have L0:=fun e off=>Xy (T:=zH Tryz.prog kR) h2 e off
 have P1:=(e1 p lp).trans hp
 have Q1:=(e1 q lq).trans hq
 have R1:=(e1 r lr).trans hr
 simp only[jN,jB,jE,jF,reduceCtorEq,jG,jJ,jL,L0,P1,Q1,R1,pq,pr,qr]
 refine⟨.inl trivial,?_,?_,?_,by omega,fun b hb b1 b2 b3=> ?_⟩
 ·unfold Bx;rw[zE _ (Ne.symm pr),zE _ (Ne.symm pq),qJ _ lp1]
 ·unfold Bx;rw[zE _ (Ne.symm qr),qJ _ (by rw[kZ];exact lq1)]
 ·unfold Bx;rw[qJ _ (by rw[kZ,kZ];exact lr1)]
 ·rw[zE _ (Ne.symm b3),zE _ (Ne.symm b2),zE _ (Ne.symm b1)];exact e1 b hb
theorem Bx.ld{h:AH}{p:Nat}(hb:Bx h p a)(e off:Nat):Jr (zH Tryz.prog kR) h e p off=YU (zH Tryz.prog kR) e [.lit (.int .u32 a)] off:=Xy hb e off
theorem Bx.new{h:AH}{p:Nat}(hp:p=h.n):Bx (h.push (.cells [.lit (.int .u32 a)] 157)) p a:=by subst hp;exact zI h _
theorem Bx.old{h:AH}{p:Nat}(hb:Bx h p a):Bx (h.push x) p a:=(xE _ (jR hb)).trans hb
theorem Bx.put{h:AH}{b:Int}{p:Nat}(hb:Bx h p a):Bx (h.put p (.cells [.lit (.int .u32 b)] 157)) p b:=qJ _ (jR hb)
theorem Bx.keep{h:AH}{p q:Nat}(hb:Bx h p a)(hne:q≠p):Bx (h.put q x) p a:=(zE _ hne).trans hb
theorem Bx.lt{h:AH}{p:Nat}(hb:Bx h p a):p<h.n:=jR hb
theorem Bx.after{h h':AH}{b p q r:Nat}(hb:Bx h b a)(hk:∀c,c<h.n->c≠p->c≠q->c≠r->h'.at c=h.at c)(h1:b≠p)(h2:b≠q)(h3:b≠r):Bx h' b a:=(hk b hb.lt h1 h2 h3).trans hb
def UB(a b:Int):Int:=
 let t:=QV (a,b,Ka .u32 (Ka .u32 1315423911 a) b)
 let u:=QV (231232,t.1,t.2.2)
 (QV (t.2.1,1232,u.2.2)).2.2
def GN(a b c:Int):Int:=
 let t:=QV (a,b,Ka .u32 (Ka .u32 (Ka .u32 1315423911 a) b) c)
 let u:=QV (c,231232,t.2.2)
 let v:=QV (1232,t.1,u.2.2)
 let w:=QV (t.2.1,u.2.1,v.2.2)
 (QV (v.1,u.1,w.2.2)).2.2
theorem zM.of_keep{H h h':AH}{p q r:Nat}(he:zM H.n H h)(hn:h.n<=h'.n)(hk:∀c,c<h.n->c≠p->c≠q->c≠r->h'.at c=h.at c)(h1:H.n<=p)(h2:H.n<=q)(h3:H.n<=r):zM H.n H h':=
 ⟨zY he.1 hn,fun b hb=>(hk b (by have:=he.1;omega) (by omega) (by omega) (by omega)).trans (he.2 b hb)⟩
theorem j1Z{H:AH}{be oe:Nat}(a b:Int):WC Tryz.prog (zH Tryz.prog kR) oQ 111 [.ptr be oe,.lit (.int .u32 a),.lit (.int .u32 b)] H fun r h'=>zM H.n H h'/\r= .lit (.int .u32 (UB a b)):=by refine zW Tryz.func111 rfl rfl ?_;simp only[jN,jB,jC,jE,jF,reduceCtorEq,jG,Tryz.ntmps111];refine(FW (x:=(a,b,Ka .u32 (Ka .u32 1315423911 a) b)) (by repeat (first|exact Bx.new rfl|refine Bx.old ?_)) (by repeat (first|exact Bx.new rfl|refine Bx.old ?_)) (by repeat (first|exact Bx.new rfl|refine Bx.old ?_)) (by omega) (by omega) (by omega)).mono ?_;rintro _ h1 ⟨A1,B1,C1,n1,k1⟩;have X1:Bx h1 (H.n+1+1+1) 231232:=Bx.after (by repeat (first|exact Bx.new rfl|refine Bx.old ?_)) k1 (by omega) (by omega) (by omega);have Y1:Bx h1 (H.n+1+1+1+1) 1232:=Bx.after (by repeat (first|exact Bx.new rfl|refine Bx.old ?_)) k1 (by omega) (by omega) (by omega);have E1:zM H.n H h1:=zM.of_keep (by repeat (first|exact zM.refl _ _|refine zM.push _ ?_ (by(try simp only[zF]);omega))) n1 k1 (by omega) (by omega) (by omega);clear n1 k1;obtain⟨t,ht⟩:∃t,t=QV (a,b,Ka .u32 (Ka .u32 1315423911 a) b):=⟨_,rfl⟩;rw[<-ht]at A1 B1 C1;simp only[jN,jB,jE,jF];refine(FW (x:=(231232,t.1,t.2.2)) X1 A1 C1 (by omega) (by omega) (by omega)).mono ?_;rintro _ h2 ⟨X2,A2,C2,n2,k2⟩;have B2:=B1.after k2 (by omega) (by omega) (by omega);have Y2:=Y1.after k2 (by omega) (by omega) (by omega);have E2:=zM.of_keep E1 n2 k2 (by omega) (by omega) (by omega);obtain⟨u,hu⟩:∃u,u=QV (231232,t.1,t.2.2):=⟨_,rfl⟩;rw[<-hu]at X2 A2 C2;simp only[jN,jB,jE,jF];refine(FW (x:=(t.2.1,1232,u.2.2)) B2 Y2 C2 (by omega) (by omega) (by omega)).mono ?_;rintro _ h3 ⟨B3,Y3,C3,n3,k3⟩;have E3:=zM.of_keep E2 n3 k3 (by omega) (by omega) (by omega);have L3:=C3.ld;simp only[jN,jB,jE,jF,reduceCtorEq,L3];refine⟨E3,?_⟩;subst hu ht;rfl
theorem j21{H:AH}{be oe:Nat}(a b c:Int):WC Tryz.prog (zH Tryz.prog kR) oQ 172 [.ptr be oe,.lit (.int .u32 a),.lit (.int .u32 b),.lit (.int .u32 c)] H fun r h'=>zM H.n H h'/\r= .lit (.int .u32 (GN a b c)):=by refine zW Tryz.func172 rfl rfl ?_;simp only[jN,jB,jC,jE,jF,reduceCtorEq,jG,Tryz.ntmps172];obtain⟨w0,hw0⟩:∃w,w=Ka .u32 (Ka .u32 (Ka .u32 1315423911 a) b) c:=⟨_,rfl⟩;rw[<-hw0];refine(FW (x:=(a,b,w0)) (by repeat (first|exact Bx.new rfl|refine Bx.old ?_)) (by repeat (first|exact Bx.new rfl|refine Bx.old ?_)) (by repeat (first|exact Bx.new rfl|refine Bx.old ?_)) (by omega) (by omega) (by omega)).mono ?_;rintro _ h1 ⟨A1,B1,W1,n1,k1⟩;have C1:Bx h1 (H.n+1+1) c:=Bx.after (by repeat (first|exact Bx.new rfl|refine Bx.old ?_)) k1 (by omega) (by omega) (by omega);have X1:Bx h1 (H.n+1+1+1+1) 231232:=Bx.after (by repeat (first|exact Bx.new rfl|refine Bx.old ?_)) k1 (by omega) (by omega) (by omega);have Y1:Bx h1 (H.n+1+1+1+1+1) 1232:=Bx.after (by repeat (first|exact Bx.new rfl|refine Bx.old ?_)) k1 (by omega) (by omega) (by omega);have E1:zM H.n H h1:=zM.of_keep (by repeat (first|exact zM.refl _ _|refine zM.push _ ?_ (by(try simp only[zF]);omega))) n1 k1 (by omega) (by omega) (by omega);clear n1 k1;obtain⟨t,ht⟩:∃t,t=QV (a,b,w0):=⟨_,rfl⟩;rw[<-ht]at A1 B1 W1;simp only[jN,jB,jE,jF];refine(FW (x:=(c,231232,t.2.2)) C1 X1 W1 (by omega) (by omega) (by omega)).mono ?_;rintro _ h2 ⟨C2,X2,W2,n2,k2⟩;have A2:=A1.after k2 (by omega) (by omega) (by omega);have B2:=B1.after k2 (by omega) (by omega) (by omega);have Y2:=Y1.after k2 (by omega) (by omega) (by omega);have E2:=zM.of_keep E1 n2 k2 (by omega) (by omega) (by omega);obtain⟨u,hu⟩:∃u,u=QV (c,231232,t.2.2):=⟨_,rfl⟩;rw[<-hu]at C2 X2 W2;simp only[jN,jB,jE,jF];refine(FW (x:=(1232,t.1,u.2.2)) Y2 A2 W2 (by omega) (by omega) (by omega)).mono ?_;rintro _ h3 ⟨Y3,A3,W3,n3,k3⟩;have B3:=B2.after k3 (by omega) (by omega) (by omega);have X3:=X2.after k3 (by omega) (by omega) (by omega);have C3:=C2.after k3 (by omega) (by omega) (by omega);have E3:=zM.of_keep E2 n3 k3 (by omega) (by omega) (by omega);obtain⟨v,hv⟩:∃v,v=QV (1232,t.1,u.2.2):=⟨_,rfl⟩;rw[<-hv]at Y3 A3 W3;simp only[jN,jB,jE,jF];refine(FW (x:=(t.2.1,u.2.1,v.2.2)) B3 X3 W3 (by omega) (by omega) (by omega)).mono ?_;rintro _ h4 ⟨B4,X4,W4,n4,k4⟩;have Y4:=Y3.after k4 (by omega) (by omega) (by omega);have C4:=C3.after k4 (by omega) (by omega) (by omega);have E4:=zM.of_keep E3 n4 k4 (by omega) (by omega) (by omega);obtain⟨z,hz⟩:∃z,z=QV (t.2.1,u.2.1,v.2.2):=⟨_,rfl⟩;rw[<-hz]at B4 X4 W4;simp only[jN,jB,jE,jF];refine(FW (x:=(v.1,u.1,z.2.2)) Y4 C4 W4 (by omega) (by omega) (by omega)).mono ?_;rintro _ h5 ⟨Y5,C5,W5,n5,k5⟩;have E5:=zM.of_keep E4 n5 k5 (by omega) (by omega) (by omega);have L5:=W5.ld;simp only[jN,jB,jE,jF,reduceCtorEq,L5];refine⟨E5,?_⟩;subst hz hv hu ht hw0;rfl
def HG:AV:= .agg [.lit (.int .u64 13),.lit (.int .u64 8),.lit (.int .u64 13),.lit (.int .u64 12),.lit (.int .u64 16),.lit (.int .u64 5),.lit (.int .u64 3),.lit (.int .u64 10),.lit (.int .u64 15)]
theorem j4N:yS Tryz.prog (Instr.index 244 (.agg #[.int .u64 13,.int .u64 8,.int .u64 13,.int .u64 12,.int .u64 16,.int .u64 5,.int .u64 3,.int .u64 10,.int .u64 15]) (.int .i64 0))=some (.ok (.agg #[.int .u64 13,.int .u64 8,.int .u64 13])):=by kernel_rfl
theorem j4O:yS Tryz.prog (Instr.index 244 (.agg #[.int .u64 13,.int .u64 8,.int .u64 13,.int .u64 12,.int .u64 16,.int .u64 5,.int .u64 3,.int .u64 10,.int .u64 15]) (.int .i64 1))=some (.ok (.agg #[.int .u64 12,.int .u64 16,.int .u64 5])):=by kernel_rfl
theorem j4P:yS Tryz.prog (Instr.index 244 (.agg #[.int .u64 13,.int .u64 8,.int .u64 13,.int .u64 12,.int .u64 16,.int .u64 5,.int .u64 3,.int .u64 10,.int .u64 15]) (.int .i64 2))=some (.ok (.agg #[.int .u64 3,.int .u64 10,.int .u64 15])):=by kernel_rfl
section
variable {t:TM} {h:AH} {d:Option Tmp} {ty:TypeId} {ps:String} {af:Array Edge} {g:Option (Nat×Bool)}
theorem uN{i j:Nat}(hx:t.get i=HG)(hy:t.get j= .lit (.int .i64 0)):Js Tryz.prog (zH Tryz.prog kR) ⟨d,.index 244 (.tmp i) (.tmp j),ty,ps,af,g⟩ t h=some (.val (.agg [.lit (.int .u64 13),.lit (.int .u64 8),.lit (.int .u64 13)]),h):=
 Kd (by rw[hx];rfl) (by rw[hy];rfl) j4N rfl
theorem uO{i j:Nat}(hx:t.get i=HG)(hy:t.get j= .lit (.int .i64 1)):Js Tryz.prog (zH Tryz.prog kR) ⟨d,.index 244 (.tmp i) (.tmp j),ty,ps,af,g⟩ t h=some (.val (.agg [.lit (.int .u64 12),.lit (.int .u64 16),.lit (.int .u64 5)]),h):=
 Kd (by rw[hx];rfl) (by rw[hy];rfl) j4O rfl
theorem uP{i j:Nat}(hx:t.get i=HG)(hy:t.get j= .lit (.int .i64 2)):Js Tryz.prog (zH Tryz.prog kR) ⟨d,.index 244 (.tmp i) (.tmp j),ty,ps,af,g⟩ t h=some (.val (.agg [.lit (.int .u64 3),.lit (.int .u64 10),.lit (.int .u64 15)]),h):=
 Kd (by rw[hx];rfl) (by rw[hy];rfl) j4P rfl
end
def Ea(x:I3):AV:= .agg [.lit (.int .u32 x.1),.lit (.int .u32 x.2.1),.lit (.int .u32 x.2.2)]
theorem Vx{H:AH}(x:I3):WC Tryz.prog (zH Tryz.prog kR) oQ 120 [.agg [.lit (.int .u32 x.1),.lit (.int .u32 x.2.1),.lit (.int .u32 x.2.2)]] H fun r h'=>zM H.n H h'/\r=Ea (QV x):=by
 refine zW Tryz.func120 rfl rfl ?_;simp only[jN,jB,jC,Tryz.ntmps120];rw[zL [0,1,2,3,4,5,6,7,8] 1204932154128817075520000 (by kernel_rfl)];repeat ((with_reducible refine jX ?_;simp only[vO];try simp only[vP,jB,jD,jH,jI,jF]);simp only[jN,jB,jD,jE,jF,jG,zG])
 refine kO 3 (fun i t h=>(zM H.n H h/\h.at (H.n+1)=some (.cells [.lit (.int .u32 0),.lit (.int .u32 0),.lit (.int .u32 0)] 212))/\t.n=56/\t.get 2= .ptr (H.n+1) 0/\t.get 3= .lit (.int .u32 (SS i x).1)/\t.get 4= .lit (.int .u32 (SS i x).2.1)/\t.get 5= .lit (.int .u32 (SS i x).2.2)/\t.get 17=HG/\t.get 18= .lit (.int .i64 i)) ?_ ?_ _ _ ?_
 ·rintro i t h hi hc ⟨⟨he,ha⟩,hn,g2,g3,g4,g5,g17,g18⟩ ih;have hi3:i=0\/i=1\/i=2:=by omega
  have ha':∀x,(h.push x).at (H.n+1)=some (.cells [.lit (.int .u32 0),.lit (.int .u32 0),.lit (.int .u32 0)] 212):=fun x=>(xE _ (jR ha)).trans ha;rcases hi3 with rfl|rfl|rfl
  ·have g18:t.get 18= .lit (.int .i64 0):=g18;have hw:IntKind.i64.wrap ((0:Int)+1)=((0+1:Nat):Int):=by decide
   have hc:((0:Int)<3)=True:=by decide
   simp only[jN,jB,jE,jF,reduceCtorEq,jG,jJ,jL,hn,g2,g3,g4,g5,g17,g18,hc,hw,uN];refine ih _ _ ?_;simp only[jN,jE,jF,hn,g2,g17];refine⟨⟨he.push _ he.1,ha' _⟩,?_⟩;(repeat' apply And.intro)<;>first|rfl|trivial
  ·have g18:t.get 18= .lit (.int .i64 1):=g18;have hw:IntKind.i64.wrap ((1:Int)+1)=((1+1:Nat):Int):=by decide
   have hc:((1:Int)<3)=True:=by decide
   simp only[jN,jB,jE,jF,reduceCtorEq,jG,jJ,jL,hn,g2,g3,g4,g5,g17,g18,hc,hw,uO];refine ih _ _ ?_;simp only[jN,jB,jE,jF,hn,g2,g17];refine⟨⟨he.push _ he.1,ha' _⟩,?_⟩;(repeat' apply And.intro)<;>first|rfl|trivial
  ·have g18:t.get 18= .lit (.int .i64 2):=g18;have hw:IntKind.i64.wrap ((2:Int)+1)=((2+1:Nat):Int):=by decide
   have hc:((2:Int)<3)=True:=by decide
   simp only[jN,jB,jE,jF,reduceCtorEq,jG,jJ,jL,hn,g2,g3,g4,g5,g17,g18,hc,hw,uP];refine ih _ _ ?_;simp only[jN,jB,jE,jF,hn,g2,g17];refine⟨⟨he.push _ he.1,ha' _⟩,?_⟩;(repeat' apply And.intro)<;>first|rfl|trivial
 ·rintro t h hc ⟨⟨he,ha⟩,hn,g2,g3,g4,g5,g17,g18⟩;have g18:t.get 18= .lit (.int .i64 3):=g18;have hc:((3:Int)<3)=False:=by decide
  have hlt:H.n+1<h.n:=jR ha;simp only[jN,jB,jE,jF,reduceCtorEq,jG,hn,g2,g3,g4,g5,g18,hc,ha,hlt];exact⟨he.put _ (by omega),rfl⟩
 ·simp only[jN,jB,jE,jF];refine⟨((zM.refl H.n H).push _ (jM _)).push _ (by rw[zF];omega),?_⟩;(repeat' apply And.intro)<;>first|rfl|trivial
theorem Tri.keep{h h':AH}{p:Nat}(he:zM h.n h h')(hp:h.at p=some x):h'.at p=some x:=(he.2 p (jR hp)).trans hp
theorem aC{H:AH}(a b:Int):WC Tryz.prog (zH Tryz.prog kR) oQ 124 [.lit (.int .u32 a),.lit (.int .u32 b)] H fun r h'=>zM H.n H h'/\r= .lit (.int .u32 (UB a b)):=by refine zW Tryz.func124 rfl rfl ?_;simp only[jN,jB,jC,jE,jF,reduceCtorEq,jG,Tryz.ntmps124];refine(Vx (a,b,Ka .u32 (Ka .u32 1315423911 a) b)).mono ?_;rintro _ h1 ⟨e1,rfl⟩;obtain⟨t,ht⟩:∃t,t=QV (a,b,Ka .u32 (Ka .u32 1315423911 a) b):=⟨_,rfl⟩;rw[<-ht];unfold Ea;simp only[jN,jB,jE,jF,jG];refine(Vx (231232,t.1,t.2.2)).mono ?_;rintro _ h2 ⟨e2,rfl⟩;obtain⟨u,hu⟩:∃u,u=QV (231232,t.1,t.2.2):=⟨_,rfl⟩;rw[<-hu];unfold Ea;have T2:=Tri.keep e2 (zI h1 _);have LT2:=fun e off=>Xy (T:=zH Tryz.prog kR) T2 e off;have lt2:h1.n<h2.n:=jR T2;simp only[jN,jB,jE,jF,jG,LT2,lt2];refine(Vx (t.2.1,1232,u.2.2)).mono ?_;rintro _ h3 ⟨e3,rfl⟩;unfold Ea;simp only[jN,jB,jE,reduceCtorEq];refine⟨(e1.trans ((zM.push _ (zM.refl _ _) e1.1).trans (e2.mono (by rw[zF];have:=e1.1;omega)))).trans (((zM.refl H.n h2).push _ (by have:=e1.1;omega)).trans (e3.mono (by rw[zF];have:=e1.1;omega))),?_⟩;subst hu ht;rfl
theorem aE{H:AH}(a b c:Int):WC Tryz.prog (zH Tryz.prog kR) oQ 157 [.lit (.int .u32 a),.lit (.int .u32 b),.lit (.int .u32 c)] H fun r h'=>zM H.n H h'/\r= .lit (.int .u32 (GN a b c)):=by refine zW Tryz.func157 rfl rfl ?_;simp only[jN,jB,jC,jE,jF,reduceCtorEq,jG,Tryz.ntmps157];obtain⟨w0,hw0⟩:∃w,w=Ka .u32 (Ka .u32 (Ka .u32 1315423911 a) b) c:=⟨_,rfl⟩;rw[<-hw0];refine(Vx (a,b,w0)).mono ?_;rintro _ h1 ⟨e1,rfl⟩;obtain⟨t,ht⟩:∃t,t=QV (a,b,w0):=⟨_,rfl⟩;rw[<-ht];unfold Ea;simp only[jN,jB,jE,jF,jG];refine(Vx (c,231232,t.2.2)).mono ?_;rintro _ h2 ⟨e2,rfl⟩;obtain⟨u,hu⟩:∃u,u=QV (c,231232,t.2.2):=⟨_,rfl⟩;rw[<-hu];unfold Ea;have T2:=Tri.keep e2 (zI h1 _);have LT2:=fun e off=>Xy (T:=zH Tryz.prog kR) T2 e off;have lt2:h1.n<h2.n:=jR T2;have E2:zM H.n H h2:=e1.trans ((zM.push _ (zM.refl _ _) e1.1).trans (e2.mono (by rw[zF];have:=e1.1;omega)));simp only[jN,jB,jE,jF,jG,LT2,lt2];refine(Vx (1232,t.1,u.2.2)).mono ?_;rintro _ h3 ⟨e3,rfl⟩;obtain⟨v,hv⟩:∃v,v=QV (1232,t.1,u.2.2):=⟨_,rfl⟩;rw[<-hv];unfold Ea;have T3:=Tri.keep e3 ((xE _ lt2).trans T2);have U3:=Tri.keep e3 (zI h2 _);have LT3:=fun e off=>Xy (T:=zH Tryz.prog kR) T3 e off;have LU3:=fun e off=>Xy (T:=zH Tryz.prog kR) U3 e off;have j4K:h1.n<h3.n:=jR T3;have lu3:h2.n<h3.n:=jR U3;have E3:zM H.n H h3:=E2.trans ((zM.push _ (zM.refl _ _) E2.1).trans (e3.mono (by rw[zF];have:=E2.1;omega)));simp only[jN,jB,jE,jF,jG,LT3,LU3,j4K,lu3];refine(Vx (t.2.1,u.2.1,v.2.2)).mono ?_;rintro _ h4 ⟨e4,rfl⟩;obtain⟨z,hz⟩:∃z,z=QV (t.2.1,u.2.1,v.2.2):=⟨_,rfl⟩;rw[<-hz];unfold Ea;have U4:=Tri.keep e4 ((xE _ lu3).trans U3);have V4:=Tri.keep e4 (zI h3 _);have LU4:=fun e off=>Xy (T:=zH Tryz.prog kR) U4 e off;have LV4:=fun e off=>Xy (T:=zH Tryz.prog kR) V4 e off;have lu4:h2.n<h4.n:=jR U4;have lv4:h3.n<h4.n:=jR V4;have E4:zM H.n H h4:=E3.trans ((zM.push _ (zM.refl _ _) E3.1).trans (e4.mono (by rw[zF];have:=E3.1;omega)));simp only[jN,jB,jE,jF,jG,LU4,LV4,lu4,lv4];refine(Vx (v.1,u.1,z.2.2)).mono ?_;rintro _ h5 ⟨e5,rfl⟩;unfold Ea;simp only[jN,jB,jE,reduceCtorEq];refine⟨E4.trans ((zM.push _ (zM.refl _ _) E4.1).trans (e5.mono (by rw[zF];have:=E4.1;omega))),?_⟩;subst hz hv hu ht hw0;rfl
end
def MY(b:Nat):Nat:=if b=0 then 0 else Nat.log2 b+1
def fJ(s:ByteArray):Bool:=(List.range 256).all (fun b=>(s[b]?).map (·.toNat)==some (MY b))
variable{b:Nat}
theorem Po{s:ByteArray}(hs:fJ s=true)(hb:b<256):CW s (b:Int)=some (MY b):=by unfold CW;rw[if_pos (by omega),vD];have:=List.all_eq_true.1 hs b (List.mem_range.2 hb);simpa using this
theorem HV(x k:Nat)(hk:k<=64):YL .u64 (x:Int) (k:Int)=((x/2^k:Nat):Int):=by
 unfold YL;have:min (Int.toNat (k:Int)) (IntKind.bits .u64)=k:=by simp[IntKind.bits];omega
 rw[this];have h2:((2^k:Nat):Int)=(2:Int)^k:=by exact cQ 2 k
 rw[<-h2,Int.fdiv_eq_ediv_of_nonneg _ (Int.natCast_nonneg _)];rfl
theorem wrap_u8{n:Nat}(h:n<256):IntKind.u8.wrap (n:Int)=(n:Int):=by unfold IntKind.wrap;simp[IntKind.bits,IntKind.signed];omega
theorem uD(x:Nat)(h:256<=x):Nat.log2 x=Nat.log2 (x/256)+8:=by
 have e:∀k y,2^k<=y->Nat.log2 y=Nat.log2 (y/2^k)+k:=by
  intro k;induction k with
  |zero=>intro y _;simp
  |succ k ih=>
   intro y hy;have h2:2<=y:=by have:=Nat.one_le_two_pow (n:=k);rw[Jf]at hy;omega
   rw[Nat.log2_def y,if_pos h2,ih (y/2) (by rw[Jf]at hy;omega),Nat.div_div_eq_div_mul,Jf,Nat.mul_comm 2];omega
 exact e 8 x h
variable{H:AH}
theorem j2c(x:Nat)(h1:1<=x)(h2:x<=65536):WC Tryz.prog (zH Tryz.prog kR) oQ 169 [.lit (.int .u64 x)] H fun r h'=>h'=H/\r= .lit (.int .i64 ((Nat.log2 x+1:Nat))):=by
 refine zW Tryz.func169 rfl rfl ?_;have c1:¬(4294967296:Int)<=(x:Int):=by omega
 by_cases h3:x=65536
 ·subst h3;have c2:(65536:Int)<=((65536:Nat):Int):=by omega
  have e1:YL .u64 ((65536:Nat):Int) 16=1:=by decide
  have e2:IntKind.i64.wrap (0+16)=16:=by decide
  have e3:IntKind.u8.wrap 1=1:=by decide
  have c3:¬(256:Int)<=1:=by omega
  have c4:∀s,fJ s=true->CW s 1=some 1:=fun s hs=>Po hs (b:=1) (by omega);simp only[jN,jB,jC,jE,jF,reduceCtorEq,jJ,Tryz.ntmps169,c1,c2,e1,e2,e3,c3];rw[c4 _ (by kernel_rfl)];simp only[jN,jB,jE,jF,reduceCtorEq];rfl
 ·have c2:¬(65536:Int)<=(x:Int):=by omega
  by_cases h4:256<=x
  ·have c3:(256:Int)<=(x:Int):=by omega
   have e1:YL .u64 (x:Int) 8=((x/256:Nat):Int):=HV x 8 (by omega);have e2:IntKind.i64.wrap (0+8)=8:=by decide
   have e3:IntKind.u8.wrap ((x/256:Nat):Int)=((x/256:Nat):Int):=wrap_u8 (by omega);have c4:∀s,fJ s=true->CW s ((x/256:Nat):Int)=some (MY (x/256)):=fun s hs=>Po hs (by omega);simp only[jN,jB,jC,jE,jF,reduceCtorEq,jJ,Tryz.ntmps169,c1,c2,e1,e2,e3,c3];rw[c4 _ (by kernel_rfl)];have h5:MY (x/256)=Nat.log2 (x/256)+1:=by unfold MY;rw[if_neg (by omega)]
   have h6:Nat.log2 (x/256)<8:=(Nat.log2_lt (by omega)).2 (by omega);have e4:IntKind.i64.wrap ((MY (x/256):Nat):Int)=((Nat.log2 (x/256)+1:Nat):Int):=by rw[h5];exact vW (by omega) (by omega)
   have e5:IntKind.i64.wrap (8+((Nat.log2 (x/256)+1:Nat):Int))=((Nat.log2 x+1:Nat):Int):=by rw[uD x h4];exact(vW (by omega) (by omega)).trans (by omega)
   simp only[jN,jB,jE,jF,reduceCtorEq,e4,e5]
  ·have c3:¬(256:Int)<=(x:Int):=by omega
   have e3:IntKind.u8.wrap (x:Int)=(x:Int):=wrap_u8 (by omega);have c4:∀s,fJ s=true->CW s (x:Int)=some (MY x):=fun s hs=>Po hs (by omega);simp only[jN,jB,jC,jE,jF,reduceCtorEq,jJ,Tryz.ntmps169,c1,c2,e3,c3];rw[c4 _ (by kernel_rfl)];have h5:MY x=Nat.log2 x+1:=by unfold MY;rw[if_neg (by omega)]
   have h6:Nat.log2 x<8:=(Nat.log2_lt (by omega)).2 (by omega);have e4:IntKind.i64.wrap ((MY x:Nat):Int)=((Nat.log2 x+1:Nat):Int):=by rw[h5];exact vW (by omega) (by omega)
   have e5:IntKind.i64.wrap (0+((Nat.log2 x+1:Nat):Int))=((Nat.log2 x+1:Nat):Int):=(vW (by omega) (by omega)).trans (by omega);simp only[jN,jB,jE,jF,reduceCtorEq,e4,e5]
def j4I(k:Int)(x:Int×Int):Int×Int:=
 let y:=YL .u64 (IntKind.u64.wrap (x.1 * x.1)) 31
 if 4294967296<=y then(YL .u64 y 1,IntKind.i64.wrap (x.2+UG .i64 1 k))else(y,x.2)
def uC:Nat->Int×Int->Int×Int
 |0,x=>x
 |n+1,x=>uC n (j4I n x)
def KX(u:Int):Nat:=(if u<0 then 0 else if 65535<u then 65535 else u).toNat+1
def lL(u:Int):Int:=(uC 44 (UG .u64 (KX u) (IntKind.i64.wrap (31-(Nat.log2 (KX u):Int))),UG .i64 (Nat.log2 (KX u)) 44)).2
theorem NC(u:Int):1<=KX u/\KX u<=65536:=by unfold KX;split<;>(try split)<;>omega
theorem j75(u:Int):WC Tryz.prog (zH Tryz.prog kR) oQ 180 [.lit (.int .i64 u)] H fun r h'=>h'=H/\r= .lit (.int .i64 (lL u)):=by
 refine zW Tryz.func180 rfl rfl ?_;obtain⟨X,hX⟩:∃X,X=KX u:=⟨_,rfl⟩;obtain⟨x1,x2⟩:=NC u;rw[<-hX]at x1 x2;have hcl:∀v,v=(if u<0 then 0 else u)->IntKind.u64.wrap (IntKind.u64.wrap (if 65535<v then 65535 else v)+1)=(X:Int):=fun v hv=>by
  rw[hX,hv];unfold KX;by_cases h1:u<0
  ·rw[if_pos h1,if_neg (by omega),if_pos h1];decide
  ·rw[if_neg h1,if_neg h1];by_cases h2:65535<u
   ·rw[if_pos h2];decide
   ·rw[if_neg h2];rw[KI (n:=u) (by omega) (by omega),KI (by omega) (by omega)];omega
 have hcl:=hcl _ rfl;simp only[Jy,xS,jB,jC,jE,reduceCtorEq,Tryz.ntmps180,hcl];refine(j2c X x1 x2).mono ?_;rintro _ h ⟨rfl,rfl⟩;have hl:Nat.log2 X<17:=(Nat.log2_lt (by omega)).2 (by omega);have hw1:IntKind.i64.wrap (((Nat.log2 X+1:Nat):Int)-1)=(Nat.log2 X:Int):=(vW (by omega) (by omega)).trans (by omega);have hw2:(0:Int)<=IntKind.i64.wrap (31-(Nat.log2 X:Int)):=by rw[vW (by omega) (by omega)];omega
 simp only[Jy,jB,jE,jF,jJ,hw1,hw2];refine j3R rfl (fun t h=>by simp only[rC,dB]) (fun n t h'=>∃y o:Int,n<=43/\h'=h/\(uC (n+1) (y,o)).2=lL u/\t.n=39/\t.get 5= .lit (.int .u64 y)/\t.get 6= .lit (.int .i64 o)/\t.get 7= .lit (.int .i64 n)) 43 ?_ _ _ ?_
 ·rintro n t h' ⟨y,o,hn43,rfl,hL,ga⟩ ih;have hn0:(0:Int)<=(n:Int):=by omega
  have key:uC (n+1) (y,o)=uC n (j4I n (y,o)):=rfl;rw[key]at hL;unfold j4I at hL;simp only at hL;cases n with
  |zero=>
   have hw3:IntKind.i64.wrap (((0:Nat):Int)-1)= -1:=by decide
   simp only[Jy,qT,jB,jE,jF,reduceCtorEq,jJ,ga,hw3,hn0];refine⟨fun hq=> ?_,fun hq=> ?_⟩
   ·rw[if_pos (by simpa using hq)]at hL;rw[<-hL];rfl
   ·rw[if_neg (by simpa using hq)]at hL;rw[<-hL];rfl
  |succ m=>
   have hw3:IntKind.i64.wrap (((m+1:Nat):Int)-1)=(m:Int):=(vW (by omega) (by omega)).trans (by omega);have hm:(0:Int)<=(m:Int):=by omega
   have hd:decide ((0:Int)<=(m:Int))=true:=by simp
   simp only[Jy,qT,jB,jE,jF,reduceCtorEq,jJ,ga,hw3,hn0,hm];refine⟨fun hq=> ?_,fun hq=> ?_⟩
   ·refine cZ ?_;refine ih m _ _ (by omega) ⟨YL .u64 (YL .u64 (IntKind.u64.wrap (y * y)) 31) 1,IntKind.i64.wrap (o+UG .i64 1 ((m+1:Nat):Int)),by omega,rfl,?_,?_⟩;rotate_left
    ·simp only[jN,jE,jF,ga]
    ·rw[if_pos (by simpa using hq)]at hL;exact hL
   ·refine cZ ?_;refine ih m _ _ (by omega) ⟨YL .u64 (IntKind.u64.wrap (y * y)) 31,o,by omega,rfl,?_,?_⟩;rotate_left
    ·simp only[jN,jE,jF,ga]
    ·rw[if_neg (by simpa using hq)]at hL;exact hL
 ·refine⟨UG .u64 X (IntKind.i64.wrap (31-(Nat.log2 X:Int))),UG .i64 (Nat.log2 X) 44,jM _,rfl,?_,?_⟩
  ·unfold lL;rw[<-hX]
  ·simp only[jN,jB,jE,jF];rfl
theorem j2V(x k:Nat)(hk:k<=64)(e:Int)(he:e=(k:Int)):UG .u64 (x:Int) e=IntKind.u64.wrap ((x * 2^k:Nat):Int):=by
 subst he;unfold UG;have:min (Int.toNat (k:Int)) (IntKind.bits .u64)=k:=by simp[IntKind.bits];omega
 rw[this];have h2:((2^k:Nat):Int)=(2:Int)^k:=by exact cQ 2 k
 rw[<-h2];rfl
theorem uE{x e:Nat}(h1:1<=x)(he:e<=Nat.log2 x):(0<x/2^(e+1))↔e<Nat.log2 x:=by
 rw[Nat.div_pos_iff];constructor
 ·rintro⟨_,h⟩;exact(Nat.le_log2 (by omega)).2 h
 ·intro h;exact⟨Nat.two_pow_pos _,(Nat.le_log2 (by omega)).1 h⟩
theorem j2d(u:Int):WC Tryz.prog (zH Tryz.prog kR) oQ 173 [.lit (.int .i64 u)] H fun r h'=>h'=H/\r= .lit (.int .i64 (lL u)):=by
 refine zW Tryz.func173 rfl rfl ?_;obtain⟨X,hX⟩:∃X,X=KX u:=⟨_,rfl⟩;obtain⟨x1,x2⟩:=NC u;rw[<-hX]at x1 x2;have hl:Nat.log2 X<17:=(Nat.log2_lt (by omega)).2 (by omega);simp only[Jy,jB,jC,jE,reduceCtorEq,Tryz.ntmps173];refine Bt (fun t h=>H=h/\t.n=48/\t.get 0= .lit (.int .i64 (if u<0 then 0 else u))) (fun k' K' hk=> ?_) ?_
 ·rw[qT];simp only[jN,jB,jE];refine⟨fun hq=>hk _ _ ⟨rfl,?_⟩,fun hq=>hk _ _ ⟨rfl,?_⟩⟩
  ·simp only[jN,jB,jE];rw[if_pos (by simpa using hq)]
  ·simp only[jN,jB,reduceCtorEq];rw[if_neg (by simpa using hq)]
 rintro t h ⟨rfl,hn,g0⟩;obtain⟨v,hv⟩:∃v,v=(if u<0 then 0 else u):=⟨_,rfl⟩;rw[<-hv]at g0;simp only[Jy,jB,jE,hn,g0];refine Bt (fun t h=>H=h/\t.n=48/\t.get 0= .lit (.int .i64 ((X:Int)-1))) (fun k' K' hk=> ?_) ?_
 ·rw[qT];simp only[jN,jE,hn];refine⟨fun hq=>hk _ _ ⟨rfl,?_⟩,fun hq=>hk _ _ ⟨rfl,?_⟩⟩
  ·simp only[jN,jE,hn];have hq:65535<v:=by simpa using hq
   have:(X:Int)=65536:=by
    rw[hX];unfold KX;split at hv
    ·omega
    ·subst hv;rw[if_neg (by omega),if_pos hq];rfl
   rw[this];rfl
  ·simp only[jN,reduceCtorEq,hn,g0];have hq:¬65535<v:=by simpa using hq
   have:(X:Int)-1=v:=by
    rw[hX];unfold KX;split at hv
    ·rename_i h0;rw[if_pos h0];subst hv;rfl
    ·rename_i h0;subst hv;rw[if_neg h0,if_neg hq];omega
   rw[this]
 rintro t h ⟨rfl,hn,g0⟩;have e1:IntKind.u64.wrap (IntKind.u64.wrap ((X:Int)-1)+1)=(X:Int):=by rw[KI (n:=(X:Int)-1) (by omega) (by omega),KI (by omega) (by omega)];omega
 simp only[jN,jB,jE,hn,g0,e1];refine ZP (fun(e:Nat) t h=>H=h/\e<=Nat.log2 X/\t.n=48/\t.get 3= .lit (.int .u64 X)/\t.get 4= .lit (.int .i64 e)) (fun e=>Nat.log2 X-e) ?_ 0 _ _ ?_
 ·rintro e t h ⟨rfl,he,hn,g3,g4⟩ ih;have hw:IntKind.i64.wrap ((e:Int)+1)=((e+1:Nat):Int):=xG (n:=60) (by omega) (by omega);have hw2:IntKind.u64.wrap ((e+1:Nat):Int)=((e+1:Nat):Int):=KI (by omega) (by omega);have hs:=HV X (e+1) (by omega);have h0:(0:Int)<=((e+1:Nat):Int):=by omega
  have ht:=uE x1 he;by_cases hlt:e<Nat.log2 X
  ·have hc:((0:Int)<((X/2^(e+1):Nat):Int))=True:=by have h9:=ht.2 hlt;simp only[eq_iff_iff,iff_true];omega
   simp only[jN,jB,jE,jF,reduceCtorEq,hn,g3,g4,hw,hw2,hs,h0,hc];refine ih (e+1) _ _ ⟨rfl,by omega,?_⟩ (by omega);simp only[jN,jE,jF,hn,g3]
  ·have hc:((0:Int)<((X/2^(e+1):Nat):Int))=False:=by have h9:¬0<X/2^(e+1):=fun h=>hlt (ht.1 h);simp only[eq_iff_iff,iff_false];omega
   have heq:e=Nat.log2 X:=by omega
   subst heq;have hw3:IntKind.i64.wrap (31-(Nat.log2 X:Int))=31-(Nat.log2 X:Int):=vW (by omega) (by omega);have hw4:IntKind.u64.wrap (31-(Nat.log2 X:Int))=31-(Nat.log2 X:Int):=KI (by omega) (by omega);have h31:(0:Int)<=31-(Nat.log2 X:Int):=by omega
   simp only[jN,jB,jE,jF,reduceCtorEq,jJ,hn,g3,g4,hw,hw2,hs,h0,hc,hw3,hw4,h31];refine ZP (fun(n:Nat) t h'=>∃y o:Int,n<=44/\H=h'/\(uC n (y,o)).2=lL u/\t.n=48/\t.get 5= .lit (.int .u64 y)/\t.get 6= .lit (.int .i64 o)/\t.get 7= .lit (.int .i64 ((n:Int)-1))) (fun n=>n) ?_ 44 _ _ ?_
   ·rintro n t h' ⟨y,o,hn44,rfl,hL,hn,g5,g6,g7⟩ ih2;cases n with
    |zero=>
     have hc:((0:Int)<=((0:Nat):Int)-1)=False:=by decide
     simp only[jN,jB,jE,jF,reduceCtorEq,jJ,hn,g5,g6,g7,hc];rw[<-hL];rfl
    |succ m=>
     have hg7:t.get 7= .lit (.int .i64 (m:Int)):=by rw[g7];congr 2;omega
     have hc:((0:Int)<=(m:Int))=True:=by simp
     have hw5:IntKind.u64.wrap (m:Int)=(m:Int):=KI (by omega) (by omega);have hw6:IntKind.i64.wrap ((m:Int)-1)=(m:Int)-1:=vW (by omega) (by omega);have hm:(0:Int)<=(m:Int):=by omega
     have key:uC (m+1) (y,o)=uC m (j4I m (y,o)):=rfl;rw[key]at hL;unfold j4I at hL;simp only at hL;simp only[jN,jB,jE,jF,reduceCtorEq,jJ,hn,g5,g6,hg7,hc,hw5,hw6];refine⟨fun hq=> ?_,fun hq=> ?_⟩
     ·rw[if_pos (by simpa using hq)]at hL;refine ih2 m _ _ ⟨YL .u64 (YL .u64 (IntKind.u64.wrap (y * y)) 31) 1,IntKind.i64.wrap (o+UG .i64 1 (m:Int)),by omega,rfl,hL,?_⟩ (by omega);simp only[jN,jE,jF,hn]
     ·rw[if_neg (by simpa using hq)]at hL;refine ih2 m _ _ ⟨YL .u64 (IntKind.u64.wrap (y * y)) 31,o,by omega,rfl,hL,?_⟩ (by omega);simp only[jN,jE,jF,hn,g6]
   ·refine⟨UG .u64 X (31-(Nat.log2 X:Int)),UG .i64 (Nat.log2 X) 44,jM _,rfl,?_,?_⟩
    ·unfold lL;rw[<-hX,hw3]
    ·simp only[jN,jE,jF,hn];rfl
 ·refine⟨rfl,vT _,?_⟩;simp only[jN,jE,jF,hn];rfl
variable{a:Nat}
section
def fN{β:Type}(n:Nat)(k:Nat->β):β:=Nat.rec (motive:=fun _=>β) (k 0) (fun m _=>k (Nat.succ m)) n
theorem NG{β:Type}(n:Nat)(k:Nat->β):fN n k=k n:=by cases n<;>rfl
def Dl(a b:Nat):Nat:=Nat.mod (Nat.add a (Nat.sub 4294967296 b)) 4294967296
abbrev N3:=Nat×Nat×Nat
def AZ(s0 s1 s2 a b c:Nat):N3:=
 fN (Nat.xor (Dl (Dl a b) c) (Nat.shiftRight c s0)) fun a=>
 fN (Nat.xor (Dl (Dl b c) a) (Nat.mod (Nat.shiftLeft a s1) 4294967296)) fun b=>
 fN (Nat.xor (Dl (Dl c a) b) (Nat.shiftRight b s2)) fun c=>(a,b,c)
def Lw(x:N3):N3:=match x with
 |(a,b,c)=>match AZ 13 8 13 a b c with
  |(a,b,c)=>match AZ 12 16 5 a b c with
   |(a,b,c)=>AZ 3 10 15 a b c
def Ni(x:N3):I3:=((x.1:Int),(x.2.1:Int),(x.2.2:Int))
def j4K(x:N3):Prop:=x.1<4294967296/\x.2.1<4294967296/\x.2.2<4294967296
theorem VG(ha:a<4294967296)(hb:b<4294967296):Ka .u32 (a:Int) (b:Int)=((Nat.xor a b:Nat):Int)/\Nat.xor a b<4294967296:=by
 have hx:a ^^^ b<2^32:=Nat.xor_lt_two_pow (n:=32) ha hb;refine⟨?_,hx⟩;unfold Ka;have e1:(BitVec.ofInt (IntKind.bits .u32) (a:Int)).toNat=a:=by show(BitVec.ofInt 32 (a:Int)).toNat=a;rw[BitVec.ofInt_natCast,BitVec.toNat_ofNat,Nat.mod_eq_of_lt ha]
 have e2:(BitVec.ofInt (IntKind.bits .u32) (b:Int)).toNat=b:=by show(BitVec.ofInt 32 (b:Int)).toNat=b;rw[BitVec.ofInt_natCast,BitVec.toNat_ofNat,Nat.mod_eq_of_lt hb]
 rw[BitVec.toNat_xor,e1,e2];exact wrap_u32 (by omega) (by have:a ^^^ b<4294967296:=hx;omega)
theorem AD(a b:Nat):Dl a b<4294967296:=Nat.mod_lt _ (by decide)
theorem Gm(ha:a<4294967296)(hb:b<4294967296):IntKind.u32.wrap ((a:Int)-(b:Int))=((Dl a b:Nat):Int):=by unfold Dl IntKind.wrap;simp only[IntKind.bits,IntKind.signed,Dn];show((a:Int)-b)%4294967296=(((a+(4294967296-b))%4294967296:Nat):Int);omega
theorem j3F(k:Nat)(hk:k<=32)(ha:a<4294967296):YL .u32 (a:Int) (k:Int)=((Nat.shiftRight a k:Nat):Int)/\Nat.shiftRight a k<4294967296:=by
 have e0:Nat.shiftRight a k=a/2^k:=YX a k;rw[e0];refine⟨?_,Nat.lt_of_le_of_lt (Nat.div_le_self _ _) ha⟩;unfold YL;have:min (Int.toNat (k:Int)) (IntKind.bits .u32)=k:=by simp[IntKind.bits];omega
 rw[this];have h2:((2^k:Nat):Int)=(2:Int)^k:=by exact cQ 2 k
 rw[<-h2,Int.fdiv_eq_ediv_of_nonneg _ (Int.natCast_nonneg _)];rfl
theorem j6E(k:Nat)(hk:k<=32):UG .u32 (a:Int) (k:Int)=((Nat.mod (Nat.shiftLeft a k) 4294967296:Nat):Int)/\Nat.mod (Nat.shiftLeft a k) 4294967296<4294967296:=by
 refine⟨?_,Nat.mod_lt _ (by decide)⟩;have e0:Nat.shiftLeft a k=a * 2^k:=Nat.shiftLeft_eq a k;rw[e0];unfold UG;have:min (Int.toNat (k:Int)) (IntKind.bits .u32)=k:=by simp[IntKind.bits];omega
 rw[this];have h2:((2^k:Nat):Int)=(2:Int)^k:=by exact cQ 2 k
 rw[<-h2];generalize 2^k=m;unfold IntKind.wrap;simp only[IntKind.bits,IntKind.signed,Dn];show((a:Int) * (m:Int))%4294967296=((a * m%4294967296:Nat):Int);rw[Int.natCast_emod,Em];rfl
theorem Lx{s0 s1 s2 c:Nat}(h0:s0<=32)(h1:s1<=32)(h2:s2<=32)(ha:a<4294967296)(hb:b<4294967296)(hc:c<4294967296):
 ST (s0:Int) (s1:Int) (s2:Int) (Ni (a,b,c))=Ni (AZ s0 s1 s2 a b c)/\j4K (AZ s0 s1 s2 a b c):=by
 obtain⟨p1,p2⟩:=j3F s0 h0 hc
 obtain⟨a',ha'⟩:∃a',a'=Nat.xor (Dl (Dl a b) c) (Nat.shiftRight c s0):=⟨_,rfl⟩
 obtain⟨q1,q2⟩:=VG (AD (Dl a b) c) p2
 rw[<-ha']at q1 q2
 obtain⟨p3,p4⟩:=j6E (a:=a') s1 h1
 obtain⟨b',hb'⟩:∃b',b'=Nat.xor (Dl (Dl b c) a') (Nat.mod (Nat.shiftLeft a' s1) 4294967296):=⟨_,rfl⟩
 obtain⟨q3,q4⟩:=VG (AD (Dl b c) a') p4
 rw[<-hb']at q3 q4
 obtain⟨p5,p6⟩:=j3F s2 h2 q4
 obtain⟨c',hc'⟩:∃c',c'=Nat.xor (Dl (Dl c a') b') (Nat.shiftRight b' s2):=⟨_,rfl⟩
 obtain⟨q5,q6⟩:=VG (AD (Dl c a') b') p6
 rw[<-hc']at q5 q6
 have e:AZ s0 s1 s2 a b c=(a',b',c'):=by unfold AZ;simp only[NG,<-ha',<-hb',<-hc']
 rw[e]
 refine⟨?_,q2,q4,q6⟩
 unfold ST Ni
 simp only
 rw[Gm ha hb,Gm (AD a b) hc,p1,q1,Gm hb hc,Gm (AD b c) q2,p3,q3,Gm hc q2,Gm (AD c a') q4,p5,q5]
theorem SR{x:N3}(h:j4K x):QV (Ni x)=Ni (Lw x)/\j4K (Lw x):=by obtain⟨a,b,c⟩:=x;obtain⟨e1,l1⟩:=Lx (s0:=13) (s1:=8) (s2:=13) (by decide) (by decide) (by decide) h.1 h.2.1 h.2.2;obtain⟨a1,b1,c1⟩:N3:=AZ 13 8 13 a b c;unfold QV SS Lw;simp only;generalize hx1:AZ 13 8 13 a b c=x1 at *;obtain⟨a1,b1,c1⟩:=x1;obtain⟨e2,l2⟩:=Lx (s0:=12) (s1:=16) (s2:=5) (by decide) (by decide) (by decide) l1.1 l1.2.1 l1.2.2;simp only;generalize hx2:AZ 12 16 5 a1 b1 c1=x2 at *;obtain⟨a2,b2,c2⟩:=x2;obtain⟨e3,l3⟩:=Lx (s0:=3) (s1:=10) (s2:=15) (by decide) (by decide) (by decide) l2.1 l2.2.1 l2.2.2;simp only;refine⟨?_,l3⟩;rw[<-e3,<-e2,<-e1];rfl
section
variable {M:I3->I3} {G:N3->N3}
def j3a(M:I3->I3)(G:N3->N3):Prop:=∀x,j4K x->M (Ni x)=Ni (G x)/\j4K (G x)
def j7m(M:I3->I3)(a b w:Int):Int:=
 let t:=M (a,b,w)
 let u:=M (231232,t.1,t.2.2)
 (M (t.2.1,1232,u.2.2)).2.2
def j6N(G:N3->N3)(a b w:Nat):Nat:=match G (a,b,w)with
 |(ta,tb,tc)=>match G (231232,ta,tc)with
  |(_,_,uc)=>(G (tb,1232,uc)).2.2
theorem j6e(hG:j3a M G){w:Nat}(ha:a<4294967296)(hb:b<4294967296)(hw:w<4294967296):j7m M (a:Int) (b:Int) (w:Int)=((j6N G a b w:Nat):Int)/\j6N G a b w<4294967296:=by obtain⟨e1,l1⟩:=hG (a,b,w) ⟨ha,hb,hw⟩;have f1:M ((a:Int),(b:Int),(w:Int))=Ni (G (a,b,w)):=e1;unfold j7m j6N;rw[f1];generalize G (a,b,w)=t at l1;obtain⟨ta,tb,tc⟩:=t;obtain⟨e2,l2⟩:=hG (231232,ta,tc) ⟨(by decide:231232<4294967296),l1.1,l1.2.2⟩;have f2:M (231232,(ta:Int),(tc:Int))=Ni (G (231232,ta,tc)):=e2;simp only[Ni];rw[f2];generalize G (231232,ta,tc)=u at l2;obtain⟨ua,ub,uc⟩:=u;obtain⟨e3,l3⟩:=hG (tb,1232,uc) ⟨l1.2.1,(by decide:1232<4294967296),l2.2.2⟩;have f3:M ((tb:Int),1232,(uc:Int))=Ni (G (tb,1232,uc)):=e3;simp only[Ni];rw[f3];exact⟨rfl,l3.2.2⟩
def j7n(M:I3->I3)(a b c w:Int):Int:=
 let t:=M (a,b,w)
 let u:=M (c,231232,t.2.2)
 let v:=M (1232,t.1,u.2.2)
 let w:=M (t.2.1,u.2.1,v.2.2)
 (M (v.1,u.1,w.2.2)).2.2
def j6O(G:N3->N3)(a b c w:Nat):Nat:=match G (a,b,w)with
 |(ta,tb,tc)=>match G (c,231232,tc)with
  |(ua,ub,uc)=>match G (1232,ta,uc)with
   |(va,_,vc)=>match G (tb,ub,vc)with
    |(_,_,wc)=>(G (va,ua,wc)).2.2
theorem j6f(hG:j3a M G){c w:Nat}(ha:a<4294967296)(hb:b<4294967296)(hc:c<4294967296)(hw:w<4294967296):j7n M (a:Int) (b:Int) (c:Int) (w:Int)=((j6O G a b c w:Nat):Int)/\j6O G a b c w<4294967296:=by obtain⟨e1,l1⟩:=hG (a,b,w) ⟨ha,hb,hw⟩;have f1:M ((a:Int),(b:Int),(w:Int))=Ni (G (a,b,w)):=e1;unfold j7n j6O;rw[f1];generalize G (a,b,w)=t at l1;obtain⟨ta,tb,tc⟩:=t;obtain⟨e2,l2⟩:=hG (c,231232,tc) ⟨hc,(by decide:231232<4294967296),l1.2.2⟩;have f2:M ((c:Int),231232,(tc:Int))=Ni (G (c,231232,tc)):=e2;simp only[Ni];rw[f2];generalize G (c,231232,tc)=u at l2;obtain⟨ua,ub,uc⟩:=u;obtain⟨e3,l3⟩:=hG (1232,ta,uc) ⟨(by decide:1232<4294967296),l1.1,l2.2.2⟩;have f3:M (1232,(ta:Int),(uc:Int))=Ni (G (1232,ta,uc)):=e3;simp only[Ni];rw[f3];generalize G (1232,ta,uc)=v at l3;obtain⟨va,vb,vc⟩:=v;obtain⟨e4,l4⟩:=hG (tb,ub,vc) ⟨l1.2.1,l2.2.1,l3.2.2⟩;have f4:M ((tb:Int),(ub:Int),(vc:Int))=Ni (G (tb,ub,vc)):=e4;simp only[Ni];rw[f4];generalize G (tb,ub,vc)=z at l4;obtain⟨za,zb,zc⟩:=z;obtain⟨e5,l5⟩:=hG (va,ua,zc) ⟨l3.1,l2.1,l4.2.2⟩;have f5:M ((va:Int),(ua:Int),(zc:Int))=Ni (G (va,ua,zc)):=e5;simp only[Ni];rw[f5];exact⟨rfl,l5.2.2⟩
end
def aB(a b:Nat):Nat:=j6N Lw a b (Nat.xor (Nat.xor 1315423911 a) b)
def aD(a b c:Nat):Nat:=j6O Lw a b c (Nat.xor (Nat.xor (Nat.xor 1315423911 a) b) c)
theorem iT(ha:a<4294967296)(hb:b<4294967296):UB (a:Int) (b:Int)=((aB a b:Nat):Int)/\aB a b<4294967296:=by
 obtain⟨x1,y1⟩:=VG (a:=1315423911) (by decide) ha;obtain⟨x2,y2⟩:=VG y1 hb;have e0:Ka .u32 (Ka .u32 1315423911 (a:Int)) (b:Int)=((Nat.xor (Nat.xor 1315423911 a) b:Nat):Int):=by rw[<-x2,<-x1];rfl
 have key:=j6e (M:=QV) (G:=Lw) (fun x hx=>SR hx) ha hb y2;rw[<-e0]at key;exact key
theorem iU{c:Nat}(ha:a<4294967296)(hb:b<4294967296)(hc:c<4294967296):GN (a:Int) (b:Int) (c:Int)=((aD a b c:Nat):Int)/\aD a b c<4294967296:=by
 obtain⟨x1,y1⟩:=VG (a:=1315423911) (by decide) ha;obtain⟨x2,y2⟩:=VG y1 hb;obtain⟨x3,y3⟩:=VG y2 hc;have e0:Ka .u32 (Ka .u32 (Ka .u32 1315423911 (a:Int)) (b:Int)) (c:Int)=((Nat.xor (Nat.xor (Nat.xor 1315423911 a) b) c:Nat):Int):=by rw[<-x3,<-x2,<-x1];rfl
 have key:=j6f (M:=QV) (G:=Lw) (fun x hx=>SR hx) ha hb hc y3;rw[<-e0]at key;exact key
def aP:Nat->Nat->Nat->Nat
 |0,_,o=>o
 |n+1,y,o=>fN (Nat.shiftRight (Nat.mul y y) 31) fun y=>bif Nat.ble 4294967296 y then fN (Nat.shiftRight y 1) fun y=>fN (Nat.add o (Nat.shiftLeft 1 n)) fun o=>aP n y o else aP n y o
def j6Q(u:Nat):Nat:=fN (Nat.succ u) fun x=>fN (Nat.log2 x) fun e=>aP 44 (Nat.shiftLeft x (Nat.sub 31 e)) (Nat.shiftLeft e 44)
theorem Pq:∀(n:Nat) (y o:Nat),n<=44->y<4294967296->o+2^n<=2^60->(uC n ((y:Int),(o:Int))).2=((aP n y o:Nat):Int)/\aP n y o<2^60
 |0,y,o,_,_,ho=>⟨rfl,by have:aP 0 y o=o:=rfl;rw[this];simp at ho;omega⟩
 |n+1,y,o,hn,hy,ho=>by
  have hp:(2:Nat)^(n+1)=2^n+2^n:=by rw[Jf];omega
  have h60:(2:Nat)^60=1152921504606846976:=by decide
  rw[hp,h60]at ho;obtain⟨q,hq⟩:∃q,q=(2:Nat)^n:=⟨_,rfl⟩;rw[<-hq]at ho;have hyy:y * y<18446744073709551616:=by have:y * y<=4294967295 * 4294967295:=Nat.mul_le_mul (by omega) (by omega);omega
  have e1:IntKind.u64.wrap ((y:Int) * (y:Int))=((y * y:Nat):Int):=by rw[show((y:Int) * (y:Int))=((y * y:Nat):Int)from(Em y y).symm];exact KI (by omega) (by omega)
  obtain⟨z,hz⟩:∃z,z=y * y/2^31:=⟨_,rfl⟩;have e2:YL .u64 ((y * y:Nat):Int) 31=(z:Int):=by rw[hz];exact HV (y * y) 31 (by decide)
  have e3:Nat.shiftRight (Nat.mul y y) 31=z:=by rw[hz];exact YX _ _
  have hz2:z<8589934592:=by rw[hz];omega
  have key:uC (n+1) ((y:Int),(o:Int))=uC n (j4I n ((y:Int),(o:Int))):=rfl;rw[key];unfold j4I aP;simp only[e1,e2,e3,NG];by_cases hge:4294967296<=z
  ·rw[if_pos (by omega),show Nat.ble 4294967296 z=true from Nat.ble_eq.mpr hge]
   simp only[cond_true];have e4:YL .u64 (z:Int) 1=((z/2:Nat):Int):=HV z 1 (by decide);have e5:Nat.shiftRight z 1=z/2:=YX _ _;have e6:UG .i64 1 (n:Int)=(q:Int):=by
    unfold UG;have:min (Int.toNat (n:Int)) (IntKind.bits .i64)=n:=by simp[IntKind.bits];omega
    rw[this];have h2:((2^n:Nat):Int)=(2:Int)^n:=by exact cQ 2 n
    rw[Int.one_mul,<-h2,<-hq];exact vW (by omega) (by omega)
   have e7:Nat.shiftLeft 1 n=q:=by rw[show Nat.shiftLeft 1 n=1 * 2^n from Nat.shiftLeft_eq 1 n,Nat.one_mul,hq]
   have e8:IntKind.i64.wrap ((o:Int)+(q:Int))=((o+q:Nat):Int):=by rw[show((o:Int)+(q:Int))=((o+q:Nat):Int)from(Int.natCast_add o q).symm];exact vW (by omega) (by omega)
   rw[e4,e5,e6,e7,e8];exact Pq n (z/2) (o+q) (by omega) (by omega) (by rw[<-hq,h60];omega)
  ·rw[if_neg (by omega),show Nat.ble 4294967296 z=false from Bool.eq_false_iff.mpr fun h=>hge (Nat.ble_eq.mp h)];simp only[cond_false];exact Pq n z o (by omega) (by omega) (by rw[<-hq,h60];omega)
theorem j4H{u:Nat}(hu:u<=65535):lL (u:Int)=((j6Q u:Nat):Int)/\j6Q u<2^60:=by
 have hX:KX (u:Int)=u+1:=by unfold KX;rw[if_neg (by omega),if_neg (by omega)];rfl
 obtain⟨e,he⟩:∃e,e=Nat.log2 (u+1):=⟨_,rfl⟩;have hl:e<17:=by rw[he];exact(Nat.log2_lt (by omega)).2 (by omega)
 have hlt:u+1<2^(e+1):=by rw[he];exact Nat.lt_log2_self
 have he2:Nat.log2 (Nat.succ u)=e:=he.symm;unfold lL j6Q;rw[hX];simp only[NG];rw[he2];have e1:IntKind.i64.wrap (31-(e:Int))=((31-e:Nat):Int):=(vW (by omega) (by omega)).trans (by omega);have hb:(u+1) * 2^(31-e)<4294967296:=by have h1:(u+1) * 2^(31-e)<2^(e+1) * 2^(31-e):=Nat.mul_lt_mul_of_pos_right hlt (Nat.two_pow_pos _);rw[<-Nat.pow_add,show e+1+(31-e)=32 by omega]at h1;exact h1
 have e2:UG .u64 ((u+1:Nat):Int) ((31-e:Nat):Int)=(((u+1) * 2^(31-e):Nat):Int):=by rw[j2V (u+1) (31-e) (by omega) _ rfl];exact KI (by omega) (by omega)
 have e3:UG .i64 (e:Int) 44=((e * 2^44:Nat):Int):=by
  unfold UG;have:min (Int.toNat (44:Int)) (IntKind.bits .i64)=44:=by decide
  rw[this,show((e:Int) * 2^44)=((e * 2^44:Nat):Int)by rw[Em];rfl];exact vW (by omega) (by omega)
 have e4:Nat.shiftLeft (Nat.succ u) (Nat.sub 31 e)=(u+1) * 2^(31-e):=Nat.shiftLeft_eq _ _;have e5:Nat.shiftLeft e 44=e * 2^44:=Nat.shiftLeft_eq _ _;rw[e1,e2,e3,e4,e5];exact Pq 44 _ _ (by decide) hb (by omega)
def uV:Int->Bool
 | .ofNat n=>Nat.blt n 4294967296
 |_=>false
theorem CE{a:Int}(h:uV a=true):∃n:Nat,a=(n:Int)/\n<4294967296:=by
 cases a with
 |ofNat n=>exact⟨n,rfl,Nat.blt_eq.mp h⟩
 |negSucc n=>cases h
def EO(a b:Int):Int:=bif uV a&&uV b then fN (aB a.toNat b.toNat) fun n=>Int.ofNat n else UB a b
def ER(a b c:Int):Int:=bif uV a&&(uV b&&uV c)then fN (aD a.toNat b.toNat c.toNat) fun n=>Int.ofNat n else GN a b c
def j7o:Int->Bool
 | .ofNat n=>Nat.ble n 65535
 |_=>false
def j6k(u:Int):Int:=bif j7o u then fN (j6Q u.toNat) fun n=>Int.ofNat n else lL u
theorem Ap(a b:Int):EO a b=UB a b:=by
 unfold EO;cases h:uV a&&uV b with
 |false=>rfl
 |true=>
  simp only[jW]at h;obtain⟨n,rfl,hn⟩:=CE h.1;obtain⟨m,rfl,hm⟩:=CE h.2;rw[cond_true,NG,(iT hn hm).1];rfl
theorem Aq(a b c:Int):ER a b c=GN a b c:=by
 unfold ER;cases h:uV a&&(uV b&&uV c)with
 |false=>rfl
 |true=>
  simp only[jW]at h;obtain⟨n,rfl,hn⟩:=CE h.1;obtain⟨m,rfl,hm⟩:=CE h.2.1;obtain⟨k,rfl,hk⟩:=CE h.2.2;rw[cond_true,NG,(iU hn hm hk).1];rfl
theorem Pr(u:Int):j6k u=lL u:=by
 unfold j6k;cases h:j7o u with
 |false=>rfl
 |true=>
  cases u with
  |negSucc n=>cases h
  |ofNat n=>
   rw[cond_true,NG];exact(j4H (Nat.ble_eq.mp h)).1.symm
end
end Go.Proofs.YtcieggahhkoeeaaGreat.Ex
namespace Go.Proofs.YtcieggahhkoeeaaGreat
section
open Go.RowKit
theorem j1y(a:Addr)(x y s:Int)(w:World)(hc:w.cell? a=some (.int .i64 x))(hz:w.frozen? a=false)(hs:(IntKind.i64.wrap (x+y))=s):
 Calls Tryz.prog 58 #[.pointer (some a),.int .i64 y] w fun e w'=>e= .returned (.int .i64 s)/\w'=w.setCell a (.int .i64 s):=by
 have hadd:=run_call_add (P:=Tryz.prog) Tryz.func73 (by kernel_rfl) (by kernel_rfl) (by kernel_rfl) .i64 (by kernel_rfl) (y:=y) (s:=s) hc hz (by first|(simp[go_sem];exact hs)|(simp[go_sem,hs])|exact hs)
 go_enter Tryz.func58,Tryz.ntmps58
 go_wp2
 go_ret
 exact⟨rfl,rfl⟩
end
end Go.Proofs.YtcieggahhkoeeaaGreat
namespace Go.Proofs.YtcieggahhkoeeaaGreat.Ex
variable{μ:Mu}{h:AH}{w:World}
section
open Go Go.RowKit
def j02:List AV->AH->Option (AV×AH)
 |[.ptr b off,.lit (.int .i64 y)],h=>match KL h b with
  |some (l,e)=>match l[off]? with
   |some (.lit (.int .i64 x))=>(put l off [.lit (.int .i64 (IntKind.i64.wrap (x+y)))]).map fun l'=>(.lit (.int .i64 (IntKind.i64.wrap (x+y))),h.put b (.cells l' e))
   |_=>none
  |none=>none
 |_,_=>none
theorem j2S{ρ:Nat->Value}{fl:Nat}{h':AH}{v:AV}{args:List AV}{args':List Value}(hg:j02 args h=some (v,h'))(hr:HR Tryz.prog ρ fl μ h w)(ha:qF ρ μ w args args'):
 Calls Tryz.prog 58 args'.toArray w fun e w'=>∃μ' v',e= .returned v'/\yD Tryz.prog ρ fl μ h w μ' h' w'/\rel ρ μ' w' v v':=by
 unfold j02 at hg
 split at hg
 case h_2=>cases hg
 rename_i b off y
 split at hg
 case h_2=>cases hg
 rename_i l e hgb
 split at hg
 case h_2=>cases hg
 rename_i x hx
 simp only[jT,jV]at hg
 obtain⟨l',hp,rfl,rfl⟩:=hg
 obtain⟨vp,vs,rfl,r1,r2⟩:=xB ha
 obtain⟨vy,vs2,rfl,r3,r4⟩:=xB r2
 obtain rfl:=xM r4
 obtain rfl:=xF r3
 obtain⟨r,base,m1,rfl⟩:=yN r1
 obtain⟨cur,k1,k2,k3⟩:=Xr hr m1 hgb
 obtain⟨v0,v1,v2⟩:=k2.2 off _ hx
 obtain rfl:=xF v2
 have hcells:qF ρ μ w [AV.lit (.int .i64 (IntKind.i64.wrap (x+y)))] [.int .i64 (IntKind.i64.wrap (x+y))]:=rels_cons (vN rfl) rels_nil
 have hc:w.cell? ⟨r,base+off,none⟩=some (.int .i64 x):=by rw[qP k1];exact v1
 obtain⟨ef,_,fz⟩:=KG hr m1 hgb hp hcells
 have hz:w.frozen? ⟨r,base+off,none⟩=false:=fz 0 (by simp)
 refine(j1y ⟨r,base+off,none⟩ x y _ w hc hz rfl).mono fun e w' hy=> ?_
 obtain⟨rfl,rfl⟩:=hy
 exact⟨μ,_,rfl,ef,vN rfl⟩
end
section
open Go Go.RowKit
variable {P:Program} {ρ:Nat->Value} {fl:Nat}
theorem j1J{w':World}(hr:HR P ρ fl μ h w)(hs:w'.tape=w.tape/\w'.os=w.os/\w'.output=w.output)(hsz:w.heap.size<=w'.heap.size)(hx:∀r,r<w.heap.size->w'.heap[r]? =w.heap[r]?):yD P ρ fl μ h w μ h w':=by
 have hlt:∀r o,w.heap[r]? =some o->r<w.heap.size:=fun r o h=>(Array.getElem?_eq_some_iff.1 h).1;have hg:Jt w w':=fun r cur e fz h=>⟨cur,e,fz,by rw[hx r (hlt r _ h)];exact h,rfl⟩;have hr':Ns P ρ fl μ h.L w:=hr;show JQ P ρ fl μ h.L w μ h.L w'
 exact⟨yZ.refl μ,jM _,fun b x h1 h2=>(by rw[h1]at h2;cases h2),fun _ _ _=>rfl,fun _ h=>h,fun _ _ _ h=>h,hg,hsz,fun b r base h1 h2=>(by rw[h1]at h2;cases h2),fun r h _=>hx r h,hs,
  ⟨zY hr'.floor hsz,hr'.dom,fun b r base ab h1 h2=>let⟨h3,h4,o,h5,h6⟩:=hr'.obj b r base ab h1 h2;⟨h3,zS h4 hsz,o,by rw[hx r h4];exact h5,h6.mono (yZ.refl μ) hg⟩,hr'.inj,hr'.pin.more (yZ.refl μ) hg⟩⟩
theorem RY{w':World}(hr:HR P ρ fl μ h w)(hk:Go.Proofs.YtcieggahhkoeeaaGreat.Kept (fun _=>False) w w'):yD P ρ fl μ h w μ h w':=
 j1J hr ⟨hk.tape,hk.os,hk.output⟩ hk.size fun r hr=>hk.block r hr id
end
end Go.Proofs.YtcieggahhkoeeaaGreat.Ex
namespace Go.Proofs.YtcieggahhkoeeaaGreat
section
open Go.RowKit
def Yy(b:UInt8):Bool:=decide (33<=b.toNat)&&decide (b.toNat<=126)
def Ke(l:List UInt8):Bool:=l.all Yy&&decide (1<=l.length)&&decide (l.length<=64)
theorem BS(s:ByteArray)(k:Nat)(h:k<s.size):s.data.toList.take (k+1)=s.data.toList.take k++[s[k]]:=by rw[List.take_succ_eq_append_getElem (by simpa using h)];rfl
theorem Cs(s:ByteArray)(k:Nat)(h:k<s.size)(hb:Yy s[k]=false):Ke s.data.toList=false:=by
 unfold Ke;have:s.data.toList.all Yy=false:=by rw[List.all_eq_false];refine⟨s[k],?_,by simp[hb]⟩;have:s.data.toList[k]'(by simpa using h)∈s.data.toList:=List.getElem_mem _;exact this
 simp[this]
theorem Su(s:ByteArray)(h:(s.data.toList.take s.size).all Yy=true):Ke s.data.toList=(decide (1<=s.size)&&decide (s.size<=64)):=by rw[xP (by simp)]at h;unfold Ke;rw[h];simp
def cP(s:ByteArray)(i:Value):Prop:=∃k:Nat,k<=s.size/\i= .int .i64 k/\(s.data.toList.take k).all Yy=true
set_option maxHeartbeats 800000 in
theorem j4v(s:ByteArray)(w:World)(hs:s.size<=140737488351232)(r:Bool)(hr:Ke s.data.toList=r):
 Calls Tryz.prog 35 #[.string s] w fun e w'=>e= .returned (.bool r)/\w'=w:=by
 subst hr
 go_enter Tryz.func35,Tryz.ntmps35
 go_wp2
 go_loop [7] (fun i=>cP s i) (fun i=>s.size-(intOf i).toNat)
 case atStart=>exact⟨0,vT _,rfl,by simp⟩
 case round=>
  obtain⟨k,hk,rfl,hall⟩:=hrel;have HA:=Lib.hid hall;clear hall;by_cases hlt:k<s.size
  ·by_cases h1:(s[k].toNat:Int)<33
   ·go_wp2
    go_ret
    rw[Cs s k hlt (by unfold Yy;simp;omega)];exact⟨rfl,rfl⟩
   ·by_cases h2:126<(s[k].toNat:Int)
    ·go_wp2
     go_ret
     rw[Cs s k hlt (by unfold Yy;simp;omega)];exact⟨rfl,rfl⟩
    ·go_wp2
     go_round
     case rel=>exact⟨k+1,by omega,by go_num,by rw[BS s k hlt,En,HA.out];unfold Yy;simp;omega⟩
     case measure=>simp[intOf];omega
  ·obtain rfl:k=s.size:=by omega
   have he:=Su s HA.out;have HE:=Lib.hid he;clear he;by_cases h0:s.size=0
   ·have e0:s.toList=[]:=by rw[ByteArray.toList_eq];exact zO (by simpa using h0)
    go_wp2
    go_ret
    refine⟨?_,rfl⟩;rw[HE.out];simp[h0]
   ·have e0:¬s.toList=[]:=by rw[ByteArray.toList_eq];intro h;exact h0 (by have:=congrArg List.length h;simpa using this)
    have e1:s.toList.isEmpty=false:=by simpa using e0
    by_cases h64:s.size<=64
    ·have h64':decide ((s.size:Int)<=64)=true:=by simp;omega
     go_wp2
     go_ret
     refine⟨?_,rfl⟩;rw[HE.out];simp[h64];omega
    ·have h64':decide ((s.size:Int)<=64)=false:=by simp;omega
     go_wp2
     go_ret
     refine⟨?_,rfl⟩;rw[HE.out];simp[h64]
set_option maxHeartbeats 800000 in
theorem iR(s:ByteArray)(w:World)(hs:s.size<=140737488351232)(r:Bool)(hr:Ke s.data.toList=r):
 Calls Tryz.prog 44 #[.string s] w fun e w'=>e= .returned (.bool r)/\w'=w:=by
 subst hr
 go_enter Tryz.func44,Tryz.ntmps44
 go_wp2
 go_loop [3] (fun i=>cP s i) (fun i=>s.size-(intOf i).toNat)
 case atStart=>exact⟨0,vT _,rfl,by simp⟩
 case round=>
  obtain⟨k,hk,rfl,hall⟩:=hrel;have HA:=Lib.hid hall;clear hall;by_cases hlt:k<s.size
  ·by_cases h1:(s[k].toNat:Int)<33
   ·have q1:decide ((s[k].toNat:Int)<33)=true:=by simpa using h1
    go_wp2
    go_ret
    rw[Cs s k hlt (by unfold Yy;simp;omega)];exact⟨rfl,rfl⟩
   ·have q1:decide ((s[k].toNat:Int)<33)=false:=by simpa using h1
    by_cases h2:126<(s[k].toNat:Int)
    ·have q2:decide (126<(s[k].toNat:Int))=true:=by simpa using h2
     go_wp2
     go_ret
     rw[Cs s k hlt (by unfold Yy;simp;omega)];exact⟨rfl,rfl⟩
    ·have q2:decide (126<(s[k].toNat:Int))=false:=by simpa using h2
     go_wp2
     go_round
     case rel=>exact⟨k+1,by omega,by go_num,by rw[BS s k hlt,En,HA.out];unfold Yy;simp;omega⟩
     case measure=>simp[intOf];omega
  ·obtain rfl:k=s.size:=by omega
   have he:=Su s HA.out;have HE:=Lib.hid he;clear he;by_cases h0:s.size=0
   ·have q0:decide ((1:Int)<=(s.size:Int))=false:=by simp;omega
    go_wp2
    go_ret
    refine⟨?_,rfl⟩;rw[HE.out];simp[h0]
   ·have q0:decide ((1:Int)<=(s.size:Int))=true:=by simp;omega
    by_cases h64:s.size<=64
    ·have h64':decide ((s.size:Int)<=64)=true:=by simp;omega
     go_wp2
     go_ret
     refine⟨?_,rfl⟩;rw[HE.out];simp[h64];omega
    ·have h64':decide ((s.size:Int)<=64)=false:=by simp;omega
     go_wp2
     go_ret
     refine⟨?_,rfl⟩;rw[HE.out];simp[h64]
end
section
open Go.RowKit
def Yj:List UInt8->Nat
 |[]=>0
 |b::r=>b.toNat+256 * Yj r
theorem aL(l r:List UInt8):Yj (l++r)=Yj l+256^l.length * Yj r:=by
 induction l with
 |nil=>simp[Yj]
 |cons b l ih=>rw[Ro,Yj,ih,Yj,xA,Jf,Nat.mul_add];rw[Nat.mul_comm (256^l.length) 256,Nat.mul_assoc];omega
theorem aM(l:List UInt8):Yj l<256^l.length:=by
 induction l with
 |nil=>simp[Yj]
 |cons b l ih=>rw[Yj,xA,Jf];have:=b.toNat_lt;omega
theorem Lk(s:ByteArray)(k:Nat)(h:k<s.size):Yj (s.data.toList.take (k+1))=Yj (s.data.toList.take k)+256^k * s[k].toNat:=by rw[BS s k h,aL];simp[Yj];rw[QE (by omega)]
theorem j2E(k x b:Nat)(hk:k<=3)(hx:x<256^k)(hb:b<256):bits BinOp.or IntKind.u32 (x:Int) (((256^k * b:Nat)):Int)=((x+256^k * b:Nat):Int):=by
 have h32:∀n:Int,0<=n->n<2^32->IntKind.u32.wrap n=n:=fun n h0 h1=>by rw[IntKind.wrap_u32];omega
 obtain rfl|rfl|rfl|rfl:k=0\/k=1\/k=2\/k=3:=by omega
 all_goals
  rw[(bits_nat .u32 32 (by decide) h32 x _ (by omega) (by omega)).2]
 ·simp at hx;subst hx;simp
 ·have:=Nat.two_pow_add_eq_or_of_lt (i:=8) (b:=x) (by simpa using hx) b;rw[Nat.or_comm,show(256:Nat)^1=2^8 by decide,<-this];congr 1;omega
 ·have:=Nat.two_pow_add_eq_or_of_lt (i:=16) (b:=x) (by simpa using hx) b;rw[Nat.or_comm,show(256:Nat)^2=2^16 by decide,<-this];congr 1;omega
 ·have:=Nat.two_pow_add_eq_or_of_lt (i:=24) (b:=x) (by simpa using hx) b;rw[Nat.or_comm,show(256:Nat)^3=2^24 by decide,<-this];congr 1;omega
def j1h(s:ByteArray)(m:Nat)(i r:Value):Prop:=∃k x:Nat,k<=m/\i= .int .i64 k/\r= .int .u32 x/\Hid (x=Yj (s.data.toList.take k))
set_option maxHeartbeats 800000 in
theorem Fs(s:ByteArray)(w:World)(hs:s.size<=140737488351232):
 Calls Tryz.prog 129 #[.string s] w fun e w'=>e= .returned (.int .u32 (Yj (s.data.toList.take 4)))/\w'=w:=by
 obtain⟨m,hm⟩:∃m:Nat,m=min s.size 4:=⟨_,rfl⟩
 have hmin:∀(w:World),(Builtin.min_ #[3,3] 3 #[.int .i64 s.size,.int .i64 4]).run Tryz.prog w= .ok (.int .i64 m) w:=fun w=>by rw[show(m:Int)=min (s.size:Int) 4 by omega];exact Lib.run_min_ints _ _ _ _ _ _ _
 have m4:m<=4:=by omega
 have ms:m<=s.size:=by omega
 have HM:=Lib.hid hm
 clear hm
 go_enter Tryz.func129,Tryz.ntmps129
 go_wp2
 go_loop [8,3] (fun i r=>j1h s m i r) (fun i _=>m-(intOf i).toNat)
 case atStart=>exact⟨0,0,vT _,rfl,rfl,Lib.hid (by simp[Yj])⟩
 case round=>
  obtain⟨k,x,hk,rfl,rfl,hx⟩:=hrel;by_cases hlt:k<m
  ·have hks:k<s.size:=by omega
   have hk1:k+1<=m:=hlt;have hb:=(s[k]).toNat_lt;have hstep:=Lib.hid (Lk s k hks);have hx1:x<256^k:=by rw[hx.out];have:=aM (s.data.toList.take k);rw[zV,QE (by simp;omega)]at this;exact this
   have hor:=Lib.hid (j2E k x (s[k]).toNat (by omega) hx1 (by omega));clear hx1;obtain rfl|rfl|rfl|rfl:k=0\/k=1\/k=2\/k=3:=by omega
   all_goals
    go_wp2
    go_round
    case rel=>
     refine⟨_,x+_,?_,rfl,?_,Lib.hid ((congrArg (·+_) hx.out).trans hstep.out.symm)⟩
     ·exact hk1
     ·refine congrArg (Value.int .u32) ?_;rw[<-hor.out];refine congrArg (bits BinOp.or IntKind.u32 _) ?_;omega
    case measure=>simp[intOf];omega
  ·go_wp2
   go_ret
   obtain rfl:k=m:=by omega
   refine⟨?_,rfl⟩;rw[hx.out,HM.out];refine congrArg (fun l=>Ending.returned (.int .u32 ((Yj l:Nat):Int))) ?_;rcases Nat.le_total s.size 4 with h|h
   ·rw[QE h,xP (by simp),xP (by simpa using h)]
   ·rw[Nat.min_eq_right h]
def cO(s:ByteArray)(p:Nat)(i r:Value):Prop:=∃k x:Nat,k<=s.size/\i= .int .i64 k/\r= .int .u32 x/\Hid (x=Yj (s.data.toList.take k) * p)
set_option maxHeartbeats 800000 in
theorem WW(s:ByteArray)(w:World)(hs:s.size<=4):
 Calls Tryz.prog 121 #[.string s,.int .u64 0] w fun e w'=>e= .returned (.int .u32 (Yj s.data.toList))/\w'=w:=by
 go_enter Tryz.func121,Tryz.ntmps121
 go_wp2
 go_loop [6,5] (fun i r=>cO s 1 i r) (fun i _=>s.size-(intOf i).toNat)
 case atStart=>exact⟨0,0,vT _,rfl,rfl,Lib.hid (by simp[Yj])⟩
 case round=>
  obtain⟨k,x,hk,rfl,rfl,hx⟩:=hrel;by_cases hks:k<s.size
  ·have hk1:k+1<=s.size:=hks;have hb:=(s[k]).toNat_lt;have hstep:=Lib.hid (Lk s k hks);have hx1:x<256^k:=by rw[hx.out,KP];have:=aM (s.data.toList.take k);rw[zV,QE (by simp;omega)]at this;exact this
   obtain rfl|rfl|rfl|rfl:k=0\/k=1\/k=2\/k=3:=by omega
   all_goals
    go_wp2
    go_round
    case rel=>
     refine⟨_,x+_,?_,rfl,?_,Lib.hid (by rw[hstep.out,hx.out,KP,KP])⟩
     ·exact hk1
     ·refine congrArg (Value.int .u32) ?_;omega
    case measure=>simp[intOf];omega
  ·go_wp2
   go_ret
   obtain rfl:k=s.size:=by omega
   refine⟨?_,rfl⟩;rw[hx.out,KP];refine congrArg (fun l=>Ending.returned (.int .u32 ((Yj l:Nat):Int))) ?_;rw[xP (by simp)]
set_option maxHeartbeats 800000 in
theorem j1U(s:ByteArray)(w:World)(hs:s.size<=3):
 Calls Tryz.prog 121 #[.string s,.int .u64 8] w fun e w'=>e= .returned (.int .u32 ((Yj s.data.toList * 256:Nat):Int))/\w'=w:=by
 go_enter Tryz.func121,Tryz.ntmps121
 go_wp2
 go_loop [6,5] (fun i r=>cO s 256 i r) (fun i _=>s.size-(intOf i).toNat)
 case atStart=>exact⟨0,0,vT _,rfl,rfl,Lib.hid (by simp[Yj])⟩
 case round=>
  obtain⟨k,x,hk,rfl,rfl,hx⟩:=hrel;by_cases hks:k<s.size
  ·have hk1:k+1<=s.size:=hks;have hb:=(s[k]).toNat_lt;have hstep:=Lib.hid (Lk s k hks);have hx1:x<256^k * 256:=by rw[hx.out];have:=aM (s.data.toList.take k);rw[zV,QE (by simp;omega)]at this;omega
   obtain rfl|rfl|rfl:k=0\/k=1\/k=2:=by omega
   all_goals
    go_wp2
    go_round
    case rel=>
     refine⟨_,x+_,?_,rfl,?_,Lib.hid (by rw[hstep.out,hx.out,Da])⟩
     ·exact hk1
     ·refine congrArg (Value.int .u32) ?_;omega
    case measure=>simp[intOf];omega
  ·go_wp2
   go_ret
   obtain rfl:k=s.size:=by omega
   refine⟨?_,rfl⟩;rw[hx.out];refine congrArg (fun l=>Ending.returned (.int .u32 ((Yj l * 256:Nat):Int))) ?_;rw[xP (by simp)]
end
variable{w:World}
section
open Go.RowKit
theorem j7s(w:World):(Instr.index 251 (.agg #[.int .i64 13,.int .i64 8,.int .i64 13,.int .i64 12,.int .i64 16,.int .i64 5,.int .i64 3,.int .i64 10,.int .i64 15]) (.int .i64 0)).run Tryz.prog w= .ok (.agg #[.int .i64 13,.int .i64 8,.int .i64 13]) w:=by kernel_rfl
theorem j7t(w:World):(Instr.index 251 (.agg #[.int .i64 13,.int .i64 8,.int .i64 13,.int .i64 12,.int .i64 16,.int .i64 5,.int .i64 3,.int .i64 10,.int .i64 15]) (.int .i64 1)).run Tryz.prog w= .ok (.agg #[.int .i64 12,.int .i64 16,.int .i64 5]) w:=by kernel_rfl
theorem j7u(w:World):(Instr.index 251 (.agg #[.int .i64 13,.int .i64 8,.int .i64 13,.int .i64 12,.int .i64 16,.int .i64 5,.int .i64 3,.int .i64 10,.int .i64 15]) (.int .i64 2)).run Tryz.prog w= .ok (.agg #[.int .i64 3,.int .i64 10,.int .i64 15]) w:=by kernel_rfl
theorem j7x(w:World):(Instr.index 244 (.agg #[.int .u64 13,.int .u64 8,.int .u64 13,.int .u64 12,.int .u64 16,.int .u64 5,.int .u64 3,.int .u64 10,.int .u64 15]) (.int .i64 0)).run Tryz.prog w= .ok (.agg #[.int .u64 13,.int .u64 8,.int .u64 13]) w:=by kernel_rfl
theorem j7y(w:World):(Instr.index 244 (.agg #[.int .u64 13,.int .u64 8,.int .u64 13,.int .u64 12,.int .u64 16,.int .u64 5,.int .u64 3,.int .u64 10,.int .u64 15]) (.int .i64 1)).run Tryz.prog w= .ok (.agg #[.int .u64 12,.int .u64 16,.int .u64 5]) w:=by kernel_rfl
theorem j7z(w:World):(Instr.index 244 (.agg #[.int .u64 13,.int .u64 8,.int .u64 13,.int .u64 12,.int .u64 16,.int .u64 5,.int .u64 3,.int .u64 10,.int .u64 15]) (.int .i64 2)).run Tryz.prog w= .ok (.agg #[.int .u64 3,.int .u64 10,.int .u64 15]) w:=by kernel_rfl
structure Xb where
 x:Int
 y:Int
 z:Int
def j5x(p q r:Int)(t:Xb):Xb:=
 let x:=bits BinOp.xor IntKind.u32 ((t.x-t.y-t.z)%4294967296) (t.z/p)
 let y:=bits BinOp.xor IntKind.u32 ((t.y-t.z-x)%4294967296) (x * q%4294967296)
 let z:=bits BinOp.xor IntKind.u32 ((t.z-x-y)%4294967296) (y/r)
 ⟨x,y,z⟩
def Ty:Nat->Xb->Xb
 |0,t=>t
 |1,t=>j5x 8192 256 8192 t
 |2,t=>j5x 4096 65536 32 (j5x 8192 256 8192 t)
 |_,t=>j5x 8 1024 32768 (j5x 4096 65536 32 (j5x 8192 256 8192 t))
def MZ(t:Xb):Xb:=Ty 3 t
def Xb.cells(t:Xb):Array Value:= #[.int .u32 t.x,.int .u32 t.y,.int .u32 t.z]
def pB(t:Xb)(i a b c:Value):Prop:=∃(k:Nat) (x y z:Int),k<=3/\i= .int .i64 k/\a= .int .u32 x/\b= .int .u32 y/\c= .int .u32 z/\Hid (Ty k t=⟨x,y,z⟩)
set_option maxHeartbeats 1000000 in
theorem j3A(b:Nat)(t:Xb)(hb:w.heap[b]? =some (.cells t.cells 234)):
 Calls Tryz.prog 130 #[.pointer (some ⟨b,0,none⟩)] w fun e w'=>e= .returned (.tuple #[])/\Kept (fun k=>k=b) w w'/\w'.heap[b]? =some (.cells (MZ t).cells 234):=by
 have z0:w.cell? ⟨b,0,none⟩=some (.int .u32 t.x):=qP hb
 have z1:w.cell? ⟨b,1,none⟩=some (.int .u32 t.y):=qP hb
 have z2:w.cell? ⟨b,2,none⟩=some (.int .u32 t.z):=qP hb
 have HB:=Lib.hid hb
 clear hb
 go_enter Tryz.func130,Tryz.ntmps130
 go_wp2
 go_quiet (fail)
 clear z0 z1 z2
 go_wp2
 go_loopw [23,2,3,4] (fun i a b c w'=>pB t i a b c/\Kept (fun _=>False) w w') (fun i _ _ _ _=>3-(intOf i).toNat)
 case atStart=>exact⟨⟨0,_,_,_,by omega,rfl,rfl,rfl,rfl,Lib.hid rfl⟩,Kept.drewN _ _ _⟩
 case round=>
  obtain⟨⟨k,x,y,z,hk,rfl,rfl,rfl,rfl,hr⟩,hkr⟩:=hrel;have hz:wr.heap[b]? =_:=(hkr.block b (VS HB.out) (fun h=>h)).trans HB.out;have z0:wr.cell? ⟨b,0,none⟩=some (.int .u32 _):=qP hz;have z1:wr.cell? ⟨b,1,none⟩=some (.int .u32 _):=qP hz;have z2:wr.cell? ⟨b,2,none⟩=some (.int .u32 _):=qP hz;have f0:wr.frozen? ⟨b,0,none⟩=false:=yC hz;have f1:wr.frozen? ⟨b,1,none⟩=false:=yC hz;have f2:wr.frozen? ⟨b,2,none⟩=false:=yC hz;have HZ:=Lib.hid hz;clear hz;obtain rfl|rfl|rfl|rfl:k=0\/k=1\/k=2\/k=3:=by omega
  ·have i0:=j7s;go_wp2
   go_roundw
   case rel=>
    refine⟨⟨1,_,_,_,by omega,rfl,rfl,rfl,rfl,Lib.hid ?_⟩,hkr.al _⟩;have h:=hr.out;simp only[Ty]at h ⊢;rw[h];rfl
   case measure=>simp[intOf]
  ·have i0:=j7t;go_wp2
   go_roundw
   case rel=>
    refine⟨⟨2,_,_,_,by omega,rfl,rfl,rfl,rfl,Lib.hid ?_⟩,hkr.al _⟩;have h:=hr.out;simp only[Ty]at h ⊢;rw[h];rfl
   case measure=>simp[intOf]
  ·have i0:=j7u;go_wp2
   go_roundw
   case rel=>
    refine⟨⟨3,_,_,_,by omega,rfl,rfl,rfl,rfl,Lib.hid ?_⟩,hkr.al _⟩;have h:=hr.out;simp only[Ty]at h ⊢;rw[h];rfl
   case measure=>simp[intOf]
  ·go_wp2
   refine bodyPost_end (v:= .tuple #[]) (by simp[results,Tryz.results130]) rfl ⟨rfl,?_,?_⟩
   ·refine Kept.st ?_ _ (.inl rfl);refine Kept.st ?_ _ (.inl rfl);refine Kept.st ?_ _ (.inl rfl);exact hkr.mono (fun _ _ h=>h.elim)
   ·have h3:=qQ (o:=2) (qQ (o:=1) (qQ (o:=0) HZ.out (.int .u32 x)) (.int .u32 y)) (.int .u32 z);refine h3.trans ?_;have h:=hr.out;unfold MZ;rw[h];rfl
set_option maxHeartbeats 1000000 in
theorem SU(t:Xb):
 Calls Tryz.prog 120 #[.agg t.cells] w fun e w'=>e= .returned (.agg (MZ t).cells)/\Kept (fun _=>False) w w':=by
 simp only[Xb.cells]
 go_enter Tryz.func120,Tryz.ntmps120
 go_wp2
 obtain⟨K0,x1,x2⟩:=j32 w (Obj.cells #[.int .u32 t.x,.int .u32 t.y,.int .u32 t.z] 212) (Obj.cells #[.int .u32 0,.int .u32 0,.int .u32 0] 212)
 generalize (w.alloc (Obj.cells #[.int .u32 t.x,.int .u32 t.y,.int .u32 t.z] 212)).alloc (Obj.cells #[.int .u32 0,.int .u32 0,.int .u32 0] 212)=w0 at K0 x1 x2 ⊢
 have z0:w0.cell? ⟨w.heap.size,0,none⟩=some (.int .u32 t.x):=qP x1
 have z1:w0.cell? ⟨w.heap.size,1,none⟩=some (.int .u32 t.y):=qP x1
 have z2:w0.cell? ⟨w.heap.size,2,none⟩=some (.int .u32 t.z):=qP x1
 have HB:=Lib.hid x2
 clear x1 x2
 go_quiet (fail)
 clear z0 z1 z2
 go_wp2
 go_loopw [18,3,4,5] (fun i a b c w'=>pB t i a b c/\Kept (fun _=>False) w0 w') (fun i _ _ _ _=>3-(intOf i).toNat)
 case atStart=>exact⟨⟨0,_,_,_,by omega,rfl,rfl,rfl,rfl,Lib.hid rfl⟩,Kept.drewN _ _ _⟩
 case round=>
  obtain⟨⟨k,x,y,z,hk,rfl,rfl,rfl,rfl,hr⟩,hkr⟩:=hrel;have hz:wr.heap[w.heap.size+1]? =_:=(hkr.block _ (VS HB.out) (fun h=>h)).trans HB.out;have z0:wr.cell? ⟨w.heap.size+1,0,none⟩=some (.int .u32 _):=qP hz;have z1:wr.cell? ⟨w.heap.size+1,1,none⟩=some (.int .u32 _):=qP hz;have z2:wr.cell? ⟨w.heap.size+1,2,none⟩=some (.int .u32 _):=qP hz;have f0:wr.frozen? ⟨w.heap.size+1,0,none⟩=false:=yC hz;have f1:wr.frozen? ⟨w.heap.size+1,1,none⟩=false:=yC hz;have f2:wr.frozen? ⟨w.heap.size+1,2,none⟩=false:=yC hz;have HZ:=Lib.hid hz;clear hz;obtain rfl|rfl|rfl|rfl:k=0\/k=1\/k=2\/k=3:=by omega
  ·have i0:=j7x;go_wp2
   go_roundw
   case rel=>
    refine⟨⟨1,_,_,_,by omega,rfl,rfl,rfl,rfl,Lib.hid ?_⟩,hkr.al _⟩;have h:=hr.out;simp only[Ty]at h ⊢;rw[h];rfl
   case measure=>simp[intOf]
  ·have i0:=j7y;go_wp2
   go_roundw
   case rel=>
    refine⟨⟨2,_,_,_,by omega,rfl,rfl,rfl,rfl,Lib.hid ?_⟩,hkr.al _⟩;have h:=hr.out;simp only[Ty]at h ⊢;rw[h];rfl
   case measure=>simp[intOf]
  ·have i0:=j7z;go_wp2
   go_roundw
   case rel=>
    refine⟨⟨3,_,_,_,by omega,rfl,rfl,rfl,rfl,Lib.hid ?_⟩,hkr.al _⟩;have h:=hr.out;simp only[Ty]at h ⊢;rw[h];rfl
   case measure=>simp[intOf]
  ·go_wp2
   have h3:=qQ (o:=2) (qQ (o:=1) (qQ (o:=0) HZ.out (.int .u32 x)) (.int .u32 y)) (.int .u32 z);have K4:Kept (fun _=>False) w (((wr.setCell ⟨w.heap.size+1,0,none⟩ (.int .u32 x)).setCell ⟨w.heap.size+1,1,none⟩ (.int .u32 y)).setCell ⟨w.heap.size+1,2,none⟩ (.int .u32 z)):=by refine Kept.st ?_ _ (.inr (by simp));refine Kept.st ?_ _ (.inr (by simp));refine Kept.st ?_ _ (.inr (by simp));exact K0.trans hkr
   generalize ((wr.setCell ⟨w.heap.size+1,0,none⟩ (.int .u32 x)).setCell ⟨w.heap.size+1,1,none⟩ (.int .u32 y)).setCell ⟨w.heap.size+1,2,none⟩ (.int .u32 z)=w4 at h3 K4 ⊢;have e0:w4.cell? ⟨w.heap.size+1,0,none⟩=some (.int .u32 x):=qP h3;have e1:w4.cell? ⟨w.heap.size+1,1,none⟩=some (.int .u32 y):=qP h3;have e2:w4.cell? ⟨w.heap.size+1,2,none⟩=some (.int .u32 z):=qP h3;refine bodyPost_ret (v:= .agg #[.int .u32 x,.int .u32 y,.int .u32 z]) (by simp[results,Tryz.results120,go_sem,e0,e1,e2]) rfl ⟨?_,K4⟩;have h:=hr.out;unfold MZ;rw[h]
end
variable{N:Int}{t:Xb}{l:List UInt8}
section
open Go.RowKit
theorem GJ(s:ByteArray)(i j:Nat):(s.extract i j).data.toList=(s.data.toList.drop i).take (j-i):=by rw[ByteArray.data_extract,Array.toList_extract,List.extract_eq_take_drop]
set_option maxHeartbeats 800000 in
theorem j3t(s:ByteArray)(w:World)(hs:s.size<=140737488351232):
 Calls Tryz.prog 122 #[.string s,.int .i64 4] w fun e w'=>(∃a b:ByteArray,e= .returned (.tuple #[.string a,.string b])/\a.data.toList=s.data.toList.take 4/\b.data.toList=s.data.toList.drop 4)/\∃n,w'=w.drewN n:=by
 by_cases h:s.size<4
 ·go_enter Tryz.func122,Tryz.ntmps122
  go_wp2
  go_quiet (fail)
  go_wp2
  go_ret2
  refine⟨⟨_,_,rfl,?_,?_⟩,_,rfl⟩
  ·rw[xP (by simp;omega)]
  ·rw[XI (by simp;omega)];rfl
 ·go_enter Tryz.func122,Tryz.ntmps122
  go_wp2
  go_quiet (fail)
  go_wp2
  go_ret2
  refine⟨⟨_,_,rfl,?_,?_⟩,_,rfl⟩
  ·rw[GJ];rfl
  ·rw[GJ,xP (by simp)]
def j4d(t:Xb)(a b c:Int):Xb:=⟨(t.x+a)%4294967296,(t.y+b)%4294967296,(t.z+c)%4294967296⟩
def FG(t:Xb)(l:List UInt8):Xb:=MZ (j4d t (Yj (l.take 4)) (Yj ((l.drop 4).take 4)) (Yj ((l.drop 8).take 4)))
def j1M(N:Int)(t:Xb)(l:List UInt8):Int:=(MZ ⟨(t.x+Yj (l.take 4))%4294967296,(t.y+Yj ((l.drop 4).take 4))%4294967296,((t.z+N)%4294967296+(Yj (l.drop 8) * 256:Nat))%4294967296⟩).z
def Qi(N:Int)(t:Xb)(l:List UInt8):Int:=
 if h:12<=l.length then Qi N (FG t l) (l.drop 12)else j1M N t l
termination_by l.length
decreasing_by simp;omega
def Bh:Xb:=⟨2654435769,2654435769,0⟩
def VT(l:List UInt8):Int:=Qi ((l.length:Int)%4294967296) Bh l
theorem UE(h:12<=l.length):Qi N t l=Qi N (FG t l) (l.drop 12):=by rw[Qi,dif_pos h]
theorem GQ(h:¬12<=l.length):Qi N t l=j1M N t l:=by rw[Qi,dif_neg h]
theorem Xs(s:ByteArray):s.data.toList.length=s.size:=by simp
def j0V(N r:Int)(b:Nat)(T:TypeId)(v:Value)(w:World):Prop:=∃(s:ByteArray) (t:Xb),v= .string s/\s.size<=140737488351232/\w.heap[b]? =some (.cells t.cells T)/\Hid (Qi N t s.data.toList=r)
def PZ:Value->Nat
 | .string s=>s.size
 |_=>0
set_option maxRecDepth 100000 in
set_option maxHeartbeats 2000000 in
theorem lU(s:ByteArray)(w:World)(hs:s.size<=140737488351232):
 Calls Tryz.prog 97 #[.string s] w fun e w'=>e= .returned (.int .u32 (VT s.data.toList))/\Kept (fun _=>False) w w':=by
 go_enter Tryz.func97,Tryz.ntmps97
 go_wp2
 obtain⟨N,hN⟩:∃N:Int,N=(s.size:Int)%4294967296:=⟨_,rfl⟩
 rw[<-hN]
 have HN:=Lib.hid hN
 clear hN
 have HS:=Lib.hid hs
 clear hs
 have hx:(w.alloc (Obj.cells Bh.cells 212)).heap[w.heap.size]? =some (Obj.cells Bh.cells 212):=Jp _ _
 have K0:=Kept.alloc (fun _=>False) w (Obj.cells Bh.cells 212)
 go_loopw [0] (fun v w'=>j0V N (VT s.data.toList) w.heap.size 212 v w'/\Kept (fun _=>False) w w') (fun v _=>PZ v)
 case atStart=>exact⟨⟨s,Bh,rfl,HS.out,hx,Lib.hid (by unfold VT;rw[Xs,HN.out])⟩,K0⟩
 case round=>
  obtain⟨⟨s1,t,rfl,hs1,hh,hr⟩,hkr⟩:=hrel;have z0:wr.cell? ⟨w.heap.size,0,none⟩=some (.int .u32 t.x):=qP hh;have z1:wr.cell? ⟨w.heap.size,1,none⟩=some (.int .u32 t.y):=qP hh;have z2:wr.cell? ⟨w.heap.size,2,none⟩=some (.int .u32 t.z):=qP hh;have HH:=Lib.hid hh;clear hh;by_cases h12:12<=s1.size
  ·have i4:(4:Int)<=(s1.size:Int):=by omega
   have i8:(8:Int)<=(s1.size:Int):=by omega
   have i12:(12:Int)<=(s1.size:Int):=by omega
   have e1:(s1.extract 0 4).size<=4:=by simp;omega
   have e2:(s1.extract 4 8).size<=4:=by simp;omega
   have e3:(s1.extract 8 12).size<=4:=by simp;omega
   go_wp2
   refine QP [0,1,2,3,4,5,6,7,8,9,10,11,12,13,14,15,16,17,18] [] [19,20] (by kernel_rfl) (by kernel_rfl) (fun _ _ d _ _ h=>by cases d<;>exact h) ?_;simp only[CP,Fx,Ie,xW,xQ];repeat (quiet_step (first|(go_at_call 121;exact Calls.quiet_of_same (WW _ _ (by assumption)))))
   refine wpQuiet_nil ?_;refine YO ?_;rintro _ ⟨nr,rfl⟩;clear z0 z1 z2;go_wp2_with fail
   refine(SU (j4d t (Yj (s1.data.toList.take 4)) (Yj ((s1.data.toList.drop 4).take 4)) (Yj ((s1.data.toList.drop 8).take 4)))).mono ?_;rintro e w1 ⟨rfl,hk1⟩;have hh1:w1.heap[w.heap.size]? =_:=(hk1.block _ (VS HH.out) (fun h=>h)).trans HH.out;obtain⟨u,hu⟩:∃u,u=FG t s1.data.toList:=⟨_,rfl⟩;unfold FG at hu;rw[<-hu];have HU:=Lib.hid hu;clear hu;have z0:w1.cell? ⟨w.heap.size,0,none⟩=some (.int .u32 t.x):=qP hh1;have z1:w1.cell? ⟨w.heap.size,1,none⟩=some (.int .u32 t.y):=qP hh1;have z2:w1.cell? ⟨w.heap.size,2,none⟩=some (.int .u32 t.z):=qP hh1;have f0:w1.frozen? ⟨w.heap.size,0,none⟩=false:=yC hh1;have f1:w1.frozen? ⟨w.heap.size,1,none⟩=false:=yC hh1;have f2:w1.frozen? ⟨w.heap.size,2,none⟩=false:=yC hh1;have H1:=Lib.hid hh1;clear hh1;simp only[Xb.cells];have K1:Kept (fun _=>False) w w1:=(hkr.dN nr).trans hk1;go_wp2
   go_roundw
   case rel=>
    refine⟨⟨_,u,rfl,?_,qQ (o:=2) (qQ (o:=1) (qQ (o:=0) H1.out (.int .u32 u.x)) (.int .u32 u.y)) (.int .u32 u.z),Lib.hid ?_⟩,?_⟩
    ·simp;omega
    ·rw[<-hr.out,UE (l:=s1.data.toList) (by simpa using h12)];unfold FG;rw[<-HU.out,GJ,xP (by simp)]
    ·refine Kept.st ?_ _ (.inr (by simp));refine Kept.st ?_ _ (.inr (by simp));refine Kept.st ?_ _ (.inr (by simp));exact K1
   case measure=>simp[PZ];omega
  ·go_wp2_with fail
   refine(j3t _ _ hs1).mono ?_;rintro e _ ⟨⟨a1,b1,rfl,ha1,hb1⟩,n1,rfl⟩;have l1:=congrArg List.length ha1;have l2:=congrArg List.length hb1;simp at l1 l2;go_wp2_with fail
   refine(j3t _ _ (by omega)).mono ?_;rintro e _ ⟨⟨a2,b2,rfl,ha2,hb2⟩,n2,rfl⟩;have l3:=congrArg List.length ha2;have l4:=congrArg List.length hb2;simp at l3 l4;have s1':a1.size<=4:=by omega
   have s2':a2.size<=4:=by omega
   have s3':b2.size<=3:=by omega
   clear l1 l2 l3 l4;go_wp2_with fail
   have hh2:(wr.drewN (n1+n2)).heap[w.heap.size]? =_:=HH.out;have K2:Kept (fun _=>False) w (wr.drewN (n1+n2)):=hkr.dN _;clear z0 z1 z2;generalize wr.drewN (n1+n2)=w2 at hh2 K2 ⊢;have z0:w2.cell? ⟨w.heap.size,0,none⟩=some (.int .u32 t.x):=qP hh2;have z1:w2.cell? ⟨w.heap.size,1,none⟩=some (.int .u32 t.y):=qP hh2;have z2:w2.cell? ⟨w.heap.size,2,none⟩=some (.int .u32 t.z):=qP hh2;clear hh2;refine QP [0,1,2,3,4,5,6,7,8,9,10,11,12,13,14,15,16,17] [] [18,19,20] (by kernel_rfl) (by kernel_rfl) (fun _ _ d _ _ h=>by cases d<;>exact h) ?_;simp only[CP,Fx,Ie,xW,xQ];repeat (quiet_step (fail))
   quiet_step (first|(go_at_call 121;exact Calls.quiet_of_same (WW a1 _ s1')))
   repeat (quiet_step (fail))
   quiet_step (first|(go_at_call 121;exact Calls.quiet_of_same (WW a2 _ s2')))
   repeat (quiet_step (fail))
   quiet_step (first|(go_at_call 121;exact Calls.quiet_of_same (j1U b2 _ s3')))
   repeat (quiet_step (fail))
   refine wpQuiet_nil ?_;refine YO ?_;rintro _ ⟨nr,rfl⟩;clear z0 z1 z2;go_wp2_with fail
   refine(SU ⟨_,_,_⟩).mono ?_;rintro e w3 ⟨rfl,hk3⟩;have hend:=GQ (N:=N) (t:=t) (l:=s1.data.toList) (by simpa using h12);unfold j1M at hend;rw[hr.out]at hend;simp only[Em,Int.cast_ofNat_Int]at hend;generalize hm:MZ _=u;rw[hm]at hend;simp only[Xb.cells];have hfld:∀w:World,(Instr.field 212 (Value.agg #[.int .u32 u.x,.int .u32 u.y,.int .u32 u.z]) 2).run Tryz.prog w= .ok (.int .u32 u.z) w:=fun _=>rfl;go_wp2
   go_ret
   rw[hend];exact⟨rfl,(K2.dN nr).trans hk3⟩
end
section
open Go.RowKit
def Xb.ok(t:Xb):Prop:=(0<=t.x/\t.x<4294967296)/\(0<=t.y/\t.y<4294967296)/\0<=t.z/\t.z<4294967296
theorem Cm(o:BinOp)(a b:Int)(h:o= .xor):0<=bits o IntKind.u32 a b/\bits o IntKind.u32 a b<4294967296:=by subst h;simp only[bits,IntKind.wrap_u32];omega
theorem eI(t:Xb):(MZ t).ok:=⟨Cm _ _ _ rfl,Cm _ _ _ rfl,(Cm _ _ _ rfl).1,(Cm _ _ _ rfl).2⟩
def Bw(k:Nat)(t:Xb)(a b c:Int):Xb:=⟨if 1<=k then(t.x+a)%4294967296 else t.x,if 2<=k then(t.y+b)%4294967296 else t.y,if 3<=k then(t.z+c)%4294967296 else t.z⟩
def pE(N r:Int)(b:Nat)(T:TypeId)(v:Value)(w:World):Prop:=∃(s:ByteArray) (t:Xb),v= .string s/\s.size<=140737488351232/\w.heap[b]? =some (.cells t.cells T)/\Hid t.ok/\Hid (Qi N t s.data.toList=r)
set_option maxRecDepth 100000 in
set_option maxHeartbeats 2000000 in
theorem j4R(g:Addr)(s:ByteArray)(w:World)(hs:s.size<=140737488351232):
 Calls Tryz.prog 109 #[.pointer (some g),.string s] w fun e w'=>e= .returned (.int .u32 (VT s.data.toList))/\Kept (fun _=>False) w w':=by
 go_enter Tryz.func109,Tryz.ntmps109
 go_wp2
 obtain⟨N,hN⟩:∃N:Int,N=(s.size:Int)%4294967296:=⟨_,rfl⟩
 rw[<-hN]
 have HN:=Lib.hid hN
 clear hN
 have HS:=Lib.hid hs
 clear hs
 have hx:(w.alloc (Obj.cells Bh.cells 234)).heap[w.heap.size]? =some (Obj.cells Bh.cells 234):=Jp _ _
 have K0:=Kept.alloc (fun _=>False) w (Obj.cells Bh.cells 234)
 go_loopw [1] (fun v w'=>pE N (VT s.data.toList) w.heap.size 234 v w'/\Kept (fun _=>False) w w') (fun v _=>PZ v)
 case atStart=>exact⟨⟨s,Bh,rfl,HS.out,hx,Lib.hid (by unfold Xb.ok Bh;decide),Lib.hid (by unfold VT;rw[Xs,HN.out])⟩,K0⟩
 case round=>
  obtain⟨⟨s1,t,rfl,hs1,hh,hok,hr⟩,hkr⟩:=hrel;have HH:=Lib.hid hh;clear hh;by_cases h12:12<=s1.size
  ·have i4:(4:Int)<=(s1.size:Int):=by omega
   have i8:(8:Int)<=(s1.size:Int):=by omega
   have i12:(12:Int)<=(s1.size:Int):=by omega
   go_wp2
   go_loopw [19] (fun i w'=>(∃k:Nat,k<=3/\i= .int .i64 k/\w'.heap[w.heap.size]? =some (.cells (Bw k t (Yj (s1.data.toList.take 4)) (Yj ((s1.data.toList.drop 4).take 4)) (Yj ((s1.data.toList.drop 8).take 4))).cells 234))/\Kept (fun _=>False) w w') (fun i _=>3-(intOf i).toNat)
   case atStart=>exact⟨⟨0,by omega,rfl,HH.out⟩,hkr⟩
   case round=>
    obtain⟨⟨k,hk,rfl,hh⟩,hkr⟩:=hrel;clear HH;have w0:IntKind.i64.wrap 0=0:=by decide
    have w4:IntKind.i64.wrap 4=4:=by decide
    have w8:IntKind.i64.wrap 8=8:=by decide
    have w12:IntKind.i64.wrap 12=12:=by decide
    obtain rfl|rfl|rfl|rfl:k=0\/k=1\/k=2\/k=3:=by omega
    ·have z0:wr.cell? ⟨w.heap.size,0,none⟩=some (.int .u32 t.x):=qP hh;have f0:wr.frozen? ⟨w.heap.size,0,none⟩=false:=yC hh;have HH:=Lib.hid hh;clear hh;have e1:(s1.extract 0 4).size<=140737488351232:=by simp;omega
     go_wp2
     refine QP [0,1,2,3,4,5,6,7,8,9,10,11,12] [] [13] (by kernel_rfl) (by kernel_rfl) (fun _ _ d _ _ h=>by cases d<;>exact h) ?_;simp only[CP,Fx,Ie,xW,xQ];repeat (quiet_step (fail))
     quiet_step (first|(go_at_call 129;exact Calls.quiet_of_same (Fs _ _ e1)))
     repeat (quiet_step (fail))
     refine wpQuiet_nil ?_;refine YO ?_;rintro _ ⟨nr,rfl⟩;go_wp2
     go_roundw
     case rel=>
      refine⟨⟨1,by omega,rfl,?_⟩,?_⟩
      ·refine(qQ (w:=wr.drewN nr) (o:=0) HH.out _).trans ?_;simp[Bw,Xb.cells,pA]
      ·refine Kept.st ?_ _ (.inr (by simp));exact hkr.dN nr
     case measure=>simp[intOf]
    ·have z0:wr.cell? ⟨w.heap.size,1,none⟩=some (.int .u32 t.y):=qP hh;have f0:wr.frozen? ⟨w.heap.size,1,none⟩=false:=yC hh;have HH:=Lib.hid hh;clear hh;have e1:(s1.extract 4 8).size<=140737488351232:=by simp;omega
     go_wp2
     refine QP [0,1,2,3,4,5,6,7,8,9,10,11,12] [] [13] (by kernel_rfl) (by kernel_rfl) (fun _ _ d _ _ h=>by cases d<;>exact h) ?_;simp only[CP,Fx,Ie,xW,xQ];repeat (quiet_step (fail))
     quiet_step (first|(go_at_call 129;exact Calls.quiet_of_same (Fs _ _ e1)))
     repeat (quiet_step (fail))
     refine wpQuiet_nil ?_;refine YO ?_;rintro _ ⟨nr,rfl⟩;go_wp2
     go_roundw
     case rel=>
      refine⟨⟨2,by omega,rfl,?_⟩,?_⟩
      ·refine(qQ (w:=wr.drewN nr) (o:=1) HH.out _).trans ?_;simp[Bw,Xb.cells,pA]
      ·refine Kept.st ?_ _ (.inr (by simp));exact hkr.dN nr
     case measure=>simp[intOf]
    ·have z0:wr.cell? ⟨w.heap.size,2,none⟩=some (.int .u32 t.z):=qP hh;have f0:wr.frozen? ⟨w.heap.size,2,none⟩=false:=yC hh;have HH:=Lib.hid hh;clear hh;have e1:(s1.extract 8 12).size<=140737488351232:=by simp;omega
     go_wp2
     refine QP [0,1,2,3,4,5,6,7,8,9,10,11,12] [] [13] (by kernel_rfl) (by kernel_rfl) (fun _ _ d _ _ h=>by cases d<;>exact h) ?_;simp only[CP,Fx,Ie,xW,xQ];repeat (quiet_step (fail))
     quiet_step (first|(go_at_call 129;exact Calls.quiet_of_same (Fs _ _ e1)))
     repeat (quiet_step (fail))
     refine wpQuiet_nil ?_;refine YO ?_;rintro _ ⟨nr,rfl⟩;go_wp2
     go_roundw
     case rel=>
      refine⟨⟨3,by omega,rfl,?_⟩,?_⟩
      ·refine(qQ (w:=wr.drewN nr) (o:=2) HH.out _).trans ?_;simp[Bw,Xb.cells,pA]
      ·refine Kept.st ?_ _ (.inr (by simp));exact hkr.dN nr
     case measure=>simp[intOf]
    ·have hadd:MZ (Bw 3 t (Yj (s1.data.toList.take 4)) (Yj ((s1.data.toList.drop 4).take 4)) (Yj ((s1.data.toList.drop 8).take 4)))=FG t s1.data.toList:=by simp[Bw,j4d,FG]
     have HA:=Lib.hid hadd;clear hadd;go_wp2_with fail
     refine(j3A w.heap.size _ hh).mono ?_;rintro e w3 ⟨rfl,hk3,hh3⟩;rw[HA.out]at hh3;have H3:=Lib.hid hh3;clear hh3 hh;go_wp2
     go_roundw
     case rel=>
      refine⟨⟨_,FG t s1.data.toList,rfl,?_,H3.out,Lib.hid (eI _),Lib.hid ?_⟩,?_⟩
      ·simp;omega
      ·rw[<-hr.out,UE (l:=s1.data.toList) (by simpa using h12),GJ,xP (by simp)]
      ·exact hkr.thn hk3 (fun i hi=> .inr (by omega))
     case measure=>simp[PZ];omega
  ·have z2:wr.cell? ⟨w.heap.size,2,none⟩=some (.int .u32 t.z):=qP HH.out;have f2:wr.frozen? ⟨w.heap.size,2,none⟩=false:=yC HH.out;go_wp2
   have h1:=qQ (o:=2) HH.out (.int .u32 ((t.z+N)%4294967296));have K1:Kept (fun _=>False) w (wr.setCell ⟨w.heap.size,2,none⟩ (.int .u32 ((t.z+N)%4294967296))):=Kept.st hkr _ (.inr (by simp));generalize wr.setCell ⟨w.heap.size,2,none⟩ (.int .u32 ((t.z+N)%4294967296))=w1 at h1 K1 ⊢;go_loopw [44] (fun i w'=>(∃k:Nat,k<=3/\i= .int .i64 k/\w'.heap[w.heap.size]? =some (.cells (Bw k ⟨t.x,t.y,(t.z+N)%4294967296⟩ (Yj (s1.data.toList.take 4)) (Yj ((s1.data.toList.drop 4).take 4)) ((Yj (s1.data.toList.drop 8):Int) * 256)).cells 234))/\Kept (fun _=>False) w w') (fun i _=>3-(intOf i).toNat)
   case atStart=>exact⟨⟨0,by omega,rfl,h1⟩,K1⟩
   case round=>
    obtain⟨⟨k,hk,rfl,hh⟩,hkr⟩:=hrel;clear HH z2 f2 h1;obtain rfl|rfl|rfl|rfl:k=0\/k=1\/k=2\/k=3:=by omega
    ·have z0:wr.cell? ⟨w.heap.size,0,none⟩=some (.int .u32 t.x):=qP hh;have f0:wr.frozen? ⟨w.heap.size,0,none⟩=false:=yC hh;have hl:=VS hh;have HH:=Lib.hid hh;clear hh;by_cases hlen:0<s1.size
     ·have e1:(s1.extract 0 s1.size).size<=140737488351232:=by simp;omega
      go_wp2_with fail
      refine(Fs _ _ hs1).mono ?_;rintro e _ ⟨rfl,rfl⟩;go_wp2
      go_roundw
      case rel=>
       refine⟨⟨1,by omega,rfl,?_⟩,?_⟩
       ·refine(qQ (o:=0) HH.out _).trans ?_;skip
        skip
        skip
        simp[Bw,Xb.cells]
       ·refine Kept.st ?_ _ (.inr (by simp));exact hkr
      case measure=>simp[intOf]
     ·have hz:s1.data.toList.drop 0=[]:=XI (by rw[Xs];omega);have HZ:=Lib.hid hz;clear hz;go_wp2
      go_roundw
      case rel=>
       refine⟨⟨1,by omega,rfl,HH.out.trans ?_⟩,hkr⟩;obtain⟨⟨o1,o2⟩,⟨o3,o4⟩,o5,o6⟩:=hok.out;have hz:=HZ.out;try simp only[xK]at hz
       simp[Bw,Xb.cells,hz,Yj];omega
      case measure=>simp[intOf]
    ·have z0:wr.cell? ⟨w.heap.size,1,none⟩=some (.int .u32 t.y):=qP hh;have f0:wr.frozen? ⟨w.heap.size,1,none⟩=false:=yC hh;have hl:=VS hh;have HH:=Lib.hid hh;clear hh;by_cases hlen:4<s1.size
     ·have e1:(s1.extract 4 s1.size).size<=140737488351232:=by simp;omega
      go_wp2_with fail
      refine(Fs _ _ e1).mono ?_;rintro e _ ⟨rfl,rfl⟩;go_wp2
      go_roundw
      case rel=>
       refine⟨⟨2,by omega,rfl,?_⟩,?_⟩
       ·refine(qQ (o:=1) HH.out _).trans ?_;have e0:(s1.data.toList.drop 4).take (s1.size-4)=s1.data.toList.drop 4:=xP (by rw[kT,Xs];omega);try simp only[e0]
        skip
        skip
        simp[Bw,Xb.cells]
       ·refine Kept.st ?_ _ (.inr (by simp));exact hkr
      case measure=>simp[intOf]
     ·have hz:s1.data.toList.drop 4=[]:=XI (by rw[Xs];omega);have HZ:=Lib.hid hz;clear hz;go_wp2
      go_roundw
      case rel=>
       refine⟨⟨2,by omega,rfl,HH.out.trans ?_⟩,hkr⟩;obtain⟨⟨o1,o2⟩,⟨o3,o4⟩,o5,o6⟩:=hok.out;have hz:=HZ.out;try simp only[xK]at hz
       simp[Bw,Xb.cells,hz,Yj];omega
      case measure=>simp[intOf]
    ·have z0:wr.cell? ⟨w.heap.size,2,none⟩=some (.int .u32 ((t.z+N)%4294967296)):=qP hh;have f0:wr.frozen? ⟨w.heap.size,2,none⟩=false:=yC hh;have hl:=VS hh;have HH:=Lib.hid hh;clear hh;by_cases hlen:8<s1.size
     ·have e1:(s1.extract 8 s1.size).size<=140737488351232:=by simp;omega
      go_wp2_with fail
      refine(Fs _ _ e1).mono ?_;rintro e _ ⟨rfl,rfl⟩;go_wp2
      go_roundw
      case rel=>
       refine⟨⟨3,by omega,rfl,?_⟩,?_⟩
       ·refine(qQ (o:=2) HH.out _).trans ?_;have e0:(s1.data.toList.drop 8).take (s1.size-8)=s1.data.toList.drop 8:=xP (by rw[kT,Xs];omega);have e0':(s1.data.toList.drop 8).take 4=s1.data.toList.drop 8:=xP (by rw[kT,Xs];omega);simp only[e0,e0'];simp[Bw,Xb.cells];skip
       ·refine Kept.st ?_ _ (.inr (by simp));exact hkr
      case measure=>simp[intOf]
     ·have hz:s1.data.toList.drop 8=[]:=XI (by rw[Xs];omega);have HZ:=Lib.hid hz;clear hz;go_wp2
      go_roundw
      case rel=>
       refine⟨⟨3,by omega,rfl,HH.out.trans ?_⟩,hkr⟩;obtain⟨⟨o1,o2⟩,⟨o3,o4⟩,o5,o6⟩:=hok.out;have hz:=HZ.out;try simp only[xK]at hz
       simp[Bw,Xb.cells,hz,Yj];try omega
      case measure=>simp[intOf]
    ·have hend:=GQ (N:=N) (t:=t) (l:=s1.data.toList) (by rw[Xs];omega);rw[hr.out]at hend;have hadd:(MZ (Bw 3 ⟨t.x,t.y,(t.z+N)%4294967296⟩ (Yj (s1.data.toList.take 4)) (Yj ((s1.data.toList.drop 4).take 4)) ((Yj (s1.data.toList.drop 8):Int) * 256))).z=VT s.data.toList:=by rw[hend];simp[Bw,j1M]
     have HA:=Lib.hid hadd;clear hadd hend;go_wp2_with fail
     refine(j3A w.heap.size _ hh).mono ?_;rintro e w3 ⟨rfl,hk3,hh3⟩;have z3:w3.cell? ⟨w.heap.size,2,none⟩=some (.int .u32 _):=qP hh3;have hl3:=VS hh3;rw[HA.out]at z3;clear hh3 hh;go_wp2
     go_ret
     exact⟨rfl,hkr.thn hk3 (fun i hi=> .inr (by omega))⟩
end
end Go.Proofs.YtcieggahhkoeeaaGreat
namespace Go.Proofs.YtcieggahhkoeeaaGreat.Ex
variable{μ:Mu}{w:World}{v:AV}{args:List AV}
section
open Go Go.RowKit
def Bd:List AV->AH->Option (AV×AH)
 |[.lit (.string s)],h=>bif decide (s.size<=140737488351232)then some (.lit (.bool (Ke s.data.toList)),h)else none
 |_,_=>none
def TC:List AV->AH->Option (AV×AH)
 |[.ptr b off,.lit (.string s)],h=>bif decide (s.size<=140737488351232)then some (.lit (.int .u32 (VT s.data.toList)),h)else none
 |_,_=>none
variable {ρ:Nat->Value} {fl:Nat}
theorem j03{h h':AH}{args':List Value}(hg:Bd args h=some (v,h'))(hr:HR Tryz.prog ρ fl μ h w)(ha:qF ρ μ w args args'):
 Calls Tryz.prog 35 args'.toArray w fun e w'=>∃μ' v',e= .returned v'/\yD Tryz.prog ρ fl μ h w μ' h' w'/\rel ρ μ' w' v v':=by
 unfold Bd at hg
 split at hg
 case h_2=>cases hg
 rename_i s
 cases hc:decide (s.size<=140737488351232)with
 |false=>rw[hc]at hg;cases hg
 |true=>
 rw[hc]at hg
 cases hg
 obtain⟨v1,vs,rfl,r1,r2⟩:=xB ha
 obtain rfl:=xM r2
 obtain rfl:v1= .string s:=xF r1
 refine(j4v s w (of_decide_eq_true hc) _ rfl).mono fun e w' hy=> ?_
 obtain⟨rfl,rfl⟩:=hy
 exact⟨μ,_,rfl,yD.refl hr,vN rfl⟩
theorem j05{h h':AH}{args':List Value}(hg:TC args h=some (v,h'))(hr:HR Tryz.prog ρ fl μ h w)(ha:qF ρ μ w args args'):
 Calls Tryz.prog 109 args'.toArray w fun e w'=>∃μ' v',e= .returned v'/\yD Tryz.prog ρ fl μ h w μ' h' w'/\rel ρ μ' w' v v':=by
 unfold TC at hg
 split at hg
 case h_2=>cases hg
 rename_i b off s
 cases hc:decide (s.size<=140737488351232)with
 |false=>rw[hc]at hg;cases hg
 |true=>
 rw[hc]at hg
 cases hg
 obtain⟨vp,vs,rfl,r1,r2⟩:=xB ha
 obtain⟨v1,vs,rfl,r3,r4⟩:=xB r2
 obtain rfl:=xM r4
 obtain rfl:v1= .string s:=xF r3
 obtain⟨r,base,m1,rfl⟩:=yN r1
 refine(j4R _ s w (of_decide_eq_true hc)).mono fun e w' hy=> ?_
 obtain⟨rfl,hk⟩:=hy
 exact⟨μ,_,rfl,RY hr hk,vN rfl⟩
end
end Go.Proofs.YtcieggahhkoeeaaGreat.Ex
namespace Go.Proofs.YtcieggahhkoeeaaGreat
def Mo(x n j:Nat):Nat:=if x%2^j<n then x%2^j else x%2^(j-1)
def Wk(n j:Nat):Prop:=1<=j/\n<=2^j/\(j=1\/2^(j-1)<n)
theorem UC{n j k:Nat}(hj:Wk n j)(hk:Wk n k):j=k:=by
 obtain⟨a1,a2,a3⟩:=hj;obtain⟨b1,b2,b3⟩:=hk;rcases Nat.lt_trichotomy j k with h|h|h
 ·rcases b3 with rfl|b3
  ·omega
  ·have:2^j<=2^(k-1):=Yp (by omega) (by omega);omega
 ·exact h
 ·rcases a3 with rfl|a3
  ·omega
  ·have:2^k<=2^(j-1):=Yp (by omega) (by omega);omega
theorem BK{n:Nat}(h:2<=n):Wk n (Nat.log2 (n-1)+1):=by
 have h0:n-1≠0:=by omega
 have h1:=Nat.log2_self_le h0;have h2:n-1<2^(Nat.log2 (n-1)+1):=Nat.lt_log2_self;exact⟨by omega,by omega,.inr (by simp;omega)⟩
def Dj(x n:Nat):Nat:=if n<2 then 0 else Mo x (min n 1073741824) (Nat.log2 (min n 1073741824-1)+1)
variable{w:World}
section
open Go.RowKit
theorem XF{x j:Nat}(hx:x<4294967296)(hj:j<=31):bits BinOp.and IntKind.i64 (x:Int) (((2^j:Nat):Int)-1)=((x%2^j:Nat):Int):=by
 have h:=(bits_nat .i64 63 (by decide) (fun n h0 h1=>IntWalk.i64_in n (by have:(2:Int)^63=9223372036854775808:=by decide
                                                                          omega)) x (2^j-1) (by omega) (by
  have:2^j<=2^31:=Yp (by omega) hj
  omega)).1
 have hp:=Nat.two_pow_pos j;rw[show(((2^j:Nat):Int)-1)=((2^j-1:Nat):Int)by omega,h,Nat.and_two_pow_sub_one_eq_mod]
def OA(n:Nat)(v:Value):Prop:=∃q:Nat,v= .int .i64 ((q:Int)-1)/\2<=q/\q<=2147483648/\Hid (∃j,q=2^j/\1<=j/\(j=1\/2^(j-1)<n))
set_option maxHeartbeats 800000 in
theorem j0e(x:Nat)(n:Int)(hx:x<4294967296)(hn: -9223372036854775808<=n)(hn2:n<=9223372036854775807):
 Calls Tryz.prog 107 #[.int .u32 x,.int .i64 n] w fun e w'=>e= .returned (.int .i64 (Dj x n.toNat))/\w'=w:=by
 by_cases h2:n<2
 ·have hs:Dj x n.toNat=0:=by unfold Dj;rw[if_pos (by omega)]
  rw[hs];go_enter Tryz.func107,Tryz.ntmps107
  go_wp2
  go_ret
  exact⟨rfl,rfl⟩
 ·obtain⟨m,hm⟩:∃m:Nat,(m:Int)=min n 1073741824:=⟨(min n 1073741824).toNat,by omega⟩;have hs:Dj x n.toNat=Mo x m (Nat.log2 (m-1)+1):=by unfold Dj;rw[if_neg (by omega),show min n.toNat 1073741824=m by omega]
  rw[hs];have m1:2<=m:=by omega
  have m2:m<=1073741824:=by omega
  have hmin:∀(w:World),(Builtin.min_ #[3,3] 3 #[.int .i64 n,.int .i64 1073741824]).run Tryz.prog w= .ok (.int .i64 m) w:=fun w=>by rw[hm];exact Lib.run_min_ints _ _ _ _ _ _ _
  clear hs hm;go_enter Tryz.func107,Tryz.ntmps107
  go_wp2
  go_loop [5] (fun v=>OA m v) (fun v=>m-(intOf v).toNat)
  case atStart=>exact⟨2,rfl,by omega,by omega,⟨1,rfl,by omega,.inl rfl⟩⟩
  case round=>
   obtain⟨q,rfl,q1,q2,hq⟩:=hrel;by_cases hlt:q<m
   ·go_wp2
    go_round
    case rel=>
     obtain⟨j,rfl,j1,j2⟩:=hq.out;refine⟨2^(j+1),?_,?_,?_,⟨j+1,rfl,by omega,.inr (by simpa using hlt)⟩⟩
     ·congr 1;rw[Jf];push_cast;omega
     ·rw[Jf];omega
     ·rw[Jf];omega
    case measure=>simp[intOf];omega
   ·go_wp2
    all_goals
     go_ret
     obtain⟨j,rfl,j1,j2⟩:=hq.out
     have hj31:j<=31:=by
      rcases j5F 31 j with h|h
      ·have:2^32<=2^j:=Yp (by omega) h;omega
      ·exact h
     have hmask:Nat.log2 (m-1)+1=j:=UC (BK m1) ⟨j1,by omega,j2⟩
     have hb:=XF hx hj31
     refine⟨?_,rfl⟩
     rw[hmask]
     unfold Mo
     first
      |(have hlt2:bits BinOp.and IntKind.i64 (x:Int) (((2^j:Nat):Int)-1)<(m:Int):=by assumption
        rw[hb]at hlt2
        rw[if_pos (by omega)]
        exact congrArg (fun z=>Ending.returned (Value.int .i64 z)) hb)
      |(have hge2:(m:Int)<=bits BinOp.and IntKind.i64 (x:Int) (((2^j:Nat):Int)-1):=by assumption
        rw[hb]at hge2
        rw[if_neg (by omega)]
        have hh:((((2^j:Nat):Int)-1)/2)=(((2^(j-1):Nat):Int)-1):=by
         have:2^j=2 * 2^(j-1):=by rw[<-Nat.pow_succ'];congr 1;omega
         omega
        have hb2:=XF (x:=x) (j:=j-1) hx (by omega)
        rw[<-hh]at hb2
        exact congrArg (fun z=>Ending.returned (Value.int .i64 z)) hb2)
set_option maxHeartbeats 800000 in
theorem TP(x:Nat)(n:Int)(hx:x<4294967296)(hn: -9223372036854775808<=n)(hn2:n<=9223372036854775807):
 Calls Tryz.prog 96 #[.int .u32 x,.int .i64 n] w fun e w'=>e= .returned (.int .i64 (Dj x n.toNat))/\w'=w:=by
 by_cases h2:n<2
 ·have hs:Dj x n.toNat=0:=by unfold Dj;rw[if_pos (by omega)]
  rw[hs];go_enter Tryz.func96,Tryz.ntmps96
  go_wp2
  go_ret
  exact⟨rfl,rfl⟩
 by_cases h3:1073741824<n
 ·obtain⟨m,hm⟩:∃m:Nat,(m:Int)=1073741824:=⟨1073741824,rfl⟩;have hs:Dj x n.toNat=Mo x m (Nat.log2 (m-1)+1):=by unfold Dj;rw[if_neg (by omega),show min n.toNat 1073741824=m by omega]
  rw[hs];have m1:2<=m:=by omega
  have m2:m<=1073741824:=by omega
  have HM:=Lib.hid hm;clear hs hm;go_enter Tryz.func96,Tryz.ntmps96
  go_wp2
  rw[<-HM.out];go_loop [5] (fun v=>OA m v) (fun v=>m-(intOf v).toNat)
  case atStart=>exact⟨2,rfl,by omega,by omega,⟨1,rfl,by omega,.inl rfl⟩⟩
  case round=>
   obtain⟨q,rfl,q1,q2,hq⟩:=hrel;by_cases hlt:q<m
   ·go_wp2
    go_round
    case rel=>
     obtain⟨j,rfl,j1,j2⟩:=hq.out;refine⟨2^(j+1),?_,?_,?_,⟨j+1,rfl,by omega,.inr (by simpa using hlt)⟩⟩
     ·congr 1;rw[Jf];push_cast;omega
     ·rw[Jf];omega
     ·rw[Jf];omega
    case measure=>simp[intOf];omega
   ·go_wp2
    all_goals
     go_ret
     obtain⟨j,rfl,j1,j2⟩:=hq.out
     have hj31:j<=31:=by
      rcases j5F 31 j with h|h
      ·have:2^32<=2^j:=Yp (by omega) h;omega
      ·exact h
     have hmask:Nat.log2 (m-1)+1=j:=UC (BK m1) ⟨j1,by omega,j2⟩
     have hb:=XF hx hj31
     refine⟨?_,rfl⟩
     rw[hmask]
     unfold Mo
     first
      |(have hlt2:bits BinOp.and IntKind.i64 (x:Int) (((2^j:Nat):Int)-1)<(m:Int):=by assumption
        rw[hb]at hlt2
        rw[if_pos (by omega)]
        exact congrArg (fun z=>Ending.returned (Value.int .i64 z)) hb)
      |(have hge2:(m:Int)<=bits BinOp.and IntKind.i64 (x:Int) (((2^j:Nat):Int)-1):=by assumption
        rw[hb]at hge2
        rw[if_neg (by omega)]
        have hh:((((2^j:Nat):Int)-1)/2)=(((2^(j-1):Nat):Int)-1):=by
         have:2^j=2 * 2^(j-1):=by rw[<-Nat.pow_succ'];congr 1;omega
         omega
        have hb2:=XF (x:=x) (j:=j-1) hx (by omega)
        rw[<-hh]at hb2
        exact congrArg (fun z=>Ending.returned (Value.int .i64 z)) hb2)
 ·obtain⟨m,rfl⟩:∃m:Nat,n=(m:Int):=⟨n.toNat,by omega⟩;have hs:Dj x ((m:Int)).toNat=Mo x m (Nat.log2 (m-1)+1):=by rw[vD];unfold Dj;rw[if_neg (by omega),show min m 1073741824=m by omega]
  rw[hs];have m1:2<=m:=by omega
  have m2:m<=1073741824:=by omega
  clear hs;go_enter Tryz.func96,Tryz.ntmps96
  go_wp2
  go_loop [5] (fun v=>OA m v) (fun v=>m-(intOf v).toNat)
  case atStart=>exact⟨2,rfl,by omega,by omega,⟨1,rfl,by omega,.inl rfl⟩⟩
  case round=>
   obtain⟨q,rfl,q1,q2,hq⟩:=hrel;by_cases hlt:q<m
   ·go_wp2
    go_round
    case rel=>
     obtain⟨j,rfl,j1,j2⟩:=hq.out;refine⟨2^(j+1),?_,?_,?_,⟨j+1,rfl,by omega,.inr (by simpa using hlt)⟩⟩
     ·congr 1;rw[Jf];push_cast;omega
     ·rw[Jf];omega
     ·rw[Jf];omega
    case measure=>simp[intOf];omega
   ·go_wp2
    all_goals
     go_ret
     obtain⟨j,rfl,j1,j2⟩:=hq.out
     have hj31:j<=31:=by
      rcases j5F 31 j with h|h
      ·have:2^32<=2^j:=Yp (by omega) h;omega
      ·exact h
     have hmask:Nat.log2 (m-1)+1=j:=UC (BK m1) ⟨j1,by omega,j2⟩
     have hb:=XF hx hj31
     refine⟨?_,rfl⟩
     rw[hmask]
     unfold Mo
     first
      |(have hlt2:bits BinOp.and IntKind.i64 (x:Int) (((2^j:Nat):Int)-1)<(m:Int):=by assumption
        rw[hb]at hlt2
        rw[if_pos (by omega)]
        exact congrArg (fun z=>Ending.returned (Value.int .i64 z)) hb)
      |(have hge2:(m:Int)<=bits BinOp.and IntKind.i64 (x:Int) (((2^j:Nat):Int)-1):=by assumption
        rw[hb]at hge2
        rw[if_neg (by omega)]
        have hh:((((2^j:Nat):Int)-1)/2)=(((2^(j-1):Nat):Int)-1):=by
         have:2^j=2 * 2^(j-1):=by rw[<-Nat.pow_succ'];congr 1;omega
         omega
        have hb2:=XF (x:=x) (j:=j-1) hx (by omega)
        rw[<-hh]at hb2
        exact congrArg (fun z=>Ending.returned (Value.int .i64 z)) hb2)
end
end Go.Proofs.YtcieggahhkoeeaaGreat
namespace Go.Proofs.YtcieggahhkoeeaaGreat.Ex
open Go
variable{μ:Mu}{h h':AH}{w:World}{v:AV}{args:List AV}
section
open Go Go.RowKit
theorem SW(l:List UInt8):0<=VT l/\VT l<4294967296:=by
 have key:∀(N:Int) (t:Xb) (l:List UInt8),0<=Qi N t l/\Qi N t l<4294967296:=fun N t l=>by
  induction hn:l.length using Nat.strongRecOn generalizing t l with
  |_ n ih=>
   by_cases h:12<=l.length
   ·rw[UE h];exact ih (l.drop 12).length (by rw[kT];omega) _ _ rfl
   ·rw[GQ h];exact(eI _).2.2
 exact key _ _ _
def Mk:List AV->AH->Option (AV×AH)
 |[.lit (.string s)],h=>bif decide (s.size<=140737488351232)then some (.lit (.int .u32 (VT s.data.toList)),h)else none
 |_,_=>none
def Be:List AV->AH->Option (AV×AH)
 |[.lit (.int .u32 x),.lit (.int .i64 n)],h=>bif decide (0<=x/\x<4294967296/\-9223372036854775808<=n/\n<=9223372036854775807)then some (.lit (.int .i64 (Dj x.toNat n.toNat)),h)else none
 |_,_=>none
variable {ρ:Nat->Value} {fl:Nat}
theorem nD{args':List Value}(hg:Bd args h=some (v,h'))(hr:HR Tryz.prog ρ fl μ h w)(ha:qF ρ μ w args args'):
 Calls Tryz.prog 44 args'.toArray w fun e w'=>∃μ' v',e= .returned v'/\yD Tryz.prog ρ fl μ h w μ' h' w'/\rel ρ μ' w' v v':=by
 unfold Bd at hg
 split at hg
 case h_2=>cases hg
 rename_i s
 cases hc:decide (s.size<=140737488351232)with
 |false=>rw[hc]at hg;cases hg
 |true=>
 rw[hc]at hg
 cases hg
 obtain⟨v1,vs,rfl,r1,r2⟩:=xB ha
 obtain rfl:=xM r2
 obtain rfl:v1= .string s:=xF r1
 refine(iR s w (of_decide_eq_true hc) _ rfl).mono fun e w' hy=> ?_
 obtain⟨rfl,rfl⟩:=hy
 exact⟨μ,_,rfl,yD.refl hr,vN rfl⟩
theorem nF{args':List Value}(hg:Mk args h=some (v,h'))(hr:HR Tryz.prog ρ fl μ h w)(ha:qF ρ μ w args args'):
 Calls Tryz.prog 97 args'.toArray w fun e w'=>∃μ' v',e= .returned v'/\yD Tryz.prog ρ fl μ h w μ' h' w'/\rel ρ μ' w' v v':=by
 unfold Mk at hg
 split at hg
 case h_2=>cases hg
 rename_i s
 cases hc:decide (s.size<=140737488351232)with
 |false=>rw[hc]at hg;cases hg
 |true=>
 rw[hc]at hg
 cases hg
 obtain⟨v1,vs,rfl,r1,r2⟩:=xB ha
 obtain rfl:=xM r2
 obtain rfl:v1= .string s:=xF r1
 refine(lU s w (of_decide_eq_true hc)).mono fun e w' hy=> ?_
 obtain⟨rfl,hk⟩:=hy
 exact⟨μ,_,rfl,RY hr hk,vN rfl⟩
theorem j07{args':List Value}(hg:Be args h=some (v,h'))(hr:HR Tryz.prog ρ fl μ h w)(ha:qF ρ μ w args args'):
 Calls Tryz.prog 107 args'.toArray w fun e w'=>∃μ' v',e= .returned v'/\yD Tryz.prog ρ fl μ h w μ' h' w'/\rel ρ μ' w' v v':=by
 unfold Be at hg
 split at hg
 case h_2=>cases hg
 rename_i x n
 cases hc:decide (0<=x/\x<4294967296/\-9223372036854775808<=n/\n<=9223372036854775807)with
 |false=>rw[hc]at hg;cases hg
 |true=>
 rw[hc]at hg
 cases hg
 obtain⟨h1,h2,h3,h4⟩:=of_decide_eq_true hc
 obtain⟨x,rfl⟩:=Rn h1
 obtain⟨v1,vs,rfl,r1,r2⟩:=xB ha
 obtain⟨v2,vs,rfl,r3,r4⟩:=xB r2
 obtain rfl:=xM r4
 obtain rfl:v1= .int .u32 (x:Int):=xF r1
 obtain rfl:v2= .int .i64 n:=xF r3
 refine(j0e x n (by omega) h3 h4).mono fun e w' hy=> ?_
 obtain⟨rfl,rfl⟩:=hy
 exact⟨μ,_,rfl,yD.refl hr,vN rfl⟩
theorem nG{args':List Value}(hg:Be args h=some (v,h'))(hr:HR Tryz.prog ρ fl μ h w)(ha:qF ρ μ w args args'):
 Calls Tryz.prog 96 args'.toArray w fun e w'=>∃μ' v',e= .returned v'/\yD Tryz.prog ρ fl μ h w μ' h' w'/\rel ρ μ' w' v v':=by
 unfold Be at hg
 split at hg
 case h_2=>cases hg
 rename_i x n
 cases hc:decide (0<=x/\x<4294967296/\-9223372036854775808<=n/\n<=9223372036854775807)with
 |false=>rw[hc]at hg;cases hg
 |true=>
 rw[hc]at hg
 cases hg
 obtain⟨h1,h2,h3,h4⟩:=of_decide_eq_true hc
 obtain⟨x,rfl⟩:=Rn h1
 obtain⟨v1,vs,rfl,r1,r2⟩:=xB ha
 obtain⟨v2,vs,rfl,r3,r4⟩:=xB r2
 obtain rfl:=xM r4
 obtain rfl:v1= .int .u32 (x:Int):=xF r1
 obtain rfl:v2= .int .i64 n:=xF r3
 refine(TP x n (by omega) h3 h4).mono fun e w' hy=> ?_
 obtain⟨rfl,rfl⟩:=hy
 exact⟨μ,_,rfl,yD.refl hr,vN rfl⟩
end
variable{b n z b2 o2 fl be i:Nat}{k2:Cap}{ρ:Nat->Value}{args':List Value}{e:TypeId}{s:ByteArray}{x a u:Int}
section
open Go Go.RowKit
theorem Vk:Tryz.prog.follows .mixedOrders=true:=by kernel_rfl
def PN:List AV->AH->Option (AV×AH)
 |[.ptr _ _,.lit (.int .u32 a),.lit (.int .u32 b)],h=>some (.lit (.int .u32 (EO a b)),h)
 |_,_=>none
def PO:List AV->AH->Option (AV×AH)
 |[.ptr _ _,.lit (.int .u32 a),.lit (.int .u32 b),.lit (.int .u32 c)],h=>some (.lit (.int .u32 (ER a b c)),h)
 |_,_=>none
def HQ:List AV->AH->Option (AV×AH)
 |[.lit (.int .u32 a),.lit (.int .u32 b)],h=>some (.lit (.int .u32 (EO a b)),h)
 |_,_=>none
def HT:List AV->AH->Option (AV×AH)
 |[.lit (.int .u32 a),.lit (.int .u32 b),.lit (.int .u32 c)],h=>some (.lit (.int .u32 (ER a b c)),h)
 |_,_=>none
def j3E:List AV->AH->Option (AV×AH)
 |[.lit (.int .i64 u)],h=>some (.lit (.int .i64 (j6k u)),h)
 |_,_=>none
theorem JT{α:Type}{b:Bool}{x:α}{y:Option α}{z:α}(h:(bif b then some x else y)=some z):(b=true/\x=z)\/y=some z:=by
 cases b
 ·exact .inr h
 ·exact .inl ⟨rfl,jS h⟩
def j5u:Qb:=fun f=>
 bif Nat.beq f 58 then some j02 else
 bif Nat.beq f 111 then some PN else
 bif Nat.beq f 172 then some PO else
 bif Nat.beq f 124 then some HQ else
 bif Nat.beq f 157 then some HT else
 bif Nat.beq f 180 then some j3E else
 bif Nat.beq f 173 then some j3E else none
theorem Fp(ρ:Nat->Value)(fl:Nat):Uu Tryz.prog ρ fl j5u:=by
 intro f g args h v h' hs hg μ w args' hr ha;unfold j5u at hs
 have key:∀(f:FuncId) (x:Value),CN x=true->(WC Tryz.prog (zH Tryz.prog kR) oQ f args h fun r h'=>zM h.n h h'/\r= .lit x)->Calls Tryz.prog f args'.toArray w fun e w'=>∃μ' v',e= .returned v'/\yD Tryz.prog ρ fl μ h w μ' h w'/\rel ρ μ' w' (.lit x) v':=
  fun f x hx hw=>nO AF j2p Vk (nR ρ fl) hx hw hr ha
 rcases JT hs with⟨h1,rfl⟩|hs
 ·obtain rfl:=jY h1;exact j2S hg hr ha
 rcases JT hs with⟨h1,rfl⟩|hs
 ·obtain rfl:=jY h1;unfold PN at hg;split at hg;case h_2=>cases hg
  cases hg;rw[Ap];exact key _ _ rfl (j1Z _ _)
 rcases JT hs with⟨h1,rfl⟩|hs
 ·obtain rfl:=jY h1;unfold PO at hg;split at hg;case h_2=>cases hg
  cases hg;rw[Aq];exact key _ _ rfl (j21 _ _ _)
 rcases JT hs with⟨h1,rfl⟩|hs
 ·obtain rfl:=jY h1;unfold HQ at hg;split at hg;case h_2=>cases hg
  cases hg;rw[Ap];exact key _ _ rfl (aC _ _)
 rcases JT hs with⟨h1,rfl⟩|hs
 ·obtain rfl:=jY h1;unfold HT at hg;split at hg;case h_2=>cases hg
  cases hg;rw[Aq];exact key _ _ rfl (aE _ _ _)
 rcases JT hs with⟨h1,rfl⟩|hs
 ·obtain rfl:=jY h1;unfold j3E at hg;split at hg;case h_2=>cases hg
  cases hg;rw[Pr];exact key _ _ rfl ((j75 _).mono fun r h' ⟨e,q⟩=>⟨e▸zM.refl _ _,q⟩)
 rcases JT hs with⟨h1,rfl⟩|hs
 ·obtain rfl:=jY h1;unfold j3E at hg;split at hg;case h_2=>cases hg
  cases hg;rw[Pr];exact key _ _ rfl ((j2d _).mono fun r h' ⟨e,q⟩=>⟨e▸zM.refl _ _,q⟩)
 cases hs
theorem sK{f:Nat}(hrun:Pk (ex Tryz.prog (zH Tryz.prog kR) j5u n (.call f [] none) .nil)=true)(w:World):Calls Tryz.prog f #[] w fun e w'=>e= .returned (.bool true)/\Below w.heap.size w w':=by obtain⟨h',hx⟩:=aH hrun;refine(tG (ρ:=fun _=>default) (args':=[]) AF j2p Vk (Fp _ _) hx rels_nil).mono fun e w' hy=> ?_;obtain⟨v',μ',rfl,hb,hv⟩:=hy;exact⟨by rw[KE hv],hb⟩
def j1C(z:Nat):AV->Bool
 | .sl _ _ n (.kn k)=>Nat.ble n k
 | .sl _ _ _ (.un z')=>Nat.beq z' z
 |_=>true
theorem j1D{v:AV}(h:j1C z v=true):KN z v:=by
 rintro b off n cap rfl;cases cap with
 |kn k=>exact Nat.ble_eq.mp h
 |un z'=>exact jY h
def eX:List AV->AH->Option (AV×AH)
 |[v,.lit (.int .i64 i),.sl b2 o2 1 _],h=>match Zj h b2 with
  |some l2=>match cut l2 o2 4 with
   |some new=>bif isSl v&&j1C 4 v&&Nat.ble ((lenD v+1) * 32) 140737488355328&&new.all AV.one&&decide (i=(lenD v:Int))then Qp h 108 4 1 new v else none
   |none=>none
  |none=>none
 |_,_=>none
theorem tQ{h h':AH}{v r:AV}{l2 new:List AV}(hv:isSl v=true)(hbig:(lenD v+1) * 32<=140737488355328)(hg2:Zj h b2=some l2)(hc2:cut l2 o2 4=some new)(h1:new.all AV.one=true)(ha:Qp h 108 4 1 new v=some (r,h')):
 vZ (zH Tryz.prog kR) h 63 63 v (.sl b2 o2 1 k2)=some (r,h'):=by
 have e1:und (zH Tryz.prog kR) 63=some (.slice 108):=by kernel_rfl
 have h00:(zH Tryz.prog kR 108).map (fun i=>(i.bytes,i.zero.cells.length,i.size))=some (32,4,4):=by kernel_rfl
 obtain⟨i0,h0,he⟩:=Option.map_eq_some_iff.1 h00
 obtain⟨hb,hz,hs⟩:i0.bytes=32/\i0.zero.cells.length=4/\i0.size=4:=by simp only[jV]at he;exact he
 have hlv:lenA v=some (lenD v):=by obtain⟨n,⟨rfl,_⟩|⟨b,off,cap,rfl⟩⟩:=Fz.of hv<;>rfl
 have hsrc:Dk h 4 (.sl b2 o2 1 k2)=some new:=by simp only[Dk,hg2];exact hc2
 have hnl:new.length=4:=by
  unfold cut at hc2;split at hc2
  ·cases hc2;rw[zV,kT];omega
  ·cases hc2
 unfold vZ
 have f1:Nat.ble (lenD v+1) 4611686018427387904=true:=yF (by omega)
 have f2:Nat.ble ((lenD v+1) * 32) 140737488355328=true:=yF hbig
 have hlu:lenA (.sl b2 o2 1 k2)=some 1:=rfl
 rw[e1,hlv,hlu]
 simp only[h0,hb,hz,hs,hsrc,hnl,h1,f1,f2]
 exact ha
theorem bY{S:Qb}(hS:Uu Tryz.prog ρ fl S){f:FuncId}{args:List AV}{h h':AH}{r:AV}
 (hw:WC Tryz.prog (zH Tryz.prog kR) S f args h fun a b=>a=r/\b=h')    (hr:HR Tryz.prog ρ fl μ h w) (ha:qF ρ μ w args args'):
 Calls Tryz.prog f args'.toArray w fun e w'=>∃μ' v',e= .returned v'/\yD Tryz.prog ρ fl μ h w μ' h' w'/\rel ρ μ' w' r v':=by
 obtain⟨n,o,h1,hex,v,cm,rfl,rfl,rfl⟩:=hw
 intro cs
 obtain⟨_,h2⟩:=tH AF j2p Vk hS n _ _ _ _ hex
 obtain⟨_,μ',w',f',cs',q1,q2,q3,q4⟩:=h2 _ w cs args' hr ha trivial
 cases cm with
 |some m=>rename_i h3;cases h3
 |none=>
  have q4:cs'=cs:=q4;subst q4;obtain⟨r1,r2,r3,r4,fn,v',r5,r6,r7⟩:=q3;exact⟨.returned v',w',f',⟨μ',v',rfl,q1,r7⟩,q2,r1,r4,r2,r3,fn,by rw[r1];exact r5,r6⟩
set_option maxRecDepth 10000 in
set_option maxHeartbeats 4000000 in
theorem j4B{h h':AH}{v u r:AV}(hv:isSl v=true)(hcap:KN 4 v)(hu:isSl u=true)(h1:lenD u=1)(hrt:isSl r=true)(ha:vZ (zH Tryz.prog kR) h 63 63 v u=some (r,h')):
 WC Tryz.prog (zH Tryz.prog kR) j5u 77 [v,.lit (.int .i64 (lenD v)),u] h fun a b=>a=r/\b=h':=by
 refine zW Tryz.func77 rfl rfl ?_
 have hle:((lenD v:Int)<=(lenD v:Int))=True:=by simp
 have hee:((lenD v:Int)==(lenD v:Int))=true:=by simp
 simp only[jN,seval,Tryz.ntmps77,hv,hu,h1,hle,hcap,hee]
 rw[ha]
 simp only[jN,seval]
def Oj(args:List AV)(h:AH):Option (AV×AH):=match nE args h with
 |some r=>some r
 |none=>eX args h
theorem WG{h h':AH}{new:List AV}{v r:AV}(ha:Qp h e z 1 new v=some (r,h')):isSl r=true:=by
 unfold Qp at ha;rw[show Nat.beq 1 0=false from rfl]at ha;simp only[cond_false]at ha;split at ha
 ·cases ha;rfl
 ·split at ha
  ·split at ha
   ·split at ha
    ·rename_i q1 q2;cases hq:(Nat.beq z _&&Nat.beq e _)with
     |false=>rw[hq]at ha;cases ha
     |true=>rw[hq]at ha;cases ha;rfl
    ·cases ha
   ·cases ha
  ·rename_i off len cap k;cases hq:Nat.ble (len+1) k with
   |false=>
    rw[hq]at ha;simp only[cond_false]at ha;split at ha
    ·split at ha
     ·cases ha;rfl
     ·cases ha
    ·cases ha
   |true=>
    rw[hq]at ha;simp only[cond_true]at ha;split at ha
    ·obtain⟨_,_,hh⟩:=Option.map_eq_some_iff.1 ha;cases hh;rfl
    ·cases ha
 ·cases ha
theorem j04{h h':AH}{v:AV}{args:List AV}(hg:eX args h=some (v,h'))(hr:HR Tryz.prog ρ fl μ h w)(ha:qF ρ μ w args args'):
 Calls Tryz.prog 77 args'.toArray w fun e w'=>∃μ' v',e= .returned v'/\yD Tryz.prog ρ fl μ h w μ' h' w'/\rel ρ μ' w' v v':=by
 unfold eX at hg
 split at hg
 case h_2=>cases hg
 rename_i x i b2 o2 k2
 split at hg
 case h_2=>cases hg
 rename_i l2 hg2
 split at hg
 case h_2=>cases hg
 rename_i new hc2
 cases hcc:(isSl x&&j1C 4 x&&Nat.ble ((lenD x+1) * 32) 140737488355328&&new.all AV.one&&decide (i=(lenD x:Int)))with
 |false=>rw[hcc]at hg;cases hg
 |true=>
 rw[hcc]at hg
 simp only[jW,decide_eq_true_eq]at hcc
 obtain⟨⟨⟨⟨q1,q2⟩,q3⟩,q4⟩,rfl⟩:=hcc
 exact bY (Fp ρ fl) (j4B (u:= .sl b2 o2 1 k2) q1 (j1D q2) rfl rfl (WG hg) (tQ q1 (Nat.ble_eq.mp q3) hg2 hc2 q4 hg)) hr ha
set_option maxRecDepth 100000 in
theorem SN:Pk (ex Tryz.prog (zH Tryz.prog kR) j5u 100000 (.call 6 [] none) .nil)=true:=by decide+kernel
def S0:Qb:=fun f=>bif Nat.beq f 6 then some eY else bif Nat.beq f 77 then some Oj else bif Nat.beq f 143 then some Ml else bif Nat.beq f 145 then some YJ else bif Nat.beq f 35 then some Bd else bif Nat.beq f 109 then some TC else bif Nat.beq f 44 then some Bd else bif Nat.beq f 97 then some Mk else bif Nat.beq f 107 then some Be else bif Nat.beq f 96 then some Be else j5u f
abbrev vR:=WC Tryz.prog (zH Tryz.prog kR) S0
theorem j2Z(ρ:Nat->Value)(fl:Nat):Uu Tryz.prog ρ fl S0:=by
 intro f g args h v h' hs hg μ w args' hr ha;unfold S0 at hs;rcases JT hs with⟨h1,rfl⟩|hs
 ·obtain rfl:=jY h1;exact j08 (sK SN) hg hr ha
 rcases JT hs with⟨h1,rfl⟩|hs
 ·obtain rfl:=jY h1;unfold Oj at hg;split at hg
  ·rename_i r hq;cases hg;exact j2T hq hr ha
  ·exact j04 hg hr ha
 rcases JT hs with⟨h1,rfl⟩|hs
 ·obtain rfl:=jY h1;exact j06 hg hr ha
 rcases JT hs with⟨h1,rfl⟩|hs
 ·obtain rfl:=jY h1;exact TB hg hr ha
 rcases JT hs with⟨h1,rfl⟩|hs
 ·obtain rfl:=jY h1;exact j03 hg hr ha
 rcases JT hs with⟨h1,rfl⟩|hs
 ·obtain rfl:=jY h1;exact j05 hg hr ha
 rcases JT hs with⟨h1,rfl⟩|hs
 ·obtain rfl:=jY h1;exact nD hg hr ha
 rcases JT hs with⟨h1,rfl⟩|hs
 ·obtain rfl:=jY h1;exact nF hg hr ha
 rcases JT hs with⟨h1,rfl⟩|hs
 ·obtain rfl:=jY h1;exact j07 hg hr ha
 rcases JT hs with⟨h1,rfl⟩|hs
 ·obtain rfl:=jY h1;exact nG hg hr ha
 ·exact Fp ρ fl f g args h v h' hs hg μ w args' hr ha
theorem aA{H:AH}{Q:AV->AH->Prop}(hs:s.size<=140737488351232)(hq:Q (.lit (.bool (Ke s.data.toList))) H):vR 35 [.lit (.string s)] H Q:=
 ZF Tryz.func35 rfl (g:=Bd) rfl (by simp only[Bd,decide_eq_true hs,cond_true]) hq
theorem Pf{H:AH}{Q:AV->AH->Prop}(hs:s.size<=140737488351232)(hq:Q (.lit (.bool (Ke s.data.toList))) H):vR 44 [.lit (.string s)] H Q:=
 ZF Tryz.func44 rfl (g:=Bd) rfl (by simp only[Bd,decide_eq_true hs,cond_true]) hq
theorem j4S{H:AH}{Q:AV->AH->Prop}{off:Nat}(hs:s.size<=140737488351232)(hq:Q (.lit (.int .u32 (VT s.data.toList))) H):vR 109 [.ptr b off,.lit (.string s)] H Q:=
 ZF Tryz.func109 rfl (g:=TC) rfl (by simp only[TC,decide_eq_true hs,cond_true]) hq
theorem j2n{H:AH}{Q:AV->AH->Prop}(hs:s.size<=140737488351232)(hq:Q (.lit (.int .u32 (VT s.data.toList))) H):vR 97 [.lit (.string s)] H Q:=
 ZF Tryz.func97 rfl (g:=Mk) rfl (by simp only[Mk,decide_eq_true hs,cond_true]) hq
theorem j5i{H:AH}{Q:AV->AH->Prop}{n:Int}(hx:0<=x/\x<4294967296/\-9223372036854775808<=n/\n<=9223372036854775807)(hq:Q (.lit (.int .i64 (Dj x.toNat n.toNat))) H):vR 107 [.lit (.int .u32 x),.lit (.int .i64 n)] H Q:=
 ZF Tryz.func107 rfl (g:=Be) rfl (by simp only[Be,decide_eq_true hx,cond_true]) hq
theorem j2Y{H:AH}{Q:AV->AH->Prop}{n:Int}(hx:0<=x/\x<4294967296/\-9223372036854775808<=n/\n<=9223372036854775807)(hq:Q (.lit (.int .i64 (Dj x.toNat n.toNat))) H):vR 96 [.lit (.int .u32 x),.lit (.int .i64 n)] H Q:=
 ZF Tryz.func96 rfl (g:=Be) rfl (by simp only[Be,decide_eq_true hx,cond_true]) hq
theorem j61{H:AH}{Q:AV->AH->Prop}{off:Nat}{y:Int}{l l':List AV}(hb:KL H b=some (l,e))(hx:l[off]? =some (.lit (.int .i64 x)))(hp:put l off [.lit (.int .i64 (IntKind.i64.wrap (x+y)))]=some l')(hq:Q (.lit (.int .i64 (IntKind.i64.wrap (x+y)))) (H.put b (.cells l' e))):vR 58 [.ptr b off,.lit (.int .i64 y)] H Q:=
 ZF Tryz.func58 rfl (g:=j02) rfl (by simp only[j02,hb,hx,hp,qD]) hq
theorem EY{H:AH}{Q:AV->AH->Prop}(hq:Q (.lit (.bool true)) H):vR 6 [] H Q:=ZF Tryz.func6 rfl (g:=eY) rfl rfl hq
section
variable {H:AH} {Q:AV->AH->Prop}
theorem dW{oe:Nat}{b:Int}(hq:Q (.lit (.int .u32 (UB a b))) H):vR 111 [.ptr be oe,.lit (.int .u32 a),.lit (.int .u32 b)] H Q:=
 ZF Tryz.func111 rfl (g:=PN) rfl (by rw[show PN [.ptr be oe,.lit (.int .u32 a),.lit (.int .u32 b)] H=some (.lit (.int .u32 (EO a b)),H)from rfl,Ap]) hq
theorem j20{oe:Nat}{b c:Int}(hq:Q (.lit (.int .u32 (GN a b c))) H):vR 172 [.ptr be oe,.lit (.int .u32 a),.lit (.int .u32 b),.lit (.int .u32 c)] H Q:=
 ZF Tryz.func172 rfl (g:=PO) rfl (by rw[show PO [.ptr be oe,.lit (.int .u32 a),.lit (.int .u32 b),.lit (.int .u32 c)] H=some (.lit (.int .u32 (ER a b c)),H)from rfl,Aq]) hq
theorem Sx{b:Int}(hq:Q (.lit (.int .u32 (UB a b))) H):vR 124 [.lit (.int .u32 a),.lit (.int .u32 b)] H Q:=
 ZF Tryz.func124 rfl (g:=HQ) rfl (by rw[show HQ [.lit (.int .u32 a),.lit (.int .u32 b)] H=some (.lit (.int .u32 (EO a b)),H)from rfl,Ap]) hq
theorem tL{b c:Int}(hq:Q (.lit (.int .u32 (GN a b c))) H):vR 157 [.lit (.int .u32 a),.lit (.int .u32 b),.lit (.int .u32 c)] H Q:=
 ZF Tryz.func157 rfl (g:=HT) rfl (by rw[show HT [.lit (.int .u32 a),.lit (.int .u32 b),.lit (.int .u32 c)] H=some (.lit (.int .u32 (ER a b c)),H)from rfl,Aq]) hq
theorem j74(hq:Q (.lit (.int .i64 (lL u))) H):vR 180 [.lit (.int .i64 u)] H Q:=
 ZF Tryz.func180 rfl (g:=j3E) rfl (by rw[show j3E [.lit (.int .i64 u)] H=some (.lit (.int .i64 (j6k u)),H)from rfl,Pr]) hq
theorem j6j(hq:Q (.lit (.int .i64 (lL u))) H):vR 173 [.lit (.int .i64 u)] H Q:=
 ZF Tryz.func173 rfl (g:=j3E) rfl (by rw[show j3E [.lit (.int .i64 u)] H=some (.lit (.int .i64 (j6k u)),H)from rfl,Pr]) hq
theorem j6g{l l2 old new:List AV}{e2:TypeId}(hb:H.at b=some (.cells l 108))(hb2:H.at b2=some (.cells l2 e2))(hc:cut l 0 (n * 4)=some old)(hc2:cut l2 o2 4=some new)
 (hbig:(n+1) * 32<=140737488355328) (hne:b≠b2) (h1:new.all AV.one=true) (h2:old.all AV.one=true) (hi:i<n) (hq:Q (.sl H.n 0 (n+1) (.un 4)) ((H.put b .gone).push (.cells (old.take (i * 4)++new++old.drop (i * 4)) 108))):
 vR 77 [.sl b 0 n (.un 4),.lit (.int .i64 i),.sl b2 o2 1 k2] H Q:=by
 refine ZF Tryz.func77 rfl (g:=Oj) rfl ?_ hq
 have g1:KL H b=some (l,108):=by unfold KL;rw[hb]
 have g2:KL H b2=some (l2,e2):=by unfold KL;rw[hb2]
 have g3:Nat.beq b b2=false:=by rw[Nr];exact fun hh=>hne (jY hh)
 have g4:Nat.ble ((n+1) * 32) 140737488355328=true:=yF hbig
 have g5:decide ((0:Int)<=(i:Int))=true:=decide_eq_true (by omega)
 have g6:decide ((i:Int)<(n:Int))=true:=decide_eq_true (by omega)
 have key:nE [.sl b 0 n (.un 4),.lit (.int .i64 i),.sl b2 o2 1 k2] H=some (.sl H.n 0 (n+1) (.un 4),(H.put b .gone).push (.cells (old.take (i * 4)++new++old.drop (i * 4)) 108)):=by unfold nE;simp only[g1,g2,hc,hc2,g3,g4,g5,g6,h1,h2,Wm,oV,kS,cond_true,vD]
 unfold Oj
 rw[key]
theorem j4A{l2 new:List AV}{v r:AV}{H':AH}(hv:isSl v=true)(hcap:KN 4 v)(hg2:Zj H b2=some l2)(hc2:cut l2 o2 4=some new)(hbig:(lenD v+1) * 32<=140737488355328)(h1:new.all AV.one=true)
 (ha:Qp H 108 4 1 new v=some (r,H')) (hq:Q r H'):
 vR 77 [v,.lit (.int .i64 (lenD v)),.sl b2 o2 1 k2] H Q:=by
 refine ZF Tryz.func77 rfl (g:=Oj) rfl ?_ hq
 have e1:nE [v,.lit (.int .i64 (lenD v)),.sl b2 o2 1 k2] H=none:=by
  obtain⟨n,⟨rfl,_⟩|⟨b,off,cap,rfl⟩⟩:=Fz.of hv
  ·rfl
  ·cases off with
   |succ off=>rfl
   |zero=>
    cases cap with
    |kn k=>rfl
    |un z=>
     obtain rfl:z=4:=hcap b 0 n (.un z) rfl
     show(match KL H b,KL H b2 with
      |some (l,e),some (l2,_)=>match cut l 0 (n * 4),cut l2 o2 4 with
       |some old,some new=>bif Nat.beq e 108&&Nat.ble ((n+1) * 32) 140737488355328&& !Nat.beq b b2&&new.all AV.one&&old.all AV.one&&decide (0<=((n:Nat):Int))&&decide (((n:Nat):Int)<(n:Int))then
         some (AV.sl H.n 0 (n+1) (.un 4),(H.put b .gone).push (.cells (old.take ((n:Int).toNat * 4)++new++old.drop ((n:Int).toNat * 4)) e))else none
       |_,_=>none
      |_,_=>none)=none
     have hd:decide (((n:Nat):Int)<(n:Int))=false:=decide_eq_false (by omega);simp only[hd,Jl,cond_false];split
     ·split<;>rfl
     ·rfl
 have hcb:j1C 4 v=true:=by
  obtain⟨n,⟨rfl,_⟩|⟨b,off,cap,rfl⟩⟩:=Fz.of hv
  ·rfl
  ·have:=hcap b off n cap rfl;cases cap with
   |kn k=>exact yF this
   |un z'=>exact Nat.beq_eq.mpr this
 have f2:Nat.ble ((lenD v+1) * 32) 140737488355328=true:=yF hbig
 unfold Oj
 rw[e1]
 simp only[eX,hg2,hc2,hv,hcb,f2,h1,kS,decide_true,cond_true]
 exact ha
end
end
variable{T:TT}{F:Nat->Prop}{xs:List Int}
theorem zJ.int(hs:zJ qB F h v xs)(hA:XO T e=some false)(hS:vQ T e=some 1)(hi:i<xs.length):
 Jr T h e (slB v) (slO v+i)=some (.lit (.int .i64 (xs.getD i 0))):=by
 obtain⟨c,⟨rfl,_⟩,h2⟩:=hs.get (T:=T) (jO hi)
 have:=h2 e 1 0 hS (by omega) (by show 0+1<=1;omega)
 simp only[qB,KP,JH]at this
 rw[this]
 simp[YU,hA,hS,jU,jO hi]
def IV(x:Int):List Int->Int->Int
 |[],_=> -1
 |y::r,i=>if x=y then i else IV x r (i+1)
theorem Sy(x:Int):∀(l:List Int) (i:Int),0<=i->(0<=IV x l i↔x∈l)
 |[],i,hi=>by simp[IV]
 |y::r,i,hi=>by
  unfold IV;by_cases h:x=y
  ·rw[if_pos h];simp[h,hi]
  ·rw[if_neg h,Sy x r (i+1) (by omega)];simp[h]
theorem iX(x:Int)(hi:i<xs.length):IV x (xs.drop i) i=if x=xs.getD i 0 then(i:Int)else IV x (xs.drop (i+1)) ((i+1:Nat):Int):=by rw[qS hi,jU,jO hi,IV];rfl
variable{H:AH}
theorem j24(x:Int)(hv:zJ qB F H v xs)(hl:xs.length<2^62):
 vR 158 [v,.lit (.int .i64 x)] H fun r h'=>h'=H/\r= .lit (.int .i64 (IV x xs 0)):=by
 refine zW Tryz.func158 rfl rfl ?_
 have s1:=hv.isSl
 have s2:=hv.lenD
 simp only[jN,seval,Tryz.ntmps158,s1,s2]
 refine kO xs.length (fun i t h=>h=H/\IV x (xs.drop i) i=IV x xs 0/\t.n=19/\t.get 0=v/\t.get 1= .lit (.int .i64 x)/\t.get 7= .lit (.int .i64 xs.length)/\t.get 8= .lit (.int .i64 i)) ?_ ?_ _ _ ?_
 ·rintro i t h hlt hc ⟨rfl,hx,ga⟩ ih;have hld:=hv.int (T:=zH Tryz.prog kR) (e:=3) (by kernel_rfl) (by kernel_rfl) hlt;have hw:=xG hlt (by omega);simp only[jN,seval,s1,s2,ga,hlt,hc,hld,hw];rw[iX x hlt]at hx;refine⟨fun he=> ?_,fun he=> ?_⟩
  ·rw[if_pos (by simpa using he)]at hx;rw[hx]
  ·refine ih _ _ ?_;rw[if_neg (by simpa using he)]at hx;simp only[jN,seval,ga];exact hx
 ·rintro t h hc ⟨rfl,hx,ga⟩;simp only[jN,seval,s1,s2,ga,hc];rw[<-hx];simp[IV]
 ·simp only[jN,seval];try simp
theorem GC(x:Int)(hv:zJ qB F H v xs)(hl:xs.length<2^62):
 vR 151 [v,.lit (.int .i64 x)] H fun r h'=>h'=H/\r= .lit (.bool (xs.contains x)):=by
 refine zW Tryz.func151 rfl rfl ?_
 simp only[jN,seval,Tryz.ntmps151]
 refine(j24 x hv hl).mono ?_
 rintro v h ⟨rfl,rfl⟩
 simp only[jN,seval]
 have h1:=Sy x xs 0 (by omega)
 congr 2
 rw[Gn]
 simp[h1]
variable{p:Nat}
theorem GL{α:Type}{R:Zl α}{zv:AV}{xs:List α}{t e by':Nat}(hu:und T t=some (.slice e))(hz:vQ T e=some R.z)(hzv:Jm T e=some zv)(hb:VK T e=some by')(hzl:zv.cells.length=R.z)(h0:0<R.z)(h200:R.z<=200)
 (hr:zJ R F H v xs) (hn:xs.length<=4611686018427387904) (hy:xs.length * by'<=140737488355328)  (hp:H.at p=some (.cells [] e)):
 ∃s' h',vZ T H t t (.sl p 0 0 (.kn 0)) v=some (s',h')/\zM H.n H h'/\zJ R (fun b=>F b\/b=p\/H.n<=b) h' s' xs/\j6I (fun b=>b=p\/H.n<=b) s'/\IZ s'=false:=by
 obtain⟨L,h1,h2,hc,h3⟩:=hr.out
 have e0:L.length=xs.length:=h3.1
 rcases VZ (T:=T) (h:=H) (t:=t) (tx:=t) (e:=e) (z:=R.z) (by':=by') (zv:=zv) (M:=L) (p:=p) (x:=v) hu hu hz hzv hb hzl h0 h200 hp h1.src h1.len h1.1 h3.ones (by rw[e0];exact hn) (by rw[e0];exact hy)with⟨hM,ha⟩|⟨hM,ha⟩
 ·subst hM;obtain rfl:xs=[]:=zO (by rw[<-e0];rfl);refine⟨_,_,ha,zM.refl _ _,.mk (L:=[]) ⟨by simp,.inr ⟨p,0,_,[],rfl,by unfold Zj;rw[hp],by simp[cut]⟩⟩ (fun b off n cap e=>by cases e;exact .inr (.inl rfl)) (fun b off n cap e=>by cases e;exact jM 0) .nil,fun b off n cap e=>by cases e;exact .inl rfl,rfl⟩
 ·refine⟨_,_,ha,(zM.refl _ _).push _ (jM _),.mk (L:=L) ⟨h1.1,.inr ⟨H.n,0,_,L.flatten,rfl,by unfold Zj;rw[zI],?_⟩⟩ (fun b off n cap e=>by cases e;exact .inr (.inr (jM _))) (fun b off n cap e=>by cases e;rfl) (h3.lift fun b hb hlt=>⟨xE _ hlt,.inl hb⟩),fun b off n cap e=>by cases e;exact .inr (jM _),rfl⟩;unfold cut;rw[if_pos (by rw[QM h1.1];omega),xK,<-QM h1.1,xC]
theorem zJ.empty{α:Type}{R:Zl α}{xs:List α}(h:zJ R F H v xs)(hn:IZ v=true):xs=[]:=by
 refine zO ?_;rw[<-h.lenD];unfold IZ at hn;split at hn
 ·rfl
 ·cases hn
theorem dO(hv:zJ qB F H v xs)(hl:xs.length * 8<=140737488355328):
 vR 72 [v] H fun r h'=>zM H.n H h'/\zJ qB (fun b=>H.n<=b) h' r xs/\IZ r=IZ v:=by
 refine zW Tryz.func72 rfl rfl ?_
 have s1:=hv.isSl
 have s2:=hv.lenD
 simp only[jN,seval,Tryz.ntmps72,s1]
 refine⟨fun he=> ?_,fun he=> ?_⟩
 ·rw[he];obtain rfl:=hv.empty he;exact⟨zM.refl _ _,zJ.nil,rfl⟩
 ·have hv2:zJ qB F (H.push (.cells [] 3)) v xs:=hv.ext ((zM.refl H.n H).push _ (jM _)) (jM _);refine qM (GL (T:=zH Tryz.prog kR) (by kernel_rfl) (by kernel_rfl) (zv:= .lit (.int .i64 0)) (by kernel_rfl) (by':=8) (by kernel_rfl) rfl (by decide) (by decide) hv2 (by omega) hl (zI H _)) ?_;rintro s' h' ⟨e1,e2,e3,e4⟩;simp only[jN,seval];rw[he];refine⟨((zM.refl H.n H).push _ (jM _)).trans (e1.mono (by rw[zF];omega)),?_,e4⟩;obtain⟨L,f1,f2,f3,f4⟩:=e2.out;refine .mk f1 (fun b off n cap e=> ?_) f3 ⟨f4.1,fun i c x h1 h2=>f4.2 i c x h1 h2⟩;rcases e3 b off n cap e with rfl|hb
  ·exact jM _
  ·rw[zF]at hb;omega
section
structure MF where
 pool:Int
 seed:Int
 deriving DecidableEq
structure Xa where
 ex:Bool
 up:Bool
 weight:Int
 boot:Int
 upFrom:Int
 upThru:Int
 deriving DecidableEq
structure xD where
 id:Int
 size:Int
 min:Int
 pgs:Int
 deriving DecidableEq
structure yL where
 id:Int
 kind:Int
 items:List Int
 weights:List Int
 deriving DecidableEq
structure zU where
 epoch:Int
 osds:List Xa
 pools:List xD
 buckets:List yL
 leaf:Int
 deriving DecidableEq
def j5K:Zl MF:=Us (fun x=>(x.pool,x.seed)) (kM qB qB)
def Dt:Zl Xa:=Us (fun x=>(x.ex,x.up,x.weight,x.boot,x.upFrom,x.upThru)) (kM cX (kM cX (kM qB (kM qB (kM qB qB)))))
def XR:Zl xD:=Us (fun x=>(x.id,x.size,x.min,x.pgs)) (kM qB (kM qB (kM qB qB)))
def Vq:Zl yL:=Us (fun x=>(x.id,x.kind,x.items,x.weights)) (kM qB (kM qB (kM (Eg qB) (Eg qB))))
def j6H:Zl zU:=Us (fun x=>(x.epoch,x.osds,x.pools,x.buckets,x.leaf)) (kM qB (kM (Eg Dt) (kM (Eg XR) (kM (Eg Vq) qB))))
section
variable {F:Nat->Prop} {h:AH} {c:List AV}
theorem j10:qB.is F h c x↔c=[.lit (.int .i64 x)]/\Zq x:=Iff.rfl
theorem Xo{α:Type}{R:Zl α}{xs:List α}:(Eg R).is F h c xs↔∃v,c=[v]/\zJ R F h v xs:=
 ⟨fun hh=>by obtain⟨v,L,rfl,h1⟩:=hh;exact⟨v,rfl,v,L,rfl,h1⟩,fun⟨v,e,hh⟩=>e▸hh⟩
theorem pQ{x:MF}:j5K.is F h c x↔c=[.lit (.int .i64 x.pool),.lit (.int .i64 x.seed)]/\Zq x.pool/\Zq x.seed:=by
 constructor
 ·rintro⟨_,_,rfl,⟨rfl,h1⟩,rfl,h2⟩;exact⟨rfl,h1,h2⟩
 ·rintro⟨rfl,h1,h2⟩;exact⟨_,_,rfl,⟨rfl,h1⟩,rfl,h2⟩
theorem Qn{x:Xa}:Dt.is F h c x↔c=[.lit (.bool x.ex),.lit (.bool x.up),.lit (.int .i64 x.weight),.lit (.int .i64 x.boot),.lit (.int .i64 x.upFrom),.lit (.int .i64 x.upThru)]/\Zq x.weight/\Zq x.boot/\Zq x.upFrom/\Zq x.upThru:=by
 constructor
 ·rintro⟨_,_,rfl,rfl,_,_,rfl,rfl,_,_,rfl,⟨rfl,h1⟩,_,_,rfl,⟨rfl,h2⟩,_,_,rfl,⟨rfl,h3⟩,rfl,h4⟩;exact⟨rfl,h1,h2,h3,h4⟩
 ·rintro⟨rfl,h1,h2,h3,h4⟩;exact⟨_,_,rfl,rfl,_,_,rfl,rfl,_,_,rfl,⟨rfl,h1⟩,_,_,rfl,⟨rfl,h2⟩,_,_,rfl,⟨rfl,h3⟩,rfl,h4⟩
theorem Jc{x:xD}:XR.is F h c x↔c=[.lit (.int .i64 x.id),.lit (.int .i64 x.size),.lit (.int .i64 x.min),.lit (.int .i64 x.pgs)]/\Zq x.id/\Zq x.size/\Zq x.min/\Zq x.pgs:=by
 constructor
 ·rintro⟨_,_,rfl,⟨rfl,h1⟩,_,_,rfl,⟨rfl,h2⟩,_,_,rfl,⟨rfl,h3⟩,rfl,h4⟩;exact⟨rfl,h1,h2,h3,h4⟩
 ·rintro⟨rfl,h1,h2,h3,h4⟩;exact⟨_,_,rfl,⟨rfl,h1⟩,_,_,rfl,⟨rfl,h2⟩,_,_,rfl,⟨rfl,h3⟩,rfl,h4⟩
theorem Jx{x:yL}:Vq.is F h c x↔∃va vb,c=[.lit (.int .i64 x.id),.lit (.int .i64 x.kind),va,vb]/\zJ qB F h va x.items/\zJ qB F h vb x.weights/\Zq x.id/\Zq x.kind:=by
 constructor
 ·rintro⟨_,_,rfl,⟨rfl,h1⟩,_,_,rfl,⟨rfl,h2⟩,_,_,rfl,h3,h4⟩;obtain⟨va,rfl,h3⟩:=Xo.1 h3;obtain⟨vb,rfl,h4⟩:=Xo.1 h4;exact⟨va,vb,rfl,h3,h4,h1,h2⟩
 ·rintro⟨va,vb,rfl,h3,h4,h1,h2⟩;exact⟨_,_,rfl,⟨rfl,h1⟩,_,_,rfl,⟨rfl,h2⟩,_,_,rfl,h3,h4⟩
end
theorem Bs:Dt.z=6:=rfl
theorem YY:XR.z=4:=rfl
theorem Qa:Vq.z=4:=rfl
theorem zJ.at{α:Type}{R:Zl α}{F:Nat->Prop}{h:AH}{v:AV}{xs:List α}(hs:zJ R F h v xs){z:Nat}(hz:R.z=z){i:Nat}{x:α}(hx:xs[i]? =some x):
 ∃c,R.is F h c x/\(∀e n j,vQ T e=some n->0<n->j+n<=z->Jr T h e (slB v) (slO v+i * z+j)=YU T e c j)/\(∀e n,vQ T e=some n->0<n->n<=z->Jr T h e (slB v) (slO v+i * z)=YU T e c 0):=by
 subst hz
 obtain⟨c,h1,h2⟩:=hs.get (T:=T) hx
 exact⟨c,h1,h2,fun e n hn h0 hle=>by have:=h2 e n 0 hn h0 (by omega);simpa using this⟩
def Sm{α:Type}(by':Nat)(ys:List α):Prop:=ys.length * by'<=140737488351232
theorem zJ.atE{α:Type}{R:Zl α}{F:Nat->Prop}{H h:AH}{v:AV}{xs:List α}(hs:zJ R F H v xs)(he:zM H.n H h){z:Nat}(hz:R.z=z){i:Nat}{x:α}(hx:xs[i]? =some x):
 ∃c,R.is F H c x/\(∀e n j,vQ T e=some n->0<n->j+n<=z->Jr T h e (slB v) (slO v+i * z+j)=YU T e c j)/\(∀e n,vQ T e=some n->0<n->n<=z->Jr T h e (slB v) (slO v+i * z)=YU T e c 0):=by
 have key:∀e off,Jr T h e (slB v) off=Jr T H e (slB v) off:=fun e off=>by
  obtain⟨L,h1,_,_,h3⟩:=hs.out;rcases h1.2 with⟨rfl,rfl⟩|⟨b,o,cap,row,rfl,h4,h5⟩
  ·have:=h3.1;have hlt:=(List.getElem?_eq_some_iff.1 hx).1;simp at this;omega
  ·have:=he.2 b (Cq h4);simp only[slB,Jr,Zj,this]
 obtain⟨c,h1,h2,h3⟩:=hs.at (T:=T) hz hx
 exact⟨c,h1,fun e n j a b d=>by rw[key];exact h2 e n j a b d,fun e n a b d=>by rw[key];exact h3 e n a b d⟩
end
def FC(q:IntKind)(n:Int)(i:Nat):UInt8:=UInt8.ofNat (IntKind.u8.wrap (YL q n ((8 * i:Nat):Int))).toNat
def JI(q:IntKind)(n:Int)(k:Nat):List UInt8:=(List.range k).map (FC q n)
theorem NE(q:IntKind)(n:Int)(k:Nat):JI q n (k+1)=JI q n k++[FC q n k]:=by unfold JI;rw[List.range_succ,QD];rfl
theorem zZ(q:IntKind)(n:Int)(k:Nat):(JI q n k).length=k:=by unfold JI;simp
abbrev Jo(n0:Nat)(h:AH)(v:AV)(xs:List UInt8):Prop:=qE xZ (fun _=>False) n0 h v 5 xs
theorem Wc(n:Int):((UInt8.ofNat (IntKind.u8.wrap n).toNat).toNat:Int)=IntKind.u8.wrap n:=by
 rw[IntKind.wrap_u8];have h:0<=n%256/\n%256<256:=by omega
 rw[UInt8.toNat_ofNat'];omega
def Fr(h:AH)(v:AV)(h':AH)(v':AV):Prop:=h.n<=h'.n/\∀b,b<h.n->qR v b->h'.at b=h.at b/\qR v' b
theorem Fr.refl:Fr h v h v:=⟨jM _,fun b _ ha=>⟨rfl,ha⟩⟩
variable{h1:AH}
theorem Fr.trans{h2:AH}{v1 v2:AV}(a:Fr h v h1 v1)(b:Fr h1 v1 h2 v2):Fr h v h2 v2:=
 ⟨zY a.1 b.1,fun k hk ha=>let⟨x,y⟩:=a.2 k hk ha;let⟨z,u⟩:=b.2 k (zS hk a.1) y;⟨z.trans x,u⟩⟩
theorem Fr.ext(e:zM h.n h h1):Fr h v h1 v:=⟨e.1,fun b hb ha=>⟨e.2 b hb,ha⟩⟩
theorem Fr.box{v1:AV}{x:AB}(f:Fr h v h1 v1)(hx:h.at b=some x)(ha:qR v b):h1.at b=some x/\qR v1 b:=
 let⟨p,q⟩:=f.2 b (jR hx) ha;⟨p.trans hx,q⟩
variable{n0:Nat}
theorem Jo.apart{xs:List UInt8}(ho:Jo n0 h v xs)(hb:b<n0\/h.n<=b):qR v b:=by
 intro off len cap hv;obtain⟨L,h2,-⟩:=ho;rcases h2.2 with⟨rfl,-⟩|⟨p,rfl,hp,hat⟩
 ·cases hv
 ·cases hv;have:=jR hat;omega
theorem Fr.toExt{v1:AV}{xs:List UInt8}(f:Fr h v h1 v1)(ho:Jo n0 h v xs)(hn0:n0<=h.n):zM n0 h h1:=⟨f.1,fun b hb=>(f.2 b (by omega) (ho.apart (.inl hb))).1⟩
variable{xs:List UInt8}
theorem Ja(n:Int)(ho:Jo n0 H v xs)(hn0:n0<=H.n)(hl:xs.length+8<=140737488355328):
 vR 50 [v,.lit (.int .i64 n)] H fun r h'=>Fr H v h' r/\Jo n0 h' r (xs++JI .i64 n 8):=by
 refine zW Tryz.func50 rfl rfl ?_
 simp only[jN,jB,jC,Tryz.ntmps50]
 refine kO 8 (fun i t h=>(∃s,Jo n0 h s (xs++JI .i64 n i)/\Fr H v h s/\t.get 0=s)/\t.n=19/\t.get 1= .lit (.int .i64 n)/\t.get 6= .lit (.int .i64 i)) ?_ ?_ _ _ ?_
 ·rintro i t h hlt hc ⟨⟨s,ho,fr,g0⟩,ga⟩ ih;have hc:((i:Int)<8)=True:=by simp only[eq_iff_iff,iff_true];omega
  have hws:=xG hlt (by omega);have hw8:IntKind.i64.wrap (8 * (i:Int))=((8 * i:Nat):Int):=(vW (by omega) (by omega)).trans (by omega);have h80:((0:Int)<=((8 * i:Nat):Int))=True:=by simp only[eq_iff_iff,iff_true];omega
  simp only[jN,jB,jE,jF,reduceCtorEq,jG,ga,g0,hc,hw8,h80];obtain⟨h2,hh2,e2,A2⟩:=xX h (.cells [.lit (.int .u8 (IntKind.u8.wrap (YL .i64 n ((8 * i:Nat):Int))))] 5);rw[<-hh2];clear hh2;have hn2:=e2.1;have hnh:=fr.1;have hlen:(xs++JI .i64 n i).length=xs.length+i:=by rw[jQ,zZ]
  refine qM ((ho.ext e2 (jM _)).snoc (by kernel_rfl) (by kernel_rfl) (by kernel_rfl) (zv:= .lit (.int .u8 0)) (by kernel_rfl) (by':=1) (by kernel_rfl) rfl (by decide) (by decide) A2 (y:=FC .i64 n i) (by show[AV.lit (Value.int .u8 _)]=[AV.lit (Value.int .u8 ((FC .i64 n i).toNat:Int))];unfold FC;rw[Wc]) (by omega) (by omega) (by omega)) ?_;rintro s4 h4 ⟨ho4,e4,f4⟩;simp only[jN,jB,jF,reduceCtorEq,ga,hws];refine ih _ _ ⟨⟨s4,by rw[NE,<-zP];exact ho4,fr.trans ((Fr.ext e2).trans ⟨e4.1,f4⟩),by simp only[jN,jE,reduceCtorEq,ga]⟩,?_⟩;simp only[jN,jE,jF,reduceCtorEq,ga]
 ·rintro t h hc ⟨⟨s,ho,fr,g0⟩,ga⟩;have hc':(((8:Nat):Int)<8)=False:=by decide
  simp only[jN,jB,jE,jF,reduceCtorEq,ga,g0,hc'];exact⟨fr,ho⟩
 ·refine⟨⟨v,by rw[show JI .i64 n 0=[]from rfl,kH];exact ho,Fr.refl,by simp only[jN,reduceCtorEq]⟩,?_⟩;simp only[jN,jB,jE,jF];rfl
theorem j36(n:Int)(ho:Jo n0 H v xs)(hn0:n0<=H.n)(hl:xs.length+4<=140737488355328):
 vR 70 [v,.lit (.int .u32 n)] H fun r h'=>Fr H v h' r/\Jo n0 h' r (xs++JI .u32 n 4):=by
 refine zW Tryz.func70 rfl rfl ?_
 simp only[jN,jB,jC,Tryz.ntmps70]
 refine kO 4 (fun i t h=>(∃s,Jo n0 h s (xs++JI .u32 n i)/\Fr H v h s/\t.get 0=s)/\t.n=19/\t.get 1= .lit (.int .u32 n)/\t.get 6= .lit (.int .i64 i)) ?_ ?_ _ _ ?_
 ·rintro i t h hlt hc ⟨⟨s,ho,fr,g0⟩,ga⟩ ih;have hc:((i:Int)<4)=True:=by simp only[eq_iff_iff,iff_true];omega
  have hws:=xG hlt (by omega);have hw8:IntKind.i64.wrap (8 * (i:Int))=((8 * i:Nat):Int):=(vW (by omega) (by omega)).trans (by omega);have h80:((0:Int)<=((8 * i:Nat):Int))=True:=by simp only[eq_iff_iff,iff_true];omega
  simp only[jN,jB,jE,jF,reduceCtorEq,jG,ga,g0,hc,hw8,h80];obtain⟨h2,hh2,e2,A2⟩:=xX h (.cells [.lit (.int .u8 (IntKind.u8.wrap (YL .u32 n ((8 * i:Nat):Int))))] 5);rw[<-hh2];clear hh2;have hn2:=e2.1;have hnh:=fr.1;have hlen:(xs++JI .u32 n i).length=xs.length+i:=by rw[jQ,zZ]
  refine qM ((ho.ext e2 (jM _)).snoc (by kernel_rfl) (by kernel_rfl) (by kernel_rfl) (zv:= .lit (.int .u8 0)) (by kernel_rfl) (by':=1) (by kernel_rfl) rfl (by decide) (by decide) A2 (y:=FC .u32 n i) (by show[AV.lit (Value.int .u8 _)]=[AV.lit (Value.int .u8 ((FC .u32 n i).toNat:Int))];unfold FC;rw[Wc]) (by omega) (by omega) (by omega)) ?_;rintro s4 h4 ⟨ho4,e4,f4⟩;simp only[jN,jB,jF,reduceCtorEq,ga,hws];refine ih _ _ ⟨⟨s4,by rw[NE,<-zP];exact ho4,fr.trans ((Fr.ext e2).trans ⟨e4.1,f4⟩),by simp only[jN,jE,reduceCtorEq,ga]⟩,?_⟩;simp only[jN,jE,jF,reduceCtorEq,ga]
 ·rintro t h hc ⟨⟨s,ho,fr,g0⟩,ga⟩;have hc':(((4:Nat):Int)<4)=False:=by decide
  simp only[jN,jB,jE,jF,reduceCtorEq,ga,g0,hc'];exact⟨fr,ho⟩
 ·refine⟨⟨v,by rw[show JI .u32 n 0=[]from rfl,kH];exact ho,Fr.refl,by simp only[jN,reduceCtorEq]⟩,?_⟩;simp only[jN,jB,jE,jF];rfl
theorem QK(n:Int)(ho:Jo n0 H v xs)(hn0:n0<=H.n)(hl:xs.length+4<=140737488355328):
 vR 51 [v,.lit (.int .i64 n)] H fun r h'=>Fr H v h' r/\Jo n0 h' r (xs++JI .u32 (IntKind.u32.wrap n) 4):=by
 refine zW Tryz.func51 rfl rfl ?_
 simp only[jN,jB,jC,jF,reduceCtorEq,Tryz.ntmps51]
 refine(j36 (IntKind.u32.wrap n) ho hn0 hl).mono ?_
 rintro r h ⟨e,hr⟩
 simp only[jN,jB,reduceCtorEq]
 exact⟨e,hr⟩
def sW(b:Bool):List UInt8:=[if b then 1 else 0]
theorem OP(b:Bool)(ho:Jo n0 H v xs)(hn0:n0<=H.n)(hl:xs.length+1<=140737488355328):
 vR 71 [v,.lit (.bool b)] H fun r h'=>Fr H v h' r/\Jo n0 h' r (xs++sW b):=by
 refine zW Tryz.func71 rfl rfl ?_
 cases b with
 |true=>
  simp only[jN,jB,jC,jF,reduceCtorEq,jG,Tryz.ntmps71];obtain⟨h2,hh2,e2,A2⟩:=xX H (.cells [.lit (.int .u8 1)] 5);rw[<-hh2];clear hh2;have hn2:=e2.1;refine qM ((ho.ext e2 (jM _)).snoc (by kernel_rfl) (by kernel_rfl) (by kernel_rfl) (zv:= .lit (.int .u8 0)) (by kernel_rfl) (by':=1) (by kernel_rfl) rfl (by decide) (by decide) A2 (y:=1) rfl (by omega) (by omega) (by omega)) ?_;rintro s4 h4 ⟨ho4,e4,f4⟩;simp only[jN,jB,jE,reduceCtorEq];exact⟨(Fr.ext e2).trans ⟨e4.1,f4⟩,ho4⟩
 |false=>
  simp only[jN,jB,jC,jF,reduceCtorEq,jG,Tryz.ntmps71];obtain⟨h2,hh2,e2,A2⟩:=xX H (.cells [.lit (.int .u8 0)] 5);rw[<-hh2];clear hh2;have hn2:=e2.1;refine qM ((ho.ext e2 (jM _)).snoc (by kernel_rfl) (by kernel_rfl) (by kernel_rfl) (zv:= .lit (.int .u8 0)) (by kernel_rfl) (by':=1) (by kernel_rfl) rfl (by decide) (by decide) A2 (y:=0) rfl (by omega) (by omega) (by omega)) ?_;rintro s4 h4 ⟨ho4,e4,f4⟩;simp only[jN,jB,jE,reduceCtorEq];exact⟨(Fr.ext e2).trans ⟨e4.1,f4⟩,ho4⟩
def FI(h w:Int):Int:=if w<1 then -9223372036854775808 else IntKind.i64.wrap ((IntKind.i64.wrap (lL (IntKind.i64.wrap (j4e .u32 h 65535))-281474976710656)).tdiv w)
def DY(x r id w:Int):Int:=FI (GN x (IntKind.u32.wrap id) (IntKind.u32.wrap r)) w
def Ez(x r:Int)(s:Int×Int)(i:Nat)(id w:Int):Int×Int:=if w<1 then s else if s.2<0\/s.1<DY x r id w then(DY x r id w,(i:Int))else s
def BC(ids ws:List Int)(x r:Int):Nat->Int×Int
 |0=>(0,-1)
 |n+1=>Ez x r (BC ids ws x r n) n (ids.getD n 0) (ws.getD n 0)
def JZ(ids ws:List Int)(x r:Int):Option Nat:=if ids.length=ws.length then(if 0<=(BC ids ws x r ids.length).2 then some (BC ids ws x r ids.length).2.toNat else none)else none
theorem ID(ids ws:List Int)(x r:Int):∀n,-1<=(BC ids ws x r n).2/\(BC ids ws x r n).2<n
 |0=>by unfold BC;simp
 |n+1=>by
  have:=ID ids ws x r n;unfold BC Ez;split
  ·omega
  ·split
   ·simp only;omega
   ·omega
variable{ids ws:List Int}{k:Nat}
theorem GB{r:Int}(h:JZ ids ws x r=some k):k<ids.length/\ids.length=ws.length:=by
 unfold JZ at h;have:=ID ids ws x r ids.length;split at h;case isFalse=>cases h
 rename_i he;split at h;case isFalse=>cases h
 cases h;exact⟨by omega,he⟩
def De(n:Int)(b:Bool):AV:= .tup [.lit (.int .i64 n),.lit (.bool b)]
def Al:Option Nat->AV
 |some k=>De k true
 |none=>De 0 false
theorem j4n(h w:Int):vR 171 [.lit (.int .u32 h),.lit (.int .i64 w)] H fun r h'=>h'=H/\r= .lit (.int .i64 (FI h w)):=by
 refine zW Tryz.func171 rfl rfl ?_;simp only[jN,seval,Tryz.ntmps171];refine⟨fun hq=> ?_,fun hq=> ?_⟩
 ·unfold FI;rw[if_pos (by simpa using hq)]
 ·have hq:¬w<1:=by simpa using hq
  refine j74 ?_;have hw:¬w=0:=by omega
  simp only[jN,seval,hw];unfold FI;rw[if_neg hq]
theorem j1H(h w:Int):vR 156 [.lit (.int .u32 h),.lit (.int .i64 w)] H fun r h'=>h'=H/\r= .lit (.int .i64 (FI h w)):=by
 refine zW Tryz.func156 rfl rfl ?_;simp only[jN,seval,Tryz.ntmps156];refine⟨fun hq=> ?_,fun hq=> ?_⟩
 ·unfold FI;rw[if_pos (by simpa using hq)]
 ·have hq:¬w<1:=by simpa using hq
  refine j6j ?_;have hw:¬w=0:=by omega
  simp only[jN,seval,hw];unfold FI;rw[if_neg hq]
variable{vi vw:AV}
theorem iC(x r:Int)(hi:zJ qB F H vi ids)(hw:zJ qB F H vw ws)(hl:ids.length * 8<=140737488355328):
 vR 149 [vi,vw,.lit (.int .u32 x),.lit (.int .i64 r)] H fun v h'=>h'=H/\v=Al (JZ ids ws x r):=by
 refine zW Tryz.func149 rfl rfl ?_
 have s1:=hi.isSl
 have s2:=hi.lenD
 have s3:=hw.isSl
 have s4:=hw.lenD
 simp only[jN,seval,Tryz.ntmps149,s1,s2,s3,s4]
 refine⟨fun hq=> ?_,fun hq=> ?_⟩
 ·have hq:¬ids.length=ws.length:=by simp at hq;omega
  unfold JZ;rw[if_neg hq];rfl
 ·have hq:ids.length=ws.length:=by simp at hq;omega
  refine kO ids.length (fun i t h=>h=H/\t.n=56/\t.get 1=vw/\t.get 2= .lit (.int .u32 x)/\t.get 3= .lit (.int .i64 r)/\t.get 10= .lit (.int .i64 (BC ids ws x r i).1)/\t.get 11= .lit (.int .i64 (BC ids ws x r i).2)/\t.get 20=vi/\t.get 21= .lit (.int .i64 ids.length)/\t.get 22= .lit (.int .i64 i)) ?_ ?_ _ _ ?_
  ·rintro i t h hlt hc ⟨rfl,ga⟩ ih;have hlt2:i<ws.length:=by omega
   have hld:=hi.int (T:=zH Tryz.prog kR) (e:=3) (by kernel_rfl) (by kernel_rfl) hlt;have hld2:=hw.int (T:=zH Tryz.prog kR) (e:=3) (by kernel_rfl) (by kernel_rfl) hlt2;have hws:=xG hlt (by omega);simp only[jN,seval,s1,s2,s3,s4,ga,hlt,hlt2,hc,hld,hld2,hws];refine⟨fun hq1=> ?_,fun hq1=> ?_⟩
   ·refine ih _ _ ⟨rfl,?_⟩;have e:BC ids ws x r (i+1)=BC ids ws x r i:=by rw[BC,Ez,if_pos (by simpa using hq1)]
    simp only[jN,seval,ga,e]
   ·have hq1:¬ws.getD i 0<1:=by simpa using hq1
    rw[zL [0,1,2,3,4,6,7,8,9,5,10,11] 11146288027033788370468373831718239570231296 (by kernel_rfl)];repeat ((with_reducible refine jX ?_;simp only[vO];try simp only[vP,seval]);simp only[jN,seval,zG,s3,s4,ga,hlt2,hld2])
    refine tL ?_;repeat ((with_reducible refine jX ?_;simp only[vO];try simp only[vP,seval]);simp only[jN,seval,zG,ga,hld2])
    refine(j1H _ _).mono ?_;rintro _ h2 ⟨rfl,rfl⟩;repeat ((with_reducible refine jX ?_;simp only[vO];try simp only[vP,seval]);simp only[jN,seval,zG,ga])
    have key:BC ids ws x r (i+1)=if(BC ids ws x r i).2<0\/(BC ids ws x r i).1<DY x r (ids.getD i 0) (ws.getD i 0)then(DY x r (ids.getD i 0) (ws.getD i 0),(i:Int))else BC ids ws x r i:=by rw[BC,Ez,if_neg hq1]
    have hsf:FI (GN x (IntKind.u32.wrap (ids.getD i 0)) (IntKind.u32.wrap r)) (ws.getD i 0)=DY x r (ids.getD i 0) (ws.getD i 0):=rfl;rw[hsf];by_cases hp:(BC ids ws x r i).2<0
    ·simp only[jN,seval,ga,hp,hws];refine ih _ _ ⟨rfl,?_⟩;rw[if_pos (.inl hp)]at key;simp only[jN,seval,ga,key]
    ·simp only[jN,seval,ga,hp,hws];refine⟨fun hq2=> ?_,fun hq2=> ?_⟩
     ·refine ih _ _ ⟨rfl,?_⟩;rw[if_pos (.inr (by simpa using hq2))]at key;simp only[jN,seval,ga,key]
     ·refine ih _ _ ⟨rfl,?_⟩;rw[if_neg (by rintro(h1|h1);exact hp h1;exact absurd (decide_eq_true h1) (by rw[hq2];decide))]at key;simp only[jN,seval,ga,key]
  ·rintro t h hc ⟨rfl,ga⟩;have hb:=ID ids ws x r ids.length;simp only[jN,seval,s1,s2,ga,hc];unfold JZ;rw[if_pos hq];refine⟨fun hq1=> ?_,fun hq1=> ?_⟩
   ·rw[if_neg (by simp at hq1;omega)];rfl
   ·have hq1:0<=(BC ids ws x r ids.length).2:=by simp at hq1;omega
    rw[if_pos hq1];show AV.tup _=AV.tup _;rw[j0R hq1]
  ·simp only[jN,seval];try((repeat' apply And.intro)<;>first|rfl|trivial)
def j3o:Option AV->Bool
 |some (.agg cs)=>cs.all AV.one
 |_=>false
theorem tC:∃cs,Jm (zH Tryz.prog kR) 232=some (.agg cs)/\cs.all AV.one=true:=by
 have h:j3o (Jm (zH Tryz.prog kR) 232)=true:=by kernel_rfl
 revert h
 generalize Jm (zH Tryz.prog kR) 232=o;intro h;unfold j3o at h;split at h
 ·exact⟨_,rfl,h⟩
 ·cases h
theorem eJ:vR 108 [] H fun r h'=>∃p,r= .ptr p 0/\zM H.n H h':=by refine zW Tryz.func108 rfl rfl ?_;obtain⟨cs,hz,h1⟩:=tC;simp only[jN,seval,Tryz.ntmps108,hz,h1,sD,Kw,Jk];exact⟨_,rfl,(zM.refl _ _).push _ (jM _)⟩
def Bk(h:AH)(p:Nat)(v:AV)(e:TypeId):Prop:=h.at p=some (.cells [v] e)
theorem Bk.ld{e0:TypeId}(hb:Bk h p v e0)(e off:Nat):Jr (zH Tryz.prog kR) h e p off=YU (zH Tryz.prog kR) e [v] off:=Xy hb e off
theorem Bk.new{e:Nat}(hp:p=h.n):Bk (h.push (.cells [v] e)) p v e:=by subst hp;exact zI h _
theorem Bk.old{e:Nat}{x:AB}(hb:Bk h p v e):Bk (h.push x) p v e:=(xE _ (jR hb)).trans hb
theorem Bk.ext{e:Nat}(hb:Bk h p v e)(he:zM h.n h h'):Bk h' p v e:=(he.2 p (jR hb)).trans hb
theorem Bk.lt{e:Nat}(hb:Bk h p v e):p<h.n:=jR hb
theorem j0k{ve:AV}{pe px pi pr pw oe:Nat}{r:Int}(hve:ve= .ptr be oe)(he:Bk H pe ve 199)(hx:Bk H px (.lit (.int .u32 x)) 157)(hpi:Bk H pi vi 120)(hr:Bk H pr (.lit (.int .i64 r)) 3)(hpw:Bk H pw vw 120)
 (hi:zJ qB F H vi ids) (hw:zJ qB F H vw ws)  (hlt:i<ids.length) (hlt2:i<ws.length):
 vR 170 [.lit (.int .i64 i),.ptr pe 0,.ptr px 0,.ptr pi 0,.ptr pr 0,.ptr pw 0] H fun v h'=>h'=H/\v= .lit (.int .i64 (DY x r (ids.getD i 0) (ws.getD i 0))):=by
 refine zW Tryz.func170 rfl rfl ?_
 subst hve
 have s1:=hi.isSl
 have s2:=hi.lenD
 have s3:=hw.isSl
 have s4:=hw.lenD
 have hld:=hi.int (T:=zH Tryz.prog kR) (e:=3) (by kernel_rfl) (by kernel_rfl) hlt
 have hld2:=hw.int (T:=zH Tryz.prog kR) (e:=3) (by kernel_rfl) (by kernel_rfl) hlt2
 have L1:=he.ld
 have L2:=hx.ld
 have L3:=hpi.ld
 have L4:=hr.ld
 have L5:=hpw.ld
 simp only[jN,seval,Tryz.ntmps170]
 rw[zL [0,1,2,3,4,5,6,7,8,10,11,12,13,9,14,15] 57894719459348330706363797571987788653768963364199945496970372284946646564864 (by kernel_rfl)]
 repeat ((with_reducible refine jX ?_;simp only[vO];try simp only[vP,seval]);simp only[jN,seval,zG,s1,s2,s3,s4,hlt,hlt2,hld,hld2,L1,L2,L3,L4,L5])
 refine j20 ?_
 repeat ((with_reducible refine jX ?_;simp only[vO];try simp only[vP,seval]);simp only[jN,seval,zG,s3,hld2,L5])
 refine(j4n _ _).mono ?_
 rintro _ h2 ⟨rfl,rfl⟩
 repeat ((with_reducible refine jX ?_;simp only[vO];try simp only[vP,seval]);simp only[jN,seval,zG])
 rfl
theorem sH(x r:Int)(hi:zJ qB F H vi ids)(hw:zJ qB F H vw ws)(hl:ids.length * 8<=140737488355328):
 vR 154 [vi,vw,.lit (.int .u32 x),.lit (.int .i64 r)] H fun v h'=>zM H.n H h'/\v=Al (JZ ids ws x r):=by
 refine zW Tryz.func154 rfl rfl ?_
 have s1:=hi.isSl
 have s2:=hi.lenD
 have s3:=hw.isSl
 have s4:=hw.lenD
 have o1:=hi.one
 have o2:=hw.one
 simp only[jN,seval,Tryz.ntmps154,s1,s2,s3,s4,o1,o2]
 refine⟨fun hq=> ?_,fun hq=> ?_⟩
 ·have hq:¬ids.length=ws.length:=by simp at hq;omega
  unfold JZ;rw[if_neg hq];exact⟨by repeat (first|exact zM.refl _ _|refine zM.push _ ?_ (by(try simp only[zF]);omega)),rfl⟩
 ·have hq:ids.length=ws.length:=by simp at hq;omega
  refine eJ.mono ?_;rintro _ h1 ⟨p,rfl,e1⟩;have B1:Bk h1 H.n vi 120:=Bk.ext (by repeat (first|exact Bk.new rfl|refine Bk.old ?_)) e1;have B2:Bk h1 (H.n+1) vw 120:=Bk.ext (by repeat (first|exact Bk.new rfl|refine Bk.old ?_)) e1;have B3:Bk h1 (H.n+1+1) (.lit (.int .u32 x)) 157:=Bk.ext (by repeat (first|exact Bk.new rfl|refine Bk.old ?_)) e1;have B4:Bk h1 (H.n+1+1+1) (.lit (.int .i64 r)) 3:=Bk.ext (by repeat (first|exact Bk.new rfl|refine Bk.old ?_)) e1;have E1:zM H.n H h1:=zM.trans (by repeat (first|exact zM.refl _ _|refine zM.push _ ?_ (by(try simp only[zF]);omega))) (e1.mono (by simp only[zF];omega));clear e1;have L2:=B2.ld;have l2:=B2.lt;simp only[jN,seval,s3,s4,L2,l2];obtain⟨h2,hh2⟩:∃h2,h2=h1.push (.cells [.ptr p 0] 199):=⟨_,rfl⟩;have C1:Bk h2 H.n vi 120:=hh2▸B1.old;have C2:Bk h2 (H.n+1) vw 120:=hh2▸B2.old;have C3:Bk h2 (H.n+1+1) (.lit (.int .u32 x)) 157:=hh2▸B3.old;have C4:Bk h2 (H.n+1+1+1) (.lit (.int .i64 r)) 3:=hh2▸B4.old;have C5:Bk h2 h1.n (.ptr p 0) 199:=hh2▸Bk.new rfl;have E2:zM H.n H h2:=hh2▸E1.push _ E1.1;have hi2:=hi.ext E2 (jM _);have hw2:=hw.ext E2 (jM _);rw[<-hh2];clear hh2 B1 B2 B3 B4 L2;refine kO ws.length (fun i t h=>h=h2/\t.n=50/\t.get 11= .fn (.func 170) [] [.ptr h1.n 0,.ptr (H.n+1+1) 0,.ptr H.n 0,.ptr (H.n+1+1+1) 0,.ptr (H.n+1) 0]/\t.get 12= .lit (.int .i64 (BC ids ws x r i).1)/\t.get 13= .lit (.int .i64 (BC ids ws x r i).2)/\t.get 24=vw/\t.get 25= .lit (.int .i64 ws.length)/\t.get 26= .lit (.int .i64 i)) ?_ ?_ _ _ ?_
  ·rintro i t h hlt2 hc ⟨rfl,hn,g11,g12,g13,g24,g25,g26⟩ ih;have hlt:i<ids.length:=by omega
   have hld2:=hw2.int (T:=zH Tryz.prog kR) (e:=3) (by kernel_rfl) (by kernel_rfl) hlt2;have hws:=xG hlt2 (by omega);simp only[jN,seval,s3,s4,hn,g11,g13,g24,g25,g26,hlt2,hc,hld2,hws];refine⟨fun hq1=> ?_,fun hq1=> ?_⟩
   ·refine ih _ _ ⟨rfl,?_⟩;have e:BC ids ws x r (i+1)=BC ids ws x r i:=by rw[BC,Ez,if_pos (by simpa using hq1)]
    simp only[jN,seval,hn,g11,g12,g13,g24,g25,e]
   ·have hq1:¬ws.getD i 0<1:=by simpa using hq1
    refine(j0k rfl C5 C3 C1 C4 C2 hi2 hw2 hlt hlt2).mono ?_;rintro _ h' ⟨rfl,rfl⟩;have key:BC ids ws x r (i+1)=if(BC ids ws x r i).2<0\/(BC ids ws x r i).1<DY x r (ids.getD i 0) (ws.getD i 0)then(DY x r (ids.getD i 0) (ws.getD i 0),(i:Int))else BC ids ws x r i:=by rw[BC,Ez,if_neg hq1]
    by_cases hp:(BC ids ws x r i).2<0
    ·simp only[jN,seval,hn,g13,g26,hp,hws];refine ih _ _ ⟨rfl,?_⟩;rw[if_pos (.inl hp)]at key;simp only[jN,seval,hn,g11,g24,g25,key]
    ·simp only[jN,seval,hn,g12,g13,g26,hp,hws];refine⟨fun hq2=> ?_,fun hq2=> ?_⟩
     ·refine ih _ _ ⟨rfl,?_⟩;rw[if_pos (.inr (by simpa using hq2))]at key;simp only[jN,seval,hn,g11,g24,g25,key]
     ·refine ih _ _ ⟨rfl,?_⟩;rw[if_neg (by rintro(h1|h1);exact hp h1;exact absurd (decide_eq_true h1) (by rw[hq2];decide))]at key;simp only[jN,seval,hn,g11,g12,g13,g24,g25,key]
  ·rintro t h hc ⟨rfl,hn,g11,g12,g13,g24,g25,g26⟩;have hb:=ID ids ws x r ids.length;rw[<-hq]at g13;simp only[jN,seval,s3,s4,hn,g13,g24,g25,g26,hc];refine⟨E2,?_⟩;unfold JZ;rw[if_pos hq];by_cases h0:0<=(BC ids ws x r ids.length).2
   ·rw[if_neg (by omega),if_pos h0,decide_eq_true h0];show AV.tup _=AV.tup _;rw[j0R h0]
   ·rw[if_pos (by omega),if_neg h0,decide_eq_false h0];rfl
  ·simp only[jN,seval];try((repeat' apply And.intro)<;>first|rfl|trivial)
def vS(m:zU)(vo vp vb:AV):AV:= .agg [.lit (.int .i64 m.epoch),vo,vp,vb,.lit (.int .i64 m.leaf)]
structure vG(F:Nat->Prop)(h:AH)(m:zU)(vo vp vb:AV):Prop where
 o:zJ Dt F h vo m.osds
 p:zJ XR F h vp m.pools
 b:zJ Vq F h vb m.buckets
variable{m:zU}{vo vp vb:AV}
theorem vG.ext(hm:vG F h m vo vp vb)(he:zM n0 h h')(hn:h.n<=n0):vG F h' m vo vp vb:=⟨hm.o.ext he hn,hm.p.ext he hn,hm.b.ext he hn⟩
def Xq(b:yL)(va vw:AV):AV:= .agg [.lit (.int .i64 b.id),.lit (.int .i64 b.kind),va,vw]
def Kk:yL:=⟨0,0,[],[]⟩
def kU(m:zU)(id:Int):Option yL:=m.buckets.find? (fun b=>b.id==id)
def qN(m:zU)(id:Int):yL:=(kU m id).getD Kk
theorem Va{α:Type}{p:α->Bool}{l:List α}{x:α}(hx:l[i]? =some x):(l.drop i).find? p=if p x then some x else(l.drop (i+1)).find? p:=by
 have hlt:=(List.getElem?_eq_some_iff.1 hx).1;rw[qS hlt,Gp];have:l[i]=x:=by rw[jO hlt]at hx;exact jS hx
 rw[this];cases p x<;>rfl
theorem Ev(id:Int)(hm:vG F H m vo vp vb)(hl:Sm 64 m.buckets):
 vR 117 [vS m vo vp vb,.lit (.int .i64 id)] H fun r h'=>zM H.n H h'/\∃va vw,r= .tup [Xq (qN m id) va vw,.lit (.bool (kU m id).isSome)]/\zJ qB F h' va (qN m id).items/\zJ qB F h' vw (qN m id).weights:=by
 refine zW Tryz.func117 rfl rfl ?_
 unfold Sm at hl
 have s1:=hm.b.isSl
 have s2:=hm.b.lenD
 have o1:=hm.o.one
 have o2:=hm.p.one
 have o3:=hm.b.one
 simp only[jN,seval,Tryz.ntmps117,vS,s1,s2,o1,o2,o3]
 obtain⟨h2,hh2⟩:∃h2,h2=(H.push (.cells [.lit (.int .i64 m.epoch),vo,vp,vb,.lit (.int .i64 m.leaf)] 66)).push (.cells [.lit (.int .i64 0),.lit (.int .i64 0),.lit (.slice none 0 0),.lit (.slice none 0 0)] 122):=⟨_,rfl⟩
 have E0:zM H.n H h2:=hh2▸((zM.refl _ _).push _ (jM _)).push _ (by rw[zF];omega)
 have A0:=QJ hh2
 have n2:h2.n=H.n+2:=by rw[hh2,zF,zF]
 rw[<-hh2]
 clear hh2
 refine kO m.buckets.length (fun i t h=>zM h2.n h2 h/\kU m id=(m.buckets.drop i).find? (fun b=>b.id==id)/\t.n=22/\t.get 1= .lit (.int .i64 id)/\t.get 4= .ptr (H.n+1) 0/\t.get 9=vb/\t.get 10= .lit (.int .i64 m.buckets.length)/\t.get 11= .lit (.int .i64 i)) ?_ ?_ _ _ ?_
 ·rintro i t h hlt hc ⟨he,hf,ga⟩ ih;obtain⟨x,hx⟩:∃x,m.buckets[i]? =some x:=⟨_,jO hlt⟩;have E1:zM H.n H h:=E0.trans (he.mono (by omega));obtain⟨c,hc1,hld,hld0⟩:=hm.b.atE (T:=zH Tryz.prog kR) E1 Qa hx;obtain⟨va,vw,rfl,ha,hw,i1,i2⟩:=Jx.1 hc1;have a1:=ha.one;have w1:=hw.one;have hws:=xG hlt (by omega);rw[Va hx]at hf;have A1:h.at (H.n+1)=some (.cells [.lit (.int .i64 0),.lit (.int .i64 0),.lit (.slice none 0 0),.lit (.slice none 0 0)] 122):=(he.2 _ (by omega)).trans A0;have l1:H.n+1<h.n:=jR A1;simp only[jN,seval,s1,s2,ga,hlt,hc,hld0,hws,a1,w1];refine⟨fun hq=> ?_,fun hq=> ?_⟩
  ·rw[if_pos hq]at hf;have hG:qN m id=x:=by unfold qN;rw[hf];rfl
   simp only[jN,seval,ga,a1,w1,A1,l1];have EF:zM H.n H ((h.put (H.n+1) (.cells [.lit (.int .i64 x.id),.lit (.int .i64 x.kind),va,vw] 122)).push (.cells [.lit (.int .i64 x.id),.lit (.int .i64 x.kind),va,vw] 122)):=(E1.put _ (by omega)).push _ (by rw[kZ];omega);rw[hG,hf];exact⟨EF,va,vw,rfl,ha.ext EF (jM _),hw.ext EF (jM _)⟩
  ·rw[if_neg (by rw[hq];decide)]at hf;refine ih _ _ ⟨he.push _ he.1,hf,?_⟩;simp only[jN,seval,ga]
 ·rintro t h hc ⟨he,hf,ga⟩;have A1:h.at (H.n+1)=some (.cells [.lit (.int .i64 0),.lit (.int .i64 0),.lit (.slice none 0 0),.lit (.slice none 0 0)] 122):=(he.2 _ (by omega)).trans A0;have l1:H.n+1<h.n:=jR A1;have E1:zM H.n H h:=E0.trans (he.mono (by omega));have hf:kU m id=none:=by rw[hf,Zh];rfl
  have hG:qN m id=Kk:=by unfold qN;rw[hf];rfl
  simp only[jN,seval,s1,s2,ga,hc,A1,l1,sD,Kw];rw[hG,hf];exact⟨E1.put _ (by omega),_,_,rfl,zJ.nil,zJ.nil⟩
 ·refine⟨zM.refl _ _,rfl,?_⟩;simp only[jN,seval];try((repeat' apply And.intro)<;>first|rfl|trivial)
theorem zM.step(he:zM H.n H h)(hk:zM h.n h h'):zM H.n H h':=he.trans (hk.mono he.1)
theorem Iz{m:zU}(id:Int)(hm:vG F H m vo vp vb)(hl:Sm 64 m.buckets)(hok:∀b∈m.buckets,Sm 8 b.items/\Sm 8 b.weights):
 vR 103 [vS m vo vp vb,.lit (.int .i64 id)] H fun r h'=>zM H.n H h'/\∃va vw,r= .tup [Xq (qN m id) va vw,.lit (.bool (kU m id).isSome)]/\zJ qB (fun b=>H.n<=b) h' va (qN m id).items/\zJ qB (fun b=>H.n<=b) h' vw (qN m id).weights:=by
 refine zW Tryz.func103 rfl rfl ?_
 unfold Sm at hl
 have s1:=hm.b.isSl
 have s2:=hm.b.lenD
 have o1:=hm.o.one
 have o2:=hm.p.one
 have o3:=hm.b.one
 simp only[jN,seval,Tryz.ntmps103,vS,s1,s2,o1,o2,o3]
 obtain⟨h2,hh2⟩:∃h2,h2=(H.push (.cells [.lit (.int .i64 m.epoch),vo,vp,vb,.lit (.int .i64 m.leaf)] 66)).push (.cells [.lit (.int .i64 0),.lit (.int .i64 0),.lit (.slice none 0 0),.lit (.slice none 0 0)] 122):=⟨_,rfl⟩
 have E0:zM H.n H h2:=hh2▸((zM.refl _ _).push _ (jM _)).push _ (by rw[zF];omega)
 have A0:=QJ hh2
 have n2:h2.n=H.n+2:=by rw[hh2,zF,zF]
 rw[<-hh2]
 clear hh2
 refine kO m.buckets.length (fun i t h=>zM h2.n h2 h/\kU m id=(m.buckets.drop i).find? (fun b=>b.id==id)/\t.n=30/\t.get 1= .lit (.int .i64 id)/\t.get 4= .ptr (H.n+1) 0/\t.get 9=vb/\t.get 10= .lit (.int .i64 m.buckets.length)/\t.get 11= .lit (.int .i64 i)) ?_ ?_ _ _ ?_
 ·rintro i t h hlt hc ⟨he,hf,ga⟩ ih;obtain⟨x,hx⟩:∃x,m.buckets[i]? =some x:=⟨_,jO hlt⟩;have E1:zM H.n H h:=E0.trans (he.mono (by omega));obtain⟨c,hc1,hld,hld0⟩:=hm.b.atE (T:=zH Tryz.prog kR) E1 Qa hx;obtain⟨va,vw,rfl,ha,hw,i1,i2⟩:=Jx.1 hc1;obtain⟨k1,k2⟩:=hok x (zR hx);unfold Sm at k1 k2;have a1:=ha.one;have w1:=hw.one;have a2:=ha.isSl;have w2:=hw.isSl;have hws:=xG hlt (by omega);rw[Va hx]at hf;have A1:h.at (H.n+1)=some (.cells [.lit (.int .i64 0),.lit (.int .i64 0),.lit (.slice none 0 0),.lit (.slice none 0 0)] 122):=(he.2 _ (by omega)).trans A0;have l1:H.n+1<h.n:=jR A1;simp only[jN,seval,s1,s2,ga,hlt,hc,hld0,hws,a1,w1];refine⟨fun hq=> ?_,fun hq=> ?_⟩
  ·rw[if_pos hq]at hf;have hG:qN m id=x:=by unfold qN;rw[hf];rfl
   obtain⟨hp,hhp⟩:∃hp,hp=h.push (.cells [.lit (.int .i64 x.id),.lit (.int .i64 x.kind),va,vw] 122):=⟨_,rfl⟩;have EP:=ZS hhp;have P0:hp.at h.n=some (.cells [.lit (.int .i64 x.id),.lit (.int .i64 x.kind),va,vw] 122):=hhp▸zI h _;have LP0:=xI P0;rw[<-hhp];rw[zL [0,1,3,4,2,6,5,7,8,9] 632895786129742360360258634752 (by kernel_rfl)];repeat ((with_reducible refine jX ?_;simp only[vO];try simp only[vP,seval]);simp only[jN,seval,zG,ga,LP0,a2,w2])
   have E2:=E1.step EP;refine(dO (ha.ext E2 (jM _)) (by omega)).mono ?_;rintro ra h3 ⟨e3,ra1,-⟩;have P3:=(e3.2 _ (jR P0)).trans P0;have LP3:=xI P3;have E3:=E2.step e3;repeat ((with_reducible refine jX ?_;simp only[vO];try simp only[vP,seval]);simp only[jN,seval,zG,ga,LP3,w2])
   refine(dO (hw.ext E3 (jM _)) (by omega)).mono ?_;rintro rw1 h4 ⟨e4,rw2,-⟩;have P4:=(e4.2 _ (jR P3)).trans P3;have E4:=E3.step e4;have l4:=jR P4;have o4:=ra1.one;have o5:=rw2.one;have lh:h.n<hp.n:=jR P0;have l3:hp.n<=h3.n:=e3.1;have A4:h4.at (H.n+1)=some (.cells [.lit (.int .i64 0),.lit (.int .i64 0),.lit (.slice none 0 0),.lit (.slice none 0 0)] 122):=((e4.2 _ (by omega)).trans ((e3.2 _ (by omega)).trans (EP.2 _ l1))).trans A1;have l6:H.n+1<h4.n:=jR A4;have hne:¬h.n=H.n+1:=by omega
   repeat ((with_reducible refine jX ?_;simp only[vO];try simp only[vP,seval]);simp only[jN,seval,zG,ga,P4,l4,o4,o5,A4,l6,hne])
   rw[hG,hf];have k0:=E1.1;refine⟨((E4.put _ (by omega)).put _ (by omega)).put _ (by omega),_,_,rfl,?_,?_⟩
   ·refine ra1.lift fun b hb hlt=>⟨?_,by omega⟩;rw[zE _ (by omega),zE _ (by omega),zE _ (by omega)];exact e4.2 b hlt
   ·refine rw2.lift fun b hb hlt=>⟨?_,by omega⟩;rw[zE _ (by omega),zE _ (by omega),zE _ (by omega)]
  ·rw[if_neg (by rw[hq];decide)]at hf;refine ih _ _ ⟨he.push _ he.1,hf,?_⟩;simp only[jN,seval,ga]
 ·rintro t h hc ⟨he,hf,ga⟩;have A1:h.at (H.n+1)=some (.cells [.lit (.int .i64 0),.lit (.int .i64 0),.lit (.slice none 0 0),.lit (.slice none 0 0)] 122):=(he.2 _ (by omega)).trans A0;have l1:H.n+1<h.n:=jR A1;have E1:zM H.n H h:=E0.trans (he.mono (by omega));have hf:kU m id=none:=by rw[hf,Zh];rfl
  have hG:qN m id=Kk:=by unfold qN;rw[hf];rfl
  simp only[jN,seval,s1,s2,ga,hc,A1,l1,sD,Kw];rw[hG,hf];exact⟨E1.put _ (by omega),_,_,rfl,zJ.nil,zJ.nil⟩
 ·refine⟨zM.refl _ _,rfl,?_⟩;simp only[jN,seval];try((repeat' apply And.intro)<;>first|rfl|trivial)
def yY(m:zU)(item:Int):Int:=if 0<=item then(if item<8 then 0 else -1)else if(kU m item).isSome then(qN m item).kind else -1
theorem tX(item:Int)(hm:vG F H m vo vp vb)(hl:Sm 64 m.buckets):
 vR 135 [vS m vo vp vb,.lit (.int .i64 item)] H fun r h'=>zM H.n H h'/\r= .lit (.int .i64 (yY m item)):=by
 refine zW Tryz.func135 rfl rfl ?_
 have o1:=hm.o.one
 have o2:=hm.p.one
 have o3:=hm.b.one
 simp only[jN,seval,Tryz.ntmps135,vS,o1,o2,o3]
 have EP:∀x,zM H.n H (H.push x):=fun x=>(zM.refl _ _).push _ (jM _)
 refine⟨fun hq=>⟨fun hq2=> ?_,fun hq2=> ?_⟩,fun hq=> ?_⟩
 ·refine⟨EP _,?_⟩;unfold yY;rw[if_pos (by simpa using hq),if_pos (by simpa using hq2)]
 ·refine⟨EP _,?_⟩;unfold yY;rw[if_pos (by simpa using hq),if_neg (by simpa using hq2)]
 ·have hq:¬0<=item:=by simpa using hq
  refine(Ev item (hm.ext (EP _) (jM _)) hl).mono ?_;rintro _ h1 ⟨e1,va,vw,rfl,b1,b2⟩;have o4:=b1.one;have o5:=b2.one;simp only[jN,seval,Xq,o4,o5];refine⟨fun hq2=> ?_,fun hq2=> ?_⟩
  ·refine⟨(zM.step (EP _) e1).push _ (by have:=e1.1;rw[zF]at this;omega),?_⟩;unfold yY;rw[if_neg hq,if_neg (by simp at hq2;simp[hq2])]
  ·refine⟨(zM.step (EP _) e1).push _ (by have:=e1.1;rw[zF]at this;omega),?_⟩;unfold yY;rw[if_neg hq,if_pos (by simpa using hq2)]
def fM(w:Int):Bool:=decide (0<=w)&&decide (w<=1048576)
def XV(m:zU)(i:Nat):List Int:=(m.buckets.take i).flatMap (·.items)
def Kx(m:zU)(its:List Int)(b:yL)(k:Nat):Bool:=decide (0<=yY m (b.items.getD k 0))&&decide (yY m (b.items.getD k 0)<b.kind)&& !((its++b.items.take k).contains (b.items.getD k 0))
def KM(m:zU)(i:Nat)(b:yL):Bool:= !((m.buckets.take i).any (fun c=>c.id==b.id))&&decide (b.id<0)&&decide (1<=b.kind)&&decide (b.kind<=3)&&(b.items.length==b.weights.length)
def OM(m:zU)(i:Nat)(b:yL):Bool:=KM m i b&&b.weights.all fM&&(List.range b.items.length).all (Kx m (XV m i) b)
def vX(m:zU):Bool:=decide (0<=m.leaf)&&decide (m.leaf<=3)&&(List.range m.buckets.length).all (fun i=>OM m i (m.buckets.getD i Kk))
theorem Xj{p:Nat->Bool}:(List.range (i+1)).all p=((List.range i).all p&&p i):=by rw[List.range_succ,En];simp
theorem Jq{p:Nat->Bool}(hi:i<n)(hp:p i=false):(List.range n).all p=false:=by rw[List.all_eq_false];exact⟨i,List.mem_range.2 hi,by simp[hp]⟩
theorem Vl{α:Type}{l:List α}{x d:α}(hx:l[i]? =some x):l.getD i d=x:=by rw[jU,hx];rfl
theorem WZ{x:yL}(hx:m.buckets[i]? =some x)(h:OM m i x=false):vX m=false:=by unfold vX;rw[Jq (i:=i) (List.getElem?_eq_some_iff.1 hx).1 (by simp only[Vl hx];exact h),Jl]
theorem BL{x:yL}(hx:m.buckets[i]? =some x):XV m (i+1)=XV m i++x.items:=by unfold XV;rw[qV,hx,Xu];simp
theorem Cj{α:Type}{p:α->Bool}{l:List α}{x:α}(hx:l[i]? =some x):(l.take (i+1)).any p=((l.take i).any p||p x):=by rw[qV,hx,List.any_append];simp
theorem Ag{α:Type}{p:α->Bool}{l:List α}{x:α}(hx:l[i]? =some x)(hp:p x=true):l.any p=true:=by rw[List.any_eq_true];exact⟨x,zR hx,hp⟩
theorem gP{α:Type}{p:α->Bool}{l:List α}{x:α}(hx:l[i]? =some x):(l.take (i+1)).all p=((l.take i).all p&&p x):=by rw[qV,hx,En];simp
theorem It{α:Type}{p:α->Bool}{l:List α}{x:α}(hx:l[i]? =some x)(hp:p x=false):l.all p=false:=by rw[List.all_eq_false];exact⟨x,zR hx,by simp[hp]⟩
theorem Ji{α:Type}{l:List α}(d:α)(hi:i<l.length):l[i]? =some (l.getD i d):=by rw[jU,jO hi];rfl
variable{l:List Int}
theorem Uz(hi:i<l.length):(l.take (i+1)).contains x=((l.take i).contains x||l.getD i 0==x):=by rw[qV,Ji 0 hi];simp only[j3L,List.contains_eq_any_beq,List.any_append,List.any_cons,List.any_nil,BX];rw[Bool.beq_comm]
theorem zJ.i64{xs:List Int}(hs:zJ qB F h v xs):∀(i:Nat),i<xs.length->Zq (xs.getD i 0):=fun i hi=>by obtain⟨L,h1,_,_,h3⟩:=hs.out;obtain⟨c,_,hc⟩:=h3.get (Ji 0 hi);exact hc.2
def OC(m:zU):Prop:=Sm 64 m.buckets/\(∀b∈m.buckets,Sm 8 b.items/\Sm 8 b.weights)/\True
theorem NZ:∀{l r:List Int},l.Nodup->(∀x∈l,x∈r)->l.length<=r.length
 |[],r,_,_=>vT _
 |a::l,r,hn,hs=>by rw[List.nodup_cons]at hn;have ha:a∈r:=hs a (by simp);have h1:=List.length_erase_of_mem ha;have h2:=List.length_pos_of_mem ha;have h3:=NZ (r:=r.erase a) hn.2 fun x hx=>(List.mem_erase_of_ne (by intro hh;subst hh;exact hn.1 hx)).2 (hs x (by simp[hx]));rw[xA];omega
def cR(m:zU)(l:List Int):Prop:=l.Nodup/\∀d∈l,0<=yY m d
theorem Lf{m:zU}{base:List Int}{b:yL}(hb:cR m base):∀k,k<=b.items.length->(List.range k).all (Kx m base b)=true->cR m (base++b.items.take k)
 |0,_,_=>by rw[qA,kH];exact hb
 |k+1,hk,h=>by
  rw[Xj,jW]at h;obtain⟨i1,i2⟩:=Lf hb k (by omega) h.1;have h2:=h.2;unfold Kx at h2;simp only[jW,decide_eq_true_eq,j5z]at h2;obtain⟨⟨h3,_⟩,h4⟩:=h2;rw[qV,Ji 0 (by omega),<-zP];refine⟨?_,fun d hd=> ?_⟩
  ·rw[List.nodup_append];refine⟨i1,by simp,fun a ha c hc hac=> ?_⟩;simp only[j3L,zX]at hc;subst hc;subst hac;rw[List.contains_iff_mem.2 ha]at h4;cases h4
  ·simp only[j3L,zN (t:=[_]),zX]at hd;rcases hd with hd|rfl
   ·exact i2 d hd
   ·exact h3
theorem SF{m:zU}:∀i,i<=m.buckets.length->(List.range i).all (fun i=>OM m i (m.buckets.getD i Kk))=true->cR m (XV m i)
 |0,_,_=>⟨List.nodup_nil,fun d hd=>by cases hd⟩
 |i+1,hi,h=>by rw[Xj,jW]at h;obtain⟨x,hx⟩:∃x,m.buckets[i]? =some x:=⟨_,jO (by omega)⟩;have h2:=h.2;rw[Vl hx]at h2;unfold OM at h2;rw[jW]at h2;have:=Lf (SF i (by omega) h.1) x.items.length (jM _) h2.2;rw[xC]at this;rw[BL hx];exact this
theorem j2a(h:cR m l):l.length<=8+m.buckets.length:=by
 have:=NZ (r:=[0,1,2,3,4,5,6,7]++m.buckets.map (·.id)) h.1 fun d hd=>by
  have h1:=h.2 d hd;unfold yY at h1;rw[zN];split at h1
  ·split at h1
   ·left;simp only[qL,Bp,or_false];omega
   ·omega
  ·split at h1
   ·rename_i hs;right;obtain⟨b,hb⟩:=Option.isSome_iff_exists.1 hs;have h2:=ZG hb;have h3:=List.find?_some hb;exact List.mem_map.2 ⟨b,h2,eq_of_beq h3⟩
   ·omega
 rw[jQ,yH]at this;exact this
theorem Pg(hm:vG F H m vo vp vb)(hok:OC m):
 vR 119 [vS m vo vp vb] H fun r h'=>zM H.n H h'/\r= .lit (.bool (vX m)):=by
 refine zW Tryz.func119 rfl rfl ?_
 obtain⟨hl,hbs,hit⟩:=hok
 have hl0:=hl
 unfold Sm at hl
 have s1:=hm.b.isSl
 have s2:=hm.b.lenD
 have o1:=hm.o.one
 have o2:=hm.p.one
 have o3:=hm.b.one
 have hcap:KN 4 vb:=by obtain⟨L,-,-,hc,-⟩:=hm.b.out;exact hc
 have EP:∀x,zM H.n H (H.push x):=fun x=>(zM.refl _ _).push _ (jM _)
 simp only[jN,seval,Tryz.ntmps119,vS,o1,o2,o3]
 by_cases hl1:m.leaf<0
 ·simp only[jN,seval,hl1];refine⟨EP _,?_⟩;unfold vX;rw[decide_eq_false (show ¬0<=m.leaf by omega)];rfl
 simp only[jN,seval,hl1]
 refine⟨fun hq=> ?_,fun hq=> ?_⟩
 ·refine⟨EP _,?_⟩;unfold vX;rw[decide_eq_false (show ¬m.leaf<=3 by simp at hq;omega),Jl];rfl
 have hl2:m.leaf<=3:=by simp at hq;omega
 have hg0:vX m=(List.range m.buckets.length).all (fun i=>OM m i (m.buckets.getD i Kk)):=by unfold vX;rw[decide_eq_true (show 0<=m.leaf by omega),decide_eq_true hl2];rfl
 simp only[jN,seval,s1,s2]
 obtain⟨h1,hh1⟩:∃h1,h1=H.push (.cells [.lit (.int .i64 m.epoch),vo,vp,vb,.lit (.int .i64 m.leaf)] 66):=⟨_,rfl⟩
 have E0:zM H.n H h1:=hh1▸EP _
 have A0:=QJ hh1
 have n1:h1.n=H.n+1:=by rw[hh1,zF]
 rw[<-hh1]
 clear hh1
 refine kO m.buckets.length (fun i t h=>∃o,qE qB (fun _=>False) h1.n h o 3 (XV m i)/\zM h1.n h1 h/\(List.range i).all (fun i=>OM m i (m.buckets.getD i Kk))=true/\t.n=116/\t.get 1= .ptr H.n 0/\t.get 3=o/\t.get 24=vb/\t.get 25= .lit (.int .i64 m.buckets.length)/\t.get 26= .lit (.int .i64 i)) ?_ ?_ _ _ ?_
 ·rintro i t h hlt hc ⟨o,ho,he,hall,ga⟩ ih;obtain⟨x,hx⟩:∃x,m.buckets[i]? =some x:=⟨_,jO hlt⟩;have E1:zM H.n H h:=E0.trans (he.mono (by omega));obtain⟨c,hc1,hld,hld0⟩:=hm.b.atE (T:=zH Tryz.prog kR) E1 Qa hx;obtain⟨va,vw,rfl,ha,hw,i1,i2⟩:=Jx.1 hc1;obtain⟨k1,k2⟩:=hbs x (zR hx);unfold Sm at k1 k2;have a1:=ha.one;have w1:=hw.one;have a2:=ha.isSl;have w2:=hw.isSl;have a3:=ha.lenD;have w3:=hw.lenD;have hws:=xG hlt (by omega);have A1:=(he.2 _ (by omega)).trans A0;have l1:H.n<h.n:=jR A1;have LA1:=xI A1;have hno:i<=m.buckets.length:=by omega
  have hno2:(i:Int)<=(m.buckets.length:Int):=by omega
  have hsub:zJ Vq F H (Gj 4 0 i vb) (m.buckets.take i):=by have:=hm.b.sub (l:=0) (r:=i) (by omega) hno;rw[xK]at this;exact this
  have s3:=hsub.isSl;have s4:lenD (Gj 4 0 i vb)=i:=by rw[hsub.lenD,zV];omega
  simp only[jN,seval,s1,s2,ga,hlt,hc,hld0,a1,w1,LA1,l1,hcap,hno2,s3,s4];obtain⟨hA,hhA⟩:∃hA,hA=h.push (.cells [.lit (.int .i64 x.id),.lit (.int .i64 x.kind),va,vw] 122):=⟨_,rfl⟩;have EA:=ZS hhA;have PA:hA.at h.n=some (.cells [.lit (.int .i64 x.id),.lit (.int .i64 x.kind),va,vw] 122):=hhA▸zI h _;rw[<-hhA];clear hhA;have hbk:OM m i x=(KM m i x&&x.weights.all fM&&(List.range x.items.length).all (Kx m (XV m i) x)):=rfl;have hbad:∀h',zM H.n H h'->OM m i x=false->zM H.n H h'/\AV.lit (.bool false)= .lit (.bool (vX m)):=fun h' e hf=>⟨e,by rw[WZ hx hf]⟩;refine kO i (fun j t h'=>zM hA.n hA h'/\(m.buckets.take j).any (fun c=>c.id==x.id)=false/\t.n=116/\t.get 1= .ptr H.n 0/\t.get 3=o/\t.get 5= .ptr h.n 0/\t.get 24=vb/\t.get 25= .lit (.int .i64 m.buckets.length)/\t.get 26= .lit (.int .i64 i)/\t.get 34=Gj 4 0 i vb/\t.get 35= .lit (.int .i64 i)/\t.get 36= .lit (.int .i64 j)) ?_ ?_ _ _ ?_
  ·rintro j t h' hj hc ⟨he2,hany,gb⟩ ih2;have hjl:j<m.buckets.length:=by omega
   obtain⟨y,hy⟩:∃y,m.buckets[j]? =some y:=⟨_,jO hjl⟩;have hy2:(m.buckets.take i)[j]? =some y:=by rw[qH,if_pos hj,hy]
   have E2:zM H.n H h':=(E1.step EA).step he2;obtain⟨c,hc1,hld,hld0⟩:=hsub.atE (T:=zH Tryz.prog kR) E2 Qa hy2;obtain⟨ya,yw,rfl,ya1,yw1,-,-⟩:=Jx.1 hc1;have y1:=ya1.one;have y2:=yw1.one;have hws:=xG hj (by omega);have P2:=(he2.2 _ (jR PA)).trans PA;have LP2:=xI P2;have l2:h.n<h'.n:=jR P2;simp only[jN,seval,s3,s4,gb,hj,hc,hld0,hws,y1,y2,LP2,l2];refine⟨fun hq=> ?_,fun hq=> ?_⟩
   ·refine hbad _ (E2.push _ E2.1) ?_;rw[hbk];unfold KM;rw[Ag hy2 hq];rfl
   ·refine ih2 _ _ ⟨he2.push _ he2.1,?_,?_⟩
    ·rw[Cj hy,hany];simpa using hq
    ·simp only[jN,seval,gb]
  ·rintro t h' hc ⟨he2,hany,gb⟩;have E2:zM H.n H h':=(E1.step EA).step he2;have P2:=(he2.2 _ (jR PA)).trans PA;have LP2:=xI P2;have l2:h.n<h'.n:=jR P2;by_cases c1:0<=x.id
   ·simp only[jN,seval,s3,s4,gb,hc,LP2,c1];refine hbad _ E2 ?_;rw[hbk];unfold KM;rw[decide_eq_false (show ¬x.id<0 by omega)];simp
   by_cases c2:x.kind<1
   ·simp only[jN,seval,s3,s4,gb,hc,LP2,c1,c2];refine hbad _ E2 ?_;rw[hbk];unfold KM;rw[decide_eq_false (show ¬1<=x.kind by omega)];simp
   by_cases c3:3<x.kind
   ·simp only[jN,seval,s3,s4,gb,hc,LP2,c1,c2,c3];refine hbad _ E2 ?_;rw[hbk];unfold KM;rw[decide_eq_false (show ¬x.kind<=3 by omega)];simp
   simp only[jN,seval,s3,s4,gb,hc,LP2,c1,c2,c3,a2,w2,a3,w3];refine⟨fun hq=> ?_,fun hq=> ?_⟩
   ·refine hbad _ E2 ?_;rw[hbk];unfold KM;have:¬x.items.length=x.weights.length:=by simp at hq;omega
    simp[this]
   have hlen:x.items.length=x.weights.length:=by simp at hq;omega
   have hhd:KM m i x=true:=by unfold KM;rw[hany,decide_eq_true (show x.id<0 by omega),decide_eq_true (show 1<=x.kind by omega),decide_eq_true (show x.kind<=3 by omega)];simp[hlen]
   rw[hhd,ZU]at hbk;refine kO x.weights.length (fun j t h''=>h''=h'/\(x.weights.take j).all fM=true/\t.n=116/\t.get 1= .ptr H.n 0/\t.get 3=o/\t.get 5= .ptr h.n 0/\t.get 24=vb/\t.get 25= .lit (.int .i64 m.buckets.length)/\t.get 26= .lit (.int .i64 i)/\t.get 69=vw/\t.get 70= .lit (.int .i64 x.weights.length)/\t.get 71= .lit (.int .i64 j)) ?_ ?_ _ _ ?_
   ·rintro j t h'' hj hc ⟨rfl,hwall,gc⟩ ih3;have hldw:=(hw.ext E2 (jM _)).int (T:=zH Tryz.prog kR) (e:=3) (by kernel_rfl) (by kernel_rfl) hj;have hws:=xG hj (by omega);have hjx:=Ji 0 hj;by_cases d1:x.weights.getD j 0<0
    ·simp only[jN,seval,gc,hc,hj,hldw,w2,w3,d1];refine hbad _ E2 ?_;rw[hbk,It hjx (by unfold fM;rw[decide_eq_false (by omega)];rfl)];rfl
    ·simp only[jN,seval,gc,hc,hj,hldw,w2,w3,d1];refine⟨fun hq=> ?_,fun hq=> ?_⟩
     ·refine hbad _ E2 ?_;rw[hbk,It hjx (by unfold fM;rw[decide_eq_false (show ¬x.weights.getD j 0<=1048576 by have:=of_decide_eq_true hq;omega),Jl])];rfl
     ·simp only[hws];refine ih3 _ _ ⟨rfl,?_,?_⟩
      ·rw[gP hjx,hwall];unfold fM;rw[decide_eq_true (show 0<=x.weights.getD j 0 by omega),decide_eq_true (show x.weights.getD j 0<=1048576 by have:=of_decide_eq_false hq;omega)];rfl
      ·simp only[jN,seval,gc]
   ·rintro t h'' hc ⟨rfl,hwall,gc⟩;rw[xC]at hwall;rw[hwall,ZU]at hbk;simp only[jN,seval,gc,hc,LP2,a2,a3];refine kO x.items.length (fun k t h3=>∃o',qE qB (fun _=>False) h1.n h3 o' 3 (XV m i++x.items.take k)/\zM h1.n h1 h3/\qR o' h.n/\h3.at h.n=some (.cells [.lit (.int .i64 x.id),.lit (.int .i64 x.kind),va,vw] 122)/\(List.range k).all (Kx m (XV m i) x)=true/\t.n=116/\t.get 1= .ptr H.n 0/\t.get 3=o'/\t.get 5= .ptr h.n 0/\t.get 24=vb/\t.get 25= .lit (.int .i64 m.buckets.length)/\t.get 26= .lit (.int .i64 i)/\t.get 83=va/\t.get 84= .lit (.int .i64 x.items.length)/\t.get 85= .lit (.int .i64 k)) ?_ ?_ _ _ ?_
    ·rintro k t h3 hk hc ⟨o',ho',he3,hap,P3,hkall,gd⟩ ih4;have E3:zM H.n H h3:=E0.trans (he3.mono (by omega));have hlda:=(ha.ext E3 (jM _)).int (T:=zH Tryz.prog kR) (e:=3) (by kernel_rfl) (by kernel_rfl) hk;have A3:=(he3.2 _ (by omega)).trans A0;have LA3:=xI A3;have hws:=xG hk (by omega);simp only[jN,seval,gd,hc,hk,hlda,a2,a3,LA3];refine(tX (x.items.getD k 0) (hm.ext E3 (jM _)) hl0).mono ?_;rintro _ h4 ⟨e4,rfl⟩;have he4:zM h1.n h1 h4:=zM.step he3 e4;have E4:zM H.n H h4:=E3.step e4;have ho4:=ho'.ext e4 (jM _);have P4:=(e4.2 _ (jR P3)).trans P3;have l4:h.n<h4.n:=jR P4;have LP4:=xI P4;by_cases d1:yY m (x.items.getD k 0)<0
     ·simp only[jN,seval,gd,d1];refine hbad _ E4 ?_;rw[hbk,Jq hk (by unfold Kx;rw[decide_eq_false (show ¬0<=yY m (x.items.getD k 0)by omega)];rfl)]
     simp only[jN,seval,gd,d1,LP4];refine⟨fun hq=> ?_,fun hq=> ?_⟩
     ·refine hbad _ E4 ?_;rw[hbk,Jq hk (by unfold Kx;rw[decide_eq_false (show ¬yY m (x.items.getD k 0)<x.kind by have:=of_decide_eq_true hq;omega),Jl];rfl)]
     have d2:yY m (x.items.getD k 0)<x.kind:=by have:=of_decide_eq_false hq;omega
     have v4:=ho4.toSl (F:=fun _=>True) (fun _ _=>trivial) (fun _ _=>trivial);have b2:=v4.isSl;have b3:=v4.lenD;have hlen4:(XV m i++x.items.take k).length<=8+m.buckets.length:=j2a (Lf (SF i (by omega) hall) k (by omega) hkall);simp only[jN,seval,gd,b2,b3];refine kO (XV m i++x.items.take k).length (fun j t h5=>h5=h4/\((XV m i++x.items.take k).take j).contains (x.items.getD k 0)=false/\t.n=116/\t.get 1= .ptr H.n 0/\t.get 3=o'/\t.get 5= .ptr h.n 0/\t.get 11= .lit (.int .i64 (x.items.getD k 0))/\t.get 24=vb/\t.get 25= .lit (.int .i64 m.buckets.length)/\t.get 26= .lit (.int .i64 i)/\t.get 83=va/\t.get 84= .lit (.int .i64 x.items.length)/\t.get 85= .lit (.int .i64 k)/\t.get 100=o'/\t.get 101= .lit (.int .i64 (XV m i++x.items.take k).length)/\t.get 102= .lit (.int .i64 j)) ?_ ?_ _ _ ?_
     ·rintro j t h5 hj hc ⟨rfl,hcon,ge⟩ ih5;have hld5:=v4.int (T:=zH Tryz.prog kR) (e:=3) (by kernel_rfl) (by kernel_rfl) hj;have hws:=xG hj (by omega);simp only[jN,seval,ge,hc,hj,hld5,b2,b3,hws];refine⟨fun hq=> ?_,fun hq=> ?_⟩
      ·refine hbad _ E4 ?_;rw[hbk,Jq hk ?_];unfold Kx;have:(XV m i++x.items.take k).contains (x.items.getD k 0)=true:=by rw[JP,<-eq_of_beq hq];exact zR (Ji 0 hj)
       rw[this];simp
      ·refine ih5 _ _ ⟨rfl,?_,?_⟩
       ·rw[Uz hj,hcon,hq];rfl
       ·simp only[jN,seval,ge]
     ·rintro t h5 hc ⟨rfl,hcon,ge⟩;rw[xC]at hcon;simp only[jN,seval,ge,hc];obtain⟨h6,hh6⟩:∃h6,h6=h5.push (.cells [.lit (.int .i64 (x.items.getD k 0))] 3):=⟨_,rfl⟩;have e6:=ZS hh6;have A6:h6.at h5.n=some (.cells [.lit (.int .i64 (x.items.getD k 0))] 3):=hh6▸zI h5 _;have n6:=jR A6;rw[<-hh6];have ho6:=ho4.ext e6 (jM _);refine qM (ho6.snoc (by kernel_rfl) (by kernel_rfl) (by kernel_rfl) (zv:= .lit (.int .i64 0)) (by kernel_rfl) (by':=8) (by kernel_rfl) rfl (by decide) (by decide) A6 (y:=x.items.getD k 0) ⟨rfl,ha.i64 k hk⟩ (by omega) (by omega) (by omega)) ?_;rintro s' h7 ⟨o7,e7,k7⟩;obtain⟨k8,k9⟩:=k7 h.n (by omega) hap;simp only[jN,seval,ge,hws];refine ih4 _ _ ⟨s',?_,(he4.step e6).trans e7,k9,k8.trans ((e6.2 _ (by omega)).trans P4),?_,?_⟩
      ·rw[qV,Ji 0 hk];simpa using o7
      ·rw[Xj,hkall];unfold Kx;rw[decide_eq_true (show 0<=yY m (x.items.getD k 0)by omega),decide_eq_true d2,hcon];rfl
      ·simp only[jN,seval,ge]
     ·refine⟨rfl,?_⟩;simp only[jN,seval,gd];try((repeat' apply And.intro)<;>first|rfl|trivial)
    ·rintro t h3 hc ⟨o',ho',he3,hap,P3,hkall,gd⟩;rw[xC]at ho';simp only[jN,seval,gd,hc,hws];refine ih _ _ ⟨o',?_,he3,?_,?_⟩
     ·rw[BL hx];exact ho'
     ·rw[Xj,hall,Vl hx,hbk,hkall];rfl
     ·simp only[jN,seval,gd]
    ·refine⟨o,?_,?_,?_,P2,rfl,?_⟩
     ·rw[qA,kH];exact((ho.ext EA (jM _)).ext he2 (jM _))
     ·exact(he.step EA).step he2
     ·exact ho.apart (jM _)
     ·simp only[jN,seval,gc];try((repeat' apply And.intro)<;>first|rfl|trivial)
   ·simp only[jN,seval,gb];try((repeat' apply And.intro)<;>first|rfl|trivial)
  ·refine⟨zM.refl _ _,rfl,?_⟩;simp only[jN,seval,ga];try((repeat' apply And.intro)<;>first|rfl|trivial)
 ·rintro t h hc ⟨o,ho,he,hall,ga⟩;simp only[jN,seval,s1,s2,ga,hc];exact⟨E0.trans (he.mono (by omega)),by rw[hg0,hall]⟩
 ·refine⟨_,qE.nil,zM.refl _ _,rfl,?_⟩;simp only[jN,seval];try((repeat' apply And.intro)<;>first|rfl|trivial)
def yW:xD:=⟨0,0,0,0⟩
def Zz(p:xD):AV:= .agg [.lit (.int .i64 p.id),.lit (.int .i64 p.size),.lit (.int .i64 p.min),.lit (.int .i64 p.pgs)]
def JG(m:zU)(id:Int):Option xD:=m.pools.find? (fun b=>b.id==id)
def vV(m:zU)(id:Int):xD:=(JG m id).getD yW
theorem HL(id:Int)(hm:vG F H m vo vp vb)(hl:Sm 32 m.pools):
 vR 45 [vS m vo vp vb,.lit (.int .i64 id)] H fun r h'=>zM H.n H h'/\r= .tup [Zz (vV m id),.lit (.bool (JG m id).isSome)]:=by
 refine zW Tryz.func45 rfl rfl ?_
 unfold Sm at hl
 have s1:=hm.p.isSl
 have s2:=hm.p.lenD
 have o1:=hm.o.one
 have o2:=hm.p.one
 have o3:=hm.b.one
 simp only[jN,seval,Tryz.ntmps45,vS,s1,s2,o1,o2,o3]
 obtain⟨h2,hh2⟩:∃h2,h2=(H.push (.cells [.lit (.int .i64 m.epoch),vo,vp,vb,.lit (.int .i64 m.leaf)] 66)).push (.cells [.lit (.int .i64 0),.lit (.int .i64 0),.lit (.int .i64 0),.lit (.int .i64 0)] 108):=⟨_,rfl⟩
 have E0:zM H.n H h2:=hh2▸((zM.refl _ _).push _ (jM _)).push _ (by rw[zF];omega)
 have A0:h2.at (H.n+1)=some (.cells [.lit (.int .i64 0),.lit (.int .i64 0),.lit (.int .i64 0),.lit (.int .i64 0)] 108):=hh2▸zI _ _
 have n2:h2.n=H.n+2:=by rw[hh2,zF,zF]
 rw[<-hh2]
 clear hh2
 refine kO m.pools.length (fun i t h=>zM h2.n h2 h/\JG m id=(m.pools.drop i).find? (fun b=>b.id==id)/\t.n=22/\t.get 1= .lit (.int .i64 id)/\t.get 4= .ptr (H.n+1) 0/\t.get 9=vp/\t.get 10= .lit (.int .i64 m.pools.length)/\t.get 11= .lit (.int .i64 i)) ?_ ?_ _ _ ?_
 ·rintro i t h hlt hc ⟨he,hf,ga⟩ ih;obtain⟨x,hx⟩:∃x,m.pools[i]? =some x:=⟨_,jO hlt⟩;have E1:zM H.n H h:=E0.trans (he.mono (by omega));obtain⟨c,hc1,hld,hld0⟩:=hm.p.atE (T:=zH Tryz.prog kR) E1 YY hx;obtain⟨rfl,-⟩:=Jc.1 hc1;have hws:=xG hlt (by omega);rw[Va hx]at hf;have A1:=(he.2 _ (by omega)).trans A0;have l1:H.n+1<h.n:=jR A1;simp only[jN,seval,s1,s2,ga,hlt,hc,hld0,hws];refine⟨fun hq=> ?_,fun hq=> ?_⟩
  ·rw[if_pos hq]at hf;have hG:vV m id=x:=by unfold vV;rw[hf];rfl
   simp only[jN,seval,ga,A1,l1];refine⟨(E1.put _ (by omega)).push _ (by rw[kZ];omega),?_⟩;rw[hG,hf];rfl
  ·rw[if_neg (by rw[hq];decide)]at hf;refine ih _ _ ⟨he.push _ he.1,hf,?_⟩;simp only[jN,seval,ga]
 ·rintro t h hc ⟨he,hf,ga⟩;have A1:=(he.2 _ (by omega)).trans A0;have l1:H.n+1<h.n:=jR A1;have E1:zM H.n H h:=E0.trans (he.mono (by omega));have hf:JG m id=none:=by rw[hf,Zh];rfl
  have hG:vV m id=yW:=by unfold vV;rw[hf];rfl
  simp only[jN,seval,s1,s2,ga,hc,A1,l1,sD,Kw];rw[hG,hf];exact⟨E1.put _ (by omega),rfl⟩
 ·refine⟨zM.refl _ _,rfl,?_⟩;simp only[jN,seval];try((repeat' apply And.intro)<;>first|rfl|trivial)
theorem bE(id:Int)(hm:vG F H m vo vp vb)(hl:Sm 32 m.pools):
 vR 34 [vS m vo vp vb,.lit (.int .i64 id)] H fun r h'=>zM H.n H h'/\r= .tup [Zz (vV m id),.lit (.bool (JG m id).isSome)]:=by
 refine zW Tryz.func34 rfl rfl ?_
 unfold Sm at hl
 have s1:=hm.p.isSl
 have s2:=hm.p.lenD
 have o1:=hm.o.one
 have o2:=hm.p.one
 have o3:=hm.b.one
 simp only[jN,seval,Tryz.ntmps34,vS,s1,s2,o1,o2,o3]
 obtain⟨h2,hh2⟩:∃h2,h2=(H.push (.cells [.lit (.int .i64 m.epoch),vo,vp,vb,.lit (.int .i64 m.leaf)] 66)).push (.cells [.lit (.int .i64 0),.lit (.int .i64 0),.lit (.int .i64 0),.lit (.int .i64 0)] 108):=⟨_,rfl⟩
 have E0:zM H.n H h2:=hh2▸((zM.refl _ _).push _ (jM _)).push _ (by rw[zF];omega)
 have A0:h2.at (H.n+1)=some (.cells [.lit (.int .i64 0),.lit (.int .i64 0),.lit (.int .i64 0),.lit (.int .i64 0)] 108):=hh2▸zI _ _
 have B0:h2.at H.n=some (.cells [.lit (.int .i64 m.epoch),vo,vp,vb,.lit (.int .i64 m.leaf)] 66):=hh2▸(xE _ (by rw[zF];omega)).trans (zI _ _)
 have n2:h2.n=H.n+2:=by rw[hh2,zF,zF]
 rw[<-hh2]
 clear hh2
 refine kO m.pools.length (fun i t h=>zM h2.n h2 h/\JG m id=(m.pools.drop i).find? (fun b=>b.id==id)/\t.n=28/\t.get 1= .lit (.int .i64 id)/\t.get 2= .ptr H.n 0/\t.get 4= .ptr (H.n+1) 0/\t.get 9= .lit (.int .i64 m.pools.length)/\t.get 10= .lit (.int .i64 i)) ?_ ?_ _ _ ?_
 ·rintro i t h hlt hc ⟨he,hf,ga⟩ ih;obtain⟨x,hx⟩:∃x,m.pools[i]? =some x:=⟨_,jO hlt⟩;have E1:zM H.n H h:=E0.trans (he.mono (by omega));obtain⟨c,hc1,hld,hld0⟩:=hm.p.atE (T:=zH Tryz.prog kR) E1 YY hx;obtain⟨rfl,-⟩:=Jc.1 hc1;have hws:=xG hlt (by omega);rw[Va hx]at hf;have A1:=(he.2 _ (by omega)).trans A0;have l1:H.n+1<h.n:=jR A1;have B1:=(he.2 _ (by omega)).trans B0;have LB1:=xI B1;simp only[jN,seval,s1,s2,ga,hlt,hc,hld0,hws,LB1];refine⟨fun hq=> ?_,fun hq=> ?_⟩
  ·rw[if_pos hq]at hf;have hG:vV m id=x:=by unfold vV;rw[hf];rfl
   simp only[jN,seval,ga,A1,l1];refine⟨E1.put _ (by omega),?_⟩;rw[hG,hf];rfl
  ·rw[if_neg (by rw[hq];decide)]at hf;refine ih _ _ ⟨he,hf,?_⟩;simp only[jN,seval,ga]
 ·rintro t h hc ⟨he,hf,ga⟩;have A1:=(he.2 _ (by omega)).trans A0;have l1:H.n+1<h.n:=jR A1;have E1:zM H.n H h:=E0.trans (he.mono (by omega));have hf:JG m id=none:=by rw[hf,Zh];rfl
  have hG:vV m id=yW:=by unfold vV;rw[hf];rfl
  simp only[jN,seval,ga,hc,A1,l1,sD,Kw];rw[hG,hf];exact⟨E1.put _ (by omega),rfl⟩
 ·refine⟨zM.refl _ _,rfl,?_⟩;simp only[jN,seval];try((repeat' apply And.intro)<;>first|rfl|trivial)
def dD(o:Xa):Bool:=o.ex&&o.up&&decide (0<o.weight)
def Cg(m:zU)(osd:Int):Bool:=if 0<=osd then(match m.osds[osd.toNat]? with|some o=>dD o|none=>false)else false
theorem j45(osd:Int)(hm:vG F H m vo vp vb)(hl:Sm 40 m.osds):
 vR 112 [vS m vo vp vb,.lit (.int .i64 osd)] H fun r h'=>zM H.n H h'/\r= .lit (.bool (Cg m osd)):=by
 refine zW Tryz.func112 rfl rfl ?_
 unfold Sm at hl
 have s1:=hm.o.isSl
 have s2:=hm.o.lenD
 have o1:=hm.o.one
 have o2:=hm.p.one
 have o3:=hm.b.one
 have EP:∀x,zM H.n H (H.push x):=fun x=>(zM.refl _ _).push _ (jM _)
 by_cases h0:osd<0
 ·simp only[jN,seval,Tryz.ntmps112,vS,o1,o2,o3,s1,h0];refine⟨EP _,?_⟩;unfold Cg;rw[if_neg (by omega)]
 obtain⟨k,rfl⟩:∃k:Nat,osd=(k:Int):=⟨osd.toNat,by omega⟩
 simp only[jN,seval,Tryz.ntmps112,vS,o1,o2,o3,s1,s2,h0]
 refine⟨fun hq=> ?_,fun hq=> ?_⟩
 ·refine⟨EP _,?_⟩;have:m.osds[k]? =none:=qY (by have:=of_decide_eq_true hq;omega);unfold Cg;rw[if_pos (by omega),vD,this]
 have hk:k<m.osds.length:=by have:=of_decide_eq_false hq;omega
 obtain⟨o,ho⟩:∃o,m.osds[k]? =some o:=⟨_,jO hk⟩
 have hres:Cg m (k:Int)=dD o:=by unfold Cg;rw[if_pos (by omega),vD,ho]
 obtain⟨c,hc1,hld,hld0⟩:=hm.o.atE (T:=zH Tryz.prog kR) (EP (.cells [.lit (.int .i64 m.epoch),vo,vp,vb,.lit (.int .i64 m.leaf)] 66)) Bs ho
 obtain⟨rfl,-⟩:=Qn.1 hc1
 have EA:∀y,zM H.n H ((H.push (.cells [.lit (.int .i64 m.epoch),vo,vp,vb,.lit (.int .i64 m.leaf)] 66)).push y):=fun y=>(EP _).push _ (by rw[zF];omega)
 unfold dD at hres
 cases hex:o.ex with
 |false=>
  simp only[jN,seval,hk,hld0,hex];exact⟨EA _,by rw[hres,hex];rfl⟩
 |true=>
 cases hup:o.up with
 |false=>
  simp only[jN,seval,hk,hld0,hex,hup];exact⟨EA _,by rw[hres,hex,hup];rfl⟩
 |true=>
  simp only[jN,seval,hk,hld0,hex,hup];exact⟨EA _,by rw[hres,hex,hup];rfl⟩
theorem Jz(b:Bool):(sW b).length=1:=rfl
def QQ(p:xD):List UInt8:=JI .i64 p.id 8++(JI .i64 p.size 8++(JI .i64 p.min 8++JI .i64 p.pgs 8))
theorem FL(p:xD):(QQ p).length=32:=by unfold QQ;simp only[jQ,zZ]
def KD(o:Xa):AV:= .agg [.lit (.bool o.ex),.lit (.bool o.up),.lit (.int .i64 o.weight),.lit (.int .i64 o.boot),.lit (.int .i64 o.upFrom),.lit (.int .i64 o.upThru)]
def KZ(o:Xa):List UInt8:=sW o.ex++(sW o.up++(JI .i64 o.weight 8++(JI .i64 o.boot 8++(JI .i64 o.upFrom 8++JI .i64 o.upThru 8))))
theorem IK(p:Xa):(KZ p).length=34:=by unfold KZ;simp only[jQ,zZ,Jz]
theorem mS(p:xD)(ho:Jo n0 H v xs)(hn0:n0<=H.n)(hl:xs.length+32<=140737488355328):
 vR 53 [v,Zz p] H fun r h'=>Fr H v h' r/\Jo n0 h' r (xs++QQ p):=by
 refine zW Tryz.func53 rfl rfl ?_
 simp only[jN,seval,Tryz.ntmps53,Zz]
 obtain⟨h0,hh0,E0,A0⟩:=xX H (.cells [.lit (.int .i64 p.id),.lit (.int .i64 p.size),.lit (.int .i64 p.min),.lit (.int .i64 p.pgs)] 108)
 rw[<-hh0]
 clear hh0
 have n1:=E0.1
 have ap0:qR v H.n:=ho.apart (.inr (jM _))
 have F0:Fr H v h0 v:=Fr.ext E0
 have o0:=ho.ext E0 (jM _)
 refine(Ja (p.id) o0 (by have:=F0.1;omega) (by omega)).mono ?_
 rintro r1 h1 ⟨f1,o1⟩
 obtain⟨A1,ap1⟩:=f1.box A0 ap0
 have F1:=F0.trans f1
 have L1:=xI A1
 have l1:=jR A1
 simp only[jN,seval,L1]
 refine(Ja (p.size) o1 (by have:=F1.1;omega) (by simp only[jQ,zZ];omega)).mono ?_
 rintro r2 h2 ⟨f2,o2⟩
 obtain⟨A2,ap2⟩:=f2.box A1 ap1
 have F2:=F1.trans f2
 have L2:=xI A2
 have l2:=jR A2
 simp only[jN,seval,L2]
 refine(Ja (p.min) o2 (by have:=F2.1;omega) (by simp only[jQ,zZ];omega)).mono ?_
 rintro r3 h3 ⟨f3,o3⟩
 obtain⟨A3,ap3⟩:=f3.box A2 ap2
 have F3:=F2.trans f3
 have L3:=xI A3
 have l3:=jR A3
 simp only[jN,seval,L3]
 refine(Ja (p.pgs) o3 (by have:=F3.1;omega) (by simp only[jQ,zZ];omega)).mono ?_
 rintro r4 h4 ⟨f4,o4⟩
 obtain⟨A4,ap4⟩:=f4.box A3 ap3
 have F4:=F3.trans f4
 simp only[jN,seval]
 exact⟨F4,by unfold QQ;simpa only[zP]using o4⟩
theorem wT(o:Xa)(ho:Jo n0 H v xs)(hn0:n0<=H.n)(hl:xs.length+34<=140737488355328):
 vR 52 [v,KD o] H fun r h'=>Fr H v h' r/\Jo n0 h' r (xs++KZ o):=by
 refine zW Tryz.func52 rfl rfl ?_
 simp only[jN,seval,Tryz.ntmps52,KD]
 obtain⟨h0,hh0,E0,A0⟩:=xX H (.cells [.lit (.bool o.ex),.lit (.bool o.up),.lit (.int .i64 o.weight),.lit (.int .i64 o.boot),.lit (.int .i64 o.upFrom),.lit (.int .i64 o.upThru)] 136)
 rw[<-hh0]
 clear hh0
 have n1:=E0.1
 have ap0:qR v H.n:=ho.apart (.inr (jM _))
 have F0:Fr H v h0 v:=Fr.ext E0
 have o0:=ho.ext E0 (jM _)
 refine(OP (o.ex) o0 (by have:=F0.1;omega) (by omega)).mono ?_
 rintro r1 h1 ⟨f1,o1⟩
 obtain⟨A1,ap1⟩:=f1.box A0 ap0
 have F1:=F0.trans f1
 have L1:=xI A1
 have l1:=jR A1
 simp only[jN,seval,L1]
 refine(OP (o.up) o1 (by have:=F1.1;omega) (by simp only[jQ,Jz];omega)).mono ?_
 rintro r2 h2 ⟨f2,o2⟩
 obtain⟨A2,ap2⟩:=f2.box A1 ap1
 have F2:=F1.trans f2
 have L2:=xI A2
 have l2:=jR A2
 simp only[jN,seval,L2]
 refine(Ja (o.weight) o2 (by have:=F2.1;omega) (by simp only[jQ,Jz];omega)).mono ?_
 rintro r3 h3 ⟨f3,o3⟩
 obtain⟨A3,ap3⟩:=f3.box A2 ap2
 have F3:=F2.trans f3
 have L3:=xI A3
 have l3:=jR A3
 simp only[jN,seval,L3]
 refine(Ja (o.boot) o3 (by have:=F3.1;omega) (by simp only[jQ,zZ,Jz];omega)).mono ?_
 rintro r4 h4 ⟨f4,o4⟩
 obtain⟨A4,ap4⟩:=f4.box A3 ap3
 have F4:=F3.trans f4
 have L4:=xI A4
 have l4:=jR A4
 simp only[jN,seval,L4]
 refine(Ja (o.upFrom) o4 (by have:=F4.1;omega) (by simp only[jQ,zZ,Jz];omega)).mono ?_
 rintro r5 h5 ⟨f5,o5⟩
 obtain⟨A5,ap5⟩:=f5.box A4 ap4
 have F5:=F4.trans f5
 have L5:=xI A5
 have l5:=jR A5
 simp only[jN,seval,L5]
 refine(Ja (o.upThru) o5 (by have:=F5.1;omega) (by simp only[jQ,zZ,Jz];omega)).mono ?_
 rintro r6 h6 ⟨f6,o6⟩
 obtain⟨A6,ap6⟩:=f6.box A5 ap5
 have F6:=F5.trans f6
 simp only[jN,seval]
 exact⟨F6,by unfold KZ;simpa only[zP]using o6⟩
def Sa(n:Nat):List UInt8:=JI .u32 (IntKind.u32.wrap n) 4
theorem Sb(n:Nat):(Sa n).length=4:=zZ _ _ _
def IJ(l:List Int):List UInt8:=l.flatMap fun x=>JI .i64 x 8
theorem UV:∀l:List Int,(IJ l).length=8 * l.length
 |[]=>rfl
 |x::l=>by have:=UV l;unfold IJ at this ⊢;rw[QH,jQ,zZ,this,xA];omega
theorem Yh{α β:Type}(f:α->List β){l:List α}{x:α}(hx:l[i]? =some x):(l.take (i+1)).flatMap f=(l.take i).flatMap f++f x:=by rw[qV,hx,Xu];simp
def UA(b:yL):List UInt8:=JI .i64 b.id 8++(JI .i64 b.kind 8++(Sa b.items.length++(IJ b.items++(Sa b.weights.length++IJ b.weights))))
theorem II(b:yL):(UA b).length=24+8 * b.items.length+8 * b.weights.length:=by unfold UA;simp only[jQ,zZ,Sb,UV];omega
variable{va:AV}
theorem Tn(b:yL)(ha:zJ qB F H va b.items)(hw:zJ qB F H vw b.weights)(hF:∀k,F k->k<n0)(ho:Jo n0 H v xs)(hn0:n0<=H.n)
 (la:Sm 8 b.items) (lw:Sm 8 b.weights) (hl:xs.length+(24+8 * b.items.length+8 * b.weights.length)<=140737488355328):
 vR 54 [v,Xq b va vw] H fun r h'=>Fr H v h' r/\Jo n0 h' r (xs++UA b):=by
 refine zW Tryz.func54 rfl rfl ?_
 unfold Sm at la lw
 have a1:=ha.isSl
 have a2:=ha.lenD
 have a3:=ha.one
 have w1:=hw.isSl
 have w2:=hw.lenD
 have w3:=hw.one
 simp only[jN,seval,Tryz.ntmps54,Xq,a3,w3]
 obtain⟨h0,hh0,E0,A0⟩:=xX H (.cells [.lit (.int .i64 b.id),.lit (.int .i64 b.kind),va,vw] 122)
 rw[<-hh0]
 clear hh0
 have n1:=E0.1
 have ap0:qR v H.n:=ho.apart (.inr (jM _))
 have apF:∀k,F k->qR v k:=fun k hk=>Jo.apart ho (.inl (hF k hk))
 have o0:=ho.ext E0 (jM _)
 have ha0:=ha.ext E0 (jM _)
 have hw0:=hw.ext E0 (jM _)
 have F0:Fr h0 v h0 v:=Fr.refl
 refine(Ja b.id o0 (by omega) (by omega)).mono ?_
 rintro r1 h1 ⟨f1,o1⟩
 have F1:=F0.trans f1
 obtain⟨A1,ap1⟩:=F1.box A0 ap0
 have L1:=xI A1
 have l1:=jR A1
 simp only[jN,seval,L1]
 refine(Ja b.kind o1 (by have:=F1.1;omega) (by simp only[jQ,zZ];omega)).mono ?_
 rintro r2 h2 ⟨f2,o2⟩
 have F2:=F1.trans f2
 obtain⟨A2,ap2⟩:=F2.box A0 ap0
 have L2:=xI A2
 have l2:=jR A2
 simp only[jN,seval,L2,a1,a2]
 refine(QK (b.items.length:Int) o2 (by have:=F2.1;omega) (by simp only[jQ,zZ];omega)).mono ?_
 rintro r3 h3 ⟨f3,o3⟩
 have F3:=F2.trans f3
 obtain⟨A3,ap3⟩:=F3.box A0 ap0
 have L3:=xI A3
 simp only[jN,seval,L3,a1,a2]
 obtain⟨p3,hp3⟩:∃p3,p3=((xs++JI .i64 b.id 8)++JI .i64 b.kind 8)++JI .u32 (IntKind.u32.wrap (b.items.length:Int)) 4:=⟨_,rfl⟩
 have q3:p3.length=xs.length+20:=by rw[hp3];simp only[jQ,zZ]
 rw[<-hp3]at o3
 refine kO b.items.length (fun i t h=>(∃s,Jo n0 h s (p3++IJ (b.items.take i))/\Fr h0 v h s/\t.get 0=s)/\t.n=50/\t.get 3= .ptr H.n 0/\t.get 23=va/\t.get 24= .lit (.int .i64 b.items.length)/\t.get 25= .lit (.int .i64 i)) ?_ ?_ _ _ ?_
 ·rintro i t h hlt hc ⟨⟨s,ho,fr,g0⟩,ga⟩ ih;have hws:=xG hlt (by omega);have hi:=ha0.lift (G:=F) fun k hk hkn=>⟨(fr.2 k hkn (apF k hk)).1,hk⟩;have hld:=hi.int (T:=zH Tryz.prog kR) (e:=3) (by kernel_rfl) (by kernel_rfl) hlt;simp only[jN,seval,ga,g0,hc,hlt,hld,a1,a2];refine(Ja (b.items.getD i 0) ho (by have:=fr.1;omega) (by simp only[jQ,q3,UV,zV];omega)).mono ?_;rintro r h' ⟨f,o⟩;simp only[jN,seval,ga,hws];have hx:b.items[i]? =some (b.items.getD i 0):=by rw[jU,jO hlt];rfl
  refine ih _ _ ⟨⟨r,by unfold IJ at o ⊢;rw[Yh _ hx,<-zP];exact o,fr.trans f,by simp only[jN,seval,ga]⟩,?_⟩;simp only[jN,seval,ga]
 ·rintro t h hc ⟨⟨s,o4,F4,g0⟩,ga⟩;rw[xC]at o4;obtain⟨A4,ap4⟩:=F4.box A0 ap0;have L4:=xI A4;have l4:=jR A4;simp only[jN,seval,ga,g0,hc,L4,w1,w2];refine(QK (b.weights.length:Int) o4 (by have:=F4.1;omega) (by simp only[jQ,q3,UV];omega)).mono ?_;rintro r5 h5 ⟨f5,o5⟩;have F5:=F4.trans f5;obtain⟨A5,ap5⟩:=F5.box A0 ap0;have L5:=xI A5;simp only[jN,seval,ga,L5,w1,w2];obtain⟨p5,hp5⟩:∃p5,p5=(p3++IJ b.items)++JI .u32 (IntKind.u32.wrap (b.weights.length:Int)) 4:=⟨_,rfl⟩;have q5:p5.length=xs.length+24+8 * b.items.length:=by rw[hp5];simp only[jQ,zZ,q3,UV];omega
  rw[<-hp5]at o5;refine kO b.weights.length (fun i t h=>(∃s,Jo n0 h s (p5++IJ (b.weights.take i))/\Fr h0 v h s/\t.get 0=s)/\t.n=50/\t.get 39=vw/\t.get 40= .lit (.int .i64 b.weights.length)/\t.get 41= .lit (.int .i64 i)) ?_ ?_ _ _ ?_
  ·rintro i t h hlt hc ⟨⟨s,ho,fr,g0⟩,gb⟩ ih;have hws:=xG hlt (by omega);have hi:=hw0.lift (G:=F) fun k hk hkn=>⟨(fr.2 k hkn (apF k hk)).1,hk⟩;have hld:=hi.int (T:=zH Tryz.prog kR) (e:=3) (by kernel_rfl) (by kernel_rfl) hlt;simp only[jN,seval,gb,g0,hc,hlt,hld,w1,w2];refine(Ja (b.weights.getD i 0) ho (by have:=fr.1;omega) (by simp only[jQ,q5,UV,zV];omega)).mono ?_;rintro r h' ⟨f,o⟩;simp only[jN,seval,gb,hws];have hx:b.weights[i]? =some (b.weights.getD i 0):=by rw[jU,jO hlt];rfl
   refine ih _ _ ⟨⟨r,by unfold IJ at o ⊢;rw[Yh _ hx,<-zP];exact o,fr.trans f,by simp only[jN,seval,gb]⟩,?_⟩;simp only[jN,seval,gb]
  ·rintro t h hc ⟨⟨s,o6,F6,g0⟩,gb⟩;rw[xC]at o6;simp only[jN,seval,gb,g0,hc,w1,w2];refine⟨(Fr.ext E0).trans F6,?_⟩;rw[hp5,hp3]at o6;unfold UA Sa;simpa only[zP]using o6
  ·refine⟨⟨r5,by rw[show IJ (b.weights.take 0)=[]from rfl,kH];exact o5,F5,by simp only[jN,seval,ga]⟩,?_⟩;simp only[jN,seval,ga];try((repeat' apply And.intro)<;>first|rfl|trivial)
 ·refine⟨⟨r3,by rw[show IJ (b.items.take 0)=[]from rfl,kH];exact o3,F3,by simp only[jN,seval]⟩,?_⟩;simp only[jN,seval];try((repeat' apply And.intro)<;>first|rfl|trivial)
theorem Pc{α β:Type}(f:α->List β){l:List α}{x:α}(hx:l[i]? =some x):((l.take i).flatMap f).length+(f x).length<=(l.flatMap f).length:=by
 have h1:l.flatMap f=((l.take i).flatMap f++f x)++(l.drop (i+1)).flatMap f:=by rw[<-Yh f hx,<-Xu,yE]
 rw[h1,jQ,jQ];omega
def GD(m:zU):List UInt8:=JI .i64 m.epoch 8++(Sa m.osds.length++(m.osds.flatMap KZ++(Sa m.pools.length++(m.pools.flatMap QQ++(Sa m.buckets.length++(m.buckets.flatMap UA++JI .i64 m.leaf 8))))))
theorem BD(m:zU):(GD m).length=28+(m.osds.flatMap KZ).length+(m.pools.flatMap QQ).length+(m.buckets.flatMap UA).length:=by unfold GD;simp only[jQ,zZ,Sb];omega
theorem wR(m:zU)(hm:vG F H m vo vp vb)(hF:∀k,F k->k<n0)(ho:Jo n0 H v xs)(hn0:n0<=H.n)(so:Sm 40 m.osds)(sp:Sm 32 m.pools)(sb:Sm 64 m.buckets)(hsz:∀b∈m.buckets,Sm 8 b.items/\Sm 8 b.weights)(hl:xs.length+(GD m).length<=140737488355328):
 vR 31 [v,vS m vo vp vb] H fun r h'=>Fr H v h' r/\Jo n0 h' r (xs++GD m):=by
 refine zW Tryz.func31 rfl rfl ?_
 have s1:=(ho.toSl (F:=fun _=>True) (fun _ h=>h.elim) (fun _ _=>trivial)).isSl
 have e1:=hm.o.isSl
 have e2:=hm.o.lenD
 have e3:=hm.o.one
 have e4:=hm.p.isSl
 have e5:=hm.p.lenD
 have e6:=hm.p.one
 have e7:=hm.b.isSl
 have e8:=hm.b.lenD
 have e9:=hm.b.one
 unfold Sm at so sp sb
 rw[BD]at hl
 simp only[jN,seval,Tryz.ntmps31,vS,e3,e6,e9]
 obtain⟨h0,hh0,E0,A0⟩:=xX H (.cells [.lit (.int .i64 m.epoch),vo,vp,vb,.lit (.int .i64 m.leaf)] 66)
 rw[<-hh0]
 clear hh0
 have n1:=E0.1
 have ap0:qR v H.n:=ho.apart (.inr (jM _))
 have apF:∀k,F k->qR v k:=fun k hk=>Jo.apart ho (.inl (hF k hk))
 have o0:=ho.ext E0 (jM _)
 have F0:Fr h0 v h0 v:=Fr.refl
 have ho0:=hm.o.ext E0 (jM _)
 have hp0:=hm.p.ext E0 (jM _)
 have hb0:=hm.b.ext E0 (jM _)
 refine(Ja m.epoch o0 (by have:=F0.1;omega) (by(try simp only[jQ,zZ]);omega)).mono ?_
 rintro r1 h1 ⟨f1,o1⟩
 have F1:=F0.trans f1
 obtain⟨A1,ap1⟩:=F1.box A0 ap0
 have L1:=xI A1
 have l1:=jR A1
 simp only[jN,seval,L1,e1,e2]
 refine(QK (m.osds.length:Int) o1 (by have:=F1.1;omega) (by(try simp only[jQ,zZ]);omega)).mono ?_
 rintro r2 h2 ⟨f2,o2⟩
 have F2:=F1.trans f2
 obtain⟨A2,ap2⟩:=F2.box A0 ap0
 have L2:=xI A2
 simp only[jN,seval,L2,e1,e2]
 obtain⟨p3,hp3⟩:∃p,p=(xs++JI .i64 m.epoch 8)++JI .u32 (IntKind.u32.wrap (m.osds.length:Int)) 4:=⟨_,rfl⟩
 have q3:p3.length=xs.length+12:=by rw[hp3];simp only[jQ,zZ];try omega
 rw[<-hp3]at o2
 refine kO m.osds.length (fun i t h=>(∃s,Jo n0 h s (p3++(m.osds.take i).flatMap KZ)/\Fr h0 v h s/\t.get 0=s)/\t.n=68/\t.get 3= .ptr H.n 0/\t.get 21=vo/\t.get 22= .lit (.int .i64 m.osds.length)/\t.get 23= .lit (.int .i64 i)) ?_ ?_ _ _ ?_
 ·rintro i t h hlt hc ⟨⟨s,ho,fr,g0⟩,ga⟩ ih;have hws:=xG hlt (by omega);obtain⟨x,hx⟩:∃x,m.osds[i]? =some x:=⟨_,jO hlt⟩;have hi:=ho0.lift (G:=F) fun k hk hkn=>⟨(fr.2 k hkn (apF k hk)).1,hk⟩;obtain⟨c,hc1,hld,hld0⟩:=hi.at (T:=zH Tryz.prog kR) Bs hx;obtain⟨rfl,-⟩:=Qn.1 hc1;have hfl:=Pc KZ hx;simp only[jN,seval,ga,g0,hc,hlt,hld0,e1,e2];obtain⟨h2,hh2⟩:∃h2,h2=h.push (.cells [.lit (.bool x.ex),.lit (.bool x.up),.lit (.int .i64 x.weight),.lit (.int .i64 x.boot),.lit (.int .i64 x.upFrom),.lit (.int .i64 x.upThru)] 136):=⟨_,rfl⟩;have E2:=ZS hh2;rw[<-hh2];clear hh2;have hn2:=E2.1;have hn3:=fr.1;refine(wT x (ho.ext E2 (jM _)) (by omega) (by simp only[jQ,q3,IK]at hfl ⊢;omega)).mono ?_;rintro r h' ⟨f,o⟩;simp only[jN,seval,ga,hws];refine ih _ _ ⟨⟨r,by rw[Yh _ hx,<-zP];exact o,(fr.trans (Fr.ext E2)).trans f,by simp only[jN,seval,ga]⟩,?_⟩;simp only[jN,seval,ga]
 ·rintro t h4 hc ⟨⟨r4,o4,F4,g0⟩,ga⟩;rw[xC]at o4;obtain⟨A4,ap4⟩:=F4.box A0 ap0;have L4:=xI A4;have l4:=jR A4;simp only[jN,seval,ga,g0,hc,L4,e1,e2,e4,e5];refine(QK (m.pools.length:Int) o4 (by have:=F4.1;omega) (by(try simp only[jQ,q3]);omega)).mono ?_;rintro r5 h5 ⟨f5,o5⟩;have F5:=F4.trans f5;obtain⟨A5,ap5⟩:=F5.box A0 ap0;have L5:=xI A5;simp only[jN,seval,ga,L5,e4,e5];obtain⟨p6,hp6⟩:∃p,p=(p3++m.osds.flatMap KZ)++JI .u32 (IntKind.u32.wrap (m.pools.length:Int)) 4:=⟨_,rfl⟩;have q6:p6.length=xs.length+16+(m.osds.flatMap KZ).length:=by rw[hp6];simp only[jQ,zZ,q3];try omega
  rw[<-hp6]at o5;refine kO m.pools.length (fun i t h=>(∃s,Jo n0 h s (p6++(m.pools.take i).flatMap QQ)/\Fr h0 v h s/\t.get 0=s)/\t.n=68/\t.get 3= .ptr H.n 0/\t.get 37=vp/\t.get 38= .lit (.int .i64 m.pools.length)/\t.get 39= .lit (.int .i64 i)) ?_ ?_ _ _ ?_
  ·rintro i t h hlt hc ⟨⟨s,ho,fr,g0⟩,gb⟩ ih;have hws:=xG hlt (by omega);obtain⟨x,hx⟩:∃x,m.pools[i]? =some x:=⟨_,jO hlt⟩;have hi:=hp0.lift (G:=F) fun k hk hkn=>⟨(fr.2 k hkn (apF k hk)).1,hk⟩;obtain⟨c,hc1,hld,hld0⟩:=hi.at (T:=zH Tryz.prog kR) YY hx;obtain⟨rfl,-⟩:=Jc.1 hc1;have hfl:=Pc QQ hx;simp only[jN,seval,gb,g0,hc,hlt,hld0,e4,e5];obtain⟨h2,hh2⟩:∃h2,h2=h.push (.cells [.lit (.int .i64 x.id),.lit (.int .i64 x.size),.lit (.int .i64 x.min),.lit (.int .i64 x.pgs)] 108):=⟨_,rfl⟩;have E2:=ZS hh2;rw[<-hh2];clear hh2;have hn2:=E2.1;have hn3:=fr.1;refine(mS x (ho.ext E2 (jM _)) (by omega) (by simp only[jQ,q6,FL]at hfl ⊢;omega)).mono ?_;rintro r h' ⟨f,o⟩;simp only[jN,seval,gb,hws];refine ih _ _ ⟨⟨r,by rw[Yh _ hx,<-zP];exact o,(fr.trans (Fr.ext E2)).trans f,by simp only[jN,seval,gb]⟩,?_⟩;simp only[jN,seval,gb]
  ·rintro t h7 hc ⟨⟨r7,o7,F7,g0⟩,gb⟩;rw[xC]at o7;obtain⟨A7,ap7⟩:=F7.box A0 ap0;have L7:=xI A7;have l7:=jR A7;simp only[jN,seval,gb,g0,hc,L7,e4,e5,e7,e8];refine(QK (m.buckets.length:Int) o7 (by have:=F7.1;omega) (by(try simp only[jQ,q6]);omega)).mono ?_;rintro r8 h8 ⟨f8,o8⟩;have F8:=F7.trans f8;obtain⟨A8,ap8⟩:=F8.box A0 ap0;have L8:=xI A8;simp only[jN,seval,gb,L8,e7,e8];obtain⟨p9,hp9⟩:∃p,p=(p6++m.pools.flatMap QQ)++JI .u32 (IntKind.u32.wrap (m.buckets.length:Int)) 4:=⟨_,rfl⟩;have q9:p9.length=xs.length+20+(m.osds.flatMap KZ).length+(m.pools.flatMap QQ).length:=by rw[hp9];simp only[jQ,zZ,q6];try omega
   rw[<-hp9]at o8;refine kO m.buckets.length (fun i t h=>(∃s,Jo n0 h s (p9++(m.buckets.take i).flatMap UA)/\Fr h0 v h s/\t.get 0=s)/\t.n=68/\t.get 3= .ptr H.n 0/\t.get 53=vb/\t.get 54= .lit (.int .i64 m.buckets.length)/\t.get 55= .lit (.int .i64 i)) ?_ ?_ _ _ ?_
   ·rintro i t h hlt hc ⟨⟨s,ho,fr,g0⟩,gc⟩ ih;have hws:=xG hlt (by omega);obtain⟨x,hx⟩:∃x,m.buckets[i]? =some x:=⟨_,jO hlt⟩;have hi:=hb0.lift (G:=F) fun k hk hkn=>⟨(fr.2 k hkn (apF k hk)).1,hk⟩;obtain⟨c,hc1,hld,hld0⟩:=hi.at (T:=zH Tryz.prog kR) Qa hx;obtain⟨va,vw,rfl,ha,hw,-,-⟩:=Jx.1 hc1;have a1:=ha.one;have w1:=hw.one;obtain⟨la,lw⟩:=hsz x (zR hx);have hfl:=Pc UA hx;simp only[jN,seval,gc,g0,hc,hlt,a1,w1,hld0,e7,e8];obtain⟨h2,hh2⟩:∃h2,h2=h.push (.cells [.lit (.int .i64 x.id),.lit (.int .i64 x.kind),va,vw] 122):=⟨_,rfl⟩;have E2:=ZS hh2;rw[<-hh2];clear hh2;have hn2:=E2.1;have hn3:=fr.1;refine(Tn x (ha.ext E2 (jM _)) (hw.ext E2 (jM _)) hF (ho.ext E2 (jM _)) (by omega) la lw (by simp only[jQ,q9,II]at hfl ⊢;omega)).mono ?_;rintro r h' ⟨f,o⟩;simp only[jN,seval,gc,hws];refine ih _ _ ⟨⟨r,by rw[Yh _ hx,<-zP];exact o,(fr.trans (Fr.ext E2)).trans f,by simp only[jN,seval,gc]⟩,?_⟩;simp only[jN,seval,gc]
   ·rintro t h10 hc ⟨⟨r10,o10,F10,g0⟩,gc⟩;rw[xC]at o10;obtain⟨A10,ap10⟩:=F10.box A0 ap0;have L10:=xI A10;have l10:=jR A10;simp only[jN,seval,gc,g0,hc,L10,e7,e8];refine(Ja m.leaf o10 (by have:=F10.1;omega) (by(try simp only[jQ,q9]);omega)).mono ?_;rintro r11 h11 ⟨f11,o11⟩;have F11:=F10.trans f11;obtain⟨A11,ap11⟩:=F11.box A0 ap0;have L11:=xI A11;have l11:=jR A11;have v11:=(o11.toSl (F:=fun _=>True) (fun _ h=>h.elim) (fun _ _=>trivial)).isSl;simp only[jN,seval,gc];refine⟨(Fr.ext E0).trans F11,?_⟩;rw[hp9,hp6,hp3]at o11;unfold GD;simp only[Sa];simpa only[zP]using o11
   ·refine⟨⟨r8,by rw[show(m.buckets.take 0).flatMap UA=[]from rfl,kH];exact o8,F8,by simp only[jN,seval,gb]⟩,?_⟩;simp only[jN,seval,gb];try((repeat' apply And.intro)<;>first|rfl|trivial)
  ·refine⟨⟨r5,by rw[show(m.pools.take 0).flatMap QQ=[]from rfl,kH];exact o5,F5,by simp only[jN,seval,ga]⟩,?_⟩;simp only[jN,seval,ga];try((repeat' apply And.intro)<;>first|rfl|trivial)
 ·refine⟨⟨r2,by rw[show(m.osds.take 0).flatMap KZ=[]from rfl,kH];exact o2,F2,by simp only[jN,seval,]⟩,?_⟩;simp only[jN,seval,];try((repeat' apply And.intro)<;>first|rfl|trivial)
structure Yn where
 kind:Int
 osd:Int
 value:Int
 pool:xD
 bucket:yL
 deriving DecidableEq
structure Xt where
 epoch:Int
 changes:List Yn
def pJ:Zl Yn:=Us (fun x=>(x.kind,x.osd,x.value,x.pool,x.bucket)) (kM qB (kM qB (kM qB (kM XR Vq))))
def Kj:Zl Xt:=Us (fun x=>(x.epoch,x.changes)) (kM qB (Eg pJ))
theorem j3c:pJ.z=11:=rfl
theorem pK{c:List AV}{x:Yn}:pJ.is F h c x↔∃va vw,c=[.lit (.int .i64 x.kind),.lit (.int .i64 x.osd),.lit (.int .i64 x.value),.lit (.int .i64 x.pool.id),.lit (.int .i64 x.pool.size),.lit (.int .i64 x.pool.min),.lit (.int .i64 x.pool.pgs),.lit (.int .i64 x.bucket.id),.lit (.int .i64 x.bucket.kind),va,vw]/\zJ qB F h va x.bucket.items/\zJ qB F h vw x.bucket.weights/\(Zq x.kind/\Zq x.osd/\Zq x.value)/\(Zq x.pool.id/\Zq x.pool.size/\Zq x.pool.min/\Zq x.pool.pgs)/\Zq x.bucket.id/\Zq x.bucket.kind:=by
 constructor
 ·rintro⟨_,_,rfl,⟨rfl,h1⟩,_,_,rfl,⟨rfl,h2⟩,_,_,rfl,⟨rfl,h3⟩,_,_,rfl,h4,h5⟩;obtain⟨rfl,k4⟩:=Jc.1 h4;obtain⟨va,vw,rfl,ha,hw,h6⟩:=Jx.1 h5;exact⟨va,vw,rfl,ha,hw,⟨h1,h2,h3⟩,k4,h6⟩
 ·rintro⟨va,vw,rfl,ha,hw,⟨h1,h2,h3⟩,h4,h6⟩;exact⟨_,_,rfl,⟨rfl,h1⟩,_,_,rfl,⟨rfl,h2⟩,_,_,rfl,⟨rfl,h3⟩,_,_,rfl,Jc.2 ⟨rfl,h4⟩,Jx.2 ⟨va,vw,rfl,ha,hw,h6⟩⟩
def Eh(c:Yn)(va vw:AV):AV:= .agg [.lit (.int .i64 c.kind),.lit (.int .i64 c.osd),.lit (.int .i64 c.value),.lit (.int .i64 c.pool.id),.lit (.int .i64 c.pool.size),.lit (.int .i64 c.pool.min),.lit (.int .i64 c.pool.pgs),.lit (.int .i64 c.bucket.id),.lit (.int .i64 c.bucket.kind),va,vw]
def Sz(x:Xt)(vc:AV):AV:= .agg [.lit (.int .i64 x.epoch),vc]
section
section
variable {P:Program} {T:TT} {t:TM} {h:AH} {d:Option Tmp} {ty:TypeId} {ps:String} {af:Array Edge} {g:Option (Nat×Bool)}
def j3k(P:Program)(T:TT)(o:Oper)(t:TM)(h:AH)(src dst:TypeId)(x:Operand):AR:=JS P T o t h src dst x
def j1G(h:AH)(r:AR):AV->AR
 | .sl b off len _=>match JY h b off len with
   |some bs=>some (.val (.lit (.string ⟨bs.toArray⟩)),h)
   |none=>r
 |_=>r
theorem Am{r:AR}{b off len:Nat}{cap:Cap}:j1G h r (.sl b off len cap)=match JY h b off len with
 |some bs=>some (.val (.lit (.string ⟨bs.toArray⟩)),h)
 |none=>r:=rfl
theorem Bv{i:Nat}:AO Tryz.prog (zH Tryz.prog kR) ⟨d,.convert 37 9 (.tmp i),ty,ps,af,g⟩ t h 37 9 (.tmp i)=j1G h (j3k Tryz.prog (zH Tryz.prog kR) ⟨d,.convert 37 9 (.tmp i),ty,ps,af,g⟩ t h 37 9 (.tmp i)) (t.get i):=by
 unfold j1G;split
 ·rename_i b off len cap hv;split
  ·rename_i bs hbs;have hu1:und (zH Tryz.prog kR) 37=some (.slice 5):=by kernel_rfl
   have hu2:und (zH Tryz.prog kR) 9=some .string:=by kernel_rfl
   have hu3:und (zH Tryz.prog kR) 5=some (.int .u8):=by kernel_rfl
   have hl:yU Tryz.prog ⟨d,.convert 37 9 (.tmp i),ty,ps,af,g⟩ t=none:=by unfold yU;rw[if_neg];simp[Op.operands,JK,kX,hv,ZT]
   unfold AO JS;rw[kX,hv];unfold yR;rw[hl];simp only[Yq,hu1,hu2,hu3,hbs,qD,val]
  ·rfl
 ·rfl
end
def bL(xs:List UInt8):List AV:=xs.map fun n=> .lit (.int .u8 n.toNat)
theorem Aj:∀xs:List UInt8,VJ (bL xs)=some xs
 |[]=>rfl
 |x::xs=>by
  have hlt:Nat.blt x.toNat 256=true:=by rw[Nat.blt_eq];exact UInt8.toNat_lt x
  show(bif Nat.blt x.toNat 256 then(VJ (bL xs)).map (UInt8.ofNat x.toNat:: ·)else none)=_;rw[hlt,Aj xs];simp
theorem qE.bytes{G:Nat->Prop}{n0:Nat}{h:AH}{e:TypeId}(ho:qE xZ G n0 h v e xs)(hne:xs≠[]):
 ∃p,v= .sl p 0 xs.length (.un 1)/\n0<=p/\h.at p=some (.cells (bL xs) e)/\JY h p 0 xs.length=some xs:=by
 obtain⟨L,h1,h2⟩:=ho
 have hL:L.flatten=bL xs:=by
  obtain⟨e1,e2⟩:=h2;have key:∀(L:List (List AV)) (xs:List UInt8),L.length=xs.length->(∀(i:Nat) c x,L[i]? =some c->xs[i]? =some x->xZ.is (fun b=>G b/\qR v b) h c x)->L.flatten=bL xs:=by
   intro L;induction L with
   |nil=>intro xs hl _;cases xs with|nil=>rfl|cons=>cases hl
   |cons a r ih=>
    intro xs hl hh
    cases xs with
    |nil=>cases hl
    |cons x xs=>
     have i1:=ih xs (by simpa using hl) (fun i c y a b=>hh (i+1) c y (by simpa using a) (by simpa using b));obtain rfl:=hh 0 a x rfl rfl;rw[vE,i1];rfl
  exact key L xs e1 e2
 have e0:=h2.1
 rcases h1.2 with⟨rfl,rfl⟩|⟨p,rfl,hp,hat⟩
 ·exact absurd (zO (by rw[<-e0];rfl)) hne
 ·refine⟨p,by rw[e0];rfl,hp,by rw[hat,hL],?_⟩;unfold JY Zj;rw[hat,hL];show(match cut (bL xs) 0 xs.length with|some cs=>VJ cs|none=>none)=_;unfold cut;rw[if_pos (by unfold bL;simp)];show VJ (((bL xs).drop 0).take xs.length)=_;rw[xK,xP (by unfold bL;simp),Aj]
end
theorem uJ(m:zU)(hm:vG F H m vo vp vb)(hF:∀k,F k->k<H.n)
 (so:Sm 40 m.osds) (sp:Sm 32 m.pools) (sb:Sm 64 m.buckets) (hsz:∀b∈m.buckets,Sm 8 b.items/\Sm 8 b.weights) (hl:(GD m).length<=140737488355328):
 vR 10 [vS m vo vp vb] H fun r h'=>zM H.n H h'/\Jo H.n h' r (GD m):=by
 refine zW Tryz.func10 rfl rfl ?_
 have o1:=hm.o.one
 have o2:=hm.p.one
 have o3:=hm.b.one
 simp only[jN,seval,Tryz.ntmps10,vS,o1,o2,o3]
 obtain⟨h0,hh0⟩:∃h0,h0=H.push (.cells [.lit (.int .i64 m.epoch),vo,vp,vb,.lit (.int .i64 m.leaf)] 66):=⟨_,rfl⟩
 have E0:=ZS hh0
 rw[<-hh0]
 clear hh0
 have n1:=E0.1
 have on:Jo H.n h0 (.lit (.slice none 0 0)) []:=qE.nil
 refine(wR m (hm.ext E0 (jM _)) hF on n1 so sp sb hsz (by simpa using hl)).mono ?_
 rintro r h1 ⟨f,o⟩
 simp only[jN,seval]
 exact⟨E0.trans (f.toExt on n1),by simpa using o⟩
variable{xs:List Int}{d:AV}
section
def Rl{α:Type}(R:Zl α):Prop:=∀(F G:Nat->Prop) (h h':AH) (c:List AV) (x:α),R.is F h c x->R.is G h' c x
theorem DI:Rl qB:=fun F G h h' c x hh=>hh
theorem Sq:Rl Dt:=fun F G h h' c x hh=>Qn.2 (Qn.1 hh)
theorem NJ:Rl XR:=fun F G h h' c x hh=>Jc.2 (Jc.1 hh)
section
variable {α:Type} {R:Zl α}
def yX(R:Zl α)(n0:Nat)(h:AH)(d:AV)(e:TypeId)(xs:List α):Prop:=qE R (fun _=>False) n0 h d e xs\/(xs=[]/\∃p,n0<=p/\d= .sl p 0 0 (.kn 0)/\h.at p=some (.cells [] e))
theorem yX.ext{m:Nat}{xs:List α}(hd:yX R n0 h d e xs)(he:zM m h h')(hm:h.n<=m):yX R n0 h' d e xs:=by
 rcases hd with ho|⟨rfl,p,hp,rfl,hat⟩
 ·exact .inl (ho.ext he hm)
 ·exact .inr ⟨rfl,p,hp,rfl,(he.2 _ (by have:=jR hat;omega)).trans hat⟩
theorem yX.toSl{xs:List α}(hd:yX R n0 h d e xs)(h1:∀b,n0<=b->F b):zJ R F h d xs:=by
 rcases hd with ho|⟨rfl,p,hp0,rfl,hp⟩
 ·exact ho.toSl (fun _ hf=>hf.elim) h1
 ·exact .mk (L:=[]) ⟨by simp,.inr ⟨p,0,_,[],rfl,by unfold Zj;rw[hp],by simp[cut]⟩⟩ (fun b off n cap e=>by cases e;exact h1 _ hp0) (fun b off n cap e=>by cases e;exact jM 0) .nil
theorem yX.apart{xs:List α}(hd:yX R n0 h d e xs)(hb:h.n<=b):qR d b:=by
 rcases hd with ho|⟨rfl,p,hp,rfl,hat⟩
 ·exact ho.apart hb
 ·have:=jR hat;exact fun off n cap e=>by cases e;omega
theorem yX.mono{n1:Nat}{xs:List α}(hd:yX R n0 h d e xs)(hn:n1<=n0):yX R n1 h d e xs:=by
 rcases hd with⟨L,h1,h2⟩|⟨rfl,p,hp,rfl,hat⟩
 ·refine .inl ⟨L,⟨h1.1,?_⟩,h2⟩;rcases h1.2 with hh|⟨p,rfl,hp,hat⟩
  ·exact .inl hh
  ·exact .inr ⟨p,rfl,by omega,hat⟩
 ·exact .inr ⟨rfl,p,by omega,rfl,hat⟩
theorem Ya{zv:AV}{t:TypeId}{by':Nat}{xs:List α}(hR:Rl R)(hu:und T t=some (.slice e))(hz:vQ T e=some R.z)(hzv:Jm T e=some zv)(hb:VK T e=some by')
 (hzl:zv.cells.length=R.z) (h0:0<R.z) (h200:R.z<=200) (hv:zJ R F H v xs) (hn:xs.length<=4611686018427387904) (hl:xs.length * by'<=140737488355328) (hp:H.at p=some (.cells [] e)) (hp0:n0<=p) (hn0:n0<=H.n):
 ∃s' h',vZ T H t t (.sl p 0 0 (.kn 0)) v=some (s',h')/\yX R n0 h' s' e xs/\zM H.n H h':=by
 obtain⟨L,h1,h2,h3,h4⟩:=hv.out
 have e0:=h4.1
 rcases VZ (T:=T) (h:=H) (t:=t) (tx:=t) (e:=e) (M:=L) (p:=p) (x:=v) hu hu hz hzv hb hzl h0 h200 hp h1.src h1.len h4.lens h4.ones (by omega) (by rw[e0];exact hl)with⟨hM,ha⟩|⟨hM,ha⟩
 ·subst hM;obtain rfl:xs=[]:=zO (by rw[<-e0];rfl);exact⟨_,_,ha,.inr ⟨rfl,p,hp0,rfl,hp⟩,zM.refl _ _⟩
 ·refine⟨_,_,ha,.inl ⟨L,⟨h4.lens,.inr ⟨H.n,?_,hn0,zI _ _⟩⟩,⟨e0,fun i c x a b=>hR _ _ _ _ _ _ (h4.2 i c x a b)⟩⟩,(zM.refl _ _).push _ (jM _)⟩;rfl
end
theorem RU(hv:zJ qB F H v xs)(hl:Sm 8 xs):
 vR 72 [v] H fun r h'=>zM H.n H h'/\yX qB H.n h' r 3 xs:=by
 refine zW Tryz.func72 rfl rfl ?_
 unfold Sm at hl
 have s1:=hv.isSl
 have s2:=hv.lenD
 simp only[jN,seval,Tryz.ntmps72,s1]
 refine⟨fun he=> ?_,fun he=> ?_⟩
 ·obtain rfl:=hv.empty he;exact⟨zM.refl _ _,.inl qE.nil⟩
 ·have hv2:zJ qB F (H.push (.cells [] 3)) v xs:=hv.ext ((zM.refl H.n H).push _ (jM _)) (jM _);refine qM (Ya (n0:=H.n) DI (by kernel_rfl) (by kernel_rfl) (zv:= .lit (.int .i64 0)) (by kernel_rfl) (by':=8) (by kernel_rfl) rfl (by decide) (by decide) hv2 (by omega) (by omega) (zI H _) (jM _) (by rw[zF];omega)) ?_;rintro s' h' ⟨e1,e2⟩;simp only[jN,seval];exact⟨((zM.refl H.n H).push _ (jM _)).trans (e2.mono (by rw[zF];omega)),e1⟩
theorem sI{xs:List Xa}(hv:zJ Dt F H v xs)(hl:Sm 40 xs):
 vR 55 [v] H fun r h'=>zM H.n H h'/\yX Dt H.n h' r 136 xs:=by
 refine zW Tryz.func55 rfl rfl ?_
 unfold Sm at hl
 have s1:=hv.isSl
 have s2:=hv.lenD
 simp only[jN,seval,Tryz.ntmps55,s1]
 refine⟨fun he=> ?_,fun he=> ?_⟩
 ·obtain rfl:=hv.empty he;exact⟨zM.refl _ _,.inl qE.nil⟩
 ·have hv2:zJ Dt F (H.push (.cells [] 136)) v xs:=hv.ext ((zM.refl H.n H).push _ (jM _)) (jM _);refine qM (Ya (n0:=H.n) Sq (by kernel_rfl) (by kernel_rfl) (zv:= .agg [.lit (.bool false),.lit (.bool false),.lit (.int .i64 0),.lit (.int .i64 0),.lit (.int .i64 0),.lit (.int .i64 0)]) (by kernel_rfl) (by':=40) (by kernel_rfl) rfl (by decide) (by decide) hv2 (by omega) (by omega) (zI H _) (jM _) (by rw[zF];omega)) ?_;rintro s' h' ⟨e1,e2⟩;simp only[jN,seval];exact⟨((zM.refl H.n H).push _ (jM _)).trans (e2.mono (by rw[zF];omega)),e1⟩
theorem sJ{xs:List xD}(hv:zJ XR F H v xs)(hl:Sm 32 xs):
 vR 56 [v] H fun r h'=>zM H.n H h'/\yX XR H.n h' r 108 xs:=by
 refine zW Tryz.func56 rfl rfl ?_
 unfold Sm at hl
 have s1:=hv.isSl
 have s2:=hv.lenD
 simp only[jN,seval,Tryz.ntmps56,s1]
 refine⟨fun he=> ?_,fun he=> ?_⟩
 ·obtain rfl:=hv.empty he;exact⟨zM.refl _ _,.inl qE.nil⟩
 ·have hv2:zJ XR F (H.push (.cells [] 108)) v xs:=hv.ext ((zM.refl H.n H).push _ (jM _)) (jM _);refine qM (Ya (n0:=H.n) NJ (by kernel_rfl) (by kernel_rfl) (zv:= .agg [.lit (.int .i64 0),.lit (.int .i64 0),.lit (.int .i64 0),.lit (.int .i64 0)]) (by kernel_rfl) (by':=32) (by kernel_rfl) rfl (by decide) (by decide) hv2 (by omega) (by omega) (zI H _) (jM _) (by rw[zF];omega)) ?_;rintro s' h' ⟨e1,e2⟩;simp only[jN,seval];exact⟨((zM.refl H.n H).push _ (jM _)).trans (e2.mono (by rw[zF];omega)),e1⟩
end
def Zv:Xa:=⟨false,false,0,0,0,0⟩
def Vf(m:zU)(n:Int):Xa:=if 0<=n then m.osds.getD n.toNat Zv else Zv
theorem j1L:vR 12 [] H fun r h'=>zM H.n H h'/\r=vS ⟨0,[],[],[],0⟩ (.lit (.slice none 0 0)) (.lit (.slice none 0 0)) (.lit (.slice none 0 0)):=by refine zW Tryz.func12 rfl rfl ?_;simp only[jN,seval,Tryz.ntmps12];exact⟨(zM.refl _ _).push _ (jM _),rfl⟩
theorem j6B(n:Int)(hm:vG F H m vo vp vb)(hl:Sm 40 m.osds):
 vR 100 [vS m vo vp vb,.lit (.int .i64 n)] H fun r h'=>zM H.n H h'/\r=KD (Vf m n):=by
 refine zW Tryz.func100 rfl rfl ?_
 unfold Sm at hl
 have s1:=hm.o.isSl
 have s2:=hm.o.lenD
 have o1:=hm.o.one
 have o2:=hm.p.one
 have o3:=hm.b.one
 have E0:zM H.n H ((H.push (.cells [.lit (.int .i64 m.epoch),vo,vp,vb,.lit (.int .i64 m.leaf)] 66)).push (.cells [.lit (.bool false),.lit (.bool false),.lit (.int .i64 0),.lit (.int .i64 0),.lit (.int .i64 0),.lit (.int .i64 0)] 136)):=((zM.refl _ _).push _ (jM _)).push _ (by rw[zF];omega)
 by_cases h0:n<0
 ·have hG:Vf m n=Zv:=by unfold Vf;rw[if_neg (by omega)]
  simp only[jN,seval,Tryz.ntmps100,vS,s1,o1,o2,o3,h0];rw[hG];exact⟨((zM.refl _ _).push _ (jM _)).push _ (by rw[zF];omega),rfl⟩
 ·obtain⟨k,rfl⟩:∃k:Nat,n=(k:Int):=⟨n.toNat,by omega⟩;by_cases h1:(m.osds.length:Int)<=(k:Int)
  ·have hG:Vf m (k:Int)=Zv:=by
    unfold Vf
    rw[if_pos (by omega),jU,qY (by simp only[vD];omega)]
    rfl
   simp only[jN,seval,Tryz.ntmps100,vS,s1,s2,o1,o2,o3,h0,h1]
   rw[hG]
   exact⟨((zM.refl _ _).push _ (jM _)).push _ (by rw[zF];omega),rfl⟩
  ·have hlt:k<m.osds.length:=by omega
   obtain⟨x,hx⟩:∃x,m.osds[k]? =some x:=⟨_,jO hlt⟩;have hG:Vf m (k:Int)=x:=by unfold Vf;rw[if_pos (by omega),jU,vD,hx];rfl
   obtain⟨c,hc1,hld,hld0⟩:=hm.o.atE (T:=zH Tryz.prog kR) E0 Bs hx;obtain⟨rfl,-⟩:=Qn.1 hc1;simp only[jN,seval,Tryz.ntmps100,vS,s1,s2,o1,o2,o3,h0,h1,hlt,hld0];rw[hG];exact⟨((zM.refl _ _).push _ (jM _)).push _ (by rw[zF];omega),rfl⟩
theorem wL(n:Int)(hm:vG F H m vo vp vb)(hl:Sm 40 m.osds):
 vR 93 [vS m vo vp vb,.lit (.int .i64 n)] H fun r h'=>zM H.n H h'/\r=KD (Vf m n):=by
 refine zW Tryz.func93 rfl rfl ?_
 unfold Sm at hl
 have s1:=hm.o.isSl
 have s2:=hm.o.lenD
 have o1:=hm.o.one
 have o2:=hm.p.one
 have o3:=hm.b.one
 have E0:zM H.n H ((H.push (.cells [.lit (.int .i64 m.epoch),vo,vp,vb,.lit (.int .i64 m.leaf)] 66)).push (.cells [.lit (.bool false),.lit (.bool false),.lit (.int .i64 0),.lit (.int .i64 0),.lit (.int .i64 0),.lit (.int .i64 0)] 136)):=((zM.refl _ _).push _ (jM _)).push _ (by rw[zF];omega)
 by_cases h0:n<0
 ·have hG:Vf m n=Zv:=by unfold Vf;rw[if_neg (by omega)]
  simp only[jN,seval,Tryz.ntmps93,vS,s1,o1,o2,o3,h0];rw[hG];exact⟨((zM.refl _ _).push _ (jM _)).push _ (by rw[zF];omega),rfl⟩
 ·obtain⟨k,rfl⟩:∃k:Nat,n=(k:Int):=⟨n.toNat,by omega⟩;by_cases h1:(m.osds.length:Int)<=(k:Int)
  ·have hG:Vf m (k:Int)=Zv:=by
    unfold Vf
    rw[if_pos (by omega),jU,qY (by simp only[vD];omega)]
    rfl
   simp only[jN,seval,Tryz.ntmps93,vS,s1,s2,o1,o2,o3,h0,h1]
   rw[hG]
   exact⟨((zM.refl _ _).push _ (jM _)).push _ (by rw[zF];omega),rfl⟩
  ·have hlt:k<m.osds.length:=by omega
   obtain⟨x,hx⟩:∃x,m.osds[k]? =some x:=⟨_,jO hlt⟩;have hG:Vf m (k:Int)=x:=by unfold Vf;rw[if_pos (by omega),jU,vD,hx];rfl
   obtain⟨c,hc1,hld,hld0⟩:=hm.o.atE (T:=zH Tryz.prog kR) E0 Bs hx;obtain⟨rfl,-⟩:=Qn.1 hc1;simp only[jN,seval,Tryz.ntmps93,vS,s1,s2,o1,o2,o3,h0,h1,hlt,hld0];rw[hG];exact⟨((zM.refl _ _).push _ (jM _)).push _ (by rw[zF];omega),rfl⟩
def Jw(epoch:Int)(o:Xa)(kind value:Int):Int:=
 if kind=1 then(if value<1 then 22 else if o.ex=true/\value<=o.boot then 126 else 0)
 else if kind=2 then(if o.ex=false then 2 else if o.up=false\/value≠o.boot then 126 else 0)
 else if kind=3 then(if o.ex=false then 2 else if value<0\/65536<value then 22 else 0)
 else(if o.ex=false\/o.up=false then 2 else if value<0\/epoch<value then 22 else if value<=o.upThru then 126 else 0)
def Av(m:zU)(c:Yn):Int:=Jw m.epoch (Vf m c.osd) c.kind c.value
theorem Cx(c:Yn)(hm:vG F H m vo vp vb)(hl:Sm 40 m.osds)(a1:va.one=true)(w1:vw.one=true):
 vR 74 [vS m vo vp vb,Eh c va vw] H fun r h'=>zM H.n H h'/\r= .lit (.int .i64 (Av m c)):=by
 refine zW Tryz.func74 rfl rfl ?_
 have o1:=hm.o.one
 have o2:=hm.p.one
 have o3:=hm.b.one
 simp only[jN,seval,Tryz.ntmps74,vS,Eh,o1,o2,o3,a1,w1]
 obtain⟨h0,hh0⟩:∃h0,h0=(H.push (.cells [.lit (.int .i64 m.epoch),vo,vp,vb,.lit (.int .i64 m.leaf)] 66)).push (.cells [.lit (.int .i64 c.kind),.lit (.int .i64 c.osd),.lit (.int .i64 c.value),.lit (.int .i64 c.pool.id),.lit (.int .i64 c.pool.size),.lit (.int .i64 c.pool.min),.lit (.int .i64 c.pool.pgs),.lit (.int .i64 c.bucket.id),.lit (.int .i64 c.bucket.kind),va,vw] 124):=⟨_,rfl⟩
 have E0:zM H.n H h0:=hh0▸((zM.refl _ _).push _ (jM _)).push _ (by rw[zF];omega)
 have A1:h0.at H.n=some (.cells [.lit (.int .i64 m.epoch),vo,vp,vb,.lit (.int .i64 m.leaf)] 66):=hh0▸(xE _ (by rw[zF];omega)).trans (zI _ _)
 have A2:h0.at (H.n+1)=some (.cells [.lit (.int .i64 c.kind),.lit (.int .i64 c.osd),.lit (.int .i64 c.value),.lit (.int .i64 c.pool.id),.lit (.int .i64 c.pool.size),.lit (.int .i64 c.pool.min),.lit (.int .i64 c.pool.pgs),.lit (.int .i64 c.bucket.id),.lit (.int .i64 c.bucket.kind),va,vw] 124):=hh0▸zI _ _
 rw[<-hh0]
 clear hh0
 refine(j6B c.osd (hm.ext E0 (jM _)) hl).mono ?_
 rintro r h ⟨e,rfl⟩
 have B1:=(e.2 _ (jR A1)).trans A1
 have B2:=(e.2 _ (jR A2)).trans A2
 have EH:zM H.n H h:=E0.trans (e.mono E0.1)
 have LB1:=xI B1
 have LB2:=xI B2
 have lb1:=jR B1
 have lb2:=jR B2
 unfold Av
 obtain⟨o,ho⟩:∃o,o=Vf m c.osd:=⟨_,rfl⟩
 rw[<-ho]
 clear ho A1 A2 e
 obtain⟨ex,up,w,b,uf,ut⟩:=o
 simp only[KD]
 by_cases k1:c.kind=1
 ·have k1e:(c.kind==1)=true:=by simp[k1]
  by_cases c1:c.value<1
  ·simp only[jN,seval,LB2,lb2,k1e,c1];exact⟨EH.push _ EH.1,by simp[Jw,k1,c1]⟩
  ·cases ex with
   |false=>
    simp only[jN,seval,LB2,lb2,k1e,c1];exact⟨EH.push _ EH.1,by simp[Jw,k1,c1]⟩
   |true=>
    by_cases c2:c.value<=b
    ·simp only[jN,seval,LB2,lb2,k1e,c1,c2];exact⟨EH.push _ EH.1,by simp[Jw,k1,c1,c2]⟩
    ·simp only[jN,seval,LB2,lb2,k1e,c1,c2];exact⟨EH.push _ EH.1,by simp[Jw,k1,c1,c2]⟩
 ·have k1e:(c.kind==1)=false:=by simp[k1]
  by_cases k2:c.kind=2
  ·have k2e:(c.kind==2)=true:=by simp[k2]
   cases ex with
   |false=>
    simp only[jN,seval,LB2,lb2,k1e,k2e];exact⟨EH.push _ EH.1,by simp[Jw,k2]⟩
   |true=>
    cases up with
    |false=>
     simp only[jN,seval,LB2,lb2,k1e,k2e];exact⟨EH.push _ EH.1,by simp[Jw,k2]⟩
    |true=>
     by_cases c2:c.value=b
     ·have c2e:(c.value==b)=true:=by simp[c2]
      have c2n:(c.value !=b)=false:=by simp[c2]
      simp only[jN,seval,LB2,lb2,k1e,k2e,c2n];exact⟨EH.push _ EH.1,by simp[Jw,k2,c2]⟩
     ·have c2e:(c.value==b)=false:=by simp[c2]
      have c2n:(c.value !=b)=true:=by simp[c2]
      simp only[jN,seval,LB2,lb2,k1e,k2e,c2n];exact⟨EH.push _ EH.1,by simp[Jw,k2,c2]⟩
  ·have k2e:(c.kind==2)=false:=by simp[k2]
   by_cases k3:c.kind=3
   ·have k3e:(c.kind==3)=true:=by simp[k3]
    cases ex with
    |false=>
     simp only[jN,seval,LB2,lb2,k1e,k2e,k3e];exact⟨EH.push _ EH.1,by simp[Jw,k3]⟩
    |true=>
     by_cases c1:c.value<0
     ·simp only[jN,seval,LB2,lb2,k1e,k2e,k3e,c1];exact⟨EH.push _ EH.1,by simp[Jw,k3,c1]⟩
     ·by_cases c2:65536<c.value
      ·simp only[jN,seval,LB1,LB2,lb1,lb2,k1e,k2e,k3e,c1,c2];exact⟨EH.push _ EH.1,by simp[Jw,k3,c1,c2]⟩
      ·simp only[jN,seval,LB1,LB2,lb1,lb2,k1e,k2e,k3e,c1,c2];exact⟨EH.push _ EH.1,by simp[Jw,k3,c1,c2]⟩
   ·have k3e:(c.kind==3)=false:=by simp[k3]
    cases ex with
    |false=>
     simp only[jN,seval,LB2,lb2,k1e,k2e,k3e];exact⟨EH.push _ EH.1,by simp[Jw,k1,k2,k3]⟩
    |true=>
     cases up with
     |false=>
      simp only[jN,seval,LB2,lb2,k1e,k2e,k3e];exact⟨EH.push _ EH.1,by simp[Jw,k1,k2,k3]⟩
     |true=>
      by_cases c1:c.value<0
      ·simp only[jN,seval,LB2,lb2,k1e,k2e,k3e,c1];exact⟨EH.push _ EH.1,by simp[Jw,k1,k2,k3,c1]⟩
      ·by_cases c2:m.epoch<c.value
       ·simp only[jN,seval,LB1,LB2,lb1,lb2,k1e,k2e,k3e,c1,c2];exact⟨EH.push _ EH.1,by simp[Jw,k1,k2,k3,c1,c2]⟩
       ·by_cases c3:c.value<=ut
        ·simp only[jN,seval,LB1,LB2,lb1,lb2,k1e,k2e,k3e,c1,c2,c3];exact⟨EH.push _ EH.1,by simp[Jw,k1,k2,k3,c1,c2,c3]⟩
        ·simp only[jN,seval,LB1,LB2,lb1,lb2,k1e,k2e,k3e,c1,c2,c3];exact⟨EH.push _ EH.1,by simp[Jw,k1,k2,k3,c1,c2,c3]⟩
theorem yX.put{α:Type}{R:Zl α}{xs:List α}{x:AB}(hd:yX R n0 h d e xs)(hp:p<n0):yX R n0 (h.put p x) d e xs:=by
 rcases hd with ho|⟨rfl,q,hq,rfl,hat⟩
 ·refine .inl (ho.lift (fun b off n cap ev=> ?_) (fun b hb=>hb.elim));obtain⟨L,h1,h2⟩:=ho;rcases h1.2 with⟨hh,_⟩|⟨q,hh,hq,hat⟩
  ·rw[hh]at ev;cases ev
  ·rw[hh]at ev;cases ev;exact zE _ (by omega)
 ·exact .inr ⟨rfl,q,hq,rfl,(zE _ (by omega)).trans hat⟩
theorem Nz(x:yL)(ha:zJ qB F H va x.items)(hw:zJ qB F H vw x.weights)(la:Sm 8 x.items)(lw:Sm 8 x.weights):
 vR 57 [Xq x va vw] H fun r h'=>zM H.n H h'/\∃ra rw1,r=Xq x ra rw1/\yX qB H.n h' ra 3 x.items/\yX qB H.n h' rw1 3 x.weights:=by
 refine zW Tryz.func57 rfl rfl ?_
 have a1:=ha.one
 have w1:=hw.one
 have a2:=ha.isSl
 have w2:=hw.isSl
 simp only[jN,seval,Tryz.ntmps57,Xq,a1,w1]
 obtain⟨hp,hhp⟩:∃hp,hp=(H.push (.cells [.lit (.int .i64 x.id),.lit (.int .i64 x.kind),va,vw] 122)).push (.cells [.lit (.int .i64 0),.lit (.int .i64 0),.lit (.slice none 0 0),.lit (.slice none 0 0)] 122):=⟨_,rfl⟩
 have EP:zM H.n H hp:=hhp▸((zM.refl _ _).push _ (jM _)).push _ (by rw[zF];omega)
 have P0:hp.at H.n=some (.cells [.lit (.int .i64 x.id),.lit (.int .i64 x.kind),va,vw] 122):=hhp▸(xE _ (by rw[zF];omega)).trans (zI _ _)
 have Z0:hp.at (H.n+1)=some (.cells [.lit (.int .i64 0),.lit (.int .i64 0),.lit (.slice none 0 0),.lit (.slice none 0 0)] 122):=hhp▸zI _ _
 have nP:hp.n=H.n+2:=by rw[hhp,zF,zF]
 have LP0:=xI P0
 rw[<-hhp]
 clear hhp
 rw[zL [0,1,3,4,2,6,5,7,8,9] 632895786129742360360258634752 (by kernel_rfl)]
 repeat ((with_reducible refine jX ?_;simp only[vO];try simp only[vP,seval]);simp only[jN,seval,zG,LP0,a2,w2])
 refine(RU (ha.ext EP (jM _)) la).mono ?_
 rintro ra h3 ⟨e3,ra1⟩
 have P3:=(e3.2 _ (jR P0)).trans P0
 have Z3:=(e3.2 _ (jR Z0)).trans Z0
 have LP3:=xI P3
 have E3:=EP.step e3
 have r2:=(ra1.toSl (F:=fun _=>True) (fun _ _=>trivial)).one
 repeat ((with_reducible refine jX ?_;simp only[vO];try simp only[vP,seval]);simp only[jN,seval,zG,LP3,w2])
 refine(RU (hw.ext E3 (jM _)) lw).mono ?_
 rintro rw1 h4 ⟨e4,rw2⟩
 have P4:=(e4.2 _ (jR P3)).trans P3
 have Z4:=(e4.2 _ (jR Z3)).trans Z3
 have E4:=E3.step e4
 have l4:=jR P4
 have l6:=jR Z4
 have l3:hp.n<=h3.n:=e3.1
 have q2:=(rw2.toSl (F:=fun _=>True) (fun _ _=>trivial)).one
 have hne:¬H.n=H.n+1:=by omega
 repeat ((with_reducible refine jX ?_;simp only[vO];try simp only[vP,seval]);simp only[jN,seval,zG,P4,l4,r2,q2,Z4,l6,hne])
 refine⟨((E4.put _ (by omega)).put _ (by omega)).put _ (by omega),_,_,rfl,?_,?_⟩
 ·exact((((ra1.ext e4 (jM _)).put (by omega)).put (by omega)).put (by omega)).mono (by omega)
 ·exact(((rw2.put (by omega)).put (by omega)).put (by omega)).mono (by omega)
theorem RH(x:Int)(hv:zJ qB F H v xs)(hl:xs.length<2^62):
 vR 138 [v,.lit (.int .i64 x)] H fun r h'=>h'=H/\r= .lit (.bool (xs.contains x)):=by
 refine zW Tryz.func138 rfl rfl ?_
 have s1:=hv.isSl
 have s2:=hv.lenD
 simp only[jN,jB,jC,jE,reduceCtorEq,Tryz.ntmps138,s1,s2]
 refine kO xs.length (fun i t h=>h=H/\(xs.take i).contains x=false/\t.n=17/\t.get 1= .lit (.int .i64 x)/\t.get 7=v/\t.get 8= .lit (.int .i64 xs.length)/\t.get 9= .lit (.int .i64 i)) ?_ ?_ _ _ ?_
 ·rintro i t h hlt hc ⟨rfl,hx,ga⟩ ih;have hld:=hv.int (T:=zH Tryz.prog kR) (e:=3) (by kernel_rfl) (by kernel_rfl) hlt;have hw:=xG hlt (by omega);simp only[jN,jB,jE,jF,reduceCtorEq,s1,s2,ga,hlt,hc,hld,hw];refine⟨fun he=> ?_,fun he=> ?_⟩
  ·have:xs.contains x=true:=by
    rw[JP,<-eq_of_beq he]
    exact zR (Ji 0 hlt)
   rw[this]
  ·refine ih _ _ ⟨rfl,?_,?_⟩
   ·rw[Uz hlt,hx,he];rfl
   ·simp only[jN,jE,jF,ga]
 ·rintro t h hc ⟨rfl,hx,ga⟩;rw[xC]at hx;simp only[jN,jB,jE,jF,reduceCtorEq,s1,s2,ga,hc,hx]
 ·simp only[jN,jB,jE,jF];simp
def Yg(m:zU)(id:Int):Bool:=m.buckets.any (fun b=>b.items.contains id)
def Ab(m:zU)(i:Nat):Bool:=(m.buckets.take i).any (fun c=>c.id==(m.buckets.getD i Kk).id)
theorem j0y(id:Int)(hm:vG F H m vo vp vb)(hok:OC m):
 vR 147 [vS m vo vp vb,.lit (.int .i64 id)] H fun r h'=>zM H.n H h'/\r= .lit (.bool (Yg m id)):=by
 refine zW Tryz.func147 rfl rfl ?_
 obtain⟨hl,hbs,hit⟩:=hok
 unfold Sm at hl
 have s1:=hm.b.isSl
 have s2:=hm.b.lenD
 have o1:=hm.o.one
 have o2:=hm.p.one
 have o3:=hm.b.one
 simp only[jN,jB,jC,jE,jF,Tryz.ntmps147,vS,o1,o2,o3,s1,s2]
 obtain⟨h1,hh1⟩:∃h1,h1=H.push (.cells [.lit (.int .i64 m.epoch),vo,vp,vb,.lit (.int .i64 m.leaf)] 66):=⟨_,rfl⟩
 have E0:=ZS hh1
 rw[<-hh1]
 clear hh1
 refine kO m.buckets.length (fun i t h=>zM H.n H h/\(m.buckets.take i).any (fun b=>b.items.contains id)=false/\t.n=28/\t.get 1= .lit (.int .i64 id)/\t.get 10=vb/\t.get 11= .lit (.int .i64 m.buckets.length)/\t.get 12= .lit (.int .i64 i)) ?_ ?_ _ _ ?_
 ·rintro i t h hlt hc ⟨E1,hx0,ga⟩ ih;obtain⟨x,hx⟩:∃x,m.buckets[i]? =some x:=⟨_,jO hlt⟩;obtain⟨c,hc1,hld,hld0⟩:=hm.b.atE (T:=zH Tryz.prog kR) E1 Qa hx;obtain⟨va,vw,rfl,ha,hw,i1,i2⟩:=Jx.1 hc1;obtain⟨k1,k2⟩:=hbs x (zR hx);unfold Sm at k1 k2;have a1:=ha.one;have w1:=hw.one;have a2:=ha.isSl;have a3:=ha.lenD;have hws:=xG hlt (by omega);simp only[jN,jB,jE,jF,reduceCtorEq,jG,s1,s2,ga,hlt,hc,hld0,a1,w1,a2,a3];obtain⟨hA,hhA⟩:∃hA,hA=h.push (.cells [.lit (.int .i64 x.id),.lit (.int .i64 x.kind),va,vw] 122):=⟨_,rfl⟩;have EA:zM H.n H hA:=hhA▸E1.push _ E1.1;rw[<-hhA];clear hhA;refine kO x.items.length (fun j t h'=>h'=hA/\(x.items.take j).contains id=false/\t.n=28/\t.get 1= .lit (.int .i64 id)/\t.get 10=vb/\t.get 11= .lit (.int .i64 m.buckets.length)/\t.get 12= .lit (.int .i64 i)/\t.get 17=va/\t.get 18= .lit (.int .i64 x.items.length)/\t.get 19= .lit (.int .i64 j)) ?_ ?_ _ _ ?_
  ·rintro j t h' hj hc ⟨rfl,hy,gb⟩ ih2;have hlda:=(ha.ext EA (jM _)).int (T:=zH Tryz.prog kR) (e:=3) (by kernel_rfl) (by kernel_rfl) hj;have hws:=xG hj (by omega);simp only[jN,jB,jE,jF,reduceCtorEq,gb,hj,hc,hlda,hws,a2,a3];refine⟨fun he=> ?_,fun he=> ?_⟩
   ·refine⟨EA,?_⟩;have:x.items.contains id=true:=by rw[JP,<-eq_of_beq he];exact zR (Ji 0 hj)
    unfold Yg;rw[Ag hx this]
   ·refine ih2 _ _ ⟨rfl,?_,?_⟩
    ·rw[Uz hj,hy,he];rfl
    ·simp only[jN,jE,jF,gb]
  ·rintro t h' hc ⟨rfl,hy,gb⟩;rw[xC]at hy;simp only[jN,jB,jE,jF,reduceCtorEq,gb,hc,hws];refine ih _ _ ⟨EA,?_,?_⟩
   ·rw[Cj hx,hx0,hy];rfl
   ·simp only[jN,jE,jF,gb]
  ·simp only[jN,jE,jF,ga];refine⟨rfl,?_⟩;(repeat' apply And.intro)<;>first|rfl|trivial
 ·rintro t h hc ⟨E1,hx0,ga⟩;rw[xC]at hx0;simp only[jN,jB,jE,jF,reduceCtorEq,s1,s2,ga,hc];refine⟨E1,?_⟩;unfold Yg;rw[hx0]
 ·simp only[jN,jB,jE,jF];refine⟨E0,rfl,?_⟩;(repeat' apply And.intro)<;>first|rfl|trivial
theorem j31(hi:i<m.buckets.length)(hm:vG F H m vo vp vb)(hok:OC m):
 vR 148 [vS m vo vp vb,.lit (.int .i64 i)] H fun r h'=>zM H.n H h'/\r= .lit (.bool (Ab m i)):=by
 refine zW Tryz.func148 rfl rfl ?_
 obtain⟨hl,hbs,hit⟩:=hok
 unfold Sm at hl
 have s1:=hm.b.isSl
 have s2:=hm.b.lenD
 have o1:=hm.o.one
 have o2:=hm.p.one
 have o3:=hm.b.one
 have hcap:KN 4 vb:=by obtain⟨L,-,-,hc,-⟩:=hm.b.out;exact hc
 have hno:i<=m.buckets.length:=by omega
 have hno2:(i:Int)<=(m.buckets.length:Int):=by omega
 have hsub:zJ Vq F H (Gj 4 0 i vb) (m.buckets.take i):=by have:=hm.b.sub (l:=0) (r:=i) (by omega) hno;rw[xK]at this;exact this
 have s3:=hsub.isSl
 have s4:lenD (Gj 4 0 i vb)=i:=by rw[hsub.lenD,zV];omega
 simp only[jN,jB,jC,jE,jF,jJ,Tryz.ntmps148,vS,o1,o2,o3,s1,s2,hcap,hno2,s3,s4]
 obtain⟨h1,hh1⟩:∃h1,h1=H.push (.cells [.lit (.int .i64 m.epoch),vo,vp,vb,.lit (.int .i64 m.leaf)] 66):=⟨_,rfl⟩
 have E0:=ZS hh1
 have A0:h1.at H.n=some (.cells [.lit (.int .i64 m.epoch),vo,vp,vb,.lit (.int .i64 m.leaf)] 66):=hh1▸zI _ _
 have n1:h1.n=H.n+1:=by rw[hh1,zF]
 rw[<-hh1]
 clear hh1
 obtain⟨z,hz⟩:∃z,m.buckets[i]? =some z:=⟨_,jO hi⟩
 refine kO i (fun j t h=>zM h1.n h1 h/\(m.buckets.take j).any (fun c=>c.id==z.id)=false/\t.n=26/\t.get 1= .lit (.int .i64 i)/\t.get 2= .ptr H.n 0/\t.get 10=Gj 4 0 i vb/\t.get 11= .lit (.int .i64 i)/\t.get 12= .lit (.int .i64 j)) ?_ ?_ _ _ ?_
 ·rintro j t h hj hc ⟨he,hx0,ga⟩ ih;have hjl:j<m.buckets.length:=by omega
  obtain⟨y,hy⟩:∃y,m.buckets[j]? =some y:=⟨_,jO hjl⟩;have hy2:(m.buckets.take i)[j]? =some y:=by rw[qH,if_pos hj,hy]
  have E1:zM H.n H h:=E0.trans (he.mono (by omega));obtain⟨c,hc1,hld,hld0⟩:=hsub.atE (T:=zH Tryz.prog kR) E1 Qa hy2;obtain⟨ya,yw,rfl,ya1,yw1,-,-⟩:=Jx.1 hc1;obtain⟨c,hc2,hldz,hldz0⟩:=hm.b.atE (T:=zH Tryz.prog kR) E1 Qa hz;obtain⟨za,zw,rfl,-,-,-,-⟩:=Jx.1 hc2;have y1:=ya1.one;have y2:=yw1.one;have hws:=xG hj (by omega);have A1:=(he.2 _ (by omega)).trans A0;have l1:H.n<h.n:=jR A1;have LA1:=xI A1;have hbl:slB vb<h.n:=by
   obtain⟨L,h1',_,_,h3⟩:=hm.b.out;rcases h1'.2 with⟨rfl,rfl⟩|⟨b,off,cap,row,rfl,h4,h5⟩
   ·have:=h3.1;simp at this;omega
   ·have:=Cq h4;have:=E1.1;simp only[slB];omega
  simp only[jN,jB,jE,jF,reduceCtorEq,jG,s3,s4,ga,hj,hc,hld0,y1,y2];rw[zL [0,1,2,3,4,5,6,7,8] 1205348233113403045970432 (by kernel_rfl)];repeat ((with_reducible refine jX ?_;simp only[vO];try simp only[vP,jB,jD,jH,jI,jF]);simp only[jN,jB,jE,jF,reduceCtorEq,jG,zG,ga,s1,s2,hi,LA1,l1,hldz0,hbl])
  refine⟨fun hq=> ?_,fun hq=> ?_⟩
  ·refine⟨E1.push _ E1.1,?_⟩;unfold Ab;rw[Vl hz,Ag hy2 hq]
  ·simp only[hws];refine ih _ _ ⟨he.push _ he.1,?_,?_⟩
   ·rw[Cj hy,hx0];simpa using hq
   ·simp only[jN,jE,jF,ga]
 ·rintro t h hc ⟨he,hx0,ga⟩;simp only[jN,jB,jE,jF,reduceCtorEq,s3,s4,ga,hc];refine⟨E0.trans (he.mono (by omega)),?_⟩;unfold Ab;rw[Vl hz,hx0]
 ·simp only[jN,jB,jE,jF];refine⟨zM.refl _ _,rfl,?_⟩;(repeat' apply And.intro)<;>first|rfl|trivial
def Hq(o:Xa)(osd x:Int):Bool:=o.ex&&o.up&&decide (0<o.weight)&&decide (IntKind.i64.wrap ((UB x (IntKind.u32.wrap osd)).tmod 65536)<o.weight)
def Yw(m:zU)(osd x:Int):Bool:=if 0<=osd then(match m.osds[osd.toNat]? with|some o=>Hq o osd x|none=>false)else false
theorem j4M(osd x:Int)(hm:vG F H m vo vp vb)(hl:Sm 40 m.osds):
 vR 139 [vS m vo vp vb,.lit (.int .i64 osd),.lit (.int .u32 x)] H fun r h'=>zM H.n H h'/\r= .lit (.bool (Yw m osd x)):=by
 refine zW Tryz.func139 rfl rfl ?_
 unfold Sm at hl
 have s1:=hm.o.isSl
 have s2:=hm.o.lenD
 have o1:=hm.o.one
 have o2:=hm.p.one
 have o3:=hm.b.one
 have EP:∀x,zM H.n H (H.push x):=fun x=>(zM.refl _ _).push _ (jM _)
 by_cases h0:osd<0
 ·simp only[jN,jB,jC,jE,jF,reduceCtorEq,Tryz.ntmps139,vS,o1,o2,o3,s1,h0];refine⟨EP _,?_⟩;unfold Yw;rw[if_neg (by omega)]
 obtain⟨k,rfl⟩:∃k:Nat,osd=(k:Int):=⟨osd.toNat,by omega⟩
 simp only[jN,jB,jC,jE,jF,reduceCtorEq,Tryz.ntmps139,vS,o1,o2,o3,s1,s2,h0]
 refine⟨fun hq=> ?_,fun hq=> ?_⟩
 ·refine⟨EP _,?_⟩;have:m.osds[k]? =none:=qY (by have:=of_decide_eq_true hq;omega);unfold Yw;rw[if_pos (by omega),vD,this]
 have hk:k<m.osds.length:=by have:=of_decide_eq_false hq;omega
 obtain⟨o,ho⟩:∃o,m.osds[k]? =some o:=⟨_,jO hk⟩
 have hres:Yw m (k:Int) x=Hq o (k:Int) x:=by unfold Yw;rw[if_pos (by omega),vD,ho]
 obtain⟨c,hc1,hld,hld0⟩:=hm.o.atE (T:=zH Tryz.prog kR) (EP (.cells [.lit (.int .i64 m.epoch),vo,vp,vb,.lit (.int .i64 m.leaf)] 66)) Bs ho
 obtain⟨rfl,-⟩:=Qn.1 hc1
 simp only[jN,jB,jE,jF,jG,hk,hld0]
 obtain⟨hA,hhA⟩:∃hA,hA=(H.push (.cells [.lit (.int .i64 m.epoch),vo,vp,vb,.lit (.int .i64 m.leaf)] 66)).push (.cells [.lit (.bool o.ex),.lit (.bool o.up),.lit (.int .i64 o.weight),.lit (.int .i64 o.boot),.lit (.int .i64 o.upFrom),.lit (.int .i64 o.upThru)] 136):=⟨_,rfl⟩
 have EA:zM H.n H hA:=hhA▸(EP _).push _ (by rw[zF];omega)
 have PA:hA.at (H.n+1)=some (.cells [.lit (.bool o.ex),.lit (.bool o.up),.lit (.int .i64 o.weight),.lit (.int .i64 o.boot),.lit (.int .i64 o.upFrom),.lit (.int .i64 o.upThru)] 136):=hhA▸zI _ _
 have LA:=xI PA
 rw[<-hhA]
 rw[zL [0,1,2,3,4,5,6,7,8,9,10,11,12,13,14,18,19,15,16,17,20,21,22] 878693943373947012260138686968408365339088452694939896981631914604365265832799000653313030995166129907340643134009423752201626185636785724933948728305464115200 (by kernel_rfl)]
 cases hex:o.ex with
 |false=>
  repeat (first|((with_reducible refine jX ?_;simp only[vO];try simp only[vP,jB,jD,jH,jI]);simp only[jN,jB,jE,jF,reduceCtorEq,zG,LA,hex])|simp only[jN,jB,jC,jD,jE,jF,reduceCtorEq,jG,jJ,jK,jL,zG,LA,hex])
  exact⟨EA,by rw[hres];unfold Hq;rw[hex];rfl⟩
 |true=>
 cases hup:o.up with
 |false=>
  repeat (first|((with_reducible refine jX ?_;simp only[vO];try simp only[vP,jB,jD,jH,jI]);simp only[jN,jB,jE,jF,reduceCtorEq,zG,LA,hex,hup])|simp only[jN,jB,jC,jD,jE,jF,reduceCtorEq,jG,jJ,jK,jL,zG,LA,hex,hup])
  exact⟨EA,by rw[hres];unfold Hq;rw[hex,hup];rfl⟩
 |true=>
 by_cases hwt:0<o.weight
 ·repeat (first|((with_reducible refine jX ?_;simp only[vO];try simp only[vP,jB,jD,jH,jI]);simp only[jN,jB,jE,jF,zG,LA,hex,hup,hwt])|simp only[jN,jB,jC,jD,jE,jF,reduceCtorEq,jG,jJ,jK,jL,zG,LA,hex,hup,hwt])
  refine Sx ?_;have h65:¬(65536:Int)=0:=by decide
  repeat (first|((with_reducible refine jX ?_;simp only[vO];try simp only[vP,jB,jD,jH,jI]);simp only[jN,jB,jE,jF,reduceCtorEq,zG,LA,hex,hup,h65])|simp only[jN,jB,jC,jD,jE,jF,reduceCtorEq,jG,jJ,jK,jL,zG,LA,hex,hup,hwt,h65])
  refine⟨EA,?_⟩;rw[hres];unfold Hq;rw[hex,hup,decide_eq_true hwt];rfl
 ·repeat (first|((with_reducible refine jX ?_;simp only[vO];try simp only[vP,jB,jD,jH,jI]);simp only[jN,jB,jE,jF,reduceCtorEq,zG,LA,hex,hup,hwt])|simp only[jN,jB,jC,jD,jE,jF,reduceCtorEq,jG,jJ,jK,jL,zG,LA,hex,hup,hwt])
  exact⟨EA,by rw[hres];unfold Hq;rw[hex,hup,decide_eq_false hwt];rfl⟩
def iL(xs:List Int):List AV:=xs.map fun n=> .lit (.int .i64 n)
theorem j4x(xs:List Int):(iL xs).length=xs.length:=by simp[iL]
variable{G:Nat->Prop}
theorem qE.ints{xs:List Int}(ho:qE qB G n0 h v e xs)(hne:xs≠[]):
 ∃p,v= .sl p 0 xs.length (.un 1)/\n0<=p/\h.at p=some (.cells (iL xs) e)/\∀x∈xs,Zq x:=by
 obtain⟨L,h1,h2⟩:=ho
 have hL:L.flatten=iL xs/\∀x∈xs,Zq x:=by
  obtain⟨e1,e2⟩:=h2;have key:∀(L:List (List AV)) (xs:List Int),L.length=xs.length->(∀(i:Nat) c x,L[i]? =some c->xs[i]? =some x->qB.is (fun b=>G b/\qR v b) h c x)->L.flatten=iL xs/\∀x∈xs,Zq x:=by
   intro L;induction L with
   |nil=>intro xs hl _;cases xs with|nil=>exact⟨rfl,by simp⟩|cons=>cases hl
   |cons a r ih=>
    intro xs hl hh
    cases xs with
    |nil=>cases hl
    |cons x xs=>
     obtain⟨i1,i2⟩:=ih xs (by simpa using hl) (fun i c y a b=>hh (i+1) c y (by simpa using a) (by simpa using b));obtain⟨rfl,j2⟩:=hh 0 a x rfl rfl;refine⟨by rw[vE,i1];rfl,fun y hy=> ?_⟩;rcases List.mem_cons.1 hy with rfl|hy
     ·exact j2
     ·exact i2 y hy
  exact key L xs e1 e2
 have e0:=h2.1
 rcases h1.2 with⟨rfl,rfl⟩|⟨p,rfl,hp,hat⟩
 ·exact absurd (zO (by rw[<-e0];rfl)) hne
 ·exact⟨p,by rw[e0];rfl,hp,by rw[hat,hL.1],hL.2⟩
theorem qE.ofInts{xs:List Int}(hp:n0<=p)(hat:h.at p=some (.cells (iL xs) e))(hx:∀x∈xs,Zq x):qE qB G n0 h (.sl p 0 xs.length (.un 1)) e xs:=by
 refine⟨xs.map fun n=>[.lit (.int .i64 n)],⟨?_,.inr ⟨p,?_,hp,?_⟩⟩,?_,fun i c x h1 h2=> ?_⟩
 ·intro c hc;obtain⟨n,_,rfl⟩:=List.mem_map.1 hc;rfl
 ·rw[yH];rfl
 ·rw[hat];congr 2;unfold iL;clear hat hx;induction xs with
  |nil=>rfl
  |cons a r ih=>simp only[kY,vE,<-ih];rfl
 ·simp
 ·rw[vF,h2]at h1;simp only[qD,jP]at h1;exact⟨h1.symm,hx x (zR h2)⟩
theorem Lg(hA:XO T e=some false)(hS:vQ T e=some 1)(hi:i<xs.length):YU T e (iL xs) i=some (.lit (.int .i64 (xs.getD i 0))):=by unfold YU;rw[hA,hS];simp only[iL,vF,Ji 0 hi,qD]
theorem DQ(hi:i<xs.length):put (iL xs) i [.lit (.int .i64 x)]=some (iL (xs.set i x)):=by unfold put;rw[if_pos (by rw[j4x];exact hi)];congr 1;unfold iL;rw[List.map_set,Qv,if_pos (by rw[yH];exact hi)];simp
def UF(x:Int)(l:List Int):Nat->Nat
 |0=>0
 |n+1=>if l.getD n 0<x then UF x l n else n+1
def ES(x:Int)(l:List Int):List Int:=l.take (UF x l l.length)++x::l.drop (UF x l l.length)
def kQ(m:zU):Nat->List Int
 |0=>[]
 |i+1=>if Yg m (m.buckets.getD i Kk).id||Ab m i then kQ m i else ES (m.buckets.getD i Kk).id (kQ m i)
def Vg(m:zU):List Int:=kQ m m.buckets.length
theorem PI(x:Int)(l:List Int):∀n,UF x l n<=n
 |0=>jM 0
 |n+1=>by unfold UF;split;exact j5E (PI x l n);exact jM _
theorem tR(x:Int)(l:List Int):(ES x l).length=l.length+1:=by have:=PI x l l.length;unfold ES;simp;omega
theorem Mg(m:zU):∀n,(kQ m n).length<=n
 |0=>jM 0
 |n+1=>by
  have:=Mg m n;unfold kQ;split
  ·omega
  ·rw[tR];omega
variable{w:Int}{a:Nat}
theorem tO(hab:b<a)(hal:a<=l.length):(l.take a++w::l.drop a).getD b 0=l.getD b 0:=by rw[jU,jU,jZ (by rw[zV];omega),qH,if_pos hab]
theorem UZ(hal:a<=l.length):(l.take a++w::l.drop a).length=l.length+1:=by simp;omega
theorem IU{v:Int}(hal:a<=l.length):(l.take a++w::l.drop a).set a v=l.take a++v::l.drop a:=by
 have e:(l.take a).length=a:=by rw[zV];omega
 rw[fY _ _ (by omega),e,Ju];rfl
theorem iW(hb:b<l.length):l.take (b+1)++l.getD b 0::l.drop (b+1)=l.take b++l.getD b 0::l.drop b:=by
 have e1:l.take (b+1)=l.take b++[l.getD b 0]:=by rw[qV,Ji 0 hb];rfl
 have e2:l.drop b=l.getD b 0::l.drop (b+1):=by rw[qS hb,jU,jO hb];rfl
 rw[e1,e2,zP];rfl
theorem j00(hm:vG F H m vo vp vb)(hok:OC m):
 vR 136 [vS m vo vp vb] H fun r h'=>zM H.n H h'/\zJ qB (fun b=>H.n<=b) h' r (Vg m):=by
 refine zW Tryz.func136 rfl rfl ?_
 obtain⟨hl,hbs,hit⟩:=id hok
 unfold Sm at hl
 have s1:=hm.b.isSl
 have s2:=hm.b.lenD
 have o1:=hm.o.one
 have o2:=hm.p.one
 have o3:=hm.b.one
 simp only[jN,jB,jC,jE,jF,Tryz.ntmps136,vS,o1,o2,o3,s1,s2]
 obtain⟨h1,hh1,E0,A0⟩:=xX H (.cells [.lit (.int .i64 m.epoch),vo,vp,vb,.lit (.int .i64 m.leaf)] 66)
 have n1:h1.n=H.n+1:=by rw[hh1,zF]
 rw[<-hh1]
 clear hh1
 refine kO m.buckets.length (fun i t h=>∃o,qE qB (fun _=>False) h1.n h o 3 (kQ m i)/\zM h1.n h1 h/\t.n=60/\t.get 1= .ptr H.n 0/\t.get 3=o/\t.get 8=vb/\t.get 9= .lit (.int .i64 m.buckets.length)/\t.get 10= .lit (.int .i64 i)) ?_ ?_ _ _ ?_
 ·rintro i t h hlt hc ⟨o,ho,he,ga⟩ ih;obtain⟨x,hx⟩:∃x,m.buckets[i]? =some x:=⟨_,jO hlt⟩;have E1:zM H.n H h:=E0.trans (he.mono (by omega));obtain⟨c,hc1,hld,hld0⟩:=hm.b.atE (T:=zH Tryz.prog kR) E1 Qa hx;obtain⟨va,vw,rfl,ha,hw,i1,i2⟩:=Jx.1 hc1;have a1:=ha.one;have w1:=hw.one;have hws:=xG hlt (by omega);have A1:=(he.2 _ (by omega)).trans A0;have l1:H.n<h.n:=jR A1;have LA1:=xI A1;have hstep:kQ m (i+1)=if Yg m x.id||Ab m i then kQ m i else ES x.id (kQ m i):=by rw[kQ,Vl hx]
  simp only[jN,jB,jE,jF,reduceCtorEq,jG,s1,s2,ga,hlt,hc,hld0,a1,w1,LA1,l1];obtain⟨hA,hhA⟩:∃hA,hA=h.push (.cells [.lit (.int .i64 x.id),.lit (.int .i64 x.kind),va,vw] 122):=⟨_,rfl⟩;have EA:=ZS hhA;have PA:hA.at h.n=some (.cells [.lit (.int .i64 x.id),.lit (.int .i64 x.kind),va,vw] 122):=hhA▸zI h _;rw[<-hhA];clear hhA;have E2:zM H.n H hA:=E1.step EA;refine(j0y x.id (hm.ext E2 (jM _)) hok).mono ?_;rintro _ h3 ⟨e3,rfl⟩;have E3:=E2.step e3;have P3:=(e3.2 _ (jR PA)).trans PA;have l3:=jR P3;have LP3:=xI P3;have A3:=(e3.2 _ (by have:=EA.1;omega)).trans ((EA.2 _ l1).trans A1);have l4:=jR A3;have LA3:=xI A3;have he3:zM h1.n h1 h3:=(he.step EA).step e3;have ho3:=(ho.ext EA (jM _)).ext e3 (jM _);have hap:qR o h.n:=ho.apart (jM _);cases hwi:Yg m x.id with
  |true=>
   simp only[jN,jB,jE,jF,reduceCtorEq,ga,hws];refine ih _ _ ⟨o,?_,he3,?_⟩
   ·rw[hstep,hwi];exact ho3
   ·simp only[jN,jE,jF,ga]
  |false=>
  simp only[jN,jB,jE,jF,jG,ga,LA3];refine(j31 hlt (hm.ext E3 (jM _)) hok).mono ?_;rintro _ h4 ⟨e4,rfl⟩;have E4:=E3.step e4;have P4:=(e4.2 _ l3).trans P3;have l5:=jR P4;have LP4:=xI P4;have he4:zM h1.n h1 h4:=he3.step e4;have ho4:=ho3.ext e4 (jM _);have b2:=ho4.isSl;have b3:=ho4.lenD;simp only[jN,jB,jE,jF,reduceCtorEq,ga];refine⟨fun htw=> ?_,fun htw=> ?_⟩
  ·simp only[hws];refine ih _ _ ⟨o,?_,he4,?_⟩
   ·rw[hstep,hwi,htw];exact ho4
   ·simp only[jN,jE,jF,ga]
  rw[hwi,htw]at hstep;have hstep:kQ m (i+1)=ES x.id (kQ m i):=hstep;have hlr:=Mg m i;simp only[jN,jB,jE,jF,jG,ga,b2,b3,LP4];obtain⟨h6,hh6⟩:∃h6,h6=h4.push (.cells [.lit (.int .i64 x.id)] 3):=⟨_,rfl⟩;have e6:=ZS hh6;have A6:h6.at h4.n=some (.cells [.lit (.int .i64 x.id)] 3):=hh6▸zI h4 _;have n6:=jR A6;rw[<-hh6];have ho6:=ho4.ext e6 (jM _);refine qM (ho6.snoc (by kernel_rfl) (by kernel_rfl) (by kernel_rfl) (zv:= .lit (.int .i64 0)) (by kernel_rfl) (by':=8) (by kernel_rfl) rfl (by decide) (by decide) A6 (y:=x.id) ⟨rfl,i1⟩ (by omega) (by omega) (by omega)) ?_;rintro s' h7 ⟨o7,e7,k7⟩;obtain⟨k8,k9⟩:=k7 h.n (by omega) hap;have P7:=k8.trans ((e6.2 _ l5).trans P4);have he7:zM h1.n h1 h7:=(he4.step e6).trans e7;obtain⟨p,rfl,hp,hat,hI⟩:=o7.ints (by simp);have hpn:p≠h.n:=fun hh=>k9 _ _ _ (by rw[hh]);simp only[jN,jE,ga];have hIl:∀y∈kQ m i,Zq y:=fun y hy=>hI y (List.mem_append.2 (.inl hy));have hll:(kQ m i++[x.id]).length=(kQ m i).length+1:=by simp
  rw[hll];refine ZP (fun(a:Nat) t h'=>∃w,h'.at p=some (.cells (iL ((kQ m i).take a++w::(kQ m i).drop a)) 3)/\Zq w/\a<=(kQ m i).length/\UF x.id (kQ m i) a=UF x.id (kQ m i) (kQ m i).length/\zM h1.n h1 h'/\h'.at h.n=some (.cells [.lit (.int .i64 x.id),.lit (.int .i64 x.kind),va,vw] 122)/\t.n=60/\t.get 1= .ptr H.n 0/\t.get 3= .sl p 0 ((kQ m i).length+1) (.un 1)/\t.get 5= .ptr h.n 0/\t.get 6= .lit (.int .i64 a)/\t.get 8=vb/\t.get 9= .lit (.int .i64 m.buckets.length)/\t.get 10= .lit (.int .i64 i)) (fun a=>a) ?_ (kQ m i).length _ _ ?_
  ·rintro a t h8 ⟨w,W1,hw64,hal,hpos,he8,P8,gb⟩ ih2;have LW:=xI W1;have l8:=jR P8;have LP8:=xI P8;have qs1:isSl (.sl p 0 ((kQ m i).length+1) (.un 1))=true:=rfl;have qs2:lenD (.sl p 0 ((kQ m i).length+1) (.un 1))=(kQ m i).length+1:=rfl;have qs3:slB (.sl p 0 ((kQ m i).length+1) (.un 1))=p:=rfl;have qs4:slO (.sl p 0 ((kQ m i).length+1) (.un 1))=0:=rfl;have lp:=jR W1;cases a with
   |zero=>
    have c0:((0:Int)<((0:Nat):Int))=False:=by decide
    have e1:0<(kQ m i).length+1:=by omega
    have hput:=DQ (xs:=(kQ m i).take 0++w::(kQ m i).drop 0) (i:=0) (x:=x.id) (by rw[UZ hal];omega);rw[IU hal]at hput;have hst:ES x.id (kQ m i)=(kQ m i).take 0++x.id::(kQ m i).drop 0:=by unfold ES;rw[<-hpos];rfl
    simp only[Jy];rw[zL [0,1,2,3,4,5,6,7,8,9,10,11] 11146287966983201190429055796073810005856256 (by kernel_rfl)];repeat (first|((with_reducible refine jX ?_;simp only[vO];try simp only[vP,jB,jD,jH,jI,jF]);simp only[Jy,qT,YU,jB,jE,jF,reduceCtorEq,zG,gb,c0,LP8,qs1,qs2,qs3,qs4,e1,W1,hput,hws])|simp only[Jy,qT,put,YU,Qc,xS,xK,qA,jB,jC,jD,jE,jF,reduceCtorEq,jG,jJ,jK,jL,zG,-put,-qA,-xK,-xS,gb,c0,LP8,l8,qs1,qs2,qs3,qs4,e1,W1,lp,hput,hws])
    refine ih _ _ ⟨.sl p 0 ((kQ m i).length+1) (.un 1),?_,he8.put _ hp,?_⟩
    ·rw[hstep,hst,<-UZ (w:=x.id) hal];refine qE.ofInts hp (qJ _ lp) ?_;intro y hy;rcases List.mem_append.1 hy with hy|hy
     ·exact hIl y (ZY hy)
     ·rcases List.mem_cons.1 hy with rfl|hy
      ·exact i1
      ·exact hIl y (Yo hy)
    ·simp only[jN,jE,jF,gb]
   |succ b=>
    have c0:((0:Int)<((b+1:Nat):Int))=True:=by simp only[eq_iff_iff,iff_true];omega
    have hwb:IntKind.i64.wrap (((b+1:Nat):Int)-1)=(b:Int):=(vW (by omega) (by omega)).trans (by omega);have hb1:b<(kQ m i).length:=by omega
    have e0:b<(kQ m i).length+1:=by omega
    have e1:b+1<(kQ m i).length+1:=by omega
    have hLb:YU (zH Tryz.prog kR) 3 (iL ((kQ m i).take (b+1)++w::(kQ m i).drop (b+1))) b=some (.lit (.int .i64 ((kQ m i).getD b 0))):=by rw[Lg (by kernel_rfl) (by kernel_rfl) (by rw[UZ hal];omega),tO (by omega) hal]
    have hput:=DQ (xs:=(kQ m i).take (b+1)++w::(kQ m i).drop (b+1)) (i:=b+1) (x:=x.id) (by rw[UZ hal];omega);rw[IU hal]at hput;have hput2:=DQ (xs:=(kQ m i).take (b+1)++w::(kQ m i).drop (b+1)) (i:=b+1) (x:=(kQ m i).getD b 0) (by rw[UZ hal];omega);rw[IU hal,iW hb1]at hput2;simp only[Jy];rw[zL [0,1,2,3,4,5,6,7,8,9,10,11] 11146287966983201190429055796073810005856256 (by kernel_rfl)];repeat (first|((with_reducible refine jX ?_;simp only[vO];try simp only[vP,jB,jD,jH,jI,jF]);simp only[Jy,qT,YU,jB,jE,jF,reduceCtorEq,zG,-YU,gb,c0,hwb,qs1,qs2,qs3,qs4,e0,e1,LW,hLb,LP8,W1,hput,hput2,hws])|simp only[Jy,qT,put,YU,Qc,xS,xK,qA,jB,jC,jD,jE,jF,reduceCtorEq,jG,jJ,jK,jL,zG,-put,-YU,gb,c0,hwb,qs1,qs2,qs3,qs4,e0,e1,LW,hLb,LP8,l8,W1,lp,hput,hput2,hws])
    rw[UF]at hpos;refine⟨fun hq=> ?_,fun hq=> ?_⟩
    ·rw[if_pos (of_decide_eq_true hq)]at hpos;refine ih2 b _ _ ⟨(kQ m i).getD b 0,qJ _ lp,hIl _ (zR (Ji 0 hb1)),by omega,hpos,he8.put _ hp,(zE _ hpn).trans P8,?_⟩ (by omega);simp only[jN,jE,jF,gb]
    ·rw[if_neg (of_decide_eq_false hq)]at hpos;have hst:ES x.id (kQ m i)=(kQ m i).take (b+1)++x.id::(kQ m i).drop (b+1):=by unfold ES;rw[<-hpos]
     refine ih _ _ ⟨.sl p 0 ((kQ m i).length+1) (.un 1),?_,he8.put _ hp,?_⟩
     ·rw[hstep,hst,<-UZ (w:=x.id) hal];refine qE.ofInts hp (qJ _ lp) ?_;intro y hy;rcases List.mem_append.1 hy with hy|hy
      ·exact hIl y (ZY hy)
      ·rcases List.mem_cons.1 hy with rfl|hy
       ·exact i1
       ·exact hIl y (Yo hy)
     ·simp only[jN,jE,jF,gb]
  ·refine⟨x.id,?_,i1,jM _,rfl,he7,P7,?_⟩
   ·rw[xC,Zh];exact hat
   ·simp only[jN,jE,jF,ga]
 ·rintro t h hc ⟨o,ho,he,ga⟩;simp only[jN,jB,jE,jF,reduceCtorEq,s1,s2,ga,hc];exact⟨E0.trans (he.mono (by omega)),ho.toSl (fun _ h=>h.elim) (fun b hb=>by omega)⟩
 ·refine⟨_,qE.nil,zM.refl _ _,?_⟩;simp only[jN,jB,jE,jF];(repeat' apply And.intro)<;>first|rfl|trivial
variable{id:Int}
theorem Yu(hg:vX m=true){b:yL}(hb:kU m id=some b):
 b∈m.buckets/\b.id=id/\1<=b.kind/\b.kind<=3/\b.id<0/\b.items.length=b.weights.length/\(∀i,i<b.items.length->0<=yY m (b.items.getD i 0)/\yY m (b.items.getD i 0)<b.kind)/\∀i,i<b.weights.length->fM (b.weights.getD i 0)=true:=by
 have hm:=ZG hb
 have hid:=List.find?_some hb
 obtain⟨j,hj,hjb⟩:=List.mem_iff_getElem.1 hm
 have hx:m.buckets[j]? =some b:=by rw[jO hj,hjb]
 unfold vX at hg
 simp only[jW]at hg
 have:=List.all_eq_true.1 hg.2 j (List.mem_range.2 hj)
 rw[Vl hx]at this
 unfold OM KM at this
 simp only[jW,decide_eq_true_eq,beq_iff_eq]at this
 obtain⟨⟨⟨⟨⟨⟨a1,a2⟩,a3⟩,a4⟩,a5⟩,a6⟩,a7⟩:=this
 refine⟨hm,by simpa using hid,a3,a4,a2,a5,fun i hi=> ?_,fun i hi=> ?_⟩
 ·have:=List.all_eq_true.1 a7 i (List.mem_range.2 hi);unfold Kx at this;simp only[jW,decide_eq_true_eq]at this;exact this.1
 ·exact List.all_eq_true.1 a6 _ (zR (Ji 0 hi))
theorem Vv(hid:id<0){b:yL}(hb:kU m id=some b):yY m id=b.kind:=by unfold yY qN;rw[if_neg (by omega),hb];rfl
def Xf(m:zU)(k x r:Int):Nat->Int->Option Int
 |0,_=>none
 |n+1,at'=>match kU m at' with
  |none=>none
  |some b=>match JZ b.items b.weights x r with
   |none=>none
   |some i=>if 0<=b.items.getD i 0\/yY m (b.items.getD i 0)=k then some (b.items.getD i 0)else Xf m k x r n (b.items.getD i 0)
def wI:Option Int->AV
 |some k=>De k true
 |none=>De 0 false
theorem sU(QI k x r:Int)(hm:vG F H m vo vp vb)(hok:OC m)(hg:vX m=true):
 vR 137 [vS m vo vp vb,.lit (.int .i64 QI),.lit (.int .i64 k),.lit (.int .u32 x),.lit (.int .i64 r)] H fun v h'=>zM H.n H h'/\v=wI (Xf m k x r 4 QI):=by
 refine zW Tryz.func137 rfl rfl ?_
 obtain⟨hl,hbs,hit⟩:=id hok
 have o1:=hm.o.one
 have o2:=hm.p.one
 have o3:=hm.b.one
 simp only[jN,seval,Tryz.ntmps137,vS,o1,o2,o3]
 obtain⟨h1,hh1,E0,A0⟩:=xX H (.cells [.lit (.int .i64 m.epoch),vo,vp,vb,.lit (.int .i64 m.leaf)] 66)
 have n1:h1.n=H.n+1:=by rw[hh1,zF]
 rw[<-hh1]
 clear hh1
 refine ZP (fun(n:Nat) t h=>∃a,zM h1.n h1 h/\1<=n/\(∀b,kU m a=some b->b.kind<(n:Int))/\Xf m k x r n a=Xf m k x r 4 QI/\t.n=50/\t.get 1= .lit (.int .i64 a)/\t.get 2= .lit (.int .i64 k)/\t.get 3= .lit (.int .u32 x)/\t.get 4= .lit (.int .i64 r)/\t.get 5= .ptr H.n 0) (fun n=>n) ?_ 4 _ _ ?_
 ·rintro n t h ⟨a,he,hn1,hkd,hD,ga⟩ ih;obtain⟨n,rfl⟩:∃n',n=n'+1:=⟨n-1,by omega⟩;have E1:zM H.n H h:=E0.trans (he.mono (by omega));have A1:=(he.2 _ (by omega)).trans A0;have l1:H.n<h.n:=jR A1;have LA1:=xI A1;simp only[jN,seval,ga,LA1];refine(Ev a (hm.ext E1 (jM _)) hl).mono ?_;rintro _ h2 ⟨e2,va,vw,rfl,b1,b2⟩;have o4:=b1.one;have o5:=b2.one;have E2:=E1.step e2;rw[Xf]at hD;cases hb:kU m a with
  |none=>
   rw[hb]at hD;simp only[jN,seval,ga,Xq,o4,o5,Jg];refine⟨E2.push _ E2.1,?_⟩;rw[<-hD];rfl
  |some b=>
   have hG:qN m a=b:=by unfold qN;rw[hb];rfl
   rw[hG]at b1 b2
   rw[hb]at hD
   simp only at hD
   obtain⟨u1,u2,u3,u4,u5,u6,u7,u8⟩:=Yu hg hb
   obtain⟨k1,k2⟩:=hbs b u1
   unfold Sm at k1
   have hkb:=hkd b hb
   simp only[jN,seval,ga,Xq,o4,o5,hG]
   obtain⟨h3,hh3⟩:∃h3,h3=h2.push (.cells [.lit (.int .i64 b.id),.lit (.int .i64 b.kind),va,vw] 122):=⟨_,rfl⟩
   have e3:=ZS hh3
   have P3:h3.at h2.n=some (.cells [.lit (.int .i64 b.id),.lit (.int .i64 b.kind),va,vw] 122):=hh3▸zI h2 _
   have LP3:=xI P3
   have l3:=jR P3
   rw[<-hh3]
   clear hh3
   have E3:=E2.step e3
   have b3:=b1.ext e3 (jM _)
   have b4:=b2.ext e3 (jM _)
   refine(iC x r b3 b4 (by omega)).mono ?_
   rintro _ h4 ⟨rfl,rfl⟩
   cases hch:JZ b.items b.weights x r with
   |none=>
    rw[hch]at hD;simp only[jN,seval,ga,Al,De];refine⟨E3,?_⟩;rw[<-hD];rfl
   |some i=>
    obtain⟨hi,-⟩:=GB hch;obtain⟨q1,q2⟩:=u7 i hi;rw[hch]at hD;have c1:=b3.isSl;have c2:=b3.lenD;have hlda:=b3.int (T:=zH Tryz.prog kR) (e:=3) (by kernel_rfl) (by kernel_rfl) hi;have A3:=(e3.2 _ (by have:=e2.1;omega)).trans ((e2.2 _ l1).trans A1);have LA3:=xI A3;simp only[jN,seval,ga,Al,De,LP3,c1,c2,hi,hlda];obtain⟨w,hw⟩:∃w,w=b.items.getD i 0:=⟨_,rfl⟩;simp only at hD;rw[<-hw]at hD q1 q2 ⊢;by_cases hw0:0<=w
    ·rw[if_pos (.inl hw0)]at hD;simp only[jN,seval,ga,hw0];refine⟨E3,?_⟩;rw[<-hD];rfl
    ·simp only[jN,seval,ga,hw0,LA3];refine(tX w (hm.ext E3 (jM _)) hl).mono ?_;rintro _ h5 ⟨e5,rfl⟩;have E5:=E3.step e5;simp only[jN,seval,ga];refine⟨fun hq=> ?_,fun hq=> ?_⟩
     ·rw[if_pos (.inr (eq_of_beq hq))]at hD;refine⟨E5,?_⟩;rw[<-hD];rfl
     ·rw[if_neg (by rintro(h9|h9);exact hw0 h9;rw[h9]at hq;simp at hq)]at hD;refine ih n _ _ ⟨w,((he.step e2).step e3).step e5,?_,?_,hD,?_⟩ (by omega)
      ·omega
      ·intro b' hb';have:=Vv (by omega) hb';omega
      ·simp only[jN,seval,ga]
 ·refine⟨QI,zM.refl _ _,by decide,fun b hb=>by have:=(Yu hg hb).2.2.2.1;omega,rfl,?_⟩;simp only[jN,seval]
def BT(m:zU)(x root:Int)(s:List Int×List Int)(r:Int):Option (Int×Int):=match Xf m m.leaf x r 4 root with
 |none=>none
 |some d=>if s.2.contains d then none else match (if d<0 then Xf m 0 x r 4 d else some d)with
  |none=>none
  |some o=>if !Yw m o x||s.1.contains o then none else some (o,d)
def Xh(m:zU)(x root:Int)(s:List Int×List Int)(k:Nat):Nat->Option (Int×Int)
 |0=>none
 |t+1=>match Xh m x root s k t with
  |some y=>some y
  |none=>BT m x root s ((k+t:Nat):Int)
def VP(m:zU)(x root:Int)(s:List Int×List Int)(k:Nat):List Int×List Int:=match Xh m x root s k 50 with
 |some (o,d)=>(s.1++[o],s.2++[d])
 |none=>s
def Xz(m:zU)(x root:Int):Nat->List Int×List Int
 |0=>([],[])
 |k+1=>VP m x root (Xz m x root k) k
def Hp(n:Int):Nat:=if 8<n then 8 else n.toNat
def Zm(m:zU)(x n:Int):List Int:=if vX m then(match Vg m with
 |[]=>[]
 |root::_=>(Xz m x root (Hp n)).1)else[]
theorem CQ(m:zU)(x root:Int):∀k,(Xz m x root k).1.length<=k/\(Xz m x root k).2.length<=k
 |0=>⟨jM 0,jM 0⟩
 |k+1=>by
  obtain⟨h1,h2⟩:=CQ m x root k;unfold Xz VP;split
  ·simp;omega
  ·omega
theorem Ao{m:zU}{x root:Int}{s:List Int×List Int}{k i:Nat}{y:Int×Int}(h:Xh m x root s k i=some y):∀j,i<=j->Xh m x root s k j=some y
 |0,hj=>by
  have:i=0:=by omega
  subst this;exact h
 |j+1,hj=>by
  by_cases hi:i=j+1
  ·subst hi;exact h
  ·rw[Xh,Ao h j (by omega)]
variable{s:List Int×List Int}{root:Int}
theorem DH:Xh m x root s k 0=none:=rfl
theorem DG{t:Nat}(h:Xh m x root s k t=none):Xh m x root s k (t+1)=BT m x root s ((k+t:Nat):Int):=by rw[Xh,h]
attribute [irreducible] Xh
theorem nI{o d:Int}(h:Xh m x root (Xz m x root k) k i=some (o,d))(hi:i<=50):Xz m x root (k+1)=((Xz m x root k).1++[o],(Xz m x root k).2++[d]):=by have:=Ao h 50 hi;rw[Xz];unfold VP;rw[this]
theorem nH(h:Xh m x root (Xz m x root k) k 50=none):Xz m x root (k+1)=Xz m x root k:=by rw[Xz];unfold VP;rw[h]
theorem UU{F:Nat->Prop}{H:AH}{m:zU}{vo vp vb:AV}{k x r:Int}(hm:vG F H m vo vp vb):∀n a d,Xf m k x r n a=some d->Zq d
 |0,a,d,h=>by cases h
 |n+1,a,d,h=>by
  unfold Xf at h;cases hb:kU m a with
  |none=>rw[hb]at h;cases h
  |some b=>
  rw[hb]at h;simp only at h;cases hc:JZ b.items b.weights x r with
  |none=>rw[hc]at h;cases h
  |some i=>
  rw[hc]at h;simp only at h;split at h
  ·cases h;have hbm:=ZG hb;obtain⟨j,hj,hjb⟩:=List.mem_iff_getElem.1 hbm;have hx:m.buckets[j]? =some b:=by rw[jO hj,hjb]
   obtain⟨c,hc',_⟩:=hm.b.atE (T:=zH Tryz.prog kR) (zM.refl _ _) (z:=4) rfl hx;obtain⟨va,vw,rfl,hi1,_⟩:=Jx.1 hc';refine hi1.i64 i ?_;have hq:=ID b.items b.weights x r b.items.length;unfold JZ at hc;split at hc
   ·split at hc
    ·have hc:=jS hc;omega
    ·cases hc
   ·cases hc
  ·exact UU hm n _ d h
def Bm(u v:AV):Prop:=∀b o n c o' n' c',u= .sl b o n c->v= .sl b o' n' c'->False
theorem Bm.nil_l:Bm (.lit (.slice none 0 0)) v:=fun _ _ _ _ _ _ _ h _=>by cases h
variable{u:AV}
theorem Bm.symm(h:Bm u v):Bm v u:=fun b o n c o' n' c' h1 h2=>h b o' n' c' o n c h2 h1
theorem Bm.apart{v:AV}(h:Bm u v){o:Nat}{c:Cap}(hv:v= .sl b o n c):qR u b:=fun o' n' c' hu=>h b o' n' c' o n c hu hv
theorem qE.other{α:Type}{R:Zl α}{s:AV}{xs:List α}(ho:qE R (fun _=>False) n0 h v e xs)(hd:Bm u v)(hk:∀b,b<h.n->qR u b->h'.at b=h.at b/\qR s b):qE R (fun _=>False) n0 h' v e xs/\Bm s v:=by
 have key:∀b off n cap,v= .sl b off n cap->b<h.n:=fun b off n cap hv=>by
  obtain⟨L,h1,h2⟩:=ho;rcases h1.2 with⟨hh,_⟩|⟨p,hh,hp,hat⟩
  ·rw[hh]at hv;cases hv
  ·rw[hh]at hv;cases hv;exact jR hat
 refine⟨ho.lift (fun b off n cap hv=>(hk b (key _ _ _ _ hv) (hd.apart hv)).1) (fun b hb=>hb.elim),fun b o n c o' n' c' hs hv=> ?_⟩;exact(hk b (key _ _ _ _ hv) (hd.apart hv)).2 _ _ _ hs
theorem nK(x n:Int)(hm:vG F H m vo vp vb)(hok:OC m)(hlo:Sm 40 m.osds):
 vR 123 [vS m vo vp vb,.lit (.int .u32 x),.lit (.int .i64 n)] H fun v h'=>zM H.n H h'/\zJ qB (fun b=>H.n<=b) h' v (Zm m x n):=by
 refine zW Tryz.func123 rfl rfl ?_
 have o1:=hm.o.one
 have o2:=hm.p.one
 have o3:=hm.b.one
 have i1:=hm.o.isSl
 have i2:=hm.p.isSl
 have i3:=hm.b.isSl
 have EP:∀x,zM H.n H (H.push x):=fun x=>(zM.refl _ _).push _ (jM _)
 simp only[jN,jB,jC,jE,jF,jG,Tryz.ntmps123,vS,o1,o2,o3]
 obtain⟨h1,hh1⟩:∃h1,h1=H.push (.cells [.lit (.int .i64 m.epoch),vo,vp,vb,.lit (.int .i64 m.leaf)] 66):=⟨_,rfl⟩
 have E0:zM H.n H h1:=hh1▸EP _
 have A0:h1.at H.n=some (.cells [.lit (.int .i64 m.epoch),vo,vp,vb,.lit (.int .i64 m.leaf)] 66):=hh1▸zI _ _
 have n1:h1.n=H.n+1:=by rw[hh1,zF]
 rw[<-hh1]
 clear hh1
 refine(j00 (hm.ext E0 (jM _)) hok).mono ?_
 rintro vr h2 ⟨e2,hr⟩
 have E2:=E0.step e2
 have A2:=(e2.2 _ (by omega)).trans A0
 have l2:=jR A2
 have LA2:=xI A2
 simp only[jN,jB,jE,jF,jG,LA2]
 refine(Pg (hm.ext E2 (jM _)) hok).mono ?_
 rintro _ h3 ⟨e3,rfl⟩
 have E3:=E2.step e3
 have A3:=(e3.2 _ l2).trans A2
 have l3:=jR A3
 have LA3:=xI A3
 have hr3:=hr.ext e3 (jM _)
 have r1:=hr3.isSl
 have r2:=hr3.lenD
 cases hg:vX m with
 |false=>
  simp only[jN,jB,jE,jF,reduceCtorEq];refine⟨E3,?_⟩;unfold Zm;rw[hg];exact zJ.nil
 |true=>
 simp only[Jy,jB,jE,jF,r1,r2]
 rw[qT]
 simp only[Jy,jB,jE,jF,reduceCtorEq]
 cases hrt:Vg m with
 |nil=>
  refine⟨fun _=>⟨E3,?_⟩,fun hq=>absurd hq (by decide)⟩;unfold Zm;rw[hg,hrt];exact zJ.nil
 |cons root rest=>
 have hrl:(0:Nat)<(Vg m).length:=by rw[hrt];simp
 have hr0:(Vg m).getD 0 0=root:=by rw[hrt];rfl
 have hsel:Zm m x n=(Xz m x root (Hp n)).1:=by unfold Zm;rw[hg,hrt];rfl
 rw[<-hrt]
 refine⟨fun hq=>absurd (eq_of_beq hq) (by omega),fun hq0=> ?_⟩
 have hldr:∀h',zM h3.n h3 h'->Jr (zH Tryz.prog kR) h' 3 (slB vr) (slO vr)=some (.lit (.int .i64 root)):=fun h' e'=>by have:=(hr3.ext e' (jM _)).int (T:=zH Tryz.prog kR) (e:=3) (by kernel_rfl) (by kernel_rfl) hrl;rw[hr0]at this;exact this
 refine Bt (fun t h=>h=h3/\t.n=93/\t.get 1= .lit (.int .u32 x)/\t.get 2= .lit (.int .i64 (if 8<n then 8 else n))/\t.get 3= .ptr H.n 0/\t.get 7=vr) (fun k' K' hk=> ?_) ?_
 ·rw[qT];simp only[jN,jB,jE];refine⟨fun hq=>hk _ _ ⟨rfl,?_⟩,fun hq=>hk _ _ ⟨rfl,?_⟩⟩
  ·simp only[jN,jB,jE,jF];rw[if_pos (of_decide_eq_true hq)]
  ·simp only[jN,jB,jE,jF];rw[if_neg (of_decide_eq_false hq)]
 rintro t h ⟨rfl,hn,g1,g2,g3,g7⟩
 obtain⟨nn,hnn⟩:∃nn:Int,nn=(if 8<n then 8 else n):=⟨_,rfl⟩
 have hcnt:Hp n=nn.toNat:=by unfold Hp;rw[hnn];split<;>rfl
 have hnn8:nn<=8:=by rw[hnn];split<;>omega
 rw[<-hnn]at g2
 simp only[jN,jB]
 refine ZP (fun(k:Nat) t h'=>∃o8 o9,qE qB (fun _=>False) h.n h' o8 3 (Xz m x root k).1/\qE qB (fun _=>False) h.n h' o9 3 (Xz m x root k).2/\Bm o8 o9/\zM h.n h h'/\k<=nn.toNat/\t.n=93/\t.get 1= .lit (.int .u32 x)/\t.get 2= .lit (.int .i64 nn)/\t.get 3= .ptr H.n 0/\t.get 7=vr/\t.get 8=o8/\t.get 9=o9/\t.get 10= .lit (.int .i64 k)) (fun k=>nn.toNat-k) ?_ 0 _ _ ?_
 ·rintro k t h' ⟨o8,o9,ho8,ho9,hdj,he,hk8,hn,g1,g2,g3,g7,g8,g9,g10⟩ ih;have hws:IntKind.i64.wrap ((k:Int)+1)=((k+1:Nat):Int):=xG (n:=60) (by omega) (by omega);by_cases hlt:(k:Int)<nn
  ·simp only[jN,jB,jE,jF,reduceCtorEq,hn,g2,g8,g10,hlt];refine kO 50 (fun i t h''=>qE qB (fun _=>False) h.n h'' o8 3 (Xz m x root k).1/\qE qB (fun _=>False) h.n h'' o9 3 (Xz m x root k).2/\zM h.n h h''/\Xh m x root (Xz m x root k) k i=none/\t.n=93/\t.get 1= .lit (.int .u32 x)/\t.get 2= .lit (.int .i64 nn)/\t.get 3= .ptr H.n 0/\t.get 7=vr/\t.get 8=o8/\t.get 9=o9/\t.get 10= .lit (.int .i64 k)/\t.get 32= .lit (.int .i64 i)) ?_ ?_ _ _ ?_
   ·rintro i t h'' hi hc ⟨ho8,ho9,he,hf,hn,g1,g2,g3,g7,g8,g9,g10,g32⟩ ih2;have hc:((i:Int)<50)=True:=by simp only[eq_iff_iff,iff_true];omega
    have hws2:=xG hi (by omega);have hwk:IntKind.i64.wrap ((k:Int)+(i:Int))=((k+i:Nat):Int):=(vW (by omega) (by omega)).trans (by omega);have E4:=E3.step he;have A4:=(he.2 _ l3).trans A3;have l4:=jR A4;have LA4:=xI A4;have hld:=hldr _ he;have hf1:Xh m x root (Xz m x root k) k (i+1)=BT m x root (Xz m x root k) ((k+i:Nat):Int):=DG hf;simp only[jN,jB,jE,jF,reduceCtorEq,hn,g10,g32,hc];rw[zL [0,1,2,3,4,5,6,7,8,9,10,11,12,13,14,15] 57894498602201080953831723561861934525600930330085416820754349620958190370816 (by kernel_rfl)];repeat ((with_reducible refine jX ?_;simp only[vO];try simp only[vP,jB,jD,jH,jI]);simp only[jN,jB,jE,jF,jG,jJ,zG,hn,g1,g3,g7,g10,LA4,r1,r2,hrl,hld,hwk,i1,i2,i3])
    refine(sU root m.leaf x _ (hm.ext E4 (jM _)) hok hg).mono ?_;rintro _ h5 ⟨e5,rfl⟩;have E5:=E4.step e5;have A5:=(e5.2 _ l4).trans A4;have l5:=jR A5;have LA5:=xI A5;have he5:=he.step e5;have ho8:=ho8.ext e5 (jM _);have ho9:=ho9.ext e5 (jM _);obtain⟨q1,q2⟩:=CQ m x root k;have v8:=ho8.toSl (F:=fun _=>True) (fun _ _=>trivial) (fun _ _=>trivial);have v9:=ho9.toSl (F:=fun _=>True) (fun _ _=>trivial) (fun _ _=>trivial);unfold BT at hf1;cases hdn:Xf m m.leaf x ((k+i:Nat):Int) 4 root with
    |none=>
     rw[hdn]at hf1;repeat ((with_reducible refine jX ?_;simp only[vO];try simp only[vP,jB,jD,jH,jI,jF]);simp only[jN,jB,jE,jF,reduceCtorEq,jG,jK,zG,hn,g3,g8,g32,wI,De])
     simp only[hws2];refine ih2 _ _ ⟨ho8,ho9,he5,hf1,?_⟩;simp only[jN,jE,jF,hn,g1,g2,g3,g7,g8,g9,g10]
    |some d=>
    rw[hdn]at hf1;simp only at hf1;repeat ((with_reducible refine jX ?_;simp only[vO];try simp only[vP,jB,jD,jH,jI,jF]);simp only[Jy,xS,jB,jE,jF,zG,hn,g9,wI,De])
    refine(RH d v9 (by omega)).mono ?_;rintro _ h6 ⟨rfl,rfl⟩;cases hcd:(Xz m x root k).2.contains d with
    |true=>
     rw[hcd,if_pos rfl]at hf1;simp only[jN,jB,jE,jF,reduceCtorEq,hn,g3,g32,hws2];refine ih2 _ _ ⟨ho8,ho9,he5,hf1,?_⟩;simp only[jN,jE,jF,hn,g1,g2,g3,g7,g8,g9,g10]
    |false=>
    rw[hcd,if_neg (by decide)]at hf1;simp only[Jy,jE,jF,hn];rw[qT];simp only[Jy,jB,jE,jF,reduceCtorEq,hn,g32];obtain⟨od,hod⟩:∃od,od=(if d<0 then Xf m 0 x ((k+i:Nat):Int) 4 d else some d):=⟨_,rfl⟩;rw[<-hod]at hf1;refine Bt (fun t h7=>zM h6.n h6 h7/\t.n=93/\t.get 1= .lit (.int .u32 x)/\t.get 2= .lit (.int .i64 nn)/\t.get 3= .ptr H.n 0/\t.get 7=vr/\t.get 8=o8/\t.get 9=o9/\t.get 10= .lit (.int .i64 k)/\t.get 32= .lit (.int .i64 i)/\t.get 12= .lit (.int .i64 d)/\t.get 13= .lit (.bool od.isSome)/\t.get 14= .lit (.int .i64 (od.getD 0))) (fun k' K' hk=> ?_) ?_
    ·by_cases hd0:d<0
     ·rw[if_pos hd0]at hod;simp only[jN,jB,jE,jF,reduceCtorEq,jG,hn,g1,g3,g10,hd0,LA5,hwk];refine(sU d 0 x _ (hm.ext E5 (jM _)) hok hg).mono ?_;rintro _ h7 ⟨e7,rfl⟩;rw[<-hod];cases od with
      |none=>
       simp only[jN,jE,jF,hn,wI,De];refine hk _ _ ⟨e7,?_⟩;simp only[jN,jE,jF,hn,g1,g2,g3,g7,g8,g9,g10,g32,Jg,Option.getD_none]
      |some o=>
       simp only[jN,jE,jF,hn,wI,De];refine hk _ _ ⟨e7,?_⟩;simp only[jN,jE,jF,hn,g1,g2,g3,g7,g8,g9,g10,g32]
     ·rw[if_neg hd0]at hod;simp only[jN,jB,jE,jF,reduceCtorEq,hn,g3,hd0];refine hk _ _ ⟨zM.refl _ _,?_⟩;subst hod;simp only[jN,jE,jF,hn,g1,g2,g3,g7,g8,g9,g10,g32]
    rintro t h7 ⟨e7,hn,g1,g2,g3,g7,g8,g9,g10,g32,g12,g13,g14⟩;have E7:=E5.step e7;have A7:=(e7.2 _ l5).trans A5;have LA7:=xI A7;have he7:=he5.step e7;have ho8:=ho8.ext e7 (jM _);have ho9:=ho9.ext e7 (jM _);cases od with
    |none=>
     simp only[jN,jB,jE,jF,reduceCtorEq,jG,hn,g8,g32,g13,g14,hws2,Jg];refine ih2 _ _ ⟨ho8,ho9,he7,hf1,?_⟩;simp only[jN,jE,jF,hn,g1,g2,g3,g7,g8,g9,g10]
    |some o=>
    simp only at hf1;simp only[jN,jB,jE,jF,jG,hn,g1,g3,g13,g14,LA7];refine(j4M o x (hm.ext E7 (jM _)) hlo).mono ?_;rintro _ h8 ⟨e8,rfl⟩;have E8:=E7.step e8;have he8:=he7.step e8;have ho8:=ho8.ext e8 (jM _);have ho9:=ho9.ext e8 (jM _);have w8:=ho8.toSl (F:=fun _=>True) (fun _ _=>trivial) (fun _ _=>trivial);cases hmy:Yw m o x with
    |false=>
     rw[hmy]at hf1;simp only[oV,Bool.true_or,if_true]at hf1;simp only[jN,jB,jE,jF,reduceCtorEq,jG,hn,g8,g32,g14,hws2];refine ih2 _ _ ⟨ho8,ho9,he8,hf1,?_⟩;simp only[jN,jE,jF,hn,g1,g2,g3,g7,g8,g9,g10]
    |true=>
    rw[hmy]at hf1;simp only[jN,jE,jF,hn,g8,g14];refine(RH o w8 (by omega)).mono ?_;rintro _ h9 ⟨rfl,rfl⟩;cases hco:(Xz m x root k).1.contains o with
    |true=>
     rw[hco]at hf1;simp only[BW,Bool.or_true,if_true]at hf1;simp only[jN,jB,jE,jF,reduceCtorEq,jG,hn,g8,g32,g14,hws2];refine ih2 _ _ ⟨ho8,ho9,he8,hf1,?_⟩;simp only[jN,jE,jF,hn,g1,g2,g3,g7,g8,g9,g10]
    |false=>
    rw[hco]at hf1;simp only[BW,BX,Je,if_false]at hf1;have I1:Zq o:=by
     by_cases hd0:d<0
     ·rw[if_pos hd0]at hod;exact UU hm _ _ _ hod.symm
     ·rw[if_neg hd0]at hod;cases hod;exact UU hm _ _ _ hdn
    have I2:Zq d:=UU hm _ _ _ hdn;simp only[jN,jB,jE,jF,reduceCtorEq,jG,hn,g8,g32,g14];obtain⟨h10,hh10⟩:∃h10,h10=h9.push (.cells [.lit (.int .i64 o)] 3):=⟨_,rfl⟩;have e10:=ZS hh10;have A10:h10.at h9.n=some (.cells [.lit (.int .i64 o)] 3):=hh10▸zI h9 _;rw[<-hh10];have q1':=he8.1;have q2':=e10.1;refine qM ((ho8.ext e10 (jM _)).snoc (by kernel_rfl) (by kernel_rfl) (by kernel_rfl) (zv:= .lit (.int .i64 0)) (by kernel_rfl) (by':=8) (by kernel_rfl) rfl (by decide) (by decide) A10 (y:=o) ⟨rfl,I1⟩ (by omega) (by omega) (by omega)) ?_;rintro s8 h11 ⟨ho11,e11,k11⟩;obtain⟨ho9',hdj'⟩:=(ho9.ext e10 (jM _)).other hdj k11;simp only[jN,jB,jF,jG,hn,g9,g12];obtain⟨h12,hh12⟩:∃h12,h12=h11.push (.cells [.lit (.int .i64 d)] 3):=⟨_,rfl⟩;have e12:=ZS hh12;have A12:h12.at h11.n=some (.cells [.lit (.int .i64 d)] 3):=hh12▸zI h11 _;rw[<-hh12];have q3':=e11.1;have q4':=e12.1;refine qM ((ho9'.ext e12 (jM _)).snoc (by kernel_rfl) (by kernel_rfl) (by kernel_rfl) (zv:= .lit (.int .i64 0)) (by kernel_rfl) (by':=8) (by kernel_rfl) rfl (by decide) (by decide) A12 (y:=d) ⟨rfl,I2⟩ (by omega) (by omega) (by omega)) ?_;rintro s9 h13 ⟨ho13,e13,k13⟩;obtain⟨ho8',hdj2⟩:=(ho11.ext e12 (jM _)).other hdj'.symm k13;have he13:zM h.n h h13:=(((he8.step e10).trans e11).step e12).trans e13;have hS:Xz m x root (k+1)=((Xz m x root k).1++[o],(Xz m x root k).2++[d]):=nI hf1 (by omega);simp only[jN,jB,jE,jF,reduceCtorEq,hn,g10,hws];refine ih (k+1) _ _ ⟨s8,s9,by rw[hS];exact ho8',by rw[hS];exact ho13,hdj2.symm,he13,by omega,?_⟩ (by omega);simp only[jN,jE,jF,hn,g1,g2,g3,g7]
   ·rintro t h'' hc ⟨ho8,ho9,he,hf,hn,g1,g2,g3,g7,g8,g9,g10⟩;have hc':(((50:Nat):Int)<50)=False:=by decide
    have hS:Xz m x root (k+1)=Xz m x root k:=nH hf;simp only[jN,jB,jE,jF,reduceCtorEq,hn,g10,hc',hws];refine ih (k+1) _ _ ⟨o8,o9,by rw[hS];exact ho8,by rw[hS];exact ho9,hdj,he,by omega,?_⟩ (by omega);simp only[jN,jE,jF,hn,g1,g2,g3,g7,g8,g9]
   ·simp only[jN,jE,jF,hn,g1,g2,g3,g7,g8,g9,g10];exact⟨ho8,ho9,he,DH,rfl⟩
  ·have hlt':((k:Int)<nn)=False:=by simp only[eq_iff_iff,iff_false];exact hlt
   have hke:k=Hp n:=by rw[hcnt];omega
   simp only[jN,jB,jE,jF,reduceCtorEq,hn,g2,g8,g10,hlt'];refine⟨E3.step he,?_⟩;rw[hsel,<-hke];exact ho8.toSl (fun _ hf=>hf.elim) (fun b hb=>zY E3.1 hb)
 ·simp only[jN,jE,jF,hn,g1,g2,g3,g7];exact⟨_,_,qE.nil,qE.nil,Bm.nil_l,zM.refl _ _,rfl,rfl,rfl⟩
end Go.Proofs.YtcieggahhkoeeaaGreat.Ex
