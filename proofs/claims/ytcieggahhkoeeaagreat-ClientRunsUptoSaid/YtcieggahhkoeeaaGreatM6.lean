/- Part 6 of the proof: Kk, La, Lb0, Lb1, Lb2, Lb3, Lb4, Lb5, Lb6, Lc, Ld, Opm, Lop, ClientRunsWalk. -/
import Derived.Test.YtcieggahhkoeeaaGreatM5
open Nat renaming reduceAdd->jB,reduceSub->jC,reduceMul->jD,reduceLT->jE,reduceEqDiff->jF,reduceLeDiff->jG,reduceShiftRight->jH,reduceMod->jI
open Int renaming reduceLE->jJ,reduceLT->jK,reduceToNat->jL
set_option linter.unusedSimpArgs false
set_option linter.unusedVariables false
set_option maxRecDepth 100000
set_option maxHeartbeats 16000000
namespace Go.Proofs.YtcieggahhkoeeaaGreat.Ex
open Go
section
theorem wM{n0:Nat}{H:AH}{x:AV}{ys:List ByteArray}{F:Nat->Prop}(hx:zJ JX F H x ys)(hl:ys.length * 16<=140737488355328)(hn0:n0<=H.n):
 ∃s' h',vZ (zH Tryz.prog kR) H 56 56 (.lit (.slice none 0 0)) x=some (s',h')/\qE JX (fun _=>False) n0 h' s' 9 ys/\zM n0 H h':=by
 obtain⟨L,h1,h2,hc,h3⟩:=hx.out
 have hM:YP JX (fun b=>False/\qR (.lit (.slice none 0 0)) b) H L ys:=⟨h3.1,fun i c x h1 h2=>h3.2 i c x h1 h2⟩
 have ho:qE JX (fun _=>False) n0 H (.lit (.slice none 0 0)) 9 []:= .nil
 obtain⟨s',h',a1,a2,a3,a4⟩:=qE.append ho (T:=zH Tryz.prog kR) (t:=56) (tx:=56) (by kernel_rfl) (by kernel_rfl) (by kernel_rfl) (zv:= .lit (.string ⟨#[]⟩)) (by kernel_rfl) (by':=16) (by kernel_rfl) rfl (by decide) (by decide) h1.src h1.len hM (by simp;omega) (by simp;omega) hn0
 rw[xS]at a2
 exact⟨s',h',a1,a2,a3⟩
section
variable {q p:Nat} {G F:Nat->Prop} {H:AH} {c:vM} {s:Zg} {vo vp vb now ans vi vd vl:AV}
theorem j15(x:Hk)(z:XZ q p G H c s vo vp vb now ans)(hb:0<c.boot)(hi:zJ Kj F H vi x.incs)(hd:zJ xZ F H vd x.d)(hl:zJ JX F H vl x.l)(ho:Ht x)(hme:((x.tk==c.k)&&(x.ti==c.i))=false):
 vR 14 [.ptr q 0,.agg (Uj x vi vd vl)] H fun r h'=>zM H.n H h'/\r= .lit (.slice none 0 0):=by
 refine zW Tryz.func14 rfl rfl ?_
 have g1:=hi.one
 have g2:=hd.one
 have g3:=hl.one
 obtain⟨⟨a0,b0⟩,⟨a1,b1⟩,⟨a2,b2⟩,⟨a3,b3⟩,⟨a4,b4⟩,⟨a5,b5⟩,⟨a6,b6⟩⟩:=ho
 obtain⟨hp,hhp,EP,P0⟩:=xX H (.cells (Uj x vi vd vl) 58)
 have zp:=z.ext EP
 unfold Uj at P0 hhp
 have LP:=xI P0
 have lP:=jR P0
 unfold Uj
 simp only[jN,jB,jC,Tryz.ntmps14,<-hhp,g1,g2,g3,b0,b1,b2,b3,b4,b5,b6]
 rw[zL [0,1,2,3,4,5,6,7,8,9,10,11] 11146288031902756625935560190634610435035136 (by kernel_rfl)]
 repeat ((with_reducible refine jX ?_;simp only[vO];try simp only[vP,jB]);simp only[jN,jB,jE,reduceCtorEq,zG])
 refine(Vd zp.cq hb).mono ?_
 rintro _ _ ⟨rfl,q5⟩
 replace q5:=q5.symm
 subst q5
 have Y:=zp.cq
 unfold XN at Y
 have L:=xI Y
 have lY:=jR Y
 have hkk:(!((x.tk==c.k)&&(x.ti==c.i)))=true:=by rw[hme];rfl
 repeat (first|((with_reducible refine jX ?_;simp only[vO];try simp only[vP,jB,jD,jH,jI,jF]);simp only[jN,jB,jE,jF,reduceCtorEq,jG,zG,LP,L,vJ,kP,hkk])|simp only[jN,jB,jC,jD,jE,jF,reduceCtorEq,jG,jJ,jK,jL,zG,LP,lP,L,lY,vJ,kP,hkk])
 exact EP
theorem j17(x:Hk)(z:XZ q p G H c s vo vp vb now ans)(hb:0<c.boot)(hi:zJ Kj F H vi x.incs)(hd:zJ xZ F H vd x.d)(hl:zJ JX F H vl x.l)(ho:Ht x)(hme:((x.tk==c.k)&&(x.ti==c.i))=true)(h1:((x.kind==15)&&(x.fk==1))=false)(h2:((x.kind==31)&&(x.fk==2))=false):
 vR 14 [.ptr q 0,.agg (Uj x vi vd vl)] H fun r h'=>zM H.n H h'/\r= .lit (.slice none 0 0):=by
 refine zW Tryz.func14 rfl rfl ?_
 have g1:=hi.one
 have g2:=hd.one
 have g3:=hl.one
 have g4:=hi.isSl
 have g5:=hd.isSl
 have g6:=hl.isSl
 obtain⟨⟨a0,b0⟩,⟨a1,b1⟩,⟨a2,b2⟩,⟨a3,b3⟩,⟨a4,b4⟩,⟨a5,b5⟩,⟨a6,b6⟩⟩:=ho
 obtain⟨hp,hhp,EP,P0⟩:=xX H (.cells (Uj x vi vd vl) 58)
 have lq:=z.lt
 have zp:=z.ext EP
 unfold Uj at P0 hhp
 have LP:=xI P0
 have lP:=jR P0
 unfold Uj
 simp only[jN,jB,jC,Tryz.ntmps14,<-hhp,g1,g2,g3,b0,b1,b2,b3,b4,b5,b6]
 rw[zL [0,1,2,3,4,5,6,7,8,9,10,11] 11146288031902756625935560190634610435035136 (by kernel_rfl)]
 repeat ((with_reducible refine jX ?_;simp only[vO];try simp only[vP,jB]);simp only[jN,jB,jE,reduceCtorEq,zG])
 refine(Vd zp.cq hb).mono ?_
 rintro _ _ ⟨rfl,q5⟩
 replace q5:=q5.symm
 subst q5
 have Y:=zp.cq
 unfold XN at Y
 have L:=xI Y
 have lY:=jR Y
 have hkk:(!((x.tk==c.k)&&(x.ti==c.i)))=false:=by rw[hme];rfl
 cases k1:(x.kind==15)<;>cases k2:(x.fk==1)<;>cases k3:(x.kind==31)<;>cases k4:(x.fk==2)
 all_goals
  rw[k1,k2]at h1
  rw[k3,k4]at h2
  first
  |cases h1;done
  |cases h2;done
  |(repeat (first|((with_reducible refine jX ?_;simp only[vO];try simp only[vP,jB,jD,jH,jI,jF]);simp only[jN,jB,jE,jF,reduceCtorEq,jG,zG,LP,L,vJ,kP,hkk,k1,k2,k3,k4])|simp only[jN,jB,jC,jD,jE,jF,reduceCtorEq,jG,jJ,jK,jL,zG,LP,lP,L,lY,vJ,kP,hkk,k1,k2,k3,k4])
    exact EP)
theorem j16(x:Hk)(z:XZ q p G H c s vo vp vb now ans)(hb:0<c.boot)(hi:zJ Kj F H vi x.incs)(hd:zJ xZ F H vd x.d)(hl:zJ JX F H vl x.l)(ho:Ht x)(hme:((x.tk==c.k)&&(x.ti==c.i))=true)(h2:((x.kind==31)&&(x.fk==2))=true)(h3:j01 c s x=false):
 vR 14 [.ptr q 0,.agg (Uj x vi vd vl)] H fun r h'=>zM H.n H h'/\r= .lit (.slice none 0 0):=by
 refine zW Tryz.func14 rfl rfl ?_
 have g1:=hi.one
 have g2:=hd.one
 have g3:=hl.one
 have g4:=hi.isSl
 have g5:=hd.isSl
 have g6:=hl.isSl
 obtain⟨⟨a0,b0⟩,⟨a1,b1⟩,⟨a2,b2⟩,⟨a3,b3⟩,⟨a4,b4⟩,⟨a5,b5⟩,⟨a6,b6⟩⟩:=ho
 obtain⟨hp,hhp,EP,P0⟩:=xX H (.cells (Uj x vi vd vl) 58)
 have lq:=z.lt
 have zp:=z.ext EP
 unfold Uj at P0 hhp
 have LP:=xI P0
 have lP:=jR P0
 unfold Uj
 simp only[jN,jB,jC,Tryz.ntmps14,<-hhp,g1,g2,g3,b0,b1,b2,b3,b4,b5,b6]
 rw[zL [0,1,2,3,4,5,6,7,8,9,10,11] 11146288031902756625935560190634610435035136 (by kernel_rfl)]
 repeat ((with_reducible refine jX ?_;simp only[vO];try simp only[vP,jB]);simp only[jN,jB,jE,reduceCtorEq,zG])
 refine(Vd zp.cq hb).mono ?_
 rintro _ _ ⟨rfl,q5⟩
 replace q5:=q5.symm
 subst q5
 have Y:=zp.cq
 unfold XN at Y
 have L:=xI Y
 have lY:=jR Y
 have hkk:(!((x.tk==c.k)&&(x.ti==c.i)))=false:=by rw[hme];rfl
 rw[jW]at h2
 obtain⟨k3,k4⟩:=h2
 have k1:(x.kind==15)=false:=by rw[beq_iff_eq]at k3;rw[k3];rfl
 have hpn:yS Tryz.prog (binOp .neq 80 (.pointer none) (.pointer none))=some (.ok (.bool false)):=by kernel_rfl
 have hnow:=zp.now
 unfold j01 at h3
 repeat ((with_reducible refine jX ?_;simp only[vO];try simp only[vP,jB,jD,jH,jI,jF]);simp only[jN,jB,jE,jF,reduceCtorEq,jG,zG,LP,L,vJ,kP,hkk,k1,k3,k4])
 rw[zL [0,1,2,3,4,5,6,7,8,9,10,11,12,13,14,15,16,17,18,19,20,21,22,23,24,25,26,27,28,29,30] 9745314004592975875005312751219236241786660467050821840355463533034804538364449264970583129771186396701655311020776951344897629154410336578552576256083500140275813658018561839935061922791825537287031903994476550036395117224112970787657972418787539946257324096220463546239896857980428091392 (by kernel_rfl)]
 cases hx:s.now with
 |none=>
  rw[hx]at hnow;obtain rfl:now= .lit (.pointer none):=hnow;repeat (first|((with_reducible refine jX ?_;simp only[vO];try simp only[vP,jB,jD,jH,jI,jF]);simp only[jN,jB,jE,jF,reduceCtorEq,jG,zG,LP,L,Dw,hpn])|simp only[jN,jB,jC,jD,jE,jF,reduceCtorEq,jG,jJ,jK,jL,zG,LP,lP,L,lY,Dw,hpn])
  exact⟨rfl,EP⟩
 |some y=>
  rw[hx]at hnow h3;obtain⟨rfl,hpq,ve,P,hde⟩:=hnow;unfold MI at P;have LO:=xI P;have lO:=jR P;have h3:((x.client==c.boot)&&(x.num==s.num)&&(x.er !=11))=false:=by simpa only[Option.isSome_some,ZU]using h3
  cases m1:(x.client==c.boot)
  ·repeat (first|((with_reducible refine jX ?_;simp only[vO];try simp only[vP,jB,jD,jH,jI,jF]);simp only[jN,jB,jE,jF,reduceCtorEq,jG,zG,LP,L,m1])|simp only[jN,jB,jC,jD,jE,jF,reduceCtorEq,jG,jJ,jK,jL,zG,LP,lP,L,lY,LO,lO,m1])
   exact EP
  cases m2:(x.num==s.num)
  ·repeat (first|((with_reducible refine jX ?_;simp only[vO];try simp only[vP,jB,jD,jH,jI,jF]);simp only[jN,jB,jE,jF,reduceCtorEq,jG,zG,LP,L,LO,m1,m2])|simp only[jN,jB,jC,jD,jE,jF,reduceCtorEq,jG,jJ,jK,jL,zG,LP,lP,L,lY,LO,lO,m1,m2])
   exact EP
  have m3:(x.er !=11)=false:=by rw[m1,m2]at h3;simpa only[ZU]using h3
  repeat (first|((with_reducible refine jX ?_;simp only[vO];try simp only[vP,jB,jD,jH,jI,jF]);simp only[jN,jB,jE,jF,reduceCtorEq,jG,zG,LP,L,LO,m1,m2,m3])|simp only[jN,jB,jC,jD,jE,jF,reduceCtorEq,jG,jJ,jK,jL,zG,LP,lP,L,lY,LO,lO,m1,m2,m3])
  exact EP
theorem pW(x:Hk)(z:XZ q p G H c s vo vp vb now ans)(hb:0<c.boot)(hi:zJ Kj F H vi x.incs)(hd:zJ xZ F H vd x.d)(hl:zJ JX F H vl x.l)(ho:Ht x)(hme:((x.tk==c.k)&&(x.ti==c.i))=true)(h2:((x.kind==31)&&(x.fk==2))=true)(h3:j01 c s x=true)(hdl:x.d.length<=140737488351232)(hll:x.l.length * 16<=140737488351232):
 vR 14 [.ptr q 0,.agg (Uj x vi vd vl)] H fun r h'=>r= .lit (.slice none 0 0)/\j0G q p G H h' c (MV s (j3D x)):=by
 refine zW Tryz.func14 rfl rfl ?_
 have g1:=hi.one
 have g2:=hd.one
 have g3:=hl.one
 have g4:=hi.isSl
 have g5:=hd.isSl
 have g6:=hl.isSl
 obtain⟨⟨a0,b0⟩,⟨a1,b1⟩,⟨a2,b2⟩,⟨a3,b3⟩,⟨a4,b4⟩,⟨a5,b5⟩,⟨a6,b6⟩⟩:=ho
 obtain⟨hp,hhp,EP,P0⟩:=xX H (.cells (Uj x vi vd vl) 58)
 have lq:=z.lt
 have zp:=z.ext EP
 unfold Uj at P0 hhp
 have LP:=xI P0
 have lP:=jR P0
 unfold Uj
 simp only[jN,jB,jC,Tryz.ntmps14,<-hhp,g1,g2,g3,b0,b1,b2,b3,b4,b5,b6]
 rw[zL [0,1,2,3,4,5,6,7,8,9,10,11] 11146288031902756625935560190634610435035136 (by kernel_rfl)]
 repeat ((with_reducible refine jX ?_;simp only[vO];try simp only[vP,jB]);simp only[jN,jB,jE,reduceCtorEq,zG])
 refine(Vd zp.cq hb).mono ?_
 rintro _ _ ⟨rfl,q5⟩
 replace q5:=q5.symm
 subst q5
 have Y:=zp.cq
 unfold XN at Y
 have L:=xI Y
 have lY:=jR Y
 have hkk:(!((x.tk==c.k)&&(x.ti==c.i)))=false:=by rw[hme];rfl
 rw[jW]at h2
 obtain⟨k3,k4⟩:=h2
 have k1:(x.kind==15)=false:=by rw[beq_iff_eq]at k3;rw[k3];rfl
 have hnow:=zp.now
 unfold j01 at h3
 repeat ((with_reducible refine jX ?_;simp only[vO];try simp only[vP,jB,jD,jH,jI,jF]);simp only[jN,jB,jE,jF,reduceCtorEq,jG,zG,LP,L,vJ,kP,hkk,k1,k3,k4])
 rw[zL [0,1,2,3,4,5,6,7,8,9,10,11,12,13,14,15,16,17,18,19,20,21,22,23,24,25,26,27,28,29,30] 9745314004592975875005312751219236241786660467050821840355463533034804538364449264970583129771186396701655311020776951344897629154410336578552576256083500140275813658018561839935061922791825537287031903994476550036395117224112970787657972418787539946257324096220463546239896857980428091392 (by kernel_rfl)]
 cases hx:s.now with
 |none=>rw[hx]at h3;cases h3
 |some y=>
 rw[hx]at hnow h3
 obtain⟨rfl,hpq,ve,P,hde⟩:=hnow
 unfold MI at P
 have LO:=xI P
 have lO:=jR P
 have hpH:p<H.n:=by have:=z.now;rw[hx]at this;obtain⟨-,-,_,h9,-⟩:=this;exact jR h9
 simp only[jW]at h3
 obtain⟨⟨⟨-,m1⟩,m2⟩,m3⟩:=h3
 obtain⟨hA,hhA,eA,XA⟩:=xX hp (.cells [.lit (.string ⟨#[]⟩),.lit (.int .i64 0),.lit (.int .i64 0),.lit (.slice none 0 0)] 55)
 have lXA:=jR XA
 obtain⟨hB,hhB⟩:∃hB,hB=hA.put hp.n (.cells [.lit (.string x.os),.lit (.int .i64 x.o1),.lit (.int .i64 x.o2),vd] 55):=⟨_,rfl⟩
 have eB:zM hp.n hp hB:=hhB▸eA.put _ (jM _)
 have XB:=Jj hhB lXA
 have LXB:=xI XB
 have lXB:=jR XB
 repeat (first|((with_reducible refine jX ?_;simp only[vO];try simp only[vP,jB,jD,jH,jI,jF]);simp only[jN,jB,jE,jF,reduceCtorEq,jG,zG,LP,L,LO,m1,m2,m3,<-hhA,XA,g2,<-hhB,LXB])|simp only[jN,jB,jC,jD,jE,jF,reduceCtorEq,jG,jJ,jK,jL,zG,LP,lP,L,lY,LO,lO,m1,m2,m3,<-hhA,XA,lXA,g2,<-hhB,XB,LXB,lXB])
 have hdB:=hd.ext (EP.trans (eB.mono EP.1)) (jM _)
 refine qM (LM (n0:=hB.n) .nil hdB (by simp only[xH];omega) (jM _)) ?_
 rintro s3 h3 ⟨ob,e3⟩
 have u1:=ob.one
 have u2:=ob.isSl
 have X3:=(e3.2 _ lXB).trans XB
 have lX3:=jR X3
 obtain⟨hC,hhC⟩:∃hC,hC=h3.put hp.n (.cells [.lit (.string x.os),.lit (.int .i64 x.o1),.lit (.int .i64 x.o2),s3] 55):=⟨_,rfl⟩
 have eC:zM hp.n hp hC:=hhC▸(eB.trans (e3.mono eB.1)).put _ (jM _)
 have XC:=Jj hhC lX3
 have LXC:=xI XC
 have lXC:=jR XC
 have P1:=(eC.2 _ lP).trans P0
 have LP1:=xI P1
 have lP1:=jR P1
 have EC:=EP.trans (eC.mono EP.1)
 have hlC:=hl.ext EC (jM _)
 simp only[jN,jB,jE,jF,jG,X3,u1,<-hhC]
 rw[zL [0,1,2,3,4,5,6,7,8] 1205366463262481640325120 (by kernel_rfl)]
 repeat ((with_reducible refine jX ?_;simp only[vO];try simp only[vP,jB,jD,jH,jI]);simp only[jN,jB,jE,jF,reduceCtorEq,jG,zG,LP1,LXC])
 refine⟨by simp only[yK,g6,u2,kS],?_⟩
 refine Cf (wM (n0:=hC.n) hlC (by omega) (jM _)) ?_
 rintro s4 h4 ⟨os4,e4⟩
 have w1:=os4.one
 have E4:=EC.trans (e4.mono EC.1)
 have P4:=(e4.2 _ lP1).trans P1
 have LP4:=xI P4
 have lP4:=jR P4
 have X4:=(e4.2 _ lXC).trans XC
 have LX4:=xI X4
 have lX4:=jR X4
 repeat (first|((with_reducible refine jX ?_;simp only[vO];try simp only[vP,jB,jD,jH,jI]);simp only[jN,jB,jE,jF,reduceCtorEq,jG,zG,LP4,LX4,w1])|simp only[jN,jB,jC,jD,jE,jF,reduceCtorEq,jG,jJ,jK,jL,zG,LP4,lP4,LX4,lX4,u1,w1])
 have nC:hC.n=h3.n:=by rw[hhC,kZ]
 have z4:XZ q p (fun b=>G b\/H.n<=b) h4 c s vo vp vb (.ptr p 0) ans:=z.wide E4 fun b hb=> .inl hb
 have hd4:zJ xZ (Gq (fun b=>G b\/H.n<=b) q p) h4 s3 x.d:=by have:=ob.toSl (F:=fun b=>hB.n<=b) (fun _ hh=>hh.elim) (fun _ hh=>hh);rw[xS]at this;exact this.lift fun b hb hlt=>⟨(e4.2 b (by omega)).trans (hhC▸zE _ (by omega)),.inr (by omega),by omega,by omega⟩
 have hl4:zJ JX (Gq (fun b=>G b\/H.n<=b) q p) h4 s4 x.l:=
  os4.toSl (fun _ hh=>hh.elim) (fun b hh=>⟨.inr (by omega),by omega,by omega⟩)
 refine⟨by simp only[yK,u2],?_⟩
 refine(dS (j3D x) z4 hd4 hl4).mono ?_
 rintro _ h5 ⟨k5,z5⟩
 try simp only[jN,jB,jC,jD,jE,jF,reduceCtorEq,jG,jJ,jK,jL]
 obtain⟨wo,wp,wb,wn,wa,z6⟩:=z5 (by omega)
 have hw2:∀b,Gq (fun b=>(G b\/H.n<=b)\/h4.n<=b) q p b->b<h5.n->h5.at b=h5.at b/\Gq (fun b=>G b\/H.n<=b) q p b:=fun b hb _=>⟨rfl,by rcases hb.1 with h|h;exact h;exact .inr (by omega),hb.2⟩
 exact⟨p,(K2.ext E4).trans (.of k5),.inl rfl,fun hh=>by have:=k5.1;omega,wo,wp,wb,wn,wa,z6.cq,z6.m.lift hw2,z6.now.lift hw2 (fun _ _=>rfl),z6.ans.lift hw2⟩
end
end
variable{pool:Int}{o:MK}
section
structure j0U(x:Hk):Prop where
 len:x.incs.length<=1000000
 it:∀y∈x.incs,∀c∈y.changes,c.bucket.items.length<=1048576
 sz:∀y∈x.incs,Sm 88 y.changes/\∀c∈y.changes,Sm 8 c.bucket.items/\Sm 8 c.bucket.weights
 ep:∀y∈x.incs,Zq y.epoch
 dl:x.d.length<=140737488351232
 ll:x.l.length * 16<=140737488351232
structure Gs(s:Zg)(k i:Nat):Prop where
 st:QU s.m k
 ep:Zq s.m.epoch
 pl:Qw s.m.pools
 num:0<=s.num/\s.num<=i
 now:∀x,s.now=some x->Wl x/\x.tries<=i/\x.op.s.data.toList.length<=4096
 ans:∀a,s.ans=some a->a.l.length * 16<=140737488351232
theorem Gs.mok{s:Zg}{k i:Nat}(h:Gs s k i)(hk:k<=1000000000):oO s.m:=h.st.mok hk h.ep h.pl
theorem CR{c:vM}{m:zU}{num:Int}{x:VH}(h1:Wl x)(h2:x.op.s.data.toList.length<=4096):∀y∈Zc c m num x,Rq y:=by
 intro y hy;unfold Zc at hy;split at hy
 ·cases hy
 ·split at hy
  ·cases hy
  ·rw[zX]at hy;subst hy;exact⟨h2,h1.d⟩
theorem CX{c:vM}{ep:Int}{n:Nat}:∀y∈XW c ep n,Rq y:=by intro y hy;unfold XW at hy;obtain⟨k,-,rfl⟩:=List.mem_map.1 hy;exact⟨(by decide:(0:Nat)<=4096),(by decide:(0:Nat)<=4096)⟩
section
variable {q p r:Nat} {G F:Nat->Prop} {H:AH} {c:vM} {s:Zg} {vi vd vl:AV} {k i:Nat}
theorem j13(x:Hk)(z:j0Z q p G H c s)(hb:0<c.boot)(hi:zJ Kj F H vi x.incs)(hd:zJ xZ F H vd x.d)(hl:zJ JX F H vl x.l)(ho:Ht x)(hF:∀b,F b->b≠q)(hpH:p<H.n)(hx:j0U x)(hs:Gs s k i)(hk:k+XM x.incs<=1000000000):
 vR 14 [.ptr q 0,.agg (Uj x vi vd vl)] H fun v h'=>j0G q p G H h' c (Xn c s x)/\zJ Hm (fun b=>H.n<=b) h' v (KR c s x):=by
 obtain⟨vo,vp,vb,now,ans,z⟩:=z
 cases hme:((x.tk==c.k)&&(x.ti==c.i))with
 |false=>
  have e1:Xn c s x=s:=by unfold Xn;simp only[hme,if_true]
  have e2:KR c s x=[]:=by unfold KR;simp only[hme,if_true]
  rw[e1,e2];refine(j15 x z hb hi hd hl ho hme).mono ?_;rintro _ h1 ⟨e,rfl⟩;exact⟨.stay z e,.nil⟩
 |true=>
  cases h1:((x.kind==15)&&(x.fk==1))with
  |true=>
   have e1:Xn c s x=Lu s x.incs:=by unfold Xn;simp only[hme,h1,reduceCtorEq,if_true,if_false]
   have e2:KR c s x=Gc c s x.incs:=by unfold KR;simp only[hme,h1,reduceCtorEq,if_true,if_false]
   rw[e1,e2];exact gD x k z hb hi hd hl ho hF hpH hme h1 hx.len hx.it hx.sz hs.st hs.pl hs.ep hk fun y hy=>(hs.now y hy).1
  |false=>
   have e2:KR c s x=[]:=by unfold KR;simp only[hme,h1,reduceCtorEq,if_false]
   rw[e2]
   cases h2:((x.kind==31)&&(x.fk==2))with
   |false=>
    have e1:Xn c s x=s:=by unfold Xn;simp only[hme,h1,h2,reduceCtorEq,if_false]
    rw[e1];refine(j17 x z hb hi hd hl ho hme h1 h2).mono ?_;rintro _ h1 ⟨e,rfl⟩;exact⟨.stay z e,.nil⟩
   |true=>
    cases h3:j01 c s x with
    |false=>
     have e1:Xn c s x=s:=by unfold Xn;simp only[hme,h1,h2,h3,reduceCtorEq,if_true,if_false]
     rw[e1];refine(j16 x z hb hi hd hl ho hme h2 h3).mono ?_;rintro _ h1 ⟨e,rfl⟩;exact⟨.stay z e,.nil⟩
    |true=>
     have e1:Xn c s x=MV s (j3D x):=by unfold Xn;simp only[hme,h1,h2,h3,reduceCtorEq,if_true,if_false]
     rw[e1];refine(pW x z hb hi hd hl ho hme h2 h3 hx.dl hx.ll).mono ?_;rintro _ h1 ⟨rfl,e⟩;exact⟨e,.nil⟩
theorem j14(x:Hk)(z:j0H r G H c s)(hi:zJ Kj F H vi x.incs)(hd:zJ xZ F H vd x.d)(hl:zJ JX F H vl x.l)(ho:Ht x)(hF:∀b,F b->b≠r)(hx:j0U x)(hs:Gs s k i)(hk:k+XM x.incs<=1000000000):
 vR 19 [.ptr r 0,.agg (Uj x vi vd vl)] H fun v h'=>j0I r G H h' c (Xn c s x)/\zJ Hm (fun b=>H.n<=b) h' v (KR c s x):=by
 obtain⟨vo,vp,vb,y,ve,we,wl,z⟩:=z
 cases hme:((x.tk==c.k)&&(x.ti==c.i))with
 |false=>
  have e1:Xn c s x=s:=by unfold Xn;simp only[hme,if_true]
  have e2:KR c s x=[]:=by unfold KR;simp only[hme,if_true]
  rw[e1,e2];refine(pT x z hi hd hl ho hme).mono ?_;rintro _ h1 ⟨e,rfl⟩;exact⟨.stay z e,.nil⟩
 |true=>
  cases h1:((x.kind==15)&&(x.fk==1))with
  |true=>
   have e1:Xn c s x=Lu s x.incs:=by unfold Xn;simp only[hme,h1,reduceCtorEq,if_true,if_false]
   have e2:KR c s x=Gc c s x.incs:=by unfold KR;simp only[hme,h1,reduceCtorEq,if_true,if_false]
   rw[e1,e2];exact Wr x k z hi hd hl ho hF hme h1 hx.len hx.it hx.sz hs.st hs.pl hs.ep hk fun y hy=>(hs.now y hy).1
  |false=>
   have e2:KR c s x=[]:=by unfold KR;simp only[hme,h1,reduceCtorEq,if_false]
   rw[e2]
   cases h2:((x.kind==31)&&(x.fk==2))with
   |false=>
    have e1:Xn c s x=s:=by unfold Xn;simp only[hme,h1,h2,reduceCtorEq,if_false]
    rw[e1];refine(pV x z hi hd hl ho hme h1 h2).mono ?_;rintro _ h1 ⟨e,rfl⟩;exact⟨.stay z e,.nil⟩
   |true=>
    cases h3:j01 c s x with
    |false=>
     have e1:Xn c s x=s:=by unfold Xn;simp only[hme,h1,h2,h3,reduceCtorEq,if_true,if_false]
     rw[e1];refine(pU x z hi hd hl ho hme h2 h3).mono ?_;rintro _ h1 ⟨e,rfl⟩;exact⟨.stay z e,.nil⟩
    |true=>
     have e1:Xn c s x=MV s (j3D x):=by unfold Xn;simp only[hme,h1,h2,h3,reduceCtorEq,if_true,if_false]
     rw[e1];refine(gC x z hi hd hl ho hme h2 h3 hx.dl hx.ll).mono ?_;rintro _ h1 ⟨rfl,e⟩;exact⟨e,.nil⟩
end
theorem uK{c:vM}{s:Zg}{l:List Xt}{k i:Nat}(hs:Gs s k i):∀y∈Gc c s l,Rq y:=by
 unfold Gc;split
 ·intro y hy;cases hy
 ·rename_i x hx;have:=hs.now x hx;split
  ·exact CR this.1 this.2.2
  ·intro y hy;cases hy
theorem j0i{c:vM}{s:Zg}{x:Hk}{k i:Nat}(hs:Gs s k i):∀y∈KR c s x,Rq y:=by
 unfold KR;split
 ·intro y hy;cases hy
 ·split
  ·exact uK hs
  ·intro y hy;cases hy
theorem lN(c:vM)(s:Zg)(l:List Xt):(Gc c s l).length<=1:=by
 unfold Gc;split
 ·simp
 ·split
  ·exact Yk _ _ _ _
  ·simp
theorem nM(c:vM)(s:Zg)(x:Hk):(KR c s x).length<=1:=by
 unfold KR;split
 ·simp
 ·split
  ·exact lN _ _ _
  ·simp
theorem j0j{c:vM}{s:Zg}{x:Hk}{k i:Nat}(hs:Gs s k i)(hx:j0U x):Gs (Xn c s x) (k+XM x.incs) (i+1):=by
 have h0:Gs s (k+XM x.incs) (i+1):=⟨hs.st.mono (by omega),hs.ep,hs.pl,⟨hs.num.1,by have:=hs.num.2;omega⟩,fun y hy=>⟨(hs.now y hy).1,by have:=(hs.now y hy).2.1;omega,(hs.now y hy).2.2⟩,hs.ans⟩;unfold Xn;split
 ·exact h0
 ·split
  ·exact⟨j0h hs.st hx.it,j0g hs.ep hx.ep,Fm hs.pl,h0.num,h0.now,h0.ans⟩
  ·split
   ·split
    ·exact⟨h0.st,h0.ep,h0.pl,h0.num,(fun y hy=>by cases hy),fun a ha=>by obtain rfl:j3D x=a:=jS ha;exact hx.ll⟩
    ·exact h0
   ·exact h0
theorem j0o{c:vM}{N:Nat}{s:Zg}{k i:Nat}(hs:Gs s k i)(hi:i<=100000000):∀y∈KT c N s,Rq y:=by
 unfold KT;split
 ·exact CX
 ·rename_i x hx;have h:=hs.now x hx;have h2:Wl (Ki x):=⟨h.1.s,h.1.d,h.1.l,by have:=h.1.t;have:=h.2.1;show 0<=x.tries+1/\x.tries+1<=1000000000;omega⟩;split
  ·exact CX
  ·intro y hy;rcases List.mem_append.1 hy with hy|hy
   ·exact CX y hy
   ·exact CR h2 h.2.2 y hy
theorem nU(c:vM)(N:Nat)(s:Zg):(KT c N s).length<=N+1:=by
 unfold KT;split
 ·rw[Kh];omega
 ·split
  ·rw[Kh];omega
  ·rename_i x _ _;rw[jQ,Kh];have:=Yk c s.m s.num (Ki x);omega
theorem j0n{c:vM}{s:Zg}{k i:Nat}(hs:Gs s k i)(hi:i<=100000000):Gs (KS c s) k (i+1):=by
 have h0:Gs s k (i+1):=⟨hs.st,hs.ep,hs.pl,⟨hs.num.1,by have:=hs.num.2;omega⟩,fun y hy=>⟨(hs.now y hy).1,by have:=(hs.now y hy).2.1;omega,(hs.now y hy).2.2⟩,hs.ans⟩;unfold KS;split
 ·exact h0
 ·rename_i x hx;have h:=hs.now x hx;split
  ·exact⟨h0.st,h0.ep,h0.pl,h0.num,(fun y hy=>by cases hy),fun a ha=>by obtain rfl:Ci 110=a:=jS ha;exact(by decide:(0:Nat) * 16<=140737488351232)⟩
  ·exact⟨h0.st,h0.ep,h0.pl,h0.num,(fun y hy=>by obtain rfl:Ki x=y:=jS hy;exact⟨⟨h.1.s,h.1.d,h.1.l,by have:=h.1.t;have:=h.2.1;show 0<=x.tries+1/\x.tries+1<=1000000000;omega⟩,by show x.tries+1<=_;have:=h.2.1;omega,h.2.2⟩),h0.ans⟩
theorem iQ{l:List UInt8}(h:Ke l=true):l.length<=64:=by unfold Ke at h;simp only[jW,decide_eq_true_eq]at h;omega
theorem gU{s:Zg}(h:Qe s pool o=0):Ke o.s.data.toList=true/\o.d.length<=4096/\(1<=o.k/\o.k<=4):=by
 unfold Qe at h;split at h
 ·cases h
 ·split at h
  ·cases h
  ·rename_i hk;split at h
   ·cases h
   ·rename_i hg;split at h
    ·cases h
    ·rename_i hd;refine⟨by simpa using hg,by omega,by omega⟩
theorem CA{s:Zg}(h:Qe s pool o=0):Wl (Cz pool o)/\o.s.data.toList.length<=4096:=by
 obtain⟨h1,h2,h3⟩:=gU h;have h4:=iQ h1;have h5:o.s.size=o.s.data.toList.length:=by simp
 exact⟨⟨by show o.s.size<=_;omega,h2,(by show false=(o.k==5);rw[eq_comm,beq_eq_false_iff_ne];omega),⟨Zy 0,(by decide:(0:Int)<=1000000000)⟩⟩,by omega⟩
theorem SX(g:MF):Wl (Cy g):=⟨(by decide:(0:Nat)<=_),(by decide:(0:Nat)<=4096),rfl,⟨Zy 0,(by decide:(0:Int)<=1000000000)⟩⟩
theorem gW{c:vM}{s:Zg}{pool:Int}{o:MK}:∀y∈Uw c s pool o,Rq y:=by
 unfold Uw;split
 ·rename_i h;exact CR (CA h).1 (CA h).2
 ·intro y hy;cases hy
theorem WI(c:vM)(s:Zg)(pool:Int)(o:MK):(Uw c s pool o).length<=1:=by
 unfold Uw;split
 ·exact Yk _ _ _ _
 ·simp
theorem uB{c:vM}{s:Zg}{g:MF}:∀y∈AY c s g,Rq y:=by
 unfold AY;split
 ·exact CR (SX g) (by decide:(0:Nat)<=4096)
 ·intro y hy;cases hy
theorem lK(c:vM)(s:Zg)(g:MF):(AY c s g).length<=1:=by
 unfold AY;split
 ·exact Yk _ _ _ _
 ·simp
theorem Gs.up{s:Zg}{k i:Nat}(hs:Gs s k i):Gs s k (i+1):=⟨hs.st,hs.ep,hs.pl,⟨hs.num.1,by have:=hs.num.2;omega⟩,fun y hy=>⟨(hs.now y hy).1,by have:=(hs.now y hy).2.1;omega,(hs.now y hy).2.2⟩,hs.ans⟩
theorem Gs.upk{s:Zg}{k k' i:Nat}(hs:Gs s k i)(hk:k<=k'):Gs s k' i:=⟨hs.st.mono hk,hs.ep,hs.pl,hs.num,hs.now,hs.ans⟩
theorem RM{s:Zg}{x:VH}{k i:Nat}(hs:Gs s k i)(h1:Wl x)(h2:x.op.s.data.toList.length<=4096)(h3:x.tries=0):Gs (Dy s x) k (i+1):=
 ⟨hs.st,hs.ep,hs.pl,⟨by have:=hs.num.1;show 0<=s.num+1;omega,by have:=hs.num.2;show s.num+1<=_;omega⟩,fun y hy=>by obtain rfl:x=y:=jS hy;exact⟨h1,by rw[h3];omega,h2⟩,hs.ans⟩
theorem gV{s:Zg}{k i:Nat}(hs:Gs s k i):Gs (VI s pool o) k (i+1):=by
 unfold VI;split
 ·rename_i h;exact RM hs (CA h).1 (CA h).2 rfl
 ·exact hs.up
theorem uA{s:Zg}{g:MF}{k i:Nat}(hs:Gs s k i):Gs (AX s g) k (i+1):=by
 unfold AX;split
 ·exact RM hs (SX g) (by decide:(0:Nat)<=4096) rfl
 ·exact hs.up
theorem j0q{s:Zg}{k i:Nat}(hs:Gs s k i):Gs (Bg s) k (i+1):=⟨hs.up.st,hs.up.ep,hs.up.pl,hs.up.num,hs.up.now,fun a ha=>by cases ha⟩
structure QF where
 kind:Int
 pool:Int
 pg:MF
 op:MK
 msg:Hk
def Dd(a:QF)(vc vi vd vl:AV):List AV:=[.lit (.int .i64 a.kind),.lit (.int .i64 a.pool),.lit (.int .i64 a.pg.pool),.lit (.int .i64 a.pg.seed),.lit (.int .i64 a.op.k),.lit (.string a.op.s),vc,.lit (.int .i64 a.op.e),.lit (.int .i64 a.op.n),.lit (.int .i64 a.msg.kind),.lit (.int .i64 a.msg.fk),.lit (.int .i64 a.msg.fi),.lit (.int .i64 a.msg.tk),.lit (.int .i64 a.msg.ti),.lit (.int .i64 a.msg.bt),.lit (.int .i64 a.msg.ep),.lit (.int .i64 a.msg.pp),.lit (.int .i64 a.msg.ps),.lit (.int .i64 a.msg.client),.lit (.int .i64 a.msg.num),.lit (.int .i64 a.msg.ballot),a.msg.s12,vi,a.msg.s14,.lit (.int .i64 a.msg.i1),.lit (.int .i64 a.msg.i2),.lit (.int .i64 a.msg.i3),.lit (.int .i64 a.msg.i4),.lit (.int .i64 a.msg.i5),.lit (.int .i64 a.msg.i6),.lit (.int .i64 a.msg.t1),.lit (.int .i64 a.msg.t2),.lit (.int .i64 a.msg.t3),a.msg.s24,a.msg.s25,a.msg.s26,.lit (.int .i64 a.msg.n1),.lit (.int .i64 a.msg.n2),.lit (.bool a.msg.nb),.lit (.int .i64 a.msg.n3),.lit (.string a.msg.ns),.lit (.int .i64 a.msg.n4),.lit (.int .i64 a.msg.n5),.lit (.string a.msg.os),.lit (.int .i64 a.msg.o1),.lit (.int .i64 a.msg.o2),vd,.lit (.int .i64 a.msg.p1),.lit (.string a.msg.pn),a.msg.s40,.lit (.int .i64 a.msg.p2),.lit (.int .i64 a.msg.p3),a.msg.s43,vl,.lit (.int .i64 a.msg.er)]
def Ru:Zl QF where
 z:=55
 is F h c a:=∃vc vi vd vl,c=Dd a vc vi vd vl/\zJ xZ F h vc a.op.d/\zJ Kj F h vi a.msg.incs/\zJ xZ F h vd a.msg.d/\zJ JX F h vl a.msg.l/\Ht a.msg
 len:=fun⟨_,_,_,_,h,_⟩=>by subst h;rfl
 one:=fun⟨vc,vi,vd,vl,h,h0,h1,h2,h3,h4⟩ v hv=>by
  subst h;unfold Dd at hv;simp only[qL,Bp,or_false]at hv;rcases hv with rfl|rfl|rfl|rfl|rfl|rfl|rfl|rfl|rfl|rfl|rfl|rfl|rfl|rfl|rfl|rfl|rfl|rfl|rfl|rfl|rfl|rfl|rfl|rfl|rfl|rfl|rfl|rfl|rfl|rfl|rfl|rfl|rfl|rfl|rfl|rfl|rfl|rfl|rfl|rfl|rfl|rfl|rfl|rfl|rfl|rfl|rfl|rfl|rfl|rfl|rfl|rfl|rfl|rfl|rfl
  all_goals first|rfl|exact h0.one|exact h1.one|exact h2.one|exact h3.one|exact h4.s12.2|exact h4.s14.2|exact h4.s24.2|exact h4.s25.2|exact h4.s26.2|exact h4.s40.2|exact h4.s43.2
 lift:=fun⟨vc,vi,vd,vl,h,h0,h1,h2,h3,h4⟩ hl=>⟨vc,vi,vd,vl,h,h0.lift hl,h1.lift hl,h2.lift hl,h3.lift hl,h4⟩
theorem j3O:Ru.z=55:=rfl
theorem cW{F:Nat->Prop}{h:AH}{c:List AV}{a:QF}:Ru.is F h c a↔∃vc vi vd vl,c=Dd a vc vi vd vl/\zJ xZ F h vc a.op.d/\zJ Kj F h vi a.msg.incs/\zJ xZ F h vd a.msg.d/\zJ JX F h vl a.msg.l/\Ht a.msg:=Iff.rfl
structure Dm(a:QF):Prop where
 m:j0U a.msg
 od:a.op.d.length<=140737488351232
 os:a.op.s.size<=140737488351232
def XL(c:vM)(s:Zg)(a:QF):Zg:=
 if a.kind=0 then Xn c s a.msg else if a.kind=1 then KS c s else if a.kind=2 then VI s a.pool a.op else if a.kind=3 then AX s a.pg else if a.kind=4 then Bg s else s
theorem j1x{c:vM}{s:Zg}{a:QF}{k i:Nat}(hs:Gs s k i)(ha:Dm a)(hi:i<=100000000):Gs (XL c s a) (k+XM a.msg.incs) (i+1):=by
 unfold XL;split
 ·exact j0j hs ha.m
 ·split
  ·exact(j0n hs hi).upk (by omega)
  ·split
   ·exact(gV hs).upk (by omega)
   ·split
    ·exact(uA hs).upk (by omega)
    ·split
     ·exact(j0q hs).upk (by omega)
     ·exact hs.up.upk (by omega)
end
section
section
variable {q p r N:Nat} {F:Nat->Prop} {H0 H:AH} {c:vM} {s:Zg} {vc vi vd vl:AV} {k i:Nat}
theorem j46(a:QF)(j:JJ (fun b=>H0.n<=b) H0 H q r p c s s)(sok:Gs s k i)(hkk:k+XM a.msg.incs<=1000000000)(hii:i<=100000000)(hb:0<c.boot)(hN:c.mons=(N:Int))(hN5:N<=5)(hF:∀b,F b->b<H0.n)
 (hc:zJ xZ F H vc a.op.d) (hi:zJ Kj F H vi a.msg.incs) (hd:zJ xZ F H vd a.msg.d) (hl:zJ JX F H vl a.msg.l) (ho:Ht a.msg) (aok:Dm a) (hkd:a.kind=0):
 vR 7 [.ptr q 0,.ptr r 0,.agg (Dd a vc vi vd vl)] H fun v h'=>v= .lit (.bool true)/\∃p',JJ (fun b=>H0.n<=b) H0 h' q r p' c (XL c s a) (XL c s a):=by
 refine zW Tryz.func7 rfl rfl ?_
 have gg0:=hc.one
 have gg1:=hi.one
 have gg2:=hd.one
 have gg3:=hl.one
 have gg4:=hi.isSl
 have gg5:=hd.isSl
 have gg6:=hl.isSl
 have ho':=ho
 obtain⟨⟨a0,b0⟩,⟨a1,b1⟩,⟨a2,b2⟩,⟨a3,b3⟩,⟨a4,b4⟩,⟨a5,b5⟩,⟨a6,b6⟩⟩:=ho
 obtain⟨hp,hhp,EP,P0⟩:=xX H (.cells (Dd a vc vi vd vl) 60)
 have nP:hp.n=H.n+1:=by rw[hhp,zF]
 unfold Dd at P0 hhp
 have LP:=xI P0
 have lP:=jR P0
 have jp:=j.ext EP
 have je:=j.e.1
 have jql:=j.ql
 have jrl:=j.rl
 have jpl:=j.pl
 have hX:∀(h:AH),hp.n<=h.n->∀b,h.n<=b->H0.n<=b:=fun h h1 b hb=>by omega
 have z0:(a.kind==0)=true:=by rw[hkd];rfl
 have z1:(a.kind==1)=false:=by rw[hkd];rfl
 have z2:(a.kind==2)=false:=by rw[hkd];rfl
 have z3:(a.kind==3)=false:=by rw[hkd];rfl
 have z4:(a.kind==4)=false:=by rw[hkd];rfl
 have z5:(a.kind==5)=false:=by rw[hkd];rfl
 unfold Dd
 simp only[jN,jB,jC,jE,jF,reduceCtorEq,jG,Tryz.ntmps7,<-hhp,gg0,gg1,gg2,gg3,b0,b1,b2,b3,b4,b5,b6,LP,z0,z1,z2,z3,z4,z5]
 have es:XL c s a=Xn c s a.msg:=by unfold XL;rw[if_pos hkd]
 rw[es]
 rw[zL [0,1,2,4,5,6,3,7,8,9] 632895786130860370179175481344 (by kernel_rfl)]
 repeat (first|((with_reducible refine jX ?_;simp only[vO];try simp only[vP,jB,jD,jH,jI]);simp only[jN,jB,jE,jF,reduceCtorEq,jG,zG,LP])|refine⟨by simp only[yK,gg4,gg5,gg6,a0,a1,a2,a3,a4,a5,a6,kS],?_⟩)
 refine(j13 (F:=F) a.msg jp.P hb (hi.ext EP (jM _)) (hd.ext EP (jM _)) (hl.ext EP (jM _)) ho' (fun b hb=>by have:=hF b hb;have:=j.hq;omega) jp.pl aok.m sok hkk).mono ?_
 rintro v1 h1 ⟨bg,hs1⟩
 obtain⟨p1,hp1,k1,j1⟩:=jp.prog (hX hp (jM _)) bg
 have n1:=k1.1
 have P1:=(k1.2 H.n lP (by omega) (by omega)).trans P0
 have LP1:=xI P1
 have w1:=hs1.one
 have jq:=j.hq
 have jr:=j.hr
 have jhp:=j.hp
 have hlf:∀b,F b->b<hp.n->h1.at b=hp.at b/\F b:=fun b hb hlt=>⟨k1.2 b hlt (by have:=hF b hb;omega) (by have:=hF b hb;omega),hb⟩
 repeat (first|((with_reducible refine jX ?_;simp only[vO];try simp only[vP,jB,jD,jH,jI]);simp only[jN,jB,jE,jF,jG,zG,LP1])|refine⟨by simp only[yK,gg4,gg5,gg6,a0,a1,a2,a3,a4,a5,a6,kS],?_⟩)
 refine(j14 (F:=F) a.msg j1.D ((hi.ext EP (jM _)).lift hlf) ((hd.ext EP (jM _)).lift hlf) ((hl.ext EP (jM _)).lift hlf) ho' (fun b hb=>by have:=hF b hb;omega) aok.m sok hkk).mono ?_
 rintro v2 h2 ⟨dg,hs2⟩
 have k2:=dg.1
 have j2:=j1.doc (hX h1 n1) dg
 have w2:=hs2.one
 have hs1':=k2.sl hs1 (fun b hb=>by omega)
 repeat (first|((with_reducible refine jX ?_;simp only[vO];try simp only[vP,jB]);simp only[jN,jB,jE,jF,zG])|simp only[jN,jB,jC,jD,jE,jF,reduceCtorEq,jG,jJ,jK,jL,zG,w1,w2])
 refine(DV hs1' hs2 (j0i sok) (zY (nM _ _ _) (by omega))).mono ?_
 rintro _ h3 ⟨e3,rfl⟩
 repeat (first|((with_reducible refine jX ?_;simp only[vO];try simp only[vP,jB,jD,jH,jI,jF]);simp only[jN,jB,jE,reduceCtorEq,zG])|simp only[jN,jB,jC,jD,jE,jF,reduceCtorEq,jG,jJ,jK,jL,zG])
 exact⟨p1,j2.ext e3⟩
end
end
section
section
variable {q p r N:Nat} {F:Nat->Prop} {H0 H:AH} {c:vM} {s:Zg} {vc vi vd vl:AV} {k i:Nat}
theorem j47(a:QF)(j:JJ (fun b=>H0.n<=b) H0 H q r p c s s)(sok:Gs s k i)(hkk:k+XM a.msg.incs<=1000000000)(hii:i<=100000000)(hb:0<c.boot)(hN:c.mons=(N:Int))(hN5:N<=5)(hF:∀b,F b->b<H0.n)
 (hc:zJ xZ F H vc a.op.d) (hi:zJ Kj F H vi a.msg.incs) (hd:zJ xZ F H vd a.msg.d) (hl:zJ JX F H vl a.msg.l) (ho:Ht a.msg) (aok:Dm a) (hkd:a.kind=1):
 vR 7 [.ptr q 0,.ptr r 0,.agg (Dd a vc vi vd vl)] H fun v h'=>v= .lit (.bool true)/\∃p',JJ (fun b=>H0.n<=b) H0 h' q r p' c (XL c s a) (XL c s a):=by
 refine zW Tryz.func7 rfl rfl ?_
 have gg0:=hc.one
 have gg1:=hi.one
 have gg2:=hd.one
 have gg3:=hl.one
 obtain⟨⟨a0,b0⟩,⟨a1,b1⟩,⟨a2,b2⟩,⟨a3,b3⟩,⟨a4,b4⟩,⟨a5,b5⟩,⟨a6,b6⟩⟩:=ho
 obtain⟨hp,hhp,EP,P0⟩:=xX H (.cells (Dd a vc vi vd vl) 60)
 have nP:hp.n=H.n+1:=by rw[hhp,zF]
 unfold Dd at P0 hhp
 have LP:=xI P0
 have jp:=j.ext EP
 have je:=j.e.1
 have jrl:=j.rl
 have hX:∀(h:AH),hp.n<=h.n->∀b,h.n<=b->H0.n<=b:=fun h h1 b hb=>by omega
 have z0:(a.kind==0)=false:=by rw[hkd];rfl
 have z1:(a.kind==1)=true:=by rw[hkd];rfl
 have z2:(a.kind==2)=false:=by rw[hkd];rfl
 have z3:(a.kind==3)=false:=by rw[hkd];rfl
 have z4:(a.kind==4)=false:=by rw[hkd];rfl
 have z5:(a.kind==5)=false:=by rw[hkd];rfl
 unfold Dd
 simp only[jN,jB,jC,jE,jF,reduceCtorEq,jG,Tryz.ntmps7,<-hhp,gg0,gg1,gg2,gg3,b0,b1,b2,b3,b4,b5,b6,LP,z0,z1,z2,z3,z4,z5]
 have es:XL c s a=KS c s:=by unfold XL;rw[if_neg (by omega),if_pos hkd]
 rw[es]
 obtain⟨vo,vp,vb,now,ans,z⟩:=jp.P
 refine(j3P z hb hN hN5 (sok.mok (by omega)) (fun x hx=>⟨(sok.now x hx).1,by have:=(sok.now x hx).2.1;omega⟩)).mono ?_
 rintro v1 h1 ⟨bg,hs1⟩
 obtain⟨p1,hp1,k1,j1⟩:=jp.prog (hX hp (jM _)) bg
 have n1:=k1.1
 simp only[jN,jB,jE,jF]
 obtain⟨uo,up,ub,y,ud,ue,ul,zd⟩:=j1.D
 refine(j18 zd hN hN5 (sok.mok (by omega)) (fun x hx=>⟨(sok.now x hx).1,by have:=(sok.now x hx).2.1;omega⟩)).mono ?_
 rintro v2 h2 ⟨dg,hs2⟩
 have k2:=dg.1
 have j2:=j1.doc (hX h1 n1) dg
 have hs1':=k2.sl hs1 (fun b hb=>by omega)
 simp only[jN,jB,jE,jF]
 refine(DV hs1' hs2 (j0o sok hii) (zY (nU _ _ _) (by omega))).mono ?_
 rintro _ h3 ⟨e3,rfl⟩
 simp only[jN,jB,jE,reduceCtorEq]
 exact⟨p1,j2.ext e3⟩
end
end
section
section
variable {q p r N:Nat} {F:Nat->Prop} {H0 H:AH} {c:vM} {s:Zg} {vc vi vd vl:AV} {k i:Nat}
theorem j4a(a:QF)(j:JJ (fun b=>H0.n<=b) H0 H q r p c s s)(sok:Gs s k i)(hkk:k+XM a.msg.incs<=1000000000)(hii:i<=100000000)(hb:0<c.boot)(hN:c.mons=(N:Int))(hN5:N<=5)(hF:∀b,F b->b<H0.n)
 (hc:zJ xZ F H vc a.op.d) (hi:zJ Kj F H vi a.msg.incs) (hd:zJ xZ F H vd a.msg.d) (hl:zJ JX F H vl a.msg.l) (ho:Ht a.msg) (aok:Dm a) (hkd:a.kind=5):
 vR 7 [.ptr q 0,.ptr r 0,.agg (Dd a vc vi vd vl)] H fun v h'=>v= .lit (.bool true)/\∃p',JJ (fun b=>H0.n<=b) H0 h' q r p' c (XL c s a) (XL c s a):=by
 refine zW Tryz.func7 rfl rfl ?_
 have gg0:=hc.one
 have gg1:=hi.one
 have gg2:=hd.one
 have gg3:=hl.one
 obtain⟨⟨a0,b0⟩,⟨a1,b1⟩,⟨a2,b2⟩,⟨a3,b3⟩,⟨a4,b4⟩,⟨a5,b5⟩,⟨a6,b6⟩⟩:=ho
 obtain⟨hp,hhp,EP,P0⟩:=xX H (.cells (Dd a vc vi vd vl) 60)
 unfold Dd at P0 hhp
 have LP:=xI P0
 have jp:=j.ext EP
 have z0:(a.kind==0)=false:=by rw[hkd];rfl
 have z1:(a.kind==1)=false:=by rw[hkd];rfl
 have z2:(a.kind==2)=false:=by rw[hkd];rfl
 have z3:(a.kind==3)=false:=by rw[hkd];rfl
 have z4:(a.kind==4)=false:=by rw[hkd];rfl
 have z5:(a.kind==5)=true:=by rw[hkd];rfl
 unfold Dd
 simp only[jN,jB,jC,jE,jF,reduceCtorEq,jG,Tryz.ntmps7,<-hhp,gg0,gg1,gg2,gg3,b0,b1,b2,b3,b4,b5,b6,LP,z0,z1,z2,z3,z4,z5]
 have es:XL c s a=s:=by unfold XL;rw[if_neg (by omega),if_neg (by omega),if_neg (by omega),if_neg (by omega),if_neg (by omega)]
 rw[es]
 obtain⟨vo,vp,vb,now,ans,z⟩:=jp.P
 refine(oW z hb hN hN5).mono ?_
 rintro v1 h1 ⟨e1,ow⟩
 have hs1:zJ Hm (fun b=>hp.n<=b) h1 v1 (XW c s.m.epoch N):=ow.toSl (fun _ hh=>hh) (fun _ hh=>hh)
 have j1:=jp.ext e1
 simp only[jN,jB,jF]
 obtain⟨uo,up,ub,y,ud,ue,ul,zd⟩:=j1.D
 refine(cN zd hN hN5).mono ?_
 rintro v2 h2 ⟨e2,ow2⟩
 have hs2:zJ Hm (fun b=>h1.n<=b) h2 v2 (XW c s.m.epoch N):=ow2.toSl (fun _ hh=>hh) (fun _ hh=>hh)
 simp only[jN,jB,jF]
 refine(DV (hs1.ext e2 (jM _)) hs2 CX (by rw[Kh];omega)).mono ?_
 rintro _ h3 ⟨e3,rfl⟩
 simp only[jN,jB,jE,reduceCtorEq]
 exact⟨p,(j1.ext e2).ext e3⟩
end
end
section
section
variable {q p r N:Nat} {F:Nat->Prop} {H0 H:AH} {c:vM} {s:Zg} {vc vi vd vl:AV} {k i:Nat}
theorem j49(a:QF)(j:JJ (fun b=>H0.n<=b) H0 H q r p c s s)(sok:Gs s k i)(hkk:k+XM a.msg.incs<=1000000000)(hii:i<=100000000)(hb:0<c.boot)(hN:c.mons=(N:Int))(hN5:N<=5)(hF:∀b,F b->b<H0.n)
 (hc:zJ xZ F H vc a.op.d) (hi:zJ Kj F H vi a.msg.incs) (hd:zJ xZ F H vd a.msg.d) (hl:zJ JX F H vl a.msg.l) (ho:Ht a.msg) (aok:Dm a) (hkd:a.kind=3):
 vR 7 [.ptr q 0,.ptr r 0,.agg (Dd a vc vi vd vl)] H fun v h'=>v= .lit (.bool true)/\∃p',JJ (fun b=>H0.n<=b) H0 h' q r p' c (XL c s a) (XL c s a):=by
 refine zW Tryz.func7 rfl rfl ?_
 have gg0:=hc.one
 have gg1:=hi.one
 have gg2:=hd.one
 have gg3:=hl.one
 obtain⟨⟨a0,b0⟩,⟨a1,b1⟩,⟨a2,b2⟩,⟨a3,b3⟩,⟨a4,b4⟩,⟨a5,b5⟩,⟨a6,b6⟩⟩:=ho
 obtain⟨hp,hhp,EP,P0⟩:=xX H (.cells (Dd a vc vi vd vl) 60)
 have nP:hp.n=H.n+1:=by rw[hhp,zF]
 unfold Dd at P0 hhp
 have LP:=xI P0
 have lP:=jR P0
 have jp:=j.ext EP
 have je:=j.e.1
 have jql:=j.ql
 have jrl:=j.rl
 have jpl:=j.pl
 have hX:∀(h:AH),hp.n<=h.n->∀b,h.n<=b->H0.n<=b:=fun h h1 b hb=>by omega
 have z0:(a.kind==0)=false:=by rw[hkd];rfl
 have z1:(a.kind==1)=false:=by rw[hkd];rfl
 have z2:(a.kind==2)=false:=by rw[hkd];rfl
 have z3:(a.kind==3)=true:=by rw[hkd];rfl
 have z4:(a.kind==4)=false:=by rw[hkd];rfl
 have z5:(a.kind==5)=false:=by rw[hkd];rfl
 unfold Dd
 simp only[jN,jB,jC,jE,jF,reduceCtorEq,jG,Tryz.ntmps7,<-hhp,gg0,gg1,gg2,gg3,b0,b1,b2,b3,b4,b5,b6,LP,z0,z1,z2,z3,z4,z5]
 have es:XL c s a=AX s a.pg:=by unfold XL;rw[if_neg (by omega),if_neg (by omega),if_neg (by omega),if_pos hkd]
 rw[es]
 obtain⟨vo,vp,vb,now,ans,z⟩:=jp.P
 have hnu:0<=s.num/\s.num<=1000000000:=⟨sok.num.1,by have:=sok.num.2;omega⟩
 refine(j3H a.pg z hb (sok.mok (by omega)) sok.pl hnu).mono ?_
 rintro _ h1 ⟨bg,v1,rfl,hs1⟩
 obtain⟨p1,hp1,k1,j1⟩:=jp.prog (hX hp (jM _)) bg
 have n1:=k1.1
 have P1:=(k1.2 H.n lP (by omega) (by omega)).trans P0
 have LP1:=xI P1
 simp only[jN,jB,jE,jF,jG,LP1]
 obtain⟨uo,up,ub,y,ud,ue,ul,zd⟩:=j1.D
 refine(j0T a.pg zd (sok.mok (by omega)) sok.pl hnu).mono ?_
 rintro _ h2 ⟨dg,v2,rfl,hs2⟩
 have k2:=dg.1
 have j2:=j1.doc (hX h1 n1) dg
 have hs1':=k2.sl hs1 (fun b hb=>by omega)
 have hee:(VR s a.pg==VR s a.pg)=true:=by simp
 simp only[jN,jB,jE,jF,hee]
 refine(DV hs1' hs2 uB (zY (lK _ _ _) (by omega))).mono ?_
 rintro _ h3 ⟨e3,rfl⟩
 simp only[jN,jB,jE,jF,reduceCtorEq]
 exact⟨p1,j2.ext e3⟩
end
end
section
section
variable {q p r N:Nat} {F:Nat->Prop} {H0 H:AH} {c:vM} {s:Zg} {vc vi vd vl:AV} {k i:Nat}
theorem j1v(a:QF)(j:JJ (fun b=>H0.n<=b) H0 H q r p c s s)(sok:Gs s k i)(hkk:k+XM a.msg.incs<=1000000000)(hii:i<=100000000)(hb:0<c.boot)(hN:c.mons=(N:Int))(hN5:N<=5)(hF:∀b,F b->b<H0.n)
 (hc:zJ xZ F H vc a.op.d) (hi:zJ Kj F H vi a.msg.incs) (hd:zJ xZ F H vd a.msg.d) (hl:zJ JX F H vl a.msg.l) (ho:Ht a.msg) (aok:Dm a) (hkd:a.kind=4) (hx9:s.ans=none):
 vR 7 [.ptr q 0,.ptr r 0,.agg (Dd a vc vi vd vl)] H fun v h'=>v= .lit (.bool true)/\∃p',JJ (fun b=>H0.n<=b) H0 h' q r p' c (XL c s a) (XL c s a):=by
 refine zW Tryz.func7 rfl rfl ?_
 have gg0:=hc.one
 have gg1:=hi.one
 have gg2:=hd.one
 have gg3:=hl.one
 obtain⟨⟨a0,b0⟩,⟨a1,b1⟩,⟨a2,b2⟩,⟨a3,b3⟩,⟨a4,b4⟩,⟨a5,b5⟩,⟨a6,b6⟩⟩:=ho
 obtain⟨hp,hhp,EP,P0⟩:=xX H (.cells (Dd a vc vi vd vl) 60)
 unfold Dd at P0 hhp
 have LP:=xI P0
 have jp:=j.ext EP
 have z0:(a.kind==0)=false:=by rw[hkd];rfl
 have z1:(a.kind==1)=false:=by rw[hkd];rfl
 have z2:(a.kind==2)=false:=by rw[hkd];rfl
 have z3:(a.kind==3)=false:=by rw[hkd];rfl
 have z4:(a.kind==4)=true:=by rw[hkd];rfl
 have z5:(a.kind==5)=false:=by rw[hkd];rfl
 unfold Dd
 simp only[jN,jB,jC,jE,jF,reduceCtorEq,jG,Tryz.ntmps7,<-hhp,gg0,gg1,gg2,gg3,b0,b1,b2,b3,b4,b5,b6,LP,z0,z1,z2,z3,z4,z5]
 have es:XL c s a=Bg s:=by unfold XL;rw[if_neg (by omega),if_neg (by omega),if_neg (by omega),if_neg (by omega),if_pos hkd]
 rw[es]
 have et:Bg s=s:=by unfold Bg;cases s;simp only at hx9 ⊢;rw[hx9]
 rw[et]
 obtain⟨vo,vp,vb,now,ans,z⟩:=jp.P
 refine(gQ z hx9 hb).mono ?_
 rintro _ h1 ⟨e1,rfl⟩
 have j1:=jp.ext e1
 have w1:(AV.lit (.slice none 0 0)).one=true:=rfl
 obtain⟨hA0,hhA0⟩:∃hA0,hA0=h1.push (.cells (YS (Ci 0) (.lit (.slice none 0 0)) (.lit (.slice none 0 0))) 90):=⟨_,rfl⟩
 have XA0:=QJ hhA0
 have lXA0:=jR XA0
 obtain⟨hA,hhA⟩:∃hA,hA=hA0.put h1.n (.cells (YS (Ci 0) (.lit (.slice none 0 0)) (.lit (.slice none 0 0))) 90):=⟨_,rfl⟩
 have eA:zM h1.n h1 hA:=hhA▸(hhA0▸(zM.refl _ _).push _ (jM _)).put _ (jM _)
 have XA:=Jj hhA lXA0
 have jA:=j1.ext eA
 unfold YS at hhA hhA0 XA0
 unfold YS
 simp only[Ci]at hhA hhA0 XA0 ⊢
 simp only[jN,jB,jE,jF,jG,w1,<-hhA0,XA0,<-hhA]
 obtain⟨uo,up,ub,y,ud,ue,ul,zd⟩:=jA.D
 refine(Wj zd hx9).mono ?_
 rintro _ h2 ⟨e2,rfl⟩
 have j2:=jA.ext e2
 have X2:=(e2.2 h1.n (jR XA)).trans XA
 obtain⟨hB0,hhB0⟩:∃hB0,hB0=h2.push (.cells (YS (Ci 0) (.lit (.slice none 0 0)) (.lit (.slice none 0 0))) 68):=⟨_,rfl⟩
 have ZB0:=QJ hhB0
 have lZB0:=jR ZB0
 obtain⟨hB,hhB⟩:∃hB,hB=hB0.put h2.n (.cells (YS (Ci 0) (.lit (.slice none 0 0)) (.lit (.slice none 0 0))) 68):=⟨_,rfl⟩
 have eB:zM h2.n h2 hB:=hhB▸(hhB0▸(zM.refl _ _).push _ (jM _)).put _ (jM _)
 have ZB:=Jj hhB lZB0
 have XB:=(eB.2 _ (jR X2)).trans X2
 unfold YS at hhB hhB0 ZB ZB0 XB
 unfold YS
 simp only[Ci]at hhB hhB0 ZB ZB0 XB ⊢
 have LXB:=xI XB
 have LZB:=xI ZB
 have hff:(false==false)=true:=rfl
 simp only[jN,jB,jE,jF,jG,w1,<-hhB0,ZB0,<-hhB,LXB,LZB,hff]
 refine(Ny (F:=fun _=>True) (G:=fun _=>True) (Ci 0) .nil .nil .nil .nil (by decide:(0:Nat)<=4611686018427387000)).mono ?_
 rintro _ h3 ⟨e3,rfl⟩
 simp only[jN,jB,jE,jF,reduceCtorEq]
 exact⟨p,(j2.ext eB).ext e3⟩
end
end
section
section
variable {q p r N:Nat} {F:Nat->Prop} {H0 H:AH} {c:vM} {s:Zg} {vc vi vd vl:AV} {k i:Nat}
theorem j1w(a:QF)(j:JJ (fun b=>H0.n<=b) H0 H q r p c s s)(sok:Gs s k i)(hkk:k+XM a.msg.incs<=1000000000)(hii:i<=100000000)(hb:0<c.boot)(hN:c.mons=(N:Int))(hN5:N<=5)(hF:∀b,F b->b<H0.n)
 (hc:zJ xZ F H vc a.op.d) (hi:zJ Kj F H vi a.msg.incs) (hd:zJ xZ F H vd a.msg.d) (hl:zJ JX F H vl a.msg.l) (ho:Ht a.msg) (aok:Dm a) (hkd:a.kind=4) (x9:Rj) (hx9:s.ans=some x9):
 vR 7 [.ptr q 0,.ptr r 0,.agg (Dd a vc vi vd vl)] H fun v h'=>v= .lit (.bool true)/\∃p',JJ (fun b=>H0.n<=b) H0 h' q r p' c (XL c s a) (XL c s a):=by
 refine zW Tryz.func7 rfl rfl ?_
 have gg0:=hc.one
 have gg1:=hi.one
 have gg2:=hd.one
 have gg3:=hl.one
 obtain⟨⟨a0,b0⟩,⟨a1,b1⟩,⟨a2,b2⟩,⟨a3,b3⟩,⟨a4,b4⟩,⟨a5,b5⟩,⟨a6,b6⟩⟩:=ho
 obtain⟨hp,hhp,EP,P0⟩:=xX H (.cells (Dd a vc vi vd vl) 60)
 have nP:hp.n=H.n+1:=by rw[hhp,zF]
 unfold Dd at P0 hhp
 have LP:=xI P0
 have jp:=j.ext EP
 have je:=j.e.1
 have jrl:=j.rl
 have hX:∀(h:AH),hp.n<=h.n->∀b,h.n<=b->H0.n<=b:=fun h h1 b hb=>by omega
 have z0:(a.kind==0)=false:=by rw[hkd];rfl
 have z1:(a.kind==1)=false:=by rw[hkd];rfl
 have z2:(a.kind==2)=false:=by rw[hkd];rfl
 have z3:(a.kind==3)=false:=by rw[hkd];rfl
 have z4:(a.kind==4)=true:=by rw[hkd];rfl
 have z5:(a.kind==5)=false:=by rw[hkd];rfl
 unfold Dd
 simp only[jN,jB,jC,jE,jF,reduceCtorEq,jG,Tryz.ntmps7,<-hhp,gg0,gg1,gg2,gg3,b0,b1,b2,b3,b4,b5,b6,LP,z0,z1,z2,z3,z4,z5]
 have es:XL c s a=Bg s:=by unfold XL;rw[if_neg (by omega),if_neg (by omega),if_neg (by omega),if_neg (by omega),if_pos hkd]
 rw[es]
 obtain⟨vo,vp,vb,now,ans,z⟩:=jp.P
 refine(WF x9 z hx9 hb).mono ?_
 rintro _ h1 ⟨k1,zp1,u1,u2,rfl,q1,q2⟩
 have n1:=k1.1
 have bg:j0G q p (fun b=>H0.n<=b/\b≠r) hp h1 c (Bg s):=by obtain⟨wo,wp,wb,wn,wa,zz⟩:=zp1;have hw2:∀b,Gq (fun b=>H0.n<=b/\b≠r) q p b->b<h1.n->h1.at b=h1.at b/\Gq (fun b=>(H0.n<=b/\b≠r)\/hp.n<=b) q p b:=fun b hb _=>⟨rfl,.inl hb.1,hb.2⟩;exact⟨p,.of k1,.inl rfl,fun hh=>zS hh n1,wo,wp,wb,wn,wa,zz.cq,zz.m.lift hw2,zz.now.lift hw2 (fun _ _=>rfl),zz.ans.lift hw2⟩
 obtain⟨p1,hp1,k1',j1⟩:=jp.prog (hX hp (jM _)) bg
 have w1:=q1.one
 have w2:=q2.one
 obtain⟨hA,hhA,eA,XA⟩:=xX h1 (.cells (YS x9 u1 u2) 90)
 have nA:hA.n=h1.n+1:=by rw[hhA,zF]
 have jA:=j1.ext eA
 unfold YS at hhA
 unfold YS
 simp only[jN,jB,jE,jF,jG,w1,w2,<-hhA]
 obtain⟨uo,up,ub,y,ud,ue,ul,zd⟩:=jA.D
 refine(Rk x9 zd hx9).mono ?_
 rintro _ h2 ⟨k2,zd2,u3,u4,rfl,q3,q4⟩
 have n2:=k2.1
 have dg:j0I r (fun b=>H0.n<=b/\b≠q/\b≠p1) hA h2 c (Bg s):=by obtain⟨wo,wp,wb,w9,w5,w6,w7,zz⟩:=zd2;exact⟨k2,wo,wp,wb,w9,w5,w6,w7,zz.lift rfl fun b hb _=>⟨rfl,.inl hb.1⟩⟩
 have j2:=jA.doc (hX hA (by omega)) dg
 have w3:=q3.one
 have w4:=q4.one
 have X2:=(k2.2 h1.n (jR XA) (by omega)).trans XA
 obtain⟨hB,hhB,eB,ZB⟩:=xX h2 (.cells (YS x9 u3 u4) 68)
 have XB:=(eB.2 _ (jR X2)).trans X2
 unfold YS at hhB ZB XB
 unfold YS
 have LXB:=xI XB
 have LZB:=xI ZB
 have hbb:(true==true)=true:=rfl
 simp only[jN,jB,jE,jF,jG,w3,w4,<-hhB,LXB,LZB,hbb]
 have q1':zJ xZ (fun b=>b<h1.n/\b≠r) h1 u1 x9.d:=q1.lift fun b hb hlt=>⟨rfl,hlt,hb.1.2⟩
 have q2':zJ JX (fun b=>b<h1.n/\b≠r) h1 u2 x9.l:=q2.lift fun b hb hlt=>⟨rfl,hlt,hb.1.2⟩
 have hk12:∀b,b<h1.n/\b≠r->b<h1.n->hB.at b=h1.at b/\True:=fun b hb hlt=>⟨(eB.2 b (by omega)).trans ((k2.2 b (by omega) hb.2).trans (eA.2 b hlt)),trivial⟩
 refine(Ny (F:=fun _=>True) (G:=fun _=>True) x9 (q1'.lift hk12) (q2'.lift hk12) (q3.lift fun b hb hlt=>⟨eB.2 b hlt,trivial⟩) (q4.lift fun b hb hlt=>⟨eB.2 b hlt,trivial⟩) (by have:=sok.ans x9 hx9;omega)).mono ?_
 rintro _ h3 ⟨e3,rfl⟩
 simp only[jN,jB,jE,jF,reduceCtorEq]
 exact⟨p1,(j2.ext eB).ext e3⟩
end
end
section
section
variable {q p r N:Nat} {F:Nat->Prop} {H0 H:AH} {c:vM} {s:Zg} {vc vi vd vl:AV} {k i:Nat}
theorem j4b(a:QF)(j:JJ (fun b=>H0.n<=b) H0 H q r p c s s)(sok:Gs s k i)(hkk:k+XM a.msg.incs<=1000000000)(hii:i<=100000000)(hb:0<c.boot)(hN:c.mons=(N:Int))(hN5:N<=5)(hF:∀b,F b->b<H0.n)
 (hc:zJ xZ F H vc a.op.d) (hi:zJ Kj F H vi a.msg.incs) (hd:zJ xZ F H vd a.msg.d) (hl:zJ JX F H vl a.msg.l) (ho:Ht a.msg) (aok:Dm a) (hkd:¬(0<=a.kind/\a.kind<=5)):
 vR 7 [.ptr q 0,.ptr r 0,.agg (Dd a vc vi vd vl)] H fun v h'=>v= .lit (.bool true)/\∃p',JJ (fun b=>H0.n<=b) H0 h' q r p' c (XL c s a) (XL c s a):=by
 refine zW Tryz.func7 rfl rfl ?_
 have gg0:=hc.one
 have gg1:=hi.one
 have gg2:=hd.one
 have gg3:=hl.one
 obtain⟨⟨a0,b0⟩,⟨a1,b1⟩,⟨a2,b2⟩,⟨a3,b3⟩,⟨a4,b4⟩,⟨a5,b5⟩,⟨a6,b6⟩⟩:=ho
 obtain⟨hp,hhp,EP,P0⟩:=xX H (.cells (Dd a vc vi vd vl) 60)
 unfold Dd at P0 hhp
 have LP:=xI P0
 have jp:=j.ext EP
 have z0:(a.kind==0)=false:=by rw[beq_eq_false_iff_ne];omega
 have z1:(a.kind==1)=false:=by rw[beq_eq_false_iff_ne];omega
 have z2:(a.kind==2)=false:=by rw[beq_eq_false_iff_ne];omega
 have z3:(a.kind==3)=false:=by rw[beq_eq_false_iff_ne];omega
 have z4:(a.kind==4)=false:=by rw[beq_eq_false_iff_ne];omega
 have z5:(a.kind==5)=false:=by rw[beq_eq_false_iff_ne];omega
 unfold Dd
 simp only[jN,jB,jC,jE,jF,reduceCtorEq,jG,Tryz.ntmps7,<-hhp,gg0,gg1,gg2,gg3,b0,b1,b2,b3,b4,b5,b6,LP,z0,z1,z2,z3,z4,z5]
 have es:XL c s a=s:=by unfold XL;rw[if_neg (by omega),if_neg (by omega),if_neg (by omega),if_neg (by omega),if_neg (by omega)]
 rw[es]
 exact⟨p,jp⟩
end
end
section
section
variable {q p r N:Nat} {F:Nat->Prop} {H0 H:AH} {c:vM} {s:Zg} {vc vi vd vl:AV} {k i:Nat}
theorem j48(a:QF)(j:JJ (fun b=>H0.n<=b) H0 H q r p c s s)(sok:Gs s k i)(hkk:k+XM a.msg.incs<=1000000000)(hii:i<=100000000)(hb:0<c.boot)(hN:c.mons=(N:Int))(hN5:N<=5)(hF:∀b,F b->b<H0.n)
 (hc:zJ xZ F H vc a.op.d) (hi:zJ Kj F H vi a.msg.incs) (hd:zJ xZ F H vd a.msg.d) (hl:zJ JX F H vl a.msg.l) (ho:Ht a.msg) (aok:Dm a) (hkd:a.kind=2):
 vR 7 [.ptr q 0,.ptr r 0,.agg (Dd a vc vi vd vl)] H fun v h'=>v= .lit (.bool true)/\∃p',JJ (fun b=>H0.n<=b) H0 h' q r p' c (XL c s a) (XL c s a):=by
 refine zW Tryz.func7 rfl rfl ?_
 have gg0:=hc.one
 have gg1:=hi.one
 have gg2:=hd.one
 have gg3:=hl.one
 obtain⟨⟨a0,b0⟩,⟨a1,b1⟩,⟨a2,b2⟩,⟨a3,b3⟩,⟨a4,b4⟩,⟨a5,b5⟩,⟨a6,b6⟩⟩:=ho
 obtain⟨hp,hhp,EP,P0⟩:=xX H (.cells (Dd a vc vi vd vl) 60)
 have nP:hp.n=H.n+1:=by rw[hhp,zF]
 unfold Dd at P0 hhp
 have LP:=xI P0
 have lP:=jR P0
 have jp:=j.ext EP
 have je:=j.e.1
 have jql:=j.ql
 have jrl:=j.rl
 have jpl:=j.pl
 have z0:(a.kind==0)=false:=by rw[hkd];rfl
 have z1:(a.kind==1)=false:=by rw[hkd];rfl
 have z2:(a.kind==2)=true:=by rw[hkd];rfl
 have z3:(a.kind==3)=false:=by rw[hkd];rfl
 have z4:(a.kind==4)=false:=by rw[hkd];rfl
 have z5:(a.kind==5)=false:=by rw[hkd];rfl
 unfold Dd
 simp only[jN,jB,jC,jE,jF,reduceCtorEq,jG,Tryz.ntmps7,<-hhp,gg0,gg1,gg2,gg3,b0,b1,b2,b3,b4,b5,b6,LP,z0,z1,z2,z3,z4,z5]
 have es:XL c s a=VI s a.pool a.op:=by unfold XL;rw[if_neg (by omega),if_neg (by omega),if_pos hkd]
 rw[es]
 obtain⟨n,hn0⟩:∃n,n=a.op.d.length:=⟨_,rfl⟩
 have hod:=aok.od
 refine(j4G (hc.ext EP (jM _)) hod).mono ?_
 rintro _ h1 ⟨e1,W1,rfl⟩
 rw[<-hn0]
 rw[<-hn0]at hod
 have P1:=(e1.2 _ lP).trans P0
 have LP1:=xI P1
 have lW1:=jR W1
 obtain⟨h2,hh2⟩:∃h2,h2=h1.push (.cells [.lit (.int .i64 0),.lit (.string ⟨#[]⟩),.lit (.slice none 0 0),.lit (.int .i64 0),.lit (.int .i64 0)] 41):=⟨_,rfl⟩
 have O2:=QJ hh2
 have lO2:=jR O2
 have e2:=ZS hh2
 have n2:h2.n=h1.n+1:=by rw[hh2,zF]
 obtain⟨h3,hh3⟩:∃h3,h3=h2.put h1.n (.cells [.lit (.int .i64 a.op.k),.lit (.string a.op.s),vc,.lit (.int .i64 a.op.e),.lit (.int .i64 a.op.n)] 41):=⟨_,rfl⟩
 have O3:=Jj hh3 lO2
 have lO3:=jR O3
 have e3:zM h1.n h1 h3:=hh3▸e2.put _ (jM _)
 have n3:h3.n=h1.n+1:=by rw[hh3,kZ,n2]
 obtain⟨h4,hh4⟩:∃h4,h4=h3.put h1.n (.cells [.lit (.int .i64 a.op.k),.lit (.string a.op.s),.sl hp.n 1 n (.kn (n+1)),.lit (.int .i64 a.op.e),.lit (.int .i64 a.op.n)] 41):=⟨_,rfl⟩
 have O4:=Jj hh4 lO3
 have LO4:=xI O4
 have e4:zM h1.n h1 h4:=hh4▸e3.put _ (jM _)
 have n4:h4.n=h1.n+1:=by rw[hh4,kZ,n3]
 have E4:zM hp.n hp h4:=e1.trans (e4.mono e1.1)
 have P4:=(E4.2 _ lP).trans P0
 have LP4:=xI P4
 have lP4:=jR P4
 have W4:=(e4.2 _ lW1).trans W1
 have j4:JJ (fun b=>H0.n<=b/\b≠hp.n) H0 h4 q r p c s s:=jp.keep (fun b hb _=>E4.2 b hb) E4.1 fun b hb hlt=>⟨hb,by omega⟩
 have sl4:zJ xZ (fun _=>True) h4 (.sl hp.n 1 n (.kn (n+1))) a.op.d:=by rw[hn0];refine zJ.mkBytes (row:=bL (Vw a.op.d)) trivial (by unfold Zj;rw[W4]) ?_ (fun b off n cap e=>by cases e;exact KO _);unfold cut Vw;rw[if_pos (by rw[Li];simp;omega),OY,CY];congr 2;rw[List.drop_one,List.tail_cons];simp
 simp only[jN,jB,jE,jF,reduceCtorEq,jG,LP1,gg0,<-hh2,O2,<-hh3,O3,<-hh4,LO4,LP4]
 obtain⟨vo,vp,vb,now,ans,z⟩:=j4.P
 have hnu:0<=s.num/\s.num<=1000000000:=⟨sok.num.1,by have:=sok.num.2;omega⟩
 refine(j0P a.pool a.op z hb (sok.mok (by omega)) hnu sl4 aok.os).mono ?_
 rintro _ h5 ⟨bg,v1,rfl,hs1⟩
 obtain⟨p1,hp1,k1,j5⟩:=j4.prog (fun b hb=>⟨by omega,by omega⟩) bg
 have n5:=k1.1
 have P5:=(k1.2 H.n lP4 (by omega) (by omega)).trans P4
 have W5:=(k1.2 hp.n (jR W4) (by omega) (by omega)).trans W4
 have LP5:=xI P5
 have lP5:=jR P5
 have jq:=j.hq
 have jr:=j.hr
 have jhp:=j.hp
 have hlf:∀b,F b->b<hp.n->h5.at b=hp.at b/\F b:=fun b hb hlt=>⟨(k1.2 b (by omega) (by have:=hF b hb;omega) (by have:=hF b hb;omega)).trans (E4.2 b hlt),hb⟩
 simp only[jN,jB,jE,jF,jG,LP5]
 obtain⟨uo,up,ub,y,ud,ue,ul,zd⟩:=j5.D
 refine(oU (F:=F) a.pool a.op zd (sok.mok (by omega)) hnu ((hc.ext EP (jM _)).lift hlf) aok.os).mono ?_
 rintro _ h6 ⟨dg,v2,rfl,hs2⟩
 have k6:=dg.1
 have j6:=j5.doc (fun b hb=>⟨by omega,by omega⟩) dg
 have P6:=(k6.2 H.n lP5 (by omega)).trans P5
 have W6:=(k6.2 hp.n (jR W5) (by omega)).trans W5
 have LP6:=xI P6
 have hs1':=k6.sl hs1 (fun b hb=>by omega)
 have hc6:zJ xZ F h6 vc a.op.d:=((hc.ext EP (jM _)).lift hlf).lift fun b hb hlt=>⟨k6.2 b hlt (by have:=hF b hb;omega),hb⟩
 simp only[jN,jB,jE,jF,LP6]
 have hkept:=j4C W6 hc6 aok.od
 rw[<-hn0]at hkept
 refine hkept.mono ?_
 rintro _ _ ⟨q5,rfl⟩
 replace q5:=q5.symm
 subst q5
 simp only[jN,jB,jE,jF,GO,GP]
 obtain⟨E,hE⟩:∃E,E=Qe s a.pool a.op:=⟨_,rfl⟩
 rw[<-hE]
 refine kO n (fun i t h=>(Kq hp.n h6 h/\∃xs:List UInt8,xs.length=n+2/\h.at hp.n=some (.cells (bL xs) 5))/\t.n=150/\t.get 5= .ptr H.n 0/\t.get 6= .lit (.bool false)/\t.get 8= .sl hp.n 1 n (.kn (n+1))/\t.get 10=v1/\t.get 11= .lit (.int .i64 E)/\t.get 12=v2/\t.get 13= .lit (.int .i64 E)/\t.get 14= .lit (.bool true)/\t.get 80= .lit (.int .i64 n)/\t.get 81= .lit (.int .i64 i)) ?_ ?_ _ _ ?_
 ·rintro i t h hlt hc9 ⟨⟨kW,xs,hxl,hat⟩,ga⟩ ih;have hwi:=xG (n:=n) hlt (by omega);have l:=jR hat;have p3:=PK (xs:=xs) (i:=1+i) 8 (by omega);rw[show((8:UInt8).toNat:Int)=8 from rfl]at p3;simp only[Jy,qT,jB,jE,jF,reduceCtorEq,ga,hlt,hc9,hat,p3,GO,GP,Fk,Fl,hwi];refine ih _ _ ⟨⟨kW.put _,_,by rw[yI];exact hxl,Iw l⟩,?_⟩;simp only[jN,jE,jF,ga]
 ·rintro t h hc9 ⟨⟨kW,xs,hxl,hat⟩,ga⟩;have hee:(E==E)=true:=by simp
  simp only[jN,jB,jE,jF,reduceCtorEq,ga,hc9,hee];have j9:JJ (fun b=>H0.n<=b) H0 h q r p1 c (VI s a.pool a.op) (VI s a.pool a.op):=j6.keep (fun b hb hh=>kW.2 b hb (by
   have:=j6.hq;have:=j6.hr;have:=j6.hp;have:=j6.ql;rcases hh with hh|rfl|rfl|rfl|hh
   ·exact hh.2
   ·omega
   ·omega
   ·omega
   ·omega)) kW.1 fun b hb _=>hb.1
  refine(DV (kW.sl hs1' (fun b hb=>by omega)) (kW.sl hs2 (fun b hb=>by omega)) gW (zY (WI _ _ _ _) (by omega))).mono ?_;rintro _ h10 ⟨e10,rfl⟩;simp only[jN,jE,jF,reduceCtorEq,ga];exact⟨p1,j9.ext e10⟩
 ·refine⟨⟨.refl _ _,_,by rw[Qr,<-hn0],W6⟩,?_⟩;simp only[jN,jB,jE,jF];(repeat' apply And.intro)<;>first|rfl|trivial
end
end
section
section
variable {q p r N:Nat} {F:Nat->Prop} {H0 H:AH} {c:vM} {s:Zg} {vc vi vd vl:AV} {k i:Nat}
theorem j1u(a:QF)(j:JJ (fun b=>H0.n<=b) H0 H q r p c s s)(sok:Gs s k i)(hkk:k+XM a.msg.incs<=1000000000)(hii:i<=100000000)(hb:0<c.boot)(hN:c.mons=(N:Int))(hN5:N<=5)(hF:∀b,F b->b<H0.n)
 (hc:zJ xZ F H vc a.op.d) (hi:zJ Kj F H vi a.msg.incs) (hd:zJ xZ F H vd a.msg.d) (hl:zJ JX F H vl a.msg.l) (ho:Ht a.msg) (aok:Dm a):
 vR 7 [.ptr q 0,.ptr r 0,.agg (Dd a vc vi vd vl)] H fun v h'=>v= .lit (.bool true)/\∃p',JJ (fun b=>H0.n<=b) H0 h' q r p' c (XL c s a) (XL c s a):=by
 by_cases h0:a.kind=0
 ·exact j46 a j sok hkk hii hb hN hN5 hF hc hi hd hl ho aok h0
 by_cases h1:a.kind=1
 ·exact j47 a j sok hkk hii hb hN hN5 hF hc hi hd hl ho aok h1
 by_cases h2:a.kind=2
 ·exact j48 a j sok hkk hii hb hN hN5 hF hc hi hd hl ho aok h2
 by_cases h3:a.kind=3
 ·exact j49 a j sok hkk hii hb hN hN5 hF hc hi hd hl ho aok h3
 by_cases h4:a.kind=4
 ·cases ha:s.ans with
  |none=>exact j1v a j sok hkk hii hb hN hN5 hF hc hi hd hl ho aok h4 ha
  |some x9=>exact j1w a j sok hkk hii hb hN hN5 hF hc hi hd hl ho aok h4 x9 ha
 by_cases h5:a.kind=5
 ·exact j4a a j sok hkk hii hb hN hN5 hF hc hi hd hl ho aok h5
 exact j4b a j sok hkk hii hb hN hN5 hF hc hi hd hl ho aok (by omega)
end
structure j5y(a:QF):Prop where
 it:∀y∈a.msg.incs,∀c∈y.changes,c.bucket.items.length<=1048576
 sz:∀y∈a.msg.incs,Sm 88 y.changes/\∀c∈y.changes,Sm 8 c.bucket.items/\Sm 8 c.bucket.weights
 ep:∀y∈a.msg.incs,Zq y.epoch
 dl:a.msg.d.length<=140737488351232
 ll:a.msg.l.length * 16<=140737488351232
 od:a.op.d.length<=140737488351232
 os:a.op.s.size<=140737488351232
 nn:a.msg.incs.length<=4611686018427387000
def Ho(l:List QF):Nat:=(l.map fun a=>XM a.msg.incs).sum
theorem NB{l:List QF}{i:Nat}{a:QF}(h:l[i]? =some a):Ho (l.take (i+1))=Ho (l.take i)+XM a.msg.incs:=by unfold Ho;rw[qV,h];simp
theorem j1F(l:List QF)(i:Nat):Ho (l.take i)<=Ho l:=by
 unfold Ho;conv=>rhs;rw[<-yE i l]
 rw[QD,List.sum_append];omega
theorem iJ(m:zU):GD m≠[]:=fun hh=>by have:=BD m;rw[hh]at this;simp at this;omega
theorem j7a:Gs j67 0 0:=⟨⟨j2F,rfl,vT _,jM _,jM _,fun b hb=>by cases hb⟩,by show Zq 0;unfold Zq;omega,HK,⟨Zy 0,Zy 0⟩,fun x hx=>(by cases hx),fun x hx=>(by cases hx)⟩
theorem runs_m{F:Nat->Prop}{H:AH}{c:vM}{va:AV}{acts:List QF}(ha:zJ Ru F H va acts)(hF:∀b,F b->b<H.n)(hok:∀a∈acts,j5y a)(hlen:acts.length<=100000000)(hch:Ho acts<=2000000):
 vR 3 [.agg [.lit (.int .i64 c.k),.lit (.int .i64 c.i),.lit (.int .i64 c.boot),.lit (.int .i64 c.mons),.lit (.int .i64 c.tries)],va] H fun v h'=>v= .lit (.bool true):=by
 refine zW Tryz.func3 rfl rfl ?_
 have s1:=ha.isSl
 have s2:=ha.lenD
 obtain⟨hp,hhp,EP,P0⟩:=xX H (.cells [.lit (.int .i64 c.k),.lit (.int .i64 c.i),.lit (.int .i64 c.boot),.lit (.int .i64 c.mons),.lit (.int .i64 c.tries)] 25)
 have LP:=xI P0
 have lP:=jR P0
 simp only[jN,jB,jC,jE,jF,jG,Tryz.ntmps3,<-hhp,LP]
 by_cases hbad:c.boot<1\/c.tries<1\/c.mons<1\/5<c.mons
 ·refine(j5G c hbad).mono ?_;rintro _ h1 ⟨e1,rfl⟩;have P1:=(e1.2 _ lP).trans P0;have LP1:=xI P1;simp only[jN,jB,jE,jF,jG,LP1];refine(j0W c hbad).mono ?_;rintro _ h2 ⟨e2,rfl⟩;have hpn:yS Tryz.prog (binOp .eql 27 (.pointer none) (.pointer none))=some (.ok (.bool true)):=by kernel_rfl
  have q1:((22:Int)!=22)=false:=rfl;have q2:((22:Int)!=0)=true:=rfl;simp only[jN,jB,jE,jF,reduceCtorEq,WD,hpn,q1,q2];refine EY ?_;simp only[jN,jB,jE,reduceCtorEq]
 have hb1:¬c.boot<1:=by omega
 have hb2:¬c.tries<1:=by omega
 have hb3:¬c.mons<1:=by omega
 have hb4:¬5<c.mons:=by omega
 have hb0:0<c.boot:=by omega
 obtain⟨N,hN⟩:∃N:Nat,c.mons=(N:Int):=Rn (by omega)
 have hN5:N<=5:=by omega
 refine(j3J c hb1 hb2 hb3 hb4).mono ?_
 rintro _ h1 ⟨e1,q,rfl,hq,vo,vp,vb,y1,y2⟩
 have P1:=(e1.2 _ lP).trans P0
 have LP1:=xI P1
 simp only[jN,jB,jE,jF,jG,LP1]
 refine(j0X c hb1 hb2 hb3 hb4).mono ?_
 rintro _ h2 ⟨e2,r,rfl,hr,wo,wp,wb,yd,wd,we,wl,zd⟩
 have lq:=jR y1
 have lr:=zd.lt
 have q1:((0:Int)!=0)=false:=rfl
 have j0:JJ (fun b=>H.n<=b) H h2 q r q c j67 j67:=by
  refine⟨EP.trans ((e1.trans (e2.mono e1.1)).mono EP.1),by omega,by omega,by omega,by omega,by omega,lr,by omega,by omega,?_,?_⟩
  ·refine⟨vo,vp,vb,.lit (.pointer none),.lit (.pointer none),?_⟩;have hl:∀b,q<b->b<h1.n->h2.at b=h1.at b/\Gq (fun b=>H.n<=b/\b≠r) q q b:=fun b hb hlt=>⟨e2.2 b hlt,⟨by omega,by omega⟩,by omega,by omega⟩;exact⟨(e2.2 _ lq).trans y1,y2.lift hl,rfl,rfl⟩
  ·exact⟨wo,wp,wb,yd,wd,we,wl,zd.lift rfl fun b hb _=>by have:=hb.1;exact⟨rfl,by omega,by omega,by omega⟩⟩
 obtain⟨M,hM⟩:∃M,M=acts.length:=⟨_,rfl⟩
 rw[<-hM]at s2 hlen
 simp only[jN,jB,jE,jF,reduceCtorEq,q1,s1,s2]
 refine kO M (fun i t h=>(∃s p,JJ (fun b=>H.n<=b) H h q r p c s s/\Gs s (Ho (acts.take i)) i)/\t.n=99/\t.get 4= .lit (.bool false)/\t.get 5= .ptr q 0/\t.get 7= .ptr r 0/\t.get 48=va/\t.get 49= .lit (.int .i64 M)/\t.get 50= .lit (.int .i64 i)) ?_ ?_ _ _ ?_
 ·rintro i t h hlt hc ⟨⟨s,p,j,sok⟩,ga⟩ ih;obtain⟨a,hai⟩:∃a,acts[i]? =some a:=⟨_,jO (by omega)⟩;have hab:=hok a (zR hai);have hcl:=j1F acts (i+1);rw[NB hai]at hcl;have hwi:=xG (n:=M) hlt (by omega);have haE:=ha.ext j.e (jM _);obtain⟨cc,hc1,hld,hld0⟩:=haE.at (T:=zH Tryz.prog kR) j3O hai;obtain⟨vc,vi,vd,vl,rfl,g_c,g_i,g_d,g_l,g_o⟩:=cW.1 hc1;obtain⟨hA,hhA,eA,XA⟩:=xX h (.cells (Dd a vc vi vd vl) 60);have o1:=g_c.one;have o2:=g_i.one;have o3:=g_d.one;have o4:=g_l.one;have i1:=g_c.isSl;have i2:=g_i.isSl;have i3:=g_d.isSl;have i4:=g_l.isSl;have i5:=g_i.lenD;have g_o':=g_o;obtain⟨⟨a0,b0⟩,⟨a1,b1⟩,⟨a2,b2⟩,⟨a3,b3⟩,⟨a4,b4⟩,⟨a5,b5⟩,⟨a6,b6⟩⟩:=g_o;have jA:=j.ext eA;unfold Dd at hld hld0 XA hhA;have LXA:=xI XA;simp only[jN,jB,jE,jF,reduceCtorEq,jG,ga,s1,s2,hlt,hc,hld0,o1,o2,o3,o4,b0,b1,b2,b3,b4,b5,b6,<-hhA,LXA,i2,i5];by_cases h60:(60:Int)<(a.msg.incs.length:Int)
  ·simp only[jN,reduceCtorEq,h60];refine EY ?_;simp only[jN,jE,reduceCtorEq,ga]
  have aok:Dm a:=⟨⟨by omega,hab.it,hab.sz,hab.ep,hab.dl,hab.ll⟩,hab.od,hab.os⟩;simp only[jN,reduceCtorEq,h60];rw[zL [0,1,2,3,4,5,6,8,9,10,11,7,12,13,14,15,17,18,19,20,21,16,22,23,24,25,29,30,31,32,26,27,28,33,34,35,36] 6442197994900900431786453726787449089267907846794272626513296535928393918198092540001367622451556678585682766414311510476081570311280610082256022376209925440188979772292562568838826953429739933392369335766850355614385369053176542346586672836137238606372904876571924325869542713859129964587546502842294518337189359722506338578611323774395287384758880413655983557658741233392794412496915022592537911987591773683712 (by kernel_rfl)];repeat (first|((with_reducible refine jX ?_;simp only[vO];try simp only[vP,jB,jD,jH,jI]);simp only[jN,jB,jE,jF,jG,zG,ga,LXA])|refine⟨by simp only[yK,i1,i2,i3,i4,a0,a1,a2,a3,a4,a5,a6,kS],?_⟩)
  refine(j1u (F:=F) (N:=N) a jA sok (by omega) (by omega) hb0 hN hN5 hF (g_c.ext eA (jM _)) (g_i.ext eA (jM _)) (g_d.ext eA (jM _)) (g_l.ext eA (jM _)) g_o' aok).mono ?_;rintro _ h3 ⟨rfl,p3,j3⟩;obtain⟨s',hs'⟩:∃s',s'=XL c s a:=⟨_,rfl⟩;have sok3:=j1x (c:=c) sok aok (by omega);rw[<-hs']at j3 sok3;obtain⟨uo,up,ub,yy,ud,ue,ul,zz⟩:=j3.D;have R3:=zz.cr;unfold EI at R3;have LR3:=xI R3;have lR3:=jR R3;have y4':=zz.m.o.isSl;have y5':=zz.m.p.isSl;have y6':=zz.m.b.isSl;repeat (first|((with_reducible refine jX ?_;simp only[vO];try simp only[vP,jB,jD,jH,jI]);simp only[jN,jE,jF,zG,ga,LR3])|refine⟨by simp only[yK,y4',y5',y6',kS],?_⟩)
  have hst:=sok3.st;have hmo:=sok3.mok (by omega);have henc:=j4p hst (by omega);have hne:=iJ s'.m;have hex:(s'.m.epoch !=s'.m.epoch)=false:=by simp
  obtain⟨vo9,vp9,vb9,now9,ans9,zp⟩:=j3.P;refine(j4i zp hb0).mono ?_;rintro _ _ ⟨rfl,q5⟩;replace q5:=q5.symm;subst q5;repeat (first|((with_reducible refine jX ?_;simp only[vO];try simp only[vP,jB,jD,jH,jI]);simp only[jN,jE,jF,zG,ga,LR3])|refine⟨by simp only[yK,Ol,y4',y5',y6',kS],?_⟩)
  refine(j1N zp hb0).mono ?_;rintro _ _ ⟨rfl,q5⟩;replace q5:=q5.symm;subst q5;repeat (first|((with_reducible refine jX ?_;simp only[vO];try simp only[vP,jB,jD,jH,jI]);simp only[jN,jB,jE,jF,jG,zG,ga,LR3,hex])|refine⟨by simp only[yK,y4',y5',y6',kS],?_⟩)
  refine(j6s zp hb0 hmo.ok (by have:=hst.nb;omega)).mono ?_;rintro _ h4 ⟨e4,ro,rp,rb,rfl,m4⟩;have R4:=(e4.2 _ lR3).trans R3;have LR4:=xI R4;have lR4:=jR R4;repeat (first|((with_reducible refine jX ?_;simp only[vO];try simp only[vP,jB,jD,jH,jI]);simp only[jN,jB,jE,jF,jG,zG,ga,LR4])|refine⟨by simp only[yK,y4',y5',y6',kS],?_⟩)
  have mA:vG (fun k=>k<h4.n) h4 _ ro rp rb:=⟨m4.o.lift fun _ _ hlt=>⟨rfl,hlt⟩,m4.p.lift fun _ _ hlt=>⟨rfl,hlt⟩,m4.b.lift fun _ _ hlt=>⟨rfl,hlt⟩⟩;refine(uJ _ mA (fun k hk=>hk) hmo.ok.1.1 hmo.ok.2.1.1 hmo.ok.2.2.1 hmo.ok.2.2.2 henc).mono ?_;rintro _ h5 ⟨e5,ob⟩;obtain⟨p5,rfl,hp5,hat5,hby5⟩:=qE.bytes ob hne;have R5:=(e5.2 _ lR4).trans R4;have LR5:=xI R5;have e45:=e4.trans (e5.mono e4.1);repeat (first|((with_reducible refine jX ?_;simp only[vO];try simp only[vP,jB,jD,jH,jI]);simp only[jN,jB,jE,jF,jG,zG,ga,LR5,Bv,Am,hby5])|refine⟨by simp only[yK,y4',y5',y6',kS],?_⟩)
  have mB:vG (fun k=>k<h5.n) h5 _ uo up ub:=zz.m.lift fun b hb hlt=>⟨e45.2 b hlt,zS hlt e45.1⟩;refine(uJ _ mB (fun k hk=>hk) hmo.ok.1.1 hmo.ok.2.1.1 hmo.ok.2.2.1 hmo.ok.2.2.2 henc).mono ?_;rintro _ h6 ⟨e6,ob6⟩;obtain⟨p6,rfl,hp6,hat6,hby6⟩:=qE.bytes ob6 hne;have hby56:=hby5;unfold JY Zj at hby56;rw[<-e6.2 _ (jR hat5)]at hby56;have hby57:JY h6 p5 0 _=some _:=hby56;have e46:=e45.trans (e6.mono e45.1);repeat (first|((with_reducible refine jX ?_;simp only[vO];try simp only[vP,jB,jD,jH,jI]);simp only[jN,jB,jE,jF,reduceCtorEq,zG,ga,Bv,Am,hby6,hby57,Up,hwi])|simp only[jN,jB,jC,jD,jE,jF,reduceCtorEq,jG,jJ,jK,jL,zG,ga,Bv,Am,hby6,hby57,Up,hwi]|refine⟨by rw[hby57];exact Mm,?_⟩)
  refine ih _ _ ⟨⟨s',p3,j3.ext e46,by rw[NB hai];exact sok3⟩,?_⟩;simp only[jN,jE,jF,ga]
 ·rintro t h hc ⟨⟨s,p,j,sok⟩,ga⟩;simp only[jN,jB,jE,reduceCtorEq,ga,hc];refine EY ?_;simp only[jN,jE,reduceCtorEq,ga]
 ·refine⟨⟨j67,q,j0,j7a⟩,?_⟩;simp only[jN,jB,jE,jF];(repeat' apply And.intro)<;>first|rfl|trivial
end
section
open Go Go.RowKit Go.ChangeShapes Go.WideShapes Go.ChangeAt
section
variable {H:Type} {enc:TypeId×Value->H} {W:World}
theorem Ze.one{P:Program}{t:TypeId}{α:Type}{R:Zl α}{B:α->Prop}{μ:α->Nat}(h:Ze enc P W t R B μ):Ze enc P W t R B (fun _=>1):=by refine⟨h.1,fun fuel cs x hf hw=> ?_⟩;obtain⟨a,b,y,c,d,e⟩:=h.2 fuel cs x hf hw;exact⟨a,b,y,c,d,IA _⟩
theorem fI{α:Type}:∀l:List α,(l.map fun _=>1).sum=l.length
 |[]=>rfl
 |a::r=>by rw[kY,ZW,fI r,xA];omega
def j5v(b:yL):Nat:=b.items.length+b.weights.length
theorem Ha:Ze enc Tryz.prog W 120 (Eg qB) (fun ys=>ys.length * 8<=140737488351232/\∀y∈ys,True) (fun ys=>ys.length):=
 (VA (R:=qB) (B:=fun _=>True) Tryz.underlying120 (by kernel_rfl) (by kernel_rfl) (by decide) (LJ Tryz.underlying3 (by kernel_rfl))).to (fun _ h=>h) fun ys=>by rw[fI];omega
theorem aY:Ze enc Tryz.prog W 122 Vq pG j5v:=
 XH (ts:=[3,3,120,120]) (fun x:yL=>(x.id,x.kind,x.items,x.weights)) (fun y=>⟨y.1,y.2.1,y.2.2.1,y.2.2.2⟩) (fun y=>rfl) Tryz.underlying122 (by rfl) (by kernel_rfl) (by kernel_rfl) (qC (xR Tryz.underlying3 (by kernel_rfl)) (qC (xR Tryz.underlying3 (by kernel_rfl)) (qC Ha (Ve Ha)))) (fun y ⟨_,_,⟨h2,_⟩,⟨h3,_⟩⟩=>⟨h2,h3⟩)
  (fun y=>by unfold j5v;dsimp only;omega)
end
section
variable {H:Type} {P:Program} {K:Nat}
def LD(P:Program)(K:Nat):Option TypeDesc->Bool
 |some (.pointer e)=>decide (e<P.types.size)
 |some (.slice e)=>decide (e<P.types.size)&&decide (P.bytesOf e<=K)
 |some (.struct fs)=>(fs.toList.map (·.type)).all (fun e=>decide (e<P.types.size))
 |some (.array _ e)=>decide (e<P.types.size)
 |some (.map k e)=>decide (e<P.types.size)&&(decide (P.bytesOf k<=K)&&decide (P.bytesOf e<=K))
 |_=>true
theorem Lj:∀l:List (DataW H),l.length<=Rows.uptoBulkAll l
 |[]=>vT _
 |d::r=>by have h1:=Lj r;have h2:=IA d;simp only[xA,Rows.uptoBulkAll];omega
theorem iK:∀x:Lit×DataW H,1<=Rows.uptoBulkEntry x:=by rintro⟨a,d⟩;unfold Rows.uptoBulkEntry;split<;>omega
theorem NU:∀l:List (Lit×DataW H),l.length<=Rows.uptoBulkEntries l
 |[]=>vT _
 |d::r=>by have h1:=NU r;have h2:=iK d;simp only[xA,Rows.uptoBulkEntries];omega
theorem Ky{n a b c:Nat}(h:n<=a * c)(hab:a<=b):n<=b * c:=zY h (qW c hab)
mutual
theorem KH(hK:∀e,e<P.types.size->LD P K (P.underlying e)=true):∀(d:DataW H) (t:TypeId) (n:Nat),t<P.types.size->n∈d.weights P t->n<=Rows.uptoBulk d * (2 * K+1)
 | .lit l,t,n,ht,h=>by
   cases l with
   |string bytes=>
    simp only[DataW.weights,zX]at h;subst h;simp only[Rows.uptoBulk];exact zY (KO _) (Nat.le_mul_of_pos_right _ (by omega))
   |_=>simp[DataW.weights]at h
 | .nil,t,n,ht,h=>by simp[DataW.weights]at h
 | .ptr d,t,n,ht,h=>by
   have hk:=hK t ht;simp only[DataW.weights]at h;split at h
   ·rename_i e hu;rw[hu]at hk;simp only[LD,decide_eq_true_eq]at hk;simp only[Rows.uptoBulk];exact Ky (KH hK d _ n hk h) (KO _)
   ·simp at h
 | .slice elems spare,t,n,ht,h=>by
   have hk:=hK t ht;simp only[DataW.weights]at h;split at h
   ·rename_i e hu;rw[hu]at hk;simp only[LD,jW,decide_eq_true_eq]at hk;simp only[Rows.uptoBulk];rcases List.mem_cons.1 h with rfl|h
    ·have h1:=Lj elems;have h2:=Lj spare;exact Nat.mul_le_mul (by omega) (by have:=hk.2;omega)
    ·rcases List.mem_append.1 h with h|h
     ·exact Ky (QT hK elems _ n hk.1 h) (by omega)
     ·exact Ky (QT hK spare _ n hk.1 h) (by omega)
   ·simp at h
 | .agg parts,t,n,ht,h=>by
   have hk:=hK t ht;simp only[DataW.weights]at h;simp only[Rows.uptoBulk];split at h
   ·rename_i fs hu;rw[hu]at hk;exact Ky (Gl hK parts _ n (fun e he=>of_decide_eq_true (List.all_eq_true.1 hk e he)) h) (KO _)
   ·rename_i e hu;rw[hu]at hk;simp only[LD,decide_eq_true_eq]at hk;exact Ky (QT hK parts _ n hk h) (KO _)
   ·simp at h
 | .iface _ _,t,n,ht,h=>by simp[DataW.weights]at h
 | .map entries,t,n,ht,h=>by
   have hk:=hK t ht;simp only[DataW.weights]at h;split at h
   ·rename_i k e hu;rw[hu]at hk;simp only[LD,jW,decide_eq_true_eq]at hk;simp only[Rows.uptoBulk];rcases List.mem_cons.1 h with rfl|h
    ·have h1:=NU entries;exact Nat.mul_le_mul (by omega) (by have:=hk.2.1;have:=hk.2.2;omega)
    ·exact Ky (VX hK entries _ n hk.1 h) (KO _)
   ·simp at h
 | .held _,t,n,ht,h=>by simp[DataW.weights]at h
theorem QT(hK:∀e,e<P.types.size->LD P K (P.underlying e)=true):∀(l:List (DataW H)) (e:TypeId) (n:Nat),e<P.types.size->n∈DataW.weightsAll P e l->n<=Rows.uptoBulkAll l * (2 * K+1)
 |[],e,n,_,h=>by simp[DataW.weightsAll]at h
 |d::r,e,n,he,h=>by
  simp only[DataW.weightsAll,zN]at h;simp only[Rows.uptoBulkAll];rcases h with h|h
  ·exact Ky (KH hK d e n he h) (by omega)
  ·exact Ky (QT hK r e n he h) (by omega)
theorem Gl(hK:∀e,e<P.types.size->LD P K (P.underlying e)=true):∀(l:List (DataW H)) (ts:List TypeId) (n:Nat),(∀e∈ts,e<P.types.size)->n∈DataW.weightsEach P ts l->n<=Rows.uptoBulkAll l * (2 * K+1)
 |[],ts,n,_,h=>by cases ts<;>simp[DataW.weightsEach]at h
 |d::r,[],n,_,h=>by simp[DataW.weightsEach]at h
 |d::r,t::ts,n,he,h=>by
  simp only[DataW.weightsEach,zN]at h;simp only[Rows.uptoBulkAll];rcases h with h|h
  ·exact Ky (KH hK d t n (he t (by simp)) h) (by omega)
  ·exact Ky (Gl hK r ts n (fun e hm=>he e (by simp[hm])) h) (by omega)
theorem VX(hK:∀e,e<P.types.size->LD P K (P.underlying e)=true):∀(l:List (Lit×DataW H)) (e:TypeId) (n:Nat),e<P.types.size->n∈DataW.weightsEntries P e l->n<=Rows.uptoBulkEntries l * (2 * K+1)
 |[],e,n,_,h=>by simp[DataW.weightsEntries]at h
 |x::r,e,n,he,h=>by
  simp only[DataW.weightsEntries,zN]at h;simp only[Rows.uptoBulkEntries];rcases h with h|h
  ·exact Ky (Eb hK x e n he h) (by omega)
  ·exact Ky (VX hK r e n he h) (by omega)
theorem Eb(hK:∀e,e<P.types.size->LD P K (P.underlying e)=true):∀(x:Lit×DataW H) (e:TypeId) (n:Nat),e<P.types.size->n∈DataW.weightsEntry P e x->n<=Rows.uptoBulkEntry x * (2 * K+1)
 |(a,d),e,n,he,h=>by
  have hd:=fun h=>KH hK d e n he h;cases a with
  |string bytes=>
   simp only[DataW.weightsEntry,qL]at h;simp only[Rows.uptoBulkEntry];rcases h with rfl|h
   ·exact zY (by omega) (Nat.le_mul_of_pos_right _ (by omega))
   ·exact Ky (hd h) (by omega)
  |_=>
   simp only[DataW.weightsEntry]at h;simp only[Rows.uptoBulkEntry];exact Ky (hd h) (KO _)
end
end
set_option maxRecDepth 100000 in
theorem uU:∀e,e<Tryz.prog.types.size->LD Tryz.prog 4096 (Tryz.prog.underlying e)=true:=by
 intro e he;have h:(List.range Tryz.prog.types.size).all (fun e=>LD Tryz.prog 4096 (Tryz.prog.underlying e))=true:=by decide+kernel
 exact List.all_eq_true.1 h e (List.mem_range.2 he)
theorem bulk_weights{H:Type}{d:DataW H}{t:TypeId}(ht:t<Tryz.prog.types.size)(h:Rows.uptoBulk d<=1048576):∀n∈d.weights Tryz.prog t,n<=reachBytes:=fun n hn=>
 zY (KH uU d t n ht hn) (zY (qW _ h) (by decide))
end
variable{F:Nat->Prop}{h:AH}{c:List AV}
section
open Go Go.RowKit Go.ChangeShapes Go.WideShapes Go.ChangeAt
def Du:Zl (Int×Int):=Us (fun x=>(x.1,x.2)) (kM qB qB)
theorem Kr{x:Int×Int}(hc:Du.is F h c x):c=[.lit (.int .i64 x.1),.lit (.int .i64 x.2)]:=by obtain⟨_,_,rfl,⟨rfl,-⟩,rfl,-⟩:=hc;rfl
def pR:Zl vM:=Us (fun c=>((c.k,c.i),c.boot,c.mons,c.tries)) (kM Du (kM qB (kM qB qB)))
theorem RStart_is{x:vM}(hc:pR.is F h c x):c=[.lit (.int .i64 x.k),.lit (.int .i64 x.i),.lit (.int .i64 x.boot),.lit (.int .i64 x.mons),.lit (.int .i64 x.tries)]:=by obtain⟨_,_,rfl,⟨_,_,rfl,⟨rfl,-⟩,rfl,-⟩,_,_,rfl,⟨rfl,-⟩,_,_,rfl,⟨rfl,-⟩,rfl,-⟩:=hc;rfl
def j0K(c:Yn):Nat:=j5v c.bucket+1
def Pj(x:Xt):Nat:=(x.changes.map j0K).sum
def j3f:Zl (Int×Int×List UInt8):=Us (fun x=>x) (kM qB (kM qB (Eg xZ)))
def OE:Zl ((Int×Int)×Bool×Int×ByteArray×Int×Int):=Us (fun x=>x) (kM Du (kM cX (kM qB (kM JX (kM qB qB)))))
def j3d:Zl (Int×Int×Int×(Int×Int)):=Us (fun x=>x) (kM qB (kM qB (kM qB Du)))
def pM:Zl (ByteArray×(Int×Int)×Nat):=Us (fun x=>x) (kM JX (kM Du j5L))
def Wp:Zl (Int×(Int×Int)×(Int×Int)×Int):=Us (fun x=>x) (kM qB (kM Du (kM Du qB)))
def OG:Zl (Int×(Int×Int)×List ((Int×Int)×Bool×Int×ByteArray×Int×Int)×List (Int×Int×Int×(Int×Int))×List (ByteArray×(Int×Int)×Nat)):=Us (fun x=>x) (kM qB (kM Du (kM (Eg OE) (kM (Eg j3d) (Eg pM)))))
def pO:Zl (ByteArray×(Int×Int)×List UInt8):=Us (fun x=>x) (kM JX (kM Du (Eg xZ)))
def j11:Zl (Int×ByteArray×List UInt8×(Int×Int)):=Us (fun x=>x) (kM qB (kM JX (kM (Eg xZ) Du)))
abbrev pD:Type:=Int×(Int×Int)×(Int×Int)×Int×Int×(Int×Int)×Int×Int×Int×List (Int×Int×List UInt8)×List Xt×List Yn×(Int×(Int×Int)×(Int×Int)×Int)×(Int×(Int×Int)×List ((Int×Int)×Bool×Int×ByteArray×Int×Int)×List (Int×Int×Int×(Int×Int))×List (ByteArray×(Int×Int)×Nat))×((Int×Int)×Bool×Int×ByteArray×Int×Int)×(ByteArray×(Int×Int)×List UInt8)×(Int×ByteArray×List UInt8×(Int×Int))×List (ByteArray×(Int×Int)×Nat)×List ByteArray×Int
def pN:Zl pD:=Us (fun x=>x) (kM qB (kM Du (kM Du (kM qB (kM qB (kM Du (kM qB (kM qB (kM qB (kM (Eg j3f) (kM (Eg Kj) (kM (Eg pJ) (kM Wp (kM OG (kM OE (kM pO (kM j11 (kM (Eg pM) (kM (Eg JX) qB)))))))))))))))))))
structure j3b(y:pD):Prop where
 i1:Sm 32 y.2.2.2.2.2.2.2.2.2.2.1
 i2:∀x∈y.2.2.2.2.2.2.2.2.2.2.1,cU x
 d:y.2.2.2.2.2.2.2.2.2.2.2.2.2.2.2.1.2.2.length * 1<=140737488351232
 l:y.2.2.2.2.2.2.2.2.2.2.2.2.2.2.2.2.2.2.1.length * 16<=140737488351232
def lS(y:pD):Nat:=(y.2.2.2.2.2.2.2.2.2.2.1.map Pj).sum
abbrev Ej:Type:=Int×Int×(Int×Int)×(Int×ByteArray×List UInt8×(Int×Int))×pD
def Rv:Zl Ej:=Us (fun x=>x) (kM qB (kM qB (kM Du (kM j11 pN))))
structure pF(y:Ej):Prop where
 os:y.2.2.2.1.2.1.size<=140737488351232
 od:y.2.2.2.1.2.2.1.length * 1<=140737488351232
 m:j3b y.2.2.2.2
def MN(y:Ej):Nat:=lS y.2.2.2.2+1
section
variable {H:Type} {enc:TypeId×Value->H} {W:World}
theorem mH:Ze enc Tryz.prog W 124 pJ j3K j0K:=
 XH (ts:=[3,3,3,108,122]) (fun x:Yn=>(x.kind,x.osd,x.value,x.pool,x.bucket)) (fun y=>⟨y.1,y.2.1,y.2.2.1,y.2.2.2.1,y.2.2.2.2⟩) (fun y=>rfl) Tryz.underlying124 (by rfl) (by kernel_rfl) (by kernel_rfl) (qC (xR Tryz.underlying3 (by kernel_rfl)) (qC (xR Tryz.underlying3 (by kernel_rfl)) (qC (xR Tryz.underlying3 (by kernel_rfl)) (qC Tc (Ve aY))))) (fun y ⟨_,_,_,h1,h2⟩=>⟨h1,h2⟩)
  (fun y=>by unfold j0K;dsimp only;omega)
theorem LI:Ze enc Tryz.prog W 44 (Eg pJ) (fun ys=>Sm 120 ys/\∀y∈ys,j3K y) (fun ys=>(ys.map j0K).sum):=
 VA Tryz.underlying44 (by kernel_rfl) (by kernel_rfl) (by decide) mH
theorem aZ:Ze enc Tryz.prog W 116 Kj cU Pj:=
 XH (ts:=[3,44]) (fun x:Xt=>(x.epoch,x.changes)) (fun y=>⟨y.1,y.2⟩) (fun y=>rfl) Tryz.underlying116 (by rfl) (by kernel_rfl) (by kernel_rfl) (qC (xR Tryz.underlying3 (by kernel_rfl)) (Ve LI)) (fun y ⟨_,h1⟩=>⟨by have h2:=h1.1;unfold Sm at h2 ⊢;show y.2.length * 88<=_;omega,h1.2⟩)
  (fun y=>by unfold Pj;dsimp only;omega)
theorem Tg:Ze enc Tryz.prog W 43 (Eg Kj) (fun ys=>Sm 32 ys/\∀y∈ys,cU y) (fun ys=>(ys.map Pj).sum):=
 VA Tryz.underlying43 (by kernel_rfl) (by kernel_rfl) (by decide) aZ
theorem mG:JR enc Tryz.prog W 5 xZ (fun _=>True):=by refine⟨by kernel_rfl,fun fuel cs x h _=> ?_⟩;obtain⟨n,rfl,rfl,hw⟩:=DataW.trod_int Tryz.underlying5 h;simp only[Lit.wf,IntKind.min,IntKind.max,IntKind.signed,IntKind.bits]at hw;simp at hw;refine⟨rfl,by simp;rfl,UInt8.ofNat n.toNat,?_,trivial,vT _⟩;show[AV.lit (Value.int .u8 n)]=[AV.lit (Value.int .u8 ((UInt8.ofNat n.toNat).toNat:Int))];rw[UInt8.toNat_ofNat',show((n.toNat%2^8:Nat):Int)=n by omega]
theorem GR:JR enc Tryz.prog W 37 (Eg xZ) (fun ys=>ys.length * 1<=140737488351232/\∀y∈ys,True):=
 Qj Tryz.underlying37 (by kernel_rfl) (by kernel_rfl) (by decide) mG
theorem Vz:JR enc Tryz.prog W 9 JX (fun s=>s.size<=140737488351232):=by refine⟨by kernel_rfl,fun fuel cs x h hw=> ?_⟩;obtain⟨s,rfl,rfl,hs⟩:=DataW.trod_string Tryz.underlying9 h;refine⟨rfl,by simp;rfl,s,rfl,?_,vT _⟩;simp[DataW.weights,reachBytes]at hw;exact of_decide_eq_true hw
theorem DO:JR enc Tryz.prog W 23 Du (fun _=>True):=
 yM (ts:=[3,3]) (fun x:Int×Int=>(x.1,x.2)) (fun y=>(y.1,y.2)) (fun y=>rfl) Tryz.underlying23 (by rfl) (by kernel_rfl) (by kernel_rfl) (xY (xR Tryz.underlying3 (by kernel_rfl)) (JN (xR Tryz.underlying3 (by kernel_rfl)))) (fun _ _=>trivial)
theorem Xk:JR enc Tryz.prog W 39 Du (fun _=>True):=
 yM (ts:=[3,3]) (fun x:Int×Int=>(x.1,x.2)) (fun y=>(y.1,y.2)) (fun y=>rfl) Tryz.underlying39 (by rfl) (by kernel_rfl) (by kernel_rfl) (xY (xR Tryz.underlying3 (by kernel_rfl)) (JN (xR Tryz.underlying3 (by kernel_rfl)))) (fun _ _=>trivial)
set_option maxRecDepth 10000 in
theorem opensA_Start:JR enc Tryz.prog W 25 pR (fun _=>True):=
 yM (ts:=[23,3,3,3]) (fun c:vM=>((c.k,c.i),c.boot,c.mons,c.tries)) (fun y=>⟨y.1.1,y.1.2,y.2.1,y.2.2.1,y.2.2.2⟩) (fun y=>rfl) Tryz.underlying25 (by rfl) (by kernel_rfl) (by kernel_rfl) (xY DO (xY (xR Tryz.underlying3 (by kernel_rfl)) (xY (xR Tryz.underlying3 (by kernel_rfl)) (JN (xR Tryz.underlying3 (by kernel_rfl)))))) (fun _ _=>trivial)
theorem LH:JR enc Tryz.prog W 36 Du (fun _=>True):=
 yM (ts:=[3,3]) (fun x:Int×Int=>(x.1,x.2)) (fun y=>(y.1,y.2)) (fun y=>rfl) Tryz.underlying36 (by rfl) (by kernel_rfl) (by kernel_rfl) (xY (xR Tryz.underlying3 (by kernel_rfl)) (JN (xR Tryz.underlying3 (by kernel_rfl)))) (fun _ _=>trivial)
theorem Td:JR enc Tryz.prog W 174 j3f (fun _=>True):=
 yM (ts:=[3,3,37]) (fun x=>x) (fun y=>y) (fun y=>rfl) Tryz.underlying174 (by rfl) (by kernel_rfl) (by kernel_rfl) (xY (xR Tryz.underlying3 (by kernel_rfl)) (xY (xR Tryz.underlying3 (by kernel_rfl)) (JN GR))) (fun _ _=>trivial)
theorem CF:JR enc Tryz.prog W 53 OE (fun _=>True):=
 yM (ts:=[39,4,28,9,3,3]) (fun x=>x) (fun y=>y) (fun y=>rfl) Tryz.underlying53 (by rfl) (by kernel_rfl) (by kernel_rfl) (xY Xk (xY (Te Tryz.underlying4 (by kernel_rfl)) (xY (xR Tryz.underlying28 (by kernel_rfl)) (xY Vz (xY (xR Tryz.underlying3 (by kernel_rfl)) (JN (xR Tryz.underlying3 (by kernel_rfl)))))))) (fun _ _=>trivial)
theorem Ta:JR enc Tryz.prog W 206 j3d (fun _=>True):=
 yM (ts:=[3,3,28,39]) (fun x=>x) (fun y=>y) (fun y=>rfl) Tryz.underlying206 (by rfl) (by kernel_rfl) (by kernel_rfl) (xY (xR Tryz.underlying3 (by kernel_rfl)) (xY (xR Tryz.underlying3 (by kernel_rfl)) (xY (xR Tryz.underlying28 (by kernel_rfl)) (JN Xk)))) (fun _ _=>trivial)
theorem FZ:JR enc Tryz.prog W 184 pM (fun _=>True):=
 yM (ts:=[9,39,157]) (fun x=>x) (fun y=>y) (fun y=>rfl) Tryz.underlying184 (by rfl) (by kernel_rfl) (by kernel_rfl) (xY Vz (xY Xk (JN (aX Tryz.underlying157 (by kernel_rfl))))) (fun _ _=>trivial)
theorem PF:JR enc Tryz.prog W 46 Wp (fun _=>True):=
 yM (ts:=[3,39,39,3]) (fun x=>x) (fun y=>y) (fun y=>rfl) Tryz.underlying46 (by rfl) (by kernel_rfl) (by kernel_rfl) (xY (xR Tryz.underlying3 (by kernel_rfl)) (xY Xk (xY Xk (JN (xR Tryz.underlying3 (by kernel_rfl)))))) (fun _ _=>trivial)
theorem Nc:JR enc Tryz.prog W 51 OG (fun _=>True):=
 yM (ts:=[3,39,47,48,49]) (fun x=>x) (fun y=>y) (fun y=>rfl) Tryz.underlying51 (by rfl) (by kernel_rfl) (by kernel_rfl) (xY (xR Tryz.underlying3 (by kernel_rfl)) (xY Xk (xY (Qj (by':=64) Tryz.underlying47 (by kernel_rfl) (by kernel_rfl) (by decide) CF) (xY (Qj (by':=40) Tryz.underlying48 (by kernel_rfl) (by kernel_rfl) (by decide) Ta) (JN (Qj (by':=40) Tryz.underlying49 (by kernel_rfl) (by kernel_rfl) (by decide) FZ)))))) (fun _ _=>trivial)
theorem Tb:JR enc Tryz.prog W 55 pO (fun y=>y.2.2.length * 1<=140737488351232):=
 yM (ts:=[9,39,37]) (fun x=>x) (fun y=>y) (fun y=>rfl) Tryz.underlying55 (by rfl) (by kernel_rfl) (by kernel_rfl) (xY Vz (xY Xk (JN GR))) (fun y h=>h.2.2.1)
theorem LG:JR enc Tryz.prog W 41 j11 (fun y=>y.2.1.size<=140737488351232/\y.2.2.1.length * 1<=140737488351232):=
 yM (ts:=[3,9,37,39]) (fun x=>x) (fun y=>y) (fun y=>rfl) Tryz.underlying41 (by rfl) (by kernel_rfl) (by kernel_rfl) (xY (xR Tryz.underlying3 (by kernel_rfl)) (xY Vz (xY GR (JN Xk)))) (fun y h=>⟨h.2.1,h.2.2.1.1⟩)
set_option maxHeartbeats 4000000 in
theorem Th:Ze enc Tryz.prog W 58 pN j3b lS:=
 XH (ts:=[3,23,23,3,3,36,3,3,3,42,43,44,46,51,53,55,41,49,56,28]) (fun x=>x) (fun y=>y) (fun y=>rfl) Tryz.underlying58 (by rfl) (by kernel_rfl) (by kernel_rfl) (qC (xR Tryz.underlying3 (by kernel_rfl)) (qC DO (qC DO (qC (xR Tryz.underlying3 (by kernel_rfl)) (qC (xR Tryz.underlying3 (by kernel_rfl)) (qC LH (qC (xR Tryz.underlying3 (by kernel_rfl)) (qC (xR Tryz.underlying3 (by kernel_rfl)) (qC (xR Tryz.underlying3 (by kernel_rfl)) (qC (Qj (by':=40) Tryz.underlying42 (by kernel_rfl) (by kernel_rfl) (by decide) Td) (qC Tg (qC (LI.toA) (qC PF (qC Nc (qC CF (qC Tb (qC LG (qC (Qj (by':=40) Tryz.underlying49 (by kernel_rfl) (by kernel_rfl) (by decide) FZ) (qC (Qj (by':=16) Tryz.underlying56 (by kernel_rfl) (by kernel_rfl) (by decide) Vz) (Ve (xR Tryz.underlying28 (by kernel_rfl)))))))))))))))))))))) (fun y h=>⟨h.2.2.2.2.2.2.2.2.2.2.1.1,h.2.2.2.2.2.2.2.2.2.2.1.2,h.2.2.2.2.2.2.2.2.2.2.2.2.2.2.2.1,h.2.2.2.2.2.2.2.2.2.2.2.2.2.2.2.2.2.2.1.1⟩) (fun y=>by unfold lS;omega)
set_option maxHeartbeats 4000000 in
theorem Tf:Ze enc Tryz.prog W 60 Rv pF MN:=
 XH (ts:=[3,3,36,41,58]) (fun x=>x) (fun y=>y) (fun y=>rfl) Tryz.underlying60 (by rfl) (by kernel_rfl) (by kernel_rfl) (qC (xR Tryz.underlying3 (by kernel_rfl)) (qC (xR Tryz.underlying3 (by kernel_rfl)) (qC LH (qC LG (Ve Th))))) (fun y h=>⟨h.2.2.2.1.1,h.2.2.2.1.2,h.2.2.2.2⟩) (fun y=>by unfold MN;omega)
theorem opensM_ActsT:Ze enc Tryz.prog W 26 (Eg Rv) (fun ys=>ys.length * 648<=140737488351232/\∀y∈ys,pF y) (fun ys=>(ys.map MN).sum):=
 VA Tryz.underlying26 (by kernel_rfl) (by kernel_rfl) (by decide) Tf
theorem open_slM{P:Program}{base:Nat}{t e:TypeId}{v0:Value}{d0:DataW H}{p0:List MemPlace}{α:Type}{R:Zl α}{B:List α->Prop}{μ:List α->Nat}(hO:Ze enc P W t (Eg R) B μ)(hu:P.underlying t=some (.slice e))
 (k0:Value.okWide P W .any base t v0) (h0:DataW.Trod enc P W 0 (fun _=>true) true t v0 d0 p0) (hw:∀n∈d0.weights P t,n<=reachBytes):
 ∃(v:AV) (ys:List α),rel (fun _=>default) (j3B W) W v v0/\zJ R (j5B W) (Et W) v ys/\B ys/\μ ys<=Rows.uptoBulk d0:=by
 obtain⟨a,len,cap,rfl⟩:=okWide_slice hu k0
 obtain⟨fuel,hf⟩:=h0
 obtain⟨h3,h4,y,h5,h6⟩:=hO.2 fuel [Value.slice a len cap] _ hf (List.all_eq_true.2 fun n hn=>(by simpa using hw n hn))
 obtain⟨v',e',h5⟩:=Xo.1 h5
 cases e'
 exact⟨_,y,Ir (h4 _ (by simp)),h5,h6.1,h6.2⟩
end
theorem HW{α:Type}{f:α->Nat}:∀{l:List α} {x:α},x∈l->f x<=(l.map f).sum
 |y::r,x,hx=>by
  rw[kY,ZW];rcases List.mem_cons.1 hx with rfl|hx
  ·omega
  ·have:=HW (f:=f) hx;omega
theorem j0l{α:Type}{f g:α->Nat}:∀{l:List α},(∀x∈l,f x<=g x)->(l.map f).sum<=(l.map g).sum
 |[],_=>jM _
 |y::r,h=>by have h1:=h y (by simp);have h2:=j0l (l:=r) fun x hx=>h x (by simp[hx]);rw[kY,kY,ZW,ZW];omega
theorem dZ:∀l:List Yn,l.length<=(l.map j0K).sum
 |[]=>jM _
 |c::r=>by have:=dZ r;rw[kY,ZW,xA];unfold j0K at this ⊢;omega
theorem iY(l:List Xt):XM l<=(l.map Pj).sum:=j0l fun x _=>dZ x.changes
theorem aF{l:List Xt}{x:Xt}{c:Yn}(hx:x∈l)(hc:c∈x.changes):c.bucket.items.length<=(l.map Pj).sum:=by have h1:=HW (f:=Pj) hx;have h2:=HW (f:=j0K) hc;unfold Pj at h1;unfold j0K j5v at h2;unfold Pj;unfold j0K j5v at h1;unfold j0K j5v;omega
end
variable{v:AV}
section
open Go Go.RowKit Go.ChangeShapes Go.WideShapes Go.ChangeAt
theorem oP.of{α:Type}{R:Zl α}{xs:List α}(hs:zJ R F h v xs):oP v:=⟨hs.isSl,hs.one⟩
theorem gB{y:Int×(Int×Int)×(Int×Int)×Int}(hc:Wp.is F h c y):c=[.lit (.int .i64 y.1),.lit (.int .i64 y.2.1.1),.lit (.int .i64 y.2.1.2),.lit (.int .i64 y.2.2.1.1),.lit (.int .i64 y.2.2.1.2),.lit (.int .i64 y.2.2.2)]:=by obtain⟨_,_,rfl,⟨rfl,-⟩,_,_,rfl,h1,_,_,rfl,h2,rfl,-⟩:=hc;rw[Kr h1,Kr h2];rfl
theorem gA{y:((Int×Int)×Bool×Int×ByteArray×Int×Int)}(hc:OE.is F h c y):c=[.lit (.int .i64 y.1.1),.lit (.int .i64 y.1.2),.lit (.bool y.2.1),.lit (.int .i64 y.2.2.1),.lit (.string y.2.2.2.1),.lit (.int .i64 y.2.2.2.2.1),.lit (.int .i64 y.2.2.2.2.2)]:=by obtain⟨_,_,rfl,h1,_,_,rfl,h2,_,_,rfl,⟨rfl,-⟩,_,_,rfl,h3,_,_,rfl,⟨rfl,-⟩,rfl,-⟩:=hc;cases h2;cases h3;rw[Kr h1];rfl
theorem Wq{y:Int×(Int×Int)×List ((Int×Int)×Bool×Int×ByteArray×Int×Int)×List (Int×Int×Int×(Int×Int))×List (ByteArray×(Int×Int)×Nat)}(hc:OG.is F h c y):∃v1 v2 v3,c=[.lit (.int .i64 y.1),.lit (.int .i64 y.2.1.1),.lit (.int .i64 y.2.1.2),v1,v2,v3]/\oP v1/\oP v2/\oP v3:=by obtain⟨_,_,rfl,⟨rfl,-⟩,_,_,rfl,h1,_,_,rfl,h2,_,_,rfl,h3,h4⟩:=hc;obtain⟨v1,rfl,q1⟩:=Xo.1 h2;obtain⟨v2,rfl,q2⟩:=Xo.1 h3;obtain⟨v3,rfl,q3⟩:=Xo.1 h4;rw[Kr h1];exact⟨v1,v2,v3,rfl,.of q1,.of q2,.of q3⟩
theorem pP{y:ByteArray×(Int×Int)×List UInt8}(hc:pO.is F h c y):∃v,c=[.lit (.string y.1),.lit (.int .i64 y.2.1.1),.lit (.int .i64 y.2.1.2),v]/\zJ xZ F h v y.2.2:=by obtain⟨_,_,rfl,h0,_,_,rfl,h1,h2⟩:=hc;obtain⟨v,rfl,q1⟩:=Xo.1 h2;cases h0;rw[Kr h1];exact⟨v,rfl,q1⟩
theorem j12{y:Int×ByteArray×List UInt8×(Int×Int)}(hc:j11.is F h c y):∃v,c=[.lit (.int .i64 y.1),.lit (.string y.2.1),v,.lit (.int .i64 y.2.2.2.1),.lit (.int .i64 y.2.2.2.2)]/\zJ xZ F h v y.2.2.1:=by obtain⟨_,_,rfl,⟨rfl,-⟩,_,_,rfl,h0,_,_,rfl,h2,h1⟩:=hc;obtain⟨v,rfl,q1⟩:=Xo.1 h2;cases h0;rw[Kr h1];exact⟨v,rfl,q1⟩
set_option maxHeartbeats 4000000 in
theorem lT{y:pD}(hc:pN.is F h c y):∃x:Hk,j7q.is F h c x/\x.incs=y.2.2.2.2.2.2.2.2.2.2.1/\x.d=y.2.2.2.2.2.2.2.2.2.2.2.2.2.2.2.1.2.2/\x.l=y.2.2.2.2.2.2.2.2.2.2.2.2.2.2.2.2.2.2.1:=by obtain⟨_,_,rfl,⟨rfl,-⟩,_,_,rfl,h1,_,_,rfl,h2,_,_,rfl,⟨rfl,-⟩,_,_,rfl,⟨rfl,-⟩,_,_,rfl,h5,_,_,rfl,⟨rfl,-⟩,_,_,rfl,⟨rfl,-⟩,_,_,rfl,⟨rfl,-⟩,_,_,rfl,h9,_,_,rfl,h10,_,_,rfl,h11,_,_,rfl,h12,_,_,rfl,h13,_,_,rfl,h14,_,_,rfl,h15,_,_,rfl,h16,_,_,rfl,h17,_,_,rfl,h18,rfl,-⟩:=hc;obtain rfl:=Kr h1;obtain rfl:=Kr h2;obtain rfl:=Kr h5;obtain⟨vs12,rfl,qvs12⟩:=Xo.1 h9;obtain⟨vi,rfl,qvi⟩:=Xo.1 h10;obtain⟨vs14,rfl,qvs14⟩:=Xo.1 h11;obtain rfl:=gB h12;obtain⟨vs24,vs25,vs26,rfl,qvs24,qvs25,qvs26⟩:=Wq h13;obtain rfl:=gA h14;obtain⟨vd,rfl,qvd⟩:=pP h15;obtain⟨vs40,rfl,qvs40⟩:=j12 h16;obtain⟨vs43,rfl,qvs43⟩:=Xo.1 h17;obtain⟨vl,rfl,qvl⟩:=Xo.1 h18;exact⟨{kind:=y.1,fk:=y.2.1.1,fi:=y.2.1.2,tk:=y.2.2.1.1,ti:=y.2.2.1.2,bt:=y.2.2.2.1,ep:=y.2.2.2.2.1,pp:=y.2.2.2.2.2.1.1,ps:=y.2.2.2.2.2.1.2,client:=y.2.2.2.2.2.2.1,num:=y.2.2.2.2.2.2.2.1,ballot:=y.2.2.2.2.2.2.2.2.1,i1:=y.2.2.2.2.2.2.2.2.2.2.2.2.1.1,i2:=y.2.2.2.2.2.2.2.2.2.2.2.2.1.2.1.1,i3:=y.2.2.2.2.2.2.2.2.2.2.2.2.1.2.1.2,i4:=y.2.2.2.2.2.2.2.2.2.2.2.2.1.2.2.1.1,i5:=y.2.2.2.2.2.2.2.2.2.2.2.2.1.2.2.1.2,i6:=y.2.2.2.2.2.2.2.2.2.2.2.2.1.2.2.2,t1:=y.2.2.2.2.2.2.2.2.2.2.2.2.2.1.1,t2:=y.2.2.2.2.2.2.2.2.2.2.2.2.2.1.2.1.1,t3:=y.2.2.2.2.2.2.2.2.2.2.2.2.2.1.2.1.2,n1:=y.2.2.2.2.2.2.2.2.2.2.2.2.2.2.1.1.1,n2:=y.2.2.2.2.2.2.2.2.2.2.2.2.2.2.1.1.2,nb:=y.2.2.2.2.2.2.2.2.2.2.2.2.2.2.1.2.1,n3:=y.2.2.2.2.2.2.2.2.2.2.2.2.2.2.1.2.2.1,ns:=y.2.2.2.2.2.2.2.2.2.2.2.2.2.2.1.2.2.2.1,n4:=y.2.2.2.2.2.2.2.2.2.2.2.2.2.2.1.2.2.2.2.1,n5:=y.2.2.2.2.2.2.2.2.2.2.2.2.2.2.1.2.2.2.2.2,os:=y.2.2.2.2.2.2.2.2.2.2.2.2.2.2.2.1.1,o1:=y.2.2.2.2.2.2.2.2.2.2.2.2.2.2.2.1.2.1.1,o2:=y.2.2.2.2.2.2.2.2.2.2.2.2.2.2.2.1.2.1.2,p1:=y.2.2.2.2.2.2.2.2.2.2.2.2.2.2.2.2.1.1,pn:=y.2.2.2.2.2.2.2.2.2.2.2.2.2.2.2.2.1.2.1,p2:=y.2.2.2.2.2.2.2.2.2.2.2.2.2.2.2.2.1.2.2.2.1,p3:=y.2.2.2.2.2.2.2.2.2.2.2.2.2.2.2.2.1.2.2.2.2,er:=y.2.2.2.2.2.2.2.2.2.2.2.2.2.2.2.2.2.2.2,incs:=y.2.2.2.2.2.2.2.2.2.2.1,d:=y.2.2.2.2.2.2.2.2.2.2.2.2.2.2.2.1.2.2,l:=y.2.2.2.2.2.2.2.2.2.2.2.2.2.2.2.2.2.2.1,s12:=vs12,s14:=vs14,s24:=vs24,s25:=vs25,s26:=vs26,s40:=vs40,s43:=vs43},⟨vi,vd,vl,rfl,qvi,qvd,qvl,⟨.of qvs12,.of qvs14,qvs24,qvs25,qvs26,.of qvs40,.of qvs43⟩⟩,rfl,rfl,rfl⟩
def Rw(y:Ej)(a:QF):Prop:=a.op.s=y.2.2.2.1.2.1/\a.op.d=y.2.2.2.1.2.2.1/\a.msg.incs=y.2.2.2.2.2.2.2.2.2.2.2.2.2.2.1/\a.msg.d=y.2.2.2.2.2.2.2.2.2.2.2.2.2.2.2.2.2.2.2.1.2.2/\a.msg.l=y.2.2.2.2.2.2.2.2.2.2.2.2.2.2.2.2.2.2.2.2.2.2.1
theorem gO{y:Ej}(hc:Rv.is F h c y):∃a:QF,Ru.is F h c a/\Rw y a:=by obtain⟨_,_,rfl,⟨rfl,-⟩,_,_,rfl,⟨rfl,-⟩,_,_,rfl,hp,_,_,rfl,ho,hm⟩:=hc;obtain⟨x,⟨vi,vd,vl,rfl,h1,h2,h3,h4⟩,e1,e2,e3⟩:=lT hm;obtain rfl:=Kr hp;obtain⟨_,_,rfl,⟨rfl,-⟩,_,_,rfl,q1,_,_,rfl,q2,q3⟩:=ho;obtain⟨vc,rfl,h0⟩:=Xo.1 q2;obtain rfl:=Kr q3;cases q1;exact⟨⟨y.1,y.2.1,⟨y.2.2.1.1,y.2.2.1.2⟩,⟨y.2.2.2.1.1,y.2.2.2.1.2.1,y.2.2.2.1.2.2.1,y.2.2.2.1.2.2.2.1,y.2.2.2.1.2.2.2.2⟩,x⟩,⟨vc,vi,vd,vl,rfl,h0,h1,h2,h3,h4⟩,rfl,rfl,e1,e2,e3⟩
theorem RZ{F:Nat->Prop}{h:AH}:∀{L:List (List AV)} {ys:List Ej},YP Rv F h L ys->∃l0:List QF,YP Ru F h L l0/\l0.length=ys.length/\∀(i:Nat) (y:Ej) (a:QF),ys[i]? =some y->l0[i]? =some a->Rw y a
 |[],[],_=>⟨[],.nil,rfl,fun i y a hy _=>by simp at hy⟩
 |[],y::r,hE=>by have:=hE.1;simp at this
 |c::L,[],hE=>by have:=hE.1;simp at this
 |c::L,y::r,hE=>by
  obtain⟨a,ha,hs⟩:=gO (hE.2 0 c y rfl rfl);obtain⟨l0,h1,h2,h3⟩:=RZ (L:=L) (ys:=r) ⟨by have:=hE.1;simpa using this,fun i c x p q=>hE.2 (i+1) c x (by simpa using p) (by simpa using q)⟩;refine⟨a::l0,⟨by have:=h1.1;simp[this],fun i c' x p q=> ?_⟩,by simp[h2],fun i y' a' p q=> ?_⟩
  ·cases i with
   |zero=>simp at p q;subst p;subst q;exact ha
   |succ i=>exact h1.2 i c' x (by simpa using p) (by simpa using q)
  ·cases i with
   |zero=>simp at p q;subst p;subst q;exact hs
   |succ i=>exact h3 i y' a' (by simpa using p) (by simpa using q)
theorem acts_conv{ys:List Ej}(hs:zJ Rv F h v ys):∃l0:List QF,zJ Ru F h v l0/\l0.length=ys.length/\∀(i:Nat) (y:Ej) (a:QF),ys[i]? =some y->l0[i]? =some a->Rw y a:=by obtain⟨L,h1,h2,hc,h3⟩:=hs.out;obtain⟨l0,k1,k2,k3⟩:=RZ h3;exact⟨l0,.mk h1 h2 hc k1,k2,k3⟩
theorem j23{xs:List Xt}(hs:zJ Kj F h v xs):∀x∈xs,Zq x.epoch:=by intro x hx;obtain⟨i,hi⟩:=List.mem_iff_getElem?.1 hx;obtain⟨c,hc,-⟩:=hs.get (T:=zH Tryz.prog kR) hi;exact(OF.1 hc).choose_spec.2.2
theorem rW{l0:List QF}(hs:zJ Ru F h v l0):∀a∈l0,∀x∈a.msg.incs,Zq x.epoch:=by intro a ha;obtain⟨i,hi⟩:=List.mem_iff_getElem?.1 ha;obtain⟨c,hc,-⟩:=hs.get (T:=zH Tryz.prog kR) hi;obtain⟨vc,vi,vd,vl,-,-,h1,-⟩:=cW.1 hc;exact j23 h1
theorem acts_sum:∀{ys:List Ej} {l0:List QF},l0.length=ys.length->(∀(i:Nat) (y:Ej) (a:QF),ys[i]? =some y->l0[i]? =some a->Rw y a)->Ho l0+l0.length<=(ys.map MN).sum
 |[],[],_,_=>jM _
 |[],a::l0,hl,_=>by simp at hl
 |y::ys,[],hl,_=>by simp at hl
 |y::ys,a::l0,hl,h=>by
  have ih:=acts_sum (ys:=ys) (l0:=l0) (by simpa using hl) (fun i y a p q=>h (i+1) y a (by simpa using p) (by simpa using q));have h0:=h 0 y a rfl rfl;have h1:XM a.msg.incs<=lS y.2.2.2.2:=by rw[h0.2.2.1];exact iY _
  have e1:Ho (a::l0)=XM a.msg.incs+Ho l0:=by unfold Ho;rw[kY,ZW]
  rw[e1,xA,kY,ZW];unfold MN;unfold MN at ih;omega
theorem acts_ok{ys:List Ej}{l0:List QF}(hs:zJ Ru F h v l0)(hl:l0.length=ys.length)(hS:∀(i:Nat) (y:Ej) (a:QF),ys[i]? =some y->l0[i]? =some a->Rw y a)(hok:∀y∈ys,pF y)(hm:(ys.map MN).sum<=1048576):∀a∈l0,j5y a:=by
 intro a ha;obtain⟨i,hi⟩:=List.mem_iff_getElem?.1 ha;obtain⟨y,hy⟩:∃y,ys[i]? =some y:=⟨_,jO (by have:=(List.getElem?_eq_some_iff.1 hi).1;omega)⟩;have hym:=zR hy;have ho:=hok y hym;obtain⟨s1,s2,s3,s4,s5⟩:=hS i y a hy hi;have hmy:MN y<=1048576:=zY (HW (f:=MN) hym) hm;have hmi:lS y.2.2.2.2<=1048576:=by unfold MN at hmy;omega
 unfold lS at hmi;have hOk:∀x∈a.msg.incs,cU x:=by rw[s3];exact ho.m.i2
 refine⟨fun x hx d hd=> ?_,fun x hx=>⟨(hOk x hx).1,fun d hd=>⟨?_,?_⟩⟩,rW hs a ha,?_,?_,?_,?_,?_⟩
 ·have:=aF (l:=a.msg.incs) hx hd;rw[s3]at this;exact zY this hmi
 ·exact((hOk x hx).2 d hd).2.1
 ·exact((hOk x hx).2 d hd).2.2
 ·rw[s4];have:=ho.m.d;omega
 ·rw[s5];exact ho.m.l
 ·rw[s2];have:=ho.od;omega
 ·rw[s1];exact ho.os
 ·rw[s3];have:=ho.m.i1;unfold Sm at this;omega
end
end Go.Proofs.YtcieggahhkoeeaaGreat.Ex
namespace Go.Proofs.YtcieggahhkoeeaaGreat
section
open Go.RowKit Go.ChangeShapes Go.WideShapes Go.ChangeAt
set_option maxRecDepth 100000 in
theorem clientRuns_walk{H:Type}{enc:TypeId×Value->H}{W:World}{base:Nat}{v0 v1:Value}{d0 d1:DataW H}{p0 p1:List MemPlace}
 (k0:Value.okWide Tryz.prog W .any base 25 v0) (h0:DataW.Trod enc Tryz.prog W 0 (fun _=>true) true 25 v0 d0 p0)
 (k1:Value.okWide Tryz.prog W .any base 26 v1) (h1:DataW.Trod enc Tryz.prog W 0 (fun _=>true) true 26 v1 d1 p1)
 (hb:Rows.uptoBulkAll [d0,d1]<=1048576):
 Calls Tryz.prog 3 #[v0,v1] W fun e w'=>e= .returned (.bool true)/\Below W.heap.size W w':=by
 simp only[Rows.uptoBulkAll]at hb
 obtain⟨c0,c,r0,i0,-⟩:=Ex.open_agg Ex.opensA_Start Tryz.underlying25 rfl k0 h0 (Ex.bulk_weights (by decide) (by omega))
 obtain⟨v,ys,r1,i1,ok1,m1⟩:=Ex.open_slM Ex.opensM_ActsT Tryz.underlying26 k1 h1 (Ex.bulk_weights (by decide) (by omega))
 obtain rfl:=Ex.RStart_is i0
 obtain⟨l0,j1,j2,j3⟩:=Ex.acts_conv i1
 have hs:=Ex.acts_sum j2 j3
 exact Ex.law_join (Ex.rels_cons r0 (Ex.rels_cons r1 Ex.rels_nil)) (Ex.runs_m j1 (fun b hb=>hb) (Ex.acts_ok j1 j2 j3 ok1.2 (by omega)) (by omega) (by omega))
end
end Go.Proofs.YtcieggahhkoeeaaGreat
