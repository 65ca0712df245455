/- Part 5 of the proof: Srp, Bts, Pga, Eq, Alr, Kc, Kd, Pla, Kp, Ke, Kf, Al2, Kh, Ki, Eqn, Kj, Cl2, Kl, Kg, Km, Kn, Ko, Ks, Op10, Op11, Op12, Op13, Op14, Op15, Op16, Kt, Ku, Kq, Kr, Kx, Eqv, Ky. -/
import Derived.Laws.StructEq
import Derived.Test.YtcieggahhkoeeaaGreatM4
open Nat renaming reduceAdd->jB,reduceSub->jC,reduceMul->jD,reduceLT->jE,reduceEqDiff->jF,reduceLeDiff->jG,reduceShiftRight->jH,reduceMod->jI
open Int renaming reduceLE->jJ,reduceLT->jK,reduceToNat->jL
set_option linter.unusedSimpArgs false
set_option linter.unusedVariables false
set_option maxRecDepth 100000
set_option maxHeartbeats 16000000
namespace Go.Proofs.YtcieggahhkoeeaaGreat.Ex
open Go
def pC(p:xD):List AV:=[.lit (.int .i64 p.id),.lit (.int .i64 p.size),.lit (.int .i64 p.min),.lit (.int .i64 p.pgs)]
def Ei(l:List xD):List AV:=l.flatMap pC
theorem Gf(x:xD)(l:List xD):Ei (x::l)=pC x++Ei l:=rfl
theorem PJ:∀l:List xD,(Ei l).length=l.length * 4
 |[]=>rfl
 |x::l=>by rw[Gf,jQ,PJ l,xA];show 4+_=_;omega
theorem CJ:∀(l:List xD) (i:Nat),(Ei l).drop (i * 4)=Ei (l.drop i)
 |[],i=>by simp[Ei]
 |x::l,0=>by simp
 |x::l,i+1=>by rw[Gf,List.drop_succ_cons,<-CJ l i,List.drop_append];rw[show(i+1) * 4-(pC x).length=i * 4 by show(i+1) * 4-4=_;omega,XI (by show 4<=_;omega),xS]
theorem Tl:∀(l:List xD) (i:Nat),(Ei l).take (i * 4)=Ei (l.take i)
 |[],i=>by simp[Ei]
 |x::l,0=>by simp[Ei]
 |x::l,i+1=>by rw[Gf,Km,Gf,<-Tl l i,List.take_append];rw[show(i+1) * 4-(pC x).length=i * 4 by show(i+1) * 4-4=_;omega,xP (by show 4<=_;omega)]
variable{l:List xD}{i:Nat}
theorem DL(hi:i<l.length):YU (zH Tryz.prog kR) 108 (Ei l) (i * 4)=some (.agg (pC (l.getD i yW))):=by
 have hA:XO (zH Tryz.prog kR) 108=some true:=by kernel_rfl
 have hS:vQ (zH Tryz.prog kR) 108=some 4:=by kernel_rfl
 unfold YU;rw[hA,hS];simp only;unfold cut;rw[if_pos (by rw[PJ];omega),CJ,qS hi,Gf];rw[jU,jO hi];rfl
variable{x:xD}
theorem Tq(hi:i<l.length):put (Ei l) (i * 4) (pC x)=some (Ei (l.set i x)):=by unfold put;rw[if_pos (by rw[PJ];show i * 4+4<=_;omega)];congr 1;rw[Tl,show i * 4+(pC x).length=(i+1) * 4 by show i * 4+4=_;omega,CJ,Qv,if_pos hi];unfold Ei;rw[Xu,QH,zP]
def RO(x:xD):List xD->List xD->List xD
 |[],w=>x::w
 |y::ru,w=>if x.id<y.id then RO x ru (y::w)else(y::ru).reverse++x::w
def Mp(c:List xD)(i:Nat):List xD:=RO (c.getD i yW) (c.take i).reverse (c.drop (i+1))
def VM(ps:List xD):Nat->List xD
 |0=>ps
 |i+1=>Mp (VM ps i) i
def aI(ps:List xD):List xD:=VM ps ps.length
theorem Hx(x:xD):∀ru w,(RO x ru w).length=ru.length+1+w.length
 |[],w=>by simp[RO];omega
 |y::ru,w=>by
  unfold RO;split
  ·rw[Hx x ru];simp;omega
  ·simp;omega
theorem Yc(ps:List xD):∀i,i<=ps.length->(VM ps i).length=ps.length
 |0,_=>rfl
 |i+1,h=>by rw[VM];unfold Mp;rw[Hx,Kl,zV,kT,Yc ps i (by omega)];omega
variable{ps:List xD}
theorem j28(h:0<ps.length):VM ps 1=ps:=by
 cases ps with
 |nil=>cases h
 |cons x r=>rfl
def iD(a b:xD):Int:=if a.id<b.id then -1 else if b.id<a.id then 1 else 0
variable{H:AH}
theorem j3q(a b:xD):
 vR 69 [.agg (pC a),.agg (pC b)] H fun r h'=>zM H.n H h'/\r= .lit (.int .i64 (iD a b)):=by
 refine zW Tryz.func69 rfl rfl ?_
 have EP:∀x y,zM H.n H ((H.push x).push y):=fun x y=>((zM.refl _ _).push _ (jM _)).push _ (by rw[zF];omega)
 unfold iD
 by_cases c1:a.id<b.id
 ·simp only[jN,jB,jC,jE,jF,reduceCtorEq,Tryz.ntmps69,pC,c1];exact EP _ _
 by_cases c2:b.id<a.id
 ·simp only[jN,jB,jC,jE,jF,reduceCtorEq,Tryz.ntmps69,pC,c1,c2];exact EP _ _
 ·simp only[jN,jB,jC,jE,jF,reduceCtorEq,Tryz.ntmps69,pC,c1,c2];exact EP _ _
variable{j:Nat}
theorem Ss{u w:List xD}(hj:u.length=j):(u++x::w).getD j yW=x:=by rw[jU,zQ (by omega),hj,Ju];rfl
theorem fE{u w:List xD}{y:xD}(hj:u.length=j):(u++x::w).set j y=u++y::w:=by rw[fY _ _ (by omega),hj,Ju];rfl
variable{p:Nat}{e:TypeId}{cap:Cap}
theorem j29(hat:H.at p=some (.cells (Ei ps) e))(h0:0<ps.length)(hn:ps.length<2^40):
 vR 125 [.sl p 0 ps.length cap,.lit (.int .i64 0),.lit (.int .i64 ps.length),.fn (.func 69) [] []] H fun r h'=>r= .tup []/\zM p H h'/\h'.at p=some (.cells (Ei (aI ps)) e):=by
 refine zW Tryz.func125 rfl rfl ?_
 have s1:Ex.isSl (.sl p 0 ps.length cap)=true:=rfl
 have s2:Ex.lenD (.sl p 0 ps.length cap)=ps.length:=rfl
 have s3:Ex.slB (.sl p 0 ps.length cap)=p:=rfl
 have s4:Ex.slO (.sl p 0 ps.length cap)=0:=rfl
 simp only[jN,jB,jC,jE,Tryz.ntmps125]
 refine ZP (fun(i:Nat) t h=>zM p H h/\h.at p=some (.cells (Ei (VM ps i)) e)/\1<=i/\i<=ps.length/\t.n=53/\t.get 0= .sl p 0 ps.length cap/\t.get 1= .lit (.int .i64 0)/\t.get 2= .lit (.int .i64 ps.length)/\t.get 3= .fn (.func 69) [] []/\t.get 8= .lit (.int .i64 i)) (fun i=>ps.length-i) ?_ 1 _ _ ?_
 ·rintro i t h ⟨he,P,hi1,hi2,hn,g0,g1,g2,g3,g8⟩ ih;have hil:=Yc ps i hi2;by_cases hlt:i<ps.length
  ·have hlt':((i:Int)<(ps.length:Int))=True:=by simp only[eq_iff_iff,iff_true];omega
   have hws:=xG hlt (by omega);simp only[jN,jB,jE,jF,reduceCtorEq,hn,g2,g8,hlt'];refine ZP (fun(ru:List xD) t h'=>∃w,zM p H h'/\h'.at p=some (.cells (Ei (ru.reverse++(VM ps i).getD i yW::w)) e)/\ru.length+1+w.length=ps.length/\RO ((VM ps i).getD i yW) ru w=Mp (VM ps i) i/\t.n=53/\t.get 0= .sl p 0 ps.length cap/\t.get 1= .lit (.int .i64 0)/\t.get 2= .lit (.int .i64 ps.length)/\t.get 3= .fn (.func 69) [] []/\t.get 8= .lit (.int .i64 i)/\t.get 9= .lit (.int .i64 ru.length)) (fun ru=>ru.length) ?_ ((VM ps i).take i).reverse _ _ ?_
   ·rintro ru t h' ⟨w,he',P',hlen,hb,hn,g0,g1,g2,g3,g8,g9⟩ ih2;obtain⟨x,hx⟩:∃x,x=(VM ps i).getD i yW:=⟨_,rfl⟩;rw[<-hx]at P' hb ih2;have lp:=jR P';cases ru with
    |nil=>
     have hz:((0:Int)<((0:Nat):Int))=False:=by simp
     simp only[jN];rw[zL [0,1,2,3,4,5,6,7,8,9,10,11,12,13,14,15,16] 497317544946356994768843993281542922917767877624256420974924845233232290783765897150464 (by kernel_rfl)];repeat ((with_reducible refine jX ?_;simp only[vO];try simp only[vP,jB]);simp only[jN,jB,jE,jF,reduceCtorEq,zG,hn,g1,g8,g9,hz,hws])
     refine ih (i+1) _ _ ⟨he',?_,by omega,by omega,?_⟩ (by omega)
     ·rw[VM,<-hb];exact P'
     ·simp only[jN,jE,jF,reduceCtorEq,hn,g0,g1,g2,g3]
    |cons y ru=>
     have hlr:(y::ru).length=ru.length+1:=rfl;have hz:((0:Int)<((ru.length+1:Nat):Int))=True:=by simp only[eq_iff_iff,iff_true];omega
     have hw1:IntKind.i64.wrap (((ru.length+1:Nat):Int)-1)=((ru.length:Nat):Int):=(vW (by omega) (by omega)).trans (by omega);have hc:(y::ru).reverse++x::w=ru.reverse++y::x::w:=by rw[Nu,zP];rfl
     have hcl:((y::ru).reverse++x::w).length=ps.length:=by simp only[jQ,Kl,xA]at hlen ⊢;omega
     have hj1:ru.length+1<ps.length:=by simp only[xA]at hlen;omega
     have hj0:ru.length<ps.length:=by omega
     have hgx:((y::ru).reverse++x::w).getD (ru.length+1) yW=x:=Ss (by simp);have hgy:((y::ru).reverse++x::w).getD ru.length yW=y:=by rw[hc];exact Ss (by simp)
     have hlx:Jr (zH Tryz.prog kR) h' 108 p ((ru.length+1) * 4)=some (.agg (pC x)):=by rw[UD P',DL (by omega),hgx]
     have hly:Jr (zH Tryz.prog kR) h' 108 p (ru.length * 4)=some (.agg (pC y)):=by rw[UD P',DL (by omega),hgy]
     unfold pC at hlx hly;unfold RO at hb;by_cases d1:x.id<y.id
     ·rw[if_pos d1]at hb;simp only[jN];rw[zL [0,1,2,3,4,5,6,7,8,9,10,11,12,13,14,15,16] 497317544946356994768843993281542922917767877624256420974924845233232290783765897150464 (by kernel_rfl)];repeat ((with_reducible refine jX ?_;simp only[vO];try simp only[vP,jB,jD,jH,jI]);simp only[jN,jB,jE,jF,reduceCtorEq,zG,hn,g0,g1,g3,g9,hz,hw1,hj0,hj1,hlx,hly,s1,s2,s3,s4])
      refine(j3q x y).mono ?_;rintro _ h2 ⟨e2,rfl⟩;have hcm:iD x y= -1:=by unfold iD;rw[if_pos d1]
      repeat ((with_reducible refine jX ?_;simp only[vO];try simp only[vP,jB,jD,jH,jI,jF]);simp only[jN,jB,jE,jF,reduceCtorEq,jK,zG,hn,g8,hcm])
      have P2:=(e2.2 _ lp).trans P';have l2:=jR P2;have hlx2:Jr (zH Tryz.prog kR) h2 108 p ((ru.length+1) * 4)=some (.agg (pC x)):=by rw[UD P2,DL (by omega),hgx]
      have hly2:Jr (zH Tryz.prog kR) h2 108 p (ru.length * 4)=some (.agg (pC y)):=by rw[UD P2,DL (by omega),hgy]
      have hput1:=Tq (l:=(y::ru).reverse++x::w) (i:=ru.length+1) (x:=y) (by omega);have hput2:=Tq (l:=((y::ru).reverse++x::w).set (ru.length+1) y) (i:=ru.length) (x:=x) (by rw[yI];omega);have hfin:(((y::ru).reverse++x::w).set (ru.length+1) y).set ru.length x=ru.reverse++x::y::w:=by rw[fE (by simp),Nu,zP];exact fE (by simp)
      rw[hfin]at hput2;unfold pC at hlx2 hly2 hput1 hput2;obtain⟨c1,hc1⟩:∃c1,c1=(y::ru).reverse++x::w:=⟨_,rfl⟩;obtain⟨c2,hc2⟩:∃c2,c2=((y::ru).reverse++x::w).set (ru.length+1) y:=⟨_,rfl⟩;obtain⟨c3,hc3⟩:∃c3,c3=ru.reverse++x::y::w:=⟨_,rfl⟩;rw[<-hc2,<-hc1]at hput1;rw[<-hc2,<-hc3]at hput2;rw[<-hc1]at P2;rw[zL [0,1,2,3,4,5,6,7,8,9,10,11,12,13,14,15,16,17] 17087798509205203873340781695073508074300091633574987627131312269651700819188781055633792163643392 (by kernel_rfl)];repeat ((with_reducible refine jX ?_;simp only[vO];try simp only[vP,jB,jD,jH,jI]);simp only[Jy,jB,jE,jF,reduceCtorEq,zG,hn,g0,g9,hw1,hj0,hj1,hlx2,hly2,l2,P2,hput1,hput2,s1,s2,s3,s4])
      subst hc3;refine ih2 ru _ _ ⟨y::w,((he'.trans (e2.mono (by omega))).put _ (jM _)).put _ (jM _),qJ _ (by rw[kZ];exact l2),?_,hb,?_⟩ (by simp)
      ·simp only[xA]at hlen ⊢;omega
      ·simp only[jN,jE,jF,reduceCtorEq,hn,g0,g1,g2,g3,g8]
     ·rw[if_neg d1]at hb;simp only[jN];rw[zL [0,1,2,3,4,5,6,7,8,9,10,11,12,13,14,15,16] 497317544946356994768843993281542922917767877624256420974924845233232290783765897150464 (by kernel_rfl)];repeat ((with_reducible refine jX ?_;simp only[vO];try simp only[vP,jB,jD,jH,jI]);simp only[jN,jB,jE,jF,reduceCtorEq,zG,hn,g0,g1,g3,g9,hz,hw1,hj0,hj1,hlx,hly,s1,s2,s3,s4])
      refine(j3q x y).mono ?_;rintro _ h2 ⟨e2,rfl⟩;have hcm:(iD x y<0)=False:=by simp only[eq_iff_iff,iff_false];unfold iD;rw[if_neg d1];split<;>omega
      have P2:=(e2.2 _ lp).trans P';repeat ((with_reducible refine jX ?_;simp only[vO];try simp only[vP,jB,jD,jH,jI,jF]);simp only[jN,jB,jE,jF,reduceCtorEq,zG,hn,g8,hcm,hws])
      refine ih (i+1) _ _ ⟨he'.trans (e2.mono (by omega)),?_,by omega,by omega,?_⟩ (by omega)
      ·rw[VM,<-hb];exact P2
      ·simp only[jN,jE,jF,reduceCtorEq,hn,g0,g1,g2,g3]
   ·have hd:((VM ps i).take i).length=i:=by rw[zV];omega
    refine⟨(VM ps i).drop (i+1),he,?_,?_,rfl,?_⟩
    ·rw[P,List.reverse_reverse];congr 3;have h1:=yE i (VM ps i);rw[qS (by omega)]at h1;rw[jU,jO (by omega)];exact h1.symm
    ·rw[Kl,hd,kT];omega
    ·simp only[jN,jE,jF,reduceCtorEq,hn,g0,g1,g2,g3,g8,Kl,hd]
  ·have hlt':((i:Int)<(ps.length:Int))=False:=by simp only[eq_iff_iff,iff_false];omega
   have hie:i=ps.length:=by omega
   simp only[jN,jB,jE,jF,reduceCtorEq,hn,g2,g8,hlt'];refine⟨by simp,he,?_⟩;unfold aI;rw[<-hie];exact P
 ·refine⟨zM.refl _ _,?_,jM _,h0,?_⟩
  ·rw[j28 h0];exact hat
  ·have hw:IntKind.i64.wrap (0+1)=((1:Nat):Int):=by decide
   simp only[jN,jB,jE,jF,reduceCtorEq,hw]
theorem j0f(hat:H.at p=some (.cells (Ei ps) e))(h0:0<ps.length)(hn:ps.length<20):
 vR 99 [.sl p 0 ps.length cap,.lit (.int .i64 ps.length),.fn (.func 69) [] []] H fun r h'=>r= .tup []/\zM p H h'/\h'.at p=some (.cells (Ei (aI ps)) e):=by
 refine zW Tryz.func99 rfl rfl ?_
 have c1:((20:Int)<=(ps.length:Int))=False:=by simp only[eq_iff_iff,iff_false];omega
 have c2:((20:Int)<(ps.length:Int))=False:=by simp only[eq_iff_iff,iff_false];omega
 simp only[jN,jB,jC,jE,jF,Tryz.ntmps99]
 refine ZP (fun(_:Unit) t h=>h=H/\t.n=63/\t.get 0= .sl p 0 ps.length cap/\t.get 1= .lit (.int .i64 ps.length)/\t.get 2= .fn (.func 69) [] []/\t.get 6= .lit (.int .i64 20)/\t.get 7= .lit (.int .i64 0)/\t.get 8= .lit (.int .i64 20)) (fun _=>0) ?_ () _ _ ?_
 ·rintro _ t h ⟨rfl,hn,g0,g1,g2,g6,g7,g8⟩ ih;simp only[jN,jB,jE,jF,reduceCtorEq,hn,g0,g1,g2,g7,g8,c1];refine(j29 hat h0 (by omega)).mono ?_;rintro _ h2 ⟨rfl,e2,P2⟩;simp only[jN];refine ZP (fun(_:Unit) t h=>h=h2/\t.n=63/\t.get 0= .sl p 0 ps.length cap/\t.get 1= .lit (.int .i64 ps.length)/\t.get 2= .fn (.func 69) [] []/\t.get 6= .lit (.int .i64 20)) (fun _=>0) ?_ () _ _ ?_
  ·rintro _ t h ⟨rfl,hn,g0,g1,g2,g6⟩ ih2;simp only[jN,jB,jE,jF,reduceCtorEq,hn,g1,g6,c2];exact⟨by simp,e2,P2⟩
  ·simp only[jN,jF,reduceCtorEq,hn,g0,g1,g2,g6]
 ·simp only[jN,jB,jE,jF,reduceCtorEq]
theorem j2W(hat:H.at p=some (.cells (Ei ps) e))(h0:0<ps.length)(hn:ps.length<20):
 vR 68 [.sl p 0 ps.length cap,.fn (.func 69) [] []] H fun r h'=>r= .tup []/\zM p H h'/\h'.at p=some (.cells (Ei (aI ps)) e):=by
 refine zW Tryz.func68 rfl rfl ?_
 have s1:Ex.isSl (.sl p 0 ps.length cap)=true:=rfl
 have s2:Ex.lenD (.sl p 0 ps.length cap)=ps.length:=rfl
 simp only[jN,jB,jC,jF,reduceCtorEq,Tryz.ntmps68,s1,s2]
 refine(j0f hat h0 hn).mono ?_
 rintro _ h2 ⟨rfl,e2,P2⟩
 simp only[jN,reduceCtorEq]
 exact⟨by simp,e2,P2⟩
variable{v:AV}
theorem j2X(o1:v.one=true)(s1:Ex.isSl v=true)(s2:Ex.lenD v=0):
 vR 68 [v,.fn (.func 69) [] []] H fun r h'=>r= .tup []/\h'=H:=by
 have hi:∀h,vR 125 [v,.lit (.int .i64 0),.lit (.int .i64 0),.fn (.func 69) [] []] h fun r h'=>r= .tup []/\h'=h:=fun h=>by
  refine zW Tryz.func125 rfl rfl ?_;simp only[jN,jB,jC,jE,Tryz.ntmps125];have hw:IntKind.i64.wrap (0+1)=1:=by decide
  have hlt:((1:Int)<0)=False:=by decide
  refine ZP (fun(_:Unit) t h1=>h1=h/\t.n=53/\t.get 2= .lit (.int .i64 0)/\t.get 8= .lit (.int .i64 1)) (fun _=>0) ?_ () _ _ ?_
  ·rintro _ t h1 ⟨rfl,ga⟩ ih;simp only[jN,jB,jE,jF,reduceCtorEq,ga,hlt];simp
  ·simp only[jN,jB,jE,jF,hw]
 refine zW Tryz.func68 rfl rfl ?_
 simp only[jN,jB,jC,jF,reduceCtorEq,Tryz.ntmps68,s1,s2]
 have c1:((20:Int)<=0)=False:=by decide
 have c2:((20:Int)<0)=False:=by decide
 have hst:vR 99 [v,.lit (.int .i64 0),.fn (.func 69) [] []] H fun r h'=>r= .tup []/\h'=H:=by
  refine zW Tryz.func99 rfl rfl ?_;simp only[jN,jB,jC,jE,jF,Tryz.ntmps99];refine ZP (fun(_:Unit) t h=>h=H/\t.n=63/\t.get 0=v/\t.get 1= .lit (.int .i64 0)/\t.get 2= .fn (.func 69) [] []/\t.get 6= .lit (.int .i64 20)/\t.get 7= .lit (.int .i64 0)/\t.get 8= .lit (.int .i64 20)) (fun _=>0) ?_ () _ _ ?_
  ·rintro _ t h ⟨rfl,gb⟩ ih;simp only[jN,jB,jE,jF,reduceCtorEq,gb,c1];refine(hi h).mono ?_;rintro _ h2 ⟨rfl,rfl⟩;simp only[jN];refine ZP (fun(_:Unit) t h=>h=h2/\t.n=63/\t.get 0=v/\t.get 1= .lit (.int .i64 0)/\t.get 2= .fn (.func 69) [] []/\t.get 6= .lit (.int .i64 20)) (fun _=>0) ?_ () _ _ ?_
   ·rintro _ t h ⟨rfl,gc⟩ ih2;simp only[jN,jB,jE,jF,reduceCtorEq,gc,c2];simp
   ·simp only[jN,jF,reduceCtorEq,gb]
  ·simp only[jN,jB,jE,jF,reduceCtorEq]
 refine(hst).mono ?_
 rintro _ h2 ⟨rfl,rfl⟩
 simp only[jN,reduceCtorEq]
 simp
variable{G:Nat->Prop}{n0:Nat}{h:AH}
theorem qE.pools{xs:List xD}(ho:qE XR G n0 h v e xs)(hne:xs≠[]):
 ∃p,v= .sl p 0 xs.length (.un 4)/\n0<=p/\h.at p=some (.cells (Ei xs) e):=by
 obtain⟨L,h1,h2⟩:=ho
 have hL:L.flatten=Ei xs:=by
  obtain⟨e1,e2⟩:=h2;have key:∀(L:List (List AV)) (xs:List xD),L.length=xs.length->(∀(i:Nat) c x,L[i]? =some c->xs[i]? =some x->XR.is (fun b=>G b/\qR v b) h c x)->L.flatten=Ei xs:=by
   intro L;induction L with
   |nil=>intro xs hl _;cases xs with|nil=>rfl|cons=>cases hl
   |cons a r ih=>
    intro xs hl hh
    cases xs with
    |nil=>cases hl
    |cons x xs=>
     have i1:=ih xs (by simpa using hl) (fun i c y a b=>hh (i+1) c y (by simpa using a) (by simpa using b));obtain⟨rfl,-⟩:=Jc.1 (hh 0 a x rfl rfl);rw[vE,i1];rfl
  exact key L xs e1 e2
 have e0:=h2.1
 rcases h1.2 with⟨rfl,rfl⟩|⟨p,rfl,hp,hat⟩
 ·exact absurd (zO (by rw[<-e0];rfl)) hne
 ·exact⟨p,by rw[e0];rfl,hp,by rw[hat,hL]⟩
def Yz(x:xD):List MF:=(List.range (if 8<x.pgs then 8 else x.pgs).toNat).map fun(s:Nat)=>⟨x.id,(s:Int)⟩
def AK(l:List xD):Nat->List MF
 |0=>[]
 |i+1=>if 0<i/\(l.getD (i-1) yW).id=(l.getD i yW).id then AK l i else AK l i++Yz (l.getD i yW)
def MP(m:zU):List MF:=AK (aI m.pools) m.pools.length
theorem mN(x:xD):(Yz x).length<=8:=by unfold Yz;rw[yH,List.length_range];split<;>omega
theorem LL(l:List xD):∀i,(AK l i).length<=i * 8
 |0=>jM 0
 |i+1=>by
  have:=LL l i;unfold AK;split
  ·omega
  ·rw[jQ];have:=mN (l.getD i yW);omega
theorem OQ{x z:xD}:∀ru w,z∈RO x ru w↔z=x\/z∈ru\/z∈w
 |[],w=>by simp[RO]
 |y::ru,w=>by
  unfold RO;split
  ·rw[OQ ru (y::w)];simp only[qL];constructor
   ·rintro(h|h|h|h)<;>simp[h]
   ·rintro(h|(h|h)|h)<;>simp[h]
  ·simp only[zN,List.mem_reverse,qL];constructor
   ·rintro((h|h)|h|h)<;>simp[h]
   ·rintro(h|(h|h)|h)<;>simp[h]
theorem HC{ps:List xD}{z:xD}:∀i,i<=ps.length->(z∈VM ps i↔z∈ps)
 |0,_=>Iff.rfl
 |i+1,h=>by
  have hl:=Yc ps i (by omega);rw[VM];refine Iff.trans ?_ (HC i (by omega));unfold Mp;rw[OQ,List.mem_reverse];have h1:=yE i (VM ps i);rw[qS (by omega)]at h1;have h2:(VM ps i).getD i yW=(VM ps i)[i]:=by rw[jU,jO (by omega)];rfl
  rw[h2];conv=>rhs;rw[<-h1]
  rw[zN,qL];constructor
  ·rintro(h|h|h)<;>simp[h]
  ·rintro(h|h|h)<;>simp[h]
theorem dY(hi:i<l.length):YU (zH Tryz.prog kR) 3 (Ei l) (i * 4)=some (.lit (.int .i64 (l.getD i yW).id)):=by
 have hA:XO (zH Tryz.prog kR) 3=some false:=by kernel_rfl
 have hS:vQ (zH Tryz.prog kR) 3=some 1:=by kernel_rfl
 unfold YU;rw[hA,hS];simp only;have h1:(Ei l)[i * 4]? =((Ei l).drop (i * 4))[0]? :=by rw[yA,JH]
 rw[h1,CJ,qS hi,Gf];rw[jU,jO hi];rfl
variable{F:Nat->Prop}{vo vp vb:AV}
theorem mO{m:zU}(hm:vG F H m vo vp vb):∀x∈m.pools,Zq x.id:=fun x hx=>by obtain⟨i,hi,rfl⟩:=List.mem_iff_getElem.1 hx;obtain⟨c,hc1,_⟩:=hm.p.get (T:=zH Tryz.prog kR) (jO hi);exact(Jc.1 hc1).2.1
variable{k:Nat}
theorem mM(hk:(k:Int)<(if 8<x.pgs then 8 else x.pgs)):(Yz x)[k]? =some ⟨x.id,(k:Int)⟩:=by unfold Yz;rw[vF,j0S (by omega)];rfl
theorem mL(hk:¬(k:Int)<(if 8<x.pgs then 8 else x.pgs)):(Yz x).take k=Yz x:=by refine xP ?_;unfold Yz;rw[yH,List.length_range];omega
variable{m:zU}
theorem j62(hm:vG F H m vo vp vb)(hpl:m.pools.length<20):
 vR 48 [vS m vo vp vb] H fun v h'=>zM H.n H h'/\zJ j5K (fun b=>H.n<=b) h' v (MP m):=by
 refine zW Tryz.func48 rfl rfl ?_
 have o1:=hm.o.one
 have o2:=hm.p.one
 have o3:=hm.b.one
 simp only[jN,jB,jC,jE,jF,Tryz.ntmps48,vS,o1,o2,o3]
 obtain⟨h1,hh1⟩:∃h1,h1=H.push (.cells [.lit (.int .i64 m.epoch),vo,vp,vb,.lit (.int .i64 m.leaf)] 66):=⟨_,rfl⟩
 have E1:=ZS hh1
 rw[<-hh1]
 clear hh1
 obtain⟨L,g1,g2,g3,g4⟩:=(hm.p.ext E1 (jM _)).out
 have hLl:L.length=m.pools.length:=g4.1
 refine qM ((qE.nil (R:=XR) (G:=F) (n0:=h1.n) (h:=h1) (e:=108)).append (ys:=m.pools) (M:=L) (by kernel_rfl) (by kernel_rfl) (by kernel_rfl) (zv:= .agg [.lit (.int .i64 0),.lit (.int .i64 0),.lit (.int .i64 0),.lit (.int .i64 0)]) (by kernel_rfl) (by':=32) (by kernel_rfl) rfl (by decide) (by decide) g1.src g1.len (g4.lift fun b hb _=>⟨rfl,hb,fun _ _ _ h=>by cases h⟩) (by simp;omega) (by simp;omega) (jM _)) ?_
 rintro s h2 ⟨ho2,e2,k2⟩
 rw[xS]at ho2
 have E2:=E1.trans (e2.mono E1.1)
 have t1:=ho2.one
 have t2:=ho2.isSl
 have t3:=ho2.lenD
 by_cases hne:m.pools=[]
 ·rw[hne]at t3;simp only[jN,jB,jE];refine(j2X t1 t2 t3).mono ?_;rintro _ h3 ⟨rfl,rfl⟩;simp only[jN,jB,jE,jF,t2,t3];refine ZP (fun(_:Unit) t h=>h=h3/\t.n=49/\t.get 4= .lit (.slice none 0 0)/\t.get 14= .lit (.int .i64 0)/\t.get 15= .lit (.int .i64 0)) (fun _=>0) ?_ () _ _ ?_
  ·rintro _ t h ⟨rfl,hn,g4,g14,g15⟩ ih;have hz:((0:Int)<0)=False:=by decide
   simp only[jN,jB,jE,jF,reduceCtorEq,hn,g4,g14,g15,hz];refine⟨E2,?_⟩;unfold MP;rw[hne];exact zJ.nil
  ·simp only[jN,jB,jE,jF];rfl
 obtain⟨p,rfl,hp,P2⟩:=ho2.pools hne
 have h0:0<m.pools.length:=List.length_pos_iff.2 hne
 simp only[jN,jB,jE]
 refine(j2W P2 h0 hpl).mono ?_
 rintro _ h3 ⟨rfl,e3,P3⟩
 obtain⟨l,hl⟩:∃l,l=aI m.pools:=⟨_,rfl⟩
 have hll:l.length=m.pools.length:=by rw[hl];exact Yc _ _ (jM _)
 have hlm:∀x∈l,Zq x.id:=fun x hx=>mO hm x ((HC m.pools.length (jM _)).1 (by rw[hl]at hx;exact hx))
 rw[<-hl]at P3
 have E3:zM H.n H h3:=E2.trans (e3.mono (by have:=E1.1;omega))
 have lp3:=jR P3
 have s1:Ex.isSl (.sl p 0 m.pools.length (.un 4))=true:=rfl
 have s2:Ex.lenD (.sl p 0 m.pools.length (.un 4))=m.pools.length:=rfl
 have s3:Ex.slB (.sl p 0 m.pools.length (.un 4))=p:=rfl
 have s4:Ex.slO (.sl p 0 m.pools.length (.un 4))=0:=rfl
 simp only[jN,jB,jE,jF,s1,s2]
 refine kO m.pools.length (fun i t h=>∃o,qE j5K (fun _=>False) h3.n h o 36 (AK l i)/\zM h3.n h3 h/\t.n=49/\t.get 3= .sl p 0 m.pools.length (.un 4)/\t.get 4=o/\t.get 13= .sl p 0 m.pools.length (.un 4)/\t.get 14= .lit (.int .i64 m.pools.length)/\t.get 15= .lit (.int .i64 i)) ?_ ?_ _ _ ?_
 ·rintro i t h hlt hc ⟨o,ho,he,hn,g3,g4,g13,g14,g15⟩ ih;have hws:=xG hlt (by omega);have P:=(he.2 _ lp3).trans P3;have lp:=jR P;have hld:Jr (zH Tryz.prog kR) h 108 p (i * 4)=some (.agg (pC (l.getD i yW))):=by rw[UD P,DL (by omega)]
  obtain⟨x,hx⟩:∃x,x=l.getD i yW:=⟨_,rfl⟩;have hxm:x∈l:=by rw[hx];exact zR (by rw[jU,jO (by omega)];rfl)
  have hxi:=hlm x hxm;rw[<-hx]at hld;unfold pC at hld;obtain⟨hA,hhA,eA,BA⟩:=xX h (.cells [.lit (.int .i64 x.id),.lit (.int .i64 x.size),.lit (.int .i64 x.min),.lit (.int .i64 x.pgs)] 108);have PA:=(eA.2 _ lp).trans P;have lA:=jR PA;have lB:=jR BA;have LB:=xI BA;have ho1:=ho.ext eA (jM _);have he1:=he.step eA;simp only[jN,jB,jE,jF,reduceCtorEq,jG,hn,g4,g13,g14,g15,hc,hlt,hld,s1,s2,s3,s4];rw[<-hhA];clear hhA;by_cases hcut:0<i/\(l.getD (i-1) yW).id=x.id
  ·obtain⟨hi0',hq⟩:=hcut;obtain⟨j,rfl⟩:∃j,i=j+1:=⟨i-1,by omega⟩;have hi0:(0:Int)<((j+1:Nat):Int):=by omega
   have hw1:IntKind.i64.wrap (((j+1:Nat):Int)-1)=((j:Nat):Int):=(vW (by omega) (by omega)).trans (by omega);have hj:j<m.pools.length:=by omega
   rw[Ih]at hq;have hlj:Jr (zH Tryz.prog kR) hA 3 p (j * 4)=some (.lit (.int .i64 (l.getD j yW).id)):=by rw[UD PA,dY (by omega)]
   have hO:AK l (j+1+1)=AK l (j+1):=by rw[AK,if_pos ⟨by omega,by rw[Ih,<-hx];exact hq⟩]
   have hb:((l.getD j yW).id==x.id)=true:=by rw[hq];exact beq_self_eq_true _
   rw[zL [0,1,2,3,4,5,6,7,8,9,10,11,12] 374075900823516023695234415374914902183939638566912 (by kernel_rfl)];repeat ((with_reducible refine jX ?_;simp only[vO];try simp only[vP,jB,jD,jH,jI,jF]);simp only[jN,jB,jE,jF,reduceCtorEq,zG,hn,g3,g15,hi0,hw1,hj,hlj,LB,hb,hws,s1,s2,s3,s4])
   refine ih _ _ ⟨o,by rw[hO];exact ho1,he1,?_⟩;simp only[jN,jE,jF,hn,g3,g4,g13,g14]
  have hO:AK l (i+1)=AK l i++Yz x:=by rw[AK,if_neg (by rw[<-hx];exact hcut),<-hx]
  refine Bt (fun t h'=>h'=hA/\t.n=49/\t.get 3= .sl p 0 m.pools.length (.un 4)/\t.get 4=o/\t.get 6= .ptr h.n 0/\t.get 13= .sl p 0 m.pools.length (.un 4)/\t.get 14= .lit (.int .i64 m.pools.length)/\t.get 15= .lit (.int .i64 i)/\t.get 32= .lit (.bool false)) (fun k' K' hk=> ?_) ?_
  ·rw[zL [0,1,2,3,4,5,6,7,8,9,10,11,12] 374075900823516023695234415374914902183939638566912 (by kernel_rfl)];by_cases hi0:(0:Int)<(i:Int)
   ·obtain⟨j,rfl⟩:∃j,i=j+1:=⟨i-1,by omega⟩;have hw1:IntKind.i64.wrap (((j+1:Nat):Int)-1)=((j:Nat):Int):=(vW (by omega) (by omega)).trans (by omega);have hj:j<m.pools.length:=by omega
    rw[Ih]at hcut;have hlj:Jr (zH Tryz.prog kR) hA 3 p (j * 4)=some (.lit (.int .i64 (l.getD j yW).id)):=by rw[UD PA,dY (by omega)]
    have hb:((l.getD j yW).id==x.id)=false:=by rw[beq_eq_false_iff_ne];exact fun hh=>hcut ⟨by omega,hh⟩
    repeat ((with_reducible refine jX ?_;simp only[vO];try simp only[vP,jB,jD,jH,jI,jF]);simp only[jN,jE,jF,zG,hn,g3,hi0,hw1,hj,hlj,LB,hb,s1,s2,s3,s4])
    refine hk _ _ ⟨rfl,?_⟩;simp only[jN,jE,jF,hn,g3,g4,g13,g14,g15]
   ·repeat ((with_reducible refine jX ?_;simp only[vO];try simp only[vP,jB,jD,jH,jI,jF]);simp only[jN,jE,jF,zG,hn,hi0])
    refine hk _ _ ⟨rfl,?_⟩;simp only[jN,jE,jF,hn,g3,g4,g13,g14,g15]
  rintro t _ ⟨rfl,hn,g3,g4,g6,g13,g14,g15,g32⟩;obtain⟨cn,hcn⟩:∃cn:Int,cn=if 8<x.pgs then 8 else x.pgs:=⟨_,rfl⟩
  have hcn8:cn<=8:=by rw[hcn];split<;>omega
  simp only[jN,jB,jE,reduceCtorEq,hn,g6,g15,g32,LB];rw[<-hcn];have hol:=LL l i;refine ZP (fun(k:Nat) t h'=>∃o',qE j5K (fun _=>False) h3.n h' o' 36 (AK l i++(Yz x).take k)/\zM h3.n h3 h'/\qR o' h.n/\h'.at h.n=some (.cells [.lit (.int .i64 x.id),.lit (.int .i64 x.size),.lit (.int .i64 x.min),.lit (.int .i64 x.pgs)] 108)/\k<=8/\t.n=49/\t.get 3= .sl p 0 m.pools.length (.un 4)/\t.get 4=o'/\t.get 6= .ptr h.n 0/\t.get 13= .sl p 0 m.pools.length (.un 4)/\t.get 14= .lit (.int .i64 m.pools.length)/\t.get 15= .lit (.int .i64 i)/\t.get 35= .lit (.int .i64 cn)/\t.get 36= .lit (.int .i64 k)) (fun k=>8-k) ?_ 0 _ _ ?_
  ·rintro k t h' ⟨o',ho',he',hap,B',hk8,hn,g3,g4,g6,g13,g14,g15,g35,g36⟩ ih2;have LB':=Xy (T:=zH Tryz.prog kR) B';have lB':=jR B';by_cases hk:(k:Int)<cn
   ·have hwk:IntKind.i64.wrap ((k:Int)+1)=((k+1:Nat):Int):=xG (n:=60) (by omega) (by omega);have hpg:=mM (x:=x) (k:=k) (by rw[<-hcn];exact hk);simp only[jN,jB,jD,jE,jF,reduceCtorEq,jG,hn,g4,g6,g15,g35,g36,hk,LB'];obtain⟨h5,hh5⟩:∃h5,h5=h'.push (.cells [.lit (.int .i64 x.id),.lit (.int .i64 k)] 36):=⟨_,rfl⟩;have e5:=ZS hh5;have A5:=QJ hh5;rw[<-hh5];have q1:=he'.1;have q2:=e5.1;have htl:(AK l i++(Yz x).take k).length<=200:=by rw[jQ,zV];omega
    refine qM ((ho'.ext e5 (jM _)).snoc (by kernel_rfl) (by kernel_rfl) (by kernel_rfl) (zv:= .agg [.lit (.int .i64 0),.lit (.int .i64 0)]) (by kernel_rfl) (by':=16) (by kernel_rfl) rfl (by decide) (by decide) A5 (y:=⟨x.id,(k:Int)⟩) (pQ.2 ⟨rfl,hxi,(by show -9223372036854775808<=(k:Int)/\(k:Int)<9223372036854775808;omega)⟩) (by omega) (by omega) (by omega)) ?_;rintro s9 h9 ⟨ho9,e9,k9⟩;obtain⟨k10,k11⟩:=k9 h.n (by omega) hap;simp only[jN,jB,jF,hn,g36,hwk];refine ih2 (k+1) _ _ ⟨s9,?_,(he'.step e5).trans e9,k11,k10.trans ((e5.2 _ lB').trans B'),by omega,?_⟩ (by omega)
    ·rw[qV,hpg,<-zP];exact ho9
    ·simp only[jN,jE,jF,hn,g3,g6,g13,g14,g15,g35]
   ·have hk':((k:Int)<cn)=False:=by simp only[eq_iff_iff,iff_false];exact hk
    rw[mL (by rw[<-hcn];exact hk)]at ho';simp only[jN,jB,jE,jF,reduceCtorEq,hn,g4,g6,g15,g35,g36,hk',hws];refine ih _ _ ⟨o',by rw[hO];exact ho',he',?_⟩;simp only[jN,jE,jF,hn,g3,g4,g13,g14]
  ·refine⟨o,?_,he1,ho.apart (jM _),BA,by omega,?_⟩
   ·rw[qA,kH];exact ho1
   ·simp only[jN,jE,jF,hn,g3,g4,g6,g13,g14,g15];rfl
 ·rintro t h hc ⟨o,ho,he,hn,g3,g4,g13,g14,g15⟩;simp only[jN,jB,jE,jF,reduceCtorEq,hn,g4,g14,g15,hc];refine⟨E3.trans (he.mono E3.1),?_⟩;unfold MP;rw[<-hl];exact ho.toSl (fun _ hf=>hf.elim) (fun b hb=>by have:=E3.1;omega)
 ·simp only[jN,jB,jE,jF];exact⟨_,qE.nil,zM.refl _ _,rfl,rfl⟩
theorem rY(m:zU):(MP m).length<=m.pools.length * 8:=LL _ _
variable{r:AR}
section
variable {P:Program}
theorem Zw{α β:Type}(s:Sem α)(f:α->Sem β):yS P (s >>= f)=match yS P s with
 |some (.ok a)=>yS P (f a)
 |some (.pan v)=>some (.pan v)
 |none=>none:=by
 induction s with
 |pure a=>rfl
 |program k ih=>exact ih P
 |mark m k ih=>exact ih
 |halt o=>cases o<;>rfl
 |_=>rfl
theorem Um:yS P program=some (.ok P):=rfl
theorem JV{α:Type}(a:α):yS P (pure a)=some (.ok a):=rfl
theorem HO{α:Type}{c:Prop}[Decidable c](a b:Sem α):yS P (if c then a else b)=if c then yS P a else yS P b:=by split<;>rfl
theorem eS{t:TypeId}{d:TypeDesc}(h:P.underlying t=some d):yS P (underlying t)=some (.ok d):=by show yS P (match P.underlying t with|some d=>pure d|none=>stuck "no such type")=_;rw[h];rfl
theorem QX(d:Nat)(t:TypeId)(xs ys:Array Value)(ht:P.underlying t=some (.struct (P.fieldsOf t)))(hp:P.stoodInHeld t=false):yS P (Op.equalIn (d+1) t (.agg xs) (.agg ys))=yS P (Op.eqFields d xs ys (P.fieldsOf t).toList):=by
 simp only[Op.equalIn,Zw,eS ht,Um,hp,Je,if_false];rw[<-Array.forIn_toList];generalize (P.fieldsOf t).toList=fs;clear ht;induction fs with
 |nil=>simp[Op.eqFields,JV]
 |cons f fs ih=>
  simp only[List.forIn_cons,Op.eqFields,Zw,HO];by_cases hn:f.name≠"_"
  ·simp only[if_pos hn];cases yS P (part f.type xs f.offset)with
   |none=>rfl
   |some r1=>
    cases r1 with
    |pan v=>rfl
    |ok a=>
     simp only
     cases yS P (part f.type ys f.offset)with
     |none=>rfl
     |some r2=>
      cases r2 with
      |pan v=>rfl
      |ok b=>
       simp only
       cases yS P (Op.equalIn d f.type a b)with
       |none=>rfl
       |some r3=>
        cases r3 with
        |pan v=>rfl
        |ok r=>
         cases r
         ·simp[JV]
         ·simp only[BW,Je,if_false,JV];exact ih
  ·simp only[if_neg hn,JV];exact ih
theorem VN(d:Nat)(t:TypeId)(k k':IntKind)(a b:Int)(h:P.underlying t=some (.int k')):yS P (Op.equalIn (d+1) t (.int k a) (.int k b))=some (.ok (a==b)):=by simp only[Op.equalIn,Zw,eS h];simp[JV]
theorem mQ(a b c e:Int):yS Tryz.prog (Op.equal 36 (.agg #[.int .i64 a,.int .i64 b]) (.agg #[.int .i64 c,.int .i64 e]))=some (.ok ((a==c)&&(b==e))):=by
 show yS Tryz.prog (Op.equalIn (9999+1) 36 (.agg #[.int .i64 a,.int .i64 b]) (.agg #[.int .i64 c,.int .i64 e]))=_;rw[QX 9999 36 _ _ (by kernel_rfl) (by kernel_rfl)];obtain⟨f0,f1,hf,n0,n1,t0,t1,z0,z1⟩:∃f0 f1:Field,(Tryz.prog.fieldsOf 36).toList=[f0,f1]/\f0.name≠"_"/\f1.name≠"_"/\f0.type=3/\f1.type=3/\f0.offset=0/\f1.offset=1:=by unfold Program.fieldsOf;rw[Tryz.underlying36];exact⟨_,_,rfl,by decide,by decide,rfl,rfl,rfl,rfl⟩
 rw[hf];have p0:∀x y:Int,yS Tryz.prog (part 3 #[.int .i64 x,.int .i64 y] 0)=some (.ok (.int .i64 x)):=fun x y=>by kernel_rfl
 have p1:∀x y:Int,yS Tryz.prog (part 3 #[.int .i64 x,.int .i64 y] 1)=some (.ok (.int .i64 y)):=fun x y=>by kernel_rfl
 have q:∀x y:Int,yS Tryz.prog (Op.equalIn 9999 3 (.int .i64 x) (.int .i64 y))=some (.ok (x==y)):=fun x y=>VN 9998 3 .i64 .i64 x y Tryz.underlying3;simp only[Op.eqFields,n0,n1,t0,t1,z0,z1,ne_eq,not_false_eq_true,if_true,Zw,p0,p1,q,HO,JV];cases(a==c)<;>cases(b==e)<;>rfl
variable {d:Option Tmp} {ty:TypeId} {ps:String} {af:Array Edge} {g:Option (Nat×Bool)} {f:TypeId} {t:TM} {h:AH}
theorem j40{i j:Nat}{a b c e:Int}(hi:t.get i= .agg [.lit (.int .i64 a),.lit (.int .i64 b)])(hj:t.get j= .agg [.lit (.int .i64 c),.lit (.int .i64 e)]):
 XK Tryz.prog (zH Tryz.prog kR) ⟨d,.binOp .eql 36 (.tmp i) (.tmp j) f,ty,ps,af,g⟩ t h .eql 36 (.tmp i) (.tmp j)=some (.val (.lit (.bool ((a==c)&&(b==e)))),h):=by
 have e1:xJ t (.tmp i)=some (.agg [.lit (.int .i64 a),.lit (.int .i64 b)]):=by rw[kX,hi]
 have e2:xJ t (.tmp j)=some (.agg [.lit (.int .i64 c),.lit (.int .i64 e)]):=by rw[kX,hj]
 have l1:qI t (.tmp i)= .agg #[.int .i64 a,.int .i64 b]:=by unfold qI;rw[e1];rfl
 have l2:qI t (.tmp j)= .agg #[.int .i64 c,.int .i64 e]:=by unfold qI;rw[e2];rfl
 have hl:yU Tryz.prog ⟨d,.binOp .eql 36 (.tmp i) (.tmp j) f,ty,ps,af,g⟩ t=some (.val (.lit (.bool ((a==c)&&(b==e))))):=by
  unfold yU;rw[if_pos (by show(Zs _&&JK t [.tmp i,.tmp j])=true;simp only[JK,e1,e2];rfl)];have:yS Tryz.prog (execOp (qI t) ⟨d,.binOp .eql 36 (.tmp i) (.tmp j) f,ty,ps,af,g⟩)=some (.ok (.value (.bool ((a==c)&&(b==e))))):=by
   show yS Tryz.prog (do pure (Next.value (<-(do eqGuard .eql 36 (.tmp i) (.tmp j) (qI t (.tmp i)) (qI t (.tmp j));binOp .eql 36 (qI t (.tmp i)) (qI t (.tmp j))))))=_;rw[l1,l2];have hg:yS Tryz.prog (eqGuard .eql 36 (.tmp i) (.tmp j) (.agg #[.int .i64 a,.int .i64 b]) (.agg #[.int .i64 c,.int .i64 e]))=some (.ok ()):=by
    have hm:Tryz.prog.eqGuardType Tryz.prog.depth 36=false:=by kernel_rfl
    simp[eqGuard,Zw,Um,hm,JV]
   have hb:yS Tryz.prog (binOp .eql 36 (.agg #[.int .i64 a,.int .i64 b]) (.agg #[.int .i64 c,.int .i64 e]))=some (.ok (.bool ((a==c)&&(b==e)))):=by show yS Tryz.prog (do pure (Value.bool (<-Op.equal 36 (.agg #[.int .i64 a,.int .i64 b]) (.agg #[.int .i64 c,.int .i64 e]))))=_;simp only[Zw,mQ,JV]
   simp only[Zw,hg,hb,JV]
  rw[this];rfl
 unfold XK
 rw[e1,e2]
 show yR _ _ _ _ _=_
 unfold yR
 rw[hl]
def rG(P:Program)(T:TT)(o:Oper)(t:TM)(h:AH)(op:BinOp)(e:TypeId)(x y:Operand):AR:=Dc P T o t h op e x y
def j73(h:AH)(r:AR):AV->AV->AR
 | .agg [.lit (.int .i64 a),.lit (.int .i64 b)],.agg [.lit (.int .i64 c),.lit (.int .i64 e)]=>some (.val (.lit (.bool ((a==c)&&(b==e)))),h)
 |_,_=>r
theorem tE{a b c e:Int}:j73 h r (.agg [.lit (.int .i64 a),.lit (.int .i64 b)]) (.agg [.lit (.int .i64 c),.lit (.int .i64 e)])=some (.val (.lit (.bool ((a==c)&&(b==e)))),h):=rfl
theorem j3n{i j:Nat}:Dc Tryz.prog (zH Tryz.prog kR) ⟨d,.binOp .eql 36 (.tmp i) (.tmp j) f,ty,ps,af,g⟩ t h .eql 36 (.tmp i) (.tmp j)=j73 h (rG Tryz.prog (zH Tryz.prog kR) ⟨d,.binOp .eql 36 (.tmp i) (.tmp j) f,ty,ps,af,g⟩ t h .eql 36 (.tmp i) (.tmp j)) (t.get i) (t.get j):=by
 unfold j73;split
 ·rename_i h1 h2;exact j40 h1 h2
 ·rfl
end
theorem mP(pool seed:Int)(hm:vG F H m vo vp vb)(hok:OC m)(hlo:Sm 40 m.osds)(hpo:Sm 32 m.pools):
 vR 62 [vS m vo vp vb,eN pool seed] H fun v h'=>zM H.n H h'/\v= .tup [.lit (.int .i64 ((ZR m pool seed).getD 0 0)),.lit (.bool (!(ZR m pool seed).isEmpty))]:=by
 refine zW Tryz.func62 rfl rfl ?_
 have o1:=hm.o.one
 have o2:=hm.p.one
 have o3:=hm.b.one
 simp only[jN,seval,Tryz.ntmps62,vS,eN,o1,o2,o3]
 obtain⟨h1,hh1⟩:∃h1,h1=(H.push (.cells [.lit (.int .i64 m.epoch),vo,vp,vb,.lit (.int .i64 m.leaf)] 66)).push (.cells [.lit (.int .i64 pool),.lit (.int .i64 seed)] 36):=⟨_,rfl⟩
 have E1:zM H.n H h1:=hh1▸((zM.refl _ _).push _ (jM _)).push _ (by rw[zF];omega)
 rw[<-hh1]
 clear hh1
 refine(j60 pool seed (hm.ext E1 (jM _)) hok hlo hpo).mono ?_
 rintro v h2 ⟨e2,hv⟩
 have E2:=E1.step e2
 have v1:=hv.isSl
 have v2:=hv.lenD
 by_cases hz:ZR m pool seed=[]
 ·have hzb:(((0:Nat):Int)==0)=true:=by decide
  have hz0:(ZR m pool seed).length=0:=by rw[hz];rfl
  simp only[jN,seval,v1,v2,hz0];exact⟨E2,by rw[hz];rfl⟩
 have hpos:0<(ZR m pool seed).length:=List.length_pos_iff.2 hz
 have hzb:(((ZR m pool seed).length:Int)==0)=false:=by rw[beq_eq_false_iff_ne];omega
 have hld:=hv.int (T:=zH Tryz.prog kR) (e:=3) (by kernel_rfl) (by kernel_rfl) hpos
 rw[JH]at hld
 have hne:(ZR m pool seed).isEmpty=false:=by
  cases hc:ZR m pool seed with
  |nil=>exact absurd hc hz
  |cons=>rfl
 simp only[jN,seval,v1,v2,hpos,hzb,hld,hne]
 exact E2
theorem LU(pool seed:Int)(hm:vG F H m vo vp vb)(hok:OC m)(hlo:Sm 40 m.osds)(hpo:Sm 32 m.pools):
 vR 67 [vS m vo vp vb,eN pool seed] H fun v h'=>zM H.n H h'/\v= .tup [.lit (.int .i64 ((ZR m pool seed).getD 0 0)),.lit (.bool (!(ZR m pool seed).isEmpty))]:=by
 refine zW Tryz.func67 rfl rfl ?_
 have o1:=hm.o.one
 have o2:=hm.p.one
 have o3:=hm.b.one
 simp only[jN,seval,Tryz.ntmps67,vS,eN,o1,o2,o3]
 obtain⟨h1,hh1⟩:∃h1,h1=(H.push (.cells [.lit (.int .i64 m.epoch),vo,vp,vb,.lit (.int .i64 m.leaf)] 66)).push (.cells [.lit (.int .i64 pool),.lit (.int .i64 seed)] 36):=⟨_,rfl⟩
 have E1:zM H.n H h1:=hh1▸((zM.refl _ _).push _ (jM _)).push _ (by rw[zF];omega)
 rw[<-hh1]
 clear hh1
 refine(j4c pool seed (hm.ext E1 (jM _)) hok hlo hpo).mono ?_
 rintro v h2 ⟨e2,hv⟩
 have E2:=E1.step e2
 have v1:=hv.isSl
 have v2:=hv.lenD
 by_cases hz:ZR m pool seed=[]
 ·have hzb:(((0:Nat):Int)==0)=true:=by decide
  have hz0:(ZR m pool seed).length=0:=by rw[hz];rfl
  simp only[jN,seval,v1,v2,hz0];exact⟨E2,by rw[hz];rfl⟩
 have hpos:0<(ZR m pool seed).length:=List.length_pos_iff.2 hz
 have hzb:(((ZR m pool seed).length:Int)==0)=false:=by rw[beq_eq_false_iff_ne];omega
 have hld:=hv.int (T:=zH Tryz.prog kR) (e:=3) (by kernel_rfl) (by kernel_rfl) hpos
 rw[JH]at hld
 have hne:(ZR m pool seed).isEmpty=false:=by
  cases hc:ZR m pool seed with
  |nil=>exact absurd hc hz
  |cons=>rfl
 simp only[jN,seval,v1,v2,hpos,hzb,hld,hne]
 exact E2
def Fb(o:MK)(vd:AV):List AV:=[.lit (.int .i64 o.k),.lit (.string o.s),vd,.lit (.int .i64 o.e),.lit (.int .i64 o.n)]
def MI(x:VH)(vd:AV)(num:Int):AB:= .cells [.lit (.int .i64 x.pool),.lit (.int .i64 x.pg.pool),.lit (.int .i64 x.pg.seed),.lit (.bool x.list),.lit (.int .i64 x.op.k),.lit (.string x.op.s),vd,.lit (.int .i64 x.op.e),.lit (.int .i64 x.op.n),.lit (.int .i64 num),.lit (.int .i64 x.tries)] 114
def XN(c:vM)(m:zU)(vo vp vb:AV)(num:Int)(now ans:AV):AB:= .cells [.lit (.int .i64 c.k),.lit (.int .i64 c.i),.lit (.int .i64 c.boot),.lit (.int .i64 c.mons),.lit (.int .i64 c.tries),.lit (.int .i64 m.epoch),vo,vp,vb,.lit (.int .i64 m.leaf),.lit (.int .i64 num),now,ans] 83
def YS(x:Rj)(vd vl:AV):List AV:=[.lit (.int .i64 x.e),.lit (.string x.s),.lit (.int .i64 x.v1),.lit (.int .i64 x.v2),vd,vl]
def fZ(F:Nat->Prop)(q p:Nat)(h:AH)(num:Int)(now:AV):Option VH->Prop
 |none=>now= .lit (.pointer none)
 |some x=>now= .ptr p 0/\p≠q/\∃vd,h.at p=some (MI x vd num)/\zJ xZ F h vd x.op.d
def fS(F:Nat->Prop)(h:AH)(ans:AV):Option Rj->Prop
 |none=>ans= .lit (.pointer none)
 |some a=>∃b vd vl,ans= .ptr b 0/\F b/\h.at b=some (.cells (YS a vd vl) 90)/\zJ xZ F h vd a.d/\zJ JX F h vl a.l
def Gq(G:Nat->Prop)(q p:Nat)(b:Nat):Prop:=G b/\b≠q/\b≠p
structure XZ(q p:Nat)(G:Nat->Prop)(h:AH)(c:vM)(s:Zg)(vo vp vb now ans:AV):Prop where
 cq:h.at q=some (XN c s.m vo vp vb s.num now ans)
 m:vG (Gq G q p) h s.m vo vp vb
 now:fZ (Gq G q p) q p h s.num now s.now
 ans:fS (Gq G q p) h ans s.ans
def j0Z(q p:Nat)(G:Nat->Prop)(h:AH)(c:vM)(s:Zg):Prop:=∃vo vp vb now ans,XZ q p G h c s vo vp vb now ans
variable{F':Nat->Prop}
theorem vG.lift(hm:vG F H m vo vp vb)(hl:∀b,F b->b<H.n->h.at b=H.at b/\F' b):vG F' h m vo vp vb:=⟨hm.o.lift hl,hm.p.lift hl,hm.b.lift hl⟩
variable{q:Nat}{num:Int}{now:AV}{o:Option VH}
theorem fZ.one(hn:fZ F q p h num now o):now.one=true:=by
 cases o with
 |none=>cases hn;rfl
 |some x=>obtain⟨rfl,-⟩:=hn;rfl
variable{ans:AV}
theorem fS.one{o:Option Rj}(hn:fS F h ans o):ans.one=true:=by
 cases o with
 |none=>cases hn;rfl
 |some x=>obtain⟨b,vd,vl,rfl,-⟩:=hn;rfl
theorem fS.lift{o:Option Rj}(hn:fS F H ans o)(hl:∀b,F b->b<H.n->h.at b=H.at b/\F' b):fS F' h ans o:=by
 cases o with
 |none=>exact hn
 |some x=>
  obtain⟨b,vd,vl,h1,h2,h3,h4,h5⟩:=hn;have:=hl b h2 (jR h3);exact⟨b,vd,vl,h1,this.2,this.1.trans h3,h4.lift hl,h5.lift hl⟩
theorem fZ.lift(hn:fZ F q p H num now o)(hl:∀b,F b->b<H.n->h.at b=H.at b/\F' b)(hp:∀x,o=some x->h.at p=H.at p):fZ F' q p h num now o:=by
 cases o with
 |none=>exact hn
 |some x=>
  obtain⟨h1,h2,vd,h3,h4⟩:=hn;exact⟨h1,h2,vd,(hp x rfl).trans h3,h4.lift hl⟩
variable{c:vM}{s:Zg}
theorem XZ.lt(z:XZ q p G h c s vo vp vb now ans):q<h.n:=jR z.cq
theorem XZ.ext(z:XZ q p G H c s vo vp vb now ans)(e:zM H.n H h):XZ q p G h c s vo vp vb now ans:=
 ⟨(e.2 _ (jR z.cq)).trans z.cq,z.m.ext e (jM _),z.now.lift (fun b hb hlt=>⟨e.2 b hlt,hb⟩) (fun x hx=>by have:=z.now;rw[hx]at this;exact e.2 _ (jR this.2.2.choose_spec.1)),z.ans.lift fun b hb hlt=>⟨e.2 b hlt,hb⟩⟩
theorem j0Z.ext(z:j0Z q p G H c s)(e:zM H.n H h):j0Z q p G h c s:=by obtain⟨vo,vp,vb,now,ans,z⟩:=z;exact⟨vo,vp,vb,now,ans,z.ext e⟩
structure oO(m:zU):Prop where
 ok:Ds m
 om:OC m
 ep:Zq m.epoch
 pg:∀p∈m.pools,Zq p.pgs
structure Wl(x:VH):Prop where
 s:x.op.s.size<=140737488351232
 d:x.op.d.length<=4096
 l:x.list=(x.op.k==5)
 t:0<=x.tries/\x.tries<=1000000000
theorem Vd(h1:H.at q=some (XN c m vo vp vb num now ans))(hb:0<c.boot):vR 30 [.ptr q 0] H fun r h'=>r= .lit (.bool true)/\h'=H:=by refine zW Tryz.func30 rfl rfl ?_;unfold XN at h1;have L:=xI h1;simp only[jN,jB,jC,jE,jF,reduceCtorEq,Tryz.ntmps30,L,hb]
def j7k:Option (Int×Int)->Bool->AV
 |none,_=> .tup [.agg [.lit (.int .i64 0),.lit (.int .i64 0)],.lit (.bool false)]
 |some (a,b),_=> .tup [.agg [.lit (.int .i64 a),.lit (.int .i64 b)],.lit (.bool true)]
variable{pool:Int}
theorem j2I{s:ByteArray}(h:¬(LR m pool s).2.2=0):(LR m pool s).1=0/\(LR m pool s).2.1=0:=by
 unfold LR at h ⊢;split
 ·exact⟨rfl,rfl⟩
 ·split
  ·rename_i h1 h2;rw[h1]at h;simp only[h2,if_true]at h;exact absurd trivial h
  ·exact⟨rfl,rfl⟩
variable{x:VH}
theorem j0m{ans:AV}(z:XZ q p G H c s vo vp vb now ans)(hx:s.now=some x)(hmo:oO s.m)(hno:Wl x):
 vR 61 [.ptr q 0] H fun r h'=>zM H.n H h'/\r=j7k (Dh s.m x) true:=by
 refine zW Tryz.func61 rfl rfl ?_
 obtain⟨hA,hhA,eA,XA⟩:=xX H (.cells [.lit (.int .i64 0),.lit (.int .i64 0)] 36)
 have lXA:=jR XA
 have zA:=z.ext eA
 have Y:=zA.cq
 have hN:=zA.now
 rw[hx]at hN
 obtain⟨rfl,hpq,vd,P,hd⟩:=hN
 unfold XN at Y
 unfold MI at P
 have L:=xI Y
 have l:=jR Y
 have LP:=xI P
 have lP:=jR P
 have o1:=zA.m.o.one
 have o2:=zA.m.p.one
 have o3:=zA.m.b.one
 have i1:=zA.m.o.isSl
 have i2:=zA.m.p.isSl
 have i3:=zA.m.b.isSl
 cases hl:x.list with
 |true=>
  have e1:Dh s.m x=some (x.pg.pool,x.pg.seed):=by unfold Dh;rw[if_pos hl]
  rw[e1];rw[hl]at LP;simp only[jN,jB,jC,jE,jF,reduceCtorEq,jG,Tryz.ntmps61,<-hhA,L,LP,XA,lXA];exact⟨eA.put _ (jM _),rfl⟩
 |false=>
 rw[hl]at LP
 simp only[jN,jB,jC,jE,jF,reduceCtorEq,jG,Tryz.ntmps61,<-hhA,L,LP]
 rw[zL [0,1,2,3,4,5,6,7,8,9,10,11,12,13,14,15,16,17,18,23,19,20,21,22,24,25] 156764262145084294503345828874175938759992676731015851620009871476036850114455618712750830698131720627890697207372071914349583815453986559945025722023737099851478105339540480986161507367718126826878402560 (by kernel_rfl)]
 repeat ((with_reducible refine jX ?_;simp only[vO];try simp only[vP,jB,jD,jH,jI]);simp only[jN,jB,jE,jF,reduceCtorEq,jG,zG,L,l,LP,lP])
 refine⟨by simp only[yK,i1,i2,i3,kS],?_⟩
 obtain⟨hB,hhB⟩:∃hB,hB=hA.push (.cells [.lit (.int .i64 0),.lit (.int .i64 0)] 36):=⟨_,rfl⟩
 rw[<-hhB]
 have eB:=ZS hhB
 have ZB:=QJ hhB
 refine(j76 x.pool (zA.m.ext eB (jM _)) hmo.ok.2.1.1 hmo.pg hno.s).mono ?_
 rintro _ h4 ⟨e4,rfl⟩
 have Z4:=(e4.2 _ (jR ZB)).trans ZB
 have lZ4:=jR Z4
 have eB4:=eB.trans (e4.mono eB.1)
 have E4:=eA.trans (eB4.mono eA.1)
 have X4:=(eB4.2 _ (jR XA)).trans XA
 have nA:hA.n=H.n+1:=by rw[hhA,zF]
 obtain⟨a,b,e,hpr⟩:∃a b e,LR s.m x.pool x.op.s=(a,b,e):=⟨_,_,_,rfl⟩
 obtain⟨h5,hh5⟩:∃h5,h5=h4.put hA.n (.cells [.lit (.int .i64 a),.lit (.int .i64 b)] 36):=⟨_,rfl⟩
 have Z5:=Jj hh5 lZ4
 have X5:=Qx hh5 (by omega) X4
 have LZ5:=xI Z5
 have lZ5:=jR Z5
 have lX5:=jR X5
 have E5:zM H.n H h5:=hh5▸E4.put _ (by omega)
 have hbad:=j2I (m:=s.m) (pool:=x.pool) (s:=x.op.s)
 have e1:Dh s.m x=if e=0 then some (a,b)else none:=by unfold Dh;rw[hl,hpr];simp
 rw[e1,hpr]
 rw[hpr]at hbad
 unfold Tk
 by_cases he:e=0
 ·have h00:(e==0)=true:=by rw[he];rfl
  rw[if_pos he];repeat (first|((with_reducible refine jX ?_;simp only[vO];try simp only[vP,jB]);simp only[jN,jB,jE,jF,reduceCtorEq,jG,zG,Z4,<-hh5,LZ5,X5,lX5,h00])|simp only[jN,jB,jC,jD,jE,jF,reduceCtorEq,jG,jJ,jK,jL,zG,Z4,lZ4,<-hh5,Z5,LZ5,lZ5,X5,lX5,h00])
  exact⟨E5.put _ (jM _),rfl⟩
 ·have h00:(e==0)=false:=beq_eq_false_iff_ne.2 he;obtain⟨rfl,rfl⟩:a=0/\b=0:=hbad he;rw[if_neg he];repeat (first|((with_reducible refine jX ?_;simp only[vO];try simp only[vP,jB]);simp only[jN,jB,jE,jF,reduceCtorEq,jG,zG,Z4,<-hh5,LZ5,X5,lX5,h00])|simp only[jN,jB,jC,jD,jE,jF,reduceCtorEq,jG,jJ,jK,jL,zG,Z4,lZ4,<-hh5,Z5,LZ5,lZ5,X5,lX5,h00])
  exact⟨E5.put _ (jM _),rfl⟩
theorem Ay{x:AV}{xs ys:List Nv}(ho:Db n0 (fun b=>n0<=b) H v xs)(hx:zJ Hm F H x ys)(hF:∀b,F b->n0<=b/\qR v b)(hl:xs.length+ys.length<=100000)(hn0:n0<=H.n):
 ∃s' h',vZ (zH Tryz.prog kR) H 84 84 v x=some (s',h')/\Db n0 (fun b=>n0<=b) h' s' (xs++ys)/\zM n0 H h':=by
 obtain⟨L,h1,h2,hc,h3⟩:=hx.out
 have hM:YP Hm (fun b=>n0<=b/\qR v b) H L ys:=⟨h3.1,fun i c x h1 h2=>Hm.lift (h3.2 i c x h1 h2) fun b hb _=>⟨rfl,hF b hb⟩⟩
 obtain⟨s',h',a1,a2,a3,a4⟩:=qE.append ho (T:=zH Tryz.prog kR) (t:=84) (tx:=84) (by kernel_rfl) (by kernel_rfl) (by kernel_rfl) (zv:= .agg (Ri ⟨0,0,0,0,0,0,0,0,0,⟨#[]⟩,[],0,0,0,0,0⟩ (.lit (.slice none 0 0)))) (by kernel_rfl) (by':=552) (by kernel_rfl) (by kernel_rfl) (by decide) (by decide) h1.src h1.len hM (by omega) (by omega) hn0
 exact⟨s',h',a1,a2,a3⟩
theorem Yk(c:vM)(m:zU)(num:Int)(x:VH):(Zc c m num x).length<=1:=by
 unfold Zc;split
 ·simp
 ·split<;>simp
theorem PS{ans:AV}(z:XZ q p G H c s vo vp vb now ans)(hx:s.now=some x)(hmo:oO s.m)(hno:Wl x):
 vR 38 [.ptr q 0] H fun r h'=>zM H.n H h'/\zJ Hm (fun b=>H.n<=b) h' r (Zc c s.m s.num x):=by
 refine zW Tryz.func38 rfl rfl ?_
 simp only[jN,jB,jC,jE,reduceCtorEq,Tryz.ntmps38]
 refine(j0m z hx hmo hno).mono ?_
 rintro _ h1 ⟨e1,rfl⟩
 cases ht:Dh s.m x with
 |none=>
  have es:Zc c s.m s.num x=[]:=by unfold Zc;rw[ht]
  rw[es];unfold j7k;simp only[jN,jB,jE,jF,reduceCtorEq,jG];exact⟨e1.trans ((zM.refl h1.n h1).push _ (jM _) |>.mono e1.1),.nil⟩
 |some pr=>
 obtain⟨pp,ps⟩:=pr
 unfold j7k
 simp only[]
 obtain⟨hA,hhA,eA,XA⟩:=xX h1 (.cells [.lit (.int .i64 pp),.lit (.int .i64 ps)] 36)
 have E1:=e1.trans (eA.mono e1.1)
 have zA:=z.ext E1
 have Y:=zA.cq
 have hN:=zA.now
 rw[hx]at hN
 obtain⟨rfl,hpq,vd,P,hd⟩:=hN
 unfold XN at Y
 unfold MI at P
 have L:=xI Y
 have LX:=xI XA
 have lX:=jR XA
 have i1:=zA.m.o.isSl
 have i2:=zA.m.p.isSl
 have i3:=zA.m.b.isSl
 simp only[jN,jB,jE,jF,reduceCtorEq,jG,<-hhA]
 rw[zL [0,1,2,3,4,5,6,7,8,9,10] 1328091586345603859638970574589396992 (by kernel_rfl)]
 repeat ((with_reducible refine jX ?_;simp only[vO];try simp only[vP,jB,jD,jH,jI]);simp only[jN,jB,jE,jF,reduceCtorEq,jG,zG,L,LX])
 refine⟨by simp only[yK,i1,i2,i3,kS],?_⟩
 refine(mP pp ps zA.m hmo.om hmo.ok.1.1 hmo.ok.2.1.1).mono ?_
 rintro _ h2 ⟨e2,rfl⟩
 have E2:=E1.trans (e2.mono E1.1)
 cases ha:ZR s.m pp ps with
 |nil=>
  have es:Zc c s.m s.num x=[]:=by unfold Zc;rw[ht];simp only[ha]
  rw[es];have w1:([]:List Int).isEmpty=true:=rfl;have w2:([]:List Int).getD 0 0=0:=rfl;rw[w1,w2];repeat (first|((with_reducible refine jX ?_;simp only[vO];try simp only[vP,jB,jD,jH,jI,jF]);simp only[jN,jB,jE,jF,reduceCtorEq,zG])|simp only[jN,jB,jC,jD,jE,jF,reduceCtorEq,jG,jJ,jK,jL,zG,BW])
  exact⟨E2,.nil⟩
 |cons k rest=>
 have es:Zc c s.m s.num x=[bM c s.m.epoch s.num pp ps k x.op]:=by unfold Zc;rw[ht];simp only[ha]
 rw[es]
 have w1:(k::rest).isEmpty=false:=rfl
 have w2:(k::rest).getD 0 0=k:=rfl
 rw[w1,w2]
 have zB:=zA.ext e2
 have Y2:=zB.cq
 have hN2:=zB.now
 rw[hx]at hN2
 obtain⟨-,-,vd2,P2,hd2⟩:=hN2
 obtain rfl:vd2=vd:=by have:=(e2.2 _ (jR P)).trans P;rw[P2]at this;unfold MI at this;simp only[jP,AB.cells.injEq,List.cons.injEq]at this;exact this.1.2.2.2.2.2.2.1
 unfold XN at Y2
 unfold MI at P2
 have L2:=xI Y2
 have l2:=jR Y2
 have LP2:=xI P2
 have lP2:=jR P2
 have X2:=(e2.2 _ lX).trans XA
 have d1:=hd2.one
 have d3:=hd2.lenD
 obtain⟨hB,hhB,eB,OB⟩:=xX h2 (.cells (Fb x.op vd2) 41)
 have nB:hB.n=h2.n+1:=by rw[hhB,zF]
 unfold Fb at OB hhB
 have LOB:=xI OB
 have lOB:=jR OB
 have EB:=E2.trans (eB.mono E2.1)
 repeat (first|((with_reducible refine jX ?_;simp only[vO];try simp only[vP,jB,jD,jH,jI,jF]);simp only[jN,jB,jE,jF,reduceCtorEq,jG,zG,L2,LP2,d1,<-hhB,LOB])|simp only[jN,jB,jC,jD,jE,jF,reduceCtorEq,jG,jJ,jK,jL,zG,L2,l2,LP2,lP2,d1,<-hhB,LOB,lOB,oV])
 have hdl:=hno.d
 refine qM (LM (n0:=hB.n) .nil (hd2.ext eB (jM _)) (by simp only[xH];omega) (jM _)) ?_
 rintro s3 h3 ⟨ob,e3⟩
 have u1:=ob.one
 have O3:=(e3.2 _ lOB).trans OB
 have lO3:=jR O3
 have X3:=(e3.2 _ (zS (jR X2) eB.1)).trans ((eB.2 _ (jR X2)).trans X2)
 have E3:=EB.trans (e3.mono EB.1)
 obtain⟨h4,hh4⟩:∃h4,h4=h3.put h2.n (.cells (Fb x.op s3) 41):=⟨_,rfl⟩
 have E4:zM H.n H h4:=hh4▸E3.put _ (by have:=E2.1;omega)
 have O4:=Jj hh4 lO3
 have lx2:=jR X2
 have n1:=e1.1
 have X4:=Qx hh4 (by omega) X3
 have z4:=z.ext E4
 have Y4:=z4.cq
 have hN4:=z4.now
 rw[hx]at hN4
 obtain⟨-,-,vd4,P4,hd4⟩:=hN4
 unfold Fb at hh4 O4
 unfold XN at Y4
 unfold MI at P4
 have L4:=xI Y4
 have l4:=jR Y4
 have LP4:=xI P4
 have lP4:=jR P4
 have LO4:=xI O4
 have lO4:=jR O4
 have LX4:=xI X4
 have lX4:=jR X4
 simp only[jN,jB,jE,jF,jG,O3,u1,<-hh4]
 rw[zL [0,1,2,3,4,5,6,7,8,9,10,11,12,13,14,15,16,17,18,19,20,21,22,23,24,25,26,27,28,29,30] 9745314004592975875005312751096233086979521701426991528396730372618967641403356915496044066447404285072783001801544532901691562830796869107735760221019839673371941945564806819146434222776717213983288564244437710744191306367150766056014162151141394272125563789082522510212820356854750117888 (by kernel_rfl)]
 repeat ((with_reducible refine jX ?_;simp only[vO];try simp only[vP,jB,jD,jH,jI,jF]);simp only[jN,jB,jD,jE,jF,reduceCtorEq,jG,zG,L4,l4,LP4,lP4,LO4,lO4,LX4,lX4])
 have u2:=ob.isSl
 refine⟨by simp only[yK,u2],E4.push _ E4.1,?_⟩
 have hs4:zJ xZ (fun b=>H.n<=b) h4 s3 x.op.d:=by have:=ob.toSl (F:=fun b=>hB.n<=b) (fun _ hh=>hh.elim) (fun _ hh=>hh);rw[xS]at this;exact this.lift fun b hb hlt=>⟨hh4▸zE _ (by omega),by omega⟩
 refine zJ.ofAt (L:=[Ri (bM c s.m.epoch s.num pp ps k x.op) s3]) (zI _ _) E4.1 (YP.nil.snoc (Br.2 ⟨s3,rfl,?_⟩)) rfl
 exact(hs4.ext ((zM.refl h4.n h4).push _ (jM _)) (jM _))
def K2(q p:Nat)(H h:AH):Prop:=H.n<=h.n/\∀b,b<H.n->b≠q->b≠p->h.at b=H.at b
theorem K2.of(k:Kq q H h):K2 q p H h:=⟨k.1,fun b hb hq _=>k.2 b hb hq⟩
theorem K2.refl:K2 q p H H:= .of (.refl _ _)
theorem K2.ext(e:zM H.n H h):K2 q p H h:= .of (.ext e)
variable{h':AH}
theorem K2.trans(a:K2 q p H h)(b:K2 q p h h'):K2 q p H h':=⟨zY a.1 b.1,fun x hx hq hp=>(b.2 x (zS hx a.1) hq hp).trans (a.2 x hx hq hp)⟩
theorem K2.putq(a:K2 q p H h)(x:AB):K2 q p H (h.put q x):=⟨by rw[kZ];exact a.1,fun b hb hq hp=>(zE _ (Ne.symm hq)).trans (a.2 b hb hq hp)⟩
theorem K2.putp(a:K2 q p H h)(x:AB):K2 q p H (h.put p x):=⟨by rw[kZ];exact a.1,fun b hb hq hp=>(zE _ (Ne.symm hp)).trans (a.2 b hb hq hp)⟩
theorem K2.sl{α:Type}{R:Zl α}{xs:List α}(a:K2 q p H h)(hs:zJ R F H v xs)(hF:∀b,F b->b≠q/\b≠p):zJ R F h v xs:=hs.lift fun b hb hlt=>⟨a.2 b hlt (hF b hb).1 (hF b hb).2,hb⟩
theorem Hw(x:xD):∀ru w,RO x ru w=RO x ru []++w
 |[],w=>rfl
 |y::ru,w=>by
  unfold RO;by_cases h:x.id<y.id
  ·rw[if_pos h,if_pos h,Hw x ru (y::w),Hw x ru [y],zP];rfl
  ·rw[if_neg h,if_neg h,zP];rfl
theorem RP{x:xD}(id:Int):∀ru w,(RO x ru w).find? (fun b=>b.id==id)=(ru.reverse++x::w).find? (fun b=>b.id==id)
 |[],w=>rfl
 |y::ru,w=>by
  unfold RO;by_cases h:x.id<y.id
  ·rw[if_pos h,RP id ru (y::w),Nu,zP,List.find?_append,List.find?_append];congr 1;show(x::y::w).find? _=(y::x::w).find? _;rw[Gp,Gp,Gp,Gp];by_cases hx:x.id=id
   ·have hy:¬y.id=id:=by omega
    rw[show(x.id==id)=true from beq_iff_eq.2 hx,show(y.id==id)=false from beq_eq_false_iff_ne.2 hy]
   ·rw[show(x.id==id)=false from beq_eq_false_iff_ne.2 hx]
  ·rw[if_neg h]
theorem Iy{x:xD}:∀ru,List.Pairwise (fun a b:xD=>a.id<=b.id) ru.reverse->List.Pairwise (fun a b:xD=>a.id<=b.id) (RO x ru [])
 |[],_=>Ko _ _
 |y::ru,hs=>by
  rw[Nu,ZZ]at hs;obtain⟨s1,-,s3⟩:=hs;unfold RO;by_cases h:x.id<y.id
  ·rw[if_pos h,Hw,ZZ];refine⟨Iy ru s1,Ko _ _,fun a ha b hb=> ?_⟩;rw[zX]at hb;subst hb;rcases(OQ ru []).1 ha with rfl|ha|ha
   ·omega
   ·exact s3 a (List.mem_reverse.2 ha) _ (List.mem_singleton.2 rfl)
   ·cases ha
  ·rw[if_neg h,Nu,ZZ,ZZ];refine⟨⟨s1,Ko _ _,s3⟩,Ko _ _,fun a ha b hb=> ?_⟩;rw[zX]at hb;subst hb;rw[zN,zX]at ha;rcases ha with ha|rfl
   ·have:=s3 a ha y (List.mem_singleton.2 rfl);omega
   ·omega
theorem Aw(h:i<l.length):l.take i++l.getD i yW::l.drop (i+1)=l:=by have h1:=yE i l;rw[qS h]at h1;rw[jU,jO h];exact h1
theorem SE{ps:List xD}(id:Int):∀i,i<=ps.length->(VM ps i).find? (fun b=>b.id==id)=ps.find? (fun b=>b.id==id)
 |0,_=>rfl
 |i+1,h=>by have hl:=Yc ps i (by omega);rw[<-SE (ps:=ps) id i (by omega)];show(Mp (VM ps i) i).find? _=_;unfold Mp;rw[RP,List.reverse_reverse,Aw (by omega)]
theorem Ld{ps:List xD}:∀i,i<=ps.length->List.Pairwise (fun a b:xD=>a.id<=b.id) ((VM ps i).take i)
 |0,_=>by rw[qA];exact List.Pairwise.nil
 |i+1,h=>by have hl:=Yc ps i (by omega);rw[VM];unfold Mp;rw[Hw,List.take_append_of_le_length (by rw[Hx,Kl,zV,xH];omega),xP (by rw[Hx,Kl,zV,xH];omega)];refine Iy _ ?_;rw[List.reverse_reverse];exact Ld i (by omega)
def j1W(l:List xD):Nat->List xD
 |0=>[]
 |i+1=>if 0<i/\(l.getD (i-1) yW).id=(l.getD i yW).id then j1W l i else j1W l i++[l.getD i yW]
theorem PG(l:List xD):∀i,AK l i=(j1W l i).flatMap Yz
 |0=>rfl
 |i+1=>by
  unfold AK j1W;by_cases h:0<i/\(l.getD (i-1) yW).id=(l.getD i yW).id
  ·rw[if_pos h,if_pos h,PG l i]
  ·rw[if_neg h,if_neg h,PG l i,Xu,QH,List.flatMap_nil,kH]
theorem Fq(h:i<l.length):l.take (i+1)=l.take i++[l.getD i yW]:=by rw[qV,jO h,jU,jO h];rfl
theorem dV{l:List xD}(hs:List.Pairwise (fun a b:xD=>a.id<=b.id) l):∀i,i<=l.length->
 List.Pairwise (fun a b:xD=>a.id<b.id) (j1W l i)/\(∀z∈j1W l i,z∈l.take i/\l.find? (fun b=>b.id==z.id)=some z)/\(∀y∈l.take i,∃z∈j1W l i,z.id=y.id)
 |0,_=>⟨List.Pairwise.nil,fun z (hz:z∈[])=>absurd hz Bp,fun y hy=>by rw[qA]at hy;cases hy⟩
 |i+1,h=>by
  obtain⟨p1,p2,p3⟩:=dV hs i (by omega);have hT:=Fq (l:=l) (i:=i) (by omega);have hle:∀y∈l.take i,y.id<=(l.getD i yW).id:=by have:=hs;rw[<-Aw (l:=l) (i:=i) (by omega),ZZ]at this;exact fun y hy=>this.2.2 y hy _ (Ig ..)
  unfold j1W;by_cases hc:0<i/\(l.getD (i-1) yW).id=(l.getD i yW).id
  ·rw[if_pos hc];refine⟨p1,fun z hz=>⟨by rw[hT,zN];exact .inl (p2 z hz).1,(p2 z hz).2⟩,fun y hy=> ?_⟩;rw[hT,zN,zX]at hy;rcases hy with hy|rfl
   ·exact p3 y hy
   ·obtain⟨z,hz,he⟩:=p3 (l.getD (i-1) yW) (by
     obtain⟨j,rfl⟩:∃j,i=j+1:=⟨i-1,by omega⟩
     rw[Fq (by omega),Ih]
     exact fW _ (List.mem_singleton.2 rfl))
    exact⟨z,hz,he.trans hc.2⟩
  ·rw[if_neg hc]
   have hlt:∀y∈l.take i,y.id<(l.getD i yW).id:=fun y hy=>by
    have hi:0<i:=by
     rcases j3I i with rfl|h0
     ·rw[qA]at hy;cases hy
     ·exact h0
    obtain⟨j,rfl⟩:∃j,i=j+1:=⟨i-1,by omega⟩;have hne:¬(l.getD j yW).id=(l.getD (j+1) yW).id:=fun hh=>hc ⟨hi,by rw[Ih];exact hh⟩;have hj:=Fq (l:=l) (i:=j) (by omega);have h1:=hle (l.getD j yW) (by rw[hj];exact fW _ (List.mem_singleton.2 rfl));have h2:y.id<=(l.getD j yW).id:=by
     rw[hj,zN,zX]at hy;rcases hy with hy|rfl
     ·have:=hs;rw[<-Aw (l:=l) (i:=j) (by omega),ZZ]at this;exact this.2.2 y hy _ (Ig ..)
     ·exact Zy _
    omega
   refine⟨?_,?_,?_⟩
   ·rw[ZZ];refine⟨p1,Ko _ _,fun a ha b hb=> ?_⟩;rw[zX]at hb;subst hb;exact hlt a (p2 a ha).1
   ·intro z hz;rw[zN,zX]at hz;rcases hz with hz|rfl
    ·exact⟨by rw[hT,zN];exact .inl (p2 z hz).1,(p2 z hz).2⟩
    ·refine⟨by rw[hT];exact fW _ (List.mem_singleton.2 rfl),?_⟩;obtain⟨x,hx⟩:∃x,x=l.getD i yW:=⟨_,rfl⟩;have hm:=Aw (l:=l) (i:=i) (by omega);rw[<-hx]at hm hlt ⊢;rw[<-hm,List.find?_append,List.find?_eq_none.2 (fun y hy=>by have:=hlt y hy;simp only[beq_iff_eq];omega),Gp,show(x.id==x.id)=true from beq_self_eq_true _];rfl
   ·intro y hy;rw[hT,zN,zX]at hy;rcases hy with hy|rfl
    ·obtain⟨z,hz,he⟩:=p3 y hy;exact⟨z,List.mem_append_left _ hz,he⟩
    ·exact⟨_,fW _ (List.mem_singleton.2 rfl),rfl⟩
def j6L(ps:List xD):List xD:=j1W (aI ps) ps.length
theorem j1z(m:zU):MP m=(j6L m.pools).flatMap Yz:=PG _ _
theorem j1V(ps:List xD):List.Pairwise (fun a b:xD=>a.id<b.id) (j6L ps)/\(∀z∈j6L ps,z∈ps/\ps.find? (fun b=>b.id==z.id)=some z)/\(∀y∈ps,∃z∈j6L ps,z.id=y.id):=by have hs:=Ld (ps:=ps) ps.length (jM _);rw[xP (by rw[Yc _ _ (jM _)];omega)]at hs;obtain⟨p1,p2,p3⟩:=dV hs ps.length (by rw[Yc _ _ (jM _)];omega);rw[xP (by rw[Yc _ _ (jM _)];omega)]at p2 p3;refine⟨p1,fun z hz=>⟨(HC _ (jM _)).1 (p2 z hz).1,?_⟩,fun y hy=>p3 y ((HC _ (jM _)).2 hy)⟩;rw[<-SE z.id ps.length (jM _)];exact(p2 z hz).2
def j4J(done:List Int):List xD->Option Int->Option Int
 |[],acc=>acc
 |p::r,acc=>if done.contains p.id=false/\(∀a,acc=some a->p.id<a)then j4J done r (some p.id)else j4J done r acc
structure Qw(l:List xD):Prop where
 ord:l.Pairwise (fun a b=>a.id<b.id)
 ok:∀p∈l,1<=p.id/\p.id<=4/\1<=p.pgs/\p.pgs<=8
theorem HK:Qw []:=⟨List.Pairwise.nil,fun p hp=>by cases hp⟩
theorem IW{x p:xD}:∀{l:List xD},x∈Xi l p->x=p\/x∈l
 |[],h=> .inl (List.mem_singleton.1 h)
 |q::r,h=>by
  unfold Xi at h;split at h
  ·rcases List.mem_cons.1 h with rfl|h
   ·exact .inr (by simp)
   ·rcases IW h with rfl|h
    ·exact .inl rfl
    ·exact .inr (by simp[h])
  ·split at h
   ·rcases List.mem_cons.1 h with rfl|h
    ·exact .inl rfl
    ·exact .inr (by simp[h])
   ·rcases List.mem_cons.1 h with rfl|h
    ·exact .inl rfl
    ·exact .inr h
theorem eO{p:xD}(hp:1<=p.id/\p.id<=4/\1<=p.pgs/\p.pgs<=8):∀{l:List xD},Qw l->Qw (Xi l p)
 |[],_=>⟨Ko _ _,fun x hx=>by rw[List.mem_singleton.1 hx];exact hp⟩
 |q::r,h=>by
  have hq:=List.pairwise_cons.1 h.ord;have hr:Qw r:=⟨hq.2,fun x hx=>h.ok x (by simp[hx])⟩;refine⟨?_,fun x hx=>by rcases IW hx with rfl|hx;exact hp;exact h.ok x hx⟩;unfold Xi;by_cases h1:q.id<p.id
  ·rw[if_pos h1];refine List.pairwise_cons.2 ⟨fun x hx=> ?_,(eO hp hr).ord⟩;rcases IW hx with rfl|hx
   ·exact h1
   ·exact hq.1 x hx
  ·rw[if_neg h1];by_cases h2:q.id=p.id
   ·rw[if_pos h2];exact List.pairwise_cons.2 ⟨fun x hx=>by have:=hq.1 x hx;omega,hq.2⟩
   ·rw[if_neg h2]
    exact List.pairwise_cons.2 ⟨fun x hx=>by
     rcases List.mem_cons.1 hx with rfl|hx
     ·omega
     ·have:=hq.1 x hx;omega,h.ord⟩
theorem uI{c:Yn}(h:Qw m.pools)(h0:xV m c=0):Qw (kI m c).pools:=by
 unfold kI;by_cases k5:c.kind=5
 ·rw[if_pos k5];have hno:¬Xx c.kind:=by rw[k5];decide
  unfold xV at h0;rw[if_neg hno,if_pos k5]at h0;unfold vH at h0;by_cases hb:JC c.pool
  ·rw[if_pos hb]at h0;cases h0
  ·refine eO ?_ h;unfold JC at hb;simp at hb;omega
 ·rw[if_neg k5];split
  ·exact h
  ·split
   ·exact h
   ·exact h
theorem Iv:∀{l:List Yn} {m:zU},Qw m.pools->Qw (Jh m l).1.pools
 |[],m,h=>h
 |c::r,m,h=>by
  unfold Jh;by_cases h0:xV m c=0
  ·rw[if_pos h0];exact Iv (uI h h0)
  ·rw[if_neg h0];exact HK
theorem Bz{x:Xt}(h:Qw m.pools):Qw (vU m x).1.pools:=by
 unfold vU;split
 ·exact HK
 ·split
  ·exact Iv h
  ·exact HK
theorem Fm:∀{l:List Xt} {m:zU},Qw m.pools->Qw (Ql m l).pools
 |[],m,h=>h
 |x::r,m,h=>by
  unfold Ql;split
  ·exact Fm h
  ·split
   ·exact Fm (Bz h)
   ·exact h
theorem dG:∀{l:List xD} {a:Int},l.Pairwise (fun a b=>a.id<b.id)->(∀p∈l,a<p.id/\p.id<=4)->a<=4->(l.length:Int)<=4-a
 |[],a,_,_,ha=>by simp;omega
 |q::r,a,h,hk,ha=>by have hq:=List.pairwise_cons.1 h;have h1:=hk q (by simp);have:=dG (l:=r) (a:=q.id) hq.2 (fun p hp=>⟨hq.1 p hp,(hk p (by simp[hp])).2⟩) h1.2;rw[xA];omega
theorem Qw.len(h:Qw l):l.length<=4:=by have:=dG (a:=0) h.ord (fun p hp=>⟨by have:=(h.ok p hp).1;omega,(h.ok p hp).2.1⟩) (by omega);omega
variable{g:MF}
theorem NX{x:xD}:g∈Yz x↔g.pool=x.id/\0<=g.seed/\g.seed<x.pgs/\g.seed<8:=by
 unfold Yz;rw[XJ];constructor
 ·rintro⟨s,hs,rfl⟩;rw[yB]at hs;refine⟨rfl,by show(0:Int)<=(s:Int);omega,?_,?_⟩
  ·show(s:Int)<_;split at hs<;>omega
  ·show(s:Int)<_;split at hs<;>omega
 ·rintro⟨h1,h2,h3,h4⟩;obtain⟨s,hs⟩:=Rn h2;refine⟨s,?_,?_⟩
  ·rw[yB];split<;>omega
  ·obtain⟨a,b⟩:=g;simp only at h1 hs ⊢;rw[h1,hs]
def DK(m:zU)(g:MF):Bool:=match JG m g.pool with
 |none=>false
 |some p=>decide (0<=g.seed/\g.seed<p.pgs/\g.seed<8)
theorem SP:g∈MP m↔DK m g=true:=by
 rw[j1z,List.mem_flatMap];obtain⟨p1,p2,p3⟩:=j1V m.pools;unfold DK;constructor
 ·rintro⟨z,hz,hg⟩;obtain⟨h1,h2⟩:=NX.1 hg;have hf:JG m g.pool=some z:=by unfold JG;rw[h1];exact(p2 z hz).2
  rw[hf];simp only[decide_eq_true_eq];exact h2
 ·intro h;cases hf:JG m g.pool with
  |none=>rw[hf]at h;cases h
  |some p=>
   rw[hf]at h;simp only[decide_eq_true_eq]at h;have hm:p∈m.pools:=ZG hf;have hid:p.id=g.pool:=by have:=List.find?_some hf;exact eq_of_beq this
   obtain⟨z,hz,he⟩:=p3 p hm;have h2:=(p2 z hz).2;rw[he,hid]at h2;have h3:m.pools.find? (fun b=>b.id==g.pool)=some p:=hf;rw[h3]at h2;obtain rfl:=jS h2;exact⟨p,hz,NX.2 ⟨hid.symm,h⟩⟩
def US(s:Zg):Bool:=s.now.isSome||s.ans.isSome
def Dy(s:Zg)(x:VH):Zg:=⟨s.m,s.num+1,some x,s.ans⟩
def Cz(pool:Int)(o:MK):VH:=⟨false,pool,⟨0,0⟩,o,0⟩
def Cy(pg:MF):VH:=⟨true,0,pg,⟨5,⟨#[]⟩,[],0,0⟩,0⟩
def Qe(s:Zg)(pool:Int)(o:MK):Int:=
 if US s=true then 11 else if ¬(1<=o.k/\o.k<=4)then 22 else if Ke o.s.data.toList=false then 36 else if 4096<o.d.length then 27 else if(JG s.m pool).isSome=false then 2 else 0
def VI(s:Zg)(pool:Int)(o:MK):Zg:=if Qe s pool o=0 then Dy s (Cz pool o)else s
def Uw(c:vM)(s:Zg)(pool:Int)(o:MK):List Nv:=if Qe s pool o=0 then Zc c s.m (s.num+1) (Cz pool o)else[]
def VR(s:Zg)(pg:MF):Int:=if US s=true then 11 else if DK s.m pg=true then 0 else 2
def AX(s:Zg)(pg:MF):Zg:=if VR s pg=0 then Dy s (Cy pg)else s
def AY(c:vM)(s:Zg)(pg:MF):List Nv:=if VR s pg=0 then Zc c s.m (s.num+1) (Cy pg)else[]
variable{vd:AV}
theorem dJ{ans:AV}(z:XZ q p G H c s vo vp vb now ans)(hx:s.now=none)(hmo:oO s.m)(hno:Wl x)(hn:0<=s.num/\s.num<=1000000000)(hpq:p≠q)
 (cp:H.at p=some (MI x vd 0)) (hd:zJ xZ (Gq G q p) H vd x.op.d):
 vR 36 [.ptr q 0,.ptr p 0] H fun r h'=>K2 q p H h'/\j0Z q p G h' c (Dy s x)/\zJ Hm (fun b=>H.n<=b) h' r (Zc c s.m (s.num+1) x):=by
 refine zW Tryz.func36 rfl rfl ?_
 have hnow:=z.now
 rw[hx]at hnow
 obtain rfl:now= .lit (.pointer none):=hnow
 have h1:=z.cq
 have h2:=cp
 unfold XN at h1
 unfold MI at h2
 have l:=jR h1
 simp only[jN,seval,Tryz.ntmps36]
 obtain⟨hA,hhA⟩:∃hA,hA=H.put q (XN c s.m vo vp vb (s.num+1) (.lit (.pointer none)) ans):=⟨_,rfl⟩
 have hw:IntKind.i64.wrap (s.num+1)=s.num+1:=vW (by omega) (by omega)
 refine j61 (b:=q) (off:=10) (x:=s.num) (y:=1) (by unfold KL;rw[h1]) rfl rfl ?_
 rw[hw]
 have YA:=Jj hhA l
 have PA:=Qx hhA (Ne.symm hpq) cp
 have hhA':=hhA
 unfold XN at hhA' YA
 unfold MI at PA
 have lPA:=jR PA
 obtain⟨hB,hhB⟩:∃hB,hB=hA.put p (MI x vd (s.num+1)):=⟨_,rfl⟩
 have YB:hB.at q=_:=(hhB▸zE _ hpq).trans YA
 have lYB:=jR YB
 obtain⟨hC,hhC⟩:∃hC,hC=hB.put q (XN c s.m vo vp vb (s.num+1) (.ptr p 0) ans):=⟨_,rfl⟩
 have hhB':=hhB
 have hhC':=hhC
 unfold MI at hhB'
 unfold XN at hhC'
 simp only[jN,seval,<-hhA',PA,<-hhB',YB,<-hhC']
 have PB:=Jj hhB lPA
 have PC:hC.at p=some (MI x vd (s.num+1)):=(hhC▸zE _ (Ne.symm hpq)).trans PB
 have YC:=Jj hhC lYB
 have kC:K2 q p H hC:=hhC▸(hhB▸(hhA▸K2.refl.putq _).putp _).putq _
 have hlf:∀b,Gq G q p b->b<H.n->hC.at b=H.at b/\Gq G q p b:=fun b hb hlt=>⟨kC.2 b hlt hb.2.1 hb.2.2,hb⟩
 have zC:XZ q p G hC c (Dy s x) vo vp vb (.ptr p 0) ans:=⟨YC,z.m.lift hlf,⟨rfl,hpq,vd,PC,hd.lift hlf⟩,z.ans.lift hlf⟩
 have nC:=kC.1
 refine(PS zC rfl hmo hno).mono ?_
 rintro v4 h4 ⟨e4,hs4⟩
 simp only[jN,seval]
 exact⟨kC.trans (.ext e4),⟨_,_,_,_,_,zC.ext e4⟩,hs4.lift fun b hb _=>⟨rfl,by omega⟩⟩
theorem tJ{ans:AV}(z:XZ q p G H c s vo vp vb now ans)(hb:0<c.boot):vR 33 [.ptr q 0] H fun r h'=>r= .lit (.int .i64 (if US s=true then 11 else 0))/\h'=H:=by
 refine zW Tryz.func33 rfl rfl ?_;simp only[jN,seval,Tryz.ntmps33];refine(Vd z.cq hb).mono ?_;rintro _ _ ⟨rfl,q5⟩;replace q5:=q5.symm;subst q5;have hpn:yS Tryz.prog (binOp .neq 80 (.pointer none) (.pointer none))=some (.ok (.bool false)):=by kernel_rfl
 have hpa:yS Tryz.prog (binOp .neq 81 (.pointer none) (.pointer none))=some (.ok (.bool false)):=by kernel_rfl
 have h1:=z.cq;unfold XN at h1;have L:=xI h1;have hnow:=z.now;have hans:=z.ans;unfold US;cases hx:s.now with
 |some x=>
  rw[hx]at hnow;obtain⟨rfl,-⟩:=hnow;have e1:(some x:Option VH).isSome=true:=rfl;rw[e1,Bool.true_or,if_pos rfl];simp only[jN,seval,L]
 |none=>
  rw[hx]at hnow
  obtain rfl:now= .lit (.pointer none):=hnow
  have e1:(none:Option VH).isSome=false:=rfl
  rw[e1,Bool.false_or]
  cases hy:s.ans with
  |some a=>
   rw[hy]at hans;obtain⟨b,vd,vl,rfl,-⟩:=hans;have e2:(some a:Option Rj).isSome=true:=rfl;rw[e2,if_pos rfl];simp only[jN,seval,L,Dw,hpn]
  |none=>
   rw[hy]at hans;obtain rfl:ans= .lit (.pointer none):=hans;have e2:(none:Option Rj).isSome=false:=rfl;rw[e2,if_neg (by decide)];simp only[jN,seval,L,Dw,hpn,hpa]
def j0G(q p:Nat)(G:Nat->Prop)(H h:AH)(c:vM)(s:Zg):Prop:=∃p',K2 q p' H h/\(p'=p\/H.n<=p')/\(p<H.n->p'<h.n)/\j0Z q p' (fun b=>G b\/H.n<=b) h c s
theorem XZ.wide{G':Nat->Prop}(z:XZ q p G H c s vo vp vb now ans)(e:zM H.n H h)(hG:∀b,G b->G' b):XZ q p G' h c s vo vp vb now ans:=by have z1:=z.ext e;have hl:∀b,Gq G q p b->b<h.n->h.at b=h.at b/\Gq G' q p b:=fun b hb _=>⟨rfl,hG b hb.1,hb.2⟩;exact⟨z1.cq,z1.m.lift hl,z1.now.lift hl fun _ _=>rfl,z1.ans.lift hl⟩
theorem j0G.stay{ans:AV}(z:XZ q p G H c s vo vp vb now ans)(e:zM H.n H h):j0G q p G H h c s:=
 ⟨p,.ext e,.inl rfl,fun hh=>zS hh e.1,_,_,_,_,_,z.wide e fun b hb=> .inl hb⟩
variable{o:MK}
theorem FB(h:US s=true):Qe s pool o=11:=by unfold Qe;rw[if_pos h]
theorem Zu{e:Int}(he:Qe s pool o=e)(h0:¬e=0):VI s pool o=s/\Uw c s pool o=[]:=by unfold VI Uw;rw[he,if_neg h0,if_neg h0];exact⟨rfl,rfl⟩
theorem RL(he:Qe s pool o=0):VI s pool o=Dy s (Cz pool o)/\Uw c s pool o=Zc c s.m (s.num+1) (Cz pool o):=by unfold VI Uw;rw[he,if_pos rfl,if_pos rfl];exact⟨rfl,rfl⟩
theorem Hy(h:US s=false):s.now=none/\s.ans=none:=by unfold US at h;rw[Bool.or_eq_false_iff]at h;exact⟨by simpa using h.1,by simpa using h.2⟩
theorem j0P{ans:AV}(pool:Int)(o:MK)(z:XZ q p G H c s vo vp vb now ans)(hb:0<c.boot)(hmo:oO s.m)(hn:0<=s.num/\s.num<=1000000000)
 (hd:zJ xZ F H vd o.d) (hs:o.s.size<=140737488351232):
 vR 13 [.ptr q 0,.lit (.int .i64 pool),.agg (Fb o vd)] H fun r h'=>j0G q p G H h' c (VI s pool o)/\∃rv,r= .tup [rv,.lit (.int .i64 (Qe s pool o))]/\zJ Hm (fun b=>H.n<=b) h' rv (Uw c s pool o):=by
 refine zW Tryz.func13 rfl rfl ?_
 have v1:=hd.one
 obtain⟨hA,hhA,eA,XA⟩:=xX H (.cells (Fb o vd) 41)
 have lq:=z.lt
 have zA:=z.ext eA
 have dA:=hd.ext eA (jM _)
 unfold Fb at XA hhA
 unfold Fb
 have LXA:=xI XA
 have lXA:=jR XA
 simp only[jN,seval,Tryz.ntmps13,v1,<-hhA]
 refine(tJ zA hb).mono ?_
 rintro _ _ ⟨rfl,q5⟩
 replace q5:=q5.symm
 subst q5
 have e00:((0:Int)!=0)=false:=rfl
 have e11:((11:Int)!=0)=true:=rfl
 cases hbu:US s with
 |true=>
  have he:=FB (pool:=pool) (o:=o) hbu;obtain⟨r1,r2⟩:=Zu (c:=c) he (by decide);rw[he,r1,r2,if_pos rfl];simp only[jN,seval,e11];exact⟨.stay z eA,_,rfl,.nil⟩
 |false=>
 rw[if_neg (by decide)]
 obtain⟨hn0,ha0⟩:=Hy hbu
 have Y:=zA.cq
 unfold XN at Y
 have L:=xI Y
 have key:((o.k==1)=true)\/((o.k==1)=false/\(o.k==2)=true)\/((o.k==1)=false/\(o.k==2)=false/\(o.k==3)=true)\/((o.k==1)=false/\(o.k==2)=false/\(o.k==3)=false/\(o.k==4)=true)\/((o.k==1)=false/\(o.k==2)=false/\(o.k==3)=false/\(o.k==4)=false):=by cases(o.k==1)<;>cases(o.k==2)<;>cases(o.k==3)<;>cases(o.k==4)<;>simp
 have keyE:Qe s pool o=if ¬(1<=o.k/\o.k<=4)then 22 else if Ke o.s.data.toList=false then 36 else if 4096<o.d.length then 27 else if(JG s.m pool).isSome=false then 2 else 0:=by unfold Qe;rw[hbu,if_neg (by decide)]
 rcases key with k1|⟨k1,k2⟩|⟨k1,k2,k3⟩|⟨k1,k2,k3,k4⟩|⟨k1,k2,k3,k4⟩
 rotate_right
 ·have he:Qe s pool o=22:=by
   rw[keyE,if_pos]
   simp only[beq_eq_false_iff_ne]at k1 k2 k3 k4
   omega
  obtain⟨r1,r2⟩:=Zu (c:=c) he (by decide)
  rw[he,r1,r2]
  simp only[jN,seval,LXA,k1,k2,k3,k4,e00]
  exact⟨.stay z eA,_,rfl,.nil⟩
 all_goals
  have hkk:1<=o.k/\o.k<=4:=by simp only[beq_iff_eq]at *;omega
  rw[if_neg (fun hh=>hh hkk)]at keyE
  try simp only[jN,seval,LXA,L,k1,e00]
  try simp only[jN,seval,k2]
  try simp only[jN,seval,k3]
  try simp only[jN,seval,k4]
  refine(bE pool zA.m hmo.ok.2.1.1).mono ?_
  rintro _ h2 ⟨e2,rfl⟩
  unfold Zz
  obtain⟨h3,hh3⟩:∃h3,h3=h2.push (.cells [.lit (.int .i64 (vV s.m pool).id),.lit (.int .i64 (vV s.m pool).size),.lit (.int .i64 (vV s.m pool).min),.lit (.int .i64 (vV s.m pool).pgs)] 108):=⟨_,rfl⟩
  have e3:=ZS hh3
  have E3a:=e2.trans (e3.mono e2.1)
  have E3:=eA.trans (E3a.mono eA.1)
  have X3:=(E3a.2 _ lXA).trans XA
  have LX3:=xI X3
  have lX3:=jR X3
  simp only[jN,seval,<-hh3,LX3]
  refine aA hs ?_
  cases hg:Ke o.s.data.toList
  ·rw[if_pos hg]at keyE;obtain⟨r1,r2⟩:=Zu (c:=c) keyE (by decide);rw[keyE,r1,r2];simp only[jN,seval];exact⟨.stay z E3,_,rfl,.nil⟩
  rw[if_neg (by rw[hg];decide)]at keyE
  have d3:=dA.ext E3a (jM _)
  have u1:=d3.isSl
  have u2:=d3.lenD
  have u3:=d3.one
  by_cases hdl:4096<o.d.length
  ·rw[if_pos hdl]at keyE;obtain⟨r1,r2⟩:=Zu (c:=c) keyE (by decide);rw[keyE,r1,r2];have hdi:(4096:Int)<(o.d.length:Int):=by omega
   simp only[jN,seval,LX3,u1,u2,hdi];exact⟨.stay z E3,_,rfl,.nil⟩
  rw[if_neg hdl]at keyE
  have hdi:¬(4096:Int)<(o.d.length:Int):=by omega
  cases hps:(JG s.m pool).isSome with
  |false=>
   rw[if_pos hps]at keyE;obtain⟨r1,r2⟩:=Zu (c:=c) keyE (by decide);rw[keyE,r1,r2];simp only[jN,seval,LX3,u1,u2,hdi];exact⟨.stay z E3,_,rfl,.nil⟩
  |true=>
  rw[if_neg (by rw[hps];decide)]at keyE
  obtain⟨r1,r2⟩:=RL (c:=c) keyE
  rw[keyE,r1,r2]
  simp only[jN,seval,LX3,u1,u2,hdi]
  refine qM (LM (n0:=h3.n) .nil d3 (by simp only[xH];omega) (jM _)) ?_
  rintro s4 h4 ⟨ob,e4⟩
  have w1:=ob.one
  have X4:=(e4.2 _ lX3).trans X3
  have lX4:=jR X4
  have E4a:=E3a.trans (e4.mono E3a.1)
  have E4:=eA.trans (E4a.mono eA.1)
  obtain⟨h5,hh5⟩:∃h5,h5=h4.put H.n (.cells (Fb o s4) 41):=⟨_,rfl⟩
  have E5:zM H.n H h5:=hh5▸E4.put _ (jM _)
  have X5:=Jj hh5 lX4
  have n5:h5.n=h4.n:=by rw[hh5,kZ]
  unfold Fb at hh5 X5
  have LX5:=xI X5
  obtain⟨h6,hh6⟩:∃h6,h6=h5.push (MI (Cz pool o) s4 0):=⟨_,rfl⟩
  have e6:=ZS hh6
  have E6:=E5.trans (e6.mono E5.1)
  have P6:=QJ hh6
  have hh6':=hh6
  unfold MI Cz at hh6'
  simp only[]at hh6'
  simp only[jN,seval,X4,w1,<-hh5,LX5,<-hh6']
  have hn5:=E5.1
  have l6:=jR P6
  have z6:XZ q h5.n (fun b=>G b\/H.n<=b) h6 c s vo vp vb now ans:=by have hl:∀b,Gq G q p b->b<H.n->h6.at b=H.at b/\Gq (fun b=>G b\/H.n<=b) q h5.n b:=fun b hb hlt=>⟨E6.2 b hlt,.inl hb.1,hb.2.1,by omega⟩;refine⟨(E6.2 _ lq).trans z.cq,z.m.lift hl,?_,z.ans.lift hl⟩;have:=z.now;rw[hn0]at this ⊢;exact this
  have d6:zJ xZ (Gq (fun b=>G b\/H.n<=b) q h5.n) h6 s4 o.d:=by have:=ob.toSl (F:=fun b=>h3.n<=b) (fun _ hh=>hh.elim) (fun _ hh=>hh);rw[xS]at this;exact this.lift fun b hb hlt=>⟨(e6.2 b (by omega)).trans (hh5▸zE _ (by omega)),.inr (by omega),by omega,by omega⟩
  refine(dJ z6 hn0 hmo (x:=Cz pool o) ⟨hs,by show o.d.length<=4096;omega,(by show false=(o.k==5);rw[eq_comm,beq_eq_false_iff_ne];omega),⟨Zy 0,by show(0:Int)<=_;omega⟩⟩ hn (by omega) P6 d6).mono ?_
  rintro v7 h7 ⟨k7,z7,hs7⟩
  simp only[jN,seval]
  exact⟨⟨h5.n,(K2.ext E6).trans k7,.inr hn5,fun _=>zS l6 k7.1,z7⟩,_,rfl,hs7.lift fun b hb _=>⟨rfl,by omega⟩⟩
def j0Q(u v:AV):Prop:=∀b off n cap,v= .sl b off n cap->qR u b
variable{u:AV}
theorem j0Q.symm(h:j0Q u v):j0Q v u:=fun b off n cap e off' n' cap' e'=>h b off' n' cap' e' off n cap e
theorem j0Q.nil:j0Q u (.lit (.slice none 0 0)):=fun b off n cap e=>by cases e
theorem qE.lt{α:Type}{R:Zl α}{xs:List α}(ho:qE R G n0 h v e xs):∀b off n cap,v= .sl b off n cap->b<h.n:=fun b off n cap ev=>by
 obtain⟨L,h1,h2⟩:=ho;rcases h1.2 with⟨hh,_⟩|⟨p,hh,hp,hat⟩
 ·rw[hh]at ev;cases ev
 ·rw[hh]at ev;cases ev;exact jR hat
theorem qE.keep{α:Type}{R:Zl α}{s s':AV}{xs:List α}(ho:qE R (fun _=>False) n0 h v e xs)(hd:j0Q s v)(k:∀b,b<h.n->qR s b->h'.at b=h.at b/\qR s' b):qE R (fun _=>False) n0 h' v e xs/\j0Q s' v:=
 ⟨ho.lift (fun b off n cap ev=>(k b (ho.lt b off n cap ev) (hd b off n cap ev)).1) (fun b hf=>hf.elim),fun b off n cap ev=>(k b (ho.lt b off n cap ev) (hd b off n cap ev)).2⟩
def oM(n0 p:Nat)(h:AH)(d:AV)(xs:List Int):Prop:=qE qB (fun _=>False) n0 h d 3 xs\/(xs=[]/\d= .sl p 0 0 (.kn 0)/\h.at p=some (.cells [] 3))
variable{xs:List Int}{d:AV}
theorem oM.ext{m:Nat}(hd:oM n0 p h d xs)(he:zM m h h')(hm:h.n<=m):oM n0 p h' d xs:=by
 rcases hd with ho|⟨rfl,rfl,hp⟩
 ·exact .inl (ho.ext he hm)
 ·exact .inr ⟨rfl,rfl,(he.2 _ (by have:=jR hp;omega)).trans hp⟩
theorem oM.lt(hd:oM n0 p h d xs):∀b off n cap,d= .sl b off n cap->b<h.n:=fun b off n cap e=>by
 rcases hd with ho|⟨rfl,rfl,hp⟩
 ·exact ho.lt b off n cap e
 ·cases e;exact jR hp
theorem oM.keep{s s':AV}(hv:oM n0 p h v xs)(hd:j0Q s v)(k:∀b,b<h.n->qR s b->h'.at b=h.at b/\qR s' b):oM n0 p h' v xs/\j0Q s' v:=by
 refine⟨?_,fun b off n cap ev=>(k b (hv.lt b off n cap ev) (hd b off n cap ev)).2⟩;rcases hv with ho|⟨rfl,rfl,hp⟩
 ·exact .inl (ho.keep hd k).1
 ·exact .inr ⟨rfl,rfl,(k p (jR hp) (hd _ _ _ _ rfl)).1.trans hp⟩
theorem oM.toSl(hd:oM n0 p h d xs)(h1:∀b,n0<=b->F b)(h2:F p):zJ qB F h d xs:=by
 rcases hd with ho|⟨rfl,rfl,hp⟩
 ·exact ho.toSl (fun _ hf=>hf.elim) h1
 ·exact .mk (L:=[]) ⟨by simp,.inr ⟨p,0,_,[],rfl,by unfold Zj;rw[hp],by simp[cut]⟩⟩ (fun b off n cap e=>by cases e;exact h2) (fun b off n cap e=>by cases e;exact jM 0) .nil
variable{e':TypeId}
theorem oM.snoc{y:Int}(hd:oM n0 p h d xs)(hq:h.at q=some (.cells [.lit (.int .i64 y)] e'))(hy:Zq y)(hn:xs.length<=1000)(hn0:n0<=h.n):
 ∃s' h',vZ (zH Tryz.prog kR) h 120 120 d (.sl q 0 1 cap)=some (s',h')/\qE qB (fun _=>False) n0 h' s' 3 (xs++[y])/\zM n0 h h'/\∀b,b<h.n->qR d b->h'.at b=h.at b/\qR s' b:=by
 rcases hd with ho|⟨rfl,rfl,hp⟩
 ·exact ho.snoc (by kernel_rfl) (by kernel_rfl) (by kernel_rfl) (zv:= .lit (.int .i64 0)) (by kernel_rfl) (by':=8) (by kernel_rfl) rfl (by decide) (by decide) hq (j10.2 ⟨rfl,hy⟩) (by omega) (by omega) hn0
 ·have hg:Zj h q=some [.lit (.int .i64 y)]:=by unfold Zj;rw[hq]
  rcases VZ (T:=zH Tryz.prog kR) (h:=h) (t:=120) (tx:=120) (e:=3) (z:=1) (by':=8) (zv:= .lit (.int .i64 0)) (M:=[[.lit (.int .i64 y)]]) (p:=p) (x:= .sl q 0 1 cap) (by kernel_rfl) (by kernel_rfl) (by kernel_rfl) (by kernel_rfl) (by kernel_rfl) rfl (by decide) (by decide) hp
   (by simp[Dk,hg,cut]) rfl (by simp) rfl (by simp) (by simp)with⟨hM,ha⟩|⟨hM,ha⟩
  ·cases hM
  ·refine⟨_,_,ha,qE.ofInts (xs:=[y]) hn0 (zI _ _) (fun x hx=>by rw[zX]at hx;subst hx;exact hy),(zM.refl _ _).push _ hn0,fun b hb _=>⟨xE _ hb,fun off n cap e=>by cases e;omega⟩⟩
section
def Ci(e:Int):Rj:=⟨e,⟨#[]⟩,0,0,[],[]⟩
def MV(s:Zg)(a:Rj):Zg:=⟨s.m,s.num,none,some a⟩
def Bg(s:Zg):Zg:=⟨s.m,s.num,s.now,none⟩
def Ki(x:VH):VH:=⟨x.list,x.pool,x.pg,x.op,x.tries+1⟩
def KS(c:vM)(s:Zg):Zg:=match s.now with
 |none=>s
 |some x=>if c.tries<x.tries+1 then MV s (Ci 110)else⟨s.m,s.num,some (Ki x),s.ans⟩
def KT(c:vM)(N:Nat)(s:Zg):List Nv:=match s.now with
 |none=>XW c s.m.epoch N
 |some x=>if c.tries<x.tries+1 then XW c s.m.epoch N else XW c s.m.epoch N++Zc c s.m s.num (Ki x)
section
variable {q p:Nat} {G:Nat->Prop} {H:AH} {c:vM} {s:Zg} {vo vp vb now ans:AV}
theorem j4i(z:XZ q p G H c s vo vp vb now ans)(hb:0<c.boot):vR 8 [.ptr q 0] H fun r h'=>r= .lit (.bool s.now.isSome)/\h'=H:=by
 refine zW Tryz.func8 rfl rfl ?_;simp only[jN,jB,jC,jE,reduceCtorEq,Tryz.ntmps8];refine(Vd z.cq hb).mono ?_;rintro _ _ ⟨rfl,q5⟩;replace q5:=q5.symm;subst q5;have hpn:yS Tryz.prog (binOp .neq 80 (.pointer none) (.pointer none))=some (.ok (.bool false)):=by kernel_rfl
 have h1:=z.cq;unfold XN at h1;have L:=xI h1;have hnow:=z.now;cases hx:s.now with
 |some x=>
  rw[hx]at hnow;obtain⟨rfl,-⟩:=hnow;simp only[jN,jB,jE,jF,reduceCtorEq,L];try rfl
 |none=>
  rw[hx]at hnow;obtain rfl:now= .lit (.pointer none):=hnow;simp only[jN,jB,jE,jF,reduceCtorEq,L,Dw,hpn];try rfl
theorem j1N(z:XZ q p G H c s vo vp vb now ans)(hb:0<c.boot):vR 9 [.ptr q 0] H fun r h'=>r= .lit (.int .i64 s.m.epoch)/\h'=H:=by refine zW Tryz.func9 rfl rfl ?_;have h1:=z.cq;unfold XN at h1;have L:=xI h1;simp only[jN,jB,jC,jE,reduceCtorEq,Tryz.ntmps9];refine(Vd z.cq hb).mono ?_;rintro _ _ ⟨rfl,q5⟩;replace q5:=q5.symm;subst q5;simp only[jN,jB,jE,reduceCtorEq,L];try exact⟨rfl,rfl⟩
theorem j6s(z:XZ q p G H c s vo vp vb now ans)(hb:0<c.boot)(hok:Ds s.m)(hlb:s.m.buckets.length<=1000000000):
 vR 11 [.ptr q 0] H fun r h'=>zM H.n H h'/\∃ro rp rb,r=vS s.m ro rp rb/\vG (fun k=>H.n<=k) h' s.m ro rp rb:=by
 refine zW Tryz.func11 rfl rfl ?_
 obtain⟨hA,hhA,eA,XA⟩:=xX H (.cells [.lit (.int .i64 0),.lit (.slice none 0 0),.lit (.slice none 0 0),.lit (.slice none 0 0),.lit (.int .i64 0)] 66)
 have zA:=z.ext eA
 simp only[jN,jB,jC,jE,reduceCtorEq,Tryz.ntmps11,<-hhA]
 refine(Vd zA.cq hb).mono ?_
 rintro _ _ ⟨rfl,q5⟩
 replace q5:=q5.symm
 subst q5
 have h1:=zA.cq
 unfold XN at h1
 have L:=xI h1
 simp only[jN,jB,jE,jF,reduceCtorEq,jG,L]
 refine(dQ zA.m hok hlb).mono ?_
 rintro _ hB ⟨eB,ro,rp,rb,rfl,hown⟩
 have XB:=(eB.2 _ (jR XA)).trans XA
 have nA:hA.n=H.n+1:=by rw[hhA,zF]
 have own:=(hown H.n (by omega)).putLt (p:=H.n) (x:= .cells [.lit (.int .i64 s.m.epoch),ro,rp,rb,.lit (.int .i64 s.m.leaf)] 66) (by omega)
 have hO:=own.at (F:=fun k=>H.n<=k) fun k hk=>zY eA.1 hk
 have w1:=hO.o.one
 have w2:=hO.p.one
 have w3:=hO.b.one
 have lB:=jR XB
 have E2:=eA.trans (eB.mono eA.1)
 unfold vS
 simp only[jN,jB,jE,jF,reduceCtorEq,jG,XB,lB,w1,w2,w3]
 exact⟨E2.put _ (jM _),_,_,_,rfl,hO⟩
theorem dS(x:Rj){vd vl:AV}(z:XZ q p G H c s vo vp vb now ans)(hd:zJ xZ (Gq G q p) H vd x.d)(hl:zJ JX (Gq G q p) H vl x.l):
 vR 39 [.ptr q 0,.agg (YS x vd vl)] H fun r h'=>Kq q H h'/\(p<H.n->j0Z q p (fun b=>G b\/H.n<=b) h' c (MV s x)):=by
 refine zW Tryz.func39 rfl rfl ?_
 obtain⟨hA,hhA,eA,XA⟩:=xX H (.cells (YS x vd vl) 90)
 have YA:=(eA.2 _ z.lt).trans z.cq
 have lq:=z.lt
 have o1:=hd.one
 have o2:=hl.one
 unfold YS at hhA
 unfold XN at YA
 have lY:=jR YA
 unfold YS
 simp only[jN,jB,jC,jF,reduceCtorEq,jG,Tryz.ntmps39,o1,o2,<-hhA,YA,lY]
 have kA:Kq q H hA:= .ext eA
 refine⟨.inl trivial,?_⟩
 obtain⟨h2,hh2⟩:∃h2,h2=(hA.put q (.cells [.lit (.int .i64 c.k),.lit (.int .i64 c.i),.lit (.int .i64 c.boot),.lit (.int .i64 c.mons),.lit (.int .i64 c.tries),.lit (.int .i64 s.m.epoch),vo,vp,vb,.lit (.int .i64 s.m.leaf),.lit (.int .i64 s.num),.lit (.pointer none),ans] 83)).put q (XN c s.m vo vp vb s.num (.lit (.pointer none)) (.ptr H.n 0)):=⟨_,rfl⟩
 have k2:Kq q H h2:=hh2▸(kA.put _).put _
 have Y2:h2.at q=some (XN c s.m vo vp vb s.num (.lit (.pointer none)) (.ptr H.n 0)):=hh2▸qJ _ (by rw[kZ];exact lY)
 have X2:h2.at H.n=some (.cells (YS x vd vl) 90):=by rw[hh2,zE _ (by omega),zE _ (by omega)];exact XA
 unfold XN at hh2
 rw[<-hh2]
 refine⟨k2,fun hp=> ?_⟩
 have hlf:∀b,Gq G q p b->b<H.n->h2.at b=H.at b/\Gq (fun b=>G b\/H.n<=b) q p b:=fun b hb hlt=>⟨k2.2 b hlt hb.2.1,.inl hb.1,hb.2⟩
 exact⟨_,_,_,_,_,Y2,z.m.lift hlf,rfl,H.n,vd,vl,rfl,⟨.inr (jM _),by omega,by omega⟩,X2,hd.lift hlf,hl.lift hlf⟩
theorem gQ(z:XZ q p G H c s vo vp vb now ans)(ha:s.ans=none)(hb:0<c.boot):vR 17 [.ptr q 0] H fun r h'=>zM H.n H h'/\r= .tup [.agg (YS (Ci 0) (.lit (.slice none 0 0)) (.lit (.slice none 0 0))),.lit (.bool false)]:=by
 refine zW Tryz.func17 rfl rfl ?_;obtain⟨hA,hhA,eA,XA⟩:=xX H (.cells (YS (Ci 0) (.lit (.slice none 0 0)) (.lit (.slice none 0 0))) 90);have hans:=z.ans;rw[ha]at hans;obtain rfl:ans= .lit (.pointer none):=hans;have YA:=(eA.2 _ z.lt).trans z.cq;unfold YS Ci at hhA XA;simp only[]at hhA XA;simp only[jN,jB,jC,jE,reduceCtorEq,Tryz.ntmps17,<-hhA];refine(Vd YA hb).mono ?_;rintro _ _ ⟨rfl,q5⟩;replace q5:=q5.symm;subst q5;have hpa:yS Tryz.prog (binOp .eql 81 (.pointer none) (.pointer none))=some (.ok (.bool true)):=by kernel_rfl
 unfold XN at YA;have L:=xI YA;have lX:=jR XA;simp only[jN,jB,jE,jF,reduceCtorEq,jG,L,WD,hpa,XA,lX];exact⟨eA.put _ (jM _),rfl⟩
theorem WF(x:Rj)(z:XZ q p G H c s vo vp vb now ans)(ha:s.ans=some x)(hb:0<c.boot):
 vR 17 [.ptr q 0] H fun r h'=>Kq q H h'/\j0Z q p G h' c (Bg s)/\∃vd vl,r= .tup [.agg (YS x vd vl),.lit (.bool true)]/\zJ xZ (Gq G q p) h' vd x.d/\zJ JX (Gq G q p) h' vl x.l:=by
 refine zW Tryz.func17 rfl rfl ?_
 have hans:=z.ans
 rw[ha]at hans
 obtain⟨a,vd,vl,rfl,⟨hGa,hqa,hpa⟩,h2,hd,hl⟩:=hans
 have o1:=hd.one
 have o2:=hl.one
 obtain⟨hA,hhA,eA,XA⟩:=xX H (.cells (YS (Ci 0) (.lit (.slice none 0 0)) (.lit (.slice none 0 0))) 90)
 have YA:=(eA.2 _ z.lt).trans z.cq
 have ZA:=(eA.2 _ (jR h2)).trans h2
 unfold YS Ci at hhA XA
 simp only[]at hhA XA
 simp only[jN,jB,jC,jE,reduceCtorEq,Tryz.ntmps17,<-hhA]
 refine(Vd YA hb).mono ?_
 rintro _ _ ⟨rfl,q5⟩
 replace q5:=q5.symm
 subst q5
 unfold XN at YA
 unfold YS at ZA
 have L:=xI YA
 have l:=jR YA
 have lX:=jR XA
 have LZ:=xI ZA
 have lq:=z.lt
 obtain⟨hB,hhB⟩:∃hB,hB=hA.put q (XN c s.m vo vp vb s.num now (.lit (.pointer none))):=⟨_,rfl⟩
 have nB:hB.n=hA.n:=by rw[hhB,kZ]
 have XB:=Qx hhB (by omega) XA
 have YB:=Jj hhB l
 have hhB':=hhB
 unfold XN at hhB'
 obtain⟨hC,hhC⟩:∃hC,hC=hB.push (.cells [.lit (.int .i64 x.e),.lit (.string x.s),.lit (.int .i64 x.v1),.lit (.int .i64 x.v2),vd,vl] 90):=⟨_,rfl⟩
 have eC:=ZS hhC
 have XC:=(eC.2 _ (jR XB)).trans XB
 have YC:=(eC.2 _ (jR YB)).trans YB
 have CC:hC.at hA.n=some (.cells [.lit (.int .i64 x.e),.lit (.string x.s),.lit (.int .i64 x.v1),.lit (.int .i64 x.v2),vd,vl] 90):=by rw[<-nB];exact hhC▸zI _ _
 have LC:=xI CC
 have lXC:=jR XC
 simp only[jN,jB,jE,jF,reduceCtorEq,jG,L,l,YA,XA,lX,LZ,o1,o2,<-hhB',<-hhC,LC,XC,lXC]
 have kC:Kq q H hC:=((Kq.ext eA).trans (hhB▸(Kq.refl q hA).put _)).trans (.ext eC)
 obtain⟨hD,hhD⟩:∃hD,hD=hC.put H.n (.cells [.lit (.int .i64 x.e),.lit (.string x.s),.lit (.int .i64 x.v1),.lit (.int .i64 x.v2),vd,vl] 90):=⟨_,rfl⟩
 rw[<-hhD]
 have kD:Kq q H hD:=⟨by rw[hhD,kZ];exact kC.1,fun b hb hbq=>by rw[hhD,zE _ (by omega)];exact kC.2 b hb hbq⟩
 have YD:hD.at q=some (XN c s.m vo vp vb s.num now (.lit (.pointer none))):=by rw[hhD,zE _ (by omega)];exact YC
 have hlf:∀b,Gq G q p b->b<H.n->hD.at b=H.at b/\Gq G q p b:=fun b hb hlt=>⟨kD.2 b hlt hb.2.1,hb⟩
 refine⟨kD,⟨_,_,_,_,_,YD,z.m.lift hlf,z.now.lift hlf (fun y hy=> ?_),rfl⟩,_,_,rfl,hd.lift hlf,hl.lift hlf⟩
 have:=z.now
 rw[hy]at this
 obtain⟨-,hpq,vd2,h3,-⟩:=this
 exact kD.2 p (jR h3) hpq
theorem oW{N:Nat}(z:XZ q p G H c s vo vp vb now ans)(hb:0<c.boot)(hN:c.mons=(N:Int))(hN5:N<=5):
 vR 16 [.ptr q 0] H fun r h'=>zM H.n H h'/\Db H.n (fun b=>H.n<=b) h' r (XW c s.m.epoch N):=by
 refine zW Tryz.func16 rfl rfl ?_
 simp only[jN,jB,jC,jE,reduceCtorEq,Tryz.ntmps16]
 have h1:=z.cq
 refine(Vd h1 hb).mono ?_
 rintro _ _ ⟨rfl,q5⟩
 replace q5:=q5.symm
 subst q5
 unfold XN at h1
 have L:=xI h1
 simp only[jN,jB,jE,reduceCtorEq,L,hN]
 refine kO N (fun i t h=>zM H.n H h/\∃v,Db H.n (fun b=>H.n<=b) h v (XW c s.m.epoch i)/\t.n=36/\t.get 0= .ptr q 0/\t.get 3=v/\t.get 11= .lit (.int .i64 N)/\t.get 12= .lit (.int .i64 i)) ?_ ?_ _ _ ?_
 ·rintro i t h hlt hc ⟨E,v,ho,ga⟩ ih;have hwi:=xG (n:=N) hlt (by omega);have X1:=(E.2 _ (jR h1)).trans h1;have L1:=xI X1;have l1:=jR X1;simp only[jN,jB,jE,jF,reduceCtorEq,ga,hc];rw[zL [0,1,2,3,4,5,6,7,8,9,10,11,12,13,14,15,16,17,18,19] 1291123092072358859737309758981303490743590252135606772436787957647199966844560840329658776369567539617859453011407929344 (by kernel_rfl)];repeat ((with_reducible refine jX ?_;simp only[vO];try simp only[vP,jB,jD,jH,jI]);simp only[jN,jB,jD,jE,jF,reduceCtorEq,jG,zG,ga,L1,l1])
  have e5:zM h.n h (h.push (.cells (Ri (Nh c s.m.epoch i) (.lit (.slice none 0 0))) 58)):=(zM.refl _ _).push _ (jM _);have E5:=E.step e5
  have hs5:zJ Hm (fun b=>h.n<=b) (h.push (.cells (Ri (Nh c s.m.epoch i) (.lit (.slice none 0 0))) 58)) (.sl h.n 0 1 (.kn 1)) [Nh c s.m.epoch i]:=
   zJ.ofAt (L:=[Ri (Nh c s.m.epoch i) (.lit (.slice none 0 0))]) (zI _ _) (jM _) (YP.nil.snoc (Br.2 ⟨_,rfl,.nil⟩)) rfl
  have hlv:=ho.lt;refine Cf (Ay (ho.ext e5 (jM _)) hs5 (fun b hb=>⟨zY E.1 hb,fun off n cap e=>by have:=hlv _ _ _ _ e;omega⟩) (by rw[Kh];simp;omega) (zY E5.1 (jM _))) ?_;rintro s6 h6 ⟨o6,e6⟩;have u1:=o6.one;have E6:zM H.n H h6:=E5.trans e6;repeat (first|((with_reducible refine jX ?_;simp only[vO];try simp only[vP,jB,jD,jH,jI,jF]);simp only[jN,jB,jF,zG,ga,hwi])|simp only[jN,jB,jC,jD,jE,jF,reduceCtorEq,jG,jJ,jK,jL,zG,ga,u1,hwi])
  refine ih _ _ ⟨E6,s6,by rw[Mw];exact o6,?_⟩;simp only[jN,jE,jF,reduceCtorEq,ga]
 ·rintro t h hc ⟨E,v,ho,ga⟩;simp only[jN,jB,jE,jF,reduceCtorEq,ga,hc];exact⟨E,ho⟩
 ·refine⟨zM.refl _ _,.lit (.slice none 0 0),.nil,?_⟩;simp only[jN,jB,jE,jF,reduceCtorEq];(repeat' apply And.intro)<;>first|rfl|trivial
end
end
theorem Db.lo{xs:List Nv}(ho:Db n0 G h v xs){b off n:Nat}(e:v= .sl b off n cap):n0<=b:=by
 obtain⟨L,h1,h2⟩:=ho;rcases h1.2 with⟨hh,_⟩|⟨p,hh,hp,hat⟩
 ·rw[hh]at e;cases e
 ·rw[hh]at e;cases e;exact hp
theorem j3P{N:Nat}{ans:AV}(z:XZ q p G H c s vo vp vb now ans)(hb:0<c.boot)(hN:c.mons=(N:Int))(hN5:N<=5)(hmo:oO s.m)(hno:∀x,s.now=some x->Wl x/\x.tries<=100000000):
 vR 20 [.ptr q 0] H fun r h'=>j0G q p G H h' c (KS c s)/\zJ Hm (fun b=>H.n<=b) h' r (KT c N s):=by
 refine zW Tryz.func20 rfl rfl ?_
 simp only[jN,seval,Tryz.ntmps20]
 refine(Vd z.cq hb).mono ?_
 rintro _ _ ⟨rfl,q5⟩
 replace q5:=q5.symm
 subst q5
 simp only[jN,seval]
 refine(oW z hb hN hN5).mono ?_
 rintro v1 h1 ⟨e1,ow⟩
 have z1:=z.ext e1
 have Y:=z1.cq
 unfold XN at Y
 have L:=xI Y
 have lq0:=z.lt
 have hpn:yS Tryz.prog (binOp .eql 80 (.pointer none) (.pointer none))=some (.ok (.bool true)):=by kernel_rfl
 have hnow:=z1.now
 cases hx:s.now with
 |none=>
  rw[hx]at hnow;obtain rfl:now= .lit (.pointer none):=hnow;have e2:KS c s=s:=by unfold KS;rw[hx]
  have e3:KT c N s=XW c s.m.epoch N:=by unfold KT;rw[hx]
  rw[e2,e3];simp only[jN,seval,L,WD,hpn];exact⟨.stay z e1,ow.toSl (fun _ hh=>hh) (fun _ hh=>hh)⟩
 |some x=>
 rw[hx]at hnow
 obtain⟨rfl,hpq,vd,P,hd⟩:=hnow
 obtain⟨hok,ht⟩:=hno x hx
 have ht0:=hok.t.1
 have P':=P
 unfold MI at P'
 have LP:=Xy (T:=zH Tryz.prog kR) P'
 have lP:=jR P'
 have hn0:=z.now
 rw[hx]at hn0
 obtain⟨-,-,vd0,P0,hd0⟩:=hn0
 have lp0:=jR P0
 obtain⟨h2,hh2⟩:∃h2,h2=h1.put p (MI (Ki x) vd s.num):=⟨_,rfl⟩
 have hw:IntKind.i64.wrap (x.tries+1)=x.tries+1:=vW (by omega) (by omega)
 have P2:=Jj hh2 lP
 have Q2:h2.at q=h1.at q:=hh2▸zE _ hpq
 have k2':K2 q p h1 h2:=hh2▸K2.refl.putp _
 have hlf:∀b,Gq G q p b->b<h1.n->h2.at b=h1.at b/\Gq G q p b:=fun b hb hlt=>⟨k2'.2 b hlt hb.2.1 hb.2.2,hb⟩
 have z2:XZ q p G h2 c ⟨s.m,s.num,some (Ki x),s.ans⟩ vo vp vb (.ptr p 0) ans:=⟨Q2.trans z1.cq,z1.m.lift hlf,⟨rfl,hpq,vd,P2,hd.lift hlf⟩,z1.ans.lift hlf⟩
 have k2:K2 q p H h2:=(K2.ext e1).trans k2'
 have ow2:Db H.n (fun b=>H.n<=b) h2 v1 (XW c s.m.epoch N):=hh2▸ow.lift (fun b off n cap hv=>zE _ (by have:=Db.lo ow hv;omega)) (fun b hb _ _=>zE _ (by omega))
 have Y2:=z2.cq
 unfold XN at Y2
 have L2:=xI Y2
 have l2:=jR Y2
 have PP2:=P2
 have hh2':=hh2
 unfold MI Ki at PP2 hh2'
 simp only[]at PP2 hh2'
 have LP2:=xI PP2
 have lP2:=jR PP2
 simp only[jN,seval,L,LP,P',hw,<-hh2']
 rw[zL [0,1,2,3,4,5,6,7,8,9,10,11] 11146119194304065649909800706885205375324160 (by kernel_rfl)]
 by_cases hlt:c.tries<x.tries+1
 ·have e2:KS c s=MV s (Ci 110):=by unfold KS;rw[hx];simp only[];rw[if_pos hlt]
  have e3:KT c N s=XW c s.m.epoch N:=by unfold KT;rw[hx];simp only[];rw[if_pos hlt]
  rw[e2,e3];repeat ((with_reducible refine jX ?_;simp only[vO];try simp only[vP,seval]);simp only[jN,seval,zG,L2,LP2,hlt])
  refine(dS (Ci 110) (vd:= .lit (.slice none 0 0)) (vl:= .lit (.slice none 0 0)) z2 .nil .nil).mono ?_;rintro _ h3 ⟨k3,z3⟩;simp only[jN,seval];have hn2:=k2.1;have hn3:=k3.1;have z3':=z3 (jR P2);obtain⟨wo,wp,wb,wn,wa,z4⟩:=z3';have hw2:∀b,Gq (fun b=>G b\/h2.n<=b) q p b->b<h3.n->h3.at b=h3.at b/\Gq (fun b=>G b\/H.n<=b) q p b:=fun b hb _=>⟨rfl,by rcases hb.1 with h|h;exact .inl h;exact .inr (by omega),hb.2⟩;refine⟨⟨p,k2.trans (.of k3),.inl rfl,fun _=>by omega,wo,wp,wb,wn,wa,z4.cq,z4.m.lift hw2,z4.now.lift hw2 (fun _ _=>rfl),z4.ans.lift hw2⟩,?_⟩;exact(k3.sl (ow2.toSl (F:=fun b=>H.n<=b) (fun _ hh=>hh) (fun _ hh=>hh)) (fun b hb=>by omega))
 ·have e2:KS c s=⟨s.m,s.num,some (Ki x),s.ans⟩:=by unfold KS;rw[hx];simp only[];rw[if_neg hlt]
  have e3:KT c N s=XW c s.m.epoch N++Zc c s.m s.num (Ki x):=by unfold KT;rw[hx];simp only[];rw[if_neg hlt]
  rw[e2,e3];repeat ((with_reducible refine jX ?_;simp only[vO];try simp only[vP,seval]);simp only[jN,seval,zG,L2,LP2,hlt])
  refine(PS (x:=Ki x) z2 rfl hmo ⟨hok.s,hok.d,hok.l,by show 0<=x.tries+1/\x.tries+1<=1000000000;omega⟩).mono ?_;rintro v3 h3 ⟨e3,hs3⟩;simp only[jN,seval];have n2:=k2.1;have n3:=e3.1;have hlv:=ow2.lt;refine qM (Ay (ow2.ext e3 (jM _)) hs3 (fun b hb=>⟨by omega,fun off n cap e=>by have:=hlv _ _ _ _ e;omega⟩) (by rw[Kh];have:=Yk c s.m s.num (Ki x);exact(by omega:N+(Zc c s.m s.num (Ki x)).length<=100000)) (by omega)) ?_;rintro s4 h4 ⟨o4,e4⟩;simp only[jN,seval];have k3:=k2.trans (.ext e3);have k4:K2 q p H h4:=⟨zY k3.1 e4.1,fun b hb hq hp=>(e4.2 b hb).trans (k3.2 b hb hq hp)⟩;have q4:h4.at q=h2.at q:=(e4.2 q lq0).trans (e3.2 q (by omega));have p4:h4.at p=h2.at p:=(e4.2 p lp0).trans (e3.2 p (by omega));have hl4:∀b,Gq G q p b->b<H.n->h4.at b=H.at b/\Gq (fun b=>G b\/H.n<=b) q p b:=fun b hb hlt=>⟨k4.2 b hlt hb.2.1 hb.2.2,.inl hb.1,hb.2⟩;have hvv:vd0=vd:=by have:=(e1.2 _ lp0).trans P0;rw[P]at this;unfold MI at this;simp only[jP,AB.cells.injEq,List.cons.injEq]at this;exact this.1.2.2.2.2.2.2.1.symm
  subst hvv;refine⟨⟨p,k4,.inl rfl,fun hh=>zS hh k4.1,vo,vp,vb,.ptr p 0,ans,q4.trans z2.cq,z.m.lift hl4,⟨rfl,hpq,vd0,p4.trans P2,hd0.lift hl4⟩,z.ans.lift hl4⟩,o4.toSl (fun _ hh=>hh) (fun _ hh=>hh)⟩
variable{a0 a1 b0 b1:Int}
section
section
theorem Tm(a0:Int)(a1:Int)(b0:Int)(b1:Int):yS Tryz.prog (Op.equal 23 (.agg #[.int .i64 a0,.int .i64 a1]) (.agg #[.int .i64 b0,.int .i64 b1]))=some (.ok ((a0==b0)&&(a1==b1))):=by
 show yS Tryz.prog (Op.equalIn (9999+1) 23 (.agg #[.int .i64 a0,.int .i64 a1]) (.agg #[.int .i64 b0,.int .i64 b1]))=_;rw[QX 9999 23 _ _ (by kernel_rfl) (by kernel_rfl)];obtain⟨f0,f1,hf,n0,n1,t0,t1,z0,z1⟩:∃f0 f1:Field,(Tryz.prog.fieldsOf 23).toList=[f0,f1]/\f0.name≠"_"/\f1.name≠"_"/\f0.type=3/\f1.type=3/\f0.offset=0/\f1.offset=1:=by unfold Program.fieldsOf;rw[Tryz.underlying23];exact⟨_,_,rfl,by decide,by decide,rfl,rfl,rfl,rfl⟩
 rw[hf];have p0:∀(a0:Int) (a1:Int),yS Tryz.prog (part 3 #[.int .i64 a0,.int .i64 a1] 0)=some (.ok (.int .i64 a0)):=fun a0 a1=>by kernel_rfl
 have p1:∀(a0:Int) (a1:Int),yS Tryz.prog (part 3 #[.int .i64 a0,.int .i64 a1] 1)=some (.ok (.int .i64 a1)):=fun a0 a1=>by kernel_rfl
 have qi:∀x y:Int,yS Tryz.prog (Op.equalIn 9999 3 (.int .i64 x) (.int .i64 y))=some (.ok (x==y)):=fun x y=>VN 9998 3 .i64 .i64 x y Tryz.underlying3;simp only[Op.eqFields,n0,t0,z0,p0,n1,t1,z1,p1,ne_eq,not_false_eq_true,if_true,Zw,qi,HO,JV];cases(a0==b0)<;>cases(a1==b1)<;>rfl
variable {d:Option Tmp} {ty:TypeId} {ps:String} {af:Array Edge} {g:Option (Nat×Bool)} {f:TypeId} {t:TM} {h:AH}
theorem rT{i j:Nat}(hi:t.get i= .agg [.lit (.int .i64 a0),.lit (.int .i64 a1)])(hj:t.get j= .agg [.lit (.int .i64 b0),.lit (.int .i64 b1)]):
 XK Tryz.prog (zH Tryz.prog kR) ⟨d,.binOp .neq 23 (.tmp i) (.tmp j) f,ty,ps,af,g⟩ t h .neq 23 (.tmp i) (.tmp j)=some (.val (.lit (.bool (!((a0==b0)&&(a1==b1))))),h):=by
 have e1:xJ t (.tmp i)=some (.agg [.lit (.int .i64 a0),.lit (.int .i64 a1)]):=by rw[kX,hi]
 have e2:xJ t (.tmp j)=some (.agg [.lit (.int .i64 b0),.lit (.int .i64 b1)]):=by rw[kX,hj]
 have l1:qI t (.tmp i)= .agg #[.int .i64 a0,.int .i64 a1]:=by unfold qI;rw[e1];rfl
 have l2:qI t (.tmp j)= .agg #[.int .i64 b0,.int .i64 b1]:=by unfold qI;rw[e2];rfl
 have hl:yU Tryz.prog ⟨d,.binOp .neq 23 (.tmp i) (.tmp j) f,ty,ps,af,g⟩ t=some (.val (.lit (.bool (!((a0==b0)&&(a1==b1)))))):=by
  unfold yU;rw[if_pos (by show(Zs _&&JK t [.tmp i,.tmp j])=true;simp only[JK,e1,e2];rfl)];have:yS Tryz.prog (execOp (qI t) ⟨d,.binOp .neq 23 (.tmp i) (.tmp j) f,ty,ps,af,g⟩)=some (.ok (.value (.bool (!((a0==b0)&&(a1==b1)))))):=by
   show yS Tryz.prog (do pure (Next.value (<-(do eqGuard .neq 23 (.tmp i) (.tmp j) (qI t (.tmp i)) (qI t (.tmp j));binOp .neq 23 (qI t (.tmp i)) (qI t (.tmp j))))))=_;rw[l1,l2];have hg:yS Tryz.prog (eqGuard .neq 23 (.tmp i) (.tmp j) (.agg #[.int .i64 a0,.int .i64 a1]) (.agg #[.int .i64 b0,.int .i64 b1]))=some (.ok ()):=by
    have hm:Tryz.prog.eqGuardType Tryz.prog.depth 23=false:=by kernel_rfl
    simp[eqGuard,Zw,Um,hm,JV]
   have hb:yS Tryz.prog (binOp .neq 23 (.agg #[.int .i64 a0,.int .i64 a1]) (.agg #[.int .i64 b0,.int .i64 b1]))=some (.ok (.bool (!((a0==b0)&&(a1==b1))))):=by show yS Tryz.prog (do pure (Value.bool (!(<-Op.equal 23 (.agg #[.int .i64 a0,.int .i64 a1]) (.agg #[.int .i64 b0,.int .i64 b1])))))=_;simp only[Zw,Tm,JV]
   simp only[Zw,hg,hb,JV]
  rw[this];rfl
 unfold XK
 rw[e1,e2]
 show yR _ _ _ _ _=_
 unfold yR
 rw[hl]
def Px(h:AH)(r:AR):AV->AV->AR
 | .agg [.lit (.int .i64 a0),.lit (.int .i64 a1)],.agg [.lit (.int .i64 b0),.lit (.int .i64 b1)]=>some (.val (.lit (.bool (!((a0==b0)&&(a1==b1))))),h)
 |_,_=>r
theorem kP:Px h r (.agg [.lit (.int .i64 a0),.lit (.int .i64 a1)]) (.agg [.lit (.int .i64 b0),.lit (.int .i64 b1)])=some (.val (.lit (.bool (!((a0==b0)&&(a1==b1))))),h):=rfl
theorem vJ{i j:Nat}:Dc Tryz.prog (zH Tryz.prog kR) ⟨d,.binOp .neq 23 (.tmp i) (.tmp j) f,ty,ps,af,g⟩ t h .neq 23 (.tmp i) (.tmp j)=Px h (rG Tryz.prog (zH Tryz.prog kR) ⟨d,.binOp .neq 23 (.tmp i) (.tmp j) f,ty,ps,af,g⟩ t h .neq 23 (.tmp i) (.tmp j)) (t.get i) (t.get j):=by
 unfold Px;split
 ·rename_i h1 h2;exact rT h1 h2
 ·rfl
end
end
structure Hk where
 kind:Int
 fk:Int
 fi:Int
 tk:Int
 ti:Int
 bt:Int
 ep:Int
 pp:Int
 ps:Int
 client:Int
 num:Int
 ballot:Int
 i1:Int
 i2:Int
 i3:Int
 i4:Int
 i5:Int
 i6:Int
 t1:Int
 t2:Int
 t3:Int
 n1:Int
 n2:Int
 n3:Int
 n4:Int
 n5:Int
 o1:Int
 o2:Int
 p1:Int
 p2:Int
 p3:Int
 er:Int
 nb:Bool
 ns:ByteArray
 os:ByteArray
 pn:ByteArray
 s12:AV
 s14:AV
 s24:AV
 s25:AV
 s26:AV
 s40:AV
 s43:AV
 incs:List Xt
 d:List UInt8
 l:List ByteArray
def Uj(x:Hk)(vi vd vl:AV):List AV:=
 [.lit (.int .i64 x.kind),.lit (.int .i64 x.fk),.lit (.int .i64 x.fi),.lit (.int .i64 x.tk),.lit (.int .i64 x.ti),.lit (.int .i64 x.bt),.lit (.int .i64 x.ep),.lit (.int .i64 x.pp),.lit (.int .i64 x.ps),.lit (.int .i64 x.client),.lit (.int .i64 x.num),.lit (.int .i64 x.ballot),x.s12,vi,x.s14,.lit (.int .i64 x.i1),.lit (.int .i64 x.i2),.lit (.int .i64 x.i3),.lit (.int .i64 x.i4),.lit (.int .i64 x.i5),.lit (.int .i64 x.i6),.lit (.int .i64 x.t1),.lit (.int .i64 x.t2),.lit (.int .i64 x.t3),x.s24,x.s25,x.s26,.lit (.int .i64 x.n1),.lit (.int .i64 x.n2),.lit (.bool x.nb),.lit (.int .i64 x.n3),.lit (.string x.ns),.lit (.int .i64 x.n4),.lit (.int .i64 x.n5),.lit (.string x.os),.lit (.int .i64 x.o1),.lit (.int .i64 x.o2),vd,.lit (.int .i64 x.p1),.lit (.string x.pn),x.s40,.lit (.int .i64 x.p2),.lit (.int .i64 x.p3),x.s43,vl,.lit (.int .i64 x.er)]
def oP(v:AV):Prop:=isSl v=true/\v.one=true
structure Ht(x:Hk):Prop where
 s12:oP x.s12
 s14:oP x.s14
 s24:oP x.s24
 s25:oP x.s25
 s26:oP x.s26
 s40:oP x.s40
 s43:oP x.s43
def j7q:Zl Hk where
 z:=46
 is F h c x:=∃vi vd vl,c=Uj x vi vd vl/\zJ Kj F h vi x.incs/\zJ xZ F h vd x.d/\zJ JX F h vl x.l/\Ht x
 len:=fun⟨_,_,_,h,_⟩=>by subst h;rfl
 one:=fun⟨vi,vd,vl,h,h1,h2,h3,h4⟩ v hv=>by
  subst h;unfold Uj at hv;simp only[qL,Bp,or_false]at hv;rcases hv with rfl|rfl|rfl|rfl|rfl|rfl|rfl|rfl|rfl|rfl|rfl|rfl|rfl|rfl|rfl|rfl|rfl|rfl|rfl|rfl|rfl|rfl|rfl|rfl|rfl|rfl|rfl|rfl|rfl|rfl|rfl|rfl|rfl|rfl|rfl|rfl|rfl|rfl|rfl|rfl|rfl|rfl|rfl|rfl|rfl|rfl
  all_goals first|rfl|exact h1.one|exact h2.one|exact h3.one|exact h4.s12.2|exact h4.s14.2|exact h4.s24.2|exact h4.s25.2|exact h4.s26.2|exact h4.s40.2|exact h4.s43.2
 lift:=fun⟨vi,vd,vl,h,h1,h2,h3,h4⟩ hl=>⟨vi,vd,vl,h,h1.lift hl,h2.lift hl,h3.lift hl,h4⟩
def Lu(s:Zg)(l:List Xt):Zg:=⟨Ql s.m l,s.num,s.now,s.ans⟩
def Gc(c:vM)(s:Zg)(l:List Xt):List Nv:=match s.now with
 |none=>[]
 |some x=>if s.m.epoch<(Ql s.m l).epoch then Zc c (Ql s.m l) s.num x else[]
def j3D(x:Hk):Rj:=⟨x.er,x.os,x.o1,x.o2,x.d,x.l⟩
def j01(c:vM)(s:Zg)(x:Hk):Bool:=s.now.isSome&&(x.client==c.boot)&&(x.num==s.num)&&(x.er !=11)
def Xn(c:vM)(s:Zg)(x:Hk):Zg:=
 if((x.tk==c.k)&&(x.ti==c.i))=false then s
 else if((x.kind==15)&&(x.fk==1))=true then Lu s x.incs
 else if((x.kind==31)&&(x.fk==2))=true then(if j01 c s x=true then MV s (j3D x)else s)
 else s
def KR(c:vM)(s:Zg)(x:Hk):List Nv:=
 if((x.tk==c.k)&&(x.ti==c.i))=false then[]
 else if((x.kind==15)&&(x.fk==1))=true then Gc c s x.incs
 else[]
theorem Qm(m:zU)(x:Xt)(r:List Xt):Ql m (x::r)=if x.epoch<=m.epoch then Ql m r else if(vU m x).2=0 then Ql (vU m x).1 r else m:=rfl
theorem Gz{x:Xt}(h:(vU m x).2=0):(vU m x).1.epoch=x.epoch:=by
 unfold vU at h ⊢;by_cases he:m.epoch=9223372036854775807\/¬x.epoch=m.epoch+1
 ·rw[if_pos he]at h;cases h
 rw[if_neg he]at h ⊢;by_cases h0:(Jh m x.changes).2=0
 ·rw[if_pos h0]
 ·rw[if_neg h0]at h;exact absurd h h0
variable{l:List Xt}{n:zU}
section
theorem j0h{l:List Xt}:∀{m:zU} {k:Nat},QU m k->(∀x∈l,∀c∈x.changes,c.bucket.items.length<=1048576)->QU (Ql m l) (k+XM l):=by
 induction l with
 |nil=>intro m k h _;exact h
 |cons x r ih=>
  intro m k h hi;rw[Qm];have e1:XM (x::r)=x.changes.length+XM r:=by unfold XM;rw[kY,ZW]
  split
  ·exact(ih h fun y hy=>hi y (by simp[hy])).mono (by omega)
  ·split
   ·rename_i h0;have:=ih (Ah h (hi x (by simp)) h0).1 fun y hy=>hi y (by simp[hy]);exact this.mono (by omega)
   ·exact h.mono (by omega)
theorem j0g{l:List Xt}:∀{m:zU},Zq m.epoch->(∀x∈l,Zq x.epoch)->Zq (Ql m l).epoch:=by
 induction l with
 |nil=>intro m h _;exact h
 |cons x r ih=>
  intro m h hi;rw[Qm];split
  ·exact ih h fun y hy=>hi y (by simp[hy])
  ·split
   ·rename_i h0;exact ih (by rw[Gz h0];exact hi x (by simp)) fun y hy=>hi y (by simp[hy])
   ·exact h
theorem QU.mok{k:Nat}(h:QU m k)(hk:k<=1000000000)(he:Zq m.epoch)(hp:Qw m.pools):oO m:=
 ⟨h.ok hk,⟨(h.ok hk).2.2.1,(h.ok hk).2.2.2,trivial⟩,he,fun p hm=>by have:=(hp.ok p hm).2.2;unfold Zq;omega⟩
theorem ZM{s:Zg}(h:Ql s.m l=n):Lu s l=⟨n,s.num,s.now,s.ans⟩:=by unfold Lu;rw[h]
theorem QN{c:vM}{s:Zg}(h:Ql s.m l=n)(hh:s.now=none\/¬s.m.epoch<n.epoch):Gc c s l=[]:=by
 unfold Gc;rw[h];rcases hh with hh|hh
 ·rw[hh]
 ·cases s.now with
  |none=>rfl
  |some x=>simp only[];rw[if_neg hh]
theorem Au{c:vM}{s:Zg}(h:Ql s.m l=n)(hx:s.now=some x)(hh:s.m.epoch<n.epoch):Gc c s l=Zc c n s.num x:=by unfold Gc;rw[h,hx];simp only[];rw[if_pos hh]
section
variable {q p:Nat} {G F:Nat->Prop} {H:AH} {c:vM} {s:Zg} {vo vp vb now ans vi vd vl:AV}
theorem gD(x:Hk)(k:Nat)(z:XZ q p G H c s vo vp vb now ans)(hb:0<c.boot)(hi:zJ Kj F H vi x.incs)(hd:zJ xZ F H vd x.d)(hl:zJ JX F H vl x.l)(ho:Ht x)(hF:∀b,F b->b≠q)(hpH:p<H.n)(hme:((x.tk==c.k)&&(x.ti==c.i))=true)(h1:((x.kind==15)&&(x.fk==1))=true)(hlen:x.incs.length<=1000000)(hit:∀y∈x.incs,∀c∈y.changes,c.bucket.items.length<=1048576)
 (hsz:∀y∈x.incs,Sm 88 y.changes/\∀c∈y.changes,Sm 8 c.bucket.items/\Sm 8 c.bucket.weights) (hst:QU s.m k) (hpl:Qw s.m.pools) (hep:Zq s.m.epoch) (hk:k+XM x.incs<=1000000000) (hno:∀y,s.now=some y->Wl y):
 vR 14 [.ptr q 0,.agg (Uj x vi vd vl)] H fun r h'=>j0G q p G H h' c (Lu s x.incs)/\zJ Hm (fun b=>H.n<=b) h' r (Gc c s x.incs):=by
 refine zW Tryz.func14 rfl rfl ?_
 have gg1:=hi.one
 have gg2:=hd.one
 have gg3:=hl.one
 have gg4:=hi.isSl
 have gg5:=hd.isSl
 have gg6:=hl.isSl
 obtain⟨⟨a0,b0⟩,⟨a1,b1⟩,⟨a2,b2⟩,⟨a3,b3⟩,⟨a4,b4⟩,⟨a5,b5⟩,⟨a6,b6⟩⟩:=ho
 obtain⟨hp,hhp,EP,P0⟩:=xX H (.cells (Uj x vi vd vl) 58)
 have lq:=z.lt
 have zp:=z.ext EP
 unfold Uj at P0 hhp
 have LP:=xI P0
 have lP:=jR P0
 unfold Uj
 simp only[jN,jB,jC,Tryz.ntmps14,<-hhp,gg1,gg2,gg3,b0,b1,b2,b3,b4,b5,b6]
 rw[zL [0,1,2,3,4,5,6,7,8,9,10,11] 11146288031902756625935560190634610435035136 (by kernel_rfl)]
 repeat ((with_reducible refine jX ?_;simp only[vO];try simp only[vP,jB]);simp only[jN,jB,jE,reduceCtorEq,zG])
 refine(Vd zp.cq hb).mono ?_
 rintro _ _ ⟨rfl,q5⟩
 replace q5:=q5.symm
 subst q5
 have Y:=zp.cq
 unfold XN at Y
 have L:=xI Y
 have lY:=jR Y
 have hkk:(!((x.tk==c.k)&&(x.ti==c.i)))=false:=by rw[hme];rfl
 rw[jW]at h1
 obtain⟨k1,k2⟩:=h1
 have lp0:=hi.ext EP (jM _)
 have d1:=hi.lenD
 have hpn:yS Tryz.prog (binOp .neq 80 (.pointer none) (.pointer none))=some (.ok (.bool false)):=by kernel_rfl
 have hnow:s.now=none->now= .lit (.pointer none):=fun hx=>by have:=z.now;rw[hx]at this;exact this
 have hsome:∀y,s.now=some y->now= .ptr p 0/\Wl y:=fun y hx=>by have:=z.now;rw[hx]at this;exact⟨this.1,hno y hx⟩
 have oN:=z.now.one
 repeat ((with_reducible refine jX ?_;simp only[vO];try simp only[vP,jB,jD,jH,jI,jF]);simp only[jN,jB,jE,jF,reduceCtorEq,jG,zG,LP,L,vJ,kP,hkk,k1,k2,gg4,d1])
 obtain⟨l,hll⟩:∃l,l=x.incs:=⟨_,rfl⟩
 rw[<-hll]at lp0 d1 hlen hit hsz hk ⊢
 obtain⟨N,hN⟩:∃N,N=l.length:=⟨_,rfl⟩
 rw[<-hN]at d1
 rw[<-hN]
 refine kO N (fun i t h=>(∃n wo wp wb,XZ q p (fun b=>G b\/H.n<=b) h c ⟨n,s.num,s.now,s.ans⟩ wo wp wb now ans/\QU n (k+XM (l.take i))/\Zq n.epoch/\Qw n.pools/\Ql s.m l=Ql n (l.drop i)/\Kq q hp h)/\t.n=141/\t.get 0= .ptr q 0/\t.get 3= .ptr H.n 0/\t.get 4= .lit (.slice none 0 0)/\t.get 5= .lit (.int .i64 s.m.epoch)/\t.get 39=vi/\t.get 40= .lit (.int .i64 N)/\t.get 41= .lit (.int .i64 i)) ?_ ?_ _ _ ?_
 ·rintro i t h hlt hc ⟨⟨n,wo,wp,wb,hcl,hsn,hen,hpn2,hd2,hkq⟩,ga⟩ ih;obtain⟨y,hy⟩:∃y,l[i]? =some y:=⟨_,jO (by omega)⟩;have hym:=zR hy;have hl':=hkq.sl lp0 hF;obtain⟨cc,hc1,hld,hld0⟩:=hl'.at (T:=zH Tryz.prog kR) pL hy;obtain⟨vc,rfl,hch,hex⟩:=OF.1 hc1;have v1:=hch.one;have v2:=hch.isSl;have v3:=hch.lenD;have hwi:=xG (n:=N) hlt (by omega);obtain⟨hA,hhA,eA,XA⟩:=xX h (.cells [.lit (.int .i64 y.epoch),vc] 116);have LXA:=xI XA;have lXA:=jR XA;have hclA:=hcl.ext eA;have hkA:=hkq.trans (.ext eA);have y1:=hclA.cq;have y2:=hclA.m;have p1:=y2.o.isSl;have p2:=y2.p.isSl;have p3:=y2.b.isSl;unfold XN at y1;have LY:=xI y1;have lY2:=jR y1;have hdc:l.drop i=y::l.drop (i+1):=by obtain⟨hil,rfl⟩:=List.getElem?_eq_some_iff.1 hy;exact qS hil
  have hchs:k+XM (l.take i)+y.changes.length<=1000000000:=zY (by have:=RT hy;omega) hk;have hsn':QU n (k+XM (l.take (i+1))):=hsn.mono (by rw[Ak hy];omega);simp only[jN,jB,jE,jF,reduceCtorEq,jG,ga,hlt,hc,gg4,d1,hld0,v1,<-hhA];rw[zL [0,1,2,3,4,5,6,7] 9168233779351781632 (by kernel_rfl)];by_cases hle:y.epoch<=n.epoch
  ·repeat (first|((with_reducible refine jX ?_;simp only[vO];try simp only[vP,jB,jD,jH,jI,jF]);simp only[jN,jB,jE,jF,reduceCtorEq,zG,ga,LXA,LY,hle,hwi])|simp only[jN,jB,jC,jD,jE,jF,reduceCtorEq,jG,jJ,jK,jL,zG,ga,LXA,lXA,LY,lY2,hle,hwi])
   refine ih _ _ ⟨⟨n,wo,wp,wb,hclA,hsn',hen,hpn2,?_,hkA⟩,?_⟩
   ·rw[hd2,hdc,Qm,if_pos hle]
   ·simp only[jN,jE,jF,reduceCtorEq,ga]
  ·repeat ((with_reducible refine jX ?_;simp only[vO];try simp only[vP,jB,jD,jH,jI,jF]);simp only[jN,jB,jE,jF,reduceCtorEq,zG,ga,LXA,LY,hle,hwi])
   rw[zL [0,1,2,3,4,9,5,6,7,8,10,11] 11145947599277408019301084219409282117931008 (by kernel_rfl)];repeat ((with_reducible refine jX ?_;simp only[vO];try simp only[vP,jB,jD,jH,jI]);simp only[jN,jB,jE,jF,reduceCtorEq,jG,zG,ga,LXA,lXA,LY,lY2])
   refine⟨by simp only[yK,v2,p1,p2,p3,kS],?_⟩;obtain⟨hB,hhB⟩:∃hB,hB=hA.push (.cells [.lit (.int .i64 0),.lit (.slice none 0 0),.lit (.slice none 0 0),.lit (.slice none 0 0),.lit (.int .i64 0)] 66):=⟨_,rfl⟩;rw[<-hhB];have eB:=ZS hhB;have ZB:=QJ hhB;have nB:hB.n=hA.n+1:=by rw[hhB,zF]
   have y2':=y2.ext eB (jM _);have mT:vG (fun _=>True) hB n wo wp wb:=⟨y2'.o.lift fun _ _ _=>⟨rfl,trivial⟩,y2'.p.lift fun _ _ _=>⟨rfl,trivial⟩,y2'.b.lift fun _ _ _=>⟨rfl,trivial⟩⟩;have eAB:=eA.trans (eB.mono eA.1);have cT:zJ pJ (fun _=>True) hB vc y.changes:=(hch.ext eAB (jM _)).lift fun _ _ _=>⟨rfl,trivial⟩;refine(j0O y mT (hsn.ok (by omega)) (by have:=hsn.nb;omega) hen cT (hsz y hym).1 (hsz y hym).2 (fun j n' hj hh=>(hsn.run (hit y hym) hh).sz (by omega))).mono ?_;rintro _ h4 ⟨e4,ro,rp,rb,rfl,m4⟩;have z1:=m4.o.one;have z2:=m4.p.one;have z3:=m4.b.one;have Z4:=(e4.2 _ (jR ZB)).trans ZB;have lZ4:=jR Z4;have y4:=((eB.trans (e4.mono eB.1)).2 _ lY2).trans y1;have LY4:=xI y4;obtain⟨er,her⟩:∃er,er=(vU n y).2:=⟨_,rfl⟩;obtain⟨n2,hn2⟩:∃n2,n2=(vU n y).1:=⟨_,rfl⟩;rw[<-hn2]at m4;rw[<-her,<-hn2];unfold vS;have hk4:Kq q hp h4:=hkA.trans ((Kq.ext eB).trans (.ext e4));obtain⟨h5,hh5⟩:∃h5,h5=h4.put hA.n (.cells [.lit (.int .i64 n2.epoch),ro,rp,rb,.lit (.int .i64 n2.leaf)] 66):=⟨_,rfl⟩;have n5:h5.n=h4.n:=by rw[hh5,kZ]
   have Z5:=Jj hh5 lZ4;have LZ5:=xI Z5;have lZ5:=jR Z5;have y5:=Qx hh5 (by omega) y4;have LY5:=xI y5;have lY5:=jR y5;have hpA:=hkA.1;have k5:Kq q hp h5:=by refine⟨by rw[n5];exact hk4.1,fun b hb hbq=> ?_⟩;rw[hh5,zE _ (by omega)];exact hk4.2 b hb hbq
   have ee:zM hA.n hA h5:=by refine⟨by rw[n5];exact(eB.trans (e4.mono eB.1)).1,fun b hb=> ?_⟩;rw[hh5,zE _ (by omega)];exact(eB.trans (e4.mono eB.1)).2 b hb
   have z5:=hclA.ext ee;by_cases h0:er=0
   ·have h0e:(er !=0)=false:=by rw[h0];rfl
    repeat (first|((with_reducible refine jX ?_;simp only[vO];try simp only[vP,jB]);simp only[jN,jB,jE,jF,reduceCtorEq,jG,zG,ga,Z4,z1,z2,z3,h0e,hwi,<-hh5,y5,LY5,LZ5])|simp only[jN,jB,jC,jD,jE,jF,reduceCtorEq,jG,jJ,jK,jL,zG,ga,Z4,lZ4,z1,z2,z3,h0e,hwi,<-hh5,y5,LY5,lY5,LZ5,lZ5])
    have h00:(vU n y).2=0:=by rw[<-her];exact h0
    have hl6:∀b,Gq (fun b=>G b\/H.n<=b) q p b->b<h5.n->(h5.put q (.cells [.lit (.int .i64 c.k),.lit (.int .i64 c.i),.lit (.int .i64 c.boot),.lit (.int .i64 c.mons),.lit (.int .i64 c.tries),.lit (.int .i64 n2.epoch),ro,rp,rb,.lit (.int .i64 n2.leaf),.lit (.int .i64 s.num),now,ans] 83)).at b=h5.at b/\Gq (fun b=>G b\/H.n<=b) q p b:=fun b hb hlt=>⟨zE _ (Ne.symm hb.2.1),hb⟩;have m5:vG (fun k=>hB.n<=k) h5 n2 ro rp rb:=m4.lift fun b hb hlt=>⟨by rw[hh5,zE _ (by omega)],hb⟩;refine ih _ _ ⟨⟨n2,ro,rp,rb,⟨qJ _ lY5,(m5.lift fun b hb hlt=>⟨zE _ (by omega),.inr (by omega),by omega,by omega⟩),z5.now.lift hl6 (fun w hw=> ?_),z5.ans.lift hl6⟩,?_,?_,?_,?_,k5.put _⟩,?_⟩
    ·have:=z5.now;have hw:s.now=some w:=hw;simp only[hw]at this;exact zE _ (Ne.symm this.2.1)
    ·rw[hn2,Ak hy,<-vI];exact(Ah hsn (hit y hym) h00).1
    ·rw[hn2,Gz h00];exact hex
    ·rw[hn2];exact Bz hpn2
    ·rw[hd2,hdc,Qm,if_neg hle,if_pos h00,hn2]
    ·simp only[jN,jE,jF,reduceCtorEq,ga]
   ·have h0e:(er !=0)=true:=bne_iff_ne.2 h0;have hdn:Ql s.m l=n:=by rw[hd2,hdc,Qm,if_neg hle,if_neg (by rw[<-her];exact h0)]
    have hk6:=(Kq.ext EP).trans k5;by_cases hgt:s.m.epoch<n.epoch
    ·cases hx:s.now with
     |none=>
      obtain rfl:now= .lit (.pointer none):=hnow hx;repeat (first|((with_reducible refine jX ?_;simp only[vO];try simp only[vP,jB]);simp only[jN,jB,jE,jF,reduceCtorEq,jG,zG,ga,Z4,z1,z2,z3,h0e,<-hh5,LY5,hgt,Dw,hpn])|simp only[jN,jB,jC,jD,jE,jF,reduceCtorEq,jG,jJ,jK,jL,zG,ga,Z4,lZ4,z1,z2,z3,h0e,<-hh5,y5,LY5,lY5,hgt,Dw,hpn])
      rw[ZM hdn,QN hdn (by exact .inl hx)];exact⟨⟨p,.of hk6,.inl rfl,fun hh=>zS hh hk6.1,_,_,_,_,_,z5⟩,.nil⟩
     |some y9=>
      obtain⟨rfl,hny⟩:=hsome y9 hx;repeat (first|((with_reducible refine jX ?_;simp only[vO];try simp only[vP,jB]);simp only[jN,jB,jE,jF,reduceCtorEq,jG,zG,ga,Z4,z1,z2,z3,h0e,<-hh5,LY5,hgt])|simp only[jN,jB,jC,jD,jE,jF,reduceCtorEq,jG,jJ,jK,jL,zG,ga,Z4,lZ4,z1,z2,z3,h0e,<-hh5,y5,LY5,lY5,hgt])
      rw[ZM hdn,Au hdn hx hgt];refine(PS z5 hx (hsn.mok (by omega) hen hpn2) hny).mono ?_;rintro v7 h7 ⟨e7,hs7⟩;simp only[jN,jE,reduceCtorEq,ga];exact⟨⟨p,.of (hk6.trans (.ext e7)),.inl rfl,fun hh=>zS hh (hk6.trans (.ext e7)).1,_,_,_,_,_,z5.ext e7⟩,hs7.lift fun b hb _=>⟨rfl,by omega⟩⟩
    ·repeat (first|((with_reducible refine jX ?_;simp only[vO];try simp only[vP,jB]);simp only[jN,jB,jE,jF,reduceCtorEq,jG,zG,ga,Z4,z1,z2,z3,h0e,<-hh5,LY5,hgt])|simp only[jN,jB,jC,jD,jE,jF,reduceCtorEq,jG,jJ,jK,jL,zG,ga,Z4,lZ4,z1,z2,z3,h0e,<-hh5,y5,LY5,lY5,hgt])
     rw[ZM hdn,QN hdn (by exact .inr hgt)];exact⟨⟨p,.of hk6,.inl rfl,fun hh=>zS hh hk6.1,_,_,_,_,_,z5⟩,.nil⟩
 ·rintro t h hc ⟨⟨n,wo,wp,wb,hcl,hsn,hen,hpn2,hd2,hkq⟩,ga⟩;rw[hN,Zh]at hd2;have hd2:Ql s.m l=n:=hd2;have y1:=hcl.cq;unfold XN at y1;have LY:=xI y1;have lY2:=jR y1;have hk6:=(Kq.ext EP).trans hkq;rw[hN,xC]at hsn;by_cases hgt:s.m.epoch<n.epoch
  ·cases hx:s.now with
   |none=>
    obtain rfl:now= .lit (.pointer none):=hnow hx;simp only[jN,jB,jE,jF,reduceCtorEq,ga,hc,gg4,d1,LY,hgt,Dw,hpn];rw[ZM hd2,QN hd2 (by exact .inl hx)];exact⟨⟨p,.of hk6,.inl rfl,fun hh=>zS hh hk6.1,_,_,_,_,_,hcl⟩,.nil⟩
   |some y9=>
    obtain⟨rfl,hny⟩:=hsome y9 hx;simp only[jN,jB,jE,jF,reduceCtorEq,ga,hc,gg4,d1,LY,hgt];rw[ZM hd2,Au hd2 hx hgt];refine(PS hcl hx (hsn.mok (by omega) hen hpn2) hny).mono ?_;rintro v7 h7 ⟨e7,hs7⟩;simp only[jN,jE,reduceCtorEq,ga];have hn7:=hk6.1;exact⟨⟨p,.of (hk6.trans (.ext e7)),.inl rfl,fun hh=>zS hh (hk6.trans (.ext e7)).1,_,_,_,_,_,hcl.ext e7⟩,hs7.lift fun b hb _=>⟨rfl,by omega⟩⟩
  ·simp only[jN,jB,jE,jF,reduceCtorEq,ga,hc,gg4,d1,LY,hgt];rw[ZM hd2,QN hd2 (by exact .inr hgt)];exact⟨⟨p,.of hk6,.inl rfl,fun hh=>zS hh hk6.1,_,_,_,_,_,hcl⟩,.nil⟩
 ·refine⟨⟨s.m,vo,vp,vb,?_,?_,hep,hpl,rfl,.refl _ _⟩,?_⟩
  ·exact z.wide EP fun b hb=> .inl hb
  ·exact hst.mono (by omega)
  ·simp only[jN,jB,jE,jF,reduceCtorEq];(repeat' apply And.intro)<;>first|rfl|trivial
end
end
theorem Vc{e:Int}(he:VR s g=e)(h0:¬e=0):AX s g=s/\AY c s g=[]:=by unfold AX AY;rw[he,if_neg h0,if_neg h0];exact⟨rfl,rfl⟩
theorem eF(he:VR s g=0):AX s g=Dy s (Cy g)/\AY c s g=Zc c s.m (s.num+1) (Cy g):=by unfold AX AY;rw[he,if_pos rfl,if_pos rfl];exact⟨rfl,rfl⟩
theorem j3H{ans:AV}(g:MF)(z:XZ q p G H c s vo vp vb now ans)(hb:0<c.boot)(hmo:oO s.m)(hpl:Qw s.m.pools)(hnu:0<=s.num/\s.num<=1000000000):
 vR 25 [.ptr q 0,eN g.pool g.seed] H fun r h'=>j0G q p G H h' c (AX s g)/\∃rv,r= .tup [rv,.lit (.int .i64 (VR s g))]/\zJ Hm (fun b=>H.n<=b) h' rv (AY c s g):=by
 refine zW Tryz.func25 rfl rfl ?_
 obtain⟨hA,hhA,eA,XA⟩:=xX H (.cells [.lit (.int .i64 g.pool),.lit (.int .i64 g.seed)] 36)
 have lq:=z.lt
 have zA:=z.ext eA
 have lXA:=jR XA
 unfold eN
 simp only[jN,seval,Tryz.ntmps25,<-hhA]
 refine(tJ zA hb).mono ?_
 rintro _ _ ⟨rfl,q5⟩
 replace q5:=q5.symm
 subst q5
 have e00:((0:Int)!=0)=false:=rfl
 have e11:((11:Int)!=0)=true:=rfl
 cases hbu:US s with
 |true=>
  have he:VR s g=11:=by unfold VR;rw[if_pos hbu]
  obtain⟨r1,r2⟩:=Vc (c:=c) he (by decide);rw[he,r1,r2,if_pos rfl];simp only[jN,seval,e11];exact⟨.stay z eA,_,rfl,.nil⟩
 |false=>
 rw[if_neg (by decide)]
 have keyE:VR s g=if DK s.m g=true then 0 else 2:=by unfold VR;rw[hbu,if_neg (by decide)]
 obtain⟨hn0,ha0⟩:=Hy hbu
 have Y:=zA.cq
 unfold XN at Y
 have L:=xI Y
 have lY:=jR Y
 have o1:=zA.m.o.one
 have o2:=zA.m.p.one
 have o3:=zA.m.b.one
 simp only[jN,seval,L,e00]
 have hp4:=hpl.len
 refine(j62 zA.m (by omega)).mono ?_
 rintro va h2 ⟨e2,ha⟩
 have s1:=ha.isSl
 have s2:=ha.lenD
 have s3:=ha.one
 have hal:(MP s.m).length<=32:=zY (rY s.m) (by omega)
 obtain⟨N,hN⟩:∃N,N=(MP s.m).length:=⟨_,rfl⟩
 rw[<-hN]at s2 hal
 have E2:=eA.trans (e2.mono eA.1)
 have nA:hA.n=H.n+1:=by rw[hhA,zF]
 simp only[jN,seval,s1,s2]
 refine kO N (fun i t h=>(zM H.n H h/\zM h2.n h2 h/\(∀j,j<i->∀x,(MP s.m)[j]? =some x->¬x=g))/\t.n=34/\t.get 0= .ptr q 0/\t.get 3= .ptr H.n 0/\t.get 4= .lit (.slice none 0 0)/\t.get 5= .lit (.int .i64 0)/\t.get 18=va/\t.get 19= .lit (.int .i64 N)/\t.get 20= .lit (.int .i64 i)) ?_ ?_ _ _ ?_
 ·rintro i t h hlt hc ⟨⟨E,e,hnone⟩,ga⟩ ih;obtain⟨x,hx⟩:∃x,(MP s.m)[i]? =some x:=⟨_,jO (by omega)⟩;have hwi:=xG (n:=N) hlt (by omega);have ha':=ha.ext e (jM _);obtain⟨cc,hc1,hld,hld0⟩:=ha'.atE (T:=zH Tryz.prog kR) (zM.refl _ _) (show j5K.z=2 from rfl) hx;obtain⟨rfl,-⟩:=pQ.1 hc1;obtain⟨hB,hhB,eB,XB⟩:=xX h (.cells [.lit (.int .i64 x.pool),.lit (.int .i64 x.seed)] 36);have EB:=E.trans (eB.mono E.1);have LXB:=xI XB;have eAB:zM hA.n hA hB:=e2.trans ((e.trans (eB.mono e.1)).mono e2.1);have XA':=(eAB.2 _ lXA).trans XA;have LXA:=Xy (T:=zH Tryz.prog kR) XA';have lXA':=jR XA';by_cases hxg:x=g
  ·subst hxg;have hbb:((x.pool==x.pool)&&(x.seed==x.seed))=true:=by simp
   have hmem:DK s.m x=true:=SP.1 (zR hx);rw[if_pos hmem]at keyE;obtain⟨r1,r2⟩:=eF (c:=c) keyE;rw[keyE,r1,r2];obtain⟨h6,hh6⟩:∃h6,h6=hB.push (MI (Cy x) (.lit (.slice none 0 0)) 0):=⟨_,rfl⟩;have e6:=ZS hh6;have E6:=EB.trans (e6.mono EB.1);have P6:=QJ hh6;have hh6':=hh6;unfold MI Cy at hh6';simp only[]at hh6';simp only[jN,seval,s1,s2,ga,hlt,hc,hld0,<-hhB,LXB,LXA,j3n,tE,hbb,<-hh6'];have hn5:=EB.1;have z6:XZ q hB.n (fun b=>G b\/H.n<=b) h6 c s vo vp vb now ans:=by have hl:∀b,Gq G q p b->b<H.n->h6.at b=H.at b/\Gq (fun b=>G b\/H.n<=b) q hB.n b:=fun b hb hlt=>⟨E6.2 b hlt,.inl hb.1,hb.2.1,by omega⟩;refine⟨(E6.2 _ lq).trans z.cq,z.m.lift hl,?_,z.ans.lift hl⟩;have:=z.now;rw[hn0]at this ⊢;exact this
   refine(dJ z6 hn0 hmo (x:=Cy x) ⟨(by decide:(0:Nat)<=_),(by decide:(0:Nat)<=4096),rfl,⟨Zy 0,(by decide:(0:Int)<=1000000000)⟩⟩ hnu (by omega) P6 .nil).mono ?_;rintro v7 h7 ⟨k7,z7,hs7⟩;have hn6:=E6.1;simp only[jN,seval,ga];exact⟨⟨hB.n,(K2.ext E6).trans k7,.inr hn5,fun _=>zS (jR P6) k7.1,z7⟩,_,rfl,hs7.lift fun b hb _=>⟨rfl,by omega⟩⟩
  ·have hbb:((x.pool==g.pool)&&(x.seed==g.seed))=false:=by
    cases hbb:((x.pool==g.pool)&&(x.seed==g.seed))with
    |false=>rfl
    |true=>
     rw[jW]at hbb;refine absurd ?_ hxg;have q1:=eq_of_beq hbb.1;have q2:=eq_of_beq hbb.2;cases x;cases g;simp only at q1 q2;rw[q1,q2]
   simp only[jN,seval,s1,s2,ga,hlt,hc,hld0,<-hhB,LXB,LXA,j3n,tE,hbb,hwi]
   refine ih _ _ ⟨⟨EB,e.trans (eB.mono e.1),fun j hj y hy=> ?_⟩,?_⟩
   ·by_cases hji:j=i
    ·subst hji;rw[hx]at hy;cases hy;exact hxg
    ·exact hnone j (by omega) y hy
   ·simp only[jN,seval,ga]
 ·rintro t h hc ⟨⟨E,e,hnone⟩,ga⟩;have hno:¬DK s.m g=true:=fun hh=>by obtain⟨j,hj⟩:=List.mem_iff_getElem?.1 (SP.2 hh);exact hnone j (by rw[hN];exact(List.getElem?_eq_some_iff.1 hj).1) g hj rfl
  rw[if_neg hno]at keyE;obtain⟨r1,r2⟩:=Vc (c:=c) keyE (by decide);rw[keyE,r1,r2];simp only[jN,seval,s1,s2,ga,hc];exact⟨.stay z E,_,rfl,.nil⟩
 ·refine⟨⟨E2,zM.refl _ _,fun j hj=>absurd hj (Nat.not_lt_zero _)⟩,?_⟩;simp only[jN,seval];try((repeat' apply And.intro)<;>first|rfl|trivial)
section
structure fU where
 pool:Int
 pgp:Int
 pgs:Int
 tr:Int
 od:MK
 la:Rj
def EI(c:vM)(m:zU)(vo vp vb:AV)(num:Int)(un to:Bool)(y:fU)(vd ve vl:AV):AB:= .cells [.lit (.int .i64 c.k),.lit (.int .i64 c.i),.lit (.int .i64 c.boot),.lit (.int .i64 c.mons),.lit (.int .i64 c.tries),.lit (.int .i64 m.epoch),vo,vp,vb,.lit (.int .i64 m.leaf),.lit (.int .i64 num),.lit (.bool un),.lit (.bool to),.lit (.int .i64 y.pool),
 .lit (.int .i64 y.od.k),.lit (.string y.od.s),vd,.lit (.int .i64 y.od.e),.lit (.int .i64 y.od.n),.lit (.int .i64 y.pgp),.lit (.int .i64 y.pgs),.lit (.int .i64 y.tr),.lit (.int .i64 y.la.e),.lit (.string y.la.s),.lit (.int .i64 y.la.v1),.lit (.int .i64 y.la.v2),ve,vl] 70
def Gr(G:Nat->Prop)(r:Nat)(b:Nat):Prop:=G b/\b≠r
def j5A(y:fU)(x:VH):Prop:=y.od=x.op/\y.tr=x.tries/\(x.list=false->y.pool=x.pool)/\(x.list=true->y.pgp=x.pg.pool/\y.pgs=x.pg.seed)
structure QG(r:Nat)(G:Nat->Prop)(h:AH)(c:vM)(s:Zg)(vo vp vb:AV)(y:fU)(vd ve vl:AV):Prop where
 cr:h.at r=some (EI c s.m vo vp vb s.num s.now.isSome s.ans.isSome y vd ve vl)
 m:vG (Gr G r) h s.m vo vp vb
 od:zJ xZ (Gr G r) h vd y.od.d
 ld:zJ xZ (Gr G r) h ve y.la.d
 ll:zJ JX (Gr G r) h vl y.la.l
 now:∀x,s.now=some x->j5A y x
 ans:∀a,s.ans=some a->y.la=a
def j0H(r:Nat)(G:Nat->Prop)(h:AH)(c:vM)(s:Zg):Prop:=∃vo vp vb y vd ve vl,QG r G h c s vo vp vb y vd ve vl
section
variable {r:Nat} {G:Nat->Prop} {H h:AH} {c:vM} {s:Zg} {vo vp vb vd ve vl:AV} {y:fU}
theorem QG.lt(z:QG r G H c s vo vp vb y vd ve vl):r<H.n:=jR z.cr
theorem QG.lift{G':Nat->Prop}(z:QG r G H c s vo vp vb y vd ve vl)(hr:h.at r=H.at r)(hl:∀b,Gr G r b->b<H.n->h.at b=H.at b/\G' b):QG r G' h c s vo vp vb y vd ve vl:=by have hl':∀b,Gr G r b->b<H.n->h.at b=H.at b/\Gr G' r b:=fun b hb hlt=>⟨(hl b hb hlt).1,(hl b hb hlt).2,hb.2⟩;exact⟨hr.trans z.cr,z.m.lift hl',z.od.lift hl',z.ld.lift hl',z.ll.lift hl',z.now,z.ans⟩
theorem QG.ext(z:QG r G H c s vo vp vb y vd ve vl)(e:zM H.n H h):QG r G h c s vo vp vb y vd ve vl:=z.lift (e.2 _ z.lt) fun b hb hlt=>⟨e.2 b hlt,hb.1⟩
theorem QG.wide{G':Nat->Prop}(z:QG r G H c s vo vp vb y vd ve vl)(e:zM H.n H h)(hG:∀b,G b->G' b):QG r G' h c s vo vp vb y vd ve vl:=z.lift (e.2 _ z.lt) fun b hb hlt=>⟨e.2 b hlt,hG b hb.1⟩
theorem j0H.ext(z:j0H r G H c s)(e:zM H.n H h):j0H r G h c s:=by obtain⟨vo,vp,vb,y,vd,ve,vl,z⟩:=z;exact⟨vo,vp,vb,y,vd,ve,vl,z.ext e⟩
end
theorem FS{F:Nat->Prop}{H:AH}{v:AV}{xs:List UInt8}{p:Nat}(hp:p=H.n)(hv:zJ xZ F H v xs)(hl:xs.length<=140737488355328):
 ∃s' h',vZ (zH Tryz.prog kR) (H.push (.cells [] 5)) 37 37 (.sl p 0 0 (.kn 0)) v=some (s',h')/\zM H.n H h'/\zJ xZ (fun b=>H.n<=b) h' s' xs:=by
 subst hp
 have hv2:zJ xZ F (H.push (.cells [] 5)) v xs:=hv.ext ((zM.refl H.n H).push _ (jM _)) (jM _)
 obtain⟨s',h',e0,e1,e2,e3,e4⟩:=GL (T:=zH Tryz.prog kR) (t:=37) (by kernel_rfl) (by kernel_rfl) (zv:= .lit (.int .u8 0)) (by kernel_rfl) (by':=1) (by kernel_rfl) rfl (by decide) (by decide) hv2 (by omega) (by omega) (zI H _)
 refine⟨s',h',e0,((zM.refl H.n H).push _ (jM _)).trans (e1.mono (by rw[zF];omega)),?_⟩
 obtain⟨L,f1,f2,f3,f4⟩:=e2.out
 refine .mk f1 (fun b off n cap e=> ?_) f3 ⟨f4.1,fun i c x h1 h2=>f4.2 i c x h1 h2⟩
 rcases e3 b off n cap e with rfl|hb
 ·exact jM _
 ·rw[zF]at hb;omega
theorem Sr{F:Nat->Prop}{H:AH}{v:AV}{xs:List ByteArray}{p:Nat}(hp:p=H.n)(hv:zJ JX F H v xs)(hl:xs.length * 16<=140737488355328):
 ∃s' h',vZ (zH Tryz.prog kR) (H.push (.cells [] 9)) 56 56 (.sl p 0 0 (.kn 0)) v=some (s',h')/\zM H.n H h'/\zJ JX (fun b=>H.n<=b) h' s' xs:=by
 subst hp
 have hv2:zJ JX F (H.push (.cells [] 9)) v xs:=hv.ext ((zM.refl H.n H).push _ (jM _)) (jM _)
 obtain⟨s',h',e0,e1,e2,e3,e4⟩:=GL (T:=zH Tryz.prog kR) (t:=56) (by kernel_rfl) (by kernel_rfl) (zv:= .lit (.string ⟨#[]⟩)) (by kernel_rfl) (by':=16) (by kernel_rfl) rfl (by decide) (by decide) hv2 (by omega) hl (zI H _)
 refine⟨s',h',e0,((zM.refl H.n H).push _ (jM _)).trans (e1.mono (by rw[zF];omega)),?_⟩
 obtain⟨L,f1,f2,f3,f4⟩:=e2.out
 refine .mk f1 (fun b off n cap e=> ?_) f3 ⟨f4.1,fun i c x h1 h2=>f4.2 i c x h1 h2⟩
 rcases e3 b off n cap e with rfl|hb
 ·exact jM _
 ·rw[zF]at hb;omega
theorem IG{F:Nat->Prop}{H:AH}{vd:AV}(hd:zJ xZ F H vd o.d)(hl:o.d.length<=140737488351232):
 vR 47 [.agg (Fb o vd)] H fun r h'=>zM H.n H h'/\∃v',r= .agg (Fb o v')/\zJ xZ (fun b=>H.n<=b) h' v' o.d:=by
 refine zW Tryz.func47 rfl rfl ?_
 have v1:=hd.one
 obtain⟨hA,hhA⟩:∃hA,hA=(H.push (.cells (Fb o vd) 41)).push (.cells [.lit (.int .i64 0),.lit (.string ⟨#[]⟩),.lit (.slice none 0 0),.lit (.int .i64 0),.lit (.int .i64 0)] 41):=⟨_,rfl⟩
 have eA:zM H.n H hA:=hhA▸((zM.refl _ _).push _ (jM _)).push _ (by rw[zF];omega)
 have XA:hA.at H.n=some (.cells (Fb o vd) 41):=hhA▸(xE _ (by rw[zF];omega)).trans (zI _ _)
 have ZA:hA.at (H.n+1)=some (.cells [.lit (.int .i64 0),.lit (.string ⟨#[]⟩),.lit (.slice none 0 0),.lit (.int .i64 0),.lit (.int .i64 0)] 41):=hhA▸zI (H.push _) _
 have nA:hA.n=H.n+2:=by rw[hhA,zF,zF]
 unfold Fb at XA hhA
 unfold Fb
 have LXA:=Xy (T:=zH Tryz.prog kR) ((xE (.cells [] 5) (jR XA)).trans XA)
 simp only[jN,jB,jC,jE,jF,Tryz.ntmps47,v1,<-hhA,LXA]
 refine qM (FS rfl (hd.ext eA (jM _)) (by omega)) ?_
 rintro s3 h3 ⟨e3,hs3⟩
 have u1:=hs3.one
 have X3:=(e3.2 _ (jR XA)).trans XA
 have lX3:=jR X3
 have Z3:=(e3.2 _ (jR ZA)).trans ZA
 obtain⟨hC,hhC⟩:∃hC,hC=h3.put H.n (.cells [.lit (.int .i64 o.k),.lit (.string o.s),s3,.lit (.int .i64 o.e),.lit (.int .i64 o.n)] 41):=⟨_,rfl⟩
 have E3:=eA.trans (e3.mono eA.1)
 have EC:zM H.n H hC:=hhC▸E3.put _ (jM _)
 have XC:=Jj hhC lX3
 have ZC:=Qx hhC (by omega) Z3
 have LXC:=xI XC
 have lZC:=jR ZC
 simp only[jN,jB,jE,jF,reduceCtorEq,jG,X3,u1,<-hhC,LXC,ZC,lZC]
 refine⟨EC.put _ (by omega),s3,rfl,hs3.lift fun b hb hlt=>⟨(zE _ (by omega)).trans (hhC▸zE _ (by omega)),by omega⟩⟩
theorem j0W{H:AH}(c:vM)(hno:c.boot<1\/c.tries<1\/c.mons<1\/5<c.mons):
 vR 5 [.agg [.lit (.int .i64 c.k),.lit (.int .i64 c.i)],.lit (.int .i64 c.boot),.lit (.int .i64 c.mons),.lit (.int .i64 c.tries)] H fun r h'=>zM H.n H h'/\r= .tup [.lit (.pointer none),.lit (.int .i64 22)]:=by
 refine zW Tryz.func5 rfl rfl ?_
 have E0:zM H.n H (H.push (.cells [.lit (.int .i64 c.k),.lit (.int .i64 c.i)] 23)):=(zM.refl _ _).push _ (jM _)
 by_cases h1:c.boot<1
 ·simp only[jN,jB,jC,jE,jF,reduceCtorEq,jG,Tryz.ntmps5,h1];exact E0
 by_cases h2:c.tries<1
 ·simp only[jN,jB,jC,jE,jF,reduceCtorEq,jG,Tryz.ntmps5,h1,h2];exact E0
 by_cases h3:c.mons<1
 ·simp only[jN,jB,jC,jE,jF,reduceCtorEq,jG,Tryz.ntmps5,h1,h2,h3];exact E0
 have h4:5<c.mons:=by omega
 simp only[jN,jB,jC,jE,jF,reduceCtorEq,jG,Tryz.ntmps5,h1,h2,h3,h4]
 exact E0
def j7r:fU:=⟨0,0,0,0,⟨0,⟨#[]⟩,[],0,0⟩,⟨0,⟨#[]⟩,0,0,[],[]⟩⟩
def j67:Zg:=⟨Gb,0,none,none⟩
theorem j0X{H:AH}(c:vM)(h1:¬c.boot<1)(h2:¬c.tries<1)(h3:¬c.mons<1)(h4:¬5<c.mons):
 vR 5 [.agg [.lit (.int .i64 c.k),.lit (.int .i64 c.i)],.lit (.int .i64 c.boot),.lit (.int .i64 c.mons),.lit (.int .i64 c.tries)] H fun r h'=>zM H.n H h'/\∃q,r= .tup [.ptr q 0,.lit (.int .i64 0)]/\H.n<=q/\j0H q (fun b=>H.n<=b) h' c j67:=by
 refine zW Tryz.func5 rfl rfl ?_
 obtain⟨hA,hhA,eA,XA⟩:=xX H (.cells [.lit (.int .i64 c.k),.lit (.int .i64 c.i)] 23)
 have LXA:=xI XA
 simp only[jN,jB,jC,jE,jF,reduceCtorEq,jG,Tryz.ntmps5,h1,h2,h3,h4,<-hhA,LXA]
 refine⟨eA.push _ eA.1,hA.n,rfl,eA.1,.lit (.slice none 0 0),.lit (.slice none 0 0),.lit (.slice none 0 0),j7r,.lit (.slice none 0 0),.lit (.slice none 0 0),.lit (.slice none 0 0),?_⟩
 exact⟨zI _ _,⟨.nil,.nil,.nil⟩,.nil,.nil,.nil,fun x hx=>(by cases hx),fun x hx=>(by cases hx)⟩
theorem cN{r N:Nat}{G:Nat->Prop}{H:AH}{c:vM}{s:Zg}{vo vp vb vd ve vl:AV}{y:fU}(z:QG r G H c s vo vp vb y vd ve vl)(hN:c.mons=(N:Int))(hN5:N<=5):
 vR 29 [.ptr r 0] H fun v h'=>zM H.n H h'/\Db H.n (fun b=>H.n<=b) h' v (XW c s.m.epoch N):=by
 refine zW Tryz.func29 rfl rfl ?_
 have h1:=z.cr
 unfold EI at h1
 simp only[jN,jC,Tryz.ntmps29]
 refine kO N (fun i t h=>zM H.n H h/\∃v,Db H.n (fun b=>H.n<=b) h v (XW c s.m.epoch i)/\t.n=33/\t.get 0= .ptr r 0/\t.get 3=v/\t.get 4= .lit (.int .i64 i)) ?_ ?_ _ _ ?_
 ·rintro i t h hlt hc ⟨E,v,ho,ga⟩ ih;have hwi:=xG (n:=N) hlt (by omega);have X1:=(E.2 _ (jR h1)).trans h1;have L1:=xI X1;have l1:=jR X1;simp only[jN,jB,jE,jF,reduceCtorEq,ga,L1,hN,hc];rw[zL [0,1,2,3,4,5,6,7,8,9,10,11,12,13,14,15,16,17,18,19] 1291123092072358859737309758981303490743590252135606772436787957647199966844560840329658776369567539617859453011407929344 (by kernel_rfl)];repeat ((with_reducible refine jX ?_;simp only[vO];try simp only[vP,jB,jD,jH,jI]);simp only[jN,jB,jD,jE,jF,reduceCtorEq,jG,zG,ga,L1,l1])
  have e5:zM h.n h (h.push (.cells (Ri (Nh c s.m.epoch i) (.lit (.slice none 0 0))) 58)):=(zM.refl _ _).push _ (jM _);have E5:=E.step e5
  have hs5:zJ Hm (fun b=>h.n<=b) (h.push (.cells (Ri (Nh c s.m.epoch i) (.lit (.slice none 0 0))) 58)) (.sl h.n 0 1 (.kn 1)) [Nh c s.m.epoch i]:=
   zJ.ofAt (L:=[Ri (Nh c s.m.epoch i) (.lit (.slice none 0 0))]) (zI _ _) (jM _) (YP.nil.snoc (Br.2 ⟨_,rfl,.nil⟩)) rfl
  have hlv:=ho.lt;refine Cf (Ay (ho.ext e5 (jM _)) hs5 (fun b hb=>⟨zY E.1 hb,fun off n cap e=>by have:=hlv _ _ _ _ e;omega⟩) (by rw[Kh];simp;omega) (zY E5.1 (jM _))) ?_;rintro s6 h6 ⟨o6,e6⟩;have u1:=o6.one;have E6:zM H.n H h6:=E5.trans e6;repeat (first|((with_reducible refine jX ?_;simp only[vO];try simp only[vP,jB,jD,jH,jI,jF]);simp only[jN,jB,jE,jF,zG,ga,hwi])|simp only[jN,jB,jC,jD,jE,jF,reduceCtorEq,jG,jJ,jK,jL,zG,ga,u1,hwi])
  refine ih _ _ ⟨E6,s6,by rw[Mw];exact o6,?_⟩;simp only[jN,jE,jF,reduceCtorEq,ga]
 ·rintro t h hc ⟨E,v,ho,ga⟩;have X1:=(E.2 _ (jR h1)).trans h1;have L1:=xI X1;simp only[jN,jB,jE,jF,reduceCtorEq,ga,L1,hN,hc];exact⟨E,ho⟩
 ·refine⟨zM.refl _ _,.lit (.slice none 0 0),.nil,?_⟩;simp only[jN,jB,jE,jF,reduceCtorEq];(repeat' apply And.intro)<;>first|rfl|trivial
end
theorem CS{r:Nat}{ve vl:AV}{y:fU}(z:QG r G H c s vo vp vb y vd ve vl)(hx:s.now=some x)(hmo:oO s.m)(hno:Wl x):
 vR 42 [.ptr r 0] H fun v h'=>zM H.n H h'/\zJ Hm (fun b=>H.n<=b) h' v (Zc c s.m s.num x):=by
 refine zW Tryz.func42 rfl rfl ?_
 obtain⟨f1,f2,f3,f4⟩:=z.now x hx
 obtain⟨hA,hhA,eA,XA⟩:=xX H (.cells [.lit (.int .i64 y.pgp),.lit (.int .i64 y.pgs)] 36)
 have nA:hA.n=H.n+1:=by rw[hhA,zF]
 have Y0:=z.cr
 unfold EI at Y0
 have L0:=xI Y0
 have l0:=jR Y0
 have zA:=z.ext eA
 have Y:=zA.cr
 unfold EI at Y
 have L:=xI Y
 have l:=jR Y
 have i1:=zA.m.o.isSl
 have i2:=zA.m.p.isSl
 have i3:=zA.m.b.isSl
 have hdl:=hno.d
 have hlk:=hno.l
 have hk5:(y.od.k !=5)= !x.list:=by rw[hlk,f1];rfl
 simp only[jN,jB,jC,jE,jF,reduceCtorEq,jG,Tryz.ntmps42,L0,l0]
 cases hl:x.list with
 |true=>
  rw[hl]at hk5
  have hk5:(y.od.k !=5)=false:=hk5
  obtain⟨q1,q2⟩:=f4 hl
  have ht:Dh s.m x=some (y.pgp,y.pgs):=by unfold Dh;rw[if_pos hl,q1,q2]
  simp only[jN,reduceCtorEq,<-hhA,hk5]
  obtain⟨pp,hpp⟩:∃pp,pp=y.pgp:=⟨_,rfl⟩
  obtain⟨ps,hps⟩:∃ps,ps=y.pgs:=⟨_,rfl⟩
  have ET:=eA
  have XT:=XA
  rw[<-hpp,<-hps]at XT ht
  have zT:=z.ext ET
  have YT:=zT.cr
  unfold EI at YT
  have LT:=xI YT
  have LX:=xI XT
  have lX:=jR XT
  have iT1:=zT.m.o.isSl
  have iT2:=zT.m.p.isSl
  have iT3:=zT.m.b.isSl
  rw[zL [0,1,2,3,4,5,6,7,8,9,10] 1328091586345603859638970574589396992 (by kernel_rfl)]
  repeat ((with_reducible refine jX ?_;simp only[vO];try simp only[vP,jB,jD,jH,jI]);simp only[jN,jB,jE,jF,reduceCtorEq,jG,zG,LT,LX])
  refine⟨by simp only[yK,iT1,iT2,iT3,kS],?_⟩
  refine(LU pp ps zT.m hmo.om hmo.ok.1.1 hmo.ok.2.1.1).mono ?_
  rintro _ h2 ⟨e2,rfl⟩
  have E2:=ET.trans (e2.mono ET.1)
  cases ha:ZR s.m pp ps with
  |nil=>
   have es:Zc c s.m s.num x=[]:=by unfold Zc;rw[ht];simp only[ha]
   rw[es];have w1:([]:List Int).isEmpty=true:=rfl;have w2:([]:List Int).getD 0 0=0:=rfl;rw[w1,w2];repeat (first|((with_reducible refine jX ?_;simp only[vO];try simp only[vP,jB,jD,jH,jI,jF]);simp only[jN,jB,jE,jF,reduceCtorEq,zG])|simp only[jN,jB,jC,jD,jE,jF,reduceCtorEq,jG,jJ,jK,jL,zG,BW])
   exact⟨E2,.nil⟩
  |cons k rest=>
  have es:Zc c s.m s.num x=[bM c s.m.epoch s.num pp ps k x.op]:=by unfold Zc;rw[ht];simp only[ha]
  rw[es]
  have w1:(k::rest).isEmpty=false:=rfl
  have w2:(k::rest).getD 0 0=k:=rfl
  rw[w1,w2]
  have z2:=zT.ext e2
  have Y2:=z2.cr
  unfold EI at Y2
  have L2:=xI Y2
  have l2:=jR Y2
  have X2:=(e2.2 _ lX).trans XT
  have LX2:=xI X2
  have lX2:=jR X2
  have d1:=z2.od.one
  have d2:=z2.od.isSl
  repeat (first|((with_reducible refine jX ?_;simp only[vO];try simp only[vP,jB,jD,jH,jI,jF]);simp only[jN,jB,jE,jF,reduceCtorEq,zG])|simp only[jN,jB,jC,jD,jE,jF,reduceCtorEq,jG,jJ,jK,jL,zG,L2,l2,LX2,lX2,d1,oV])
  rw[zL [0,1,2,3,4,5,6,7,8,9,10,11,12,13,14,15,16,17,18,19,20,21,22,23,24,25,26,27,28,29,30,31] 89884656711723941651777934358929289314448235112359678142431932537936434635464445154823132552016674934817257730823257130545370310411889566543050319293616648756828771046982000626211787747373044833515251672440628431977573619334274750250591290122962676187363638472862302826908813701806091803491258484840206434304 (by kernel_rfl)]
  repeat ((with_reducible refine jX ?_;simp only[vO];try simp only[vP,jB,jD,jH,jI]);simp only[jN,jB,jE,jF,reduceCtorEq,jG,zG,L2,LX2])
  refine⟨by simp only[yK,d2],?_⟩
  refine(IG (o:=y.od) z2.od (by rw[f1];omega)).mono ?_
  rintro _ h3 ⟨e3,v3,rfl,hs3⟩
  have u1:=hs3.one
  have X3:=(e3.2 _ lX2).trans X2
  have LX3:=xI X3
  have lX3:=jR X3
  have E3:=E2.trans (e3.mono E2.1)
  have z3:=z2.ext e3
  have Y3:=z3.cr
  unfold EI at Y3
  have L3:=xI Y3
  have l3:=jR Y3
  unfold Fb
  repeat (first|((with_reducible refine jX ?_;simp only[vO];try simp only[vP,jB,jD,jH,jI,jF]);simp only[jN,jB,jD,jE,jF,reduceCtorEq,jG,zG,L3,l3,LX3,lX3])|simp only[jN,jB,jC,jD,jE,jF,reduceCtorEq,jG,jJ,jK,jL,zG,L3,l3,LX3,lX3,u1])
  have hs4:zJ xZ (fun b=>H.n<=b) h3 v3 x.op.d:=by rw[<-f1];exact hs3.lift fun b hb _=>⟨rfl,by omega⟩
  simp only[f1]
  refine⟨E3.push _ E3.1,?_⟩
  refine zJ.ofAt (L:=[Ri (bM c s.m.epoch s.num pp ps k x.op) v3]) (zI _ _) E3.1 (YP.nil.snoc (Br.2 ⟨v3,rfl,?_⟩)) rfl
  exact(hs4.ext ((zM.refl h3.n h3).push _ (jM _)) (jM _))
 |false=>
  rw[hl]at hk5;have hk5:(y.od.k !=5)=true:=hk5;have hpo:=f3 hl;simp only[jN,reduceCtorEq,<-hhA,hk5];rw[zL [0,1,2,3,4,5,6,7,8,9,10,11,12,17,13,14,15,16,18,19] 1291122938157978591658028208182221495131754874137094164908346457911242675803216585600044484902871806915186514781268869120 (by kernel_rfl)];repeat ((with_reducible refine jX ?_;simp only[vO];try simp only[vP,jB,jD,jH,jI]);simp only[jN,jB,jE,jF,reduceCtorEq,jG,zG,L,l])
  refine⟨by simp only[yK,i1,i2,i3,kS],?_⟩;obtain⟨hB,hhB⟩:∃hB,hB=hA.push (.cells [.lit (.int .i64 0),.lit (.int .i64 0)] 36):=⟨_,rfl⟩;rw[<-hhB];have eB:=ZS hhB;have ZB:=QJ hhB;refine(j6D y.pool (zA.m.ext eB (jM _)) hmo.ok.2.1.1 hmo.pg (by rw[f1];exact hno.s)).mono ?_;rintro _ h4 ⟨e4,rfl⟩;have Z4:=(e4.2 _ (jR ZB)).trans ZB;have lZ4:=jR Z4;have eB4:=eB.trans (e4.mono eB.1);have E4:=eA.trans (eB4.mono eA.1);have X4:=(eB4.2 _ (jR XA)).trans XA;rw[hpo,f1];obtain⟨a,b,e,hpr⟩:∃a b e,LR s.m x.pool x.op.s=(a,b,e):=⟨_,_,_,rfl⟩;obtain⟨h5,hh5⟩:∃h5,h5=h4.put hA.n (.cells [.lit (.int .i64 a),.lit (.int .i64 b)] 36):=⟨_,rfl⟩;have Z5:=Jj hh5 lZ4;have X5:=Qx hh5 (by omega) X4;have LZ5:=xI Z5;have lZ5:=jR Z5;have lX5:=jR X5;have E5:zM H.n H h5:=hh5▸E4.put _ (by omega);have e1:Dh s.m x=if e=0 then some (a,b)else none:=by unfold Dh;rw[hl,hpr];simp
  rw[hpr];unfold Tk;by_cases he:e=0
  ·have h00:(e !=0)=false:=by rw[he];rfl
   rw[if_pos he]at e1;obtain⟨hT,hhT⟩:∃hT,hT=h5.put H.n (.cells [.lit (.int .i64 a),.lit (.int .i64 b)] 36):=⟨_,rfl⟩;repeat (first|((with_reducible refine jX ?_;simp only[vO];try simp only[vP,jB]);simp only[jN,jB,jE,jF,reduceCtorEq,jG,zG,Z4,<-hh5,LZ5,X5,h00,<-hhT])|simp only[jN,jB,jC,jD,jE,jF,reduceCtorEq,jG,jJ,jK,jL,zG,Z4,lZ4,<-hh5,Z5,LZ5,lZ5,X5,lX5,h00,<-hhT])
   have ET:zM H.n H hT:=hhT▸E5.put _ (jM _);obtain⟨pp,hpp⟩:∃pp,pp=a:=⟨_,rfl⟩;obtain⟨ps,hps⟩:∃ps,ps=b:=⟨_,rfl⟩;have XT:hT.at H.n=some (.cells [.lit (.int .i64 pp),.lit (.int .i64 ps)] 36):=by rw[hhT,hpp,hps];exact qJ _ lX5
   have ht:Dh s.m x=some (pp,ps):=by rw[hpp,hps];exact e1
   have zT:=z.ext ET;have YT:=zT.cr;unfold EI at YT;have LT:=xI YT;have LX:=xI XT;have lX:=jR XT;have iT1:=zT.m.o.isSl;have iT2:=zT.m.p.isSl;have iT3:=zT.m.b.isSl;rw[zL [0,1,2,3,4,5,6,7,8,9,10] 1328091586345603859638970574589396992 (by kernel_rfl)];repeat ((with_reducible refine jX ?_;simp only[vO];try simp only[vP,jB,jD,jH,jI]);simp only[jN,jB,jE,jF,reduceCtorEq,jG,zG,LT,LX])
   refine⟨by simp only[yK,iT1,iT2,iT3,kS],?_⟩;refine(LU pp ps zT.m hmo.om hmo.ok.1.1 hmo.ok.2.1.1).mono ?_;rintro _ h2 ⟨e2,rfl⟩;have E2:=ET.trans (e2.mono ET.1);cases ha:ZR s.m pp ps with
   |nil=>
    have es:Zc c s.m s.num x=[]:=by unfold Zc;rw[ht];simp only[ha]
    rw[es];have w1:([]:List Int).isEmpty=true:=rfl;have w2:([]:List Int).getD 0 0=0:=rfl;rw[w1,w2];repeat (first|((with_reducible refine jX ?_;simp only[vO];try simp only[vP,jB,jD,jH,jI,jF]);simp only[jN,jB,jE,jF,reduceCtorEq,zG])|simp only[jN,jB,jC,jD,jE,jF,reduceCtorEq,jG,jJ,jK,jL,zG,BW])
    exact⟨E2,.nil⟩
   |cons k rest=>
   have es:Zc c s.m s.num x=[bM c s.m.epoch s.num pp ps k x.op]:=by unfold Zc;rw[ht];simp only[ha]
   rw[es];have w1:(k::rest).isEmpty=false:=rfl;have w2:(k::rest).getD 0 0=k:=rfl;rw[w1,w2];have z2:=zT.ext e2;have Y2:=z2.cr;unfold EI at Y2;have L2:=xI Y2;have l2:=jR Y2;have X2:=(e2.2 _ lX).trans XT;have LX2:=xI X2;have lX2:=jR X2;have d1:=z2.od.one;have d2:=z2.od.isSl;repeat (first|((with_reducible refine jX ?_;simp only[vO];try simp only[vP,jB,jD,jH,jI,jF]);simp only[jN,jB,jE,jF,reduceCtorEq,zG])|simp only[jN,jB,jC,jD,jE,jF,reduceCtorEq,jG,jJ,jK,jL,zG,L2,l2,LX2,lX2,d1,oV])
   rw[zL [0,1,2,3,4,5,6,7,8,9,10,11,12,13,14,15,16,17,18,19,20,21,22,23,24,25,26,27,28,29,30,31] 89884656711723941651777934358929289314448235112359678142431932537936434635464445154823132552016674934817257730823257130545370310411889566543050319293616648756828771046982000626211787747373044833515251672440628431977573619334274750250591290122962676187363638472862302826908813701806091803491258484840206434304 (by kernel_rfl)];repeat ((with_reducible refine jX ?_;simp only[vO];try simp only[vP,jB,jD,jH,jI]);simp only[jN,jB,jE,jF,reduceCtorEq,jG,zG,L2,LX2])
   refine⟨by simp only[yK,d2],?_⟩;refine(IG (o:=y.od) z2.od (by rw[f1];omega)).mono ?_;rintro _ h3 ⟨e3,v3,rfl,hs3⟩;have u1:=hs3.one;have X3:=(e3.2 _ lX2).trans X2;have LX3:=xI X3;have lX3:=jR X3;have E3:=E2.trans (e3.mono E2.1);have z3:=z2.ext e3;have Y3:=z3.cr;unfold EI at Y3;have L3:=xI Y3;have l3:=jR Y3;unfold Fb;repeat (first|((with_reducible refine jX ?_;simp only[vO];try simp only[vP,jB,jD,jH,jI,jF]);simp only[jN,jB,jD,jE,jF,reduceCtorEq,jG,zG,L3,l3,LX3,lX3])|simp only[jN,jB,jC,jD,jE,jF,reduceCtorEq,jG,jJ,jK,jL,zG,L3,l3,LX3,lX3,u1])
   have hs4:zJ xZ (fun b=>H.n<=b) h3 v3 x.op.d:=by rw[<-f1];exact hs3.lift fun b hb _=>⟨rfl,by omega⟩
   simp only[f1];refine⟨E3.push _ E3.1,?_⟩;refine zJ.ofAt (L:=[Ri (bM c s.m.epoch s.num pp ps k x.op) v3]) (zI _ _) E3.1 (YP.nil.snoc (Br.2 ⟨v3,rfl,?_⟩)) rfl;exact(hs4.ext ((zM.refl h3.n h3).push _ (jM _)) (jM _))
  ·have h00:(e !=0)=true:=bne_iff_ne.2 he;rw[if_neg he]at e1;have es:Zc c s.m s.num x=[]:=by unfold Zc;rw[e1]
   rw[es];repeat (first|((with_reducible refine jX ?_;simp only[vO];try simp only[vP,jB]);simp only[jN,jB,jE,jF,reduceCtorEq,jG,zG,Z4,<-hh5,LZ5,X5,h00])|simp only[jN,jB,jC,jD,jE,jF,reduceCtorEq,jG,jJ,jK,jL,zG,Z4,lZ4,<-hh5,Z5,LZ5,lZ5,X5,lX5,h00])
   exact⟨E5,.nil⟩
section
def j0I(r:Nat)(G:Nat->Prop)(H h:AH)(c:vM)(s:Zg):Prop:=Kq r H h/\j0H r (fun b=>G b\/H.n<=b) h c s
section
variable {r:Nat} {G:Nat->Prop} {H h:AH} {c:vM} {s:Zg} {vo vp vb vd ve vl:AV} {y:fU}
theorem j0I.stay(z:QG r G H c s vo vp vb y vd ve vl)(e:zM H.n H h):j0I r G H h c s:=⟨.ext e,_,_,_,_,_,_,_,z.wide e fun b hb=> .inl hb⟩
theorem RK{v0:AV}(z:QG r G H c s vo vp vb y vd ve vl)(hn0:0<=s.num/\s.num<=1000000000)(pool pgp pgs:Int)(o:MK)(hf:j5A ⟨pool,pgp,pgs,0,o,y.la⟩ x)(hd:zJ xZ (Gr G r) H v0 o.d):
 vR 46 [.ptr r 0,.lit (.int .i64 pool),.agg (Fb o v0),eN pgp pgs] H fun v h'=>Kq r H h'/\j0H r G h' c (Dy s x):=by
 refine zW Tryz.func46 rfl rfl ?_
 have v1:=hd.one
 have v2:=hd.isSl
 obtain⟨hA,hhA⟩:∃hA,hA=(H.push (.cells (Fb o v0) 41)).push (.cells [.lit (.int .i64 pgp),.lit (.int .i64 pgs)] 36):=⟨_,rfl⟩
 have eA:zM H.n H hA:=hhA▸((zM.refl _ _).push _ (jM _)).push _ (by rw[zF];omega)
 have XA:hA.at H.n=some (.cells (Fb o v0) 41):=hhA▸(xE _ (by rw[zF];omega)).trans (zI _ _)
 have ZA:hA.at (H.n+1)=some (.cells [.lit (.int .i64 pgp),.lit (.int .i64 pgs)] 36):=hhA▸zI (H.push _) _
 have lr:=z.lt
 have zA:=z.ext eA
 have Y:=zA.cr
 unfold EI at Y
 have L:=xI Y
 have l:=jR Y
 unfold Fb at XA hhA
 have hw:IntKind.i64.wrap (s.num+1)=s.num+1:=vW (by omega) (by omega)
 obtain⟨hB,hhB⟩:∃hB,hB=hA.put r (EI c s.m vo vp vb (s.num+1) s.now.isSome s.ans.isSome y vd ve vl):=⟨_,rfl⟩
 have YB:=Jj hhB l
 have XB:=Qx hhB (by omega) XA
 have ZB:=Qx hhB (by omega) ZA
 unfold EI at hhB YB
 have lB:=jR YB
 have LXB:=xI XB
 have LZB:=xI ZB
 have kB:Kq r H hB:=hhB▸(Kq.ext eA).put _
 unfold Fb eN
 simp only[jN,jB,jC,jE,jF,reduceCtorEq,jG,Tryz.ntmps46,v1,<-hhA,L,Y,hw,<-hhB]
 obtain⟨hC,hhC⟩:∃hC,hC=hB.put r (.cells [.lit (.int .i64 c.k),.lit (.int .i64 c.i),.lit (.int .i64 c.boot),.lit (.int .i64 c.mons),.lit (.int .i64 c.tries),.lit (.int .i64 s.m.epoch),vo,vp,vb,.lit (.int .i64 s.m.leaf),.lit (.int .i64 (s.num+1)),.lit (.bool true),.lit (.bool s.ans.isSome),.lit (.int .i64 y.pool),.lit (.int .i64 y.od.k),.lit (.string y.od.s),vd,.lit (.int .i64 y.od.e),.lit (.int .i64 y.od.n),.lit (.int .i64 y.pgp),.lit (.int .i64 y.pgs),.lit (.int .i64 y.tr),.lit (.int .i64 y.la.e),.lit (.string y.la.s),.lit (.int .i64 y.la.v1),.lit (.int .i64 y.la.v2),ve,vl] 70):=⟨_,rfl⟩
 have YC:=Jj hhC lB
 have lC:=jR YC
 have kC:Kq r H hC:=hhC▸kB.put _
 have XC:=Qx hhC (by omega) XB
 have ZC:=Qx hhC (by omega) ZB
 have LXC:=xI XC
 have LZC:=xI ZC
 obtain⟨hD,hhD⟩:∃hD,hD=hC.put r (.cells [.lit (.int .i64 c.k),.lit (.int .i64 c.i),.lit (.int .i64 c.boot),.lit (.int .i64 c.mons),.lit (.int .i64 c.tries),.lit (.int .i64 s.m.epoch),vo,vp,vb,.lit (.int .i64 s.m.leaf),.lit (.int .i64 (s.num+1)),.lit (.bool true),.lit (.bool s.ans.isSome),.lit (.int .i64 pool),.lit (.int .i64 y.od.k),.lit (.string y.od.s),vd,.lit (.int .i64 y.od.e),.lit (.int .i64 y.od.n),.lit (.int .i64 y.pgp),.lit (.int .i64 y.pgs),.lit (.int .i64 y.tr),.lit (.int .i64 y.la.e),.lit (.string y.la.s),.lit (.int .i64 y.la.v1),.lit (.int .i64 y.la.v2),ve,vl] 70):=⟨_,rfl⟩
 have YD:=Jj hhD lC
 have lD:=jR YD
 have kD:Kq r H hD:=hhD▸kC.put _
 have XD:=Qx hhD (by omega) XC
 have ZD:=Qx hhD (by omega) ZC
 have LXD:=xI XD
 have LZD:=xI ZD
 obtain⟨hE,hhE⟩:∃hE,hE=hD.put r (.cells [.lit (.int .i64 c.k),.lit (.int .i64 c.i),.lit (.int .i64 c.boot),.lit (.int .i64 c.mons),.lit (.int .i64 c.tries),.lit (.int .i64 s.m.epoch),vo,vp,vb,.lit (.int .i64 s.m.leaf),.lit (.int .i64 (s.num+1)),.lit (.bool true),.lit (.bool s.ans.isSome),.lit (.int .i64 pool),.lit (.int .i64 o.k),.lit (.string o.s),v0,.lit (.int .i64 o.e),.lit (.int .i64 o.n),.lit (.int .i64 y.pgp),.lit (.int .i64 y.pgs),.lit (.int .i64 y.tr),.lit (.int .i64 y.la.e),.lit (.string y.la.s),.lit (.int .i64 y.la.v1),.lit (.int .i64 y.la.v2),ve,vl] 70):=⟨_,rfl⟩
 have YE:=Jj hhE lD
 have lE:=jR YE
 have kE:Kq r H hE:=hhE▸kD.put _
 have XE:=Qx hhE (by omega) XD
 have ZE:=Qx hhE (by omega) ZD
 have LZE:=xI ZE
 obtain⟨hF,hhF⟩:∃hF,hF=hE.put r (.cells [.lit (.int .i64 c.k),.lit (.int .i64 c.i),.lit (.int .i64 c.boot),.lit (.int .i64 c.mons),.lit (.int .i64 c.tries),.lit (.int .i64 s.m.epoch),vo,vp,vb,.lit (.int .i64 s.m.leaf),.lit (.int .i64 (s.num+1)),.lit (.bool true),.lit (.bool s.ans.isSome),.lit (.int .i64 pool),.lit (.int .i64 o.k),.lit (.string o.s),v0,.lit (.int .i64 o.e),.lit (.int .i64 o.n),.lit (.int .i64 pgp),.lit (.int .i64 pgs),.lit (.int .i64 y.tr),.lit (.int .i64 y.la.e),.lit (.string y.la.s),.lit (.int .i64 y.la.v1),.lit (.int .i64 y.la.v2),ve,vl] 70):=⟨_,rfl⟩
 have YF:=Jj hhF lE
 have lF:=jR YF
 have kF:Kq r H hF:=hhF▸kE.put _
 obtain⟨hG,hhG⟩:∃hG,hG=hF.put r (.cells [.lit (.int .i64 c.k),.lit (.int .i64 c.i),.lit (.int .i64 c.boot),.lit (.int .i64 c.mons),.lit (.int .i64 c.tries),.lit (.int .i64 s.m.epoch),vo,vp,vb,.lit (.int .i64 s.m.leaf),.lit (.int .i64 (s.num+1)),.lit (.bool true),.lit (.bool s.ans.isSome),.lit (.int .i64 pool),.lit (.int .i64 o.k),.lit (.string o.s),v0,.lit (.int .i64 o.e),.lit (.int .i64 o.n),.lit (.int .i64 pgp),.lit (.int .i64 pgs),.lit (.int .i64 0),.lit (.int .i64 y.la.e),.lit (.string y.la.s),.lit (.int .i64 y.la.v1),.lit (.int .i64 y.la.v2),ve,vl] 70):=⟨_,rfl⟩
 have YG:=Jj hhG lF
 have kG:Kq r H hG:=hhG▸kF.put _
 rw[zL [0,1,2,3,4,5,6,7,8,9,10,11,12,13,14,15,16,17,18,19,20,21,22] 878693943373947012260230262980158788247076806973089499748306140647551144954764703855089496539461596403437011800073841492861418298166159026048561882671530115072 (by kernel_rfl)]
 repeat ((with_reducible refine jX ?_;simp only[vO];try simp only[vP,jB,jD,jH,jI]);simp only[jN,jB,jE,jF,reduceCtorEq,jG,zG,LXB,LZB,YB])
 refine⟨by simp only[yK,v2],?_⟩
 repeat (first|((with_reducible refine jX ?_;simp only[vO];try simp only[vP,jB,jD,jH,jI]);simp only[jN,jB,jE,jF,reduceCtorEq,jG,zG,v1,YC,<-hhC,LXC,LZC,YD,<-hhD,LXD,LZD,YE,<-hhE,LZE,YF,<-hhF,<-hhG])|refine⟨by simp only[yK,v2],?_⟩)
 have hl:∀b,Gr G r b->b<H.n->hG.at b=H.at b/\Gr G r b:=fun b hb hlt=>⟨kG.2 b hlt hb.2,hb⟩
 refine⟨.inl trivial,kG,vo,vp,vb,⟨pool,pgp,pgs,0,o,y.la⟩,v0,ve,vl,YG,z.m.lift hl,hd.lift hl,z.ld.lift hl,z.ll.lift hl,?_,z.ans⟩
 intro w hw9
 obtain rfl:x=w:=jS hw9
 exact hf
end
end
section
section
variable {r:Nat} {G:Nat->Prop} {H h:AH} {c:vM} {s:Zg} {vo vp vb vd ve vl:AV} {y:fU}
theorem sZ(a:Rj){we wl:AV}(z:QG r G H c s vo vp vb y vd ve vl)(hd:zJ xZ (Gr G r) H we a.d)(hl:zJ JX (Gr G r) H wl a.l):
 vR 43 [.ptr r 0,.agg (YS a we wl)] H fun v h'=>Kq r H h'/\j0H r G h' c (MV s a):=by
 refine zW Tryz.func43 rfl rfl ?_
 have v1:=hd.one
 have v2:=hl.one
 have v3:=hd.isSl
 have v4:=hl.isSl
 obtain⟨hB,hhB,eA,XB⟩:=xX H (.cells (YS a we wl) 68)
 have lr:=z.lt
 have zA:=z.ext eA
 have YB:=zA.cr
 unfold EI at YB
 have lB:=jR YB
 unfold YS at XB hhB
 have LXB:=xI XB
 have kB:Kq r H hB:= .ext eA
 obtain⟨hC,hhC⟩:∃hC,hC=hB.put r (.cells [.lit (.int .i64 c.k),.lit (.int .i64 c.i),.lit (.int .i64 c.boot),.lit (.int .i64 c.mons),.lit (.int .i64 c.tries),.lit (.int .i64 s.m.epoch),vo,vp,vb,.lit (.int .i64 s.m.leaf),.lit (.int .i64 s.num),.lit (.bool false),.lit (.bool s.ans.isSome),.lit (.int .i64 y.pool),.lit (.int .i64 y.od.k),.lit (.string y.od.s),vd,.lit (.int .i64 y.od.e),.lit (.int .i64 y.od.n),.lit (.int .i64 y.pgp),.lit (.int .i64 y.pgs),.lit (.int .i64 y.tr),.lit (.int .i64 y.la.e),.lit (.string y.la.s),.lit (.int .i64 y.la.v1),.lit (.int .i64 y.la.v2),ve,vl] 70):=⟨_,rfl⟩
 have YC:=Jj hhC lB
 have lC:=jR YC
 have kC:Kq r H hC:=hhC▸kB.put _
 have XC:=Qx hhC (by omega) XB
 have LXC:=xI XC
 obtain⟨hD,hhD⟩:∃hD,hD=hC.put r (.cells [.lit (.int .i64 c.k),.lit (.int .i64 c.i),.lit (.int .i64 c.boot),.lit (.int .i64 c.mons),.lit (.int .i64 c.tries),.lit (.int .i64 s.m.epoch),vo,vp,vb,.lit (.int .i64 s.m.leaf),.lit (.int .i64 s.num),.lit (.bool false),.lit (.bool true),.lit (.int .i64 y.pool),.lit (.int .i64 y.od.k),.lit (.string y.od.s),vd,.lit (.int .i64 y.od.e),.lit (.int .i64 y.od.n),.lit (.int .i64 y.pgp),.lit (.int .i64 y.pgs),.lit (.int .i64 y.tr),.lit (.int .i64 y.la.e),.lit (.string y.la.s),.lit (.int .i64 y.la.v1),.lit (.int .i64 y.la.v2),ve,vl] 70):=⟨_,rfl⟩
 have YD:=Jj hhD lC
 have lD:=jR YD
 have kD:Kq r H hD:=hhD▸kC.put _
 have XD:=Qx hhD (by omega) XC
 have LXD:=xI XD
 obtain⟨hE,hhE⟩:∃hE,hE=hD.put r (.cells [.lit (.int .i64 c.k),.lit (.int .i64 c.i),.lit (.int .i64 c.boot),.lit (.int .i64 c.mons),.lit (.int .i64 c.tries),.lit (.int .i64 s.m.epoch),vo,vp,vb,.lit (.int .i64 s.m.leaf),.lit (.int .i64 s.num),.lit (.bool false),.lit (.bool true),.lit (.int .i64 y.pool),.lit (.int .i64 y.od.k),.lit (.string y.od.s),vd,.lit (.int .i64 y.od.e),.lit (.int .i64 y.od.n),.lit (.int .i64 y.pgp),.lit (.int .i64 y.pgs),.lit (.int .i64 y.tr),.lit (.int .i64 a.e),.lit (.string a.s),.lit (.int .i64 a.v1),.lit (.int .i64 a.v2),we,wl] 70):=⟨_,rfl⟩
 have YE:=Jj hhE lD
 have kE:Kq r H hE:=hhE▸kD.put _
 unfold YS
 simp only[jN,jB,jC,Tryz.ntmps43,v1,v2,<-hhB]
 rw[zL [0,1,2,3,4,5,6,7,8,9,10,11,12] 374075901509607022686168500007037044081094117294080 (by kernel_rfl)]
 repeat (first|((with_reducible refine jX ?_;simp only[vO];try simp only[vP,jB,jD,jH,jI]);simp only[jN,jB,jE,jF,reduceCtorEq,jG,zG,LXB,v1,v2,YB,YC,<-hhC,LXC,YD,<-hhD,LXD,<-hhE])|refine⟨by simp only[yK,v3,v4,kS],?_⟩)
 have hlf:∀b,Gr G r b->b<H.n->hE.at b=H.at b/\Gr G r b:=fun b hb hlt=>⟨kE.2 b hlt hb.2,hb⟩
 refine⟨.inl trivial,kE,vo,vp,vb,⟨y.pool,y.pgp,y.pgs,y.tr,y.od,a⟩,vd,we,wl,YE,z.m.lift hlf,z.od.lift hlf,hd.lift hlf,hl.lift hlf,(fun w hw9=>by cases hw9),?_⟩
 intro w hw9
 exact jS hw9
theorem Wj(z:QG r G H c s vo vp vb y vd ve vl)(ha:s.ans=none):vR 27 [.ptr r 0] H fun v h'=>zM H.n H h'/\v= .tup [.agg (YS (Ci 0) (.lit (.slice none 0 0)) (.lit (.slice none 0 0))),.lit (.bool false)]:=by
 refine zW Tryz.func27 rfl rfl ?_;obtain⟨hA,hhA,eA,XA⟩:=xX H (.cells (YS (Ci 0) (.lit (.slice none 0 0)) (.lit (.slice none 0 0))) 68);have Y:=(z.ext eA).cr;unfold EI at Y;have b2:s.ans.isSome=false:=by rw[ha];rfl
 rw[b2]at Y;have L:=xI Y;unfold YS Ci at hhA XA;simp only[]at hhA XA;have lX:=jR XA;simp only[jN,jB,jC,jE,jF,reduceCtorEq,jG,Tryz.ntmps27,<-hhA,L,XA,lX];exact⟨eA.put _ (jM _),rfl⟩
theorem Rk(a:Rj)(z:QG r G H c s vo vp vb y vd ve vl)(ha:s.ans=some a):
 vR 27 [.ptr r 0] H fun v h'=>Kq r H h'/\j0H r G h' c (Bg s)/\∃wd wl,v= .tup [.agg (YS a wd wl),.lit (.bool true)]/\zJ xZ (Gr G r) h' wd a.d/\zJ JX (Gr G r) h' wl a.l:=by
 refine zW Tryz.func27 rfl rfl ?_
 obtain⟨hA,hhA,eA,XA⟩:=xX H (.cells (YS (Ci 0) (.lit (.slice none 0 0)) (.lit (.slice none 0 0))) 68)
 have lr:=z.lt
 have Y:=(z.ext eA).cr
 unfold EI at Y
 have b2:s.ans.isSome=true:=by rw[ha];rfl
 rw[b2]at Y
 have L:=xI Y
 have l:=jR Y
 have nA:hA.n=H.n+1:=by rw[hhA,zF]
 have o1:=z.ld.one
 have o2:=z.ll.one
 unfold YS Ci at hhA XA
 simp only[]at hhA XA
 obtain⟨hB,hhB⟩:∃hB,hB=hA.put r (.cells [.lit (.int .i64 c.k),.lit (.int .i64 c.i),.lit (.int .i64 c.boot),.lit (.int .i64 c.mons),.lit (.int .i64 c.tries),.lit (.int .i64 s.m.epoch),vo,vp,vb,.lit (.int .i64 s.m.leaf),.lit (.int .i64 s.num),.lit (.bool s.now.isSome),.lit (.bool false),.lit (.int .i64 y.pool),.lit (.int .i64 y.od.k),.lit (.string y.od.s),vd,.lit (.int .i64 y.od.e),.lit (.int .i64 y.od.n),.lit (.int .i64 y.pgp),.lit (.int .i64 y.pgs),.lit (.int .i64 y.tr),.lit (.int .i64 y.la.e),.lit (.string y.la.s),.lit (.int .i64 y.la.v1),.lit (.int .i64 y.la.v2),ve,vl] 70):=⟨_,rfl⟩
 have YB:=Jj hhB l
 have nB:hB.n=hA.n:=by rw[hhB,kZ]
 have LB:=xI YB
 have lB:=jR YB
 have XB:=Qx hhB (by omega) XA
 obtain⟨hC,hhC⟩:∃hC,hC=hB.push (.cells [.lit (.int .i64 y.la.e),.lit (.string y.la.s),.lit (.int .i64 y.la.v1),.lit (.int .i64 y.la.v2),ve,vl] 68):=⟨_,rfl⟩
 have eC:=ZS hhC
 have YC:=(eC.2 _ lB).trans YB
 have XC:=(eC.2 _ (jR XB)).trans XB
 have ZC:hC.at hA.n=some (.cells [.lit (.int .i64 y.la.e),.lit (.string y.la.s),.lit (.int .i64 y.la.v1),.lit (.int .i64 y.la.v2),ve,vl] 68):=by rw[<-nB];exact hhC▸zI _ _
 have lC:=jR YC
 have nC:hC.n=hA.n+1:=by rw[hhC,zF,nB]
 obtain⟨hD,hhD⟩:∃hD,hD=hC.put r (.cells [.lit (.int .i64 c.k),.lit (.int .i64 c.i),.lit (.int .i64 c.boot),.lit (.int .i64 c.mons),.lit (.int .i64 c.tries),.lit (.int .i64 s.m.epoch),vo,vp,vb,.lit (.int .i64 s.m.leaf),.lit (.int .i64 s.num),.lit (.bool s.now.isSome),.lit (.bool false),.lit (.int .i64 y.pool),.lit (.int .i64 y.od.k),.lit (.string y.od.s),vd,.lit (.int .i64 y.od.e),.lit (.int .i64 y.od.n),.lit (.int .i64 y.pgp),.lit (.int .i64 y.pgs),.lit (.int .i64 y.tr),.lit (.int .i64 (Ci 0).e),.lit (.string (Ci 0).s),.lit (.int .i64 (Ci 0).v1),.lit (.int .i64 (Ci 0).v2),(.lit (.slice none 0 0)),(.lit (.slice none 0 0))] 70):=⟨_,rfl⟩
 have YD:=Jj hhD lC
 have XD:=Qx hhD (by omega) XC
 have ZD:=Qx hhD (by omega) ZC
 have lXD:=jR XD
 have LZD:=xI ZD
 unfold Ci at hhD
 simp only[]at hhD
 simp only[jN,jB,jC,jE,jF,reduceCtorEq,jG,Tryz.ntmps27,<-hhA,L,Y,<-hhB,LB,nB,o1,o2,<-hhC,YC,<-hhD,XD,lXD,LZD]
 obtain⟨hE,hhE⟩:∃hE,hE=hD.put H.n (.cells [.lit (.int .i64 y.la.e),.lit (.string y.la.s),.lit (.int .i64 y.la.v1),.lit (.int .i64 y.la.v2),ve,vl] 68):=⟨_,rfl⟩
 rw[<-hhE]
 have kE:Kq r H hE:=⟨by rw[hhE,kZ,hhD,kZ,nC];omega,fun b hb hbr=>by rw[hhE,zE _ (by omega),hhD,zE _ (Ne.symm hbr),eC.2 b (by omega),hhB,zE _ (Ne.symm hbr)];exact eA.2 b hb⟩
 have YE:=Qx hhE (by omega) YD
 have hlf:∀b,Gr G r b->b<H.n->hE.at b=H.at b/\Gr G r b:=fun b hb hlt=>⟨kE.2 b hlt hb.2,hb⟩
 have hla:=z.ans a ha
 refine⟨kE,⟨vo,vp,vb,⟨y.pool,y.pgp,y.pgs,y.tr,y.od,Ci 0⟩,vd,.lit (.slice none 0 0),.lit (.slice none 0 0),YE,z.m.lift hlf,z.od.lift hlf,.nil,.nil,(fun x hx=>z.now x hx),(fun x hx=>by cases hx)⟩,ve,vl,by rw[<-hla];rfl,hla▸z.ld.lift hlf,hla▸z.ll.lift hlf⟩
theorem j18{N:Nat}(z:QG r G H c s vo vp vb y vd ve vl)(hN:c.mons=(N:Int))(hN5:N<=5)(hmo:oO s.m)(hno:∀x,s.now=some x->Wl x/\x.tries<=100000000):
 vR 21 [.ptr r 0] H fun v h'=>j0I r G H h' c (KS c s)/\zJ Hm (fun b=>H.n<=b) h' v (KT c N s):=by
 refine zW Tryz.func21 rfl rfl ?_
 simp only[jN,jB,jC,jE,reduceCtorEq,Tryz.ntmps21]
 refine(cN z hN hN5).mono ?_
 rintro v1 h1 ⟨e1,ow⟩
 have z1:=z.ext e1
 have lr:=z.lt
 have Y:=z1.cr
 unfold EI at Y
 cases hx:s.now with
 |none=>
  have e2:KS c s=s:=by unfold KS;rw[hx]
  have e3:KT c N s=XW c s.m.epoch N:=by unfold KT;rw[hx]
  rw[e2,e3];have b1:s.now.isSome=false:=by rw[hx];rfl
  rw[b1]at Y;have L:=xI Y;simp only[jN,jB,jE,jF,reduceCtorEq,L];exact⟨.stay z e1,ow.toSl (fun _ hh=>hh) (fun _ hh=>hh)⟩
 |some x=>
 have b1:s.now.isSome=true:=by rw[hx];rfl
 rw[b1]at Y
 have L:=xI Y
 have l:=jR Y
 obtain⟨hok,ht⟩:=hno x hx
 have ht0:=hok.t.1
 obtain⟨f1,f2,f3,f4⟩:=z.now x hx
 have hw:IntKind.i64.wrap (y.tr+1)=x.tries+1:=by rw[f2];exact vW (by omega) (by omega)
 obtain⟨h2,hh2⟩:∃h2,h2=h1.put r (.cells [.lit (.int .i64 c.k),.lit (.int .i64 c.i),.lit (.int .i64 c.boot),.lit (.int .i64 c.mons),.lit (.int .i64 c.tries),.lit (.int .i64 s.m.epoch),vo,vp,vb,.lit (.int .i64 s.m.leaf),.lit (.int .i64 s.num),.lit (.bool true),.lit (.bool s.ans.isSome),.lit (.int .i64 y.pool),.lit (.int .i64 y.od.k),.lit (.string y.od.s),vd,.lit (.int .i64 y.od.e),.lit (.int .i64 y.od.n),.lit (.int .i64 y.pgp),.lit (.int .i64 y.pgs),.lit (.int .i64 (x.tries+1)),.lit (.int .i64 y.la.e),.lit (.string y.la.s),.lit (.int .i64 y.la.v1),.lit (.int .i64 y.la.v2),ve,vl] 70):=⟨_,rfl⟩
 have Y2:=Jj hh2 l
 have L2:=xI Y2
 have l2:=jR Y2
 have k2':Kq r h1 h2:=hh2▸(Kq.refl r h1).put _
 have k2:Kq r H h2:=(Kq.ext e1).trans k2'
 have hlf:∀b,Gr G r b->b<h1.n->h2.at b=h1.at b/\Gr G r b:=fun b hb hlt=>⟨k2'.2 b hlt hb.2,hb⟩
 have z2:QG r G h2 c ⟨s.m,s.num,some (Ki x),s.ans⟩ vo vp vb ⟨y.pool,y.pgp,y.pgs,x.tries+1,y.od,y.la⟩ vd ve vl:=
  ⟨Y2,z1.m.lift hlf,z1.od.lift hlf,z1.ld.lift hlf,z1.ll.lift hlf,(fun w hw9=>by obtain rfl:Ki x=w:=jS hw9;exact⟨f1,rfl,f3,f4⟩),z1.ans⟩
 have ow2:Db H.n (fun b=>H.n<=b) h2 v1 (XW c s.m.epoch N):=hh2▸ow.lift (fun b off n cap hv=>zE _ (by have:=Db.lo ow hv;omega)) (fun b hb _ _=>zE _ (by omega))
 simp only[jN,jB,jE,jF,reduceCtorEq,jG,L,Y,hw,<-hh2]
 rw[zL [0,1,2,3,4,5,6,7,8] 1205237336053966613250560 (by kernel_rfl)]
 by_cases hlt:c.tries<x.tries+1
 ·have e2:KS c s=MV s (Ci 110):=by unfold KS;rw[hx];simp only[];rw[if_pos hlt]
  have e3:KT c N s=XW c s.m.epoch N:=by unfold KT;rw[hx];simp only[];rw[if_pos hlt]
  rw[e2,e3];repeat ((with_reducible refine jX ?_;simp only[vO];try simp only[vP,jB,jD,jH,jI,jF]);simp only[jN,jB,jE,jF,reduceCtorEq,jG,zG,L2,hlt])
  refine(sZ (Ci 110) (we:= .lit (.slice none 0 0)) (wl:= .lit (.slice none 0 0)) z2 .nil .nil).mono ?_;rintro _ h3 ⟨k3,wo,wp,wb,w1,w2,w3,w4,z3⟩;simp only[jN,jB,jE,jF,reduceCtorEq];exact⟨⟨k2.trans k3,wo,wp,wb,w1,w2,w3,w4,z3.lift rfl fun b hb _=>⟨rfl,.inl hb.1⟩⟩,k3.sl (ow2.toSl (F:=fun b=>H.n<=b) (fun _ hh=>hh) (fun _ hh=>hh)) (fun b hb=>by omega)⟩
 ·have e2:KS c s=⟨s.m,s.num,some (Ki x),s.ans⟩:=by unfold KS;rw[hx];simp only[];rw[if_neg hlt]
  have e3:KT c N s=XW c s.m.epoch N++Zc c s.m s.num (Ki x):=by unfold KT;rw[hx];simp only[];rw[if_neg hlt]
  rw[e2,e3];repeat ((with_reducible refine jX ?_;simp only[vO];try simp only[vP,jB,jD,jH,jI,jF]);simp only[jN,jB,jE,jF,reduceCtorEq,jG,zG,L2,hlt])
  refine(CS (x:=Ki x) z2 rfl hmo ⟨hok.s,hok.d,hok.l,by show 0<=x.tries+1/\x.tries+1<=1000000000;omega⟩).mono ?_;rintro v3 h3 ⟨e3,hs3⟩;simp only[jN,jB,jF];have n2:=k2.1;have n3:=e3.1;have hlv:=ow2.lt;refine qM (Ay (ow2.ext e3 (jM _)) hs3 (fun b hb=>⟨by omega,fun off n cap e=>by have:=hlv _ _ _ _ e;omega⟩) (by rw[Kh];have:=Yk c s.m s.num (Ki x);exact(by omega:N+(Zc c s.m s.num (Ki x)).length<=100000)) (by omega)) ?_;rintro s4 h4 ⟨o4,e4⟩;simp only[jN,jB,jE,reduceCtorEq];have k3:=k2.trans (.ext e3);have k4:Kq r H h4:=⟨zY k3.1 e4.1,fun b hb hq=>(e4.2 b hb).trans (k3.2 b hb hq)⟩;have r4':h4.at r=h2.at r:=(e4.2 r lr).trans (e3.2 r (by omega));refine⟨⟨k4,vo,vp,vb,⟨y.pool,y.pgp,y.pgs,x.tries+1,y.od,y.la⟩,vd,ve,vl,?_⟩,o4.toSl (fun _ hh=>hh) (fun _ hh=>hh)⟩;have hl4:∀b,Gr G r b->b<H.n->h4.at b=H.at b/\Gr (fun b=>G b\/H.n<=b) r b:=fun b hb hlt=>⟨k4.2 b hlt hb.2,.inl hb.1,hb.2⟩;exact⟨r4'.trans z2.cr,z.m.lift hl4,z.od.lift hl4,z.ld.lift hl4,z.ll.lift hl4,z2.now,z2.ans⟩
end
end
theorem DA(hm:vG F H m vo vp vb)(hok:Ds m):
 vR 64 [vS m vo vp vb] H fun r h'=>zM H.n H h'/\∃ro rp rb,r=vS m ro rp rb/\∀p0,p0<H.n->JE H.n p0 h' m ro rp rb:=by
 refine zW Tryz.func64 rfl rfl ?_
 obtain⟨⟨lo,-⟩,⟨lp,-⟩,lb,hbk⟩:=hok
 unfold Sm at lo lp lb
 have o1:=hm.o.one
 have o2:=hm.p.one
 have o3:=hm.b.one
 have s3:=hm.b.isSl
 have d3:=hm.b.lenD
 obtain⟨hp,hhp⟩:∃hp,hp=(H.push (.cells [.lit (.int .i64 m.epoch),vo,vp,vb,.lit (.int .i64 m.leaf)] 66)).push (.cells [.lit (.int .i64 0),.lit (.slice none 0 0),.lit (.slice none 0 0),.lit (.slice none 0 0),.lit (.int .i64 0)] 66):=⟨_,rfl⟩
 have EP:zM H.n H hp:=hhp▸((zM.refl _ _).push _ (jM _)).push _ (by rw[zF];omega)
 have P0:hp.at H.n=some (.cells [.lit (.int .i64 m.epoch),vo,vp,vb,.lit (.int .i64 m.leaf)] 66):=hhp▸(xE _ (by rw[zF];omega)).trans (zI _ _)
 have Z0:=QJ hhp
 have nP:hp.n=H.n+2:=by rw[hhp,zF,zF]
 have lP0:=jR P0
 have lZ0:=jR Z0
 simp only[jN,seval,Tryz.ntmps64,vS,o1,o2,o3]
 rw[<-hhp,show H.n+1+1=hp.n by omega]
 clear hhp
 have eQ:zM hp.n hp (hp.push (.cells [] 136)):=(zM.refl _ _).push _ (jM _)
 refine qM (Ya (n0:=hp.n) Sq (by kernel_rfl) (by kernel_rfl) (zv:= .agg [.lit (.bool false),.lit (.bool false),.lit (.int .i64 0),.lit (.int .i64 0),.lit (.int .i64 0),.lit (.int .i64 0)]) (by kernel_rfl) (by':=40) (by kernel_rfl) rfl (by decide) (by decide) ((hm.o.ext EP (jM _)).ext eQ (jM _)) (by omega) (by omega) (zI hp _) (jM _) (by rw[zF];omega)) ?_
 rintro ro h3 ⟨ow,e3⟩
 have E3:zM hp.n hp h3:=eQ.trans (e3.mono (by rw[zF];omega))
 have P3:=(E3.2 _ lP0).trans P0
 have Z3:=(E3.2 _ lZ0).trans Z0
 have lP3:=jR P3
 have q1:=(ow.toSl (F:=fun _=>True) (fun _ _=>trivial)).one
 obtain⟨h4,hh4⟩:∃h4,h4=h3.put H.n (.cells [.lit (.int .i64 m.epoch),ro,vp,vb,.lit (.int .i64 m.leaf)] 66):=⟨_,rfl⟩
 have P4:=Jj hh4 lP3
 have k4:∀b,b≠H.n->h4.at b=h3.at b:=fun b hb=>hh4▸zE _ (Ne.symm hb)
 have n4:h4.n=h3.n:=by rw[hh4,kZ]
 have ow4:yX Dt hp.n h4 ro 136 m.osds:=hh4▸ow.put_ap (ow.apartLt (by omega))
 have LP4:=xI P4
 have lP4:=jR P4
 have f3:=E3.1
 have E4:zM H.n H h4:=hh4▸(EP.trans (E3.mono (by omega))).put _ (jM _)
 simp only[jN,seval,P3,q1,<-hh4,LP4,lP4]
 have eR:zM h4.n h4 (h4.push (.cells [] 108)):=(zM.refl _ _).push _ (jM _)
 refine qM (Ya (n0:=hp.n) NJ (by kernel_rfl) (by kernel_rfl) (zv:= .agg [.lit (.int .i64 0),.lit (.int .i64 0),.lit (.int .i64 0),.lit (.int .i64 0)]) (by kernel_rfl) (by':=32) (by kernel_rfl) rfl (by decide) (by decide) ((hm.p.ext E4 (jM _)).ext eR (jM _)) (by omega) (by omega) (zI h4 _) (by omega) (by rw[zF];omega)) ?_
 rintro rp h5 ⟨pw,e5⟩
 have E5:zM h4.n h4 h5:=eR.trans (e5.mono (by rw[zF];omega))
 have P5:=(E5.2 _ lP4).trans P4
 have lP5:=jR P5
 have q3:=(pw.toSl (F:=fun _=>True) (fun _ _=>trivial)).one
 obtain⟨h6,hh6⟩:∃h6,h6=h5.put H.n (.cells [.lit (.int .i64 m.epoch),ro,rp,vb,.lit (.int .i64 m.leaf)] 66):=⟨_,rfl⟩
 have P6:=Jj hh6 lP5
 have k6:∀b,b≠H.n->h6.at b=h5.at b:=fun b hb=>hh6▸zE _ (Ne.symm hb)
 have n6:h6.n=h5.n:=by rw[hh6,kZ]
 have ow6:yX Dt hp.n h6 ro 136 m.osds:=hh6▸(ow4.ext E5 (jM _)).put_ap (ow.apartLt (by omega))
 have pw6:yX XR hp.n h6 rp 108 m.pools:=hh6▸pw.put_ap (pw.apartLt (by omega))
 have LP6:=xI P6
 have lP6:=jR P6
 have f5:=E5.1
 have E6:zM H.n H h6:=hh6▸(E4.step E5).put _ (jM _)
 have Z6:h6.at (H.n+1)=some (.cells [.lit (.int .i64 0),.lit (.slice none 0 0),.lit (.slice none 0 0),.lit (.slice none 0 0),.lit (.int .i64 0)] 66):=(k6 _ (by omega)).trans ((E5.2 _ (by omega)).trans ((k4 _ (by omega)).trans Z3))
 obtain⟨N,hN⟩:∃N,N=m.buckets.length:=⟨_,rfl⟩
 rw[<-hN]at d3
 simp only[jN,seval,P5,q3,s3,d3,<-hh6,LP6]
 refine kO N (fun i t h=>(∃s,j0Y h6.n h s (m.buckets.take i)/\t.get 3=s)/\zM h6.n h6 h/\t.n=41/\t.get 1= .ptr H.n 0/\t.get 2= .ptr (H.n+1) 0/\t.get 17=vb/\t.get 18= .lit (.int .i64 N)/\t.get 19= .lit (.int .i64 i)) ?_ ?_ _ _ ?_
 ·rintro i t h hlt hc ⟨⟨s,ho,g3⟩,he,ga⟩ ih;obtain⟨x,hx⟩:∃x,m.buckets[i]? =some x:=⟨_,jO (by omega)⟩;have E1:zM H.n H h:=E6.trans (he.mono E6.1);obtain⟨c,hc1,hld,hld0⟩:=hm.b.atE (T:=zH Tryz.prog kR) E1 Qa hx;obtain⟨va,vw,rfl,ha,hw,hi⟩:=Jx.1 hc1;have a1:=ha.one;have w1:=hw.one;obtain⟨la,lw⟩:=hbk x (zR hx);unfold Sm at la lw;have hwi:=xG (n:=N) hlt (by omega);have hln:=he.1;obtain⟨hA,hhA,eA,XA⟩:=xX h (.cells [.lit (.int .i64 x.id),.lit (.int .i64 x.kind),va,vw] 122);have nA:hA.n=h.n+1:=by rw[hhA,zF]
  have LXA:=xI XA;have lXA:=jR XA;have EA:=E1.step eA;simp only[jN,seval,s3,d3,ga,g3,hlt,hc,hld0,a1,w1,<-hhA,LXA,lXA];have eB:zM hA.n hA (hA.push (.cells [] 3)):=(zM.refl _ _).push _ (jM _);refine qM (Ya (n0:=hA.n) DI (by kernel_rfl) (by kernel_rfl) (zv:= .lit (.int .i64 0)) (by kernel_rfl) (by':=8) (by kernel_rfl) rfl (by decide) (by decide) ((ha.ext EA (jM _)).ext eB (jM _)) (by omega) (by omega) (zI hA _) (jM _) (by rw[zF];omega)) ?_;rintro ra hB ⟨p1,eB'⟩;have EB:zM hA.n hA hB:=eB.trans (eB'.mono (by rw[zF];omega));have XB:=(EB.2 _ lXA).trans XA;have lXB:=jR XB;have u1:=(p1.toSl (F:=fun _=>True) (fun _ _=>trivial)).one;obtain⟨hC,hhC⟩:∃hC,hC=hB.put h.n (.cells [.lit (.int .i64 x.id),.lit (.int .i64 x.kind),ra,vw] 122):=⟨_,rfl⟩;have XC:=Jj hhC lXB;have nC:hC.n=hB.n:=by rw[hhC,kZ]
  have LXC:=xI XC;have lXC:=jR XC;have p1C:yX qB hA.n hC ra 3 x.items:=hhC▸p1.put_ap (p1.apartLt (by omega));have eC:zM h.n h hC:=hhC▸((eA.trans (EB.mono (by omega))).put _ (jM _));simp only[jN,seval,ga,u1,XB,<-hhC,LXC,lXC];have EC:=E1.step eC;have eD:zM hC.n hC (hC.push (.cells [] 3)):=(zM.refl _ _).push _ (jM _);refine qM (Ya (n0:=hA.n) DI (by kernel_rfl) (by kernel_rfl) (zv:= .lit (.int .i64 0)) (by kernel_rfl) (by':=8) (by kernel_rfl) rfl (by decide) (by decide) ((hw.ext EC (jM _)).ext eD (jM _)) (by omega) (by omega) (zI hC _) (by omega) (by rw[zF];omega)) ?_;rintro rw1 hD ⟨p2,eD'⟩;have ED:zM hC.n hC hD:=eD.trans (eD'.mono (by rw[zF];omega));have XD:=(ED.2 _ lXC).trans XC;have lXD:=jR XD;have u3:=(p2.toSl (F:=fun _=>True) (fun _ _=>trivial)).one;obtain⟨hE,hhE⟩:∃hE,hE=(hD.put h.n (.cells [.lit (.int .i64 x.id),.lit (.int .i64 x.kind),ra,rw1] 122)).push (.cells [.lit (.int .i64 x.id),.lit (.int .i64 x.kind),ra,rw1] 122):=⟨_,rfl⟩;obtain⟨hD2,hhD2⟩:∃hD2,hD2=hD.put h.n (.cells [.lit (.int .i64 x.id),.lit (.int .i64 x.kind),ra,rw1] 122):=⟨_,rfl⟩;have nD2:hD2.n=hD.n:=by rw[hhD2,kZ]
  have XD2:=Jj hhD2 lXD;have LXD2:=xI XD2;have p1D:yX qB hA.n hD2 ra 3 x.items:=hhD2▸(p1C.ext ED (jM _)).put_ap (p1.apartLt (by omega));have p2D:yX qB hA.n hD2 rw1 3 x.weights:=hhD2▸p2.put_ap (p2.apartLt (by omega));have eD2:zM h.n h hD2:=hhD2▸((eC.trans (ED.mono (by omega))).put _ (jM _));simp only[jN,seval,ga,g3,u3,XD,<-hhD2,LXD2];have eE:zM h.n h (hD2.push (.cells [.lit (.int .i64 x.id),.lit (.int .i64 x.kind),ra,rw1] 122)):=eD2.push _ (by omega);have eE2:zM hD2.n hD2 (hD2.push (.cells [.lit (.int .i64 x.id),.lit (.int .i64 x.kind),ra,rw1] 122)):=(zM.refl _ _).push _ (jM _);have hln2:(m.buckets.take i).length<=i:=by rw[zV];omega
  refine qM (Gg ho hln eE (zI hD2 _) ((p1D.ext eE2 (jM _)).mono (by omega)) ((p2D.ext eE2 (jM _)).mono (by omega)) hi (by omega)) ?_;rintro s2 hF ⟨oF,fF⟩;simp only[jN,seval,ga,hwi];refine ih _ _ ⟨⟨s2,?_,by simp only[jN,seval,ga]⟩,he.trans (fF.toExtL ho hln),?_⟩
  ·rw[qV,hx];exact oF
  ·simp only[jN,seval,ga]
 ·rintro t h hc ⟨⟨s,ho,g3⟩,he,ga⟩;rw[hN,xC]at ho;have t2:=(ho.toSl (F:=fun _=>True) (fun _ _=>trivial) (fun _ _=>trivial)).one;have PH:=(he.2 _ lP6).trans P6;have ZH:=(he.2 _ (by omega)).trans Z6;have lPH:=jR PH;have lZH:=jR ZH;have hne:¬H.n=H.n+1:=by omega
  simp only[jN,seval,s3,d3,ga,g3,hc,PH,ZH,lPH,lZH,q1,q3,t2,hne];have owH:=ow6.ext he (jM _);have pwH:=pw6.ext he (jM _);refine⟨((E6.trans (he.mono E6.1)).put _ (jM _)).put _ (by omega),ro,rp,s,rfl,fun p0 hp0=>⟨((owH.put_ap (ow.apartLt (by omega))).put_ap (ow.apartLt (by omega))).mono (by omega),((pwH.put_ap (pw.apartLt (by omega))).put_ap (pw.apartLt (by omega))).mono (by omega),?_,ow.apartLt (by omega),pw.apartLt (by omega)⟩⟩;exact((ho.putLt (by omega)).putLt (by omega)).toSl (fun k hk=>⟨by omega,ow6.apart hk,pw6.apart hk,by omega⟩) (fun k hk=>⟨by omega,ow6.apart hk,pw6.apart hk,by omega⟩)
 ·refine⟨⟨_,qE.nil,by simp only[jN,seval]⟩,zM.refl _ _,?_⟩;simp only[jN,seval];try((repeat' apply And.intro)<;>first|rfl|trivial)
theorem j2U(o:Xa)(hm:vG F H m vo vp vb)(hok:Ds m)(hk8:k<8)(ho:j0M o):
 vR 95 [vS m vo vp vb,.lit (.int .i64 (k:Int)),KD o] H fun r h'=>zM H.n H h'/\∃ro rp rb,r=vS (bQ m k o) ro rp rb/\vG (fun b=>H.n<=b) h' (bQ m k o) ro rp rb:=by
 refine zW Tryz.func95 rfl rfl ?_
 have o1:=hm.o.one
 have o2:=hm.p.one
 have o3:=hm.b.one
 have hso:m.osds.length<4611686018427387904:=by have:=hok.1.1;unfold Sm at this;omega
 have hso2:=hok.1.1
 unfold Sm at hso2
 simp only[jN,seval,Tryz.ntmps95,vS,KD,o1,o2,o3]
 obtain⟨hp,hhp,EP,P0,C0,Z0,nP⟩:=JA (H:=H) (mC m vo vp vb) (.cells (YV o) 136) mz
 unfold mC at P0 hhp
 unfold YV at C0 hhp
 unfold mz at Z0 hhp
 rw[<-hhp]
 clear hhp
 have lP0:=jR P0
 have lC0:=jR C0
 have lZ0:=jR Z0
 refine(DA (hm.ext EP (jM _)) hok).mono ?_
 rintro _ h3 ⟨e3,vo3,rp,rb,rfl,hown⟩
 have own3:=hown 0 (by omega)
 have m3:=own3.at (F:=fun _=>True) (fun _ _=>trivial)
 have w1:=m3.o.one
 have w2:=m3.p.one
 have w3:=m3.b.one
 have P3:=(e3.2 _ lP0).trans P0
 have lP3:=jR P3
 obtain⟨h4,hh4⟩:∃h4,h4=h3.put H.n (.cells [.lit (.int .i64 m.epoch),vo3,rp,rb,.lit (.int .i64 m.leaf)] 66):=⟨_,rfl⟩
 have P4:=Jj hh4 lP3
 have k4:∀b,b≠H.n->h4.at b=h3.at b:=fun b hb=>hh4▸zE _ (Ne.symm hb)
 have own4:JE hp.n 0 h4 m vo3 rp rb:=hh4▸own3.putLt (by omega)
 have C4:h4.at (H.n+1)=some (.cells [.lit (.bool o.ex),.lit (.bool o.up),.lit (.int .i64 o.weight),.lit (.int .i64 o.boot),.lit (.int .i64 o.upFrom),.lit (.int .i64 o.upThru)] 136):=(k4 _ (by omega)).trans ((e3.2 _ lC0).trans C0)
 have Z4:=(k4 (H.n+2) (by omega)).trans ((e3.2 _ lZ0).trans Z0)
 have E4:zM H.n H h4:=hh4▸(EP.step e3).put _ (jM _)
 simp only[jN,seval,vS,w1,w2,w3,P3,<-hh4]
 clear hh4
 refine ZP (fun(j:Nat) t h=>∃v,h.at H.n=some (.cells [.lit (.int .i64 m.epoch),v,rp,rb,.lit (.int .i64 m.leaf)] 66)/\h.at (H.n+1)=h4.at (H.n+1)/\h.at (H.n+2)=h4.at (H.n+2)/\(j=0\/m.osds.length+j<=k+1)/\
  yX Dt hp.n h v 136 (m.osds++List.replicate j Zv)/\yX XR hp.n h rp 108 m.pools/\zJ Vq (fun k=>hp.n<=k/\qR v k/\qR rp k) h rb m.buckets/\zM H.n H h/\h4.n<=h.n/\t.n=26/\t.get 1= .lit (.int .i64 (k:Int))/\t.get 3= .ptr H.n 0/\t.get 5= .ptr (H.n+1) 0/\t.get 6= .ptr (H.n+2) 0) (fun j=>k+1-j) ?_ 0 _ _ ?_
 ·rintro j t h ⟨v,PH,CH,ZH,hj,ov,ovp,ib,EH,lhn,ga⟩ ih;rw[C4]at CH;rw[Z4]at ZH;have LPH:=xI PH;have LCH:=xI CH;have lPH:=jR PH;have lCH:=jR CH;have lZH:=jR ZH;have ovs:=ov.toSl (F:=fun _=>True) (fun _ _=>trivial);have t1:=ovs.isSl;have t2:=ovs.lenD;have t3:=ovs.one;obtain⟨n,hN⟩:∃n,n=(m.osds++List.replicate j Zv).length:=⟨_,rfl⟩;have hN':n=m.osds.length+j:=by rw[hN,jQ,AM]
  rw[<-hN]at t2;by_cases hlt:n<=k
  ·have hltI:((n:Int)<=(k:Int))=True:=by simp only[eq_iff_iff,iff_true];omega
   simp only[jN,seval,ga,LPH,LCH,t1,t2,hltI];have A1:=zI h (.cells (YV Zv) 136);have eA:zM h.n h (h.push (.cells (YV Zv) 136)):=(zM.refl _ _).push _ (jM _);refine qM ((ov.ext eA (jM _)).snoc (T:=zH Tryz.prog kR) (y:=Zv) (cap:= .kn 1) NH (by kernel_rfl) (by kernel_rfl) (zv:= .agg [.lit (.bool false),.lit (.bool false),.lit (.int .i64 0),.lit (.int .i64 0),.lit (.int .i64 0),.lit (.int .i64 0)]) (by kernel_rfl) (by':=40) (by kernel_rfl) rfl (by decide) (by decide) A1 (Qn.2 ⟨rfl,j2r⟩) (by rw[<-hN];omega) (by rw[<-hN];omega) (by rw[zF];omega)) ?_;rintro s' h2 ⟨os',f2⟩;have lfn:=f2.1;rw[zF]at lfn;have av0:=ov.apartLt (b:=H.n) (by omega);have av1:=ov.apartLt (b:=H.n+1) (by omega);have av2:=ov.apartLt (b:=H.n+2) (by omega);have P1:(h.push (.cells (YV Zv) 136)).at H.n=_:=(xE _ lPH).trans PH;have C1:(h.push (.cells (YV Zv) 136)).at (H.n+1)=_:=(xE _ lCH).trans CH;have Z1:(h.push (.cells (YV Zv) 136)).at (H.n+2)=_:=(xE _ lZH).trans ZH;obtain⟨P2,bp0⟩:=f2.box P1 av0;obtain⟨C2,bp1⟩:=f2.box C1 av1;obtain⟨Z2,bp2⟩:=f2.box Z1 av2;have lP2:=jR P2;have q1:=(os'.toSl (F:=fun _=>True) (fun _ _=>trivial)).one;simp only[jN,seval,ga,P2,q1];refine ih (j+1) _ _ ⟨s',qJ _ lP2,by rw[zE _ (by omega),C2,C4],by rw[zE _ (by omega),Z2,Z4],.inr (by omega),?_,?_,?_,?_,by rw[kZ];omega,?_⟩ (by omega)
   ·rw[<-Tw];exact os'.put_ap bp0
   ·exact((ovp.ext eA (jM _)).fr (ov.ext eA (jM _)) (by decide) f2).put_ap (ovp.apartLt (by omega))
   ·refine ib.lift fun b hb hlb=> ?_;obtain⟨k1,k2⟩:=f2.2 b (by rw[zF];omega) hb.2.1;exact⟨by rw[zE _ (by omega),k1,xE _ hlb],hb.1,k2,hb.2.2⟩
   ·refine zM.put _ ⟨by have:=EH.1;omega,fun b hb=> ?_⟩ (jM _);have:=EH.1;rw[(f2.2 b (by rw[zF];omega) (ov.apartLt (by omega))).1,xE _ (by omega)];exact EH.2 b hb
   ·simp only[jN,seval,ga]
  ·have hltI:((n:Int)<=(k:Int))=False:=by simp only[eq_iff_iff,iff_false];omega
   have hgr:m.osds++List.replicate j Zv=VQ m.osds k:=NN (by omega) hj;have hkn:k<n:=by omega
   obtain⟨l,hl⟩:∃l,l=m.osds++List.replicate j Zv:=⟨_,rfl⟩;rw[<-hl]at ov ovs hN hgr;have hkl:k<l.length:=by omega
   have hlne:l≠[]:=fun hh=>by rw[hh]at hkl;simp at hkl
   have row:∃q,v= .sl q 0 l.length (.un 6)/\hp.n<=q/\h.at q=some (.cells (l.flatMap YV) 136)/\∀x∈l,j0M x:=by
    rcases ov with hov|⟨hh,_⟩
    ·exact hov.row NH hlne
    ·exact absurd hh hlne
   obtain⟨q,hv,hq,hat,hokl⟩:=row;have hv1:slB v=q:=by rw[hv];rfl
   have hv2:slO v=0:=by rw[hv];rfl
   have hat':h.at (slB v)=some (.cells (l.flatMap YV) 136):=by rw[hv1];exact hat
   have lq:=jR hat;have hput:=wV (cf:=YV) (z:=6) (y:=o) (fun _=>rfl) hkl;have hput':put (l.flatMap YV) (slO v+k * 6) [.lit (.bool o.ex),.lit (.bool o.up),.lit (.int .i64 o.weight),.lit (.int .i64 o.boot),.lit (.int .i64 o.upFrom),.lit (.int .i64 o.upThru)]=some ((l.set k o).flatMap YV):=by rw[hv2,yG];exact hput
   obtain⟨h2,hh2⟩:∃h2,h2=h.put q (.cells ((l.set k o).flatMap YV) 136):=⟨_,rfl⟩;have W2:=Jj hh2 lq;have k2:∀b,b≠q->h2.at b=h.at b:=fun b hb=>hh2▸zE _ (Ne.symm hb);have n2:h2.n=h.n:=by rw[hh2,kZ]
   have P2:=(k2 H.n (by omega)).trans PH;have Z2:=(k2 (H.n+2) (by omega)).trans ZH;have LP2:=xI P2;have lZ2:=jR Z2;have hh2':h.put (slB v) (.cells ((l.set k o).flatMap YV) 136)=h2:=by rw[hv1];exact hh2.symm
   simp only[Jy,qT,put,YU,xS,xK,qA,jB,jD,jE,jF,reduceCtorEq,jG,-put,ga,LPH,LCH,t1,t2,t3,hltI,hkn,hat',hput',hh2',LP2,Z2,lZ2,w2,w3];have hE:bQ m k o={m with osds:=l.set k o}:=by unfold bQ;rw[hgr]
   have E2:zM H.n H h2:=⟨by have:=EH.1;omega,fun b hb=>(k2 b (by omega)).trans (EH.2 b hb)⟩;refine⟨E2.put _ (by omega),v,rp,rb,by rw[hE],?_⟩;rw[hE];have hsep:=ovp.sep ov (by decide);refine⟨?_,?_,?_⟩
   ·have:qE Dt (fun _=>False) hp.n h2 v 136 (l.set k o):=by
     rw[hv]
     exact qE.ofRow NH (by simp) hq W2 fun y' hy=>by
      rcases List.mem_or_eq_of_mem_set hy with hy|rfl
      ·exact hokl y' hy
      ·exact ho
    exact(yX.put_ap (.inl this) (this.apartLt (by omega))).toSl fun b hb=>by omega
   ·exact(((ovp.keep fun b off n cap hv'=>k2 b (fun hh=>hsep b off n cap hv' 0 _ _ (hh▸hv))).put_ap (ovp.apartLt (by omega)))).toSl fun b hb=>by omega
   ·refine ib.lift fun b hb hlb=>⟨?_,by omega⟩;rw[zE _ (by omega)];exact k2 b fun hh=>hb.2.1 0 _ _ (hh▸hv)
 ·refine⟨vo3,P4,rfl,rfl,.inl rfl,by rw[List.replicate_zero,kH];exact own4.o,own4.p,own4.b.lift fun b hb _=>⟨rfl,hb.1,hb.2.1,hb.2.2.1⟩,E4,jM _,?_⟩;simp only[jN,seval]
theorem Fr.toExtE{α:Type}{R:Zl α}{h1:AH}{v1:AV}{xs:List α}(f:Fr h v h1 v1)(ho:yX R n0 h v e xs)(hn0:n0<=h.n):zM n0 h h1:=⟨f.1,fun b hb=>(f.2 b (by omega) (ho.apartLt hb)).1⟩
variable{L:List xD}
theorem FU{n:Nat}(h1:L.length<=i+1)(h2:i<n)(h3:n=k)(sb:(k+1) * 32<=140737488351232):L.length+1<=4611686018427387904/\(L.length+1) * 32<=140737488355328:=by omega
theorem j3x{b:xD}{i n:Nat}(h1:L.length<=i)(h2:i<n)(h3:n=k)(sb:(k+1) * 32<=140737488351232):(L++[b]).length+1<=4611686018427387904/\((L++[b]).length+1) * 32<=140737488355328:=by
 have:(L++[b]).length=L.length+1:=by simp
 omega
theorem j3y{l:Nat}(h1:l<=k)(sb:(k+1) * 32<=140737488351232):l+1<=4611686018427387904/\(l+1) * 32<=140737488355328:=by omega
theorem bB{p:xD}{s:List xD×Bool}{q:xD}:(vY p s q).1.length+nB (vY p s q).2<=s.1.length+nB s.2+1:=by
 obtain⟨l,b⟩:=s;unfold vY;by_cases h1:b=false/\p.id<=q.id
 ·rw[if_pos h1,h1.1];by_cases h2:q.id=p.id
  ·rw[if_pos h2];simp[nB]
  ·rw[if_neg h2];simp[nB]
 ·rw[if_neg h1];simp;omega
theorem BP{p:xD}:∀(l:List xD) (s:List xD×Bool),(l.foldl (vY p) s).1.length+nB (l.foldl (vY p) s).2<=s.1.length+nB s.2+l.length
 |[],s=>jM _
 |c::r,s=>by have h1:=BP (p:=p) r (vY p s c);have h2:=bB (p:=p) (s:=s) (q:=c);rw[Vp,xA];omega
theorem bF(p:xD)(hm:vG F H m vo vp vb)(hok:Ds m)(sb:(m.pools.length+1) * 32<=140737488351232)(hop:j6S p):
 vR 116 [vS m vo vp vb,Zz p] H fun r h'=>zM H.n H h'/\∃ro rp rb,r=vS {m with pools:=Xi m.pools p} ro rp rb/\vG (fun b=>H.n<=b) h' {m with pools:=Xi m.pools p} ro rp rb:=by
 refine zW Tryz.func116 rfl rfl ?_
 have o1:=hm.o.one
 have o2:=hm.p.one
 have o3:=hm.b.one
 simp only[jN,jB,jC,jE,jF,jG,Tryz.ntmps116,vS,Zz,o1,o2,o3]
 obtain⟨hp,hhp,EP,P0,B0,Z0,nP⟩:=JA (H:=H) (mC m vo vp vb) (.cells (Ul p) 108) mz
 unfold mC at P0 hhp
 unfold Ul at B0 hhp
 unfold mz at Z0 hhp
 rw[<-hhp]
 clear hhp
 have lP0:=jR P0
 have lB0:=jR B0
 have lZ0:=jR Z0
 refine(DA (hm.ext EP (jM _)) hok).mono ?_
 rintro _ h3 ⟨e3,vo3,vp3,rb,rfl,hown⟩
 have own3:=hown 0 (by omega)
 have m3:=own3.at (F:=fun _=>True) (fun _ _=>trivial)
 have w1:=m3.o.one
 have w2:=m3.p.one
 have w3:=m3.b.one
 have s3:=m3.p.isSl
 have d3:=m3.p.lenD
 have P3:=(e3.2 _ lP0).trans P0
 have lP3:=jR P3
 have l3:=e3.1
 obtain⟨h4,hh4⟩:∃h4,h4=h3.put H.n (.cells [.lit (.int .i64 m.epoch),vo3,vp3,rb,.lit (.int .i64 m.leaf)] 66):=⟨_,rfl⟩
 have P4:=Jj hh4 lP3
 have k4:∀b,b≠H.n->h4.at b=h3.at b:=fun b hb=>hh4▸zE _ (Ne.symm hb)
 have n4:h4.n=h3.n:=by rw[hh4,kZ]
 have own4:JE hp.n 0 h4 m vo3 vp3 rb:=hh4▸own3.putLt (by omega)
 have m4:=own4.at (F:=fun b=>hp.n<=b) (fun _ hb=>hb)
 have B4:h4.at (H.n+1)=some (.cells [.lit (.int .i64 p.id),.lit (.int .i64 p.size),.lit (.int .i64 p.min),.lit (.int .i64 p.pgs)] 108):=(k4 _ (by omega)).trans ((e3.2 _ lB0).trans B0)
 have Z4:h4.at (H.n+2)=some (.cells [.lit (.int .i64 0),.lit (.slice none 0 0),.lit (.slice none 0 0),.lit (.slice none 0 0),.lit (.int .i64 0)] 66):=(k4 (H.n+2) (by omega)).trans ((e3.2 _ lZ0).trans Z0)
 have E4:zM H.n H h4:=hh4▸(EP.step e3).put _ (jM _)
 have LP4:=xI P4
 have lP4:=jR P4
 simp only[jN,jB,jE,jF,jG,vS,w1,w2,w3,P3,<-hh4,LP4,s3,d3]
 clear hh4 EP P0 B0 Z0 P3 lP0 lB0 lZ0 lP3
 obtain⟨n,hN⟩:∃n,n=m.pools.length:=⟨_,rfl⟩
 rw[<-hN]at d3 ⊢
 obtain⟨hp',hpe⟩:∃hp',hp'=h4:=⟨_,rfl⟩
 have B0:=B4
 refine kO n (fun i t h=>(∃s,yX XR h4.n h s 108 ((m.pools.take i).foldl (vY p) ([],false)).1/\zM h4.n h4 h/\t.get 5=s)/\t.get 6= .lit (.bool ((m.pools.take i).foldl (vY p) ([],false)).2)/\t.n=50/\t.get 2= .ptr H.n 0/\t.get 3= .ptr (H.n+1) 0/\t.get 4= .ptr (H.n+2) 0/\t.get 12=vp3/\t.get 13= .lit (.int .i64 n)/\t.get 14= .lit (.int .i64 i)) ?_ ?_ _ _ ?_
 ·rintro i t h hlt hc ⟨⟨s,ho,he,g5⟩,g6,ga⟩ ih;obtain⟨x,hx⟩:∃x,m.pools[i]? =some x:=⟨_,jO (by omega)⟩;have hl1:=BP (p:=p) (m.pools.take i) ([],false);have hlt3:(m.pools.take i).length<=i:=by rw[zV];omega
  have hlen:((m.pools.take i).foldl (vY p) ([],false)).1.length<=i+1:=by have h4:nB false=1:=rfl;simp only[xH]at hl1;omega
  have hnB:((m.pools.take i).foldl (vY p) ([],false)).2=false->((m.pools.take i).foldl (vY p) ([],false)).1.length<=i:=fun hf=>by rw[hf]at hl1;simp only[xH]at hl1;omega
  clear hl1;have hsucc:=EK (vY p) ([],false) hx;obtain⟨S,hS⟩:∃S,S=(m.pools.take i).foldl (vY p) ([],false):=⟨_,rfl⟩;rw[<-hS]at ho g6 hlen hnB hsucc;rw[hsucc]at ih;clear hS hsucc;obtain⟨L,put⟩:=S;simp only at ho g6 hlen hnB;obtain⟨c,hc1,hld,hld0⟩:=m4.p.atE (T:=zH Tryz.prog kR) he YY hx;obtain⟨rfl,okx⟩:=Jc.1 hc1;have hwi:=xG (n:=n) hlt (by omega);have BH:=(he.2 _ (by omega)).trans B4;have lBH:=jR BH;have lhn:=he.1;obtain⟨hA,hhA,eA,XA⟩:=xX h (.cells [.lit (.int .i64 x.id),.lit (.int .i64 x.size),.lit (.int .i64 x.min),.lit (.int .i64 x.pgs)] 108);have LXA:=xI XA;have nA:hA.n=h.n+1:=by rw[hhA,zF]
  have BA:=(eA.2 _ lBH).trans BH;have LBA:=xI BA;have oA:=ho.ext eA (jM _);have heA:zM h4.n h4 hA:=he.trans (eA.mono (by omega));cases put with
  |true=>
   have hst:vY p (L,true) x=(L++[x],true):=by unfold vY;simp
   rw[hst]at ih;simp only[jN,jB,jD,jE,jF,reduceCtorEq,jG,<-hhA,ga,g5,g6,hlt,hc,hld0,s3,d3,LXA,LBA];have eB2:zM hA.n hA (hA.push (.cells (Ul x) 108)):=(zM.refl _ _).push _ (jM _);refine qM ((oA.ext eB2 (jM _)).snoc (T:=zH Tryz.prog kR) (t:=63) (y:=x) (cap:= .kn 1) AS (by kernel_rfl) (by kernel_rfl) (zv:= .agg [.lit (.int .i64 0),.lit (.int .i64 0),.lit (.int .i64 0),.lit (.int .i64 0)]) (by kernel_rfl) (by':=32) (by kernel_rfl) rfl (by decide) (by decide) (zI _ _) (Jc.2 ⟨rfl,okx⟩) (FU hlen hlt hN sb).1 (FU hlen hlt hN sb).2 (by rw[zF];omega)) ?_;rintro s2 hC2 ⟨oC2,fC2⟩;have fr2:Fr hA s hC2 s2:=(Fr.ext eB2).trans fC2;have he2:zM h4.n h4 hC2:=heA.trans (fr2.toExtE oA (by omega));simp only[jN,jB,jE,jF,ga,hwi];refine ih _ _ ⟨⟨_,oC2,he2,by simp only[jN,jE,jF,ga]⟩,by simp only[jN,jF,g6],?_⟩;simp only[jN,jE,jF,ga]
  |false=>
   by_cases cge:p.id<=x.id
   ·by_cases ceq:x.id=p.id
    ·skip
     have hst:vY p (L,false) x=(L++[p],true):=by unfold vY;simp[ceq]
     rw[hst]at ih;simp only[jN,jB,jD,jE,jF,reduceCtorEq,jG,<-hhA,cge,ga,g5,g6,hlt,hc,hld0,s3,d3,LXA,LBA];have eB1:zM hA.n hA (hA.push (.cells (Ul p) 108)):=(zM.refl _ _).push _ (jM _);refine qM ((oA.ext eB1 (jM _)).snoc (T:=zH Tryz.prog kR) (t:=63) (y:=p) (cap:= .kn 1) AS (by kernel_rfl) (by kernel_rfl) (zv:= .agg [.lit (.int .i64 0),.lit (.int .i64 0),.lit (.int .i64 0),.lit (.int .i64 0)]) (by kernel_rfl) (by':=32) (by kernel_rfl) rfl (by decide) (by decide) (zI _ _) (Jc.2 ⟨rfl,hop⟩) (FU hlen hlt hN sb).1 (FU hlen hlt hN sb).2 (by rw[zF];omega)) ?_;rintro s1 hC1 ⟨oC1,fC1⟩;have fr1:Fr hA s hC1 s1:=(Fr.ext eB1).trans fC1;have he1:zM h4.n h4 hC1:=heA.trans (fr1.toExtE oA (by omega));obtain⟨X1,-⟩:=fr1.box XA (ho.apart (jM _));have LX1:=xI X1;have B1':=(he1.2 _ (by omega)).trans B0;have LB1':=Xy (T:=zH Tryz.prog kR) B1';have cqe:(x.id==p.id)=true:=by simp[ceq]
     simp only[jN,jB,jD,jE,jF,reduceCtorEq,jG,cqe,LX1,LB1',ga,hwi];refine ih _ _ ⟨⟨_,oC1,he1,by simp only[jN,jE,jF,ga]⟩,by simp only[jN,jE,jF,ga],?_⟩;simp only[jN,jE,jF,ga]
    ·skip
     have hst:vY p (L,false) x=(L++[p]++[x],true):=by unfold vY;simp[cge,ceq]
     rw[hst]at ih;simp only[jN,jB,jD,jE,jF,reduceCtorEq,jG,<-hhA,cge,ga,g5,g6,hlt,hc,hld0,s3,d3,LXA,LBA];have eB1:zM hA.n hA (hA.push (.cells (Ul p) 108)):=(zM.refl _ _).push _ (jM _);refine qM ((oA.ext eB1 (jM _)).snoc (T:=zH Tryz.prog kR) (t:=63) (y:=p) (cap:= .kn 1) AS (by kernel_rfl) (by kernel_rfl) (zv:= .agg [.lit (.int .i64 0),.lit (.int .i64 0),.lit (.int .i64 0),.lit (.int .i64 0)]) (by kernel_rfl) (by':=32) (by kernel_rfl) rfl (by decide) (by decide) (zI _ _) (Jc.2 ⟨rfl,hop⟩) (FU hlen hlt hN sb).1 (FU hlen hlt hN sb).2 (by rw[zF];omega)) ?_;rintro s1 hC1 ⟨oC1,fC1⟩;have fr1:Fr hA s hC1 s1:=(Fr.ext eB1).trans fC1;have he1:zM h4.n h4 hC1:=heA.trans (fr1.toExtE oA (by omega));obtain⟨X1,-⟩:=fr1.box XA (ho.apart (jM _));have LX1:=xI X1;have B1':=(he1.2 _ (by omega)).trans B0;have LB1':=Xy (T:=zH Tryz.prog kR) B1';have ln1:=he1.1;have cqe:(x.id==p.id)=false:=by simp[ceq]
     simp only[jN,jB,jD,jE,jF,reduceCtorEq,jG,cqe,LX1,LB1',ga,hwi];have eB2:zM hC1.n hC1 (hC1.push (.cells (Ul x) 108)):=(zM.refl _ _).push _ (jM _);refine qM ((oC1.ext eB2 (jM _)).snoc (T:=zH Tryz.prog kR) (t:=63) (y:=x) (cap:= .kn 1) AS (by kernel_rfl) (by kernel_rfl) (zv:= .agg [.lit (.int .i64 0),.lit (.int .i64 0),.lit (.int .i64 0),.lit (.int .i64 0)]) (by kernel_rfl) (by':=32) (by kernel_rfl) rfl (by decide) (by decide) (zI _ _) (Jc.2 ⟨rfl,okx⟩) (j3x (b:=p) (hnB rfl) hlt hN sb).1 (j3x (b:=p) (hnB rfl) hlt hN sb).2 (by rw[zF];omega)) ?_;rintro s2 hC2 ⟨oC2,fC2⟩;have fr2:Fr hC1 s1 hC2 s2:=(Fr.ext eB2).trans fC2;have he2:zM h4.n h4 hC2:=he1.trans (fr2.toExtE oC1 (by omega));simp only[jN,jB,jE,jF,ga,hwi];refine ih _ _ ⟨⟨_,oC2,he2,by simp only[jN,jE,jF,ga]⟩,by simp only[jN,jE,jF,ga],?_⟩;simp only[jN,jE,jF,ga]
   ·skip
    have hst:vY p (L,false) x=(L++[x],false):=by unfold vY;simp[cge]
    rw[hst]at ih;simp only[jN,jB,jD,jE,jF,reduceCtorEq,jG,<-hhA,cge,ga,g5,g6,hlt,hc,hld0,s3,d3,LXA,LBA];have eB2:zM hA.n hA (hA.push (.cells (Ul x) 108)):=(zM.refl _ _).push _ (jM _);refine qM ((oA.ext eB2 (jM _)).snoc (T:=zH Tryz.prog kR) (t:=63) (y:=x) (cap:= .kn 1) AS (by kernel_rfl) (by kernel_rfl) (zv:= .agg [.lit (.int .i64 0),.lit (.int .i64 0),.lit (.int .i64 0),.lit (.int .i64 0)]) (by kernel_rfl) (by':=32) (by kernel_rfl) rfl (by decide) (by decide) (zI _ _) (Jc.2 ⟨rfl,okx⟩) (FU hlen hlt hN sb).1 (FU hlen hlt hN sb).2 (by rw[zF];omega)) ?_;rintro s2 hC2 ⟨oC2,fC2⟩;have fr2:Fr hA s hC2 s2:=(Fr.ext eB2).trans fC2;have he2:zM h4.n h4 hC2:=heA.trans (fr2.toExtE oA (by omega));simp only[jN,jB,jE,jF,ga,hwi];refine ih _ _ ⟨⟨_,oC2,he2,by simp only[jN,jE,jF,ga]⟩,by simp only[jN,jF,g6],?_⟩;simp only[jN,jE,jF,ga]
 ·rintro t h hc ⟨⟨s,ho,he,g5⟩,g6,ga⟩;rw[hN,xC]at ho g6;have hlen:(m.pools.foldl (vY p) ([],false)).2=false->(m.pools.foldl (vY p) ([],false)).1.length<=m.pools.length:=fun hf=>by have h1:=BP (p:=p) m.pools ([],false);rw[hf]at h1;simp only[xH]at h1;omega
  have hwb:Xi m.pools p=if(m.pools.foldl (vY p) ([],false)).2 then(m.pools.foldl (vY p) ([],false)).1 else(m.pools.foldl (vY p) ([],false)).1++[p]:=(j2H _ _).symm
  obtain⟨S,hS⟩:∃S,S=m.pools.foldl (vY p) ([],false):=⟨_,rfl⟩;rw[<-hS]at ho g6 hlen hwb;clear hS;obtain⟨L,put⟩:=S;simp only at ho g6 hlen hwb;have t2:=(ho.toSl (F:=fun _=>True) (fun _ _=>trivial)).one;have PH:=(he.2 _ (by omega)).trans P4;have BH:=(he.2 _ (by omega)).trans B4;have ZH:=(he.2 _ (by omega)).trans Z4;have LB:=xI BH;have lPH:=jR PH;have lZH:=jR ZH;have lhn:=he.1;have hne:¬H.n=H.n+2:=by omega
  have fin:∀(h':AH) (s':AV) (X Y:AB),zM h4.n h4 h'->yX XR h4.n h' s' 108 (Xi m.pools p)->
   zM H.n H ((h'.put H.n X).put (H.n+2) Y)/\vG (fun b=>H.n<=b) ((h'.put H.n X).put (H.n+2) Y) {m with pools:=Xi m.pools p} vo3 s' rb:=by
   intro h' s' X Y he' hs'
   refine⟨((E4.trans (he'.mono E4.1)).put _ (jM _)).put _ (by omega),?_,?_,?_⟩
   ·exact(((own4.o.ext he' (jM _)).put_ap (own4.o.apartLt (by omega))).put_ap (own4.o.apartLt (by omega))).toSl fun b hb=>by omega
   ·exact((hs'.put_ap (hs'.apartLt (by omega))).put_ap (hs'.apartLt (by omega))).toSl fun b hb=>by omega
   ·exact(own4.b.ext he' (jM _)).lift fun b hb _=>⟨by rw[zE _ (by omega),zE _ (by omega)],by omega⟩
  cases put with
  |true=>
   simp only[jN,jB,jD,jE,jF,reduceCtorEq,jG,ga,g5,g6,hc,s3,d3,t2,LB,lPH,PH,ZH,lZH,w1,w3,hne];obtain⟨f1,f2⟩:=fin h s _ _ he (by rw[hwb,if_pos rfl];exact ho);exact⟨f1,vo3,s,rb,rfl,f2⟩
  |false=>
   simp only[jN,jB,jD,jE,jF,reduceCtorEq,jG,ga,g5,g6,hc,s3,d3,t2,LB,lPH,PH,ZH,lZH,w1,w3,hne];have eB:zM h.n h (h.push (.cells (Ul p) 108)):=(zM.refl _ _).push _ (jM _);refine qM ((ho.ext eB (jM _)).snoc (T:=zH Tryz.prog kR) (t:=63) (y:=p) (cap:= .kn 1) AS (by kernel_rfl) (by kernel_rfl) (zv:= .agg [.lit (.int .i64 0),.lit (.int .i64 0),.lit (.int .i64 0),.lit (.int .i64 0)]) (by kernel_rfl) (by':=32) (by kernel_rfl) rfl (by decide) (by decide) (zI _ _) (Jc.2 ⟨rfl,hop⟩) (j3y (hlen rfl) sb).1 (j3y (hlen rfl) sb).2 (by rw[zF];omega)) ?_;rintro s2 hC ⟨oC,fC⟩;have fr:Fr h s hC s2:=(Fr.ext eB).trans fC;have heC:zM h4.n h4 hC:=he.trans (fr.toExtE ho lhn);have t4:=(oC.toSl (F:=fun _=>True) (fun _ _=>trivial)).one;have PC:=(heC.2 _ (by omega)).trans P4;have ZC:=(heC.2 _ (by omega)).trans Z4;have lPC:=jR PC;have lZC:=jR ZC;simp only[jN,jB,jE,jF,reduceCtorEq,jG,ga,t4,PC,lPC,ZC,lZC,w1,w3,hne];obtain⟨f1,f2⟩:=fin hC s2 _ _ heC (by rw[hwb,if_neg (by simp)];exact oC);exact⟨f1,vo3,s2,rb,rfl,f2⟩
 ·refine⟨⟨_,.inl qE.nil,zM.refl _ _,by simp only[jN,jB,jE,jF]⟩,?_,?_⟩
  ·simp only[jN,jB,jE,jF];rfl
  ·simp only[jN,jB,jE,jF];rfl
theorem qE.extLt{α:Type}{R:Zl α}{h1:AH}{v1:AV}{xs:List α}(f:Fr h v h1 v1)(ho:qE R G n0 h v e xs)(hn0:n0<=h.n):zM n0 h h1:=⟨f.1,fun b hb=>(f.2 b (by omega) (ho.apartLt hb)).1⟩
theorem CK{ra rw1:AV}{xs:List yL}{x:yL}(ho:qE Vq G n0 h v 122 xs)(hn0:n0<=h.n)(A:h.at q=some (.cells [.lit (.int .i64 x.id),.lit (.int .i64 x.kind),ra,rw1] e'))
 (r1:zJ qB (fun k=>G k/\k<n0) h ra x.items) (r2:zJ qB (fun k=>G k/\k<n0) h rw1 x.weights) (hi:Zq x.id/\Zq x.kind) (hl:(xs.length+1) * 64<=140737488355328):
 ∃s' h',vZ (zH Tryz.prog kR) h 64 64 v (.sl q 0 1 cap)=some (s',h')/\qE Vq G n0 h' s' 122 (xs++[x])/\Fr h v h' s':=by
 obtain⟨s',h',a,b,c,d⟩:=ho.snoc (T:=zH Tryz.prog kR) (t:=64) (tx:=64) (y:=x) (cap:=cap) (by kernel_rfl) (by kernel_rfl) (by kernel_rfl) (zv:= .agg [.lit (.int .i64 0),.lit (.int .i64 0),.lit (.slice none 0 0),.lit (.slice none 0 0)]) (by kernel_rfl) (by':=64) (by kernel_rfl) rfl (by decide) (by decide) A
  (Jx.2 ⟨ra,rw1,rfl,r1.lift fun k hk _=>⟨rfl,hk.1,ho.apartLt hk.2⟩,r2.lift fun k hk _=>⟨rfl,hk.1,ho.apartLt hk.2⟩,hi.1,hi.2⟩) (by omega) hl hn0
 exact⟨s',h',a,b,c.1,d⟩
variable{F2:Nat->Prop}{va vw:AV}
theorem OR(b:yL)(hm:vG F H m vo vp vb)(hok:Ds m)(sb:(m.buckets.length+1) * 64<=140737488355328)(ha:zJ qB F2 H va b.items)(hw:zJ qB F2 H vw b.weights)(la:Sm 8 b.items)(lw:Sm 8 b.weights)(hi:Zq b.id/\Zq b.kind):
 vR 118 [vS m vo vp vb,Xq b va vw] H fun r h'=>zM H.n H h'/\∃ro rp rb,r=vS (JO m b) ro rp rb/\vG (fun b=>H.n<=b) h' (JO m b) ro rp rb:=by
 refine zW Tryz.func118 rfl rfl ?_
 have o1:=hm.o.one
 have o2:=hm.p.one
 have o3:=hm.b.one
 have a1:=ha.one
 have w1:=hw.one
 unfold Sm at la lw
 simp only[jN,jB,jC,jE,jF,jG,Tryz.ntmps118,vS,Xq,o1,o2,o3,a1,w1]
 obtain⟨hp,hhp,EP,P0,B0,Z0,nP⟩:=JA (H:=H) (mC m vo vp vb) (.cells [.lit (.int .i64 b.id),.lit (.int .i64 b.kind),va,vw] 122) mz
 unfold mC at P0 hhp
 unfold mz at Z0 hhp
 rw[<-hhp]
 clear hhp
 have lP0:=jR P0
 have lB0:=jR B0
 have lZ0:=jR Z0
 refine(DA (hm.ext EP (jM _)) hok).mono ?_
 rintro _ h3 ⟨e3,vo3,vp3,vb3,rfl,hown⟩
 have own3:=hown 0 (by omega)
 have m3:=own3.at (F:=fun _=>True) (fun _ _=>trivial)
 have y1:=m3.o.one
 have y2:=m3.p.one
 have y3:=m3.b.one
 have s3:=m3.b.isSl
 have d3:=m3.b.lenD
 have P3:=(e3.2 _ lP0).trans P0
 have lP3:=jR P3
 have l3:=e3.1
 obtain⟨h4,hh4⟩:∃h4,h4=h3.put H.n (.cells [.lit (.int .i64 m.epoch),vo3,vp3,vb3,.lit (.int .i64 m.leaf)] 66):=⟨_,rfl⟩
 have P4:=Jj hh4 lP3
 have k4:∀b,b≠H.n->h4.at b=h3.at b:=fun b hb=>hh4▸zE _ (Ne.symm hb)
 have n4:h4.n=h3.n:=by rw[hh4,kZ]
 have own4:JE hp.n 0 h4 m vo3 vp3 vb3:=hh4▸own3.putLt (by omega)
 have B4:h4.at (H.n+1)=some (.cells [.lit (.int .i64 b.id),.lit (.int .i64 b.kind),va,vw] 122):=(k4 _ (by omega)).trans ((e3.2 _ lB0).trans B0)
 have Z4:h4.at (H.n+2)=some (.cells [.lit (.int .i64 0),.lit (.slice none 0 0),.lit (.slice none 0 0),.lit (.slice none 0 0),.lit (.int .i64 0)] 66):=(k4 (H.n+2) (by omega)).trans ((e3.2 _ lZ0).trans Z0)
 have E4:zM H.n H h4:=hh4▸(EP.step e3).put _ (jM _)
 have LB4:=xI B4
 have lB4:=jR B4
 simp only[jN,jB,jE,jF,jG,vS,y1,y2,y3,P3,<-hh4,LB4,lB4]
 clear hh4 P3 lP3
 have eB:zM h4.n h4 (h4.push (.cells [] 3)):=(zM.refl _ _).push _ (jM _)
 refine qM (Ya (n0:=h4.n) DI (by kernel_rfl) (by kernel_rfl) (zv:= .lit (.int .i64 0)) (by kernel_rfl) (by':=8) (by kernel_rfl) rfl (by decide) (by decide) ((ha.ext E4 (jM _)).ext eB (jM _)) (by omega) (by omega) (zI h4 _) (jM _) (by rw[zF];omega)) ?_
 rintro ra hB ⟨p1,eB'⟩
 have EB:zM h4.n h4 hB:=eB.trans (eB'.mono (by rw[zF];omega))
 have XB:=(EB.2 _ lB4).trans B4
 have lXB:=jR XB
 have fB:=EB.1
 have u1:=(p1.toSl (F:=fun _=>True) (fun _ _=>trivial)).one
 have u2:=(p1.toSl (F:=fun _=>True) (fun _ _=>trivial)).isSl
 have u5:=(p1.toSl (F:=fun _=>True) (fun _ _=>trivial)).lenD
 obtain⟨hC,hhC⟩:∃hC,hC=hB.put (H.n+1) (.cells [.lit (.int .i64 b.id),.lit (.int .i64 b.kind),ra,vw] 122):=⟨_,rfl⟩
 have XC:=Jj hhC lXB
 have nC:hC.n=hB.n:=by rw[hhC,kZ]
 have kC:∀k,k≠H.n+1->hC.at k=hB.at k:=fun k hk=>hhC▸zE _ (Ne.symm hk)
 have LXC:=xI XC
 have lXC:=jR XC
 have p1C:yX qB h4.n hC ra 3 b.items:=hhC▸p1.put_ap (p1.apartLt (by omega))
 have ownC:JE hp.n 0 hC m vo3 vp3 vb3:=hhC▸(own4.ext EB (jM _)).putLt (by omega)
 have eC:zM H.n H hC:=hhC▸((E4.step EB).put _ (by omega))
 simp only[jN,jB,jE,jF,jG,u1,XB,<-hhC,LXC,lXC]
 have eD:zM hC.n hC (hC.push (.cells [] 3)):=(zM.refl _ _).push _ (jM _)
 refine qM (Ya (n0:=h4.n) DI (by kernel_rfl) (by kernel_rfl) (zv:= .lit (.int .i64 0)) (by kernel_rfl) (by':=8) (by kernel_rfl) rfl (by decide) (by decide) ((hw.ext eC (jM _)).ext eD (jM _)) (by omega) (by omega) (zI hC _) (by omega) (by rw[zF];omega)) ?_
 rintro rw1 hD ⟨p2,eD'⟩
 have ED:zM hC.n hC hD:=eD.trans (eD'.mono (by rw[zF];omega))
 have XD:=(ED.2 _ lXC).trans XC
 have lXD:=jR XD
 have fD:=ED.1
 have u3:=(p2.toSl (F:=fun _=>True) (fun _ _=>trivial)).one
 obtain⟨h6,hh6⟩:∃h6,h6=hD.put (H.n+1) (.cells [.lit (.int .i64 b.id),.lit (.int .i64 b.kind),ra,rw1] 122):=⟨_,rfl⟩
 have B6:=Jj hh6 lXD
 have n6:h6.n=hD.n:=by rw[hh6,kZ]
 have k6:∀k,k≠H.n+1->h6.at k=hD.at k:=fun k hk=>hh6▸zE _ (Ne.symm hk)
 have p16:yX qB h4.n h6 ra 3 b.items:=hh6▸(p1C.ext ED (jM _)).put_ap (p1.apartLt (by omega))
 have p26:yX qB h4.n h6 rw1 3 b.weights:=hh6▸p2.put_ap (p2.apartLt (by omega))
 have own6:JE hp.n 0 h6 m vo3 vp3 vb3:=hh6▸(ownC.ext ED (jM _)).putLt (by omega)
 have E6:zM H.n H h6:=hh6▸((eC.step ED).put _ (by omega))
 have P6:h6.at H.n=some (.cells [.lit (.int .i64 m.epoch),vo3,vp3,vb3,.lit (.int .i64 m.leaf)] 66):=(k6 _ (by omega)).trans ((ED.2 _ (by omega)).trans ((kC _ (by omega)).trans ((EB.2 _ (by omega)).trans P4)))
 have Z6:h6.at (H.n+2)=some (.cells [.lit (.int .i64 0),.lit (.slice none 0 0),.lit (.slice none 0 0),.lit (.slice none 0 0),.lit (.int .i64 0)] 66):=(k6 _ (by omega)).trans ((ED.2 _ (by omega)).trans ((kC _ (by omega)).trans ((EB.2 _ (by omega)).trans Z4)))
 have LB6:=xI B6
 have lB6:=jR B6
 have LP6:=xI P6
 have lP6:=jR P6
 have ib6:zJ Vq (fun k=>hp.n<=k/\k<h6.n) h6 vb3 m.buckets:=own6.b.lift fun k hk hlt=>⟨rfl,hk.1,hlt⟩
 have bi6:zJ qB (fun k=>hp.n<=k/\k<h6.n) h6 ra b.items:=(p16.toSl (F:=fun k=>h4.n<=k) fun k hk=>hk).lift fun k hk hlt=>⟨rfl,by omega,hlt⟩
 have bw6:zJ qB (fun k=>hp.n<=k/\k<h6.n) h6 rw1 b.weights:=(p26.toSl (F:=fun k=>h4.n<=k) fun k hk=>hk).lift fun k hk hlt=>⟨rfl,by omega,hlt⟩
 simp only[jN,jB,jE,jF,jG,u2,u3,u5,XD,<-hh6,LB6,LP6,s3,d3]
 clear hh6
 obtain⟨n,hN⟩:∃n,n=m.buckets.length:=⟨_,rfl⟩
 rw[<-hN]at d3 ⊢
 refine kO n (fun i t h=>(∃s,qE Vq (fun k=>hp.n<=k) h6.n h s 122 ((m.buckets.take i).foldl (kJ b) ([],decide (b.items.length=0))).1/\zM h6.n h6 h/\t.get 5=s)/\t.get 6= .lit (.bool ((m.buckets.take i).foldl (kJ b) ([],decide (b.items.length=0))).2)/\t.n=64/\t.get 2= .ptr H.n 0/\t.get 3= .ptr (H.n+1) 0/\t.get 4= .ptr (H.n+2) 0/\t.get 26=vb3/\t.get 27= .lit (.int .i64 n)/\t.get 28= .lit (.int .i64 i)) ?_ ?_ _ _ ?_
 ·rintro i t h hlt hc ⟨⟨s,ho,he,g5⟩,g6,ga⟩ ih;obtain⟨x,hx⟩:∃x,m.buckets[i]? =some x:=⟨_,jO (by omega)⟩;have hl1:=QZ (b:=b) (m.buckets.take i) ([],decide (b.items.length=0));have hl2:=NY (decide (b.items.length=0));have hlt3:(m.buckets.take i).length<=i:=by rw[zV];omega
  have hlen:((m.buckets.take i).foldl (kJ b) ([],decide (b.items.length=0))).1.length<=i+1:=by simp only[xH]at hl1;omega
  have hnB:((m.buckets.take i).foldl (kJ b) ([],decide (b.items.length=0))).2=false->((m.buckets.take i).foldl (kJ b) ([],decide (b.items.length=0))).1.length<=i:=fun hf=>by rw[hf]at hl1;have h4:nB false=1:=rfl;simp only[xH]at hl1;omega
  clear hl1 hl2;have hsucc:=EK (kJ b) ([],decide (b.items.length=0)) hx;obtain⟨S,hS⟩:∃S,S=(m.buckets.take i).foldl (kJ b) ([],decide (b.items.length=0)):=⟨_,rfl⟩;rw[<-hS]at ho g6 hlen hnB hsucc;rw[hsucc]at ih;clear hS hsucc;obtain⟨L,put⟩:=S;simp only at ho g6 hlen hnB;obtain⟨c,hc1,hld,hld0⟩:=ib6.atE (T:=zH Tryz.prog kR) he Qa hx;obtain⟨va2,vw2,rfl,ha2,hw2,hi2⟩:=Jx.1 hc1;have x1:=ha2.one;have x2:=hw2.one;have hwi:=xG (n:=n) hlt (by omega);have BH:=(he.2 _ (by omega)).trans B6;have lBH:=jR BH;have lhn:=he.1;obtain⟨hA,hhA,eA,XA⟩:=xX h (.cells [.lit (.int .i64 x.id),.lit (.int .i64 x.kind),va2,vw2] 122);have LXA:=xI XA;have nA:hA.n=h.n+1:=by rw[hhA,zF]
  have BA:=(eA.2 _ lBH).trans BH;have LBA:=xI BA;have oA:=ho.ext eA (jM _);have heA:zM h6.n h6 hA:=he.trans (eA.mono (by omega));cases put with
  |true=>
   by_cases ceq:x.id=b.id
   ·have hst:kJ b (L,true) x=(L,true):=by
     unfold kJ
     simp[ceq]
    rw[hst]at ih
    have cqn:(x.id !=b.id)=false:=by simp[ceq]
    simp only[jN,jB,jD,jE,jF,reduceCtorEq,jG,<-hhA,cqn,ga,g5,g6,hlt,hc,hld0,hwi,s3,d3,x1,x2,LXA,LBA]
    refine ih _ _ ⟨⟨_,oA,heA,by simp only[jN,jF,g5]⟩,by simp only[jN,jF,g6],?_⟩
    simp only[jN,jE,jF,ga]
   ·have hst:kJ b (L,true) x=(L++[x],true):=by
     unfold kJ
     simp[ceq]
    rw[hst]at ih
    have cqn:(x.id !=b.id)=true:=by simp[ceq]
    simp only[jN,jB,jD,jE,jF,reduceCtorEq,jG,<-hhA,cqn,ga,g5,g6,hlt,hc,hld0,hwi,s3,d3,x1,x2,LXA,LBA]
    have eB2:zM hA.n hA (hA.push (.cells [.lit (.int .i64 x.id),.lit (.int .i64 x.kind),va2,vw2] 122)):=(zM.refl _ _).push _ (jM _)
    have heB2:=heA.trans (eB2.mono (by omega))
    refine qM (CK (oA.ext eB2 (jM _)) (by rw[zF];omega) (zI _ _) (ha2.ext heB2 (jM _)) (hw2.ext heB2 (jM _)) hi2 (NS hlen hlt hN sb)) ?_
    rintro s2 hC2 ⟨oC2,fC2⟩
    have fr2:Fr hA s hC2 s2:=(Fr.ext eB2).trans fC2
    have he2:zM h6.n h6 hC2:=heA.trans (qE.extLt fr2 oA (by omega))
    simp only[jN,jB,jE,jF,ga,hwi]
    refine ih _ _ ⟨⟨_,oC2,he2,by simp only[jN,jE,jF,ga]⟩,by simp only[jN,jF,g6],?_⟩
    simp only[jN,jE,jF,ga]
  |false=>
   by_cases cle:x.id<=b.id
   ·simp only[jN,jB,jD,jE,jF,reduceCtorEq,jG,<-hhA,cle,ga,g5,g6,hlt,hc,hld0,hwi,s3,d3,x1,x2,LXA,LBA];have eB1:zM hA.n hA (hA.push (.cells [.lit (.int .i64 b.id),.lit (.int .i64 b.kind),ra,rw1] 122)):=(zM.refl _ _).push _ (jM _);have heB1:=heA.trans (eB1.mono (by omega));refine qM (CK (oA.ext eB1 (jM _)) (by rw[zF];omega) (zI _ _) (bi6.ext heB1 (jM _)) (bw6.ext heB1 (jM _)) hi (NS hlen hlt hN sb)) ?_;rintro s1 hC1 ⟨oC1,fC1⟩;have fr1:Fr hA s hC1 s1:=(Fr.ext eB1).trans fC1;have q1:=(oC1.toSl (F:=fun _=>True) (fun _ _=>trivial) (fun _ _=>trivial)).isSl;have z1:=(oC1.toSl (F:=fun _=>True) (fun _ _=>trivial) (fun _ _=>trivial)).one;have he1:zM h6.n h6 hC1:=heA.trans (qE.extLt fr1 oA (by omega));obtain⟨X1,-⟩:=fr1.box XA (ho.apart (jM _));have LX1:=xI X1;have lX1:=jR X1;have B1':=(he1.2 _ lB6).trans B6;have LB1':=Xy (T:=zH Tryz.prog kR) B1';have lB1':=jR B1';have ln1:=he1.1;simp only[jN,jB,jE,jF,ga];by_cases ceq:x.id=b.id
    ·have hst:kJ b (L,false) x=(L++[b],true):=by
      unfold kJ
      simp[ceq]
     rw[hst]at ih
     have cqn:(x.id !=b.id)=false:=by simp[ceq]
     simp only[jN,jB,jD,jE,jF,reduceCtorEq,jG,cqn,LX1,LB1',ga,hwi]
     refine ih _ _ ⟨⟨_,oC1,he1,by simp only[jN,jE,jF,ga]⟩,by simp only[jN,jE,jF,ga],?_⟩
     simp only[jN,jE,jF,ga]
    ·have hst:kJ b (L,false) x=(L++[b]++[x],true):=by
      unfold kJ
      simp[ceq,cle]
     rw[hst]at ih
     have cqn:(x.id !=b.id)=true:=by simp[ceq]
     simp only[jN,jB,jD,jE,jF,reduceCtorEq,jG,cqn,LX1,LB1',ga,hwi]
     have eB2:zM hC1.n hC1 (hC1.push (.cells [.lit (.int .i64 x.id),.lit (.int .i64 x.kind),va2,vw2] 122)):=(zM.refl _ _).push _ (jM _)
     have heB2:=he1.trans (eB2.mono (by omega))
     refine qM (CK (oC1.ext eB2 (jM _)) (by rw[zF];omega) (zI _ _) (ha2.ext heB2 (jM _)) (hw2.ext heB2 (jM _)) hi2 (j3v (hnB rfl) hlt hN sb)) ?_
     rintro s2 hC2 ⟨oC2,fC2⟩
     have fr2:Fr hC1 s1 hC2 s2:=(Fr.ext eB2).trans fC2
     have he2:zM h6.n h6 hC2:=he1.trans (qE.extLt fr2 oC1 (by omega))
     simp only[jN,jB,jE,jF,ga,hwi]
     refine ih _ _ ⟨⟨_,oC2,he2,by simp only[jN,jE,jF,ga]⟩,by simp only[jN,jE,jF,ga],?_⟩
     simp only[jN,jE,jF,ga]
   ·skip
    by_cases ceq:x.id=b.id
    ·exact absurd (by omega) cle
    ·have hst:kJ b (L,false) x=(L++[x],false):=by
      unfold kJ
      simp[ceq,cle]
     rw[hst]at ih
     have cqn:(x.id !=b.id)=true:=by simp[ceq]
     simp only[jN,jB,jD,jE,jF,reduceCtorEq,jG,<-hhA,cqn,cle,ga,g5,g6,hlt,hc,hld0,hwi,s3,d3,x1,x2,LXA,LBA]
     have eB2:zM hA.n hA (hA.push (.cells [.lit (.int .i64 x.id),.lit (.int .i64 x.kind),va2,vw2] 122)):=(zM.refl _ _).push _ (jM _)
     have heB2:=heA.trans (eB2.mono (by omega))
     refine qM (CK (oA.ext eB2 (jM _)) (by rw[zF];omega) (zI _ _) (ha2.ext heB2 (jM _)) (hw2.ext heB2 (jM _)) hi2 (NS hlen hlt hN sb)) ?_
     rintro s2 hC2 ⟨oC2,fC2⟩
     have fr2:Fr hA s hC2 s2:=(Fr.ext eB2).trans fC2
     have he2:zM h6.n h6 hC2:=heA.trans (qE.extLt fr2 oA (by omega))
     simp only[jN,jB,jE,jF,ga,hwi]
     refine ih _ _ ⟨⟨_,oC2,he2,by simp only[jN,jE,jF,ga]⟩,by simp only[jN,jF,g6],?_⟩
     simp only[jN,jE,jF,ga]
 ·rintro t h hc ⟨⟨s,ho,he,g5⟩,g6,ga⟩;rw[hN,xC]at ho g6;have hlen:(m.buckets.foldl (kJ b) ([],decide (b.items.length=0))).2=false->(m.buckets.foldl (kJ b) ([],decide (b.items.length=0))).1.length<=m.buckets.length:=fun hf=>by have h1:=QZ (b:=b) m.buckets ([],decide (b.items.length=0));have h2:=NY (decide (b.items.length=0));rw[hf]at h1;have h4:nB false=1:=rfl;simp only[xH]at h1;omega
  have hwb:(JO m b).buckets=if(m.buckets.foldl (kJ b) ([],decide (b.items.length=0))).2 then(m.buckets.foldl (kJ b) ([],decide (b.items.length=0))).1 else(m.buckets.foldl (kJ b) ([],decide (b.items.length=0))).1++[b]:=rfl
  obtain⟨S,hS⟩:∃S,S=m.buckets.foldl (kJ b) ([],decide (b.items.length=0)):=⟨_,rfl⟩;rw[<-hS]at ho g6 hlen hwb;clear hS;obtain⟨L,put⟩:=S;simp only at ho g6 hlen hwb;have t2:=(ho.toSl (F:=fun _=>True) (fun _ _=>trivial) (fun _ _=>trivial)).one;have PH:=(he.2 _ lP6).trans P6;have BH:=(he.2 _ lB6).trans B6;have ZH:=(he.2 _ (by omega)).trans Z6;have LB:=xI BH;have lPH:=jR PH;have lZH:=jR ZH;have lhn:=he.1;have hne:¬H.n=H.n+2:=by omega
  have fin:∀(h':AH) (s':AV) (X Y:AB),zM h6.n h6 h'->qE Vq (fun k=>hp.n<=k) h6.n h' s' 122 (JO m b).buckets->
   zM H.n H ((h'.put H.n X).put (H.n+2) Y)/\vG (fun b=>H.n<=b) ((h'.put H.n X).put (H.n+2) Y) (JO m b) vo3 vp3 s':=by
   intro h' s' X Y he' hs'
   refine⟨((E6.trans (he'.mono E6.1)).put _ (jM _)).put _ (by omega),?_,?_,?_⟩
   ·exact(((own6.o.ext he' (jM _)).put_ap (own6.o.apartLt (by omega))).put_ap (own6.o.apartLt (by omega))).toSl fun b hb=>by omega
   ·exact(((own6.p.ext he' (jM _)).put_ap (own6.p.apartLt (by omega))).put_ap (own6.p.apartLt (by omega))).toSl fun b hb=>by omega
   ·exact(hs'.toSl (F:=fun k=>hp.n<=k) (fun k hk=>hk) (fun k hk=>by omega)).lift fun k hk _=>⟨by rw[zE _ (by omega),zE _ (by omega)],by omega⟩
  cases put with
  |true=>
   simp only[jN,jB,jD,jE,jF,reduceCtorEq,jG,ga,g5,g6,hc,s3,d3,t2,LB,lPH,PH,ZH,lZH,y1,y2,hne];obtain⟨f1,f2⟩:=fin h s _ _ he (by rw[hwb,if_pos rfl];exact ho);exact⟨f1,vo3,vp3,s,rfl,f2⟩
  |false=>
   simp only[jN,jB,jD,jE,jF,reduceCtorEq,jG,ga,g5,g6,hc,s3,d3,t2,LB,lPH,PH,ZH,lZH,y1,y2,hne];have eB2:zM h.n h (h.push (.cells [.lit (.int .i64 b.id),.lit (.int .i64 b.kind),ra,rw1] 122)):=(zM.refl _ _).push _ (jM _);have heB:=he.trans (eB2.mono lhn);refine qM (CK (ho.ext eB2 (jM _)) (by rw[zF];omega) (zI _ _) (bi6.ext heB (jM _)) (bw6.ext heB (jM _)) hi (j3w (hlen rfl) sb)) ?_;rintro s2 hC2 ⟨oC,fC⟩;have fr:Fr h s hC2 s2:=(Fr.ext eB2).trans fC;have heC:zM h6.n h6 hC2:=he.trans (qE.extLt fr ho lhn);have t4:=(oC.toSl (F:=fun _=>True) (fun _ _=>trivial) (fun _ _=>trivial)).one;have PC:=(heC.2 _ lP6).trans P6;have ZC:=(heC.2 _ (by omega)).trans Z6;have lPC:=jR PC;have lZC:=jR ZC;simp only[jN,jB,jE,jF,reduceCtorEq,jG,ga,t4,PC,lPC,ZC,lZC,y1,y2,hne];obtain⟨f1,f2⟩:=fin hC2 s2 _ _ heC (by rw[hwb,if_neg (by simp)];exact oC);exact⟨f1,vo3,vp3,s2,rfl,f2⟩
 ·have hd:((b.items.length:Int)==0)=decide (b.items.length=0):=by
   by_cases h:b.items.length=0
   ·rw[h];rfl
   ·rw[decide_eq_false h];simp;exact fun hh=>h (by rw[hh];rfl)
  refine⟨⟨_,qE.nil,zM.refl _ _,by simp only[jN,jB,jE,jF]⟩,?_,?_⟩
  ·simp only[jN,jB,jE,jF,hd,List.foldl_nil]
  ·simp only[jN,jB,jE,jF];rfl
def KV(F:Nat->Prop)(H:AH)(m:zU)(c:Yn)(r:AV)(h':AH):Prop:=
 zM H.n H h'/\∃n ro rp rb,r= .tup [vS n ro rp rb,.lit (.int .i64 (xV m c))]/\vG (fun k=>F k\/H.n<=k) h' n ro rp rb/\(xV m c=0->n=kI m c)
variable{c:Yn}
theorem KV.no{e:Int}(hm:vG F H m vo vp vb)(he:zM H.n H h')(hc:xV m c=e)(h0:e≠0):KV F H m c (.tup [vS m vo vp vb,.lit (.int .i64 e)]) h':=by have h1:=hm.ext he (jM _);exact⟨he,m,vo,vp,vb,by rw[hc],⟨h1.o.lift fun _ h _=>⟨rfl,.inl h⟩,h1.p.lift fun _ h _=>⟨rfl,.inl h⟩,h1.b.lift fun _ h _=>⟨rfl,.inl h⟩⟩,fun hh=>absurd (hc.symm.trans hh) h0⟩
theorem KV.yes(hm:vG (fun k=>H.n<=k) h' (kI m c) vo vp vb)(he:zM H.n H h')(hc:xV m c=0):KV F H m c (.tup [vS (kI m c) vo vp vb,.lit (.int .i64 0)]) h':=
 ⟨he,_,vo,vp,vb,by rw[hc],⟨hm.o.lift fun _ h _=>⟨rfl,.inr h⟩,hm.p.lift fun _ h _=>⟨rfl,.inr h⟩,hm.b.lift fun _ h _=>⟨rfl,.inr h⟩⟩,fun _=>rfl⟩
theorem vG.putLt{x:AB}(hm:vG (fun k=>n0<=k) h m vo vp vb)(hp:p<n0):vG (fun k=>n0<=k) (h.put p x) m vo vp vb:=
 ⟨hm.o.lift fun b hb _=>⟨zE _ (by omega),hb⟩,hm.p.lift fun b hb _=>⟨zE _ (by omega),hb⟩,hm.b.lift fun b hb _=>⟨zE _ (by omega),hb⟩⟩
theorem vG.monoN{n1:Nat}(hm:vG (fun k=>n0<=k) h m vo vp vb)(hn:n1<=n0):vG (fun k=>n1<=k) h m vo vp vb:=
 ⟨hm.o.lift fun b hb _=>⟨rfl,by omega⟩,hm.p.lift fun b hb _=>⟨rfl,by omega⟩,hm.b.lift fun b hb _=>⟨rfl,by omega⟩⟩
theorem mI(c:Yn)(hm:vG F H m vo vp vb)(hok:Ds m)(hz:Ca m)(hc:BZ F2 H c va vw)(hk:c.kind=5):
 vR 94 [vS m vo vp vb,Eh c va vw] H (KV F H m c):=by
 refine zW Tryz.func94 rfl rfl ?_
 have o1:=hm.o.one
 have o2:=hm.p.one
 have o3:=hm.b.one
 have a1:=hc.a.one
 have w1:=hc.w.one
 obtain⟨hp,hhp,EP,P0,C0,Z0,nP⟩:=JA (H:=H) (mC m vo vp vb) (cC c va vw) mz
 unfold mC at P0 hhp
 unfold cC at C0 hhp
 unfold mz at Z0 hhp
 have lP:=jR P0
 have lC:=jR C0
 have lZ:=jR Z0
 simp only[jN,seval,Tryz.ntmps94,vS,Eh,o1,o2,o3,a1,w1]
 rw[<-hhp]
 clear hhp
 have k5e:(c.kind==5)=true:=by rw[hk];rfl
 obtain⟨hq,hhq,eQ,A0⟩:=xX hp (.cells (Ul c.pool) 108)
 have nQ:hq.n=hp.n+1:=by rw[hhq,zF]
 unfold Ul at A0 hhq
 rw[show hp.n=H.n+1+1+1 by omega]at A0
 have LA:=xI A0
 have lA:=jR A0
 have P1:=(eQ.2 _ lP).trans P0
 have C1:=(eQ.2 _ lC).trans C0
 have Z1:=(eQ.2 _ lZ).trans Z0
 have LP1:=xI P1
 have lP1:=jR P1
 have lC1:=jR C1
 have lZ1:=jR Z1
 have EQ:=EP.step eQ
 have hM:xV m c=vH m c.pool:=by unfold xV;rw[if_neg (by unfold Xx;omega),if_pos hk]
 have hE:kI m c={m with pools:=Xi m.pools c.pool}:=by unfold kI;rw[if_pos hk]
 by_cases c1:c.pool.id<1
 ·have hB:xV m c=22:=by rw[hM];unfold vH;rw[if_pos (by unfold JC;omega)]
  simp only[jN,seval,o1,o2,o3,<-hhq,LA,LP1,Z1,lZ1,k5e,c1];exact KV.no hm (EQ.put _ (by omega)) hB (by decide)
 by_cases c2:4<c.pool.id
 ·have hB:xV m c=22:=by rw[hM];unfold vH;rw[if_pos (by unfold JC;omega)]
  simp only[jN,seval,o1,o2,o3,<-hhq,LA,LP1,Z1,lZ1,k5e,c1,c2];exact KV.no hm (EQ.put _ (by omega)) hB (by decide)
 by_cases c3:c.pool.size<1
 ·have hB:xV m c=22:=by rw[hM];unfold vH;rw[if_pos (by unfold JC;omega)]
  simp only[jN,seval,o1,o2,o3,<-hhq,LA,LP1,Z1,lZ1,k5e,c1,c2,c3];exact KV.no hm (EQ.put _ (by omega)) hB (by decide)
 by_cases c4:8<c.pool.size
 ·have hB:xV m c=22:=by rw[hM];unfold vH;rw[if_pos (by unfold JC;omega)]
  simp only[jN,seval,o1,o2,o3,<-hhq,LA,LP1,Z1,lZ1,k5e,c1,c2,c3,c4];exact KV.no hm (EQ.put _ (by omega)) hB (by decide)
 by_cases c5:c.pool.min<1
 ·have hB:xV m c=22:=by rw[hM];unfold vH;rw[if_pos (by unfold JC;omega)]
  simp only[jN,seval,o1,o2,o3,<-hhq,LA,LP1,Z1,lZ1,k5e,c1,c2,c3,c4,c5];exact KV.no hm (EQ.put _ (by omega)) hB (by decide)
 by_cases c6:c.pool.size<c.pool.min
 ·have hB:xV m c=22:=by rw[hM];unfold vH;rw[if_pos (by unfold JC;omega)]
  simp only[jN,seval,o1,o2,o3,<-hhq,LA,LP1,Z1,lZ1,k5e,c1,c2,c3,c4,c5,c6];exact KV.no hm (EQ.put _ (by omega)) hB (by decide)
 by_cases c7:c.pool.pgs<1
 ·have hB:xV m c=22:=by rw[hM];unfold vH;rw[if_pos (by unfold JC;omega)]
  simp only[jN,seval,o1,o2,o3,<-hhq,LA,LP1,Z1,lZ1,k5e,c1,c2,c3,c4,c5,c6,c7];exact KV.no hm (EQ.put _ (by omega)) hB (by decide)
 by_cases c8:8<c.pool.pgs
 ·have hB:xV m c=22:=by rw[hM];unfold vH;rw[if_pos (by unfold JC;omega)]
  simp only[jN,seval,o1,o2,o3,<-hhq,LA,LP1,Z1,lZ1,k5e,c1,c2,c3,c4,c5,c6,c7,c8];exact KV.no hm (EQ.put _ (by omega)) hB (by decide)
 have hB:xV m c=match JG m c.pool.id with
  |some q=>if q.pgs=c.pool.pgs then 0 else 126
  |none=>0:=by rw[hM];unfold vH;rw[if_neg (by unfold JC;omega)]<;>rfl
 simp only[jN,seval,o1,o2,o3,<-hhq,LA,LP1,Z1,lZ1,k5e,c1,c2,c3,c4,c5,c6,c7,c8]
 refine(wO c.pool.id (hm.ext EQ (jM _)) (UO (KO _) hz.sp)).mono ?_
 rintro _ h2 ⟨e2,rfl⟩
 have E2:=EQ.step e2
 have f2:=e2.1
 obtain⟨h3,hh3,e3,D3⟩:=xX h2 (.cells (Ul (vV m c.pool.id)) 108)
 unfold Ul at D3 hh3
 have n3:h3.n=h2.n+1:=by rw[hh3,zF]
 have e23:=e2.trans (e3.mono f2)
 have A3:=(e23.2 _ lA).trans A0
 have P3:=(e23.2 _ lP1).trans P1
 have C3:=(e23.2 _ lC1).trans C1
 have Z3:=(e23.2 _ lZ1).trans Z1
 have LA3:=xI A3
 have LP3:=xI P3
 have LC3:=xI C3
 have LD3:=xI D3
 have lA3:=jR A3
 have lP3:=jR P3
 have lC3:=jR C3
 have lZ3:=jR Z3
 have lD3:=jR D3
 have E3:=E2.step e3
 have fin:vR 116 [vS m vo vp vb,Zz c.pool] h3 fun r h'=>zM h3.n h3 h'/\∃ro rp rb,r=vS {m with pools:=Xi m.pools c.pool} ro rp rb/\vG (fun b=>h3.n<=b) h' {m with pools:=Xi m.pools c.pool} ro rp rb:=bF c.pool (hm.ext E3 (jM _)) hok hz.sp hc.hp
 cases hf:JG m c.pool.id with
 |none=>
  rw[hf]at hB;simp only[jN,seval,o1,o2,o3,Zz,<-hh3,LA3,LP3,lZ3,Z3,Jg];refine fin.mono ?_;rintro _ h4 ⟨e4,ro,rp,rb,rfl,m4⟩;have Z4:=(e4.2 _ lZ3).trans Z3;have lZ4:=jR Z4;have q1:=m4.o.one;have q2:=m4.p.one;have q3:=m4.b.one;simp only[jN,seval,vS,q1,q2,q3,Z4,lZ4];have key:=KV.yes (F:=F) (H:=H) (m:=m) (c:=c) (vo:=ro) (vp:=rp) (vb:=rb) (h':=h4.put (H.n+2) (.cells [.lit (.int .i64 m.epoch),ro,rp,rb,.lit (.int .i64 m.leaf)] 66)) (by rw[hE];exact(m4.putLt (by omega)).monoN (by omega)) ((E3.step e4).put _ (by omega)) hB;rw[hE]at key;exact key
 |some q=>
  rw[hf]at hB;have hG:vV m c.pool.id=q:=by unfold vV;rw[hf];rfl
  by_cases cq:q.pgs=c.pool.pgs
  ·have cqn:((vV m c.pool.id).pgs !=c.pool.pgs)=false:=by rw[hG];simp[cq]
   have hB:xV m c=0:=by rw[hB];exact if_pos cq
   simp only[jN,seval,o1,o2,o3,Zz,<-hh3,LA3,LP3,LD3,lZ3,Z3,cqn];refine fin.mono ?_;rintro _ h4 ⟨e4,ro,rp,rb,rfl,m4⟩;have Z4:=(e4.2 _ lZ3).trans Z3;have lZ4:=jR Z4;have q1:=m4.o.one;have q2:=m4.p.one;have q3:=m4.b.one;simp only[jN,seval,vS,q1,q2,q3,Z4,lZ4];have key:=KV.yes (F:=F) (H:=H) (m:=m) (c:=c) (vo:=ro) (vp:=rp) (vb:=rb) (h':=h4.put (H.n+2) (.cells [.lit (.int .i64 m.epoch),ro,rp,rb,.lit (.int .i64 m.leaf)] 66)) (by rw[hE];exact(m4.putLt (by omega)).monoN (by omega)) ((E3.step e4).put _ (by omega)) hB;rw[hE]at key;exact key
  ·have cqn:((vV m c.pool.id).pgs !=c.pool.pgs)=true:=by rw[hG];simp[cq]
   have hB:xV m c=126:=by rw[hB];exact if_neg cq
   simp only[jN,seval,o1,o2,o3,Zz,<-hh3,LA3,LP3,LD3,lZ3,Z3,cqn];exact KV.no hm (E3.put _ (by omega)) hB (by decide)
theorem mK(c:Yn)(hm:vG F H m vo vp vb)(hok:Ds m)(hz:Ca m)(hc:BZ F2 H c va vw)(hk:c.kind=7):
 vR 94 [vS m vo vp vb,Eh c va vw] H (KV F H m c):=by
 refine zW Tryz.func94 rfl rfl ?_
 have o1:=hm.o.one
 have o2:=hm.p.one
 have o3:=hm.b.one
 have a1:=hc.a.one
 have w1:=hc.w.one
 obtain⟨hp,hhp,EP,P0,C0,Z0,nP⟩:=JA (H:=H) (mC m vo vp vb) (cC c va vw) mz
 unfold mC at P0 hhp
 unfold cC at C0 hhp
 unfold mz at Z0 hhp
 have LP:=xI P0
 have LC:=xI C0
 have lP:=jR P0
 have lC:=jR C0
 have lZ:=jR Z0
 have hne:¬H.n=H.n+2:=by omega
 simp only[jN,seval,Tryz.ntmps94,vS,Eh,o1,o2,o3,a1,w1]
 rw[<-hhp]
 clear hhp
 have k5e:(c.kind==5)=false:=by rw[hk];rfl
 have k6e:(c.kind==6)=false:=by rw[hk];rfl
 have hM:xV m c=if c.value<0\/3<c.value then 22 else 0:=by unfold xV;rw[if_neg (by unfold Xx;omega),if_neg (by omega),if_neg (by omega),if_pos hk]
 have hE:kI m c={m with leaf:=c.value}:=by unfold kI;rw[if_neg (by omega),if_neg (by omega),if_pos hk]
 by_cases c1:c.value<0
 ·have hB:xV m c=22:=by rw[hM];exact if_pos (.inl c1)
  simp only[jN,seval,o1,o2,o3,LP,Z0,lZ,k5e,k6e,c1];exact KV.no hm (EP.put _ (by omega)) hB (by decide)
 by_cases c2:3<c.value
 ·have hB:xV m c=22:=by rw[hM];exact if_pos (.inr c2)
  simp only[jN,seval,o1,o2,o3,LP,LC,Z0,lZ,k5e,k6e,c1,c2];exact KV.no hm (EP.put _ (by omega)) hB (by decide)
 have hB:xV m c=0:=by rw[hM];exact if_neg (by omega)
 simp only[jN,seval,o1,o2,o3,LP,LC,Z0,lZ,k5e,k6e,c1,c2]
 refine(DA (hm.ext EP (jM _)) hok).mono ?_
 rintro _ h3 ⟨e3,ro,rp,rb,rfl,hown⟩
 have own3:=hown 0 (by omega)
 have m3:=own3.at (F:=fun k=>hp.n<=k) (fun _ h=>h)
 have q1:=m3.o.one
 have q2:=m3.p.one
 have q3:=m3.b.one
 have P3:=(e3.2 _ lP).trans P0
 have C3:=(e3.2 _ lC).trans C0
 have Z3:=(e3.2 _ lZ).trans Z0
 have lP3:=jR P3
 have lZ3:=jR Z3
 have LC3:=xI C3
 have hn1:¬H.n=H.n+1:=by omega
 have E3:=EP.step e3
 simp only[jN,seval,vS,q1,q2,q3,P3,Z3,LC3,lP3,lZ3,hne,hn1]
 have mE:vG (fun k=>hp.n<=k) h3 (kI m c) ro rp rb:=by rw[hE];exact⟨m3.o,m3.p,m3.b⟩
 have key:=KV.yes (F:=F) (H:=H) (m:=m) (c:=c) (((mE.putLt (p:=H.n) (x:= .cells [.lit (.int .i64 m.epoch),ro,rp,rb,.lit (.int .i64 m.leaf)] 66) (by omega)).putLt (p:=H.n) (x:= .cells [.lit (.int .i64 m.epoch),ro,rp,rb,.lit (.int .i64 c.value)] 66) (by omega)).putLt (p:=H.n+2) (x:= .cells [.lit (.int .i64 m.epoch),ro,rp,rb,.lit (.int .i64 c.value)] 66) (by omega) |>.monoN (by omega)) (((E3.put _ (jM _)).put _ (jM _)).put _ (by omega)) hB
 rw[hE]at key
 exact key
theorem mJ(c:Yn)(hm:vG F H m vo vp vb)(hok:Ds m)(hz:Ca m)(hc:BZ F2 H c va vw)(hk:c.kind=6):
 vR 94 [vS m vo vp vb,Eh c va vw] H (KV F H m c):=by
 refine zW Tryz.func94 rfl rfl ?_
 have o1:=hm.o.one
 have o2:=hm.p.one
 have o3:=hm.b.one
 have a1:=hc.a.one
 have w1:=hc.w.one
 have a2:=hc.a.isSl
 have a3:=hc.a.lenD
 obtain⟨hp,hhp,EP,P0,C0,Z0,nP⟩:=JA (H:=H) (mC m vo vp vb) (cC c va vw) mz
 unfold mC at P0 hhp
 unfold cC at C0 hhp
 unfold mz at Z0 hhp
 have LP:=xI P0
 have LC:=xI C0
 have lP:=jR P0
 have lC:=jR C0
 have lZ:=jR Z0
 simp only[jN,seval,Tryz.ntmps94,vS,Eh,o1,o2,o3,a1,w1]
 rw[<-hhp]
 clear hhp
 have k5e:(c.kind==5)=false:=by rw[hk];rfl
 have k6e:(c.kind==6)=true:=by rw[hk];rfl
 have hM:xV m c=Yd m c.bucket:=by unfold xV;rw[if_neg (by unfold Xx;omega),if_neg (by omega),if_pos hk]
 have hE:kI m c=JO m c.bucket:=by unfold kI;rw[if_neg (by omega),if_pos hk]
 by_cases c1:c.bucket.id< -32
 ·have hB:xV m c=22:=by rw[hM];unfold Yd;rw[if_pos (.inl c1)]
  simp only[jN,seval,o1,o2,o3,LP,LC,Z0,lZ,k5e,k6e,c1];exact KV.no hm (EP.put _ (by omega)) hB (by decide)
 by_cases c2: -1<c.bucket.id
 ·have hB:xV m c=22:=by rw[hM];unfold Yd;rw[if_pos (.inr c2)]
  simp only[jN,seval,o1,o2,o3,LP,LC,Z0,lZ,k5e,k6e,c1,c2];exact KV.no hm (EP.put _ (by omega)) hB (by decide)
 have hB:xV m c=if(kU m c.bucket.id).isNone=true/\c.bucket.items=[]then 2 else if vX (JO m c.bucket)then 0 else 22:=by rw[hM];unfold Yd;rw[if_neg (by omega)]
 simp only[jN,seval,o1,o2,o3,LP,LC,Z0,lZ,k5e,k6e,c1,c2]
 refine(Ev c.bucket.id (hm.ext EP (jM _)) (UO (KO _) hz.sb)).mono ?_
 rintro _ h2 ⟨e2,va2,vw2,rfl,b1,b2⟩
 have x1:=b1.one
 have x2:=b2.one
 have E2:=EP.step e2
 have f2:=e2.1
 obtain⟨h3,hh3⟩:∃h3,h3=h2.push (.cells [.lit (.int .i64 (qN m c.bucket.id).id),.lit (.int .i64 (qN m c.bucket.id).kind),va2,vw2] 122):=⟨_,rfl⟩
 have e3:=ZS hh3
 have n3:h3.n=h2.n+1:=by rw[hh3,zF]
 have e23:=e2.trans (e3.mono f2)
 have P3:=(e23.2 _ lP).trans P0
 have C3:=(e23.2 _ lC).trans C0
 have Z3:=(e23.2 _ lZ).trans Z0
 have LP3:=xI P3
 have LC3:=xI C3
 have lP3:=jR P3
 have lC3:=jR C3
 have lZ3:=jR Z3
 have E3:=E2.step e3
 have hci:((c.bucket.items.length:Int)==0)=decide (c.bucket.items=[]):=by
  by_cases h:c.bucket.items=[]
  ·rw[h];rfl
  ·rw[decide_eq_false h];simp;exact h
 have fin:∀(hne:¬((kU m c.bucket.id).isNone=true/\c.bucket.items=[])),vR 118 [vS m vo vp vb,Xq c.bucket va vw] h3 fun r h'=>zM h3.n h3 h'/\∃ro rp rb,r=vS (JO m c.bucket) ro rp rb/\vG (fun b=>h3.n<=b) h' (JO m c.bucket) ro rp rb:=fun _=>OR c.bucket (hm.ext E3 (jM _)) hok (j5p hz.sb) (hc.a.ext E3 (jM _)) (hc.w.ext E3 (jM _)) hc.la hc.lw hc.hi
 cases hb:kU m c.bucket.id with
 |none=>
  rw[hb]at fin hB;by_cases ci:c.bucket.items=[]
  ·have hcd:decide (c.bucket.items=[])=true:=decide_eq_true ci;have hB:xV m c=2:=by rw[hB];exact if_pos ⟨rfl,ci⟩
   simp only[jN,seval,o1,o2,o3,a2,a3,Xq,x1,x2,<-hh3,LP3,LC3,lZ3,Z3,hci,hcd,Jg];exact KV.no hm (E3.put _ (by omega)) hB (by decide)
  have hcd:decide (c.bucket.items=[])=false:=decide_eq_false ci;have hB:xV m c=if vX (JO m c.bucket)then 0 else 22:=by rw[hB];exact if_neg (fun hh=>ci hh.2)
  simp only[jN,seval,o1,o2,o3,a2,a3,Xq,x1,x2,<-hh3,LP3,LC3,lZ3,Z3,hci,hcd,Jg];refine(fin (fun hh=>ci hh.2)).mono ?_;rintro _ h4 ⟨e4,ro,rp,rb,rfl,m4⟩;have q1:=m4.o.one;have q2:=m4.p.one;have q3:=m4.b.one;have f4:=e4.1;obtain⟨h5,hh5,e5,D5⟩:=xX h4 (.cells [.lit (.int .i64 m.epoch),ro,rp,rb,.lit (.int .i64 m.leaf)] 66);have n5:h5.n=h4.n+1:=by rw[hh5,zF]
  have LD5:=xI D5;have lD5:=jR D5;have m5:=m4.ext e5 (jM _);have hw1:(JO m c.bucket).epoch=m.epoch:=rfl;have hw2:(JO m c.bucket).leaf=m.leaf:=rfl;simp only[jN,seval,vS,q1,q2,q3,<-hh5,LD5,hw1,hw2];refine(Pg m5 (Ac hz.sb hz.bk hc.la hc.lw)).mono ?_;rintro _ h6 ⟨e6,rfl⟩;have e46:=e4.trans ((e5.mono f4).trans (e6.mono (by omega)));have P6:=(e46.2 _ lP3).trans P3;have Z6:=(e46.2 _ lZ3).trans Z3;have D6:=(e6.2 _ lD5).trans D5;have LP6:=xI P6;have LD6:=xI D6;have lZ6:=jR Z6;by_cases hg:vX (JO m c.bucket)=true
  ·have hB:xV m c=0:=by rw[hB];exact if_pos hg
   simp only[jN,seval,hg,LP6,LD6,Z6,lZ6,q1,q2,q3,o1,o2,o3];have key:=KV.yes (F:=F) (H:=H) (m:=m) (c:=c) (vo:=ro) (vp:=rp) (vb:=rb) (h':=h6.put (H.n+2) (.cells [.lit (.int .i64 m.epoch),ro,rp,rb,.lit (.int .i64 m.leaf)] 66)) (by rw[hE];exact((m5.ext e6 (jM _)).putLt (by omega)).monoN (by omega)) ((E3.step e46).put _ (by omega)) hB;rw[hE]at key;exact key
  ·have hgf:vX (JO m c.bucket)=false:=by simpa using hg
   have hB:xV m c=22:=by rw[hB];exact if_neg hg
   simp only[jN,seval,hgf,LP6,LD6,Z6,lZ6,q1,q2,q3,o1,o2,o3];exact KV.no hm ((E3.step e46).put _ (by omega)) hB (by decide)
 |some y=>
  rw[hb]at fin hB
  have hB:xV m c=if vX (JO m c.bucket)then 0 else 22:=by rw[hB];exact if_neg (fun hh=>by cases hh.1)
  obtain⟨dd,hdd⟩:∃dd,dd=decide (c.bucket.items=[]):=⟨_,rfl⟩
  rw[<-hdd]at hci
  cases dd with
  |true=>
   simp only[jN,seval,o1,o2,o3,a2,a3,Xq,x1,x2,<-hh3,LP3,LC3,lZ3,Z3,hci];refine(fin (fun hh=>by cases hh.1)).mono ?_;rintro _ h4 ⟨e4,ro,rp,rb,rfl,m4⟩;have q1:=m4.o.one;have q2:=m4.p.one;have q3:=m4.b.one;have f4:=e4.1;obtain⟨h5,hh5,e5,D5⟩:=xX h4 (.cells [.lit (.int .i64 m.epoch),ro,rp,rb,.lit (.int .i64 m.leaf)] 66);have n5:h5.n=h4.n+1:=by rw[hh5,zF]
   have LD5:=xI D5;have lD5:=jR D5;have m5:=m4.ext e5 (jM _);have hw1:(JO m c.bucket).epoch=m.epoch:=rfl;have hw2:(JO m c.bucket).leaf=m.leaf:=rfl;simp only[jN,seval,vS,q1,q2,q3,<-hh5,LD5,hw1,hw2];refine(Pg m5 (Ac hz.sb hz.bk hc.la hc.lw)).mono ?_;rintro _ h6 ⟨e6,rfl⟩;have e46:=e4.trans ((e5.mono f4).trans (e6.mono (by omega)));have P6:=(e46.2 _ lP3).trans P3;have Z6:=(e46.2 _ lZ3).trans Z3;have D6:=(e6.2 _ lD5).trans D5;have LP6:=xI P6;have LD6:=xI D6;have lZ6:=jR Z6;by_cases hg:vX (JO m c.bucket)=true
   ·have hB:xV m c=0:=by rw[hB];exact if_pos hg
    simp only[jN,seval,hg,LP6,LD6,Z6,lZ6,q1,q2,q3,o1,o2,o3];have key:=KV.yes (F:=F) (H:=H) (m:=m) (c:=c) (vo:=ro) (vp:=rp) (vb:=rb) (h':=h6.put (H.n+2) (.cells [.lit (.int .i64 m.epoch),ro,rp,rb,.lit (.int .i64 m.leaf)] 66)) (by rw[hE];exact((m5.ext e6 (jM _)).putLt (by omega)).monoN (by omega)) ((E3.step e46).put _ (by omega)) hB;rw[hE]at key;exact key
   ·have hgf:vX (JO m c.bucket)=false:=by simpa using hg
    have hB:xV m c=22:=by rw[hB];exact if_neg hg
    simp only[jN,seval,hgf,LP6,LD6,Z6,lZ6,q1,q2,q3,o1,o2,o3];exact KV.no hm ((E3.step e46).put _ (by omega)) hB (by decide)
  |false=>
   simp only[jN,seval,o1,o2,o3,a2,a3,Xq,x1,x2,<-hh3,LP3,LC3,lZ3,Z3,hci];refine(fin (fun hh=>by cases hh.1)).mono ?_;rintro _ h4 ⟨e4,ro,rp,rb,rfl,m4⟩;have q1:=m4.o.one;have q2:=m4.p.one;have q3:=m4.b.one;have f4:=e4.1;obtain⟨h5,hh5,e5,D5⟩:=xX h4 (.cells [.lit (.int .i64 m.epoch),ro,rp,rb,.lit (.int .i64 m.leaf)] 66);have n5:h5.n=h4.n+1:=by rw[hh5,zF]
   have LD5:=xI D5;have lD5:=jR D5;have m5:=m4.ext e5 (jM _);have hw1:(JO m c.bucket).epoch=m.epoch:=rfl;have hw2:(JO m c.bucket).leaf=m.leaf:=rfl;simp only[jN,seval,vS,q1,q2,q3,<-hh5,LD5,hw1,hw2];refine(Pg m5 (Ac hz.sb hz.bk hc.la hc.lw)).mono ?_;rintro _ h6 ⟨e6,rfl⟩;have e46:=e4.trans ((e5.mono f4).trans (e6.mono (by omega)));have P6:=(e46.2 _ lP3).trans P3;have Z6:=(e46.2 _ lZ3).trans Z3;have D6:=(e6.2 _ lD5).trans D5;have LP6:=xI P6;have LD6:=xI D6;have lZ6:=jR Z6;by_cases hg:vX (JO m c.bucket)=true
   ·have hB:xV m c=0:=by rw[hB];exact if_pos hg
    simp only[jN,seval,hg,LP6,LD6,Z6,lZ6,q1,q2,q3,o1,o2,o3];have key:=KV.yes (F:=F) (H:=H) (m:=m) (c:=c) (vo:=ro) (vp:=rp) (vb:=rb) (h':=h6.put (H.n+2) (.cells [.lit (.int .i64 m.epoch),ro,rp,rb,.lit (.int .i64 m.leaf)] 66)) (by rw[hE];exact((m5.ext e6 (jM _)).putLt (by omega)).monoN (by omega)) ((E3.step e46).put _ (by omega)) hB;rw[hE]at key;exact key
   ·have hgf:vX (JO m c.bucket)=false:=by simpa using hg
    have hB:xV m c=22:=by rw[hB];exact if_neg hg
    simp only[jN,seval,hgf,LP6,LD6,Z6,lZ6,q1,q2,q3,o1,o2,o3];exact KV.no hm ((E3.step e46).put _ (by omega)) hB (by decide)
theorem j2G{vb:AV}(hm:vG F H m vo vp vb)(n:Int):j0M (Vf m n):=by
 unfold Vf;split
 ·rw[jU];cases hq:m.osds[n.toNat]? with
  |none=>exact j2r
  |some x=>
   obtain⟨c,hc1,_⟩:=hm.o.get (T:=zH Tryz.prog kR) hq;exact(Qn.1 hc1).2
 ·exact j2r
theorem lM(c:Yn)(hm:vG F H m vo vp vb)(hok:Ds m)(hz:Ca m)(hc:BZ F2 H c va vw)(hk:Xx c.kind):
 vR 65 [vS m vo vp vb,Eh c va vw] H (KV F H m c):=by
 refine zW Tryz.func65 rfl rfl ?_
 have o1:=hm.o.one
 have o2:=hm.p.one
 have o3:=hm.b.one
 have a1:=hc.a.one
 have w1:=hc.w.one
 have I64w:Zq (65536:Int):=by unfold Zq;decide
 have kL:¬c.kind<1:=by unfold Xx at hk;omega
 have kG:¬7<c.kind:=by unfold Xx at hk;omega
 have kE:c.kind<=4:=by unfold Xx at hk;omega
 obtain⟨hp,hhp,EP,P0,C0,Z0,nP⟩:=JA (H:=H) (mC m vo vp vb) (cC c va vw) mz
 unfold mC at P0 hhp
 unfold cC at C0 hhp
 unfold mz at Z0 hhp
 have LP:=xI P0
 have LC:=xI C0
 have lP:=jR P0
 have lC:=jR C0
 have lZ:=jR Z0
 have hM:xV m c=if c.osd<0\/8<=c.osd then 22 else Av m c:=by unfold xV;rw[if_pos hk]
 by_cases q1:c.osd<0
 ·have hB:xV m c=22:=by rw[hM];exact if_pos (.inl q1)
  simp only[jN,jB,jC,jE,jF,reduceCtorEq,jG,Tryz.ntmps65,vS,Eh,o1,o2,o3,a1,w1,<-hhp,LP,LC,Z0,lZ,kL,kG,kE,q1];exact KV.no hm (EP.put _ (by omega)) hB (by decide)
 by_cases q2:8<=c.osd
 ·have hB:xV m c=22:=by rw[hM];exact if_pos (.inr q2)
  simp only[jN,jB,jC,jE,jF,reduceCtorEq,jG,Tryz.ntmps65,vS,Eh,o1,o2,o3,a1,w1,<-hhp,LP,LC,Z0,lZ,kL,kG,kE,q1,q2];exact KV.no hm (EP.put _ (by omega)) hB (by decide)
 have hM:xV m c=Jw m.epoch (Vf m c.osd) c.kind c.value:=by rw[hM];exact if_neg (by omega)
 simp only[jN,jB,jC,jE,jF,reduceCtorEq,jG,Tryz.ntmps65,vS,Eh,o1,o2,o3,a1,w1,<-hhp,LP,LC,Z0,lZ,kL,kG,kE,q1,q2]
 clear hhp
 refine(wL c.osd (hm.ext EP (jM _)) hz.so).mono ?_
 rintro _ h2 ⟨e2,rfl⟩
 have okx:=j2G hm c.osd
 obtain⟨k,hk2⟩:∃k:Nat,c.osd=(k:Int):=⟨c.osd.toNat,by omega⟩
 have hk8:k<8:=by omega
 have hE:kI m c=bQ m k (KA m.epoch (Vf m c.osd) c.kind c.value):=by unfold kI;unfold Xx at hk;rw[if_neg (by omega),if_neg (by omega),if_neg (by omega),hk2];rfl
 obtain⟨oo,hoo⟩:∃oo,oo=Vf m c.osd:=⟨_,rfl⟩
 rw[<-hoo]at hM okx hE ⊢
 clear hoo
 obtain⟨ex,up,w,bt,uf,ut⟩:=oo
 unfold j0M at okx
 simp only at okx
 obtain⟨h3,hh3,e3,D3⟩:=xX h2 (.cells [.lit (.bool ex),.lit (.bool up),.lit (.int .i64 w),.lit (.int .i64 bt),.lit (.int .i64 uf),.lit (.int .i64 ut)] 136)
 have n3:h3.n=h2.n+1:=by rw[hh3,zF]
 have f2:=e2.1
 have e23:=e2.trans (e3.mono f2)
 have P3:=(e23.2 _ lP).trans P0
 have C3:=(e23.2 _ lC).trans C0
 have Z3:=(e23.2 _ lZ).trans Z0
 have LP3:=xI P3
 have LC3:=xI C3
 have LD3:=xI D3
 have lP3:=jR P3
 have lC3:=jR C3
 have lZ3:=jR Z3
 have lD3:=jR D3
 have E3:=(EP.step e2).step e3
 have ho0:¬h2.n=H.n:=by omega
 have ho1:¬h2.n=H.n+1:=by omega
 have ho2:¬h2.n=H.n+2:=by omega
 have fin:∀(h:AH) (y:Xa),j0M y->zM H.n H h->h3.n<=h.n->h.at (H.n+2)=some (.cells [.lit (.int .i64 0),.lit (.slice none 0 0),.lit (.slice none 0 0),.lit (.slice none 0 0),.lit (.int .i64 0)] 66)->KA m.epoch ⟨ex,up,w,bt,uf,ut⟩ c.kind c.value=y->xV m c=0->vR 95 [vS m vo vp vb,.lit (.int .i64 (k:Int)),KD y] h fun r h'=>
  ∃ro rp rb,ro.one=true/\rp.one=true/\rb.one=true/\r=vS (kI m c) ro rp rb/\h'.at (H.n+2)=some (.cells [.lit (.int .i64 0),.lit (.slice none 0 0),.lit (.slice none 0 0),.lit (.slice none 0 0),.lit (.int .i64 0)] 66)/\∀X,KV F H m c (.tup [vS (kI m c) ro rp rb,.lit (.int .i64 0)]) (h'.put (H.n+2) X):=by
  intro h y hy hEh hn hZ hnew hB;refine(j2U y (hm.ext hEh (jM _)) hok hk8 hy).mono ?_;rintro _ h4 ⟨e4,ro,rp,rb,rfl,m4⟩;rw[hnew]at hE;rw[<-hE]at m4 ⊢;exact⟨ro,rp,rb,m4.o.one,m4.p.one,m4.b.one,rfl,(e4.2 _ (by omega)).trans hZ,fun X=>KV.yes ((m4.putLt (by omega)).monoN (by omega)) ((hEh.step e4).put _ (by omega)) hB⟩
 have kk0:=hk
 rcases kk0 with kk|kk|kk|kk
 ·skip
  have k1e:(c.kind==1)=true:=by simp[kk]
  by_cases c1:c.value<1
  ·skip
   have hB:xV m c=22:=by rw[hM];simp[Jw,kk,c1]
   simp only[jN,jB,jE,jF,reduceCtorEq,jG,o1,o2,o3,<-hh3,LP3,LC3,LD3,Z3,lZ3,KD,k1e,c1];exact KV.no hm (E3.put _ (by omega)) hB (by decide)
  cases ex with
  |false=>
   have hB:xV m c=0:=by rw[hM];simp[Jw,kk,c1]
   simp only[jN,jB,jE,jF,reduceCtorEq,jG,o1,o2,o3,<-hh3,LP3,LC3,LD3,D3,Z3,lZ3,KD,k1e,c1,hk2];rw[zL [0,1,2,3,4,5,6,7,8,9,10,11,12] 374075901471492738749618992937956824810286382850048 (by kernel_rfl)];repeat (first|((with_reducible refine jX ?_;simp only[vO];try simp only[vP,jB,jD,jH,jI]);simp only[jN,jB,jE,jF,jG,zG,LP3,LC3,lD3,ho0,ho1,hk2])|simp only[jN,jB,jC,jD,jE,jF,reduceCtorEq,jG,jJ,jK,jL,zG,o1,o2,o3,a1,w1,<-hh3,LP3,LC3,LD3,D3,Z3,lP3,lC3,lZ3,lD3,ho0,ho1,ho2,KD,k1e,c1,hk2,DW])
   refine(fin _ ⟨true,true,65536,c.value,IntKind.i64.wrap (m.epoch+1),ut⟩ ⟨I64w,hc.hv,Ed _,okx.2.2.2⟩ ?_ ?_ ?_ (by simp[KA,kk]) hB).mono ?_
   ·refine zM.put _ (zM.put _ (zM.put _ (zM.put _ ?_ (by omega)) (by omega)) (by omega)) (by omega);first|exact E3|exact E3.put _ (by omega)
   ·simp only[kZ];exact jM _
   ·simp only[zE _ ho2];exact Z3
   rintro _ h4 ⟨ro,rp,rb,z1,z2,z3,rfl,Z4,hR⟩;have lZ4:=jR Z4;simp only[jN,jB,jE,jF,reduceCtorEq,jG,vS,z1,z2,z3,Z4,lZ4];exact hR _
  |true=>
   by_cases c2:c.value<=bt
   ·skip
    have hB:xV m c=126:=by rw[hM];simp[Jw,kk,c1,c2]
    simp only[jN,jB,jE,jF,reduceCtorEq,jG,o1,o2,o3,<-hh3,LP3,LC3,LD3,D3,Z3,lZ3,KD,k1e,c1,c2];exact KV.no hm (E3.put _ (by omega)) hB (by decide)
   ·skip
    have hB:xV m c=0:=by rw[hM];simp[Jw,kk,c1,c2]
    simp only[jN,jB,jE,jF,reduceCtorEq,jG,o1,o2,o3,<-hh3,LP3,LC3,LD3,D3,Z3,lZ3,KD,k1e,c1,c2,hk2];rw[zL [0,1,2,3,4,5,6,7,8,9,10,11,12] 374075901471492738749618992937956824810286382850048 (by kernel_rfl)];repeat (first|((with_reducible refine jX ?_;simp only[vO];try simp only[vP,jB,jD,jH,jI]);simp only[jN,jB,jE,jF,jG,zG,LP3,LC3,D3,lD3,ho0,ho1,hk2])|simp only[jN,jB,jC,jD,jE,jF,reduceCtorEq,jG,jJ,jK,jL,zG,o1,o2,o3,a1,w1,<-hh3,LP3,LC3,LD3,D3,Z3,lP3,lC3,lZ3,lD3,ho0,ho1,ho2,KD,k1e,c1,c2,hk2,DW])
    refine(fin _ ⟨true,true,w,c.value,IntKind.i64.wrap (m.epoch+1),ut⟩ ⟨okx.1,hc.hv,Ed _,okx.2.2.2⟩ ?_ ?_ ?_ (by simp[KA,kk]) hB).mono ?_
    ·refine zM.put _ (zM.put _ (zM.put _ (zM.put _ ?_ (by omega)) (by omega)) (by omega)) (by omega);first|exact E3|exact E3.put _ (by omega)
    ·simp only[kZ];exact jM _
    ·simp only[zE _ ho2];exact Z3
    rintro _ h4 ⟨ro,rp,rb,z1,z2,z3,rfl,Z4,hR⟩;have lZ4:=jR Z4;simp only[jN,jB,jE,jF,reduceCtorEq,jG,vS,z1,z2,z3,Z4,lZ4];exact hR _
 ·skip
  have k1e:(c.kind==1)=false:=by simp[kk]
  have k2e:(c.kind==2)=true:=by simp[kk]
  cases ex with
  |false=>
   have hB:xV m c=2:=by rw[hM];simp[Jw,kk]
   simp only[jN,jB,jE,jF,reduceCtorEq,jG,o1,o2,o3,<-hh3,LP3,LC3,LD3,D3,Z3,lZ3,KD,k1e,k2e];exact KV.no hm (E3.put _ (by omega)) hB (by decide)
  |true=>
   cases up with
   |false=>
    have hB:xV m c=126:=by rw[hM];simp[Jw,kk]
    simp only[jN,jB,jE,jF,reduceCtorEq,jG,o1,o2,o3,<-hh3,LP3,LC3,LD3,D3,Z3,lZ3,lD3,ho0,ho1,KD,k1e,k2e];exact KV.no hm (E3.put _ (by omega)) hB (by decide)
   |true=>
    by_cases c2:c.value=bt
    ·have c2n:(bt !=c.value)=false:=by simp[c2]
     have hB:xV m c=0:=by rw[hM];simp[Jw,kk,c2]
     simp only[jN,jB,jE,jF,reduceCtorEq,jG,o1,o2,o3,<-hh3,LP3,LC3,LD3,D3,Z3,lZ3,lD3,ho0,ho1,KD,k1e,k2e,c2n,hk2];refine(fin _ ⟨true,false,w,bt,uf,ut⟩ ⟨okx.1,okx.2.1,okx.2.2.1,okx.2.2.2⟩ ?_ ?_ ?_ (by simp[KA,kk]) hB).mono ?_
     ·first|exact E3.put _ (by omega)|exact(E3.put _ (by omega)).put _ (by omega)
     ·simp only[kZ];exact jM _
     ·simp only[zE _ ho2];exact Z3
     rintro _ h4 ⟨ro,rp,rb,z1,z2,z3,rfl,Z4,hR⟩;have lZ4:=jR Z4;simp only[jN,jB,jE,jF,reduceCtorEq,jG,vS,z1,z2,z3,Z4,lZ4];exact hR _
    ·have c2n:(bt !=c.value)=true:=by simp;exact fun hh=>c2 hh.symm
     have hB:xV m c=126:=by rw[hM];simp[Jw,kk,c2]
     simp only[jN,jB,jE,jF,reduceCtorEq,jG,o1,o2,o3,<-hh3,LP3,LC3,LD3,D3,Z3,lZ3,lD3,ho0,ho1,KD,k1e,k2e,c2n];exact KV.no hm (E3.put _ (by omega)) hB (by decide)
 ·skip
  have k1e:(c.kind==1)=false:=by simp[kk]
  have k2e:(c.kind==2)=false:=by simp[kk]
  have k3e:(c.kind==3)=true:=by simp[kk]
  cases ex with
  |false=>
   have hB:xV m c=2:=by rw[hM];simp[Jw,kk]
   simp only[jN,jB,jE,jF,reduceCtorEq,jG,o1,o2,o3,<-hh3,LP3,LC3,LD3,D3,Z3,lZ3,KD,k1e,k2e,k3e];exact KV.no hm (E3.put _ (by omega)) hB (by decide)
  |true=>
   by_cases c1:c.value<0
   ·skip
    have hB:xV m c=22:=by rw[hM];simp[Jw,kk,c1]
    simp only[jN,jB,jE,jF,reduceCtorEq,jG,o1,o2,o3,<-hh3,LP3,LC3,LD3,D3,Z3,lZ3,lD3,ho0,ho1,KD,k1e,k2e,k3e,c1];exact KV.no hm (E3.put _ (by omega)) hB (by decide)
   by_cases c2:65536<c.value
   ·skip
    have hB:xV m c=22:=by rw[hM];simp[Jw,kk,c1,c2]
    simp only[jN,jB,jE,jF,reduceCtorEq,jG,o1,o2,o3,<-hh3,LP3,LC3,LD3,D3,Z3,lZ3,lD3,ho0,ho1,KD,k1e,k2e,k3e,c1,c2];exact KV.no hm (E3.put _ (by omega)) hB (by decide)
   have hB:xV m c=0:=by rw[hM];simp[Jw,kk,c1,c2]
   simp only[jN,jB,jE,jF,reduceCtorEq,jG,o1,o2,o3,<-hh3,LP3,LC3,LD3,D3,Z3,lZ3,lD3,ho0,ho1,KD,k1e,k2e,k3e,c1,c2,hk2];refine(fin _ ⟨true,up,c.value,bt,uf,ut⟩ ⟨hc.hv,okx.2⟩ ?_ ?_ ?_ (by simp[KA,kk]) hB).mono ?_
   ·first|exact E3.put _ (by omega)|exact(E3.put _ (by omega)).put _ (by omega)
   ·simp only[kZ];exact jM _
   ·simp only[zE _ ho2];exact Z3
   rintro _ h4 ⟨ro,rp,rb,z1,z2,z3,rfl,Z4,hR⟩;have lZ4:=jR Z4;simp only[jN,jB,jE,jF,reduceCtorEq,jG,vS,z1,z2,z3,Z4,lZ4];exact hR _
 ·skip
  have k1e:(c.kind==1)=false:=by simp[kk]
  have k2e:(c.kind==2)=false:=by simp[kk]
  have k3e:(c.kind==3)=false:=by simp[kk]
  have k4e:(c.kind==4)=true:=by simp[kk]
  cases ex with
  |false=>
   have hB:xV m c=2:=by rw[hM];simp[Jw,kk]
   simp only[jN,jB,jE,jF,reduceCtorEq,jG,o1,o2,o3,<-hh3,LP3,LC3,LD3,D3,Z3,lZ3,KD,k1e,k2e,k3e,k4e];exact KV.no hm (E3.put _ (by omega)) hB (by decide)
  |true=>
   cases up with
   |false=>
    have hB:xV m c=2:=by rw[hM];simp[Jw,kk]
    simp only[jN,jB,jE,jF,reduceCtorEq,jG,o1,o2,o3,<-hh3,LP3,LC3,LD3,D3,Z3,lZ3,lD3,ho0,ho1,KD,k1e,k2e,k3e,k4e];exact KV.no hm (E3.put _ (by omega)) hB (by decide)
   |true=>
    by_cases c1:c.value<0
    ·skip
     have hB:xV m c=22:=by rw[hM];simp[Jw,kk,c1]
     simp only[jN,jB,jE,jF,reduceCtorEq,jG,o1,o2,o3,<-hh3,LP3,LC3,LD3,D3,Z3,lZ3,lD3,ho0,ho1,KD,k1e,k2e,k3e,k4e,c1];exact KV.no hm (E3.put _ (by omega)) hB (by decide)
    by_cases c2:m.epoch<c.value
    ·skip
     have hB:xV m c=22:=by rw[hM];simp[Jw,kk,c1,c2]
     simp only[jN,jB,jE,jF,reduceCtorEq,jG,o1,o2,o3,<-hh3,LP3,LC3,LD3,D3,Z3,lZ3,lD3,ho0,ho1,KD,k1e,k2e,k3e,k4e,c1,c2];exact KV.no hm (E3.put _ (by omega)) hB (by decide)
    by_cases c3:c.value<=ut
    ·skip
     have hB:xV m c=126:=by rw[hM];simp[Jw,kk,c1,c2,c3]
     simp only[jN,jB,jE,jF,reduceCtorEq,jG,o1,o2,o3,<-hh3,LP3,LC3,LD3,D3,Z3,lZ3,lD3,ho0,ho1,KD,k1e,k2e,k3e,k4e,c1,c2,c3];exact KV.no hm (E3.put _ (by omega)) hB (by decide)
    have hB:xV m c=0:=by rw[hM];simp[Jw,kk,c1,c2,c3]
    simp only[jN,jB,jE,jF,reduceCtorEq,jG,o1,o2,o3,<-hh3,LP3,LC3,LD3,D3,Z3,lZ3,lD3,ho0,ho1,KD,k1e,k2e,k3e,k4e,c1,c2,c3,hk2];refine(fin _ ⟨true,true,w,bt,uf,c.value⟩ ⟨okx.1,okx.2.1,okx.2.2.1,hc.hv⟩ ?_ ?_ ?_ (by simp[KA,kk]) hB).mono ?_
    ·first|exact E3.put _ (by omega)|exact(E3.put _ (by omega)).put _ (by omega)
    ·simp only[kZ];exact jM _
    ·simp only[zE _ ho2];exact Z3
    rintro _ h4 ⟨ro,rp,rb,z1,z2,z3,rfl,Z4,hR⟩;have lZ4:=jR Z4;simp only[jN,jB,jE,jF,reduceCtorEq,jG,vS,z1,z2,z3,Z4,lZ4];exact hR _
theorem bA(c:Yn)(hm:vG F H m vo vp vb)(hok:Ds m)(hz:Ca m)(hc:BZ F2 H c va vw)(hk:c.kind=5\/c.kind=6\/c.kind=7):
 vR 94 [vS m vo vp vb,Eh c va vw] H (KV F H m c):=by
 rcases hk with hk|hk|hk
 ·exact mI c hm hok hz hc hk
 ·exact mJ c hm hok hz hc hk
 ·exact mK c hm hok hz hc hk
theorem KV.up{r:AV}(hr:KV F h m c r h')(he:zM H.n H h):KV F H m c r h':=by obtain⟨e,n,ro,rp,rb,hr,hm,hn⟩:=hr;have f:=he.1;exact⟨he.step e,n,ro,rp,rb,hr,⟨hm.o.lift fun b hb _=>⟨rfl,hb.imp id fun h=>by omega⟩,hm.p.lift fun b hb _=>⟨rfl,hb.imp id fun h=>by omega⟩,hm.b.lift fun b hb _=>⟨rfl,hb.imp id fun h=>by omega⟩⟩,hn⟩
theorem BZ.ext(hc:BZ F H c va vw)(he:zM H.n H h):BZ F h c va vw:=
 ⟨hc.a.ext he (jM _),hc.w.ext he (jM _),hc.la,hc.lw,hc.hi,hc.hp,hc.hv⟩
theorem uH(c:Yn)(hF:∀k,F k->k<H.n)(hm:vG F H m vo vp vb)(hok:Ds m)(hz:Ca m)(hc:BZ F2 H c va vw):
 vR 65 [vS m vo vp vb,Eh c va vw] H (KV F H m c):=by
 by_cases hk:Xx c.kind
 ·exact lM c hm hok hz hc hk
 refine zW Tryz.func65 rfl rfl ?_
 have o1:=hm.o.one
 have o2:=hm.p.one
 have o3:=hm.b.one
 have a1:=hc.a.one
 have w1:=hc.w.one
 obtain⟨hp,hhp,EP,P0,C0,Z0,nP⟩:=JA (H:=H) (mC m vo vp vb) (cC c va vw) mz
 unfold mC at P0 hhp
 unfold cC at C0 hhp
 unfold mz at Z0 hhp
 have LP:=xI P0
 have LC:=xI C0
 have lP:=jR P0
 have lC:=jR C0
 have lZ:=jR Z0
 by_cases k0:c.kind<1
 ·have hB:xV m c=22:=by unfold xV;rw[if_neg hk,if_neg (by omega),if_neg (by omega),if_neg (by omega)]
  simp only[jN,jB,jC,jE,jF,reduceCtorEq,jG,Tryz.ntmps65,vS,Eh,o1,o2,o3,a1,w1,<-hhp,LP,LC,Z0,lZ,k0];exact KV.no hm (EP.put _ (by omega)) hB (by decide)
 by_cases k8:7<c.kind
 ·have hB:xV m c=22:=by unfold xV;rw[if_neg hk,if_neg (by omega),if_neg (by omega),if_neg (by omega)]
  simp only[jN,jB,jC,jE,jF,reduceCtorEq,jG,Tryz.ntmps65,vS,Eh,o1,o2,o3,a1,w1,<-hhp,LP,LC,Z0,lZ,k0,k8];exact KV.no hm (EP.put _ (by omega)) hB (by decide)
 have k4:¬c.kind<=4:=by unfold Xx at hk;omega
 have e1:(c.kind==1)=false:=by unfold Xx at hk;simp;omega
 have e2:(c.kind==2)=false:=by unfold Xx at hk;simp;omega
 have e3:(c.kind==3)=false:=by unfold Xx at hk;simp;omega
 have e4:(c.kind==4)=false:=by unfold Xx at hk;simp;omega
 simp only[jN,jB,jC,jE,jF,reduceCtorEq,jG,Tryz.ntmps65,vS,Eh,o1,o2,o3,a1,w1,<-hhp,LP,LC,Z0,lZ,k0,k8,k4,kV]
 clear hhp
 refine(wL c.osd (hm.ext EP (jM _)) hz.so).mono ?_
 rintro _ h2 ⟨f2,rfl⟩
 obtain⟨h3,hh3⟩:∃h3,h3=h2.push (.cells (YV (Vf m c.osd)) 136):=⟨_,rfl⟩
 have f3:=ZS hh3
 unfold YV at hh3
 have n3:h3.n=h2.n+1:=by rw[hh3,zF]
 have g2:=f2.1
 have e23:=f2.trans (f3.mono g2)
 have P3:=(e23.2 _ lP).trans P0
 have C3:=(e23.2 _ lC).trans C0
 have Z3:=(e23.2 _ lZ).trans Z0
 have LP3:=xI P3
 have LC3:=xI C3
 have lZ3:=jR Z3
 have E3:=(EP.step f2).step f3
 simp only[jN,jB,jE,jF,reduceCtorEq,jG,KD,<-hh3,LP3,LC3,e1,e2,e3,e4]
 refine(bA c (hm.ext E3 (jM _)) hok hz (hc.ext E3) (by omega)).mono ?_
 rintro _ h4 ⟨f4,n,ro,rp,rb,rfl,m4,hn⟩
 have q1:=m4.o.one
 have q2:=m4.p.one
 have q3:=m4.b.one
 have Z4:=(f4.2 _ lZ3).trans Z3
 have lZ4:=jR Z4
 simp only[jN,jB,jE,jF,reduceCtorEq,jG,vS,q1,q2,q3,Z4,lZ4]
 refine⟨(E3.step f4).put _ (by omega),n,ro,rp,rb,rfl,⟨m4.o.lift fun b hb _=>⟨zE _ ?_,?_⟩,m4.p.lift fun b hb _=>⟨zE _ ?_,?_⟩,m4.b.lift fun b hb _=>⟨zE _ ?_,?_⟩⟩,hn⟩
 all_goals (rcases hb with hb|hb)
 all_goals (first|(have:=hF _ hb;omega)|omega|exact .inl hb|exact .inr (by omega))
theorem fT{vc:AV}(x:Xt)(hm:vG F H m vo vp vb)(hok:Ds m)(he:Zq m.epoch)(hxe:Zq x.epoch)(hcs:zJ pJ F H vc x.changes)(sc:Sm 88 x.changes)(hsz:∀c∈x.changes,Sm 8 c.bucket.items/\Sm 8 c.bucket.weights)
 (hst:∀i n,i<=x.changes.length->Jh m (x.changes.take i)=(n,0)->Ca n/\Ds n):
 vR 41 [vS m vo vp vb,Sz x vc] H fun r h'=>zM H.n H h'/\∃ro rp rb,r= .tup [vS (vU m x).1 ro rp rb,.lit (.int .i64 (vU m x).2)]/\vG (fun k=>H.n<=k) h' (vU m x).1 ro rp rb:=by
 refine zW Tryz.func41 rfl rfl ?_
 have o1:=hm.o.one
 have o2:=hm.p.one
 have o3:=hm.b.one
 have c1:=hcs.one
 have c2:=hcs.isSl
 have c3:=hcs.lenD
 obtain⟨hp,hhp,EP,P0,C0,Z0,nP⟩:=JA (H:=H) (mC m vo vp vb) (.cells [.lit (.int .i64 x.epoch),vc] 116) mz
 unfold mC at P0 hhp
 unfold mz at Z0 hhp
 have LP:=xI P0
 have LC:=xI C0
 have lC:=jR C0
 have lZ:=jR Z0
 unfold Zq at he hxe
 by_cases hE:x.epoch=m.epoch+1
 ·have hM:¬m.epoch=9223372036854775807:=by omega
  have hws:IntKind.i64.wrap (x.epoch-1)=m.epoch:=(vW (by omega) (by omega)).trans (by omega);have hEe:(m.epoch !=m.epoch)=false:=by simp
  have hEl:¬x.epoch<m.epoch:=by omega
  simp only[jN,jB,jC,jE,jF,reduceCtorEq,jG,Tryz.ntmps41,vS,Sz,o1,o2,o3,c1,<-hhp,LP,LC,hws,hEe,hEl];refine(DA (hm.ext EP (jM _)) hok).mono ?_;rintro _ h3 ⟨e3,ro,rp,rb,rfl,hown⟩;have C3:=(e3.2 _ lC).trans C0;have l3:=e3.1;obtain⟨h4,hh4,e4,W4⟩:=xX h3 (.cells [.lit (.int .i64 m.epoch),ro,rp,rb,.lit (.int .i64 m.leaf)] 66);have n4:h4.n=h3.n+1:=by rw[hh4,zF]
  have hw3:=(hown 0 (by omega)).at (F:=fun k=>hp.n<=k) (fun _ h=>h);have w1:=hw3.o.one;have w2:=hw3.p.one;have w3:=hw3.b.one;have C4:=(e4.2 _ (jR C3)).trans C3;have LC4:=xI C4;simp only[jN,jB,jE,jF,jG,vS,w1,w2,w3,<-hh4,LC4,c2,c3];clear hh4;obtain⟨q,hq⟩:∃q,q=h3.n:=⟨_,rfl⟩;obtain⟨N,hN⟩:∃N,N=x.changes.length:=⟨_,rfl⟩;have mt4:vG (fun k=>hp.n<=k/\k≠q) h4 m ro rp rb:=⟨hw3.o.lift fun b hb hlt=>⟨e4.2 _ hlt,hb,by omega⟩,hw3.p.lift fun b hb hlt=>⟨e4.2 _ hlt,hb,by omega⟩,hw3.b.lift fun b hb hlt=>⟨e4.2 _ hlt,hb,by omega⟩⟩;rw[<-hq]at W4 n4;rw[<-hq,<-hN];rw[<-hN]at c3;have E4:zM hp.n hp h4:=e3.trans (e4.mono l3);refine kO N (fun i t h=>∃n v1 v2 v3,Jh m (x.changes.take i)=(n,0)/\h.at q=some (.cells [.lit (.int .i64 n.epoch),v1,v2,v3,.lit (.int .i64 n.leaf)] 66)/\vG (fun k=>hp.n<=k/\k≠q) h n v1 v2 v3/\zM hp.n hp h/\h4.n<=h.n/\t.n=48/\t.get 2= .ptr H.n 0/\t.get 3= .ptr (H.n+1) 0/\t.get 4= .ptr (H.n+2) 0/\t.get 6= .ptr q 0/\t.get 27=vc/\t.get 28= .lit (.int .i64 N)/\t.get 29= .lit (.int .i64 i)) ?_ ?_ _ _ ?_
  ·rintro i t h hlt hc ⟨n,v1,v2,v3,hap,WQ,own,he',lh4,ga⟩ ih;obtain⟨c,hx⟩:∃c,x.changes[i]? =some c:=⟨_,jO (by omega)⟩;obtain⟨hzn,hon⟩:=hst i n (by omega) hap;have EH:zM H.n H h:=EP.trans (he'.mono (by omega));obtain⟨cc,hc1,hld,hld0⟩:=hcs.atE (T:=zH Tryz.prog kR) EH j3c hx;obtain⟨va,vw,rfl,ha,hw,⟨i1,i2,i3⟩,i4,i5⟩:=pK.1 hc1;have a1:=ha.one;have b1:=hw.one;obtain⟨la,lw⟩:=hsz c (zR hx);have hwi:=xG (n:=N) hlt (by have:=sc;unfold Sm at this;omega);obtain⟨hA,hhA,eA,XA⟩:=xX h (cC c va vw);have nA:hA.n=h.n+1:=by rw[hhA,zF]
   unfold cC at XA hhA;have LXA:=xI XA;have QA:=(eA.2 _ (jR WQ)).trans WQ;have LQA:=xI QA;have EA:=EH.step eA;have m1:vG (fun k=>(hp.n<=k/\k≠q)/\k<hA.n) hA n v1 v2 v3:=⟨own.o.lift fun b hb hlt=>⟨eA.2 _ hlt,hb,by omega⟩,own.p.lift fun b hb hlt=>⟨eA.2 _ hlt,hb,by omega⟩,own.b.lift fun b hb hlt=>⟨eA.2 _ hlt,hb,by omega⟩⟩;have f1:hp.n<=h.n:=he'.1;simp only[jN,jB,jE,jF,reduceCtorEq,jG,c2,c3,ga,hlt,hc,hld0,a1,b1,<-hhA,LXA,LQA];refine(uH c (fun k hk=>hk.2) m1 hon hzn ⟨ha.ext EA (jM _),hw.ext EA (jM _),la,lw,i5,i4,i3⟩).mono ?_;rintro _ h6 ⟨e6,n6,r1,r2,r3,rfl,m6,hn6⟩;have Q6:=(e6.2 _ (jR QA)).trans QA;have lQ6:=jR Q6;have z1:=m6.o.one;have z2:=m6.p.one;have z3:=m6.b.one;have heN:=(he'.trans (eA.mono f1)).trans (e6.mono (by omega));by_cases hmay:xV n c=0
   ·have hmn:(xV n c !=0)=false:=by simp[hmay]
    simp only[jN,jB,jE,jF,reduceCtorEq,jG,vS,ga,Q6,z1,z2,z3,hwi,hmn];have hn7:=hn6 hmay;subst hn7;refine ih _ _ ⟨kI n c,r1,r2,r3,by rw[Dx hx hap,if_pos hmay],qJ _ lQ6,?_,heN.put _ (by omega),by rw[kZ];omega,?_⟩
    ·refine⟨m6.o.lift fun b hb _=> ?_,m6.p.lift fun b hb _=> ?_,m6.b.lift fun b hb _=> ?_⟩;all_goals (have hb':hp.n<=b/\b≠q:=by rcases hb with hb|hb<;>omega)
     all_goals exact⟨zE _ (Ne.symm hb'.2),hb'⟩
    ·simp only[jN,jE,jF,ga]
   ·have hmn:(xV n c !=0)=true:=by simp[hmay]
    have Z6:=(heN.2 _ (by omega)).trans Z0;have lZ6:=jR Z6;have hqz:¬q=H.n+2:=by omega
    have hD:vU m x=(Gb,xV n c):=by unfold vU;rw[if_neg (fun hh=>hh.elim hM (fun h=>h hE)),Iu hx hap hmay,if_neg hmay]
    simp only[jN,jB,jE,jF,reduceCtorEq,jG,vS,ga,Q6,z1,z2,z3,hmn,Z6,lZ6,hqz];rw[hD];exact⟨((EP.trans (heN.mono (by omega))).put _ (by omega)).put _ (by omega),_,_,_,rfl,QI⟩
  ·rintro t h hc ⟨n,v1,v2,v3,hap,WQ,own,he',lh4,ga⟩;rw[hN,xC]at hap;have EH:zM H.n H h:=EP.trans (he'.mono (by omega));have ZH:=(he'.2 _ (by omega)).trans Z0;have CH:=(he'.2 _ lC).trans C0;have LCH:=xI CH;have lZH:=jR ZH;have lQ:=jR WQ;have y1:=own.o.one;have y2:=own.p.one;have y3:=own.b.one;have hne:¬q=H.n+2:=by omega
   have hD:vU m x=({n with epoch:=x.epoch},0):=by unfold vU;rw[if_neg (fun hh=>hh.elim hM (fun h=>h hE)),hap,if_pos rfl]
   simp only[jN,jB,jE,jF,reduceCtorEq,jG,ga,hc,WQ,lQ,ZH,lZH,LCH,hne,y1,y2,y3];rw[hD];refine⟨(EH.put _ (by omega)).put _ (by omega),v1,v2,v3,rfl,⟨own.o.lift fun b hb _=> ?_,own.p.lift fun b hb _=> ?_,own.b.lift fun b hb _=> ?_⟩⟩;all_goals exact⟨by rw[zE _ (by omega),zE _ (by omega)],by omega⟩
  ·refine⟨m,ro,rp,rb,rfl,W4,mt4,E4,jM _,?_⟩;simp only[jN,jB,jE,jF];rfl
 ·have hA:vU m x=(Gb,126):=by unfold vU;rw[if_pos (.inr hE)]
  by_cases hw:IntKind.i64.wrap (x.epoch-1)=m.epoch
  ·have hEe:(m.epoch !=m.epoch)=false:=by simp
   have hEl:x.epoch<m.epoch:=by rw[YQ]at hw;omega
   simp only[jN,jB,jC,jE,jF,reduceCtorEq,jG,Tryz.ntmps41,vS,Sz,o1,o2,o3,c1,<-hhp,LP,LC,Z0,lZ,hw,hEe,hEl];rw[hA];exact⟨EP.put _ (by omega),_,_,_,rfl,QI⟩
  ·have hEe:(IntKind.i64.wrap (x.epoch-1)!=m.epoch)=true:=by simp[hw]
   simp only[jN,jB,jC,jE,jF,reduceCtorEq,jG,Tryz.ntmps41,vS,Sz,o1,o2,o3,c1,<-hhp,LP,LC,Z0,lZ,hEe];rw[hA];exact⟨EP.put _ (by omega),_,_,_,rfl,QI⟩
section
section
variable {r:Nat} {G F:Nat->Prop} {H:AH} {c:vM} {s:Zg} {vo vp vb ve we wl vi vd vl:AV} {y:fU}
theorem pT(x:Hk)(z:QG r G H c s vo vp vb y ve we wl)(hi:zJ Kj F H vi x.incs)(hd:zJ xZ F H vd x.d)(hl:zJ JX F H vl x.l)(ho:Ht x)(hme:((x.tk==c.k)&&(x.ti==c.i))=false):
 vR 19 [.ptr r 0,.agg (Uj x vi vd vl)] H fun v h'=>zM H.n H h'/\v= .lit (.slice none 0 0):=by
 refine zW Tryz.func19 rfl rfl ?_
 have gg1:=hi.one
 have gg2:=hd.one
 have gg3:=hl.one
 obtain⟨⟨a0,b0⟩,⟨a1,b1⟩,⟨a2,b2⟩,⟨a3,b3⟩,⟨a4,b4⟩,⟨a5,b5⟩,⟨a6,b6⟩⟩:=ho
 obtain⟨hp,hhp,EP,P0⟩:=xX H (.cells (Uj x vi vd vl) 58)
 have zp:=z.ext EP
 unfold Uj at P0 hhp
 have LP:=xI P0
 have lP:=jR P0
 have Y:=zp.cr
 unfold EI at Y
 have L:=xI Y
 have lY:=jR Y
 unfold Uj
 simp only[jN,jB,jC,Tryz.ntmps19,<-hhp,gg1,gg2,gg3,b0,b1,b2,b3,b4,b5,b6]
 rw[zL [0,1,2,3,4,5,6] 278042232488064 (by kernel_rfl)]
 have hkk:(!((x.tk==c.k)&&(x.ti==c.i)))=true:=by rw[hme];rfl
 repeat (first|((with_reducible refine jX ?_;simp only[vO];try simp only[vP,jB,jD,jH,jI,jF]);simp only[jN,jB,jE,jF,reduceCtorEq,jG,zG,LP,L,vJ,kP,hkk])|simp only[jN,jB,jC,jD,jE,jF,reduceCtorEq,jG,jJ,jK,jL,zG,LP,lP,L,lY,vJ,kP,hkk])
 exact EP
theorem pV(x:Hk)(z:QG r G H c s vo vp vb y ve we wl)(hi:zJ Kj F H vi x.incs)(hd:zJ xZ F H vd x.d)(hl:zJ JX F H vl x.l)(ho:Ht x)(hme:((x.tk==c.k)&&(x.ti==c.i))=true)(h1:((x.kind==15)&&(x.fk==1))=false)(h2:((x.kind==31)&&(x.fk==2))=false):
 vR 19 [.ptr r 0,.agg (Uj x vi vd vl)] H fun v h'=>zM H.n H h'/\v= .lit (.slice none 0 0):=by
 have key:((x.kind==15)=true/\(x.fk==1)=false/\(x.kind==31)=false)\/((x.kind==15)=false/\(x.kind==31)=true/\(x.fk==2)=false)\/((x.kind==15)=false/\(x.kind==31)=false):=by
  by_cases k:x.kind=15
  ·have e1:(x.kind==15)=true:=by rw[k];rfl
   have e2:(x.kind==31)=false:=by rw[k];rfl
   rw[e1,ZU]at h1;exact .inl ⟨e1,h1,e2⟩
  ·have e1:(x.kind==15)=false:=beq_eq_false_iff_ne.2 k;cases e2:(x.kind==31)with
   |false=>exact .inr (.inr ⟨e1,rfl⟩)
   |true=>
    rw[e2,ZU]at h2;exact .inr (.inl ⟨e1,rfl,h2⟩)
 have hkk:(!((x.tk==c.k)&&(x.ti==c.i)))=false:=by rw[hme];rfl
 refine zW Tryz.func19 rfl rfl ?_
 have gg1:=hi.one
 have gg2:=hd.one
 have gg3:=hl.one
 obtain⟨⟨a0,b0⟩,⟨a1,b1⟩,⟨a2,b2⟩,⟨a3,b3⟩,⟨a4,b4⟩,⟨a5,b5⟩,⟨a6,b6⟩⟩:=ho
 obtain⟨hp,hhp,EP,P0⟩:=xX H (.cells (Uj x vi vd vl) 58)
 have zp:=z.ext EP
 unfold Uj at P0 hhp
 have LP:=xI P0
 have lP:=jR P0
 have Y:=zp.cr
 unfold EI at Y
 have L:=xI Y
 have lY:=jR Y
 unfold Uj
 simp only[jN,jB,jC,Tryz.ntmps19,<-hhp,gg1,gg2,gg3,b0,b1,b2,b3,b4,b5,b6]
 rw[zL [0,1,2,3,4,5,6] 278042232488064 (by kernel_rfl)]
 rcases key with⟨k1,k2,k3⟩|⟨k1,k3,k4⟩|⟨k1,k3⟩
 ·repeat (first|((with_reducible refine jX ?_;simp only[vO];try simp only[vP,jB,jD,jH,jI,jF]);simp only[jN,jB,jE,jF,reduceCtorEq,jG,zG,LP,L,vJ,kP,hkk,kV,k1,k2])|simp only[jN,jB,jC,jD,jE,jF,reduceCtorEq,jG,jJ,jK,jL,zG,LP,lP,L,lY,vJ,kP,hkk,kV,k1,k2,k3])
  rw[zL [0,1,2,3,4,5,6,7,8,9,10,11,12,13,14,15,16,17,18,19,20,21,22,23,24,25,26,27,28,29,30,31,32,33,34,35,36,37,38] 36778448897010133200598087576555873107427236265566163604274409686151472381949853727937257626976249722861989663916788042870329138790964182167312930268852035584643235244428352618304630063096711245987447895691751354065413176886959472195847025712263855466821769744279134649844517835993014310457166522045658408590319190408685503794371066765705500336815468610057195948281514625467525684649096228346505266920651388924394098338864051131657207399106161634142213636096 (by kernel_rfl)];repeat (first|((with_reducible refine jX ?_;simp only[vO];try simp only[vP,jB,jD,jH,jI,jF]);simp only[jN,jB,jE,jF,reduceCtorEq,jG,zG,LP,kV,k3])|simp only[jN,jB,jC,jD,jE,jF,reduceCtorEq,jG,jJ,jK,jL,zG,LP,lP,L,lY,vJ,kP,hkk,kV,k1,k2,k3])
  exact EP
 ·repeat (first|((with_reducible refine jX ?_;simp only[vO];try simp only[vP,jB,jD,jH,jI,jF]);simp only[jN,jB,jE,jF,reduceCtorEq,jG,zG,LP,L,vJ,kP,hkk,kV,k1])|simp only[jN,jB,jC,jD,jE,jF,reduceCtorEq,jG,jJ,jK,jL,zG,LP,lP,L,lY,vJ,kP,hkk,kV,k1,k3,k4])
  rw[zL [0,1,2,3,4,5,6,7,8,9,10,11,12,13,14,15,16,17,18,19,20,21,22,23,24,25,26,27,28,29,30,31,32,33,34,35,36,37,38] 36778448897010133200598087576555873107427236265566163604274409686151472381949853727937257626976249722861989663916788042870329138790964182167312930268852035584643235244428352618304630063096711245987447895691751354065413176886959472195847025712263855466821769744279134649844517835993014310457166522045658408590319190408685503794371066765705500336815468610057195948281514625467525684649096228346505266920651388924394098338864051131657207399106161634142213636096 (by kernel_rfl)];repeat (first|((with_reducible refine jX ?_;simp only[vO];try simp only[vP,jB,jD,jH,jI,jF]);simp only[jN,jB,jE,jF,reduceCtorEq,jG,zG,LP,kV,k3,k4])|simp only[jN,jB,jC,jD,jE,jF,reduceCtorEq,jG,jJ,jK,jL,zG,LP,lP,L,lY,vJ,kP,hkk,kV,k1,k3,k4])
  exact EP
 ·repeat (first|((with_reducible refine jX ?_;simp only[vO];try simp only[vP,jB,jD,jH,jI,jF]);simp only[jN,jB,jE,jF,reduceCtorEq,jG,zG,LP,L,vJ,kP,hkk,kV,k1])|simp only[jN,jB,jC,jD,jE,jF,reduceCtorEq,jG,jJ,jK,jL,zG,LP,lP,L,lY,vJ,kP,hkk,kV,k1,k3])
  rw[zL [0,1,2,3,4,5,6,7,8,9,10,11,12,13,14,15,16,17,18,19,20,21,22,23,24,25,26,27,28,29,30,31,32,33,34,35,36,37,38] 36778448897010133200598087576555873107427236265566163604274409686151472381949853727937257626976249722861989663916788042870329138790964182167312930268852035584643235244428352618304630063096711245987447895691751354065413176886959472195847025712263855466821769744279134649844517835993014310457166522045658408590319190408685503794371066765705500336815468610057195948281514625467525684649096228346505266920651388924394098338864051131657207399106161634142213636096 (by kernel_rfl)];repeat (first|((with_reducible refine jX ?_;simp only[vO];try simp only[vP,jB,jD,jH,jI,jF]);simp only[jN,jB,jE,jF,reduceCtorEq,jG,zG,LP,kV,k3])|simp only[jN,jB,jC,jD,jE,jF,reduceCtorEq,jG,jJ,jK,jL,zG,LP,lP,L,lY,vJ,kP,hkk,kV,k1,k3])
  exact EP
theorem pU(x:Hk)(z:QG r G H c s vo vp vb y ve we wl)(hi:zJ Kj F H vi x.incs)(hd:zJ xZ F H vd x.d)(hl:zJ JX F H vl x.l)(ho:Ht x)(hme:((x.tk==c.k)&&(x.ti==c.i))=true)(h2:((x.kind==31)&&(x.fk==2))=true)(h3:j01 c s x=false):
 vR 19 [.ptr r 0,.agg (Uj x vi vd vl)] H fun v h'=>zM H.n H h'/\v= .lit (.slice none 0 0):=by
 have hkk:(!((x.tk==c.k)&&(x.ti==c.i)))=false:=by rw[hme];rfl
 rw[jW]at h2
 obtain⟨k3,k4⟩:=h2
 have k1:(x.kind==15)=false:=by rw[beq_iff_eq]at k3;rw[k3];rfl
 have key:(x.client==c.boot)=false\/((x.client==c.boot)=true/\(x.num==s.num)=false)\/((x.client==c.boot)=true/\(x.num==s.num)=true/\s.now.isSome=false)\/((x.client==c.boot)=true/\(x.num==s.num)=true/\s.now.isSome=true/\(x.er !=11)=false):=by unfold j01 at h3;cases m1:(x.client==c.boot)<;>cases m2:(x.num==s.num)<;>cases m3:s.now.isSome<;>simp_all
 refine zW Tryz.func19 rfl rfl ?_
 have gg1:=hi.one
 have gg2:=hd.one
 have gg3:=hl.one
 obtain⟨⟨a0,b0⟩,⟨a1,b1⟩,⟨a2,b2⟩,⟨a3,b3⟩,⟨a4,b4⟩,⟨a5,b5⟩,⟨a6,b6⟩⟩:=ho
 obtain⟨hp,hhp,EP,P0⟩:=xX H (.cells (Uj x vi vd vl) 58)
 have zp:=z.ext EP
 unfold Uj at P0 hhp
 have LP:=xI P0
 have lP:=jR P0
 have Y:=zp.cr
 unfold EI at Y
 have L:=xI Y
 have lY:=jR Y
 unfold Uj
 simp only[jN,jB,jC,Tryz.ntmps19,<-hhp,gg1,gg2,gg3,b0,b1,b2,b3,b4,b5,b6]
 rw[zL [0,1,2,3,4,5,6] 278042232488064 (by kernel_rfl)]
 repeat (first|((with_reducible refine jX ?_;simp only[vO];try simp only[vP,jB,jD,jH,jI,jF]);simp only[jN,jB,jE,jF,reduceCtorEq,jG,zG,LP,L,vJ,kP,hkk,k1])|simp only[jN,jB,jC,jD,jE,jF,reduceCtorEq,jG,jJ,jK,jL,zG,LP,lP,L,lY,vJ,kP,hkk,k1,k3,k4])
 rw[zL [0,1,2,3,4,5,6,7,8,9,10,11,12,13,14,15,16,17,18,19,20,21,22,23,24,25,26,27,28,29,30,31,32,33,34,35,36,37,38] 36778448897010133200598087576555873107427236265566163604274409686151472381949853727937257626976249722861989663916788042870329138790964182167312930268852035584643235244428352618304630063096711245987447895691751354065413176886959472195847025712263855466821769744279134649844517835993014310457166522045658408590319190408685503794371066765705500336815468610057195948281514625467525684649096228346505266920651388924394098338864051131657207399106161634142213636096 (by kernel_rfl)]
 rcases key with m1|⟨m1,m2⟩|⟨m1,m2,m3⟩|⟨m1,m2,m3,m4⟩
 ·repeat (first|((with_reducible refine jX ?_;simp only[vO];try simp only[vP,jB,jD,jH,jI,jF]);simp only[jN,jB,jE,jF,reduceCtorEq,jG,zG,LP,L,kV,k3,k4,m1])|simp only[jN,jB,jC,jD,jE,jF,reduceCtorEq,jG,jJ,jK,jL,zG,LP,lP,L,lY,vJ,kP,hkk,kV,k1,k3,k4,m1])
  exact EP
 ·repeat (first|((with_reducible refine jX ?_;simp only[vO];try simp only[vP,jB,jD,jH,jI,jF]);simp only[jN,jB,jE,jF,reduceCtorEq,jG,zG,LP,L,kV,k3,k4,m1,m2])|simp only[jN,jB,jC,jD,jE,jF,reduceCtorEq,jG,jJ,jK,jL,zG,LP,lP,L,lY,vJ,kP,hkk,kV,k1,k3,k4,m1,m2])
  exact EP
 ·repeat (first|((with_reducible refine jX ?_;simp only[vO];try simp only[vP,jB,jD,jH,jI,jF]);simp only[jN,jB,jE,jF,reduceCtorEq,jG,zG,LP,L,kV,k3,k4,m1,m2,m3])|simp only[jN,jB,jC,jD,jE,jF,reduceCtorEq,jG,jJ,jK,jL,zG,LP,lP,L,lY,vJ,kP,hkk,kV,k1,k3,k4,m1,m2,m3])
  exact EP
 ·repeat (first|((with_reducible refine jX ?_;simp only[vO];try simp only[vP,jB,jD,jH,jI,jF]);simp only[jN,jB,jE,jF,reduceCtorEq,jG,zG,LP,L,kV,k3,k4,m1,m2,m3,m4])|simp only[jN,jB,jC,jD,jE,jF,reduceCtorEq,jG,jJ,jK,jL,zG,LP,lP,L,lY,vJ,kP,hkk,kV,k1,k3,k4,m1,m2,m3,m4])
  exact EP
theorem gC(x:Hk)(z:QG r G H c s vo vp vb y ve we wl)(hi:zJ Kj F H vi x.incs)(hd:zJ xZ F H vd x.d)(hl:zJ JX F H vl x.l)(ho:Ht x)(hme:((x.tk==c.k)&&(x.ti==c.i))=true)(h2:((x.kind==31)&&(x.fk==2))=true)(h3:j01 c s x=true)(hdl:x.d.length<=140737488351232)(hll:x.l.length * 16<=140737488351232):
 vR 19 [.ptr r 0,.agg (Uj x vi vd vl)] H fun v h'=>v= .lit (.slice none 0 0)/\j0I r G H h' c (MV s (j3D x)):=by
 have hkk:(!((x.tk==c.k)&&(x.ti==c.i)))=false:=by rw[hme];rfl
 rw[jW]at h2
 obtain⟨k3,k4⟩:=h2
 have k1:(x.kind==15)=false:=by rw[beq_iff_eq]at k3;rw[k3];rfl
 unfold j01 at h3
 simp only[jW]at h3
 obtain⟨⟨⟨m3,m1⟩,m2⟩,m4⟩:=h3
 refine zW Tryz.func19 rfl rfl ?_
 have gg1:=hi.one
 have gg2:=hd.one
 have gg3:=hl.one
 have gg6:=hl.isSl
 obtain⟨⟨a0,b0⟩,⟨a1,b1⟩,⟨a2,b2⟩,⟨a3,b3⟩,⟨a4,b4⟩,⟨a5,b5⟩,⟨a6,b6⟩⟩:=ho
 obtain⟨hp,hhp,EP,P0⟩:=xX H (.cells (Uj x vi vd vl) 58)
 have lr:=z.lt
 have zp:=z.ext EP
 unfold Uj at P0 hhp
 have LP:=xI P0
 have lP:=jR P0
 have Y:=zp.cr
 unfold EI at Y
 have L:=xI Y
 have lY:=jR Y
 unfold Uj
 simp only[jN,jB,jC,Tryz.ntmps19,<-hhp,gg1,gg2,gg3,b0,b1,b2,b3,b4,b5,b6]
 rw[zL [0,1,2,3,4,5,6] 278042232488064 (by kernel_rfl)]
 repeat (first|((with_reducible refine jX ?_;simp only[vO];try simp only[vP,jB,jD,jH,jI,jF]);simp only[jN,jB,jE,jF,reduceCtorEq,jG,zG,LP,L,vJ,kP,hkk,k1])|simp only[jN,jB,jC,jD,jE,jF,reduceCtorEq,jG,jJ,jK,jL,zG,LP,lP,L,lY,vJ,kP,hkk,k1,k3,k4])
 rw[zL [0,1,2,3,4,5,6,7,8,9,10,11,12,13,14,15,16,17,18,19,20,21,22,23,24,25,26,27,28,29,30,31,32,33,34,35,36,37,38] 36778448897010133200598087576555873107427236265566163604274409686151472381949853727937257626976249722861989663916788042870329138790964182167312930268852035584643235244428352618304630063096711245987447895691751354065413176886959472195847025712263855466821769744279134649844517835993014310457166522045658408590319190408685503794371066765705500336815468610057195948281514625467525684649096228346505266920651388924394098338864051131657207399106161634142213636096 (by kernel_rfl)]
 obtain⟨hA,hhA,eA,XA⟩:=xX hp (.cells [.lit (.string ⟨#[]⟩),.lit (.int .i64 0),.lit (.int .i64 0),.lit (.slice none 0 0)] 55)
 have lXA:=jR XA
 obtain⟨hB,hhB⟩:∃hB,hB=hA.put hp.n (.cells [.lit (.string x.os),.lit (.int .i64 x.o1),.lit (.int .i64 x.o2),vd] 55):=⟨_,rfl⟩
 have eB:zM hp.n hp hB:=hhB▸eA.put _ (jM _)
 have XB:=Jj hhB lXA
 have lXB:=jR XB
 have X0:=(xE (.cells [] 5) lXB).trans XB
 have LX0:=xI X0
 have lX0:=jR X0
 repeat (first|((with_reducible refine jX ?_;simp only[vO];try simp only[vP,jB,jD,jH,jI,jF]);simp only[jN,jB,jE,jF,reduceCtorEq,jG,zG,LP,L,k3,k4,m1,m2,m3,m4,<-hhA,XA,gg2,<-hhB,LX0])|simp only[jN,jB,jC,jD,jE,jF,reduceCtorEq,jG,jJ,jK,jL,zG,LP,lP,L,lY,k1,k3,k4,m1,m2,m3,m4,<-hhA,XA,lXA,gg2,<-hhB,LX0,lX0])
 have hdB:=hd.ext (EP.trans (eB.mono EP.1)) (jM _)
 refine qM (FS rfl hdB (by omega)) ?_
 rintro s3 h3 ⟨e3,hs3⟩
 have u1:=hs3.one
 have u2:=hs3.isSl
 have X3:=(e3.2 _ lXB).trans XB
 have lX3:=jR X3
 obtain⟨hC,hhC⟩:∃hC,hC=h3.put hp.n (.cells [.lit (.string x.os),.lit (.int .i64 x.o1),.lit (.int .i64 x.o2),s3] 55):=⟨_,rfl⟩
 have eC:zM hp.n hp hC:=hhC▸(eB.trans (e3.mono eB.1)).put _ (jM _)
 have XC:=Jj hhC lX3
 have nC:hC.n=h3.n:=by rw[hhC,kZ]
 have P1:=(eC.2 _ lP).trans P0
 have LP1:=xI P1
 have lP1:=jR P1
 have lXC:=jR XC
 have LXC:=xI XC
 have EC:=EP.trans (eC.mono EP.1)
 have hlC:=hl.ext EC (jM _)
 simp only[jN,jB,jE,jF,jG,X3,u1,<-hhC]
 rw[zL [0,1,2,3,4,5,6,7,8,9] 632894559496166444781315031040 (by kernel_rfl)]
 have P1':=(xE (.cells [] 9) lP1).trans P1
 have LP1':=Xy (T:=zH Tryz.prog kR) P1'
 have X1':=(xE (.cells [] 9) lXC).trans XC
 have LX1':=Xy (T:=zH Tryz.prog kR) X1'
 repeat (first|((with_reducible refine jX ?_;simp only[vO];try simp only[vP,jB,jD,jH,jI]);simp only[jN,jB,jE,jF,reduceCtorEq,jG,zG,LP1,LXC,LP1',LX1'])|refine⟨by simp only[yK,gg6,u2,kS],?_⟩)
 refine Cf (Sr rfl hlC (by omega)) ?_
 rintro s4 h4 ⟨e4,hs4⟩
 have w1:=hs4.one
 have P4:=(e4.2 _ lP1).trans P1
 have LP4:=xI P4
 have lP4:=jR P4
 have X4:=(e4.2 _ lXC).trans XC
 have LX4:=xI X4
 have lX4:=jR X4
 have E4:=EC.trans (e4.mono EC.1)
 repeat (first|((with_reducible refine jX ?_;simp only[vO];try simp only[vP,jB,jD,jH,jI]);simp only[jN,jB,jE,jF,reduceCtorEq,jG,zG,LP4,LX4,w1])|simp only[jN,jB,jC,jD,jE,jF,reduceCtorEq,jG,jJ,jK,jL,zG,LP4,lP4,LX4,lX4,u1,w1]|refine⟨by simp only[yK,u2],?_⟩)
 have z4:QG r (fun b=>G b\/H.n<=b) h4 c s vo vp vb y ve we wl:=z.wide E4 fun b hb=> .inl hb
 have hd4:zJ xZ (Gr (fun b=>G b\/H.n<=b) r) h4 s3 x.d:=hs3.lift fun b hb hlt=>⟨(e4.2 b (by omega)).trans (hhC▸zE _ (by omega)),.inr (by omega),by omega⟩
 have hl4:zJ JX (Gr (fun b=>G b\/H.n<=b) r) h4 s4 x.l:=hs4.lift fun b hb hlt=>⟨rfl,.inr (by omega),by omega⟩
 refine(sZ (j3D x) z4 hd4 hl4).mono ?_
 rintro _ h5 ⟨k5,wo,wp,wb,w5,w6,w7,w8,z5⟩
 try simp only[jN,jB,jC,jD,jE,jF,reduceCtorEq,jG,jJ,jK,jL]
 exact⟨(Kq.ext E4).trans k5,wo,wp,wb,w5,w6,w7,w8,z5⟩
end
end
section
section
variable {r:Nat} {G F:Nat->Prop} {H:AH} {c:vM} {s:Zg} {vo vp vb ve we wl vi vd vl:AV} {y:fU}
theorem Wr(x:Hk)(k:Nat)(z:QG r G H c s vo vp vb y ve we wl)(hi:zJ Kj F H vi x.incs)(hd:zJ xZ F H vd x.d)(hl:zJ JX F H vl x.l)(ho:Ht x)(hF:∀b,F b->b≠r)(hme:((x.tk==c.k)&&(x.ti==c.i))=true)(h1:((x.kind==15)&&(x.fk==1))=true)(hlen:x.incs.length<=1000000)(hit:∀y∈x.incs,∀c∈y.changes,c.bucket.items.length<=1048576)
 (hsz:∀y∈x.incs,Sm 88 y.changes/\∀c∈y.changes,Sm 8 c.bucket.items/\Sm 8 c.bucket.weights) (hst:QU s.m k) (hpl:Qw s.m.pools) (hep:Zq s.m.epoch) (hk:k+XM x.incs<=1000000000) (hno:∀y,s.now=some y->Wl y):
 vR 19 [.ptr r 0,.agg (Uj x vi vd vl)] H fun v h'=>j0I r G H h' c (Lu s x.incs)/\zJ Hm (fun b=>H.n<=b) h' v (Gc c s x.incs):=by
 have hkk:(!((x.tk==c.k)&&(x.ti==c.i)))=false:=by rw[hme];rfl
 rw[jW]at h1
 obtain⟨k1,k2⟩:=h1
 have hnx:s.now=none\/∃y9,s.now=some y9:=by
  cases hx:s.now with
  |none=>exact .inl rfl
  |some y9=>exact .inr ⟨y9,rfl⟩
 have hgx:∀n:zU,s.m.epoch<n.epoch\/¬s.m.epoch<n.epoch:=fun n=>by omega
 refine zW Tryz.func19 rfl rfl ?_
 have gg1:=hi.one
 have gg2:=hd.one
 have gg3:=hl.one
 have gg4:=hi.isSl
 obtain⟨⟨a0,b0⟩,⟨a1,b1⟩,⟨a2,b2⟩,⟨a3,b3⟩,⟨a4,b4⟩,⟨a5,b5⟩,⟨a6,b6⟩⟩:=ho
 obtain⟨hp,hhp,EP,P0⟩:=xX H (.cells (Uj x vi vd vl) 58)
 have zp:=z.ext EP
 unfold Uj at P0 hhp
 have LP:=xI P0
 have lP:=jR P0
 have Y:=zp.cr
 unfold EI at Y
 have L:=xI Y
 unfold Uj
 simp only[jN,jB,jC,Tryz.ntmps19,<-hhp,gg1,gg2,gg3,b0,b1,b2,b3,b4,b5,b6]
 rw[zL [0,1,2,3,4,5,6] 278042232488064 (by kernel_rfl)]
 have lp0:=hi.ext EP (jM _)
 have d1:=hi.lenD
 repeat ((with_reducible refine jX ?_;simp only[vO];try simp only[vP,jB,jD,jH,jI,jF]);simp only[jN,jB,jE,jF,reduceCtorEq,jG,zG,LP,L,vJ,kP,hkk,k1,k2,gg4,d1])
 obtain⟨l,hll⟩:∃l,l=x.incs:=⟨_,rfl⟩
 rw[<-hll]at lp0 d1 hlen hit hsz hk ⊢
 obtain⟨N,hN⟩:∃N,N=l.length:=⟨_,rfl⟩
 rw[<-hN]at d1
 rw[<-hN]
 refine kO N (fun i t h=>(∃n wo wp wb,QG r (fun b=>G b\/H.n<=b) h c ⟨n,s.num,s.now,s.ans⟩ wo wp wb y ve we wl/\QU n (k+XM (l.take i))/\Zq n.epoch/\Qw n.pools/\Ql s.m l=Ql n (l.drop i)/\Kq r hp h)/\t.n=135/\t.get 0= .ptr r 0/\t.get 3= .ptr H.n 0/\t.get 4= .lit (.slice none 0 0)/\t.get 5= .lit (.int .i64 s.m.epoch)/\t.get 34=vi/\t.get 35= .lit (.int .i64 N)/\t.get 36= .lit (.int .i64 i)) ?_ ?_ _ _ ?_
 ·rintro i t h hlt hc ⟨⟨n,wo,wp,wb,hcl,hsn,hen,hpn2,hd2,hkq⟩,ga⟩ ih;obtain⟨y7,hy⟩:∃y7,l[i]? =some y7:=⟨_,jO (by omega)⟩;have hym:=zR hy;have hl':=hkq.sl lp0 hF;obtain⟨cc,hc1,hld,hld0⟩:=hl'.at (T:=zH Tryz.prog kR) pL hy;obtain⟨vc,rfl,hch,hex⟩:=OF.1 hc1;have v1:=hch.one;have v2:=hch.isSl;have v3:=hch.lenD;have hwi:=xG (n:=N) hlt (by omega);obtain⟨hA,hhA,eA,XA⟩:=xX h (.cells [.lit (.int .i64 y7.epoch),vc] 116);have LXA:=xI XA;have lXA:=jR XA;have hclA:=hcl.ext eA;have hkA:=hkq.trans (.ext eA);have y1:=hclA.cr;have y2:=hclA.m;have p1:=y2.o.isSl;have p2:=y2.p.isSl;have p3:=y2.b.isSl;unfold EI at y1;have LY:=xI y1;have lY2:=jR y1;have hdc:l.drop i=y7::l.drop (i+1):=by obtain⟨hil,rfl⟩:=List.getElem?_eq_some_iff.1 hy;exact qS hil
  have hchs:k+XM (l.take i)+y7.changes.length<=1000000000:=zY (by have:=RT hy;omega) hk;have hsn':QU n (k+XM (l.take (i+1))):=hsn.mono (by rw[Ak hy];omega);simp only[jN,jB,jE,jF,reduceCtorEq,jG,ga,hlt,hc,gg4,d1,hld0,v1,<-hhA];rw[zL [0,1,2,3,4,5,6,7] 9168233779351781632 (by kernel_rfl)];by_cases hle:y7.epoch<=n.epoch
  ·repeat (first|((with_reducible refine jX ?_;simp only[vO];try simp only[vP,jB,jD,jH,jI,jF]);simp only[jN,jB,jE,jF,reduceCtorEq,zG,ga,LXA,LY,hle,hwi])|simp only[jN,jB,jC,jD,jE,jF,reduceCtorEq,jG,jJ,jK,jL,zG,ga,LXA,lXA,LY,lY2,hle,hwi])
   refine ih _ _ ⟨⟨n,wo,wp,wb,hclA,hsn',hen,hpn2,?_,hkA⟩,?_⟩
   ·rw[hd2,hdc,Qm,if_pos hle]
   ·simp only[jN,jE,jF,reduceCtorEq,ga]
  ·repeat ((with_reducible refine jX ?_;simp only[vO];try simp only[vP,jB,jD,jH,jI,jF]);simp only[jN,jB,jE,jF,reduceCtorEq,zG,ga,LXA,LY,hle,hwi])
   rw[zL [0,1,2,3,4,9,5,6,7,8,10,11] 11145947599277408019301084219409282117931008 (by kernel_rfl)];repeat ((with_reducible refine jX ?_;simp only[vO];try simp only[vP,jB,jD,jH,jI]);simp only[jN,jB,jE,jF,reduceCtorEq,jG,zG,ga,LXA,lXA,LY,lY2])
   refine⟨by simp only[yK,v2,p1,p2,p3,kS],?_⟩;obtain⟨hB,hhB⟩:∃hB,hB=hA.push (.cells [.lit (.int .i64 0),.lit (.slice none 0 0),.lit (.slice none 0 0),.lit (.slice none 0 0),.lit (.int .i64 0)] 66):=⟨_,rfl⟩;rw[<-hhB];have eB:=ZS hhB;have ZB:=QJ hhB;have nB:hB.n=hA.n+1:=by rw[hhB,zF]
   have y2':=y2.ext eB (jM _);have mT:vG (fun _=>True) hB n wo wp wb:=⟨y2'.o.lift fun _ _ _=>⟨rfl,trivial⟩,y2'.p.lift fun _ _ _=>⟨rfl,trivial⟩,y2'.b.lift fun _ _ _=>⟨rfl,trivial⟩⟩;have eAB:=eA.trans (eB.mono eA.1);have cT:zJ pJ (fun _=>True) hB vc y7.changes:=(hch.ext eAB (jM _)).lift fun _ _ _=>⟨rfl,trivial⟩;refine(fT y7 mT (hsn.ok (by omega)) hen hex cT (hsz y7 hym).1 (hsz y7 hym).2 (fun j n' hj hh=>⟨(hsn.run (hit y7 hym) hh).sz (by omega),(hsn.run (hit y7 hym) hh).ok (by omega)⟩)).mono ?_;rintro _ h4 ⟨e4,ro,rp,rb,rfl,m4⟩;have z1:=m4.o.one;have z2:=m4.p.one;have z3:=m4.b.one;have Z4:=(e4.2 _ (jR ZB)).trans ZB;have lZ4:=jR Z4;have y4:=((eB.trans (e4.mono eB.1)).2 _ lY2).trans y1;obtain⟨er,her⟩:∃er,er=(vU n y7).2:=⟨_,rfl⟩;obtain⟨n2,hn2⟩:∃n2,n2=(vU n y7).1:=⟨_,rfl⟩;rw[<-hn2]at m4;rw[<-her,<-hn2];unfold vS;have hk4:Kq r hp h4:=hkA.trans ((Kq.ext eB).trans (.ext e4));obtain⟨h5,hh5⟩:∃h5,h5=h4.put hA.n (.cells [.lit (.int .i64 n2.epoch),ro,rp,rb,.lit (.int .i64 n2.leaf)] 66):=⟨_,rfl⟩;have n5:h5.n=h4.n:=by rw[hh5,kZ]
   have Z5:=Jj hh5 lZ4;have LZ5:=xI Z5;have lZ5:=jR Z5;have y5:=Qx hh5 (by omega) y4;have LY5:=xI y5;have lY5:=jR y5;have hpA:=hkA.1;have k5:Kq r hp h5:=by refine⟨by rw[n5];exact hk4.1,fun b hb hbq=> ?_⟩;rw[hh5,zE _ (by omega)];exact hk4.2 b hb hbq
   have ee:zM hA.n hA h5:=by refine⟨by rw[n5];exact(eB.trans (e4.mono eB.1)).1,fun b hb=> ?_⟩;rw[hh5,zE _ (by omega)];exact(eB.trans (e4.mono eB.1)).2 b hb
   have z5:=hclA.ext ee;by_cases h0:er=0
   ·have h0e:(er !=0)=false:=by rw[h0];rfl
    repeat (first|((with_reducible refine jX ?_;simp only[vO];try simp only[vP,jB]);simp only[jN,jB,jE,jF,reduceCtorEq,jG,zG,ga,Z4,z1,z2,z3,h0e,hwi,<-hh5,y5,LY5,LZ5])|simp only[jN,jB,jC,jD,jE,jF,reduceCtorEq,jG,jJ,jK,jL,zG,ga,Z4,lZ4,z1,z2,z3,h0e,hwi,<-hh5,y5,LY5,lY5,LZ5,lZ5])
    have h00:(vU n y7).2=0:=by rw[<-her];exact h0
    have hl6:∀b,Gr (fun b=>G b\/H.n<=b) r b->b<h5.n->(h5.put r (.cells [.lit (.int .i64 c.k),.lit (.int .i64 c.i),.lit (.int .i64 c.boot),.lit (.int .i64 c.mons),.lit (.int .i64 c.tries),.lit (.int .i64 n2.epoch),ro,rp,rb,.lit (.int .i64 n2.leaf),.lit (.int .i64 s.num),.lit (.bool s.now.isSome),.lit (.bool s.ans.isSome),.lit (.int .i64 y.pool),.lit (.int .i64 y.od.k),.lit (.string y.od.s),ve,.lit (.int .i64 y.od.e),.lit (.int .i64 y.od.n),.lit (.int .i64 y.pgp),.lit (.int .i64 y.pgs),.lit (.int .i64 y.tr),.lit (.int .i64 y.la.e),.lit (.string y.la.s),.lit (.int .i64 y.la.v1),.lit (.int .i64 y.la.v2),we,wl] 70)).at b=h5.at b/\Gr (fun b=>G b\/H.n<=b) r b:=fun b hb hlt=>⟨zE _ (Ne.symm hb.2),hb⟩;have m5:vG (fun k=>hB.n<=k) h5 n2 ro rp rb:=m4.lift fun b hb hlt=>⟨by rw[hh5,zE _ (by omega)],hb⟩;refine ih _ _ ⟨⟨n2,ro,rp,rb,⟨qJ _ lY5,(m5.lift fun b hb hlt=>⟨zE _ (by omega),.inr (by omega),by omega⟩),z5.od.lift hl6,z5.ld.lift hl6,z5.ll.lift hl6,z5.now,z5.ans⟩,?_,?_,?_,?_,k5.put _⟩,?_⟩
    ·rw[hn2,Ak hy,<-vI];exact(Ah hsn (hit y7 hym) h00).1
    ·rw[hn2,Gz h00];exact hex
    ·rw[hn2];exact Bz hpn2
    ·rw[hd2,hdc,Qm,if_neg hle,if_pos h00,hn2]
    ·simp only[jN,jE,jF,reduceCtorEq,ga]
   ·have h0e:(er !=0)=true:=bne_iff_ne.2 h0;have hdn:Ql s.m l=n:=by rw[hd2,hdc,Qm,if_neg hle,if_neg (by rw[<-her];exact h0)]
    have hk6:=(Kq.ext EP).trans k5;rcases hnx with hx|⟨y9,hx⟩
    ·have hxi:s.now.isSome=false:=by rw[hx];rfl
     rcases hgx n with hgt|hgt
     ·repeat (first|((with_reducible refine jX ?_;simp only[vO];try simp only[vP,jB]);simp only[jN,jB,jE,jF,reduceCtorEq,jG,zG,ga,Z4,z1,z2,z3,h0e,<-hh5,LY5,hgt,hxi])|simp only[jN,jB,jC,jD,jE,jF,reduceCtorEq,jG,jJ,jK,jL,zG,ga,Z4,lZ4,z1,z2,z3,h0e,<-hh5,y5,LY5,lY5,hgt,hxi])
      rw[ZM hdn,QN hdn (by exact .inl hx)];exact⟨⟨hk6,_,_,_,_,_,_,_,z5⟩,.nil⟩
     ·repeat (first|((with_reducible refine jX ?_;simp only[vO];try simp only[vP,jB]);simp only[jN,jB,jE,jF,reduceCtorEq,jG,zG,ga,Z4,z1,z2,z3,h0e,<-hh5,LY5,hgt,hxi])|simp only[jN,jB,jC,jD,jE,jF,reduceCtorEq,jG,jJ,jK,jL,zG,ga,Z4,lZ4,z1,z2,z3,h0e,<-hh5,y5,LY5,lY5,hgt,hxi])
      rw[ZM hdn,QN hdn (by exact .inr hgt)];exact⟨⟨hk6,_,_,_,_,_,_,_,z5⟩,.nil⟩
    ·have hxi:s.now.isSome=true:=by rw[hx];rfl
     rcases hgx n with hgt|hgt
     ·repeat (first|((with_reducible refine jX ?_;simp only[vO];try simp only[vP,jB]);simp only[jN,jB,jE,jF,reduceCtorEq,jG,zG,ga,Z4,z1,z2,z3,h0e,<-hh5,LY5,hgt,hxi])|simp only[jN,jB,jC,jD,jE,jF,reduceCtorEq,jG,jJ,jK,jL,zG,ga,Z4,lZ4,z1,z2,z3,h0e,<-hh5,y5,LY5,lY5,hgt,hxi])
      rw[ZM hdn,Au hdn hx hgt];refine(CS z5 hx (hsn.mok (by omega) hen hpn2) (hno y9 hx)).mono ?_;rintro v7 h7 ⟨e7,hs7⟩;simp only[jN,jE,reduceCtorEq,ga];exact⟨⟨hk6.trans (.ext e7),_,_,_,_,_,_,_,z5.ext e7⟩,hs7.lift fun b hb _=>⟨rfl,by omega⟩⟩
     ·repeat (first|((with_reducible refine jX ?_;simp only[vO];try simp only[vP,jB]);simp only[jN,jB,jE,jF,reduceCtorEq,jG,zG,ga,Z4,z1,z2,z3,h0e,<-hh5,LY5,hgt,hxi])|simp only[jN,jB,jC,jD,jE,jF,reduceCtorEq,jG,jJ,jK,jL,zG,ga,Z4,lZ4,z1,z2,z3,h0e,<-hh5,y5,LY5,lY5,hgt,hxi])
      rw[ZM hdn,QN hdn (by exact .inr hgt)];exact⟨⟨hk6,_,_,_,_,_,_,_,z5⟩,.nil⟩
 ·rintro t h hc ⟨⟨n,wo,wp,wb,hcl,hsn,hen,hpn2,hd2,hkq⟩,ga⟩;rw[hN,Zh]at hd2;have hd2:Ql s.m l=n:=hd2;have y1:=hcl.cr;unfold EI at y1;have LY:=xI y1;have lY2:=jR y1;have hk6:=(Kq.ext EP).trans hkq;rw[hN,xC]at hsn;rcases hnx with hx|⟨y9,hx⟩
  ·have hxi:s.now.isSome=false:=by rw[hx];rfl
   rcases hgx n with hgt|hgt
   ·simp only[jN,jB,jE,jF,reduceCtorEq,ga,hc,gg4,d1,LY,hgt,hxi];rw[ZM hd2,QN hd2 (by exact .inl hx)];exact⟨⟨hk6,_,_,_,_,_,_,_,hcl⟩,.nil⟩
   ·simp only[jN,jB,jE,jF,reduceCtorEq,ga,hc,gg4,d1,LY,hgt,hxi];rw[ZM hd2,QN hd2 (by exact .inr hgt)];exact⟨⟨hk6,_,_,_,_,_,_,_,hcl⟩,.nil⟩
  ·have hxi:s.now.isSome=true:=by rw[hx];rfl
   rcases hgx n with hgt|hgt
   ·simp only[jN,jB,jE,jF,reduceCtorEq,ga,hc,gg4,d1,LY,hgt,hxi];rw[ZM hd2,Au hd2 hx hgt];refine(CS hcl hx (hsn.mok (by omega) hen hpn2) (hno y9 hx)).mono ?_;rintro v7 h7 ⟨e7,hs7⟩;simp only[jN,jE,reduceCtorEq,ga];have hn7:=hk6.1;exact⟨⟨hk6.trans (.ext e7),_,_,_,_,_,_,_,hcl.ext e7⟩,hs7.lift fun b hb _=>⟨rfl,by omega⟩⟩
   ·simp only[jN,jB,jE,jF,reduceCtorEq,ga,hc,gg4,d1,LY,hgt,hxi];rw[ZM hd2,QN hd2 (by exact .inr hgt)];exact⟨⟨hk6,_,_,_,_,_,_,_,hcl⟩,.nil⟩
 ·refine⟨⟨s.m,vo,vp,vb,?_,?_,hep,hpl,rfl,.refl _ _⟩,?_⟩
  ·exact z.wide EP fun b hb=> .inl hb
  ·exact hst.mono (by omega)
  ·simp only[jN,jB,jE,jF,reduceCtorEq];(repeat' apply And.intro)<;>first|rfl|trivial
end
end
section
section
variable {r:Nat} {G:Nat->Prop} {H h:AH} {c:vM} {s:Zg} {vo vp vb vd ve vl:AV} {y:fU}
theorem oU{F:Nat->Prop}{v0:AV}(pool:Int)(o:MK)(z:QG r G H c s vo vp vb y vd ve vl)(hmo:oO s.m)(hnu:0<=s.num/\s.num<=1000000000)(hd:zJ xZ F H v0 o.d)(hs:o.s.size<=140737488351232):
 vR 23 [.ptr r 0,.lit (.int .i64 pool),.agg (Fb o v0)] H fun v h'=>j0I r G H h' c (VI s pool o)/\∃rv,v= .tup [rv,.lit (.int .i64 (Qe s pool o))]/\zJ Hm (fun b=>H.n<=b) h' rv (Uw c s pool o):=by
 refine zW Tryz.func23 rfl rfl ?_
 have v1:=hd.one
 have v2:=hd.isSl
 have v3:=hd.lenD
 obtain⟨hA,hhA,eA,XA⟩:=xX H (.cells (Fb o v0) 41)
 have lr:=z.lt
 have zA:=z.ext eA
 have Y:=zA.cr
 unfold EI at Y
 have L:=xI Y
 have l:=jR Y
 unfold Fb at XA hhA
 unfold Fb
 have LXA:=xI XA
 have lXA:=jR XA
 have o1:=zA.m.o.one
 have o2:=zA.m.p.one
 have o3:=zA.m.b.one
 have hnn:s.now.isSome=false->s.now=none:=fun h=>by simpa using h
 cases hbu:US s with
 |true=>
  have he:=FB (pool:=pool) (o:=o) hbu
  obtain⟨r1,r2⟩:=Zu (c:=c) he (by decide)
  rw[he,r1,r2]
  unfold US at hbu
  cases b1:s.now.isSome with
  |true=>
   rw[b1]at L Y;simp only[jN,jB,jC,jE,jF,reduceCtorEq,Tryz.ntmps23,v1,<-hhA,L];exact⟨.stay z eA,_,rfl,.nil⟩
  |false=>
   have b2:s.ans.isSome=true:=by rw[b1,Bool.false_or]at hbu;exact hbu
   rw[b1,b2]at L Y;simp only[jN,jB,jC,jE,jF,reduceCtorEq,Tryz.ntmps23,v1,<-hhA,L];exact⟨.stay z eA,_,rfl,.nil⟩
 |false=>
 obtain⟨hn0,ha0⟩:=Hy hbu
 have b1:s.now.isSome=false:=by rw[hn0];rfl
 have b2:s.ans.isSome=false:=by rw[ha0];rfl
 rw[b1,b2]at L Y
 have keyE:Qe s pool o=if ¬(1<=o.k/\o.k<=4)then 22 else if Ke o.s.data.toList=false then 36 else if 4096<o.d.length then 27 else if(JG s.m pool).isSome=false then 2 else 0:=by unfold Qe;rw[hbu,if_neg (by decide)]
 by_cases j1:o.k<1
 ·rw[if_pos (by omega)]at keyE;obtain⟨r1,r2⟩:=Zu (c:=c) keyE (by decide);rw[keyE,r1,r2];simp only[jN,jB,jC,jE,jF,reduceCtorEq,Tryz.ntmps23,v1,<-hhA,L,LXA,j1];exact⟨.stay z eA,_,rfl,.nil⟩
 by_cases j2:4<o.k
 ·rw[if_pos (by omega)]at keyE;obtain⟨r1,r2⟩:=Zu (c:=c) keyE (by decide);rw[keyE,r1,r2];simp only[jN,jB,jC,jE,jF,reduceCtorEq,Tryz.ntmps23,v1,<-hhA,L,LXA,j1,j2];exact⟨.stay z eA,_,rfl,.nil⟩
 rw[if_neg (by omega)]at keyE
 simp only[jN,jB,jC,jE,jF,reduceCtorEq,Tryz.ntmps23,v1,<-hhA,L,LXA,j1,j2]
 refine Pf hs ?_
 cases hg:Ke o.s.data.toList
 ·rw[if_pos hg]at keyE;obtain⟨r1,r2⟩:=Zu (c:=c) keyE (by decide);rw[keyE,r1,r2];simp only[jN,jB,jE,jF,reduceCtorEq];exact⟨.stay z eA,_,rfl,.nil⟩
 rw[if_neg (by rw[hg];decide)]at keyE
 by_cases hdl:4096<o.d.length
 ·rw[if_pos hdl]at keyE;obtain⟨r1,r2⟩:=Zu (c:=c) keyE (by decide);rw[keyE,r1,r2];have hdi:(4096:Int)<(o.d.length:Int):=by omega
  simp only[jN,jB,jE,jF,reduceCtorEq,LXA,v2,v3,hdi];exact⟨.stay z eA,_,rfl,.nil⟩
 rw[if_neg hdl]at keyE
 have hdi:¬(4096:Int)<(o.d.length:Int):=by omega
 simp only[jN,jB,jE,jF,reduceCtorEq,jG,LXA,v2,v3,hdi,L]
 refine(HL pool zA.m hmo.ok.2.1.1).mono ?_
 rintro _ h2 ⟨e2,rfl⟩
 unfold Zz
 obtain⟨h3,hh3⟩:∃h3,h3=h2.push (.cells [.lit (.int .i64 (vV s.m pool).id),.lit (.int .i64 (vV s.m pool).size),.lit (.int .i64 (vV s.m pool).min),.lit (.int .i64 (vV s.m pool).pgs)] 108):=⟨_,rfl⟩
 have e3:=ZS hh3
 have E3a:=e2.trans (e3.mono e2.1)
 have E3:=eA.trans (E3a.mono eA.1)
 have X3:=(E3a.2 _ lXA).trans XA
 have LX3:=xI X3
 have lX3:=jR X3
 cases hps:(JG s.m pool).isSome with
 |false=>
  rw[if_pos hps]at keyE;obtain⟨r1,r2⟩:=Zu (c:=c) keyE (by decide);rw[keyE,r1,r2];simp only[jN,jB,jE,jF,reduceCtorEq,jG,<-hh3,LX3];exact⟨.stay z E3,_,rfl,.nil⟩
 |true=>
 rw[if_neg (by rw[hps];decide)]at keyE
 obtain⟨r1,r2⟩:=RL (c:=c) keyE
 rw[keyE,r1,r2]
 simp only[jN,jB,jE,jF,reduceCtorEq,jG,<-hh3,LX3]
 refine(IG (hd.ext E3 (jM _)) (by omega)).mono ?_
 rintro _ h4 ⟨e4,v4,rfl,hs4⟩
 simp only[jN,jB,jE,jF]
 have E4:=E3.trans (e4.mono E3.1)
 have z4:QG r (fun b=>G b\/H.n<=b) h4 c s vo vp vb y vd ve vl:=z.wide E4 fun b hb=> .inl hb
 refine(RK (x:=Cz pool o) z4 hnu pool 0 0 o ⟨rfl,rfl,fun _=>rfl,fun hh=>by cases hh⟩ (hs4.lift fun b hb _=>⟨rfl,.inr (by omega),by omega⟩)).mono ?_
 rintro _ h5 ⟨k5,wo,wp,wb,y5,w5,w6,w7,z5⟩
 simp only[jN,jB,reduceCtorEq]
 refine(CS z5 rfl hmo ⟨hs,by show o.d.length<=4096;omega,(by show false=(o.k==5);rw[eq_comm,beq_eq_false_iff_ne];omega),⟨Zy 0,by show(0:Int)<=_;omega⟩⟩).mono ?_
 rintro v6 h6 ⟨e6,hs6⟩
 have hn5:=k5.1
 have hn4:=E4.1
 simp only[jN,jB,jE,jF,reduceCtorEq]
 exact⟨⟨((Kq.ext E4).trans k5).trans (.ext e6),_,_,_,_,_,_,_,z5.ext e6⟩,_,rfl,hs6.lift fun b hb _=>⟨rfl,by omega⟩⟩
end
end
section
section
variable {r:Nat} {G:Nat->Prop} {H h:AH} {c:vM} {s:Zg} {vo vp vb vd ve vl:AV} {y:fU}
theorem j0T(g:MF)(z:QG r G H c s vo vp vb y vd ve vl)(hmo:oO s.m)(hpl:Qw s.m.pools)(hnu:0<=s.num/\s.num<=1000000000):
 vR 26 [.ptr r 0,eN g.pool g.seed] H fun v h'=>j0I r G H h' c (AX s g)/\∃rv,v= .tup [rv,.lit (.int .i64 (VR s g))]/\zJ Hm (fun b=>H.n<=b) h' rv (AY c s g):=by
 refine zW Tryz.func26 rfl rfl ?_
 obtain⟨hA,hhA,eA,XA⟩:=xX H (.cells [.lit (.int .i64 g.pool),.lit (.int .i64 g.seed)] 36)
 have zA:=z.ext eA
 have Y:=zA.cr
 unfold EI at Y
 have L:=xI Y
 have l:=jR Y
 unfold eN
 have LXA:=xI XA
 have lXA:=jR XA
 have o1:=zA.m.o.one
 have o2:=zA.m.p.one
 have o3:=zA.m.b.one
 have i1:=zA.m.o.isSl
 have i2:=zA.m.p.isSl
 have i3:=zA.m.b.isSl
 cases hbu:US s with
 |true=>
  have he:VR s g=11:=by unfold VR;rw[if_pos hbu]
  obtain⟨r1,r2⟩:=Vc (c:=c) he (by decide)
  rw[he,r1,r2]
  unfold US at hbu
  cases b1:s.now.isSome with
  |true=>
   rw[b1]at L Y;simp only[jN,jB,jC,jE,jF,reduceCtorEq,Tryz.ntmps26,<-hhA,L];exact⟨.stay z eA,_,rfl,.nil⟩
  |false=>
   have b2:s.ans.isSome=true:=by rw[b1,Bool.false_or]at hbu;exact hbu
   rw[b1,b2]at L Y;simp only[jN,jB,jC,jE,jF,reduceCtorEq,Tryz.ntmps26,<-hhA,L];exact⟨.stay z eA,_,rfl,.nil⟩
 |false=>
 obtain⟨hn0,ha0⟩:=Hy hbu
 have b1:s.now.isSome=false:=by rw[hn0];rfl
 have b2:s.ans.isSome=false:=by rw[ha0];rfl
 rw[b1,b2]at L Y
 have keyE:VR s g=if DK s.m g=true then 0 else 2:=by unfold VR;rw[hbu,if_neg (by decide)]
 have key:JG s.m g.pool=none\/∃pl,JG s.m g.pool=some pl/\(g.seed<0\/(¬g.seed<0/\pl.pgs<=g.seed)\/(¬g.seed<0/\¬pl.pgs<=g.seed/\8<=g.seed)\/(¬g.seed<0/\¬pl.pgs<=g.seed/\¬8<=g.seed)):=by
  cases hf:JG s.m g.pool with
  |none=>exact .inl rfl
  |some pl=>exact .inr ⟨pl,rfl,by omega⟩
 simp only[jN,jB,jC,jE,jF,reduceCtorEq,Tryz.ntmps26,<-hhA,L]
 rw[zL [0,1,2,3,4,5,10,6,7,8,9,11,12] 374070191126360212195711264472873151251682665963520 (by kernel_rfl)]
 repeat ((with_reducible refine jX ?_;simp only[vO];try simp only[vP,jB,jD,jH,jI]);simp only[jN,jB,jE,jF,reduceCtorEq,jG,zG,L,l,LXA,lXA])
 refine⟨by simp only[yK,i1,i2,i3,kS],?_⟩
 obtain⟨hB,hhB⟩:∃hB,hB=hA.push (.cells [.lit (.int .i64 0),.lit (.int .i64 0),.lit (.int .i64 0),.lit (.int .i64 0)] 108):=⟨_,rfl⟩
 rw[<-hhB]
 have eB:=ZS hhB
 have ZB:=QJ hhB
 refine(HL g.pool (zA.m.ext eB (jM _)) hmo.ok.2.1.1).mono ?_
 rintro _ h2 ⟨e2,rfl⟩
 unfold Zz
 have Z2:=(e2.2 _ (jR ZB)).trans ZB
 have lZ2:=jR Z2
 have E2a:=eB.trans (e2.mono eB.1)
 have nA:hA.n=H.n+1:=by rw[hhA,zF]
 obtain⟨h3,hh3⟩:∃h3,h3=h2.put hA.n (.cells [.lit (.int .i64 (vV s.m g.pool).id),.lit (.int .i64 (vV s.m g.pool).size),.lit (.int .i64 (vV s.m g.pool).min),.lit (.int .i64 (vV s.m g.pool).pgs)] 108):=⟨_,rfl⟩
 have E3:zM H.n H h3:=hh3▸(eA.trans (E2a.mono eA.1)).put _ (by omega)
 have Z3:=Jj hh3 lZ2
 have X3:h3.at H.n=_:=(hh3▸zE _ (by omega)).trans ((E2a.2 _ lXA).trans XA)
 have LX3:=xI X3
 have lX3:=jR X3
 have LZ3:=xI Z3
 have lZ3:=jR Z3
 repeat ((with_reducible refine jX ?_;simp only[vO];try simp only[vP,jB]);simp only[jN,jB,jE,jF,jG,zG,Z2,<-hh3])
 rcases key with hf|⟨pl,hf,hj⟩
 ·have hno:DK s.m g=false:=by unfold DK;rw[hf]
  have hps:(JG s.m g.pool).isSome=false:=by rw[hf];rfl
  rw[if_neg (by rw[hno];decide)]at keyE;obtain⟨r1,r2⟩:=Vc (c:=c) keyE (by decide);rw[keyE,r1,r2];repeat (first|((with_reducible refine jX ?_;simp only[vO];try simp only[vP,jB,jD,jH,jI,jF]);simp only[jN,jB,jC,jD,jE,jF,reduceCtorEq,jG,jJ,jK,jL,zG,hps,LX3,lX3,LZ3,lZ3])|simp only[jN,jB,jE,jF,reduceCtorEq,jG,hps,LX3])
  exact⟨.stay z E3,_,rfl,.nil⟩
 have hps:(JG s.m g.pool).isSome=true:=by rw[hf];rfl
 have hG:vV s.m g.pool=pl:=by unfold vV;rw[hf];rfl
 have hhp:DK s.m g=decide (0<=g.seed/\g.seed<pl.pgs/\g.seed<8):=by unfold DK;rw[hf]
 rw[hG]at LZ3
 rcases hj with j1|⟨j1,j2⟩|⟨j1,j2,j3⟩|⟨j1,j2,j3⟩
 ·have hn:¬decide (0<=g.seed/\g.seed<pl.pgs/\g.seed<8)=true:=by simp only[decide_eq_true_eq];omega
  rw[hhp,if_neg hn]at keyE;obtain⟨r1,r2⟩:=Vc (c:=c) keyE (by decide);rw[keyE,r1,r2];repeat (first|((with_reducible refine jX ?_;simp only[vO];try simp only[vP,jB,jD,jH,jI,jF]);simp only[jN,jB,jC,jD,jE,jF,reduceCtorEq,jG,jJ,jK,jL,zG,kV,hps,LX3,lX3,LZ3,lZ3,j1])|simp only[jN,jB,jE,jF,reduceCtorEq,jG,zG,kV,hps,LX3,j1])
  exact⟨.stay z E3,_,rfl,.nil⟩
 ·have hn:¬decide (0<=g.seed/\g.seed<pl.pgs/\g.seed<8)=true:=by simp only[decide_eq_true_eq];omega
  rw[hhp,if_neg hn]at keyE;obtain⟨r1,r2⟩:=Vc (c:=c) keyE (by decide);rw[keyE,r1,r2];repeat (first|((with_reducible refine jX ?_;simp only[vO];try simp only[vP,jB,jD,jH,jI,jF]);simp only[jN,jB,jC,jD,jE,jF,reduceCtorEq,jG,jJ,jK,jL,zG,kV,hps,LX3,lX3,LZ3,lZ3,j1,j2])|simp only[jN,jB,jE,jF,reduceCtorEq,jG,zG,kV,hps,LX3,LZ3,j1,j2])
  exact⟨.stay z E3,_,rfl,.nil⟩
 ·have hn:¬decide (0<=g.seed/\g.seed<pl.pgs/\g.seed<8)=true:=by simp only[decide_eq_true_eq];omega
  rw[hhp,if_neg hn]at keyE;obtain⟨r1,r2⟩:=Vc (c:=c) keyE (by decide);rw[keyE,r1,r2];repeat (first|((with_reducible refine jX ?_;simp only[vO];try simp only[vP,jB,jD,jH,jI,jF]);simp only[jN,jB,jC,jD,jE,jF,reduceCtorEq,jG,jJ,jK,jL,zG,kV,hps,LX3,lX3,LZ3,lZ3,j1,j2,j3])|simp only[jN,jB,jE,jF,reduceCtorEq,jG,zG,kV,hps,LX3,LZ3,j1,j2,j3])
  exact⟨.stay z E3,_,rfl,.nil⟩
 rw[hhp,if_pos (by simp only[decide_eq_true_eq];omega)]at keyE
 obtain⟨r1,r2⟩:=eF (c:=c) keyE
 rw[keyE,r1,r2]
 repeat (first|((with_reducible refine jX ?_;simp only[vO];try simp only[vP,jB,jD,jH,jI,jF]);simp only[jN,jB,jC,jD,jE,jF,reduceCtorEq,jG,jJ,jK,jL,zG,kV,hps,LX3,lX3,LZ3,lZ3,j1,j2,j3])|simp only[jN,jB,jE,jF,reduceCtorEq,jG,zG,kV,hps,LX3,LZ3,j1,j2,j3])
 have z3:QG r (fun b=>G b\/H.n<=b) h3 c s vo vp vb y vd ve vl:=z.wide E3 fun b hb=> .inl hb
 refine(RK (x:=Cy g) (v0:= .lit (.slice none 0 0)) z3 hnu g.pool g.pool g.seed ⟨5,⟨#[]⟩,[],0,0⟩ ⟨rfl,rfl,fun hh=>(by cases hh),fun _=>⟨rfl,rfl⟩⟩ .nil).mono ?_
 rintro _ h5 ⟨k5,wo,wp,wb,y5,w5,w6,w7,z5⟩
 simp only[jN,jB,reduceCtorEq]
 refine(CS z5 rfl hmo ⟨(by decide:(0:Nat)<=_),(by decide:(0:Nat)<=4096),rfl,⟨Zy 0,(by decide:(0:Int)<=1000000000)⟩⟩).mono ?_
 rintro v6 h6 ⟨e6,hs6⟩
 have hn5:=k5.1
 simp only[jN,jB,jE,jF,reduceCtorEq]
 exact⟨⟨((Kq.ext E3).trans k5).trans (.ext e6),_,_,_,_,_,_,_,z5.ext e6⟩,_,rfl,hs6.lift fun b hb _=>⟨rfl,by omega⟩⟩
end
end
variable{P:Program}
section
structure JJ(X:Nat->Prop)(H0 h:AH)(q r p:Nat)(c:vM)(s t:Zg):Prop where
 e:zM H0.n H0 h
 hq:H0.n<=q
 hr:H0.n<=r
 hp:H0.n<=p
 pl:p<h.n
 ql:q<h.n
 rl:r<h.n
 qr:q≠r
 pr:p≠r
 P:j0Z q p (fun b=>X b/\b≠r) h c s
 D:j0H r (fun b=>X b/\b≠q/\b≠p) h c t
section
variable {X X':Nat->Prop} {H0 h h1:AH} {q r p:Nat} {c:vM} {s s1 t t1:Zg}
theorem JJ.keep(j:JJ X H0 h q r p c s t)(k:∀b,b<h.n->X b\/b=q\/b=p\/b=r\/b<H0.n->h1.at b=h.at b)(hn1:h.n<=h1.n)(hX:∀b,X b->b<h.n->X' b):JJ X' H0 h1 q r p c s t:=by
 refine⟨⟨zY j.e.1 hn1,fun b hb=>(k b (zS hb j.e.1) (.inr (.inr (.inr (.inr hb))))).trans (j.e.2 b hb)⟩,j.hq,j.hr,j.hp,zS j.pl hn1,zS j.ql hn1,zS j.rl hn1,j.qr,j.pr,?_,?_⟩
 ·obtain⟨vo,vp,vb,now,ans,z⟩:=j.P;have hl:∀b,Gq (fun b=>X b/\b≠r) q p b->b<h.n->h1.at b=h.at b/\Gq (fun b=>X' b/\b≠r) q p b:=fun b hb hlt=>⟨k b hlt (.inl hb.1.1),⟨hX b hb.1.1 hlt,hb.1.2⟩,hb.2⟩;exact⟨vo,vp,vb,now,ans,(k q j.ql (.inr (.inl rfl))).trans z.cq,z.m.lift hl,z.now.lift hl (fun _ _=>k p j.pl (.inr (.inr (.inl rfl)))),z.ans.lift hl⟩
 ·obtain⟨vo,vp,vb,y,vd,ve,vl,z⟩:=j.D;exact⟨vo,vp,vb,y,vd,ve,vl,z.lift (k r j.rl (.inr (.inr (.inr (.inl rfl))))) fun b hb hlt=>⟨k b hlt (.inl hb.1.1),hX b hb.1.1 hlt,hb.1.2⟩⟩
theorem JJ.ext(j:JJ X H0 h q r p c s t)(e:zM h.n h h1):JJ X H0 h1 q r p c s t:=j.keep (fun b hb _=>e.2 b hb) e.1 fun _ hh _=>hh
theorem JJ.prog(j:JJ X H0 h q r p c s t)(hX:∀b,h.n<=b->X b)(b:j0G q p (fun b=>X b/\b≠r) h h1 c s1):∃p',(p'=p\/h.n<=p')/\K2 q p' h h1/\JJ X H0 h1 q r p' c s1 t:=by
 obtain⟨p',k,hpp,hpl,z⟩:=b;have hpl':=hpl j.pl;have hn:=k.1;have hp0:H0.n<=p':=by have:=j.hp;have:=j.e.1;rcases hpp with rfl|h<;>omega
 have hpr:p'≠r:=by have:=j.pr;have:=j.rl;rcases hpp with rfl|h<;>omega
 refine⟨p',hpp,k,⟨zY j.e.1 hn,fun b hb=>(k.2 b (zS hb j.e.1) (by have:=j.hq;omega) (by omega)).trans (j.e.2 b hb)⟩,j.hq,j.hr,hp0,hpl',zS j.ql hn,zS j.rl hn,j.qr,hpr,?_,?_⟩
 ·obtain⟨vo,vp,vb,now,ans,z⟩:=z
  have rl:=j.rl;have hl:∀b,Gq (fun b=>(X b/\b≠r)\/h.n<=b) q p' b->b<h1.n->h1.at b=h1.at b/\Gq (fun b=>X b/\b≠r) q p' b:=fun b hb _=>⟨rfl,by
   rcases hb.1 with h2|h2
   ·exact h2
   ·exact⟨hX b h2,by omega⟩,hb.2⟩
  exact⟨vo,vp,vb,now,ans,z.cq,z.m.lift hl,z.now.lift hl (fun _ _=>rfl),z.ans.lift hl⟩
 ·obtain⟨vo,vp,vb,y,vd,ve,vl,z⟩:=j.D;refine⟨vo,vp,vb,y,vd,ve,vl,z.lift (k.2 r j.rl (Ne.symm j.qr) (Ne.symm hpr)) fun b hb hlt=> ?_⟩;have hbp:b≠p':=by have:=hb.1.2.2;rcases hpp with rfl|h<;>omega
  exact⟨k.2 b hlt hb.1.2.1 hbp,hb.1.1,hb.1.2.1,hbp⟩
theorem JJ.doc(j:JJ X H0 h q r p c s t)(hX:∀b,h.n<=b->X b)(b:j0I r (fun b=>X b/\b≠q/\b≠p) h h1 c t1):JJ X H0 h1 q r p c s t1:=by
 obtain⟨k,z⟩:=b;have hn:=k.1;refine⟨⟨zY j.e.1 hn,fun b hb=>(k.2 b (zS hb j.e.1) (by have:=j.hr;omega)).trans (j.e.2 b hb)⟩,j.hq,j.hr,j.hp,zS j.pl hn,zS j.ql hn,zS j.rl hn,j.qr,j.pr,?_,?_⟩
 ·obtain⟨vo,vp,vb,now,ans,z⟩:=j.P;have hl:∀b,Gq (fun b=>X b/\b≠r) q p b->b<h.n->h1.at b=h.at b/\Gq (fun b=>X b/\b≠r) q p b:=fun b hb hlt=>⟨k.2 b hlt hb.1.2,hb⟩;exact⟨vo,vp,vb,now,ans,(k.2 q j.ql j.qr).trans z.cq,z.m.lift hl,z.now.lift hl (fun _ _=>k.2 p j.pl j.pr),z.ans.lift hl⟩
 ·obtain⟨vo,vp,vb,y,vd,ve,vl,z⟩:=z
  have pl:=j.pl;have ql:=j.ql;exact⟨vo,vp,vb,y,vd,ve,vl,z.lift rfl fun b hb _=>⟨rfl,by
   rcases hb.1 with h2|h2
   ·exact h2
   ·exact⟨hX b h2,by omega,by omega⟩⟩⟩
end
def Rq(x:Nv):Prop:=x.os.data.toList.length<=4096/\x.od.length<=4096
theorem Up{t:TypeId}{bs:List UInt8}:yS P (binOp .neq t (Value.string ⟨bs.toArray⟩) (Value.string ⟨bs.toArray⟩))=some (.ok (Value.bool false)):=by show yS P (pure (Value.bool !((⟨bs.toArray⟩:ByteArray).toList==(⟨bs.toArray⟩:ByteArray).toList)))=_;rw[beq_self_eq_true];rfl
theorem Hf{t:TypeId}{s:ByteArray}:yS P (binOp .neq t (Value.string s) (Value.string s))=some (.ok (Value.bool false)):=by show yS P (pure (Value.bool !(s.toList==s.toList)))=_;rw[beq_self_eq_true];rfl
theorem TD{n:Nat}:AV.same n (.lit (.slice none 0 0)) (.lit (.slice none 0 0))=true:=by rw[yK Jv]
theorem DV{F G:Nat->Prop}{H:AH}{xs:List Nv}(hu:zJ Hm F H u xs)(hv:zJ Hm G H v xs)(hok:∀x∈xs,Rq x)(hlen:xs.length<=100000):
 vR 18 [u,v] H fun w h'=>zM H.n H h'/\w= .lit (.bool true):=by
 refine zW Tryz.func18 rfl rfl ?_
 have a1:=hu.isSl
 have a2:=hu.lenD
 have b1:=hv.isSl
 have b2:=hv.lenD
 obtain⟨N,hN⟩:∃N,N=xs.length:=⟨_,rfl⟩
 rw[<-hN]at a2 b2 hlen
 have hnn:((N:Int)!=(N:Int))=false:=by simp
 simp only[jN,jB,jC,jE,jF,reduceCtorEq,Tryz.ntmps18,a1,a2,b1,b2,hnn]
 refine kO N (fun i t h=>zM H.n H h/\t.n=30/\t.get 0=u/\t.get 1=v/\t.get 4= .lit (.bool false)/\t.get 12= .lit (.int .i64 N)/\t.get 13= .lit (.int .i64 i)) ?_ ?_ _ _ ?_
 ·rintro i t h hlt hc ⟨E,ga⟩ ih;obtain⟨x,hx⟩:∃x,xs[i]? =some x:=⟨_,jO (by omega)⟩;have hwi:=xG (n:=N) hlt (by omega);have hmo:=hok x (zR hx);obtain⟨c1,hc1,hlu,hlu0⟩:=(hu.ext E (jM _)).at (T:=zH Tryz.prog kR) j3e hx;obtain⟨c2,hc2,hlv,hlv0⟩:=(hv.ext E (jM _)).at (T:=zH Tryz.prog kR) j3e hx;obtain⟨w1,rfl,s1⟩:=Br.1 hc1;obtain⟨w2,rfl,s2⟩:=Br.1 hc2;have o1:=s1.isSl;have o2:=s2.isSl;unfold Ri at hlu hlu0 hlv hlv0;simp only[jN,jB,jE,jF,reduceCtorEq,ga,hc];rw[zL [0,1,2,3,6,7,8,9,4,5,10,11,12] 374075544654119228367157352469447422710597541691392 (by kernel_rfl)];repeat ((with_reducible refine jX ?_;simp only[vO];try simp only[vP,jB,jD,jH,jI]);simp only[jN,jB,jE,jF,reduceCtorEq,jG,zG,ga,a1,a2,b1,b2,hlt,hlu0,hlv0])
  refine⟨by simp only[yK,TD,o1,o2,kS],?_⟩;refine(uQ (F:=fun b=>b<h.n) x (s1.lift fun b _ hlt=>⟨rfl,hlt⟩) (fun b hb=>hb) hmo.1 hmo.2).mono ?_;rintro _ h3 ⟨e3,ob⟩;obtain⟨p5,rfl,hp5,hat5,hby5⟩:=qE.bytes ob (Sf x);have E3:=E.step e3;have lv3:=(hv.ext E (jM _)).loadExt (T:=zH Tryz.prog kR) hx e3;repeat ((with_reducible refine jX ?_;simp only[vO];try simp only[vP,jB,jD,jH,jI]);simp only[jN,jB,jE,jF,jG,zG,ga,lv3,hlv0,Bv,Am,hby5])
  refine⟨by simp only[yK,TD,o2,kS],?_⟩;refine(uQ (F:=fun b=>b<h3.n) x ((s2.ext e3 (jM _)).lift fun b _ hlt=>⟨rfl,hlt⟩) (fun b hb=>hb) hmo.1 hmo.2).mono ?_;rintro _ h6 ⟨e6,ob6⟩;obtain⟨p6,rfl,hp6,hat6,hby6⟩:=qE.bytes ob6 (Sf x);have E6:=E3.step e6;have hby56:=hby5;unfold JY Zj at hby56;rw[<-e6.2 _ (jR hat5)]at hby56;have hby57:JY h6 p5 0 _=some _:=hby56;repeat (first|((with_reducible refine jX ?_;simp only[vO];try simp only[vP,jB,jD,jH,jI]);simp only[jN,jB,jE,jF,reduceCtorEq,zG,ga,Bv,Am,hby6,hby57,Up,hwi])|simp only[jN,jB,jC,jD,jE,jF,reduceCtorEq,jG,jJ,jK,jL,zG,ga,Bv,Am,hby6,hby57,Up,hwi]|refine⟨by rw[hby57];exact Mm,?_⟩)
  refine ih _ _ ⟨E6,?_⟩;simp only[jN,jE,jF,reduceCtorEq,ga]
 ·rintro t h hc ⟨E,ga⟩;simp only[jN,jB,jE,jF,reduceCtorEq,ga,hc];exact E
 ·refine⟨zM.refl _ _,?_⟩;simp only[jN,jB,jE,jF,reduceCtorEq];(repeat' apply And.intro)<;>first|rfl|trivial
theorem nT{F G:Nat->Prop}{H:AH}{xs:List ByteArray}(hu:zJ JX F H u xs)(hv:zJ JX G H v xs)(hlen:xs.length<=4611686018427387000):
 vR 49 [u,v] H fun w h'=>w= .lit (.bool true)/\h'=H:=by
 refine zW Tryz.func49 rfl rfl ?_
 have a1:=hu.isSl
 have a2:=hu.lenD
 have b1:=hv.isSl
 have b2:=hv.lenD
 obtain⟨N,hN⟩:∃N,N=xs.length:=⟨_,rfl⟩
 rw[<-hN]at a2 b2 hlen
 have hnn:((N:Int)!=(N:Int))=false:=by simp
 simp only[jN,jB,jC,jE,jF,reduceCtorEq,Tryz.ntmps49,a1,a2,b1,b2,hnn]
 refine kO N (fun i t h=>h=H/\t.n=26/\t.get 0=u/\t.get 1=v/\t.get 4= .lit (.bool false)/\t.get 12= .lit (.int .i64 N)/\t.get 13= .lit (.int .i64 i)) ?_ ?_ _ _ ?_
 ·rintro i t h hlt hc ⟨rfl,ga⟩ ih;obtain⟨x,hx⟩:∃x,xs[i]? =some x:=⟨_,jO (by omega)⟩;have hwi:=xG (n:=N) hlt (by omega);obtain⟨c1,hc1,hlu,hlu0⟩:=hu.at (T:=zH Tryz.prog kR) (show JX.z=1 from rfl) hx;obtain⟨c2,hc2,hlv,hlv0⟩:=hv.at (T:=zH Tryz.prog kR) (show JX.z=1 from rfl) hx;obtain rfl:c1=[.lit (.string x)]:=hc1;obtain rfl:c2=[.lit (.string x)]:=hc2;have lu:=hlu0 9 1 (by kernel_rfl) (by decide) (by decide);have lv:=hlv0 9 1 (by kernel_rfl) (by decide) (by decide);simp only[KP]at lu lv;simp only[jN,jB,jE,jF,reduceCtorEq,ga,hc];rw[zL [0,1,2,3,4,5,6,7,8] 1205237335491016659828736 (by kernel_rfl)];repeat (first|((with_reducible refine jX ?_;simp only[vO];try simp only[vP,jB,jD,jH,jI,jF]);simp only[jN,jB,jE,jF,reduceCtorEq,zG,ga,a1,a2,b1,b2,hlt,lu,lv,Hf,hwi])|simp only[jN,jB,jC,jD,jE,jF,reduceCtorEq,jG,jJ,jK,jL,zG,ga,a1,a2,b1,b2,hlt,hlu,hlu0,hlv,hlv0,lu,lv,Hf,hwi])
  refine ih _ _ ⟨rfl,?_⟩;simp only[jN,jE,jF,reduceCtorEq,ga]
 ·rintro t h hc ⟨rfl,ga⟩;simp only[jN,jB,jE,jF,reduceCtorEq,ga,hc]
 ·refine⟨rfl,?_⟩;simp only[jN,jB,jE,jF,reduceCtorEq];(repeat' apply And.intro)<;>first|rfl|trivial
end
section
section
theorem bG(a0:Int)(a1:Int)(b0:Int)(b1:Int):yS Tryz.prog (Op.equal 39 (.agg #[.int .i64 a0,.int .i64 a1]) (.agg #[.int .i64 b0,.int .i64 b1]))=some (.ok ((a0==b0)&&(a1==b1))):=by
 show yS Tryz.prog (Op.equalIn (9999+1) 39 (.agg #[.int .i64 a0,.int .i64 a1]) (.agg #[.int .i64 b0,.int .i64 b1]))=_;rw[QX 9999 39 _ _ (by kernel_rfl) (by kernel_rfl)];obtain⟨f0,f1,hf,n0,n1,t0,t1,z0,z1⟩:∃f0 f1:Field,(Tryz.prog.fieldsOf 39).toList=[f0,f1]/\f0.name≠"_"/\f1.name≠"_"/\f0.type=3/\f1.type=3/\f0.offset=0/\f1.offset=1:=by unfold Program.fieldsOf;rw[Tryz.underlying39];exact⟨_,_,rfl,by decide,by decide,rfl,rfl,rfl,rfl⟩
 rw[hf];have p0:∀(a0:Int) (a1:Int),yS Tryz.prog (part 3 #[.int .i64 a0,.int .i64 a1] 0)=some (.ok (.int .i64 a0)):=fun a0 a1=>by kernel_rfl
 have p1:∀(a0:Int) (a1:Int),yS Tryz.prog (part 3 #[.int .i64 a0,.int .i64 a1] 1)=some (.ok (.int .i64 a1)):=fun a0 a1=>by kernel_rfl
 have qi:∀x y:Int,yS Tryz.prog (Op.equalIn 9999 3 (.int .i64 x) (.int .i64 y))=some (.ok (x==y)):=fun x y=>VN 9998 3 .i64 .i64 x y Tryz.underlying3;simp only[Op.eqFields,n0,t0,z0,p0,n1,t1,z1,p1,ne_eq,not_false_eq_true,if_true,Zw,qi,HO,JV];cases(a0==b0)<;>cases(a1==b1)<;>rfl
variable {d:Option Tmp} {ty:TypeId} {ps:String} {af:Array Edge} {g:Option (Nat×Bool)} {f:TypeId} {t:TM} {h:AH}
theorem j1m{i j:Nat}(hi:t.get i= .agg [.lit (.int .i64 a0),.lit (.int .i64 a1)])(hj:t.get j= .agg [.lit (.int .i64 b0),.lit (.int .i64 b1)]):
 XK Tryz.prog (zH Tryz.prog kR) ⟨d,.binOp .eql 39 (.tmp i) (.tmp j) f,ty,ps,af,g⟩ t h .eql 39 (.tmp i) (.tmp j)=some (.val (.lit (.bool ((a0==b0)&&(a1==b1)))),h):=by
 have e1:xJ t (.tmp i)=some (.agg [.lit (.int .i64 a0),.lit (.int .i64 a1)]):=by rw[kX,hi]
 have e2:xJ t (.tmp j)=some (.agg [.lit (.int .i64 b0),.lit (.int .i64 b1)]):=by rw[kX,hj]
 have l1:qI t (.tmp i)= .agg #[.int .i64 a0,.int .i64 a1]:=by unfold qI;rw[e1];rfl
 have l2:qI t (.tmp j)= .agg #[.int .i64 b0,.int .i64 b1]:=by unfold qI;rw[e2];rfl
 have hl:yU Tryz.prog ⟨d,.binOp .eql 39 (.tmp i) (.tmp j) f,ty,ps,af,g⟩ t=some (.val (.lit (.bool ((a0==b0)&&(a1==b1))))):=by
  unfold yU;rw[if_pos (by show(Zs _&&JK t [.tmp i,.tmp j])=true;simp only[JK,e1,e2];rfl)];have:yS Tryz.prog (execOp (qI t) ⟨d,.binOp .eql 39 (.tmp i) (.tmp j) f,ty,ps,af,g⟩)=some (.ok (.value (.bool ((a0==b0)&&(a1==b1))))):=by
   show yS Tryz.prog (do pure (Next.value (<-(do eqGuard .eql 39 (.tmp i) (.tmp j) (qI t (.tmp i)) (qI t (.tmp j));binOp .eql 39 (qI t (.tmp i)) (qI t (.tmp j))))))=_;rw[l1,l2];have hg:yS Tryz.prog (eqGuard .eql 39 (.tmp i) (.tmp j) (.agg #[.int .i64 a0,.int .i64 a1]) (.agg #[.int .i64 b0,.int .i64 b1]))=some (.ok ()):=by
    have hm:Tryz.prog.eqGuardType Tryz.prog.depth 39=false:=by kernel_rfl
    simp[eqGuard,Zw,Um,hm,JV]
   have hb:yS Tryz.prog (binOp .eql 39 (.agg #[.int .i64 a0,.int .i64 a1]) (.agg #[.int .i64 b0,.int .i64 b1]))=some (.ok (.bool ((a0==b0)&&(a1==b1)))):=by show yS Tryz.prog (do pure (Value.bool (<-Op.equal 39 (.agg #[.int .i64 a0,.int .i64 a1]) (.agg #[.int .i64 b0,.int .i64 b1]))))=_;simp only[Zw,bG,JV]
   simp only[Zw,hg,hb,JV]
  rw[this];rfl
 unfold XK
 rw[e1,e2]
 show yR _ _ _ _ _=_
 unfold yR
 rw[hl]
def WS(h:AH)(r:AR):AV->AV->AR
 | .agg [.lit (.int .i64 a0),.lit (.int .i64 a1)],.agg [.lit (.int .i64 b0),.lit (.int .i64 b1)]=>some (.val (.lit (.bool ((a0==b0)&&(a1==b1)))),h)
 |_,_=>r
theorem iM:WS h r (.agg [.lit (.int .i64 a0),.lit (.int .i64 a1)]) (.agg [.lit (.int .i64 b0),.lit (.int .i64 b1)])=some (.val (.lit (.bool ((a0==b0)&&(a1==b1)))),h):=rfl
theorem rN{i j:Nat}:Dc Tryz.prog (zH Tryz.prog kR) ⟨d,.binOp .eql 39 (.tmp i) (.tmp j) f,ty,ps,af,g⟩ t h .eql 39 (.tmp i) (.tmp j)=WS h (rG Tryz.prog (zH Tryz.prog kR) ⟨d,.binOp .eql 39 (.tmp i) (.tmp j) f,ty,ps,af,g⟩ t h .eql 39 (.tmp i) (.tmp j)) (t.get i) (t.get j):=by
 unfold WS;split
 ·rename_i h1 h2;exact j1m h1 h2
 ·rfl
end
end
theorem Ny{vl wd wl:AV}(a:Rj)(hd:zJ xZ F H vd a.d)(hl:zJ JX F H vl a.l)(gd:zJ xZ G H wd a.d)(gl:zJ JX G H wl a.l)(hlen:a.l.length<=4611686018427387000):
 vR 28 [.agg (YS a vd vl),.agg (YS a wd wl)] H fun w h'=>zM H.n H h'/\w= .lit (.bool true):=by
 refine zW Tryz.func28 rfl rfl ?_
 have o1:=hd.one
 have o2:=hl.one
 have o3:=gd.one
 have o4:=gl.one
 obtain⟨hA,hhA⟩:∃hA,hA=(H.push (.cells (YS a vd vl) 90)).push (.cells (YS a wd wl) 68):=⟨_,rfl⟩
 have eA:zM H.n H hA:=hhA▸((zM.refl _ _).push _ (jM _)).push _ (by rw[zF];omega)
 have XA:hA.at H.n=some (.cells (YS a vd vl) 90):=hhA▸(xE _ (by rw[zF];omega)).trans (zI _ _)
 have ZA:hA.at (H.n+1)=some (.cells (YS a wd wl) 68):=hhA▸zI (H.push _) _
 have hd2:=hd.ext eA (jM _)
 have gd2:=gd.ext eA (jM _)
 have hl2:=hl.ext eA (jM _)
 have gl2:=gl.ext eA (jM _)
 have b1:=hd2.bytesOf
 have b2:=gd2.bytesOf
 unfold YS at XA ZA hhA
 have LX:=xI XA
 have LZ:=xI ZA
 have e1:(a.e==a.e)=true:=by simp
 have e2:((a.v1==a.v1)&&(a.v2==a.v2))=true:=by simp
 have s1:∀{P:Program} {e:TypeId},yS P (binOp .eql e (.string a.s) (.string a.s))=some (.ok (.bool true)):=HJ
 unfold YS
 rcases hd2.bytesRow with⟨rfl,-⟩|⟨b,off,cap,row,rfl,-⟩<;>rcases gd2.bytesRow with⟨rfl,-⟩|⟨b',off',cap',row',rfl,-⟩
 all_goals
  simp only[jN,jB,jC,jE,jF,jG,Tryz.ntmps28,o1,o2,o3,o4,<-hhA,LX,LZ,e1,s1,rN,iM,e2,Wz,b1,b2,sO,HJ]
  refine(nT hl2 gl2 hlen).mono ?_
  rintro _ _ ⟨rfl,q5⟩
  replace q5:=q5.symm
  subst q5
  simp only[jN,jB,jE,jF,reduceCtorEq]
  exact eA
end Go.Proofs.YtcieggahhkoeeaaGreat.Ex
