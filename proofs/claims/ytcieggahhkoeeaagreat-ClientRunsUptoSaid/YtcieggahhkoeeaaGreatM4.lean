/- Part 4 of the proof: Par, May, Mpc, Chk, Ck2, Abs, Open, Opa, Opb, Psm, Om5, Om6, Om7, Om8, Om9, Oms, Psh, On1, On2, On3, On4, On5, On6, On7, On8, Cl1, On9, Clp, Rev, Rtc, Rtp, Tk, Try, Trp, Cpy, Sel, Act, Oba, Opc, Jn, Ivo, Plh, Ka, Lnd, Kv, Kw, Kb. -/
import Derived.Test.YtcieggahhkoeeaaGreatRows
import Derived.ProofKit
import Derived.OpenShut
import Derived.ShutString
import Derived.ChangeOld
import Derived.SizedLaws
import Derived.Test.YtcieggahhkoeeaaGreatM3
open Nat renaming reduceAdd->jB,reduceSub->jC,reduceMul->jD,reduceLT->jE,reduceEqDiff->jF,reduceLeDiff->jG,reduceShiftRight->jH,reduceMod->jI
open Int renaming reduceLE->jJ,reduceLT->jK,reduceToNat->jL
set_option linter.unusedSimpArgs false
set_option linter.unusedVariables false
set_option maxRecDepth 100000
set_option maxHeartbeats 16000000
namespace Go.Proofs.YtcieggahhkoeeaaGreat.Ex
open Go
def Ye(m:zU)(item:Int):Option yL:=m.buckets.find? (fun b=>b.items.contains item)
def Yf(m:zU)(item:Int):yL:=(Ye m item).getD Kk
variable{F:Nat->Prop}{H:AH}{vo vp vb:AV}
theorem wN{m:zU}(item:Int)(hm:vG F H m vo vp vb)(hl:Sm 64 m.buckets)(hbs:∀b∈m.buckets,Sm 8 b.items/\Sm 8 b.weights):
 vR 142 [vS m vo vp vb,.lit (.int .i64 item)] H fun r h'=>zM H.n H h'/\∃va vw,r= .tup [Xq (Yf m item) va vw,.lit (.bool (Ye m item).isSome)]/\zJ qB F h' va (Yf m item).items/\zJ qB F h' vw (Yf m item).weights:=by
 refine zW Tryz.func142 rfl rfl ?_
 unfold Sm at hl
 have s1:=hm.b.isSl
 have s2:=hm.b.lenD
 have o1:=hm.o.one
 have o2:=hm.p.one
 have o3:=hm.b.one
 simp only[jN,seval,Tryz.ntmps142,vS,s1,s2,o1,o2,o3]
 obtain⟨h2,hh2⟩:∃h2,h2=(H.push (.cells [.lit (.int .i64 m.epoch),vo,vp,vb,.lit (.int .i64 m.leaf)] 66)).push (.cells [.lit (.int .i64 0),.lit (.int .i64 0),.lit (.slice none 0 0),.lit (.slice none 0 0)] 122):=⟨_,rfl⟩
 have E0:zM H.n H h2:=hh2▸((zM.refl _ _).push _ (jM _)).push _ (by rw[zF];omega)
 have A0:=QJ hh2
 have n2:h2.n=H.n+2:=by rw[hh2,zF,zF]
 rw[<-hh2]
 clear hh2
 refine kO m.buckets.length (fun i t h=>zM h2.n h2 h/\Ye m item=(m.buckets.drop i).find? (fun b=>b.items.contains item)/\t.n=22/\t.get 1= .lit (.int .i64 item)/\t.get 4= .ptr (H.n+1) 0/\t.get 9=vb/\t.get 10= .lit (.int .i64 m.buckets.length)/\t.get 11= .lit (.int .i64 i)) ?_ ?_ _ _ ?_
 ·rintro i t h hlt hc ⟨he,hf,ga⟩ ih;obtain⟨x,hx⟩:∃x,m.buckets[i]? =some x:=⟨_,jO hlt⟩;have E1:zM H.n H h:=E0.trans (he.mono (by omega));obtain⟨c,hc1,hld,hld0⟩:=hm.b.atE (T:=zH Tryz.prog kR) E1 Qa hx;obtain⟨va,vw,rfl,ha,hw,i1,i2⟩:=Jx.1 hc1;have a1:=ha.one;have w1:=hw.one;have hws:=xG hlt (by omega);rw[Va hx]at hf;have A1:h.at (H.n+1)=some (.cells [.lit (.int .i64 0),.lit (.int .i64 0),.lit (.slice none 0 0),.lit (.slice none 0 0)] 122):=(he.2 _ (by omega)).trans A0;have l1:H.n+1<h.n:=jR A1;obtain⟨k1,k2⟩:=hbs x (zR hx);unfold Sm at k1;simp only[jN,seval,s1,s2,ga,hlt,hc,hld0,a1,w1];have EQ:∀y,zM H.n H (h.push y):=fun y=>E1.push _ E1.1;refine(GC item (ha.ext (EQ _) (jM _)) (by omega)).mono ?_;rintro _ h9 ⟨rfl,rfl⟩;simp only[jN,seval,ga,hws];refine⟨fun hq=> ?_,fun hq=> ?_⟩
  ·rw[if_pos hq]at hf;have hG:Yf m item=x:=by unfold Yf;rw[hf];rfl
   simp only[jN,seval,ga,a1,w1,A1,l1];have EF:zM H.n H ((h.put (H.n+1) (.cells [.lit (.int .i64 x.id),.lit (.int .i64 x.kind),va,vw] 122)).push (.cells [.lit (.int .i64 x.id),.lit (.int .i64 x.kind),va,vw] 122)):=(E1.put _ (by omega)).push _ (by rw[kZ];omega);rw[hG,hf];exact⟨EF,va,vw,rfl,ha.ext EF (jM _),hw.ext EF (jM _)⟩
  ·rw[if_neg (by rw[hq];decide)]at hf;refine ih _ _ ⟨he.push _ he.1,hf,?_⟩;simp only[jN,seval,ga]
 ·rintro t h hc ⟨he,hf,ga⟩;have A1:h.at (H.n+1)=some (.cells [.lit (.int .i64 0),.lit (.int .i64 0),.lit (.slice none 0 0),.lit (.slice none 0 0)] 122):=(he.2 _ (by omega)).trans A0;have l1:H.n+1<h.n:=jR A1;have E1:zM H.n H h:=E0.trans (he.mono (by omega));have hf:Ye m item=none:=by rw[hf,Zh];rfl
  have hG:Yf m item=Kk:=by unfold Yf;rw[hf];rfl
  simp only[jN,seval,s1,s2,ga,hc,A1,l1,sD,Kw];rw[hG,hf];exact⟨E1.put _ (by omega),_,_,rfl,zJ.nil,zJ.nil⟩
 ·refine⟨zM.refl _ _,rfl,?_⟩;simp only[jN,seval];try((repeat' apply And.intro)<;>first|rfl|trivial)
def Pb(m:zU)(b:yL)(id:Int):Bool:=if 0<=id then decide (id<8)else(kU m id).isSome&&decide ((qN m id).kind<b.kind)
theorem j6t{m:zU}{va vw:AV}{b:yL}(id:Int)(hm:vG F H m vo vp vb)(hl:Sm 64 m.buckets)(hbs:∀b∈m.buckets,Sm 8 b.items/\Sm 8 b.weights)(hva:va.one=true)(hvw:vw.one=true):
 vR 127 [vS m vo vp vb,Xq b va vw,.lit (.int .i64 id)] H fun r h'=>zM H.n H h'/\r= .lit (.bool (Pb m b id)):=by
 refine zW Tryz.func127 rfl rfl ?_
 have o1:=hm.o.one
 have o2:=hm.p.one
 have o3:=hm.b.one
 simp only[jN,seval,Tryz.ntmps127,vS,Xq,o1,o2,o3,hva,hvw]
 obtain⟨h1,hh1⟩:∃h1,h1=(H.push (.cells [.lit (.int .i64 m.epoch),vo,vp,vb,.lit (.int .i64 m.leaf)] 66)).push (.cells [.lit (.int .i64 b.id),.lit (.int .i64 b.kind),va,vw] 122):=⟨_,rfl⟩
 have E1:zM H.n H h1:=hh1▸((zM.refl _ _).push _ (jM _)).push _ (by rw[zF];omega)
 have n1:h1.n=H.n+2:=by rw[hh1,zF,zF]
 have A1:h1.at (H.n+1)=some (.cells [.lit (.int .i64 b.id),.lit (.int .i64 b.kind),va,vw] 122):=by rw[hh1];have:=zI (H.push (.cells [.lit (.int .i64 m.epoch),vo,vp,vb,.lit (.int .i64 m.leaf)] 66)) (.cells [.lit (.int .i64 b.id),.lit (.int .i64 b.kind),va,vw] 122);rw[zF]at this;exact this
 try rw[<-hh1]
 clear hh1
 by_cases h0:0<=id
 ·simp only[jN,seval,h0];refine⟨E1,?_⟩;unfold Pb;rw[if_pos h0]
 ·simp only[jN,seval,h0];refine(Iz id (hm.ext E1 (jM _)) hl hbs).mono ?_;rintro _ h2 ⟨e2,v1,v2,rfl,b1,b2⟩;have o4:=b1.one;have o5:=b2.one;have E2:=E1.step e2;have A2:=(e2.2 _ (by omega)).trans A1;have l2:=jR A2;simp only[jN,seval,Xq,o4,o5];obtain⟨h3,hh3,e3,B3⟩:=xX h2 (.cells [.lit (.int .i64 (qN m id).id),.lit (.int .i64 (qN m id).kind),v1,v2] 122);rw[<-hh3];clear hh3;have E3:=E2.step e3;have A3:=(e3.2 _ l2).trans A2;have LA3:=xI A3;have LB3:=xI B3;cases hb:(kU m id).isSome with
  |false=>
   simp only[jN,seval];refine⟨E3,?_⟩;unfold Pb;rw[if_neg h0,hb];rfl
  |true=>
   simp only[jN,seval,LA3,LB3];refine⟨E3,?_⟩;unfold Pb;rw[if_neg h0,hb];rfl
variable{x:AV}
section
def Bq(es:List AE)(ks:List Int):Prop:=es.map (fun e=>(e.key,e.val))=ks.map (fun k=>(.int .i64 k,.lit (.int .i64 1)))
theorem UW(d:Int):∀(ks:List Int) (es:List AE) (i:Nat),Bq es ks->(d ∉ ks->Uf (.int .i64) (.int .i64 d) es i=some none)/\(d∈ks->∃j,j<es.length/\Uf (.int .i64) (.int .i64 d) es i=some (some (i+j,.lit (.int .i64 1)))/\∀x,Uf (.int .i64) (.int .i64 d) (es.modify j fun e=>{e with key:= .int .i64 d,val:=x}) i=some (some (i+j,x)))
 |[],es,i,h=>by
  have:es=[]:=by unfold Bq at h;simpa using h
  subst this;exact⟨fun _=>rfl,fun h=>by cases h⟩
 |k::ks,es,i,h=>by
  cases es with
  |nil=>unfold Bq at h;simp at h
  |cons e es=>
  unfold Bq at h;simp only[kY,List.cons.injEq,jV]at h;obtain⟨⟨h1,h2⟩,h3⟩:=h;obtain⟨r1,r2⟩:=UW d ks es (i+1) h3;have hs:Instr.sameNow (.int .i64) (.int .i64 d) e.key=some (d==k):=by rw[h1];rfl
  have hd:Instr.sameNow (.int .i64) (.int .i64 d) (.int .i64 d)=some (d==d):=rfl;by_cases hk:d=k
  ·subst hk;refine⟨fun hn=>absurd (Ig ..) hn,fun _=>⟨0,by simp,?_,fun x=> ?_⟩⟩
   ·unfold Uf;rw[hs,beq_self_eq_true,h2];rfl
   ·simp only[List.modify_zero_cons];unfold Uf;simp only[hd,beq_self_eq_true];rfl
  ·have hkb:(d==k)=false:=by simpa using hk
   refine⟨fun hn=> ?_,fun hm=> ?_⟩
   ·unfold Uf;rw[hs,hkb];exact r1 (fun hh=>hn (List.mem_cons_of_mem _ hh))
   ·obtain⟨j,hj,q1,q2⟩:=r2 (by rcases List.mem_cons.1 hm with h|h;exact absurd h hk;exact h);refine⟨j+1,by simpa using hj,?_,fun x=> ?_⟩
    ·unfold Uf;rw[hs,hkb];simp only;rw[q1];congr 3;omega
    ·rw[List.modify_succ_cons];unfold Uf;rw[hs,hkb];simp only;rw[q2 x];congr 3;omega
theorem Bq.snoc{es:List AE}{ks:List Int}{k:Int}{c:Nat}(h:Bq es ks):Bq (es++[{key:= .int .i64 k,val:= .lit (.int .i64 1),born:=c}]) (ks++[k]):=by unfold Bq at *;rw[QD,QD,h];rfl
section
variable {P:Program} {T:TT} {t:TM} {h:AH} {d:Option Tmp} {ty e:TypeId} {ps:String} {af:Array Edge} {g:Option (Nat×Bool)}
theorem j5Y:Js P T ⟨d,.makeMap e none,ty,ps,af,g⟩ t h=some (.val (.mp h.n),h.push (.map [] 0)):=rfl
theorem rQ{m k:Operand}{ok:Bool}:Js P T ⟨d,.lookup e m k ok,ty,ps,af,g⟩ t h=Ks T t h e m k ok:=rfl
theorem rR{m k x:Operand}:Js P T ⟨d,.mapUpdate e m k x,ty,ps,af,g⟩ t h=VY T t h e m k x:=rfl
end
section
variable {T:TT} {t kt et:TypeId} {h:AH} {b:Nat} {es:List AE} {c:Nat} {ks:List Int} {d:Int}
theorem UX(hu:und T t=some (.map kt et))(hi:und T kt=some (.int .i64)):FQ T t (.int .i64 d) es=Uf (.int .i64) (.int .i64 d) es 0:=by
 unfold FQ;rw[hu];simp only;unfold und at hi;cases hT:T kt with
 |none=>rw[hT]at hi;cases hi
 |some i=>
  rw[hT]at hi;simp only[qD,jP]at hi;simp only[hi];rfl
theorem uF(hu:und T t=some (.map kt et))(hi:und T kt=some (.int .i64))(hz:Jm T et=some (.lit (.int .i64 0)))(hb:h.at b=some (.map es c))(ho:Bq es ks)(hd:d ∉ ks):
 Vm T h t (.mp b) (.lit (.int .i64 d)) false=some (.lit (.int .i64 0)):=by
 unfold Vm
 simp only[AW,Sj,hb,ND,hu,UX hu hi,(UW d ks es 0 ho).1 hd,hz]
 rfl
theorem SO(hu:und T t=some (.map kt et))(hi:und T kt=some (.int .i64))(hz:Jm T et=some (.lit (.int .i64 0)))(hb:h.at b=some (.map es c))(ho:Bq es ks)(hd:d∈ks):
 Vm T h t (.mp b) (.lit (.int .i64 d)) false=some (.lit (.int .i64 1)):=by
 obtain⟨j,hj,q1,q2⟩:=(UW d ks es 0 ho).2 hd
 unfold Vm
 simp only[AW,Sj,hb,ND,hu,UX hu hi,q1,hz]
 rfl
theorem j33(hu:und T t=some (.map kt et))(hi:und T kt=some (.int .i64))(hb:h.at b=some (.map es c))(ho:Bq es ks)(hd:d ∉ ks):
 GY T h t (.mp b) (.lit (.int .i64 d)) x=some (h.put b (.map (es++[{key:= .int .i64 d,val:=x,born:=c}]) (c+1))):=by
 unfold GY
 simp only[AW,hb,UX hu hi,(UW d ks es 0 ho).1 hd]
theorem j34(hu:und T t=some (.map kt et))(hi:und T kt=some (.int .i64))(hz:Jm T et=some (.lit (.int .i64 0)))(hb:h.at b=some (.map es c))(ho:Bq es ks)(hd:d∈ks):
 ∃es',GY T h t (.mp b) (.lit (.int .i64 d)) x=some (h.put b (.map es' c))/\∀h',h'.at b=some (.map es' c)->Vm T h' t (.mp b) (.lit (.int .i64 d)) false=some x:=by
 obtain⟨j,hj,q1,q2⟩:=(UW d ks es 0 ho).2 hd
 refine⟨es.modify (0+j) fun e=>{e with key:= .int .i64 d,val:=x},?_,fun h' hb'=> ?_⟩
 ·unfold GY;simp only[AW,hb,UX hu hi,q1]
 ·unfold Vm;rw[yG]at hb';simp only[AW,Sj,hb',ND,hu,UX hu hi,q2 x,hz];rfl
theorem uG{cc:Nat}(hu:und T t=some (.map kt et))(hi:und T kt=some (.int .i64))(hz:Jm T et=some (.lit (.int .i64 0)))(ho:Bq es ks)(hb:h.at b=some (.map (es++[{key:= .int .i64 d,val:= .lit (.int .i64 1),born:=c}]) cc)):
 Vm T h t (.mp b) (.lit (.int .i64 d)) false=some (.lit (.int .i64 1)):=
 SO hu hi hz hb ho.snoc (List.mem_append.2 (.inr (Ig ..)))
end
end
def Le(m:zU)(its:List Int)(b:yL)(k:Nat):Bool:= !((its++b.items.take k).contains (b.items.getD k 0))&&Pb m b (b.items.getD k 0)&&fM (b.weights.getD k 0)
def bC(m:zU)(i:Nat)(b:yL):Bool:=KM m i b&&(List.range b.items.length).all (Le m (XV m i) b)
def Ys(m:zU):Bool:=decide (0<=m.leaf)&&decide (m.leaf<=3)&&(List.range m.buckets.length).all (fun i=>bC m i (m.buckets.getD i Kk))
variable{m:zU}{i:Nat}
theorem RR{x:yL}(hx:m.buckets[i]? =some x)(h:bC m i x=false):Ys m=false:=by unfold Ys;rw[Jq (i:=i) (List.getElem?_eq_some_iff.1 hx).1 (by simp only[Vl hx];exact h),Jl]
def Sl(m:zU):Int:=if Ys m then 0 else 22
theorem OT(hm:vG F H m vo vp vb)(hok:OC m):
 vR 104 [vS m vo vp vb] H fun r h'=>zM H.n H h'/\r= .lit (.int .i64 (Sl m)):=by
 refine zW Tryz.func104 rfl rfl ?_
 obtain⟨hl,hbs,hit⟩:=hok
 have hl0:=hl
 unfold Sm at hl
 have s1:=hm.b.isSl
 have s2:=hm.b.lenD
 have o1:=hm.o.one
 have o2:=hm.p.one
 have o3:=hm.b.one
 have hcap:KN 4 vb:=by obtain⟨L,-,-,hc,-⟩:=hm.b.out;exact hc
 have EP:∀x,zM H.n H (H.push x):=fun x=>(zM.refl _ _).push _ (jM _)
 have hbad0:∀h',zM H.n H h'->Ys m=false->zM H.n H h'/\AV.lit (.int .i64 22)= .lit (.int .i64 (Sl m)):=fun h' e hf=>⟨e,by unfold Sl;rw[hf];rfl⟩
 simp only[jN,jB,jC,jE,jF,Tryz.ntmps104,vS,o1,o2,o3]
 by_cases hl1:m.leaf<0
 ·simp only[jN,jB,jE,jF,reduceCtorEq,hl1];refine hbad0 _ (EP _) ?_;unfold Ys;rw[decide_eq_false (show ¬0<=m.leaf by omega)];rfl
 by_cases hl2:3<m.leaf
 ·simp only[jN,jB,jE,jF,reduceCtorEq,hl1,hl2];refine hbad0 _ (EP _) ?_;unfold Ys;rw[decide_eq_false (show ¬m.leaf<=3 by omega),Jl];rfl
 have hg0:Ys m=(List.range m.buckets.length).all (fun i=>bC m i (m.buckets.getD i Kk)):=by unfold Ys;rw[decide_eq_true (show 0<=m.leaf by omega),decide_eq_true (show m.leaf<=3 by omega)];rfl
 simp only[jN,jB,jE,jF,reduceCtorEq,j5Y,hl1,hl2,s1,s2]
 obtain⟨h1,hh1⟩:∃h1,h1=(H.push (.cells [.lit (.int .i64 m.epoch),vo,vp,vb,.lit (.int .i64 m.leaf)] 66)).push (.map [] 0):=⟨_,rfl⟩
 have E0:zM H.n H h1:=hh1▸(EP _).push _ (by rw[zF];omega)
 have A0:h1.at H.n=some (.cells [.lit (.int .i64 m.epoch),vo,vp,vb,.lit (.int .i64 m.leaf)] 66):=by rw[hh1,xE _ (by rw[zF];omega)];exact zI _ _
 have M0:h1.at (H.n+1)=some (.map [] 0):=by rw[hh1];have:=zI (H.push (.cells [.lit (.int .i64 m.epoch),vo,vp,vb,.lit (.int .i64 m.leaf)] 66)) (.map [] 0);rw[zF]at this;exact this
 rw[<-hh1]
 clear hh1
 refine kO m.buckets.length (fun i t h=>∃es c,h.at (H.n+1)=some (.map es c)/\Bq es (XV m i)/\zM H.n H h/\h.at H.n=some (.cells [.lit (.int .i64 m.epoch),vo,vp,vb,.lit (.int .i64 m.leaf)] 66)/\(List.range i).all (fun i=>bC m i (m.buckets.getD i Kk))=true/\t.n=105/\t.get 1= .ptr H.n 0/\t.get 3= .mp (H.n+1)/\t.get 20=vb/\t.get 21= .lit (.int .i64 m.buckets.length)/\t.get 22= .lit (.int .i64 i)) ?_ ?_ _ _ ?_
 ·rintro i t h hlt hc ⟨es,cl,M1,ho,E1,A1,hall,ga⟩ ih;obtain⟨x,hx⟩:∃x,m.buckets[i]? =some x:=⟨_,jO hlt⟩;obtain⟨c,hc1,hld,hld0⟩:=hm.b.atE (T:=zH Tryz.prog kR) E1 Qa hx;obtain⟨va,vw,rfl,ha,hw,i1,i2⟩:=Jx.1 hc1;obtain⟨k1,k2⟩:=hbs x (zR hx);unfold Sm at k1 k2;have a1:=ha.one;have w1:=hw.one;have a2:=ha.isSl;have w2:=hw.isSl;have a3:=ha.lenD;have w3:=hw.lenD;have hws:=xG hlt (by omega);have l1:H.n<h.n:=jR A1;have lm:H.n+1<h.n:=jR M1;have hno:i<=m.buckets.length:=by omega
  have hno2:(i:Int)<=(m.buckets.length:Int):=by omega
  have hsub:zJ Vq F H (Gj 4 0 i vb) (m.buckets.take i):=by have:=hm.b.sub (l:=0) (r:=i) (by omega) hno;rw[xK]at this;exact this
  have s3:=hsub.isSl;have s4:lenD (Gj 4 0 i vb)=i:=by rw[hsub.lenD,zV];omega
  have hbk:bC m i x=(KM m i x&&(List.range x.items.length).all (Le m (XV m i) x)):=rfl;have hbad:∀h',zM H.n H h'->bC m i x=false->zM H.n H h'/\AV.lit (.int .i64 22)= .lit (.int .i64 (Sl m)):=fun h' e hf=>hbad0 _ e (RR hx hf);obtain⟨hA,hhA⟩:∃hA,hA=h.push (.cells [.lit (.int .i64 x.id),.lit (.int .i64 x.kind),va,vw] 122):=⟨_,rfl⟩;have EA:=ZS hhA;have PA:hA.at h.n=some (.cells [.lit (.int .i64 x.id),.lit (.int .i64 x.kind),va,vw] 122):=hhA▸zI h _;have AA:=(EA.2 _ l1).trans A1;have LAA:=xI AA;have lA:=jR AA;have LPA:=xI PA;have lPA:=jR PA;have EHA:=E1.step EA;by_cases c1:0<=x.id
  ·simp only[jN,jB,jE,jF,reduceCtorEq,jG,s1,s2,ga,hlt,hc,hld0,a1,w1,<-hhA,LPA,c1];refine hbad _ EHA ?_;rw[hbk];unfold KM;rw[decide_eq_false (show ¬x.id<0 by omega)];simp
  by_cases c2:x.kind<1
  ·simp only[jN,jB,jE,jF,reduceCtorEq,jG,s1,s2,ga,hlt,hc,hld0,a1,w1,<-hhA,LPA,c1,c2];refine hbad _ EHA ?_;rw[hbk];unfold KM;rw[decide_eq_false (show ¬1<=x.kind by omega)];simp
  by_cases c3:3<x.kind
  ·simp only[jN,jB,jE,jF,reduceCtorEq,jG,s1,s2,ga,hlt,hc,hld0,a1,w1,<-hhA,LPA,c1,c2,c3];refine hbad _ EHA ?_;rw[hbk];unfold KM;rw[decide_eq_false (show ¬x.kind<=3 by omega)];simp
  simp only[jN,jB,jE,jF,reduceCtorEq,jG,s1,s2,ga,hlt,hc,hld0,a1,w1,<-hhA,LPA,c1,c2,c3,a2,w2,a3,w3];refine⟨fun hq=> ?_,fun hq=> ?_⟩
  ·refine hbad _ EHA ?_;rw[hbk];unfold KM;have:¬x.items.length=x.weights.length:=by simp at hq;omega
   simp[this]
  have hlen:x.items.length=x.weights.length:=by simp at hq;omega
  simp only[jN,jE,jF,jJ,s1,s2,ga,LAA,hcap,hno2,s3,s4];have MA:hA.at (H.n+1)=some (.map es cl):=(EA.2 _ lm).trans M1;refine kO i (fun j t h'=>zM hA.n hA h'/\(m.buckets.take j).any (fun c=>c.id==x.id)=false/\t.n=105/\t.get 1= .ptr H.n 0/\t.get 3= .mp (H.n+1)/\t.get 4= .lit (.int .i64 i)/\t.get 5= .ptr h.n 0/\t.get 20=vb/\t.get 21= .lit (.int .i64 m.buckets.length)/\t.get 22= .lit (.int .i64 i)/\t.get 52=Gj 4 0 i vb/\t.get 53= .lit (.int .i64 i)/\t.get 54= .lit (.int .i64 j)) ?_ ?_ _ _ ?_
  ·rintro j t h' hj hc ⟨he2,hany,gb⟩ ih2;have hjl:j<m.buckets.length:=by omega
   obtain⟨y,hy⟩:∃y,m.buckets[j]? =some y:=⟨_,jO hjl⟩;have hy2:(m.buckets.take i)[j]? =some y:=by rw[qH,if_pos hj,hy]
   have E2:zM H.n H h':=EHA.step he2;obtain⟨c,hc1,hld,hld0⟩:=hsub.atE (T:=zH Tryz.prog kR) E2 Qa hy2;obtain⟨ya,yw,rfl,ya1,yw1,-,-⟩:=Jx.1 hc1;have y1:=ya1.one;have y2:=yw1.one;have hws:=xG hj (by omega);have P2:=(he2.2 _ lPA).trans PA;have LP2:=xI P2;have l2:h.n<h'.n:=jR P2;simp only[jN,jB,jE,jF,reduceCtorEq,jG,s3,s4,gb,hj,hc,hld0,hws,y1,y2,LP2,l2];refine⟨fun hq=> ?_,fun hq=> ?_⟩
   ·refine hbad _ (E2.push _ E2.1) ?_;rw[hbk];unfold KM;rw[Ag hy2 hq];rfl
   ·refine ih2 _ _ ⟨he2.push _ he2.1,?_,?_⟩
    ·rw[Cj hy,hany];simpa using hq
    ·simp only[jN,jE,jF,gb]
  ·rintro t h' hc ⟨he2,hany,gb⟩;have E2:zM H.n H h':=EHA.step he2;have P2:=(he2.2 _ lPA).trans PA;have LP2:=xI P2;have l2:h.n<h'.n:=jR P2;have A2:=(he2.2 _ lA).trans AA;have M2:=(he2.2 _ (jR MA)).trans MA;have hhd:KM m i x=true:=by unfold KM;rw[hany,decide_eq_true (show x.id<0 by omega),decide_eq_true (show 1<=x.kind by omega),decide_eq_true (show x.kind<=3 by omega)];simp[hlen]
   rw[hhd,ZU]at hbk;simp only[jN,jB,jE,jF,reduceCtorEq,s3,s4,gb,hc,LP2,a2,a3];refine kO x.items.length (fun k t h3=>∃es c,h3.at (H.n+1)=some (.map es c)/\Bq es (XV m i++x.items.take k)/\zM H.n H h3/\h3.at H.n=some (.cells [.lit (.int .i64 m.epoch),vo,vp,vb,.lit (.int .i64 m.leaf)] 66)/\h3.at h.n=some (.cells [.lit (.int .i64 x.id),.lit (.int .i64 x.kind),va,vw] 122)/\(List.range k).all (Le m (XV m i) x)=true/\t.n=105/\t.get 1= .ptr H.n 0/\t.get 3= .mp (H.n+1)/\t.get 5= .ptr h.n 0/\t.get 20=vb/\t.get 21= .lit (.int .i64 m.buckets.length)/\t.get 22= .lit (.int .i64 i)/\t.get 65=va/\t.get 66= .lit (.int .i64 x.items.length)/\t.get 67= .lit (.int .i64 k)) ?_ ?_ _ _ ?_
   ·rintro k t h3 hk hc ⟨es,cl,M3,ho3,E3,A3,P3,hkall,gc⟩ ih4;have hlda:=(ha.ext E3 (jM _)).int (T:=zH Tryz.prog kR) (e:=3) (by kernel_rfl) (by kernel_rfl) hk;have hws:=xG hk (by omega);have lm3:=jR M3;obtain⟨d,hd⟩:∃d,d=x.items.getD k 0:=⟨_,rfl⟩;have hu:und (zH Tryz.prog kR) 219=some (.map 3 3):=by kernel_rfl
    have hi:und (zH Tryz.prog kR) 3=some (.int .i64):=by kernel_rfl
    have hz:Jm (zH Tryz.prog kR) 3=some (.lit (.int .i64 0)):=by kernel_rfl
    have w01:IntKind.i64.wrap (0+1)=1:=by decide
    have w11:IntKind.i64.wrap (1+1)=2:=by decide
    rw[<-hd]at hlda;by_cases hmem:d∈XV m i++x.items.take k
    ·have hL:=SO hu hi hz M3 ho3 hmem;obtain⟨es',hU,hL2⟩:=j34 (x:= .lit (.int .i64 2)) hu hi hz M3 ho3 hmem;obtain⟨h4,hh4⟩:∃h4,h4=h3.put (H.n+1) (.map es' cl):=⟨_,rfl⟩;have E4:zM H.n H h4:=hh4▸E3.put _ (by omega);have hL4:=hL2 h4 (by rw[hh4];exact qJ _ lm3);rw[<-hh4]at hU;simp only[jN,jB,jE,jF,reduceCtorEq,jK,gc,hc,hk,hlda,a2,a3,rQ,Ks,rR,VY,hL,hU,hL4,w11];refine hbad _ E4 ?_;rw[hbk,Jq hk ?_];unfold Le;rw[<-hd,List.contains_iff_mem.2 hmem];rfl
    have hL:=uF hu hi hz M3 ho3 hmem;have hU:=j33 (x:= .lit (.int .i64 1)) hu hi M3 ho3 hmem;obtain⟨h4,hh4⟩:∃h4,h4=h3.put (H.n+1) (.map (es++[{key:= .int .i64 d,val:= .lit (.int .i64 1),born:=cl}]) (cl+1)):=⟨_,rfl⟩;have E4:zM H.n H h4:=hh4▸E3.put _ (by omega);have M4:h4.at (H.n+1)=some (.map (es++[{key:= .int .i64 d,val:= .lit (.int .i64 1),born:=cl}]) (cl+1)):=by rw[hh4];exact qJ _ lm3
    have hL4:=uG hu hi hz ho3 M4;rw[<-hh4]at hU;have hne:H.n+1≠h.n:=by omega
    have A4:=A3;rw[<-zE (.map (es++[{key:= .int .i64 d,val:= .lit (.int .i64 1),born:=cl}]) (cl+1)) (show H.n+1≠H.n by omega),<-hh4]at A4;have P4:=P3;rw[<-zE (.map (es++[{key:= .int .i64 d,val:= .lit (.int .i64 1),born:=cl}]) (cl+1)) hne,<-hh4]at P4;have l4:=jR A4;have lp4:=jR P4;have LA4:=xI A4;have LP4:=xI P4;simp only[jN,jB,jE,jF,reduceCtorEq,jG,jK,gc,hc,hk,hlda,a2,a3,rQ,Ks,rR,VY,hL,hU,hL4,w01,LA4,LP4];refine(j6t (b:=x) d (hm.ext E4 (jM _)) hl0 hbs a1 w1).mono ?_;rintro _ h5 ⟨e5,rfl⟩;have E5:=E4.step e5;have A5:=(e5.2 _ l4).trans A4;have P5:=(e5.2 _ lp4).trans P4;have M5:=(e5.2 _ (jR M4)).trans M4;have LP5:=xI P5;have hcon:(XV m i++x.items.take k).contains d=false:=by
     cases hcc:(XV m i++x.items.take k).contains d with
     |false=>rfl
     |true=>exact absurd (List.contains_iff_mem.1 hcc) hmem
    have hit:Le m (XV m i) x k=(Pb m x d&&fM (x.weights.getD k 0)):=by unfold Le;rw[<-hd,hcon];rfl
    cases hfit:Pb m x d with
    |false=>
     simp only[jN,jB,jE,jF,reduceCtorEq,gc];refine hbad _ E5 ?_;rw[hbk,Jq hk (by rw[hit,hfit];rfl)]
    |true=>
    rw[hfit,ZU]at hit;have hkw:k<x.weights.length:=by omega
    have hldw:=(hw.ext E5 (jM _)).int (T:=zH Tryz.prog kR) (e:=3) (by kernel_rfl) (by kernel_rfl) hkw;by_cases d1:x.weights.getD k 0<0
    ·simp only[jN,jB,jE,jF,reduceCtorEq,gc,LP5,w2,w3,hkw,hldw,d1];refine hbad _ E5 ?_;rw[hbk,Jq hk (by rw[hit];unfold fM;rw[decide_eq_false (by omega)];rfl)]
    by_cases d2:1048576<x.weights.getD k 0
    ·simp only[jN,jB,jE,jF,reduceCtorEq,gc,LP5,w2,w3,hkw,hldw,d1,d2];refine hbad _ E5 ?_;rw[hbk,Jq hk (by rw[hit];unfold fM;rw[decide_eq_false (show ¬x.weights.getD k 0<=1048576 by omega),Jl])]
    simp only[jN,jB,jE,jF,reduceCtorEq,gc,LP5,w2,w3,hkw,hldw,d1,d2,hws];refine ih4 _ _ ⟨_,_,M5,?_,E5,A5,P5,?_,?_⟩
    ·rw[qV,Ji 0 hk,<-hd];simpa using ho3.snoc (k:=d)
    ·rw[Xj,hkall,hit];unfold fM;rw[decide_eq_true (show 0<=x.weights.getD k 0 by omega),decide_eq_true (show x.weights.getD k 0<=1048576 by omega)];rfl
    ·simp only[jN,jE,jF,gc]
   ·rintro t h3 hc ⟨es,cl,M3,ho3,E3,A3,P3,hkall,gc⟩;rw[xC]at ho3;simp only[jN,jB,jE,jF,reduceCtorEq,gc,hc,hws];refine ih _ _ ⟨es,cl,M3,?_,E3,A3,?_,?_⟩
    ·rw[BL hx];exact ho3
    ·rw[Xj,hall,Vl hx,hbk,hkall];rfl
    ·simp only[jN,jE,jF,gc]
   ·refine⟨_,_,M2,?_,E2,A2,P2,rfl,?_⟩
    ·rw[qA,kH];exact ho
    ·simp only[jN,jE,jF,gb];(repeat' apply And.intro)<;>first|rfl|trivial
  ·simp only[jN,jE,jF,ga];refine⟨zM.refl _ _,rfl,?_⟩;(repeat' apply And.intro)<;>first|rfl|trivial
 ·rintro t h hc ⟨es,cl,M1,ho,E1,A1,hall,ga⟩;simp only[jN,jB,jE,jF,reduceCtorEq,s1,s2,ga,hc];exact⟨E1,by unfold Sl;rw[hg0,hall];rfl⟩
 ·refine⟨_,_,M0,rfl,E0,A0,rfl,?_⟩;simp only[jN,jB,jE,jF];(repeat' apply And.intro)<;>first|rfl|trivial
theorem j7l{l:List Int}:l.all fM=(List.range l.length).all (fun k=>fM (l.getD k 0)):=by
 apply Bool.eq_iff_iff.2;rw[qG,qG];constructor
 ·intro h k hk;exact h _ (zR (Ji 0 (List.mem_range.1 hk)))
 ·intro h y hy;obtain⟨j,hj,hjb⟩:=List.mem_iff_getElem.1 hy;have:=h j (List.mem_range.2 hj);rw[jU,jO hj,hjb]at this;exact this
variable{b:yL}
theorem tI{m:zU}{d:Int}(hk:∀c∈m.buckets,1<=c.kind)(hb:1<=b.kind):Pb m b d=(decide (0<=yY m d)&&decide (yY m d<b.kind)):=by
 unfold Pb yY;by_cases h0:0<=d
 ·rw[if_pos h0,if_pos h0];by_cases h8:d<8
  ·rw[if_pos h8,decide_eq_true h8,decide_eq_true (show(0:Int)<b.kind by omega)];rfl
  ·rw[if_neg h8,decide_eq_false h8];rfl
 ·rw[if_neg h0,if_neg h0];unfold qN;cases hf:kU m d with
  |none=>rfl
  |some c=>
   have:=hk c (ZG hf);simp only[Option.isSome_some,if_true,Jn,ZU];rw[decide_eq_true (show 0<=c.kind by omega),ZU]
theorem dX(h:KM m i b=true):1<=b.kind/\b.items.length=b.weights.length:=by unfold KM at h;simp only[jW,decide_eq_true_eq,beq_iff_eq]at h;exact⟨h.1.1.2,h.2⟩
theorem sC{m:zU}(hk:∀c∈m.buckets,1<=c.kind)(h:KM m i b=true):bC m i b=OM m i b:=by
 obtain⟨h1,h2⟩:=dX h;unfold bC OM;rw[h,j7l,<-h2];apply Bool.eq_iff_iff.2;simp only[ZU,jW,qG,yB];unfold Le Kx;simp only[tI hk h1,jW];constructor
 ·intro h;exact⟨fun k hk=>(h k hk).2,fun k hk=>⟨(h k hk).1.2,(h k hk).1.1⟩⟩
 ·intro h k hk;exact⟨⟨(h.2 k hk).2,(h.2 k hk).1⟩,h.1 k hk⟩
theorem RF{m:zU}{p:Nat->yL->Bool}(hp:∀i b,p i b=true->KM m i b=true)(h:(List.range m.buckets.length).all (fun i=>p i (m.buckets.getD i Kk))=true):(∀c∈m.buckets,1<=c.kind)/\∀i,i<m.buckets.length->KM m i (m.buckets.getD i Kk)=true:=by have h2:∀i,i<m.buckets.length->KM m i (m.buckets.getD i Kk)=true:=fun i hi=>hp _ _ (List.all_eq_true.1 h i (List.mem_range.2 hi));refine⟨fun c hc=> ?_,h2⟩;obtain⟨j,hj,hjb⟩:=List.mem_iff_getElem.1 hc;have:=(dX (h2 j hj)).1;rw[jU,jO hj,hjb]at this;exact this
theorem IE(m:zU):Ys m=vX m:=by
 unfold Ys vX;congr 1;apply Bool.eq_iff_iff.2;constructor
 ·intro h;obtain⟨h1,h2⟩:=RF (p:=bC m) (fun i b hb=>by unfold bC at hb;simp only[jW]at hb;exact hb.1) h;rw[qG]at *;intro i hi;rw[<-sC h1 (h2 i (List.mem_range.1 hi))];exact h i hi
 ·intro h;obtain⟨h1,h2⟩:=RF (p:=OM m) (fun i b hb=>by unfold OM at hb;simp only[jW]at hb;exact hb.1.1) h;rw[qG]at *;intro i hi;rw[sC h1 (h2 i (List.mem_range.1 hi))];exact h i hi
theorem j1Y(hm:vG F H m vo vp vb)(hok:OC m):
 vR 131 [vS m vo vp vb] H fun r h'=>zM H.n H h'/\r= .lit (.bool (vX m)):=by
 refine zW Tryz.func131 rfl rfl ?_
 have o1:=hm.o.one
 have o2:=hm.p.one
 have o3:=hm.b.one
 have EP:∀x,zM H.n H (H.push x):=fun x=>(zM.refl _ _).push _ (jM _)
 simp only[jN,jB,jC,jF,jG,Tryz.ntmps131,vS,o1,o2,o3]
 refine(OT (hm.ext (EP _) (jM _)) hok).mono ?_
 rintro _ h2 ⟨e2,rfl⟩
 rw[<-IE]
 unfold Sl
 cases Ys m with
 |true=>
  simp only[jN,jB,reduceCtorEq];exact⟨(EP _).step e2,rfl⟩
 |false=>
  simp only[jN,jB,reduceCtorEq];exact⟨(EP _).step e2,rfl⟩
def Tz(w:World)(r:Nat):Option (List Value×TypeId):=match w.heap[r]? with
 |some (.cells cur e _)=>some (cur.toList,e)
 |_=>none
variable{w:World}{r:Nat}
theorem TA{l:List Value}{e:TypeId}(h:Tz w r=some (l,e)):∃cur fz,w.heap[r]? =some (.cells cur e fz)/\l=cur.toList:=by
 unfold Tz at h;split at h
 ·rename_i cur e' fz hh;simp only[jP,jV]at h;obtain⟨rfl,rfl⟩:=h;exact⟨cur,fz,hh,rfl⟩
 ·cases h
def MB(w:World)(r:Nat):List (Nat×Nat):=match Tz w r with
 |some (l,_)=>(List.range (l.length+1)).map fun off=>(r,off)
 |none=>[]
def YW(w:World):List (Nat×Nat):=MB w 0++(List.range w.heap.size).flatMap (MB w)
theorem aQ{off r':Nat}(h:(r,off)∈MB w r'):∃l e,Tz w r=some (l,e)/\off<=l.length:=by
 unfold MB at h;split at h
 ·rename_i l e hl;obtain⟨off',h1,h2⟩:=List.mem_map.1 h;simp only[jV]at h2;obtain⟨rfl,rfl⟩:=h2;rw[yB]at h1;exact⟨l,e,hl,by omega⟩
 ·cases h
theorem SQ{off:Nat}:(r,off)∈YW w↔∃l e,Tz w r=some (l,e)/\off<=l.length:=by
 unfold YW;rw[zN,List.mem_flatMap];constructor
 ·rintro(h|⟨r',_,h⟩)<;>exact aQ h
 ·rintro⟨l,e,hl,ho⟩;refine .inr ⟨r,?_,?_⟩
  ·obtain⟨cur,fz,hh,_⟩:=TA hl;rw[yB];exact(Array.getElem?_eq_some_iff.1 hh).1
  ·unfold MB;rw[hl];exact List.mem_map.2 ⟨off,by rw[yB];omega,rfl⟩
def nY(w:World)(p:Nat×Nat):Nat:=(YW w).idxOf p+1
def j3B(w:World):Mu:=fun b=>match b with
 |0=>none
 |k+1=>(YW w)[k]?
variable{p:Nat×Nat}
theorem Ly(h:p∈YW w):j3B w (nY w p)=some p:=by show(YW w)[(YW w).idxOf p]? =some p;have hlt:=List.idxOf_lt_length_of_mem h;rw[jO hlt,List.getElem_idxOf hlt]
instance(w:World)(p:Nat×Nat):Decidable (p∈YW w):=inferInstance
def Ch(w:World):Value->AV
 | .pointer (some ⟨r,o,none⟩)=>if(r,o)∈YW w then .ptr (nY w (r,o)) 0 else .any
 | .slice (some a) len cap=>if len=0/\cap=0 then .sl 0 0 0 (.kn 0)else match a with
   |⟨r,o,none⟩=>if(r,o)∈YW w/\len<=cap/\cap<=maxLen then .sl (nY w (r,o)) 0 len (.kn cap)else .any
   |_=> .any
 |v=>bif CN v then .lit v else .any
variable{ρ:Nat->Value}
theorem Ir{v:Value}(hv:v.oneCell'=true):rel ρ (j3B w) w (Ch w v) v:=by
 unfold Ch;split
 ·rename_i r o;split
  ·rename_i hm;unfold rel;exact⟨r,o,Ly hm,rfl⟩
  ·unfold rel;exact hv
 ·rename_i a len cap;split
  ·rename_i h0;obtain⟨rfl,rfl⟩:=h0;unfold rel;exact .inr ⟨rfl,rfl,a,rfl⟩
  ·split
   ·rename_i r o;split
    ·rename_i hm;unfold rel;exact .inl ⟨r,o,o,cap,Ly hm.1,rfl,.inr rfl,rfl,hm.2.1,hm.2.2⟩
    ·unfold rel;exact hv
   ·unfold rel;exact hv
 ·cases hs:CN v with
  |false=>simp only[cond_false];unfold rel;exact hv
  |true=>simp only[cond_true];exact vN hs
def WE(w:World)(p:Nat×Nat):AB:=match Tz w p.1 with
 |some (l,e)=> .frz (((l.drop p.2).takeWhile (·.oneCell')).map (Ch w)) e
 |none=> .gone
def AH.ofList(l:List AB):AH:=l.foldl AH.push .nil
theorem cS:∀(l:List AB) (h:AH),(l.foldl AH.push h).L=h.L++l
 |[],h=>by simp
 |x::r,h=>by rw[Vp,cS r,Bo,zP];rfl
theorem oY(l:List AB):(AH.ofList l).L=l:=by unfold AH.ofList;rw[cS];rfl
def Et(w:World):AH:=AH.ofList (.frz [] 0::(YW w).map (WE w))
theorem Iq(w:World):(Et w).L= .frz [] 0::(YW w).map (WE w):=oY _
theorem rU(w:World):(Et w).at 0=some (.frz [] 0):=by rw[<-Kn,Iq];rfl
theorem dE(h:p∈YW w):(Et w).at (nY w p)=some (WE w p):=by rw[<-Kn,Iq];have:(YW w)[(YW w).idxOf p]? =some p:=Ly h;show((YW w).map (WE w))[(YW w).idxOf p]? =_;rw[vF,this];rfl
theorem dF{b:Nat}{ab:AB}(h:(Et w).L[b]? =some ab):wr ab=false:=by
 rw[Iq]at h;cases b with
 |zero=>simp at h;subst h;rfl
 |succ k=>
  rw[xQ,vF]at h;obtain⟨p,_,rfl⟩:=Option.map_eq_some_iff.1 h;unfold WE;split<;>rfl
theorem j1t(w:World)(b:Nat)(ab:AB)(h:(Et w).at b=some ab):wr ab=false:=dF (by rw[Kn];exact h)
theorem Bf{α:Type}{p:α->Bool}:∀{l:List α} {i:Nat} {x:α},(l.takeWhile p)[i]? =some x->l[i]? =some x/\p x=true
 |[],i,x,h=>by simp at h
 |a::r,i,x,h=>by
  rw[List.takeWhile_cons]at h;cases ha:p a with
  |false=>rw[ha]at h;simp at h
  |true=>
   rw[ha]at h
   cases i with
   |zero=>simp at h;subst h;exact⟨rfl,ha⟩
   |succ i=>simp only[if_true,xQ]at h ⊢;exact Bf h
theorem Aa{α:Type}{p:α->Bool}:∀{l:List α} {n:Nat},(∀x∈l.take n,p x=true)->(l.takeWhile p).take n=l.take n
 |[],n,_=>by simp
 |a::r,0,_=>by simp
 |a::r,n+1,h=>by rw[List.takeWhile_cons,if_pos (h a (by simp)),Km,Km,Aa fun x hx=>h x (by simp[hx])]
theorem j1s{P:Program}(w:World)(hpin:Rr ρ (j3B w) w:=by intro r h;cases h):HR P ρ w.heap.size (j3B w) (Et w) w:=by
 refine⟨jM _,fun b x hb=> ?_,fun b r base ab hb hx=> ?_,fun b b' r base base' ab ab' h1 h2 h3 h4 h5 h6=> ?_,hpin⟩
 ·rw[Iq];cases b with
  |zero=>cases hb
  |succ k=>
   have:k<(YW w).length:=(List.getElem?_eq_some_iff.1 (show(YW w)[k]? =some x from hb)).1;simp only[xA,yH];omega
 ·cases b with
  |zero=>cases hb
  |succ k=>
   have hk:(YW w)[k]? =some (r,base):=hb;rw[Iq,xQ,vF,hk]at hx;simp only[qD,jP]at hx;obtain⟨l,e,hl,ho⟩:=SQ.1 (zR hk);obtain⟨cur,fz,hh,rfl⟩:=TA hl;unfold WE at hx;rw[hl]at hx;simp only at hx;subst hx;refine⟨fun hw=>(by cases hw),(Array.getElem?_eq_some_iff.1 hh).1,_,hh,cur,fz,rfl,?_,fun i x hi=> ?_⟩
   ·have h1:=(List.takeWhile_prefix (l:=cur.toList.drop base) (·.oneCell')).length_le;rw[kT]at h1;have e0:cur.toList.length=cur.size:=qU;rw[e0]at h1 ho;rw[yH];exact zY (Nat.add_le_add_left h1 base) (by omega)
   ·rw[vF]at hi;obtain⟨v,hv,rfl⟩:=Option.map_eq_some_iff.1 hi;obtain⟨h1,h2⟩:=Bf hv;rw[yA,xN]at h1;exact⟨v,h1,Ir h2⟩
 ·have:=dF h3;rw[this]at h5;cases h5
end Go.Proofs.YtcieggahhkoeeaaGreat.Ex
namespace Go.Proofs.YtcieggahhkoeeaaGreat
section
open Go.RowKit Go.ChangeShapes Go.WideShapes Go.ChangeAt
open Go.ChangeMaps (open_string shut_string)
theorem own:ownKnob Tryz.prog.godebug=none:=by kernel_rfl
theorem laidOut:laidOutB Tryz.prog=true:=by kernel_rfl
section
variable {H:Type} {enc:TypeId×Value->H} {P:Program} {W W':World}
theorem below_trodAll(hl:laidOutB P=true)(hb:Below W.heap.size W W'):∀{ts:List TypeId} {vs:List Value} {ds:List (DataW H)} {ps:List MemPlace},
 ts.all (fun t=>P.readableRec t&&decide (t<P.types.size))=true->DataW.TrodAll enc P W 0 (fun _=>true) true ts vs ds ps->DataW.TrodAll enc P W' 0 (fun b=>decide (b<W.heap.size)) true ts vs ds ps
 |[],_,_,_,_,h=>by obtain⟨rfl,rfl,rfl⟩:=trodAll_nil h;exact trodAll_mk0
 |t::ts,vs,ds,ps,hr,h=>by obtain⟨v,vs',d,ds',p,q,rfl,rfl,rfl,h1,h2⟩:=trodAll_cons h;simp only[Oz,jW,decide_eq_true_eq]at hr;refine trodAll_cons_mk (Below.trod hl hr.1.1 hr.1.2 h1 hb ?_) (below_trodAll hl hb (by simpa using hr.2) h2);obtain⟨m,hm⟩:=h1;exact DataW.trod_lt m _ _ _ hm
theorem weightsAll_mem{e:TypeId}:∀{l:List (DataW H)} {i:Nat} {d:DataW H},l[i]? =some d->∀n∈d.weights P e,n∈DataW.weightsAll P e l
 |d0::l,0,d,h,n,hn=>by simp at h;subst h;simp[DataW.weightsAll,hn]
 |d0::l,i+1,d,h,n,hn=>by simp only[xQ]at h;simp only[DataW.weightsAll,zN];exact .inr (weightsAll_mem h n hn)
end
end
end Go.Proofs.YtcieggahhkoeeaaGreat
namespace Go.Proofs.YtcieggahhkoeeaaGreat.Ex
open Go
variable{by':Nat}{fs:Array Field}
section
open Go Go.RowKit Go.ChangeShapes Go.WideShapes Go.ChangeAt
section
variable {H:Type} (enc:TypeId×Value->H)
def j5B(W:World):Nat->Prop:=fun b=>b<(Et W).n
def Ze(P:Program)(W:World)(t:TypeId){α:Type}(R:Zl α)(B:α->Prop)(μ:α->Nat):Prop:=
 P.cellsOf t=R.z/\∀(fuel:Nat) (cs:List Value) (x:DataW H×List MemPlace),DataW.trod enc P W 0 (fun _=>true) true fuel t cs=some x->(x.1.weights P t).all (·<=reachBytes)=true->
  cs.length=R.z/\(∀c∈cs,c.oneCell'=true)/\∃y,R.is (j5B W) (Et W) (cs.map (Ch W)) y/\B y/\μ y<=Rows.uptoBulk x.1
def JR(P:Program)(W:World)(t:TypeId){α:Type}(R:Zl α)(B:α->Prop):Prop:=Ze enc P W t R B (fun _=>0)
variable {enc} {P:Program} {W:World}
theorem Ze.to{t:TypeId}{α:Type}{R:Zl α}{B B':α->Prop}{μ μ':α->Nat}(h:Ze enc P W t R B μ)(hB:∀y,B y->B' y)(hm:∀y,μ' y<=μ y):Ze enc P W t R B' μ':=by refine⟨h.1,fun fuel cs x hf hw=> ?_⟩;obtain⟨a,b,y,c,d,e⟩:=h.2 fuel cs x hf hw;exact⟨a,b,y,c,hB y d,zY (hm y) e⟩
theorem Ze.toA{t:TypeId}{α:Type}{R:Zl α}{B:α->Prop}{μ:α->Nat}(h:Ze enc P W t R B μ):JR enc P W t R B:=h.to (fun _ h=>h) fun _=>vT _
theorem IA:∀d:DataW H,1<=Rows.uptoBulk d:=by intro d;unfold Rows.uptoBulk;split<;>omega
theorem LJ{t:TypeId}(ht:P.underlying t=some (.int .i64))(hc:P.cellsOf t=1):Ze enc P W t qB (fun _=>True) (fun _=>1):=by refine⟨hc,fun fuel cs x h _=> ?_⟩;obtain⟨n,rfl,rfl,hw⟩:=DataW.trod_int ht h;refine⟨rfl,by simp;rfl,n,⟨rfl,?_⟩,trivial,IA _⟩;simp only[Lit.wf,IntKind.min,IntKind.max,IntKind.signed,IntKind.bits]at hw;simp at hw;exact⟨hw.1,by omega⟩
theorem xR{t:TypeId}(ht:P.underlying t=some (.int .i64))(hc:P.cellsOf t=1):JR enc P W t qB (fun _=>True):=(LJ ht hc).toA
theorem aX{t:TypeId}(ht:P.underlying t=some (.int .u32))(hc:P.cellsOf t=1):JR enc P W t j5L (fun _=>True):=by refine⟨hc,fun fuel cs x h _=> ?_⟩;obtain⟨n,rfl,rfl,hw⟩:=DataW.trod_int ht h;simp only[Lit.wf,IntKind.min,IntKind.max,IntKind.signed,IntKind.bits]at hw;simp at hw;refine⟨rfl,by simp;rfl,n.toNat,⟨?_,by omega⟩,trivial,vT _⟩;rw[show((n.toNat:Nat):Int)=n by omega];rfl
theorem Te{t:TypeId}(ht:P.underlying t=some .bool)(hc:P.cellsOf t=1):JR enc P W t cX (fun _=>True):=by refine⟨hc,fun fuel cs x h _=> ?_⟩;obtain⟨b,rfl,rfl⟩:=DataW.trod_bool ht h;exact⟨rfl,by simp;rfl,b,rfl,trivial,vT _⟩
theorem NI{α:Type}{z:Nat}:∀{L:List (List α)},(∀x∈L,x.length=z)->∀(i:Nat) {c:List α},L[i]? =some c->(L.flatten.drop (i * z)).take z=c
 |[],_,i,c,hc=>by simp at hc
 |a::r,h,i,c,hc=>by
  have ha:=h a (by simp);cases i with
  |zero=>
   obtain rfl:a=c:=by simpa using hc
   rw[Dr,xK,vE,<-ha,Eo];rfl
  |succ i=>
   rw[vE,YR,Nat.add_comm,List.drop_append,XI (by omega),xS,ha,Nat.add_sub_cancel_left];exact NI (fun x hx=>h x (by simp[hx])) i (by simpa using hc)
theorem iO{α:Type}{z:Nat}{L:List (List α)}(h:∀x∈L,x.length=z):L.flatten.length=L.length * z:=by
 induction L with
 |nil=>simp
 |cons a r ih=>
  rw[vE,jQ,ih (fun x hx=>h x (by simp[hx])),h a (by simp),xA,YR];omega
theorem weightsAll_mem{e:TypeId}:∀{l:List (DataW H)} {d:DataW H},d∈l->∀n∈d.weights P e,n∈DataW.weightsAll P e l
 |a::r,d,hd,n,hn=>by
  simp only[DataW.weightsAll,zN];rcases List.mem_cons.1 hd with rfl|h
  ·exact .inl hn
  ·exact .inr (weightsAll_mem h n hn)
theorem WK{f g:List (DataW H×List MemPlace)}:Rows.uptoBulkAll ((f++g).map (·.1))=Rows.uptoBulkAll (f.map (·.1))+Rows.uptoBulkAll (g.map (·.1)):=by
 induction f with
 |nil=>simp[Rows.uptoBulkAll]
 |cons a r ih=>simp only[Ro,kY,Rows.uptoBulkAll,ih];omega
theorem VA{t e:TypeId}{α:Type}{R:Zl α}{B:α->Prop}{μ:α->Nat}(ht:P.underlying t=some (.slice e))(hc:P.cellsOf t=1)(hb:P.bytesOf e=by')(h0:0<R.z)(ho:Ze enc P W e R B μ):
 Ze enc P W t (Eg R) (fun ys=>ys.length * by'<=140737488351232/\∀y∈ys,B y) (fun ys=>(ys.map μ).sum):=by
 refine⟨hc,fun fuel cs x hf hw=> ?_⟩
 rcases DataW.trod_slice ht hf with⟨rfl,rfl⟩|⟨a,len,cap,elems,rest,m,rfl,rfl,rfl,hba,hl,hm,hlen,hel,hsp,hns⟩
 ·exact⟨rfl,by simp;rfl,[],Xo.2 ⟨_,rfl,zJ.nil⟩,⟨by simp,by simp⟩,by simp⟩
 ·rw[ho.1]at hel hsp
  simp only[DataW.weights,ht,Oz,En,jW,decide_eq_true_eq,hb]at hw;obtain⟨hw1,hw2,hw3⟩:=hw;have hrl:=(hsp rfl).1;have hbig:len * by'<=140737488351232:=by
   have h1:len * by'<=(elems.map (·.1)).length * by'+(rest.map (·.1)).length * by':=by rw[yH,hlen];omega
   rw[<-Da]at h1;exact zY h1 hw1
  have hone:∀c∈[Value.slice (some a) len cap],c.oneCell'=true:=by simp;rfl
  refine⟨rfl,hone,?_⟩;by_cases hz:len=0/\cap=0
  ·obtain⟨rfl,rfl⟩:=hz;refine⟨[],Xo.2 ⟨.sl 0 0 0 (.kn 0),by simp[Ch],.mk (L:=[]) ⟨by simp,.inr ⟨0,0,_,[],rfl,by unfold Zj;rw[rU],by simp[cut]⟩⟩ (fun b off n cap e=> ?_) (fun b off n cap e=>by cases e;exact jM 0) .nil⟩,⟨by simp,by simp⟩,by simp⟩;cases e;exact jR (rU W)
  ·have hcap:0<cap:=by omega
   have hsz0:elems.length+rest.length=cap:=by omega
   have hrd:∀i,i<cap->∃l x,W.cells? 0 (a.add (i * R.z)) R.z=some l/\DataW.trod enc P W 0 (fun _=>true) true m e l=some x/\(i<len->elems[i]? =some x):=fun i hi=>by
    by_cases hil:i<len
    ·have h2:=hel i hil;rw[jO (by omega)]at h2;obtain⟨l,hl1,hl2⟩:=Option.bind_eq_some_iff.1 h2;exact⟨l,_,hl1,hl2,fun _=>jO (by omega)⟩
    ·have h2:=(hsp rfl).2 (i-len) (by omega);rw[jO (by omega),show len+(i-len)=i by omega]at h2;obtain⟨l,hl1,hl2⟩:=Option.bind_eq_some_iff.1 h2;exact⟨l,_,hl1,hl2,fun h=>absurd h hil⟩
   obtain⟨r,o,spot⟩:=a;obtain⟨l0,x0,q1,q2,-⟩:=hrd 0 hcap;have hspot:spot=none:=by have h3:=World.cells?_some q1;have h4:=h3.2.2 0 h0;rw[jO (by have:=h3.2.1;omega)]at h4;simpa [Addr.add]using World.cell?_spot h4
   subst hspot;have hcell:∀(k:Nat) (v:Value),W.cell? (⟨r,o+k,none⟩:Addr)=some v->∃cur e fz,W.heap[r]? =some (.cells cur e fz)/\cur[o+k]? =some v:=fun k v hk=>by
    unfold World.cell? at hk;cases hh:W.heap[r]? with
    |none=>simp[hh]at hk
    |some ob=>cases ob<;>simp[hh]at hk<;>exact⟨_,_,_,rfl,hk⟩
   obtain⟨cur,te,fz,hrow⟩:∃cur te fz,W.heap[r]? =some (.cells cur te fz):=by have h3:=World.cells?_some q1;have h4:=h3.2.2 0 h0;rw[jO (by have:=h3.2.1;omega)]at h4;obtain⟨cur,te,fz,h5,_⟩:=hcell 0 _ (by simpa [Addr.add]using h4);exact⟨cur,te,fz,h5⟩
   have hcur:∀i l,W.cells? 0 ((⟨r,o,none⟩:Addr).add (i * R.z)) R.z=some l->l.length=R.z/\∀f,f<R.z->cur[o+i * R.z+f]? =l[f]? :=fun i l hil=>by have h3:=World.cells?_some hil;refine⟨h3.2.1,fun f hf=> ?_⟩;have h4:=h3.2.2 f hf;obtain⟨u,hu⟩:∃u,l[f]? =some u:=⟨_,jO (by have:=h3.2.1;omega)⟩;rw[hu]at h4 ⊢;rw[Xd,Xd]at h4;obtain⟨cur',te',fz',h5,h6⟩:=hcell (i * R.z+f) _ (by rw[<-vI];exact h4);rw[hrow]at h5;obtain⟨rfl,_,_⟩:=Obj.cells.inj (jS h5);rw[<-h6,vI]
   have key:∀n,n<=len->∃(L:List (List Value)) (ys:List α),L.length=n/\ys.length=n/\(∀c∈L,c.length=R.z/\∀u∈c,u.oneCell'=true)/\(∀(i:Nat) c y,L[i]? =some c->ys[i]? =some y->R.is (j5B W) (Et W) (c.map (Ch W)) y)/\(∀(i:Nat) c,L[i]? =some c->∀f,f<R.z->cur[o+i * R.z+f]? =c[f]?)/\(∀y∈ys,B y)/\(ys.map μ).sum<=Rows.uptoBulkAll ((elems.take n).map (·.1)):=by
    intro n;induction n with
    |zero=>exact fun _=>⟨[],[],rfl,rfl,by simp,by simp,by simp,by simp,by simp⟩
    |succ n ih=>
     intro hn;obtain⟨L,ys,h1,h2,h3,h4,h5,h6,h7⟩:=ih (by omega);obtain⟨l,x,e1,e2,e3⟩:=hrd n (by omega);have e3:=e3 (by omega);have hwx:(x.1.weights P e).all (·<=reachBytes)=true:=by rw[qG]at hw2 ⊢;intro k hk;exact hw2 k (weightsAll_mem (List.mem_map.2 ⟨x,zR e3,rfl⟩) k hk)
     obtain⟨g1,g2,y,g3,g4,g7⟩:=ho.2 _ _ _ e2 hwx;obtain⟨g5,g6⟩:=hcur n l e1;refine⟨L++[l],ys++[y],by simp[h1],by simp[h2],fun c hc=> ?_,fun i c z hc hz=> ?_,fun i c hc=> ?_,fun z hz=> ?_,?_⟩
     ·rcases List.mem_append.1 hc with hc|hc
      ·exact h3 c hc
      ·simp at hc;subst hc;exact⟨g1,g2⟩
     ·by_cases hi:i<n
      ·rw[jZ (by omega)]at hc hz;exact h4 i c z hc hz
      ·have:=(List.getElem?_eq_some_iff.1 hc).1;simp only[jQ,fV]at this;obtain rfl:i=n:=by omega
       rw[zQ (by omega),h1,Ju]at hc;rw[zQ (by omega),h2,Ju]at hz;simp at hc hz;subst hc hz;exact g3
     ·by_cases hi:i<n
      ·rw[jZ (by omega)]at hc;exact h5 i c hc
      ·have:=(List.getElem?_eq_some_iff.1 hc).1;simp only[jQ,fV]at this;obtain rfl:i=n:=by omega
       rw[zQ (by omega),h1,Ju]at hc;simp at hc;subst hc;exact g6
     ·rcases List.mem_append.1 hz with hz|hz
      ·exact h6 z hz
      ·simp at hz;subst hz;exact g4
     ·rw[qV,e3,WK,QD,List.sum_append];simp only[kY,Dp,ZW,List.sum_nil,j3L,Rows.uptoBulkAll];omega
   obtain⟨L,ys,k1,k2,k3,k4,k5,k6,k7⟩:=key len (jM _);have hfl:L.flatten.length=len * R.z:=by rw[iO (fun c hc=>(k3 c hc).1),k1]
   have hpre:(cur.toList.drop o).take (len * R.z)=L.flatten:=by
    apply VO;intro j;by_cases hj:j<len * R.z
    ·rw[qH,if_pos hj,yA,xN];have hd:j/R.z<len:=Nat.div_lt_of_lt_mul (by rw[Nat.mul_comm];exact hj);have hm2:=Nat.mod_lt j h0;have hdm:=Nat.div_add_mod j R.z;rw[Nat.mul_comm]at hdm;have hLd:L[j/R.z]? =some L[j/R.z]:=jO (by omega);have h7:=k5 (j/R.z) _ hLd (j%R.z) hm2;rw[vI,hdm]at h7;rw[h7];have h8:=NI (fun c hc=>(k3 c hc).1) (j/R.z) hLd;rw[<-h8,qH,if_pos hm2,yA,hdm]
    ·rw[qY (by rw[zV];omega),qY (by omega)]
   have hto:o<=cur.size:=by obtain⟨hll,hff⟩:=hcur 0 l0 q1;have:=hff 0 h0;rw[jO (by omega)]at this;have:=(Array.getElem?_eq_some_iff.1 this).1;omega
   have hro:Tz W r=some (cur.toList,te):=by unfold Tz;rw[hrow]
   have hwin:(r,o)∈YW W:=SQ.2 ⟨_,_,hro,by rw[qU];exact hto⟩;refine⟨ys,Xo.2 ⟨.sl (nY W (r,o)) 0 len (.kn cap),?_,.mk (L:=L.map (·.map (Ch W))) ⟨?_,.inr ⟨nY W (r,o),0,.kn cap,((cur.toList.drop o).takeWhile (·.oneCell')).map (Ch W),by rw[yH,k1],?_,?_⟩⟩ (fun b off n cap e=> ?_) (fun b off n cap e=> ?_) ⟨by rw[yH,k1,k2],fun i c y hc hy=> ?_⟩⟩,⟨by rw[k2];exact hbig,k6⟩,by rw[xP (by omega)]at k7;simp only[Rows.uptoBulk];omega⟩
   ·show[Ch W (.slice (some ⟨r,o,none⟩) len cap)]=_;simp only[Ch,if_neg hz,if_pos (show(r,o)∈YW W/\len<=cap/\cap<=maxLen from⟨hwin,hl,hm⟩)]
   ·intro c hc;obtain⟨d,hd,rfl⟩:=List.mem_map.1 hc;rw[yH];exact(k3 d hd).1
   ·unfold Zj;rw[dE hwin];simp only[WE,hro]
   ·have htw:((cur.toList.drop o).takeWhile (·.oneCell')).take (len * R.z)=L.flatten:=by
     rw[Aa,hpre]
     intro u hu
     rw[hpre]at hu
     obtain⟨c,hc,hu⟩:=List.mem_flatten.1 hu
     exact(k3 c hc).2 u hu
    have hlen2:len * R.z<=((cur.toList.drop o).takeWhile (·.oneCell')).length:=by have:=congrArg List.length htw;rw[zV,hfl]at this;omega
    rw[yH,k1]
    unfold cut
    rw[if_pos (by rw[yH];omega),xK,<-List.map_take,htw,List.map_flatten]
   ·cases e;exact jR (dE hwin)
   ·cases e;exact hl
   ·rw[vF]at hc;obtain⟨d,hd,rfl⟩:=Option.map_eq_some_iff.1 hc;exact k4 i d y hd hy
theorem Qj{t e:TypeId}{α:Type}{R:Zl α}{B:α->Prop}(ht:P.underlying t=some (.slice e))(hc:P.cellsOf t=1)(hb:P.bytesOf e=by')(h0:0<R.z)(ho:JR enc P W e R B):
 JR enc P W t (Eg R) (fun ys=>ys.length * by'<=140737488351232/\∀y∈ys,B y):=(VA ht hc hb h0 ho).toA
def Ii(enc:TypeId×Value->H)(P:Program)(W:World)(ts:List TypeId){α:Type}(R:Zl α)(B:α->Prop)(μ:α->Nat):Prop:=
 (ts.map P.cellsOf).sum=R.z/\∀(fuel:Nat) (cs:List Value) (xs:List (DataW H×List MemPlace)),cs.length=R.z->xs.length=ts.length->
   (∀(i:Nat) t,ts[i]? =some t->DataW.trod enc P W 0 (fun _=>true) true fuel t ((cs.drop ((ts.take i).map P.cellsOf).sum).take (P.cellsOf t))=xs[i]?)->
   (DataW.weightsEach P ts (xs.map (·.1))).all (·<=reachBytes)=true->
   (∀c∈cs,c.oneCell'=true)/\∃y,R.is (j5B W) (Et W) (cs.map (Ch W)) y/\B y/\μ y<=Rows.uptoBulkAll (xs.map (·.1))
abbrev OD(enc:TypeId×Value->H)(P:Program)(W:World)(ts:List TypeId){α:Type}(R:Zl α)(B:α->Prop):Prop:=Ii enc P W ts R B (fun _=>0)
theorem Ve{t:TypeId}{α:Type}{R:Zl α}{B:α->Prop}{μ:α->Nat}(h:Ze enc P W t R B μ):Ii enc P W [t] R B μ:=by
 refine⟨by simp[h.1],fun fuel cs xs hc hx hh hw=> ?_⟩;match xs,hx with
 |[x],_=>
  have h1:=hh 0 t rfl;simp only[qA,Dp,List.sum_nil,xK,xW]at h1;rw[h.1,<-hc,xC]at h1;simp only[kY,Dp,DataW.weightsEach,kH]at hw;simp only[kY,Dp,Rows.uptoBulkAll,JH];exact(h.2 _ _ _ h1 hw).2
theorem JN{t:TypeId}{α:Type}{R:Zl α}{B:α->Prop}(h:JR enc P W t R B):OD enc P W [t] R B:=Ve h
theorem qC{t:TypeId}{ts:List TypeId}{α β:Type}{R:Zl α}{S:Zl β}{B:α->Prop}{C:β->Prop}{μ:α->Nat}{ν:β->Nat}(h:Ze enc P W t R B μ)(k:Ii enc P W ts S C ν):Ii enc P W (t::ts) (kM R S) (fun x=>B x.1/\C x.2) (fun x=>μ x.1+ν x.2):=by
 refine⟨by simp[h.1,k.1,kM],fun fuel cs xs hc hx hh hw=> ?_⟩;match xs,hx with
 |x::xs,hx=>
  have hcz:cs.length=R.z+S.z:=hc;have h1:=hh 0 t rfl;simp only[qA,Dp,List.sum_nil,xK,xW,h.1]at h1;simp only[kY,DataW.weightsEach,En,jW]at hw;obtain⟨g1,g2,y,g3,g4,g5⟩:=h.2 _ _ _ h1 hw.1;obtain⟨q1,z,q2,q3,q4⟩:=k.2 fuel (cs.drop R.z) xs (by rw[kT];omega) (by simpa using hx) (fun i t' ht'=>by have h2:=hh (i+1) t' (by simpa using ht');rw[Km,kY,ZW,h.1,<-List.drop_drop,xQ]at h2;exact h2) hw.2;refine⟨fun c hc=> ?_,(y,z),⟨(cs.take R.z).map (Ch W),(cs.drop R.z).map (Ch W),?_,g3,q2⟩,⟨g4,q3⟩,by simp only[kY,Rows.uptoBulkAll];omega⟩
  ·rw[<-yE R.z cs]at hc;exact(List.mem_append.1 hc).elim (g2 c) (q1 c)
  ·rw[<-QD,yE]
theorem xY{t:TypeId}{ts:List TypeId}{α β:Type}{R:Zl α}{S:Zl β}{B:α->Prop}{C:β->Prop}(h:JR enc P W t R B)(k:OD enc P W ts S C):OD enc P W (t::ts) (kM R S) (fun x=>B x.1/\C x.2):=qC h k
def DF(P:Program):List Field->Nat->Bool
 |[],_=>true
 |f::r,k=>Nat.beq f.offset k&&DF P r (k+P.cellsOf f.type)
theorem FN:∀{fs:List Field} {k:Nat},DF P fs k=true->∀(i:Nat) f,fs[i]? =some f->f.offset=k+(((fs.map (·.type)).take i).map P.cellsOf).sum
 |[],k,_,i,f,hf=>by simp at hf
 |g::r,k,h,i,f,hf=>by
  simp only[DF,jW]at h;cases i with
  |zero=>simp at hf;subst hf;simpa using jY h.1
  |succ i=>
   have:=FN h.2 i f (by simpa using hf);rw[this];simp only[kY,Km,ZW];omega
theorem XH{t:TypeId}{ts:List TypeId}{α β:Type}{R:Zl α}{B:α->Prop}{C:β->Prop}{μ:α->Nat}{ν:β->Nat}(f:β->α)(g:α->β)(hfg:∀y,f (g y)=y)(ht:P.underlying t=some (.struct fs))(hts:fs.toList.map (·.type)=ts)(hok:DF P fs.toList 0=true)(hc:P.cellsOf t=R.z)
 (h:Ii enc P W ts R B μ) (hBC:∀y,B y->C (g y)) (hmn:∀y,ν (g y)<=μ y+1):Ze enc P W t (Us f R) C ν:=by
 subst hts
 refine⟨hc,fun fuel cs x hf hw=> ?_⟩
 obtain⟨xs,n,rfl,rfl,hcs,hxs,hel⟩:=DataW.trod_struct ht hf
 simp only[DataW.weights,ht]at hw
 rw[hc]at hcs
 obtain⟨q1,y,q2,q3,q4⟩:=h.2 n cs xs hcs (by simpa using hxs) (fun i t' ht'=>by rw[vF]at ht';obtain⟨fd,hfd,rfl⟩:=Option.map_eq_some_iff.1 ht';have:=hel i fd (by simpa using hfd);rw[FN hok i fd hfd,yG]at this;exact this) hw
 exact⟨hcs,q1,g y,by show R.is _ _ _ (f (g y));rw[hfg];exact q2,hBC y q3,zY (hmn y) (by simp only[Rows.uptoBulk];omega)⟩
theorem yM{t:TypeId}{ts:List TypeId}{α β:Type}{R:Zl α}{B:α->Prop}{C:β->Prop}(f:β->α)(g:α->β)(hfg:∀y,f (g y)=y)(ht:P.underlying t=some (.struct fs))(hts:fs.toList.map (·.type)=ts)(hok:DF P fs.toList 0=true)(hc:P.cellsOf t=R.z)
 (h:OD enc P W ts R B) (hBC:∀y,B y->C (g y)):JR enc P W t (Us f R) C:=XH f g hfg ht hts hok hc h hBC (fun _=>vT _)
end
section
variable {H:Type} {enc:TypeId×Value->H} {W:World}
end
end
section
open Go Go.RowKit Go.ChangeShapes Go.WideShapes Go.ChangeAt
def j5H(x:Xa):Prop:=True
def Wn(x:xD):Prop:=True
def pG(x:yL):Prop:=Sm 8 x.items/\Sm 8 x.weights
def Ds(x:zU):Prop:=(Sm 40 x.osds/\∀y∈x.osds,j5H y)/\(Sm 32 x.pools/\∀y∈x.pools,Wn y)/\(Sm 64 x.buckets/\∀y∈x.buckets,pG y)
section
variable {H:Type} {enc:TypeId×Value->H} {W:World}
theorem Tc:JR enc Tryz.prog W 108 XR Wn:=
 yM (ts:=[3,3,3,3]) (fun x:xD=>(x.id,x.size,x.min,x.pgs)) (fun y=>⟨y.1,y.2.1,y.2.2.1,y.2.2.2⟩) (fun y=>rfl) Tryz.underlying108 (by rfl) (by kernel_rfl) (by kernel_rfl) (xY (xR Tryz.underlying3 (by kernel_rfl)) (xY (xR Tryz.underlying3 (by kernel_rfl)) (xY (xR Tryz.underlying3 (by kernel_rfl)) (JN (xR Tryz.underlying3 (by kernel_rfl)))))) (fun y ⟨_,_,_,_⟩=>trivial)
end
end
variable{F:Nat->Prop}{H:AH}{m:zU}{vo vp vb:AV}
theorem wO(id:Int)(hm:vG F H m vo vp vb)(hl:Sm 32 m.pools):
 vR 115 [vS m vo vp vb,.lit (.int .i64 id)] H fun r h'=>zM H.n H h'/\r= .tup [Zz (vV m id),.lit (.bool (JG m id).isSome)]:=by
 refine zW Tryz.func115 rfl rfl ?_
 unfold Sm at hl
 have s1:=hm.p.isSl
 have s2:=hm.p.lenD
 have o1:=hm.o.one
 have o2:=hm.p.one
 have o3:=hm.b.one
 simp only[jN,seval,Tryz.ntmps115,vS,s1,s2,o1,o2,o3]
 obtain⟨h2,hh2⟩:∃h2,h2=(H.push (.cells [.lit (.int .i64 m.epoch),vo,vp,vb,.lit (.int .i64 m.leaf)] 66)).push (.cells [.lit (.int .i64 0),.lit (.int .i64 0),.lit (.int .i64 0),.lit (.int .i64 0)] 108):=⟨_,rfl⟩
 have E0:zM H.n H h2:=hh2▸((zM.refl _ _).push _ (jM _)).push _ (by rw[zF];omega)
 have A0:h2.at (H.n+1)=some (.cells [.lit (.int .i64 0),.lit (.int .i64 0),.lit (.int .i64 0),.lit (.int .i64 0)] 108):=hh2▸zI _ _
 have n2:h2.n=H.n+2:=by rw[hh2,zF,zF]
 rw[<-hh2]
 clear hh2
 refine kO m.pools.length (fun i t h=>zM h2.n h2 h/\JG m id=(m.pools.drop i).find? (fun b=>b.id==id)/\t.n=22/\t.get 1= .lit (.int .i64 id)/\t.get 4= .ptr (H.n+1) 0/\t.get 9=vp/\t.get 10= .lit (.int .i64 m.pools.length)/\t.get 11= .lit (.int .i64 i)) ?_ ?_ _ _ ?_
 ·rintro i t h hlt hc ⟨he,hf,ga⟩ ih;obtain⟨x,hx⟩:∃x,m.pools[i]? =some x:=⟨_,jO hlt⟩;have E1:zM H.n H h:=E0.trans (he.mono (by omega));obtain⟨c,hc1,hld,hld0⟩:=hm.p.atE (T:=zH Tryz.prog kR) E1 YY hx;obtain⟨rfl,-⟩:=Jc.1 hc1;have hws:=xG hlt (by omega);rw[Va hx]at hf;have A1:=(he.2 _ (by omega)).trans A0;have l1:H.n+1<h.n:=jR A1;simp only[jN,seval,s1,s2,ga,hlt,hc,hld0,hws];refine⟨fun hq=> ?_,fun hq=> ?_⟩
  ·rw[if_pos hq]at hf;have hG:vV m id=x:=by unfold vV;rw[hf];rfl
   simp only[jN,seval,ga,A1,l1];refine⟨(E1.put _ (by omega)).push _ (by rw[kZ];omega),?_⟩;rw[hG,hf];rfl
  ·rw[if_neg (by rw[hq];decide)]at hf;refine ih _ _ ⟨he.push _ he.1,hf,?_⟩;simp only[jN,seval,ga]
 ·rintro t h hc ⟨he,hf,ga⟩;have A1:=(he.2 _ (by omega)).trans A0;have l1:H.n+1<h.n:=jR A1;have E1:zM H.n H h:=E0.trans (he.mono (by omega));have hf:JG m id=none:=by rw[hf,Zh];rfl
  have hG:vV m id=yW:=by unfold vV;rw[hf];rfl
  simp only[jN,seval,s1,s2,ga,hc,A1,l1,sD,Kw];rw[hG,hf];exact⟨E1.put _ (by omega),rfl⟩
 ·refine⟨zM.refl _ _,rfl,?_⟩;simp only[jN,seval];try((repeat' apply And.intro)<;>first|rfl|trivial)
def j6U(ps:List xD)(id:Int)(n:Int):Prop:=(∃(k:Nat) (q:xD),n=(k:Int)/\ps[k]? =some q/\ps.find? (fun q=>q.id==id)=some q)\/(n= -1/\ps.find? (fun q=>q.id==id)=none)
variable{b:Nat}
theorem j2J(q p:xD)(hb:H.at b=some (.cells [.lit (.int .i64 p.id),.lit (.int .i64 p.size),.lit (.int .i64 p.min),.lit (.int .i64 p.pgs)] 108)):
 vR 102 [Zz q,.ptr b 0] H fun r h'=>zM H.n H h'/\r= .lit (.bool (q.id==p.id)):=by
 refine zW Tryz.func102 rfl rfl ?_
 have lb:=jR hb
 obtain⟨h0,hh0,E0,A1⟩:=xX H (.cells [.lit (.int .i64 q.id),.lit (.int .i64 q.size),.lit (.int .i64 q.min),.lit (.int .i64 q.pgs)] 108)
 have A2:=(E0.2 _ lb).trans hb
 have L1:=xI A1
 have L2:=xI A2
 simp only[jN,seval,Tryz.ntmps102,Zz,<-hh0,L1,L2]
 first|exact⟨E0,rfl⟩|exact E0
variable{v:AV}
theorem j4y{ps:List xD}(p:xD)(hv:zJ XR F H v ps)(hl:Sm 32 ps)(hb:H.at b=some (.cells [.lit (.int .i64 p.id),.lit (.int .i64 p.size),.lit (.int .i64 p.min),.lit (.int .i64 p.pgs)] 108)):
 vR 101 [v,.fn (.func 102) [] [.ptr b 0]] H fun r h'=>zM H.n H h'/\∃n,r= .lit (.int .i64 n)/\j6U ps p.id n:=by
 refine zW Tryz.func101 rfl rfl ?_
 unfold Sm at hl
 have s1:=hv.isSl
 have s2:=hv.lenD
 simp only[jN,seval,Tryz.ntmps101,s1,s2]
 refine kO ps.length (fun i t h=>zM H.n H h/\ps.find? (fun q=>q.id==p.id)=(ps.drop i).find? (fun q=>q.id==p.id)/\t.n=19/\t.get 0=v/\t.get 1= .fn (.func 102) [] [.ptr b 0]/\t.get 7= .lit (.int .i64 ps.length)/\t.get 8= .lit (.int .i64 i)) ?_ ?_ _ _ ?_
 ·rintro i t h hlt hc ⟨he,hf,ga⟩ ih;obtain⟨x,hx⟩:∃x,ps[i]? =some x:=⟨_,jO hlt⟩;obtain⟨c,hc1,hld,hld0⟩:=hv.atE (T:=zH Tryz.prog kR) he YY hx;obtain⟨rfl,-⟩:=Jc.1 hc1;have hws:=xG hlt (by omega);rw[Va hx]at hf;simp only[jN,seval,s1,s2,ga,hlt,hc,hld0];refine(j2J x p ((he.2 _ (jR hb)).trans hb)).mono ?_;rintro r h2 ⟨e2,rfl⟩;have E2:=he.step e2;cases hq:(x.id==p.id)with
  |true=>
   rw[if_pos hq]at hf;simp only[jN,seval,ga,hws];first|exact⟨E2,_,rfl,.inl ⟨i,x,rfl,hx,hf⟩⟩
  |false=>
   rw[if_neg (by rw[hq];decide)]at hf;simp only[jN,seval,ga,hws];refine ih _ _ ⟨E2,hf,?_⟩;simp only[jN,seval,ga]
 ·rintro t h hc ⟨he,hf,ga⟩;simp only[jN,seval,s1,s2,ga,hc];rw[Zh]at hf;first|exact⟨he,_,rfl,.inr ⟨rfl,hf⟩⟩
 ·refine⟨zM.refl _ _,rfl,?_⟩;simp only[jN,seval];try((repeat' apply And.intro)<;>first|rfl|trivial)
def JC(p:xD):Prop:=p.id<1\/4<p.id\/p.size<1\/8<p.size\/p.min<1\/p.size<p.min\/p.pgs<1\/8<p.pgs
instance(p:xD):Decidable (JC p):=by unfold JC;infer_instance
def vH(m:zU)(p:xD):Int:=if JC p then 22 else match JG m p.id with
 |some q=>if q.pgs=p.pgs then 0 else 126
 |none=>0
theorem lR(p:xD)(hm:vG F H m vo vp vb)(hl:Sm 32 m.pools):
 vR 75 [vS m vo vp vb,Zz p] H fun r h'=>zM H.n H h'/\r= .lit (.int .i64 (vH m p)):=by
 refine zW Tryz.func75 rfl rfl ?_
 have o1:=hm.o.one
 have o2:=hm.p.one
 have o3:=hm.b.one
 have s1:=hm.p.isSl
 have s2:=hm.p.lenD
 obtain⟨h0,hh0⟩:∃h0,h0=(H.push (.cells [.lit (.int .i64 m.epoch),vo,vp,vb,.lit (.int .i64 m.leaf)] 66)).push (.cells [.lit (.int .i64 p.id),.lit (.int .i64 p.size),.lit (.int .i64 p.min),.lit (.int .i64 p.pgs)] 108):=⟨_,rfl⟩
 have E0:zM H.n H h0:=hh0▸((zM.refl _ _).push _ (jM _)).push _ (by rw[zF];omega)
 have A1:h0.at H.n=some (.cells [.lit (.int .i64 m.epoch),vo,vp,vb,.lit (.int .i64 m.leaf)] 66):=hh0▸(xE _ (by rw[zF];omega)).trans (zI _ _)
 have A2:h0.at (H.n+1)=some (.cells [.lit (.int .i64 p.id),.lit (.int .i64 p.size),.lit (.int .i64 p.min),.lit (.int .i64 p.pgs)] 108):=hh0▸zI _ _
 have L1:=xI A1
 have L2:=xI A2
 have l1:=jR A1
 have l2:=jR A2
 by_cases c1:p.id<1
 ·have hB:vH m p=22:=by unfold vH;rw[if_pos (by unfold JC;omega)]
  rw[hB];simp only[jN,seval,Tryz.ntmps75,vS,Zz,o1,o2,o3,<-hh0,L1,L2,c1];first|exact⟨E0,rfl⟩|exact E0
 by_cases c2:4<p.id
 ·have hB:vH m p=22:=by unfold vH;rw[if_pos (by unfold JC;omega)]
  rw[hB];simp only[jN,seval,Tryz.ntmps75,vS,Zz,o1,o2,o3,<-hh0,L1,L2,c1,c2];first|exact⟨E0,rfl⟩|exact E0
 by_cases c3:p.size<1
 ·have hB:vH m p=22:=by unfold vH;rw[if_pos (by unfold JC;omega)]
  rw[hB];simp only[jN,seval,Tryz.ntmps75,vS,Zz,o1,o2,o3,<-hh0,L1,L2,c1,c2,c3];first|exact⟨E0,rfl⟩|exact E0
 by_cases c4:8<p.size
 ·have hB:vH m p=22:=by unfold vH;rw[if_pos (by unfold JC;omega)]
  rw[hB];simp only[jN,seval,Tryz.ntmps75,vS,Zz,o1,o2,o3,<-hh0,L1,L2,c1,c2,c3,c4];first|exact⟨E0,rfl⟩|exact E0
 by_cases c5:p.min<1
 ·have hB:vH m p=22:=by unfold vH;rw[if_pos (by unfold JC;omega)]
  rw[hB];simp only[jN,seval,Tryz.ntmps75,vS,Zz,o1,o2,o3,<-hh0,L1,L2,c1,c2,c3,c4,c5];first|exact⟨E0,rfl⟩|exact E0
 by_cases c6:p.size<p.min
 ·have hB:vH m p=22:=by unfold vH;rw[if_pos (by unfold JC;omega)]
  rw[hB];simp only[jN,seval,Tryz.ntmps75,vS,Zz,o1,o2,o3,<-hh0,L1,L2,c1,c2,c3,c4,c5,c6];first|exact⟨E0,rfl⟩|exact E0
 by_cases c7:p.pgs<1
 ·have hB:vH m p=22:=by unfold vH;rw[if_pos (by unfold JC;omega)]
  rw[hB];simp only[jN,seval,Tryz.ntmps75,vS,Zz,o1,o2,o3,<-hh0,L1,L2,c1,c2,c3,c4,c5,c6,c7];first|exact⟨E0,rfl⟩|exact E0
 by_cases c8:8<p.pgs
 ·have hB:vH m p=22:=by unfold vH;rw[if_pos (by unfold JC;omega)]
  rw[hB];simp only[jN,seval,Tryz.ntmps75,vS,Zz,o1,o2,o3,<-hh0,L1,L2,c1,c2,c3,c4,c5,c6,c7,c8];first|exact⟨E0,rfl⟩|exact E0
 have hB:vH m p=match JG m p.id with
  |some q=>if q.pgs=p.pgs then 0 else 126
  |none=>0:=by unfold vH;rw[if_neg (by unfold JC;omega)]
 rw[hB]
 simp only[jN,seval,Tryz.ntmps75,vS,Zz,o1,o2,o3,<-hh0,L1,L2,c1,c2,c3,c4,c5,c6,c7,c8]
 refine(j4y p (hm.p.ext E0 (jM _)) hl A2).mono ?_
 rintro r h2 ⟨e2,n,rfl,hI⟩
 have E2:=E0.step e2
 have B1:=(e2.2 _ l1).trans A1
 have B2:=(e2.2 _ l2).trans A2
 have LB1:=xI B1
 have LB2:=xI B2
 rcases hI with⟨k,q,rfl,hk,hf⟩|⟨rfl,hf⟩
 ·have hF:JG m p.id=some q:=hf;rw[hF];obtain⟨c,hc1,hld,hld0⟩:=hm.p.atE (T:=zH Tryz.prog kR) E2 YY hk;obtain⟨rfl,-⟩:=Jc.1 hc1;have hlt:=(List.getElem?_eq_some_iff.1 hk).1;have hk0:(0:Int)<=(k:Int):=by omega
  simp only[jN,seval];rw[zL [0,1,2,3,4,5,6,7,8,9,10,11,12] 374075900823516023695234415374324642402377951879168 (by kernel_rfl)];by_cases cq:q.pgs=p.pgs
  ·have cqn:(q.pgs !=p.pgs)=false:=by simp[cq]
   repeat ((with_reducible refine jX ?_;simp only[vO];try simp only[vP,seval]);simp only[jN,seval,zG,s1,s2,LB1,LB2,hk0,hlt,hld,cqn])
   simp only[if_pos cq];first|exact⟨E2,rfl⟩|exact⟨E2,trivial⟩|exact E2
  ·have cqn:(q.pgs !=p.pgs)=true:=by simp[cq]
   repeat ((with_reducible refine jX ?_;simp only[vO];try simp only[vP,seval]);simp only[jN,seval,zG,s1,s2,LB1,LB2,hk0,hlt,hld,cqn])
   simp only[if_neg cq];first|exact⟨E2,rfl⟩|exact⟨E2,trivial⟩|exact E2
 ·have hF:JG m p.id=none:=hf;rw[hF];simp only[jN,seval];rw[zL [0,1,2,3,4,5,6,7,8,9,10,11,12] 374075900823516023695234415374324642402377951879168 (by kernel_rfl)];repeat ((with_reducible refine jX ?_;simp only[vO];try simp only[vP,seval]);simp only[jN,seval,zG])
  first|exact⟨E2,rfl⟩|exact⟨E2,trivial⟩|exact E2
abbrev j0Y(n0:Nat)(h:AH)(v:AV)(xs:List yL):Prop:=qE Vq (fun k=>n0<=k) n0 h v 122 xs
variable{n0 q:Nat}{h:AH}{cap:Cap}{e':TypeId}
theorem Gg{h3:AH}{ra rw1:AV}{xs:List yL}{x:yL}(ho:j0Y n0 h v xs)(hn0:n0<=h.n)(e:zM h.n h h3)(A:h3.at q=some (.cells [.lit (.int .i64 x.id),.lit (.int .i64 x.kind),ra,rw1] e'))
 (r1:yX qB h.n h3 ra 3 x.items) (r2:yX qB h.n h3 rw1 3 x.weights) (hi:Zq x.id/\Zq x.kind) (hl:(xs.length+1) * 64<=140737488355328):
 ∃s' h',vZ (zH Tryz.prog kR) h3 64 64 v (.sl q 0 1 cap)=some (s',h')/\j0Y n0 h' s' (xs++[x])/\Fr h v h' s':=by
 have e1:=e.1
 obtain⟨s',h',a,b,c,d⟩:=(ho.ext e (jM _)).snoc (T:=zH Tryz.prog kR) (t:=64) (tx:=64) (y:=x) (cap:=cap) (by kernel_rfl) (by kernel_rfl) (by kernel_rfl) (zv:= .agg [.lit (.int .i64 0),.lit (.int .i64 0),.lit (.slice none 0 0),.lit (.slice none 0 0)]) (by kernel_rfl) (by':=64) (by kernel_rfl) rfl (by decide) (by decide) A
  (Jx.2 ⟨ra,rw1,rfl,r1.toSl fun k hk=>⟨by omega,qE.apart ho hk⟩,r2.toSl fun k hk=>⟨by omega,qE.apart ho hk⟩,hi.1,hi.2⟩) (by omega) hl (by omega)
 exact⟨s',h',a,b,(Fr.ext e).trans ⟨c.1,d⟩⟩
def kJ(b:yL)(s:List yL×Bool)(c:yL):List yL×Bool:=
 let s1:=if s.2=false/\c.id<=b.id then(s.1++[b],true)else s
 if c.id=b.id then s1 else(s1.1++[c],s1.2)
def j5r(l:List yL)(b:yL):List yL:=
 let s:=l.foldl (kJ b) ([],decide (b.items.length=0))
 if s.2 then s.1 else s.1++[b]
variable{i:Nat}
theorem EK{α β:Type}(f:β->α->β)(z:β){l:List α}{x:α}(hx:l[i]? =some x):(l.take (i+1)).foldl f z=f ((l.take i).foldl f z) x:=by rw[qV,hx,List.foldl_append];rfl
def VQ(l:List Xa)(n:Nat):List Xa:=l++List.replicate (n+1-l.length) Zv
def bQ(m:zU)(n:Nat)(o:Xa):zU:={m with osds:=(VQ m.osds n).set n o}
def KA(epoch:Int)(o:Xa)(kind value:Int):Xa:=
 if kind=1 then⟨true,true,if o.ex then o.weight else 65536,value,IntKind.i64.wrap (epoch+1),o.upThru⟩
 else if kind=2 then⟨o.ex,false,o.weight,o.boot,o.upFrom,o.upThru⟩
 else if kind=3 then⟨o.ex,o.up,value,o.boot,o.upFrom,o.upThru⟩
 else⟨o.ex,o.up,o.weight,o.boot,o.upFrom,value⟩
def Xi:List xD->xD->List xD
 |[],p=>[p]
 |q::r,p=>if q.id<p.id then q::Xi r p else if q.id=p.id then p::r else p::q::r
def JO(m:zU)(b:yL):zU:={m with buckets:=j5r m.buckets b}
def Yd(m:zU)(b:yL):Int:=
 if b.id< -32\/-1<b.id then 22 else if(kU m b.id).isNone=true/\b.items=[]then 2 else if vX (JO m b)then 0 else 22
def Xx(kind:Int):Prop:=kind=1\/kind=2\/kind=3\/kind=4
instance(k:Int):Decidable (Xx k):=by unfold Xx;infer_instance
def xV(m:zU)(c:Yn):Int:=
 if Xx c.kind then(if c.osd<0\/8<=c.osd then 22 else Av m c)
 else if c.kind=5 then vH m c.pool
 else if c.kind=6 then Yd m c.bucket
 else if c.kind=7 then(if c.value<0\/3<c.value then 22 else 0)
 else 22
def kI(m:zU)(c:Yn):zU:=
 if c.kind=5 then{m with pools:=Xi m.pools c.pool}
 else if c.kind=6 then JO m c.bucket
 else if c.kind=7 then{m with leaf:=c.value}
 else bQ m c.osd.toNat (KA m.epoch (Vf m c.osd) c.kind c.value)
def Gb:zU:=⟨0,[],[],[],0⟩
def Jh:zU->List Yn->zU×Int
 |m,[]=>(m,0)
 |m,c::r=>if xV m c=0 then Jh (kI m c) r else(Gb,xV m c)
def vU(m:zU)(x:Xt):zU×Int:=
 if m.epoch=9223372036854775807\/¬x.epoch=m.epoch+1 then(Gb,126)
 else if(Jh m x.changes).2=0 then({(Jh m x.changes).1 with epoch:=x.epoch},0)else(Gb,(Jh m x.changes).2)
def pH(o:Xa):Prop:=o.ex=true\/(o.boot=0/\o.upThru=0)
def Cb(a b:List Xa):Prop:=a.length<=b.length/\∀k,(a.getD k Zv).boot<=(b.getD k Zv).boot/\(a.getD k Zv).upThru<=(b.getD k Zv).upThru
theorem Cb.refl(a:List Xa):Cb a a:=⟨jM _,fun k=>⟨Zy _,Zy _⟩⟩
theorem Cb.trans{a b c:List Xa}(h:Cb a b)(k:Cb b c):Cb a c:=⟨zY h.1 k.1,fun i=>⟨Int.le_trans (h.2 i).1 (k.2 i).1,Int.le_trans (h.2 i).2 (k.2 i).2⟩⟩
theorem Sw(l:List Xa)(n:Nat):(VQ l n).length=max l.length (n+1):=by unfold VQ;rw[jQ,AM];omega
theorem Sv(l:List Xa)(n k:Nat):(VQ l n).getD k Zv=l.getD k Zv:=by
 unfold VQ;rw[jU,jU];by_cases hk:k<l.length
 ·rw[jZ hk]
 ·rw[zQ (by omega),qY (Nat.not_lt.1 hk)];by_cases h2:k-l.length<n+1-l.length
  ·rw[List.getElem?_replicate_of_lt h2];rfl
  ·rw[qY (by rw[AM];omega)]
theorem eZ(l:List Xa)(n k:Nat)(o:Xa):((VQ l n).set n o).getD k Zv=if k=n then o else l.getD k Zv:=by
 by_cases hk:k=n
 ·subst hk;rw[if_pos rfl,jU,qK (by rw[Sw];omega)];rfl
 ·rw[if_neg hk,<-Sv l n k,jU,vK (by omega),<-jU]
theorem fA(l:List Xa)(n:Nat)(o:Xa):((VQ l n).set n o).length=max l.length (n+1):=by rw[yI,Sw]
def cV(l:List Xa):Prop:=∀k,pH (l.getD k Zv)
theorem j2F:cV []:=fun k=> .inr ⟨rfl,rfl⟩
theorem Ti{n:Int}(h:0<=n):Vf m n=m.osds.getD n.toNat Zv:=by unfold Vf;rw[if_pos h]
theorem uR{e:Int}{o:Xa}{kind value:Int}(ki:Xx kind)(hk:pH o)(hm:Jw e o kind value=0):pH (KA e o kind value)/\o.boot<=(KA e o kind value).boot/\o.upThru<=(KA e o kind value).upThru:=by
 obtain⟨ex,up,w,b,uf,ut⟩:=o;unfold pH at hk ⊢;unfold Jw at hm;unfold KA;rcases ki with rfl|rfl|rfl|rfl<;>cases ex<;>simp at hm hk ⊢
 all_goals (try omega)
 all_goals (try(split at hm<;>(try cases hm)))
 all_goals (try omega)
 all_goals (try(split at hm<;>(try cases hm)))
 all_goals (try omega)
 all_goals (try(split at hm<;>(try cases hm)))
 all_goals (try omega)
variable{c:Yn}
theorem NW(h:cV m.osds)(hm:xV m c=0):cV (kI m c).osds/\Cb m.osds (kI m c).osds:=by
 unfold xV at hm;unfold kI;by_cases k5:c.kind=5
 ·rw[if_pos k5];exact⟨h,Cb.refl _⟩
 by_cases k6:c.kind=6
 ·rw[if_neg k5,if_pos k6];exact⟨h,Cb.refl _⟩
 by_cases k7:c.kind=7
 ·rw[if_neg k5,if_neg k6,if_pos k7];exact⟨h,Cb.refl _⟩
 rw[if_neg k5,if_neg k6,if_neg k7]at hm ⊢;by_cases ki:Xx c.kind
 ·rw[if_pos ki]at hm;by_cases ho:c.osd<0\/8<=c.osd
  ·rw[if_pos ho]at hm;cases hm
  rw[if_neg ho]at hm;have h0:0<=c.osd:=by omega
  unfold Av at hm;rw[Ti h0]at hm ⊢;have hk:=h c.osd.toNat;obtain⟨o,ho'⟩:∃o,o=m.osds.getD c.osd.toNat Zv:=⟨_,rfl⟩;rw[<-ho']at hm hk ⊢;have key:=uR (e:=m.epoch) ki hk hm;refine⟨fun k=> ?_,?_,fun k=> ?_⟩
  ·show pH (((VQ m.osds _).set _ _).getD k Zv);rw[eZ];split
   ·exact key.1
   ·exact h k
  ·show _<=((VQ m.osds _).set _ _).length;rw[fA];omega
  ·show _<=(((VQ m.osds _).set _ _).getD k Zv).boot/\_<=(((VQ m.osds _).set _ _).getD k Zv).upThru;rw[eZ];split
   ·rename_i hh;subst hh;rw[<-ho'];exact key.2
   ·exact⟨Zy _,Zy _⟩
 ·rw[if_neg ki]at hm;cases hm
theorem SG{n:zU}(hb:m.buckets=n.buckets):yY m=yY n:=by funext i;unfold yY qN kU;rw[hb]
theorem BI{n:zU}(hb:m.buckets=n.buckets)(hl:m.leaf=n.leaf):vX m=vX n:=by
 have h1:Kx m=Kx n:=by funext its b k;unfold Kx;rw[SG hb]
 have h2:OM m=OM n:=by funext i b;unfold OM KM XV;rw[h1,hb]
 unfold vX;rw[h2,hb,hl]
theorem iS{v:Int}(h:vX m=true)(h0:¬(v<0\/3<v)):vX {m with leaf:=v}=true:=by
 have h1:vX {m with leaf:=v}=(decide (0<=v)&&decide (v<=3)&&(List.range m.buckets.length).all (fun i=>OM m i (m.buckets.getD i Kk))):=by unfold vX;congr 1
 rw[h1];unfold vX at h;simp only[jW,decide_eq_true_eq]at h ⊢;exact⟨⟨by omega,by omega⟩,h.2⟩
variable{b:yL}
theorem j4w(h:vX m=true)(hb:b∈m.buckets):b.items.length=b.weights.length:=by unfold vX at h;simp only[jW,qG]at h;obtain⟨i,hi,rfl⟩:=List.mem_iff_getElem.1 hb;have:=h.2 i (List.mem_range.2 hi);rw[jU,jO hi]at this;unfold OM KM at this;simp only[jW,Jn,beq_iff_eq]at this;exact this.1.1.2
variable{P:yL->Prop}
theorem nX{b:yL}{s:List yL×Bool}{c:yL}(hb:P b)(hc:P c)(hs:∀x∈s.1,P x):∀x∈(kJ b s c).1,P x:=by
 unfold kJ;intro x hx;dsimp only at hx;by_cases h1:s.2=false/\c.id<=b.id
 ·rw[if_pos h1]at hx;by_cases h2:c.id=b.id
  ·rw[if_pos h2]at hx;simp only[zN,zX]at hx;rcases hx with hx|rfl
   ·exact hs x hx
   ·exact hb
  ·rw[if_neg h2]at hx;simp only[zN,zX]at hx;rcases hx with(hx|rfl)|rfl
   ·exact hs x hx
   ·exact hb
   ·exact hc
 ·rw[if_neg h1]at hx;by_cases h2:c.id=b.id
  ·rw[if_pos h2]at hx;exact hs x hx
  ·rw[if_neg h2]at hx;simp only[zN,zX]at hx;rcases hx with hx|rfl
   ·exact hs x hx
   ·exact hc
theorem Ow{b:yL}{P:yL->Prop}(hb:P b):∀(l:List yL) (s:List yL×Bool),(∀x∈l,P x)->(∀x∈s.1,P x)->∀x∈(l.foldl (kJ b) s).1,P x
 |[],s,_,hs=>hs
 |c::r,s,hl,hs=>Ow hb r _ (fun x hx=>hl x (by simp[hx])) (nX hb (hl c (by simp)) hs)
theorem j0x{l:List yL}{b:yL}(hb:P b)(hl:∀x∈l,P x):∀x∈j5r l b,P x:=by
 unfold j5r;have h:=Ow hb l ([],decide (b.items.length=0)) hl (fun x hx=>by cases hx);intro x hx;dsimp only at hx;split at hx
 ·exact h x hx
 ·rw[zN,zX]at hx;rcases hx with hx|rfl
  ·exact h x hx
  ·exact hb
def nB:Bool->Nat
 |true=>0
 |false=>1
theorem NY(p:Bool):nB p<=1:=by cases p<;>simp[nB]
theorem cD{s:List yL×Bool}{c:yL}:(kJ b s c).1.length+nB (kJ b s c).2<=s.1.length+nB s.2+1:=by
 obtain⟨l,p⟩:=s;unfold kJ;dsimp only;by_cases h1:p=false/\c.id<=b.id
 ·rw[if_pos h1,h1.1];by_cases h2:c.id=b.id
  ·rw[if_pos h2];simp[nB]
  ·rw[if_neg h2];simp[nB]
 ·rw[if_neg h1];by_cases h2:c.id=b.id
  ·rw[if_pos h2];simp
  ·rw[if_neg h2];simp;omega
theorem QZ{b:yL}:∀(l:List yL) (s:List yL×Bool),(l.foldl (kJ b) s).1.length+nB (l.foldl (kJ b) s).2<=s.1.length+nB s.2+l.length
 |[],s=>jM _
 |c::r,s=>by have h1:=QZ (b:=b) r (kJ b s c);have h2:=cD (b:=b) (s:=s) (c:=c);rw[Vp,xA];omega
theorem fO(l:List yL)(b:yL):(j5r l b).length<=l.length+1:=by
 unfold j5r;have h:=QZ (b:=b) l ([],decide (b.items.length=0));have h0:=NY (decide (b.items.length=0));simp only[xH]at h;dsimp only;split
 ·omega
 ·rename_i hh;have hh:(l.foldl (kJ b) ([],decide (b.items.length=0))).2=false:=by simpa using hh
  rw[hh]at h;rw[jQ,fV];have h1:nB false=1:=rfl;omega
theorem SB:∀(l:List xD) (p:xD),(Xi l p).length<=l.length+1
 |[],p=>jM _
 |q::r,p=>by
  have:=SB r p;unfold Xi;split
  ·simp only[xA];omega
  ·split<;>simp only[xA]<;>omega
structure QU(m:zU)(k:Nat):Prop where
 os:cV m.osds
 good:vX m=true
 no:m.osds.length<=8
 np:m.pools.length<=k
 nb:m.buckets.length<=k
 ni:∀b∈m.buckets,b.items.length<=1048576/\b.weights.length<=1048576
variable{k:Nat}
theorem j2i(h:QU m k)(hi:c.bucket.items.length<=1048576)(hm:xV m c=0):QU (kI m c) (k+1):=by
 have hr:=NW h.os hm;have hg:vX (kI m c)=true:=by
  unfold xV at hm;unfold kI;by_cases k5:c.kind=5
  ·rw[if_pos k5];exact(BI rfl rfl).trans h.good
  by_cases k6:c.kind=6
  ·rw[if_neg k5,if_pos k6];rw[if_neg (by unfold Xx;omega),if_neg k5,if_pos k6]at hm;unfold Yd at hm;split at hm
   ·cases hm
   ·split at hm
    ·cases hm
    ·split at hm
     ·rename_i hh;exact hh
     ·cases hm
  by_cases k7:c.kind=7
  ·rw[if_neg k5,if_neg k6,if_pos k7];rw[if_neg (by unfold Xx;omega),if_neg k5,if_neg k6,if_pos k7]at hm;refine iS h.good fun hh=> ?_;rw[if_pos hh]at hm;cases hm
  rw[if_neg k5,if_neg k6,if_neg k7];exact(BI rfl rfl).trans h.good
 refine⟨hr.1,hg,?_,?_,?_,?_⟩
 ·unfold xV at hm;have:=h.no;unfold kI;split
  ·exact h.no
  split
  ·exact h.no
  split
  ·exact h.no
  ·show((VQ _ _).set _ _).length<=_;rw[fA];by_cases ki:Xx c.kind
   ·rw[if_pos ki]at hm;by_cases ho:c.osd<0\/8<=c.osd
    ·rw[if_pos ho]at hm;cases hm
    ·omega
   ·rw[if_neg ki,if_neg ‹_›,if_neg ‹_›,if_neg ‹_›]at hm;cases hm
 ·unfold kI;have:=SB m.pools c.pool;have:=h.np;split
  ·show(Xi _ _).length<=_;omega
  split
  ·show m.pools.length<=_;omega
  split
  ·show m.pools.length<=_;omega
  ·show m.pools.length<=_;omega
 ·unfold kI;have:=fO m.buckets c.bucket;have:=h.nb;split
  ·show m.buckets.length<=_;omega
  split
  ·show(j5r _ _).length<=_;omega
  split
  ·show m.buckets.length<=_;omega
  ·show m.buckets.length<=_;omega
 ·have key:∀b∈(kI m c).buckets,b.items.length<=1048576:=by
   unfold kI
   split
   ·exact fun b hb=>(h.ni b hb).1
   split
   ·exact j0x (P:=fun b=>b.items.length<=1048576) hi fun b hb=>(h.ni b hb).1
   split
   ·exact fun b hb=>(h.ni b hb).1
   ·exact fun b hb=>(h.ni b hb).1
  exact fun b hb=>⟨key b hb,by rw[<-j4w hg hb];exact key b hb⟩
theorem Lt(m:zU)(c:Yn):(kI m c).epoch=m.epoch:=by
 unfold kI;split
 ·rfl
 split
 ·rfl
 split<;>rfl
theorem Eu:∀{l:List Yn} {m:zU} {k:Nat},QU m k->(∀c∈l,c.bucket.items.length<=1048576)->(Jh m l).2=0->QU (Jh m l).1 (k+l.length)/\Cb m.osds (Jh m l).1.osds/\(Jh m l).1.epoch=m.epoch
 |[],m,k,h,_,_=>⟨h,Cb.refl _,rfl⟩
 |c::r,m,k,h,hi,h0=>by
  unfold Jh at h0 ⊢;by_cases hm:xV m c=0
  ·rw[if_pos hm]at h0 ⊢;have h1:=j2i h (hi c (by simp)) hm;obtain⟨a,b,d⟩:=Eu h1 (fun c hc=>hi c (by simp[hc])) h0;refine⟨?_,(NW h.os hm).2.trans b,d.trans (Lt m c)⟩;rw[xA,show k+(r.length+1)=k+1+r.length by omega];exact a
  ·rw[if_neg hm]at h0;exact absurd h0 hm
theorem QU.mono{k k':Nat}(h:QU m k)(hk:k<=k'):QU m k':=⟨h.os,h.good,h.no,by have:=h.np;omega,by have:=h.nb;omega,h.ni⟩
theorem Ah{x:Xt}(h:QU m k)(hi:∀c∈x.changes,c.bucket.items.length<=1048576)(h0:(vU m x).2=0):
 QU (vU m x).1 (k+x.changes.length)/\Cb m.osds (vU m x).1.osds/\(vU m x).1.epoch=m.epoch+1:=by
 unfold vU at h0 ⊢
 by_cases he:m.epoch=9223372036854775807\/¬x.epoch=m.epoch+1
 ·rw[if_pos he]at h0;cases h0
 rw[if_neg he]at h0 ⊢
 by_cases ha:(Jh m x.changes).2=0
 ·rw[if_pos ha]at h0 ⊢;obtain⟨a,b,c⟩:=Eu h hi ha;exact⟨⟨a.os,(BI rfl rfl).trans a.good,a.no,a.np,a.nb,a.ni⟩,b,by show x.epoch=_;omega⟩
 ·rw[if_neg ha]at h0;exact absurd h0 ha
structure j3M(l:List zU)(k:Nat):Prop where
 ne:l≠[]
 st:∀(i:Nat) m,l[i]? =some m->m.epoch=(i:Int)/\QU m k
 ri:∀(i:Nat) m m',l[i]? =some m->l[i+1]? =some m'->Cb m.osds m'.osds
variable{l:List zU}
theorem tY(h:l≠[]):l[l.length-1]? =some (l.getLastD Gb):=by
 rw[<-List.getLast?_eq_getElem?,List.getLastD_eq_getLast?];cases hq:l.getLast? with
 |none=>exact absurd (List.getLast?_eq_none_iff.1 hq) h
 |some x=>rfl
theorem j3M.snoc(h:j3M l k){x:Xt}(hi:∀c∈x.changes,c.bucket.items.length<=1048576)(h0:(vU (l.getLastD Gb) x).2=0):j3M (l++[(vU (l.getLastD Gb) x).1]) (k+x.changes.length):=by
 have hl:=tY h.ne;have hp:0<l.length:=List.length_pos_iff.2 h.ne;obtain⟨he,hs⟩:=h.st _ _ hl;obtain⟨a,b,c⟩:=Ah hs hi h0;refine⟨by simp,fun i m hm=> ?_,fun i m m' h1 h2=> ?_⟩
 ·by_cases hi:i<l.length
  ·rw[jZ hi]at hm;exact⟨(h.st i m hm).1,(h.st i m hm).2.mono (by omega)⟩
  ·by_cases hi2:i=l.length
   ·subst hi2;rw[zQ (jM _),Ju]at hm;cases hm;exact⟨by omega,a⟩
   ·rw[qY (by simp;omega)]at hm;cases hm
 ·by_cases hi:i+1<l.length
  ·rw[jZ (by omega)]at h1;rw[jZ hi]at h2;exact h.ri i m m' h1 h2
  ·by_cases hi2:i+1=l.length
   ·rw[jZ (by omega)]at h1;rw[zQ (by omega),show i+1-l.length=0 by omega]at h2;cases h2;rw[show l.length-1=i by omega,h1]at hl;cases hl;exact b
   ·rw[qY (by simp;omega)]at h2;cases h2
def vY(p:xD)(s:List xD×Bool)(q:xD):List xD×Bool:=
 if s.2=false/\p.id<=q.id then(if q.id=p.id then(s.1++[p],true)else(s.1++[p]++[q],true))else(s.1++[q],s.2)
def j7w(l:List xD)(p:xD):List xD:=if(l.foldl (vY p) ([],false)).2 then(l.foldl (vY p) ([],false)).1 else(l.foldl (vY p) ([],false)).1++[p]
theorem DP(p:xD):∀(l a:List xD),l.foldl (vY p) (a,true)=(a++l,true)
 |[],a=>by simp
 |q::r,a=>by rw[Vp,show vY p (a,true) q=(a++[q],true)by unfold vY;simp,DP p r];simp
theorem CG(p:xD):∀(l a:List xD),(if(l.foldl (vY p) (a,false)).2 then(l.foldl (vY p) (a,false)).1 else(l.foldl (vY p) (a,false)).1++[p])=a++Xi l p
 |[],a=>by simp[Xi]
 |q::r,a=>by
  rw[Vp];unfold Xi;by_cases h:q.id<p.id
  ·rw[if_pos h,show vY p (a,false) q=(a++[q],false)by unfold vY;rw[if_neg (by simp;omega)],CG p r];simp
  ·rw[if_neg h];by_cases h2:q.id=p.id
   ·rw[if_pos h2,show vY p (a,false) q=(a++[p],true)by unfold vY;rw[if_pos ⟨rfl,by omega⟩,if_pos h2],DP];simp
   ·rw[if_neg h2,show vY p (a,false) q=(a++[p]++[q],true)by unfold vY;rw[if_pos ⟨rfl,by omega⟩,if_neg h2],DP];simp
theorem j2H(l:List xD)(p:xD):j7w l p=Xi l p:=by have:=CG p l [];rw[xS]at this;exact this
theorem Hz{p:xD}:∀{l:List xD} {i:Nat},i<=l.length->(∀j,j<i->(l.getD j yW).id<p.id)->Xi l p=l.take i++Xi (l.drop i) p
 |l,0,_,_=>by simp
 |[],i+1,h,_=>by simp at h
 |q::r,i+1,h,hj=>by
  have h0:=hj 0 (by omega);rw[List.getD_cons_zero]at h0;rw[Km,List.drop_succ_cons];conv=>lhs;unfold Xi
  rw[if_pos h0,Hz (i:=i) (by simp at h;omega) fun j hj'=>by have:=hj (j+1) (by omega);rw[List.getD_cons_succ]at this;exact this];rfl
variable{l:List xD}{p:xD}
theorem tT(hj:∀j,j<l.length->(l.getD j yW).id<p.id):Xi l p=l++[p]:=by rw[Hz (jM _) hj,xC,Zh];rfl
theorem j26{q:xD}(hi:l[i]? =some q)(hj:∀j,j<i->(l.getD j yW).id<p.id)(h:q.id=p.id):Xi l p=l.set i p:=by have hlt:=(List.getElem?_eq_some_iff.1 hi).1;have he:=(List.getElem?_eq_some_iff.1 hi).2;rw[Hz (by omega) hj,qS hlt,he];unfold Xi;rw[if_neg (by omega),if_pos h,Qv,if_pos hlt]
theorem j27{q:xD}(hi:l[i]? =some q)(hj:∀j,j<i->(l.getD j yW).id<p.id)(h:p.id<q.id):Xi l p=l.take i++p::l.drop i:=by have hlt:=(List.getElem?_eq_some_iff.1 hi).1;have he:=(List.getElem?_eq_some_iff.1 hi).2;rw[Hz (by omega) hj];congr 1;rw[qS hlt,he];unfold Xi;rw[if_neg (by omega),if_neg (by omega)]
variable{n p:Nat}{e:TypeId}
theorem zJ.ofAt{α:Type}{R:Zl α}{L:List (List AV)}{xs:List α}(hat:h.at p=some (.cells L.flatten e))(hF:F p)(he:YP R F h L xs)(hn:xs.length=n):zJ R F h (.sl p 0 n (.kn n)) xs:=by subst hn;have hl:=QM (z:=R.z) he.lens;refine .mk ⟨he.lens,.inr ⟨p,0,.kn xs.length,L.flatten,by rw[he.1],by unfold Zj;rw[hat],?_⟩⟩ (fun b off n cap e=>by cases e;exact hF) (fun b off n cap e=>by cases e;exact jM _) he;unfold cut;rw[if_pos (by rw[hl];omega),xK,<-hl,xC]
variable{x:AB}
section
def j6J:List AV:=[.lit (.int .i64 0),.lit (.int .i64 0),.lit (.slice none 0 0),.lit (.slice none 0 0)]
def zK(n:Nat):List AV:=Mf j6J n
section
variable {d:Option Nat} {ty ps af:_} {g:_} {t:TM} {h:AH}
theorem j5W{i:Nat}{n:Nat}(hi:t.get i= .lit (.int .i64 n))(hn:n<=1000000000):
 Js Tryz.prog (zH Tryz.prog kR) ⟨d,.makeSlice 64 (.tmp i) (.tmp i),ty,ps,af,g⟩ t h=some (.val (.sl h.n 0 n (.kn n)),h.push (.cells (zK n) 122)):=by
 have e1:und (zH Tryz.prog kR) 64=some (.slice 122):=by kernel_rfl
 have h00:(zH Tryz.prog kR 122).map (fun i=>(i.bytes,i.zero.cells,i.size))=some (64,j6J,4):=by kernel_rfl
 obtain⟨i0,h0,he⟩:=Option.map_eq_some_iff.1 h00
 obtain⟨hb,hz,hs⟩:i0.bytes=64/\i0.zero.cells=j6J/\i0.size=4:=by simp only[jV]at he;exact he
 show Zf _ t h _ _ _=_
 unfold Zf
 rw[e1,show xJ t (.tmp i)=some (t.get i)from rfl,hi]
 simp only[Kp,Gd]
 rw[if_pos (Int.natCast_nonneg n)]
 simp only[vD,h0,hb,hz,hs]
 rw[if_pos (by simp;refine⟨⟨by omega,by omega⟩,rfl⟩)]
 rfl
end
theorem fR(n:Nat):zK (n+1)=j6J++zK n:=rfl
theorem j5t(n:Nat):(zK n).length=n * 4:=by
 induction n with
 |zero=>rfl
 |succ n ih=>rw[fR,jQ,ih];show 4+_=_;omega
theorem j2N{K:List (List AV)}{i n:Nat}(hK:K.length=i)(hk4:∀c∈K,c.length=4)(hi:i<n)(a b c d:AV):
 put (K.flatten++zK (n-i)) (i * 4) [a,b,c,d]=some ((K++[[a,b,c,d]]).flatten++zK (n-(i+1))):=by
 have hl:K.flatten.length=i * 4:=by rw[QM hk4,hK]
 have hz:n-i=(n-(i+1))+1:=by omega
 unfold put
 rw[if_pos (by rw[jQ,hl,j5t];show i * 4+4<=_;omega)]
 congr 1
 rw[Eo hl,hz,fR,<-zP,List.drop_left' (by rw[jQ,hl];rfl)]
 simp
structure JE(n0 p0:Nat)(h:AH)(m:zU)(vo vp vb:AV):Prop where
 o:yX Dt n0 h vo 136 m.osds
 p:yX XR n0 h vp 108 m.pools
 b:zJ Vq (fun k=>n0<=k/\qR vo k/\qR vp k/\k≠p0) h vb m.buckets
 ao:qR vo p0
 ap:qR vp p0
theorem JE.mono{n0 n1 p0:Nat}{h:AH}(hm:JE n0 p0 h m vo vp vb)(hn:n1<=n0):JE n1 p0 h m vo vp vb:=
 ⟨hm.o.mono hn,hm.p.mono hn,hm.b.lift fun b hb _=>⟨rfl,by omega,hb.2⟩,hm.ao,hm.ap⟩
theorem JE.at{n0 p0:Nat}{F:Nat->Prop}{h:AH}(hm:JE n0 p0 h m vo vp vb)(hF:∀k,n0<=k->F k):vG F h m vo vp vb:=
 ⟨hm.o.toSl hF,hm.p.toSl hF,hm.b.lift fun b hb _=>⟨rfl,hF b hb.1⟩⟩
theorem JE.ext{n0 n1 p0:Nat}{h h':AH}(hm:JE n0 p0 h m vo vp vb)(he:zM n1 h h')(hn:h.n<=n1):JE n0 p0 h' m vo vp vb:=
 ⟨hm.o.ext he hn,hm.p.ext he hn,hm.b.ext he hn,hm.ao,hm.ap⟩
theorem JE.lt{n0 p0 p1:Nat}{h:AH}(hm:JE n0 p0 h m vo vp vb)(hn:h.n<=p1):JE n0 p1 h m vo vp vb:=
 ⟨hm.o,hm.p,hm.b.lift fun b hb hlt=>⟨rfl,hb.1,hb.2.1,hb.2.2.1,by omega⟩,hm.o.apart hn,hm.p.apart hn⟩
theorem qE.apartLt{α:Type}{R:Zl α}{G:Nat->Prop}{n0:Nat}{h:AH}{xs:List α}(ho:qE R G n0 h v e xs){b:Nat}(hb:b<n0):qR v b:=fun off n cap hv=>by
 obtain⟨L,h1,h2⟩:=ho;rcases h1.2 with⟨hh,_⟩|⟨p,hh,hp,hat⟩
 ·rw[hh]at hv;cases hv
 ·rw[hh]at hv;cases hv;omega
theorem yX.apartLt{α:Type}{R:Zl α}{n0 b:Nat}{h:AH}{d:AV}{xs:List α}(hd:yX R n0 h d e xs)(hb:b<n0):qR d b:=by
 rcases hd with ho|⟨rfl,p,hp,rfl,hat⟩
 ·exact qE.apartLt ho hb
 ·exact fun off n cap e=>by cases e;omega
theorem yX.put_ap{α:Type}{R:Zl α}{n0 p:Nat}{h:AH}{d:AV}{xs:List α}(hd:yX R n0 h d e xs)(hp:qR d p):yX R n0 (h.put p x) d e xs:=by
 rcases hd with ho|⟨rfl,q,hq,rfl,hat⟩
 ·refine .inl (ho.lift (fun b off n cap ev=> ?_) (fun b hb=>hb.elim));exact zE _ (fun hh=>hp off n cap (hh▸ev))
 ·exact .inr ⟨rfl,q,hq,rfl,(zE _ (fun hh=>hp 0 0 (.kn 0) (by rw[hh]))).trans hat⟩
theorem dQ{F:Nat->Prop}{H:AH}(hm:vG F H m vo vp vb)(hok:Ds m)(hb:m.buckets.length<=1000000000):
 vR 32 [vS m vo vp vb] H fun r h'=>zM H.n H h'/\∃ro rp rb,r=vS m ro rp rb/\∀p0,p0<H.n->JE H.n p0 h' m ro rp rb:=by
 refine zW Tryz.func32 rfl rfl ?_
 obtain⟨⟨lo,-⟩,⟨lp,-⟩,lb,hbk⟩:=hok
 have o1:=hm.o.one
 have o2:=hm.p.one
 have o3:=hm.b.one
 have s1:=hm.o.isSl
 have s2:=hm.p.isSl
 have s3:=hm.b.isSl
 simp only[jN,seval,Tryz.ntmps32,vS,o1,o2,o3]
 obtain⟨hp,hhp⟩:∃hp,hp=(H.push (.cells [.lit (.int .i64 m.epoch),vo,vp,vb,.lit (.int .i64 m.leaf)] 66)).push (.cells [.lit (.int .i64 0),.lit (.slice none 0 0),.lit (.slice none 0 0),.lit (.slice none 0 0),.lit (.int .i64 0)] 66):=⟨_,rfl⟩
 have EP:zM H.n H hp:=hhp▸((zM.refl _ _).push _ (jM _)).push _ (by rw[zF];omega)
 have P0:hp.at H.n=some (.cells [.lit (.int .i64 m.epoch),vo,vp,vb,.lit (.int .i64 m.leaf)] 66):=hhp▸(xE _ (by rw[zF];omega)).trans (zI _ _)
 have Z0:=QJ hhp
 have nP:hp.n=H.n+2:=by rw[hhp,zF,zF]
 have LP0:=xI P0
 rw[<-hhp]
 clear hhp
 rw[zL [0,1,3,4,2,6,5,7,8,9] 632895786129742360360258634752 (by kernel_rfl)]
 repeat ((with_reducible refine jX ?_;simp only[vO];try simp only[vP,seval]);simp only[jN,seval,zG,LP0,s1,s2])
 refine(sI (hm.o.ext EP (jM _)) lo).mono ?_
 rintro ro h3 ⟨e3,ro1⟩
 have P3:=(e3.2 _ (jR P0)).trans P0
 have Z3:=(e3.2 _ (jR Z0)).trans Z0
 have LP3:=xI P3
 have E3:=EP.step e3
 have r2:=(ro1.toSl (F:=fun _=>True) (fun _ _=>trivial)).one
 repeat ((with_reducible refine jX ?_;simp only[vO];try simp only[vP,seval]);simp only[jN,seval,zG,LP3,s2])
 refine(sJ (hm.p.ext E3 (jM _)) lp).mono ?_
 rintro rp h4 ⟨e4,rp1⟩
 have P4:=(e4.2 _ (jR P3)).trans P3
 have Z4:=(e4.2 _ (jR Z3)).trans Z3
 have E4:=E3.step e4
 have l4:=jR P4
 have l3:hp.n<=h3.n:=e3.1
 have l5:h3.n<=h4.n:=e4.1
 have q2:=(rp1.toSl (F:=fun _=>True) (fun _ _=>trivial)).one
 have d3:=hm.b.lenD
 repeat ((with_reducible refine jX ?_;simp only[vO];try simp only[vP,seval]);simp only[jN,seval,zG,P4,l4,r2,q2,s3,d3])
 rw[j5W (n:=m.buckets.length) (by simp only[jN,seval]) hb]
 obtain⟨h5,hh5⟩:∃h5,h5=(h4.put H.n (.cells [.lit (.int .i64 m.epoch),ro,vp,vb,.lit (.int .i64 m.leaf)] 66)).put H.n (.cells [.lit (.int .i64 m.epoch),ro,rp,vb,.lit (.int .i64 m.leaf)] 66):=⟨_,rfl⟩
 have n5:h5.n=h4.n:=by rw[hh5,kZ,kZ]
 have P5:h5.at H.n=some (.cells [.lit (.int .i64 m.epoch),ro,rp,vb,.lit (.int .i64 m.leaf)] 66):=hh5▸qJ _ (by rw[kZ];exact l4)
 have k5:∀b,b≠H.n->h5.at b=h4.at b:=fun b hb=>by rw[hh5,zE _ (Ne.symm hb),zE _ (Ne.symm hb)]
 have o5:yX Dt hp.n h5 ro 136 m.osds:=hh5▸((ro1.ext e4 (jM _)).put (by omega)).put (by omega)
 have p5:yX XR h3.n h5 rp 108 m.pools:=hh5▸(rp1.put (by omega)).put (by omega)
 have E5:zM H.n H h5:=hh5▸(E4.put _ (jM _)).put _ (jM _)
 rw[<-hh5]
 clear hh5
 obtain⟨h6,hh6,e6,Q6⟩:=xX h5 (.cells (zK m.buckets.length) 122)
 have n6:h6.n=h5.n+1:=by rw[hh6,zF]
 have P6:=(e6.2 _ (jR P5)).trans P5
 have E6:=E5.step e6
 have o6:=o5.ext e6 (jM _)
 have p6:=p5.ext e6 (jM _)
 have LP6:=xI P6
 have Z6:h6.at (H.n+1)=some (.cells [.lit (.int .i64 0),.lit (.slice none 0 0),.lit (.slice none 0 0),.lit (.slice none 0 0),.lit (.int .i64 0)] 66):=(e6.2 _ (by omega)).trans ((k5 _ (by omega)).trans Z4)
 rw[<-hh6]
 clear hh6 e6
 simp only[jN,seval,n5,s3,d3,LP6]
 rw[n5]at Q6
 obtain⟨q,hq⟩:∃q,q=h4.n:=⟨_,rfl⟩
 obtain⟨n,hN⟩:∃n,n=m.buckets.length:=⟨_,rfl⟩
 have aq1:qR ro q:=(ro1.ext e4 (jM _)).apart (by omega)
 have aq2:qR rp q:=rp1.apart (by omega)
 rw[<-hq,<-hN]
 rw[<-hq,<-hN]at Q6
 have qs1:isSl (.sl q 0 n (.kn n))=true:=rfl
 have qs2:lenD (.sl q 0 n (.kn n))=n:=rfl
 have qs3:slB (.sl q 0 n (.kn n))=q:=rfl
 have qs4:slO (.sl q 0 n (.kn n))=0:=rfl
 refine kO n (fun i t h=>∃K,h.at q=some (.cells (K.flatten++zK (n-i)) 122)/\K.length=i/\YP Vq (fun k=>h6.n<=k/\qR ro k/\qR rp k/\k≠q) h K (m.buckets.take i)/\zM q h6 h/\yX Dt hp.n h ro 136 m.osds/\yX XR h3.n h rp 108 m.pools/\t.n=35/\t.get 1= .ptr H.n 0/\t.get 2= .ptr (H.n+1) 0/\t.get 3= .sl q 0 n (.kn n)/\t.get 19=vb/\t.get 20= .lit (.int .i64 n)/\t.get 21= .lit (.int .i64 i)) ?_ ?_ _ _ ?_
 ·rintro i t h hlt hc ⟨K,hat,hK,hE,he,ho,hp',ga⟩ ih;obtain⟨x,hx⟩:∃x,m.buckets[i]? =some x:=⟨_,jO (by omega)⟩;have E1:zM H.n H h:=E6.trans (he.mono (by omega));obtain⟨c,hc1,hld,hld0⟩:=hm.b.atE (T:=zH Tryz.prog kR) E1 Qa hx;obtain⟨va,vw,rfl,ha,hw,hi⟩:=Jx.1 hc1;have a1:=ha.one;have w1:=hw.one;obtain⟨la,lw⟩:=hbk x (zR hx);have hws:=xG (n:=n) hlt (by unfold Sm at lb;omega);rw[<-hN]at d3;simp only[jN,seval,s3,d3,ga,hlt,hc,hld0,a1,w1];obtain⟨hA,hhA⟩:∃hA,hA=h.push (.cells [.lit (.int .i64 x.id),.lit (.int .i64 x.kind),va,vw] 122):=⟨_,rfl⟩;have eA:=ZS hhA;rw[<-hhA];clear hhA;have EA:=E1.step eA;refine(Nz x (ha.ext EA (jM _)) (hw.ext EA (jM _)) la lw).mono ?_;rintro _ hB ⟨eB,ra,rw1,rfl,b1,b2⟩;have u1:=(b1.toSl (F:=fun _=>True) (fun _ _=>trivial)).one;have u2:=(b2.toSl (F:=fun _=>True) (fun _ _=>trivial)).one;have lq:=jR hat;have lA:=eA.1;have hatB:=(eB.2 _ (by omega)).trans ((eA.2 _ lq).trans hat);have lB:=jR hatB;have hput:=j2N (n:=n) hK (fun c hc=>hE.lens c hc) hlt (.lit (.int .i64 x.id)) (.lit (.int .i64 x.kind)) ra rw1;simp only[Jy,jB,jE,jF,Xq,qs1,qs2,qs3,qs4,u1,u2,hlt,hatB,hput,hws,ga];refine ih _ _ ⟨_,qJ _ lB,by simp[hK],?_,((he.trans (eA.mono (by omega))).trans (eB.mono (by omega))).put _ (jM _),((ho.ext eA (jM _)).ext eB (jM _)).put_ap aq1,((hp'.ext eA (jM _)).ext eB (jM _)).put_ap aq2,?_⟩
  ·rw[qV,hx];refine(hE.lift fun b hb hlb=>⟨?_,hb⟩).snoc (Jx.2 ⟨ra,rw1,rfl,(b1.put_ap ?_).toSl ?_,(b2.put_ap ?_).toSl ?_,hi.1,hi.2⟩)
   ·rw[zE _ (Ne.symm hb.2.2.2),eB.2 _ (by omega),eA.2 _ hlb]
   ·exact b1.apartLt (by omega)
   ·exact fun b hb=>⟨by omega,ho.apart (by omega),hp'.apart (by omega),by omega⟩
   ·exact b2.apartLt (by omega)
   ·exact fun b hb=>⟨by omega,ho.apart (by omega),hp'.apart (by omega),by omega⟩
  ·simp only[jN,seval,ga]
 ·rintro t h hc ⟨K,hat,hK,hE,he,ho,hp',ga⟩;have lh6:=he.1;have PH:=(he.2 _ (by omega)).trans P6;have ZH:=(he.2 _ (by omega)).trans Z6;have LPH:=xI PH;have lPH:=jR PH;have lZH:=jR ZH;have hne:¬H.n=H.n+1:=by omega
  rw[<-hN]at d3;simp only[jN,seval,s3,d3,ga,hc,PH,ZH,lPH,lZH,r2,q2,hne];rw[Ju,show zK 0=[]from rfl,kH]at hat;rw[hN,xC]at hE;refine⟨((E6.trans (he.mono (by omega))).put _ (jM _)).put _ (by omega),_,_,_,rfl,fun p0 hp0=>⟨(((ho.put_ap ?_).put_ap ?_).mono (by omega)),(((hp'.put_ap ?_).put_ap ?_).mono (by omega)),?_,ho.apartLt (by omega),hp'.apartLt (by omega)⟩⟩
  ·exact ho.apartLt (by omega)
  ·exact ho.apartLt (by omega)
  ·exact hp'.apartLt (by omega)
  ·exact hp'.apartLt (by omega)
  ·refine zJ.ofAt (e:=122) (L:=K) ?_ ⟨by omega,aq1,aq2,by omega⟩ (hE.lift fun b hb hlb=>⟨?_,by have:=hb.1;omega,hb.2.1,hb.2.2.1,by have:=hb.1;omega⟩) hN.symm
   ·rw[zE _ (by omega),zE _ (by omega),hat]
   ·have:=hb.1;rw[zE _ (by omega),zE _ (by omega)]
 ·refine⟨[],?_,rfl,YP.nil,zM.refl _ _,o6,p6,?_⟩
  ·exact Q6
  ·simp only[jN,seval];try simp
end
variable{G:Nat->Prop}
theorem Fr.toExtL{α:Type}{R:Zl α}{h1:AH}{v1:AV}{xs:List α}(f:Fr h v h1 v1)(ho:qE R G n0 h v e xs)(hn0:n0<=h.n):zM n0 h h1:=⟨f.1,fun b hb=>(f.2 b (by omega) (ho.apartLt hb)).1⟩
variable{L:List yL}
theorem j3v{i n:Nat}(h1:L.length<=i)(h2:i<n)(h3:n=k)(sb:(k+1) * 64<=140737488355328):((L++[b]).length+1) * 64<=140737488355328:=by
 have:(L++[b]).length=L.length+1:=by simp
 omega
theorem NS{n:Nat}(h1:L.length<=i+1)(h2:i<n)(h3:n=k)(sb:(k+1) * 64<=140737488355328):((L).length+1) * 64<=140737488355328:=by omega
theorem j3w{l:Nat}(h1:l<=k)(sb:(k+1) * 64<=140737488355328):(l+1) * 64<=140737488355328:=by omega
theorem qE.putLt{α:Type}{R:Zl α}{d:AV}{xs:List α}(ho:qE R (fun k=>n0<=k) n0 h d e xs)(hp:p<n0):qE R (fun k=>n0<=k) n0 (h.put p x) d e xs:=by
 refine ho.lift (fun b off n cap ev=> ?_) (fun b hb _ _=>zE _ (by omega))
 ·obtain⟨L,h1,h2⟩:=ho;rcases h1.2 with⟨hh,_⟩|⟨q,hh,hq,hat⟩
  ·rw[hh]at ev;cases ev
  ·rw[hh]at ev;cases ev;exact zE _ (by omega)
variable{va vw:AV}
theorem j6G{m:zU}(b:yL)(hm:vG F H m vo vp vb)(sb:(m.buckets.length+1) * 64<=140737488355328)(hbk:∀b∈m.buckets,Sm 8 b.items/\Sm 8 b.weights)(ha:zJ qB F H va b.items)(hw:zJ qB F H vw b.weights)(la:Sm 8 b.items)(lw:Sm 8 b.weights)(hi:Zq b.id/\Zq b.kind):
 vR 78 [vS m vo vp vb,Xq b va vw] H fun r h'=>zM H.n H h'/\∃rb,r=vS (JO m b) vo vp rb/\zJ Vq (fun k=>H.n<=k) h' rb (j5r m.buckets b):=by
 refine zW Tryz.func78 rfl rfl ?_
 have o1:=hm.o.one
 have o2:=hm.p.one
 have o3:=hm.b.one
 have s3:=hm.b.isSl
 have d3:=hm.b.lenD
 have a1:=ha.one
 have w1:=hw.one
 have a2:=ha.isSl
 have a3:=ha.lenD
 simp only[jN,seval,Tryz.ntmps78,vS,Xq,o1,o2,o3,a1,w1,a2,a3,s3,d3]
 obtain⟨hp,hhp⟩:∃hp,hp=((H.push (.cells [.lit (.int .i64 m.epoch),vo,vp,vb,.lit (.int .i64 m.leaf)] 66)).push (.cells [.lit (.int .i64 b.id),.lit (.int .i64 b.kind),va,vw] 122)).push (.cells [.lit (.int .i64 0),.lit (.slice none 0 0),.lit (.slice none 0 0),.lit (.slice none 0 0),.lit (.int .i64 0)] 66):=⟨_,rfl⟩
 have EP:zM H.n H hp:=hhp▸(((zM.refl _ _).push _ (jM _)).push _ (by rw[zF];omega)).push _ (by rw[zF,zF];omega)
 have P0:hp.at H.n=some (.cells [.lit (.int .i64 m.epoch),vo,vp,vb,.lit (.int .i64 m.leaf)] 66):=hhp▸((xE _ (by rw[zF,zF];omega)).trans (xE _ (by rw[zF];omega))).trans (zI _ _)
 have B0:hp.at (H.n+1)=some (.cells [.lit (.int .i64 b.id),.lit (.int .i64 b.kind),va,vw] 122):=hhp▸(xE _ (by rw[zF,zF];omega)).trans (zI _ _)
 have Z0:hp.at (H.n+2)=some (.cells [.lit (.int .i64 0),.lit (.slice none 0 0),.lit (.slice none 0 0),.lit (.slice none 0 0),.lit (.int .i64 0)] 66):=hhp▸zI _ _
 have nP:hp.n=H.n+3:=by rw[hhp,zF,zF,zF]
 rw[<-hhp]
 clear hhp
 obtain⟨n,hN⟩:∃n,n=m.buckets.length:=⟨_,rfl⟩
 rw[<-hN]at d3
 rw[<-hN]
 refine kO n (fun i t h=>(∃s,j0Y hp.n h s ((m.buckets.take i).foldl (kJ b) ([],decide (b.items.length=0))).1/\zM hp.n hp h/\t.get 5=s)/\t.get 6= .lit (.bool ((m.buckets.take i).foldl (kJ b) ([],decide (b.items.length=0))).2)/\t.n=55/\t.get 2= .ptr H.n 0/\t.get 3= .ptr (H.n+1) 0/\t.get 4= .ptr (H.n+2) 0/\t.get 14=vb/\t.get 15= .lit (.int .i64 n)/\t.get 16= .lit (.int .i64 i)) ?_ ?_ _ _ ?_
 ·rintro i t h hlt hc ⟨⟨s,ho,he,g5⟩,g6,ga⟩ ih
  obtain⟨x,hx⟩:∃x,m.buckets[i]? =some x:=⟨_,jO (by omega)⟩;have hlen:((m.buckets.take i).foldl (kJ b) ([],decide (b.items.length=0))).1.length<=i+1:=by
   have h1:=QZ (b:=b) (m.buckets.take i) ([],decide (b.items.length=0));have h2:=NY (decide (b.items.length=0));have h3:(m.buckets.take i).length<=i:=by rw[zV];omega
   simp only[xH]at h1;omega
  have hnB:((m.buckets.take i).foldl (kJ b) ([],decide (b.items.length=0))).2=false->((m.buckets.take i).foldl (kJ b) ([],decide (b.items.length=0))).1.length<=i:=fun hf=>by
   have h1:=QZ (b:=b) (m.buckets.take i) ([],decide (b.items.length=0));have h2:=NY (decide (b.items.length=0));have h3:(m.buckets.take i).length<=i:=by rw[zV];omega
   rw[hf]at h1;have h4:nB false=1:=rfl;simp only[xH]at h1;omega
  have hsucc:=EK (kJ b) ([],decide (b.items.length=0)) hx;obtain⟨S,hS⟩:∃S,S=(m.buckets.take i).foldl (kJ b) ([],decide (b.items.length=0)):=⟨_,rfl⟩;rw[<-hS]at ho g6 hlen hnB hsucc;rw[hsucc]at ih;clear hS hsucc;obtain⟨L,put⟩:=S;simp only at ho g6 hlen hnB;have E1:zM H.n H h:=EP.trans (he.mono (by omega));obtain⟨c,hc1,hld,hld0⟩:=hm.b.atE (T:=zH Tryz.prog kR) E1 Qa hx;obtain⟨va2,vw2,rfl,ha2,hw2,hi2⟩:=Jx.1 hc1;have x1:=ha2.one;have x2:=hw2.one;obtain⟨la2,lw2⟩:=hbk x (zR hx);have hws:=xG (n:=n) hlt (by omega);have BH:=(he.2 _ (by omega)).trans B0;have lBH:=jR BH;have lhn:=he.1;obtain⟨hA,hhA⟩:∃hA,hA=h.push (.cells [.lit (.int .i64 x.id),.lit (.int .i64 x.kind),va2,vw2] 122):=⟨_,rfl⟩;have eA:=ZS hhA;have XA:hA.at h.n=some (.cells [.lit (.int .i64 x.id),.lit (.int .i64 x.kind),va2,vw2] 122):=hhA▸zI _ _;have LXA:=xI XA;have nA:hA.n=h.n+1:=by rw[hhA,zF]
  have BA:=(eA.2 _ lBH).trans BH;have LBA:=xI BA;have EA:=E1.step eA;have oA:=ho.ext eA (jM _);have heA:zM hp.n hp hA:=he.trans (eA.mono (by omega));cases put with
  |true=>
   by_cases ceq:x.id=b.id
   ·have hst:kJ b (L,true) x=(L,true):=by
     unfold kJ
     simp[ceq]
    rw[hst]at ih
    have cqn:(x.id !=b.id)=false:=by simp[ceq]
    simp only[jN,seval,<-hhA,cqn,LXA,LBA,ga,g5,g6,hlt,hc,hld0,hws,x1,x2,s3,d3]
    refine ih _ _ ⟨⟨_,oA,heA,by simp only[jN,seval,g5]⟩,by simp only[jN,seval,g6],?_⟩
    simp only[jN,seval,ga]
   ·have hst:kJ b (L,true) x=(L++[x],true):=by
     unfold kJ
     simp[ceq]
    rw[hst]at ih
    have cqn:(x.id !=b.id)=true:=by simp[ceq]
    simp only[jN,seval,<-hhA,cqn,LXA,LBA,ga,g5,g6,hlt,hc,hld0,hws,x1,x2,s3,d3]
    refine(Nz x (ha2.ext EA (jM _)) (hw2.ext EA (jM _)) la2 lw2).mono ?_
    rintro _ hB2 ⟨eB2,ra2,rw2,rfl,p2,q2⟩
    have eC2:zM hA.n hA (hB2.push (.cells [.lit (.int .i64 x.id),.lit (.int .i64 x.kind),ra2,rw2] 122)):=eB2.push _ eB2.1
    simp only[jN,seval,Xq,ga]
    have hl2:((L).length+1) * 64<=140737488355328:=NS (by first|exact hlen|exact j5E hlen) hlt hN sb
    have hn2:hp.n<=hA.n:=by omega
    refine qM (Gg oA hn2 eC2 (zI _ _) (p2.ext ((zM.refl hB2.n hB2).push _ (jM _)) (jM _)) (q2.ext ((zM.refl hB2.n hB2).push _ (jM _)) (jM _)) hi2 hl2) ?_
    rintro s2' hC2 ⟨oC2,fC2⟩
    have he2:zM hp.n hp hC2:=heA.trans (fC2.toExtL oA (by omega))
    simp only[jN,seval,ga,hws]
    refine ih _ _ ⟨⟨_,oC2,he2,by simp only[jN,seval,ga]⟩,by simp only[jN,seval,g6],?_⟩
    simp only[jN,seval,ga]
  |false=>
   have hlen:=hnB rfl;by_cases cle:x.id<=b.id
   ·simp only[jN,seval,<-hhA,cle,LXA,LBA,ga,g5,g6,hlt,hc,hld0,hws,x1,x2,s3,d3];refine(Nz b (ha.ext EA (jM _)) (hw.ext EA (jM _)) la lw).mono ?_;rintro _ hB1 ⟨eB1,ra1,rw1,rfl,p1,q1⟩;have t1:=(p1.toSl (F:=fun _=>True) (fun _ _=>trivial)).one;have u1:=(q1.toSl (F:=fun _=>True) (fun _ _=>trivial)).one;have lB1:=eB1.1;have eC1:zM hA.n hA (hB1.push (.cells [.lit (.int .i64 b.id),.lit (.int .i64 b.kind),ra1,rw1] 122)):=eB1.push _ eB1.1;simp only[jN,seval,Xq,ga];have hl1:((L).length+1) * 64<=140737488355328:=NS (by first|exact hlen|exact j5E hlen) hlt hN sb;have hn1:hp.n<=hA.n:=by omega
    refine qM (Gg oA hn1 eC1 (zI _ _) (p1.ext ((zM.refl hB1.n hB1).push _ (jM _)) (jM _)) (q1.ext ((zM.refl hB1.n hB1).push _ (jM _)) (jM _)) hi hl1) ?_;rintro s1' hC1 ⟨oC1,fC1⟩;have he1:zM hp.n hp hC1:=heA.trans (fC1.toExtL oA (by omega));have z1:=(oC1.toSl (F:=fun _=>True) (fun _ _=>trivial) (fun _ _=>trivial)).isSl;obtain⟨X1,-⟩:=fC1.box XA (ho.apart (jM _));have LX1:=xI X1;have lX1:=jR X1;have B1':=(he1.2 _ (by omega)).trans B0;have LB1':=Xy (T:=zH Tryz.prog kR) B1';have lB1':=jR B1';have E1c:zM H.n H hC1:=EP.trans (he1.mono (by omega));have ln1:=he1.1;by_cases ceq:x.id=b.id
    ·have hst:kJ b (L,false) x=(L++[b],true):=by
      unfold kJ
      simp[ceq]
     rw[hst]at ih
     have cqn:(x.id !=b.id)=false:=by simp[ceq]
     simp only[jN,seval,cqn,LX1,LB1',ga,hws]
     refine ih _ _ ⟨⟨_,oC1,he1,by simp only[jN,seval,ga]⟩,by simp only[jN,seval,ga],?_⟩
     simp only[jN,seval,ga]
    ·have hst:kJ b (L,false) x=(L++[b]++[x],true):=by
      unfold kJ
      simp[ceq,cle]
     rw[hst]at ih
     have cqn:(x.id !=b.id)=true:=by simp[ceq]
     simp only[jN,seval,cqn,LX1,LB1',ga,hws]
     refine(Nz x (ha2.ext E1c (jM _)) (hw2.ext E1c (jM _)) la2 lw2).mono ?_
     rintro _ hB2 ⟨eB2,ra2,rw2,rfl,p2,q2⟩
     have eC2:zM hC1.n hC1 (hB2.push (.cells [.lit (.int .i64 x.id),.lit (.int .i64 x.kind),ra2,rw2] 122)):=eB2.push _ eB2.1
     simp only[jN,seval,Xq,ga]
     have hl2:((L++[b]).length+1) * 64<=140737488355328:=j3v hlen hlt hN sb
     have hn2:hp.n<=hC1.n:=by omega
     refine qM (Gg oC1 hn2 eC2 (zI _ _) (p2.ext ((zM.refl hB2.n hB2).push _ (jM _)) (jM _)) (q2.ext ((zM.refl hB2.n hB2).push _ (jM _)) (jM _)) hi2 hl2) ?_
     rintro s2' hC2 ⟨oC2,fC2⟩
     have he2:zM hp.n hp hC2:=he1.trans (fC2.toExtL oC1 (by omega))
     simp only[jN,seval,ga,hws]
     refine ih _ _ ⟨⟨_,oC2,he2,by simp only[jN,seval,ga]⟩,by simp only[jN,seval,ga],?_⟩
     simp only[jN,seval,ga]
   ·skip
    by_cases ceq:x.id=b.id
    ·exact absurd (by omega) cle
    ·have hst:kJ b (L,false) x=(L++[x],false):=by
      unfold kJ
      simp[ceq,cle]
     rw[hst]at ih
     have cqn:(x.id !=b.id)=true:=by simp[ceq]
     simp only[jN,seval,<-hhA,cqn,cle,LXA,LBA,ga,g5,g6,hlt,hc,hld0,hws,x1,x2,s3,d3]
     refine(Nz x (ha2.ext EA (jM _)) (hw2.ext EA (jM _)) la2 lw2).mono ?_
     rintro _ hB2 ⟨eB2,ra2,rw2,rfl,p2,q2⟩
     have eC2:zM hA.n hA (hB2.push (.cells [.lit (.int .i64 x.id),.lit (.int .i64 x.kind),ra2,rw2] 122)):=eB2.push _ eB2.1
     simp only[jN,seval,Xq,ga]
     have hl2:((L).length+1) * 64<=140737488355328:=NS (by first|exact hlen|exact j5E hlen) hlt hN sb
     have hn2:hp.n<=hA.n:=by omega
     refine qM (Gg oA hn2 eC2 (zI _ _) (p2.ext ((zM.refl hB2.n hB2).push _ (jM _)) (jM _)) (q2.ext ((zM.refl hB2.n hB2).push _ (jM _)) (jM _)) hi2 hl2) ?_
     rintro s2' hC2 ⟨oC2,fC2⟩
     have he2:zM hp.n hp hC2:=heA.trans (fC2.toExtL oA (by omega))
     simp only[jN,seval,ga,hws]
     refine ih _ _ ⟨⟨_,oC2,he2,by simp only[jN,seval,ga]⟩,by simp only[jN,seval,g6],?_⟩
     simp only[jN,seval,ga]
 ·rintro t h hc ⟨⟨s,ho,he,g5⟩,g6,ga⟩;rw[hN,xC]at ho g6;have hlen:(m.buckets.foldl (kJ b) ([],decide (b.items.length=0))).2=false->(m.buckets.foldl (kJ b) ([],decide (b.items.length=0))).1.length<=m.buckets.length:=fun hf=>by have h1:=QZ (b:=b) m.buckets ([],decide (b.items.length=0));have h2:=NY (decide (b.items.length=0));rw[hf]at h1;have h4:nB false=1:=rfl;simp only[xH]at h1;omega
  have hwb:(JO m b).buckets=if(m.buckets.foldl (kJ b) ([],decide (b.items.length=0))).2 then(m.buckets.foldl (kJ b) ([],decide (b.items.length=0))).1 else(m.buckets.foldl (kJ b) ([],decide (b.items.length=0))).1++[b]:=rfl
  obtain⟨S,hS⟩:∃S,S=m.buckets.foldl (kJ b) ([],decide (b.items.length=0)):=⟨_,rfl⟩;rw[<-hS]at ho g6 hlen hwb;clear hS;obtain⟨L,put⟩:=S;simp only at ho g6 hlen hwb;have E1:zM H.n H h:=EP.trans (he.mono (by omega));have s2:=(ho.toSl (F:=fun _=>True) (fun _ _=>trivial) (fun _ _=>trivial)).one;have BH:=(he.2 _ (by omega)).trans B0;have LB:=xI BH;have PH:=(he.2 _ (by omega)).trans P0;have lPH:=jR PH;have ZH:=(he.2 _ (by omega)).trans Z0;have lZH:=jR ZH;have lhn:=he.1;have hne:¬H.n=H.n+2:=by omega
  cases put with
  |true=>
   simp only[jN,seval,ga,g5,g6,hc,s3,d3,o1,o2,s2,LB,lPH,PH,ZH,lZH,hne];refine⟨(E1.put _ (jM _)).put _ (by omega),s,rfl,?_⟩;show zJ Vq _ _ s (JO m b).buckets;rw[hwb,if_pos rfl];exact((ho.putLt (by omega)).putLt (by omega)).toSl (fun k hk=>by omega) (fun k hk=>by omega)
  |false=>
   simp only[jN,seval,ga,g5,g6,hc,s3,d3,o1,o2,s2,LB,lPH,PH,ZH,lZH,hne];refine(Nz b (ha.ext E1 (jM _)) (hw.ext E1 (jM _)) la lw).mono ?_;rintro _ hB1 ⟨eB1,ra1,rw1,rfl,p1,q1⟩;have eC1:zM h.n h (hB1.push (.cells [.lit (.int .i64 b.id),.lit (.int .i64 b.kind),ra1,rw1] 122)):=eB1.push _ eB1.1;simp only[jN,seval,Xq,ga];have hl1:(L.length+1) * 64<=140737488355328:=j3w (hlen rfl) sb;refine qM (Gg ho lhn eC1 (zI _ _) (p1.ext ((zM.refl hB1.n hB1).push _ (jM _)) (jM _)) (q1.ext ((zM.refl hB1.n hB1).push _ (jM _)) (jM _)) hi hl1) ?_;rintro s1' hC1 ⟨oC1,fC1⟩;have he1:zM hp.n hp hC1:=he.trans (fC1.toExtL ho lhn);have z2:=(oC1.toSl (F:=fun _=>True) (fun _ _=>trivial) (fun _ _=>trivial)).one;have PC:=(he1.2 _ (by omega)).trans P0;have lPC:=jR PC;have ZC:=(he1.2 _ (by omega)).trans Z0;have lZC:=jR ZC;simp only[jN,seval,z2,ga,PC,lPC,ZC,lZC,o1,o2,hne];refine⟨((EP.trans (he1.mono (by omega))).put _ (jM _)).put _ (by omega),s1',rfl,?_⟩;show zJ Vq _ _ s1' (JO m b).buckets;rw[hwb,if_neg (by simp)];exact((oC1.putLt (by omega)).putLt (by omega)).toSl (fun k hk=>by omega) (fun k hk=>by omega)
 ·refine⟨⟨_,qE.nil,zM.refl _ _,by simp only[jN,seval]⟩,?_,?_⟩
  ·have hd:((b.items.length:Int)==0)=decide (b.items.length=0):=by
    by_cases h:b.items.length=0
    ·rw[h];rfl
    ·rw[decide_eq_false h];simp;exact fun hh=>h (by rw[hh];rfl)
   simp only[jN,seval,hd,List.foldl_nil]
  ·simp only[jN,seval];try simp
theorem UO{α:Type}{l:List α}{k:Nat}(h:l.length<=k)(hk:k * n<=140737488351232):Sm n l:=zY (qW n h) hk
theorem Ac{m:zU}{b:yL}(sb:(m.buckets.length+1) * 64<=140737488351232)(hbk:∀b∈m.buckets,Sm 8 b.items/\Sm 8 b.weights)(la:Sm 8 b.items)(lw:Sm 8 b.weights):OC (JO m b):=
 ⟨UO (fO m.buckets b) sb,j0x (P:=fun b=>Sm 8 b.items/\Sm 8 b.weights) ⟨la,lw⟩ hbk,trivial⟩
theorem j5p(h:k<=140737488351232):k<=140737488355328:=by omega
theorem uL{m:zU}(b:yL)(hm:vG F H m vo vp vb)(sb:(m.buckets.length+1) * 64<=140737488351232)(hbk:∀b∈m.buckets,Sm 8 b.items/\Sm 8 b.weights)(ha:zJ qB F H va b.items)(hw:zJ qB F H vw b.weights)(la:Sm 8 b.items)(lw:Sm 8 b.weights)(hi:Zq b.id/\Zq b.kind):
 vR 76 [vS m vo vp vb,Xq b va vw] H fun r h'=>zM H.n H h'/\r= .lit (.int .i64 (Yd m b)):=by
 refine zW Tryz.func76 rfl rfl ?_
 have o1:=hm.o.one
 have o2:=hm.p.one
 have o3:=hm.b.one
 have a1:=ha.one
 have w1:=hw.one
 have a2:=ha.isSl
 have a3:=ha.lenD
 obtain⟨hp,hhp⟩:∃hp,hp=(H.push (.cells [.lit (.int .i64 m.epoch),vo,vp,vb,.lit (.int .i64 m.leaf)] 66)).push (.cells [.lit (.int .i64 b.id),.lit (.int .i64 b.kind),va,vw] 122):=⟨_,rfl⟩
 have EP:zM H.n H hp:=hhp▸((zM.refl _ _).push _ (jM _)).push _ (by rw[zF];omega)
 have P0:hp.at H.n=some (.cells [.lit (.int .i64 m.epoch),vo,vp,vb,.lit (.int .i64 m.leaf)] 66):=hhp▸(xE _ (by rw[zF];omega)).trans (zI _ _)
 have B0:hp.at (H.n+1)=some (.cells [.lit (.int .i64 b.id),.lit (.int .i64 b.kind),va,vw] 122):=hhp▸zI _ _
 have LP0:=xI P0
 have LB0:=xI B0
 have lP0:=jR P0
 have lB0:=jR B0
 unfold Yd
 by_cases c1:b.id< -32
 ·rw[if_pos (.inl c1)];simp only[jN,seval,Tryz.ntmps76,vS,Xq,<-hhp,c1,o1,o2,o3,a1,w1,LP0,LB0];first|exact⟨EP,trivial⟩|exact EP
 by_cases c2: -1<b.id
 ·rw[if_pos (.inr c2)];simp only[jN,seval,Tryz.ntmps76,vS,Xq,<-hhp,c1,c2,o1,o2,o3,a1,w1,LP0,LB0];first|exact⟨EP,trivial⟩|exact EP
 rw[if_neg (by omega)]
 simp only[jN,seval,Tryz.ntmps76,vS,Xq,<-hhp,c1,c2,o1,o2,o3,a1,w1,LP0,LB0]
 clear hhp
 refine(Iz b.id (hm.ext EP (jM _)) (UO (KO _) sb) hbk).mono ?_
 rintro _ h2 ⟨e2,va2,vw2,rfl,b1,b2⟩
 have q1:=b1.one
 have q2:=b2.one
 have E2:=EP.step e2
 have P2:=(e2.2 _ lP0).trans P0
 have B2:=(e2.2 _ lB0).trans B0
 obtain⟨h3,hh3⟩:∃h3,h3=h2.push (.cells [.lit (.int .i64 (qN m b.id).id),.lit (.int .i64 (qN m b.id).kind),va2,vw2] 122):=⟨_,rfl⟩
 have e3:=ZS hh3
 have P3:=(e3.2 _ (jR P2)).trans P2
 have B3:=(e3.2 _ (jR B2)).trans B2
 have LP3:=xI P3
 have LB3:=xI B3
 have E3:=E2.step e3
 have key:∀(hq:¬((kU m b.id).isNone=true/\b.items=[])),vR 78 [vS m vo vp vb,Xq b va vw] h3 (fun r h'=>∃rb,zM h3.n h3 h'/\r=vS (JO m b) vo vp rb/\vG (fun k=>F k\/h3.n<=k) h' (JO m b) vo vp rb):=fun _=>by refine(j6G b (hm.ext E3 (jM _)) (j5p sb) hbk (ha.ext E3 (jM _)) (hw.ext E3 (jM _)) la lw hi).mono ?_;rintro _ h4 ⟨e4,rb,rfl,ib⟩;have hm4:=(hm.ext E3 (jM _)).ext e4 (jM _);exact⟨rb,e4,rfl,hm4.o.lift fun b hb _=>⟨rfl,.inl hb⟩,hm4.p.lift fun b hb _=>⟨rfl,.inl hb⟩,ib.lift fun b hb _=>⟨rfl,.inr hb⟩⟩
 have hfin:(if vX (JO m b)=true then(0:Int)else 22)=Sl (JO m b):=by unfold Sl;rw[IE]
 cases hb:(kU m b.id)with
 |none=>
  rw[hb]at key;by_cases ci:b.items=[]
  ·have ci0:((b.items.length:Int)==0)=true:=by rw[ci];rfl
   simp only[jN,seval,q1,q2,Xq,<-hh3,ci0,a2,a3,LP3,LB3,Jg,Option.isNone_none];rw[if_pos ci];first|exact⟨E3,rfl⟩|exact E3
  ·have ci0:((b.items.length:Int)==0)=false:=by
    rw[Nr]
    intro hh
    simp at hh
    exact ci hh
   simp only[jN,seval,q1,q2,Xq,<-hh3,ci0,a2,a3,LP3,LB3,Jg,Option.isNone_none]
   rw[if_neg ci,hfin]
   refine(key (fun hh=>ci hh.2)).mono ?_
   rintro _ h4 ⟨rb,e4,rfl,hm4⟩
   simp only[jN,seval]
   refine(OT hm4 (Ac sb hbk la lw)).mono ?_
   rintro _ h5 ⟨e5,rfl⟩
   simp only[jN,seval]
   first|exact⟨(E3.step e4).step e5,trivial⟩|exact(E3.step e4).step e5
 |some y=>
  rw[hb]at key;simp only[jN,seval,q1,q2,Xq,<-hh3,LP3,LB3,Option.isNone_some];rw[if_neg (fun hh=>by cases hh.1),hfin];refine(key (fun hh=>by cases hh.1)).mono ?_;rintro _ h4 ⟨rb,e4,rfl,hm4⟩;simp only[jN,seval];refine(OT hm4 (Ac sb hbk la lw)).mono ?_;rintro _ h5 ⟨e5,rfl⟩;simp only[jN,seval];first|exact⟨(E3.step e4).step e5,trivial⟩|exact(E3.step e4).step e5
theorem j5D{m:zU}(c:Yn)(hm:vG F H m vo vp vb)(so:Sm 40 m.osds)(sp:Sm 32 m.pools)(sb:(m.buckets.length+1) * 64<=140737488351232)(hbk:∀b∈m.buckets,Sm 8 b.items/\Sm 8 b.weights)(ha:zJ qB F H va c.bucket.items)(hw:zJ qB F H vw c.bucket.weights)(la:Sm 8 c.bucket.items)(lw:Sm 8 c.bucket.weights)(hi:Zq c.bucket.id/\Zq c.bucket.kind):
 vR 59 [vS m vo vp vb,Eh c va vw] H fun r h'=>zM H.n H h'/\r= .lit (.int .i64 (xV m c)):=by
 refine zW Tryz.func59 rfl rfl ?_
 have o1:=hm.o.one
 have o2:=hm.p.one
 have o3:=hm.b.one
 have a1:=ha.one
 have w1:=hw.one
 simp only[jN,seval,Tryz.ntmps59,vS,Eh,o1,o2,o3,a1,w1]
 obtain⟨hp,hhp⟩:∃hp,hp=(H.push (.cells [.lit (.int .i64 m.epoch),vo,vp,vb,.lit (.int .i64 m.leaf)] 66)).push (.cells [.lit (.int .i64 c.kind),.lit (.int .i64 c.osd),.lit (.int .i64 c.value),.lit (.int .i64 c.pool.id),.lit (.int .i64 c.pool.size),.lit (.int .i64 c.pool.min),.lit (.int .i64 c.pool.pgs),.lit (.int .i64 c.bucket.id),.lit (.int .i64 c.bucket.kind),va,vw] 124):=⟨_,rfl⟩
 have EP:zM H.n H hp:=hhp▸((zM.refl _ _).push _ (jM _)).push _ (by rw[zF];omega)
 have P0:hp.at H.n=some (.cells [.lit (.int .i64 m.epoch),vo,vp,vb,.lit (.int .i64 m.leaf)] 66):=hhp▸(xE _ (by rw[zF];omega)).trans (zI _ _)
 have B0:hp.at (H.n+1)=some (.cells [.lit (.int .i64 c.kind),.lit (.int .i64 c.osd),.lit (.int .i64 c.value),.lit (.int .i64 c.pool.id),.lit (.int .i64 c.pool.size),.lit (.int .i64 c.pool.min),.lit (.int .i64 c.pool.pgs),.lit (.int .i64 c.bucket.id),.lit (.int .i64 c.bucket.kind),va,vw] 124):=hhp▸zI _ _
 have LP0:=xI P0
 have LB0:=xI B0
 rw[<-hhp]
 clear hhp
 have hmp:=hm.ext EP (jM _)
 have hap:=ha.ext EP (jM _)
 have hwp:=hw.ext EP (jM _)
 have hO:Xx c.kind->xV m c=if c.osd<0\/8<=c.osd then 22 else Av m c:=fun h=>by unfold xV;rw[if_pos h]
 by_cases k1:c.kind=1
 ·have k1e:(c.kind==1)=true:=by simp[k1]
  rw[hO (by unfold Xx;omega)];by_cases c1:c.osd<0
  ·rw[if_pos (.inl c1)];simp only[jN,seval,LP0,LB0,k1e,c1];first|exact⟨EP,trivial⟩|exact EP
  by_cases c2:8<=c.osd
  ·rw[if_pos (.inr c2)];simp only[jN,seval,LP0,LB0,k1e,c1,c2];first|exact⟨EP,trivial⟩|exact EP
  rw[if_neg (by omega)];simp only[jN,seval,LP0,LB0,k1e,c1,c2];refine(Cx c hmp so a1 w1).mono ?_;rintro _ h2 ⟨e2,rfl⟩;simp only[jN,seval];first|exact⟨EP.step e2,trivial⟩|exact EP.step e2
 have k1e:(c.kind==1)=false:=by simp[k1]
 by_cases k2:c.kind=2
 ·have k2e:(c.kind==2)=true:=by simp[k2]
  rw[hO (by unfold Xx;omega)];by_cases c1:c.osd<0
  ·rw[if_pos (.inl c1)];simp only[jN,seval,LP0,LB0,k1e,k2e,c1];first|exact⟨EP,trivial⟩|exact EP
  by_cases c2:8<=c.osd
  ·rw[if_pos (.inr c2)];simp only[jN,seval,LP0,LB0,k1e,k2e,c1,c2];first|exact⟨EP,trivial⟩|exact EP
  rw[if_neg (by omega)];simp only[jN,seval,LP0,LB0,k1e,k2e,c1,c2];refine(Cx c hmp so a1 w1).mono ?_;rintro _ h2 ⟨e2,rfl⟩;simp only[jN,seval];first|exact⟨EP.step e2,trivial⟩|exact EP.step e2
 have k2e:(c.kind==2)=false:=by simp[k2]
 by_cases k3:c.kind=3
 ·have k3e:(c.kind==3)=true:=by simp[k3]
  rw[hO (by unfold Xx;omega)];by_cases c1:c.osd<0
  ·rw[if_pos (.inl c1)];simp only[jN,seval,LP0,LB0,k1e,k2e,k3e,c1];first|exact⟨EP,trivial⟩|exact EP
  by_cases c2:8<=c.osd
  ·rw[if_pos (.inr c2)];simp only[jN,seval,LP0,LB0,k1e,k2e,k3e,c1,c2];first|exact⟨EP,trivial⟩|exact EP
  rw[if_neg (by omega)];simp only[jN,seval,LP0,LB0,k1e,k2e,k3e,c1,c2];refine(Cx c hmp so a1 w1).mono ?_;rintro _ h2 ⟨e2,rfl⟩;simp only[jN,seval];first|exact⟨EP.step e2,trivial⟩|exact EP.step e2
 have k3e:(c.kind==3)=false:=by simp[k3]
 by_cases k4:c.kind=4
 ·have k4e:(c.kind==4)=true:=by simp[k4]
  rw[hO (by unfold Xx;omega)];by_cases c1:c.osd<0
  ·rw[if_pos (.inl c1)];simp only[jN,seval,LP0,LB0,k1e,k2e,k3e,k4e,c1];first|exact⟨EP,trivial⟩|exact EP
  by_cases c2:8<=c.osd
  ·rw[if_pos (.inr c2)];simp only[jN,seval,LP0,LB0,k1e,k2e,k3e,k4e,c1,c2];first|exact⟨EP,trivial⟩|exact EP
  rw[if_neg (by omega)];simp only[jN,seval,LP0,LB0,k1e,k2e,k3e,k4e,c1,c2];refine(Cx c hmp so a1 w1).mono ?_;rintro _ h2 ⟨e2,rfl⟩;simp only[jN,seval];first|exact⟨EP.step e2,trivial⟩|exact EP.step e2
 have k4e:(c.kind==4)=false:=by simp[k4]
 by_cases k5:c.kind=5
 ·have k5e:(c.kind==5)=true:=by simp[k5]
  have hC:xV m c=vH m c.pool:=by unfold xV;rw[if_neg (by unfold Xx;omega),if_pos k5]
  rw[hC];simp only[jN,seval,k1e,k2e,k3e,k4e,k5e];refine(lR c.pool hmp sp).mono ?_;rintro _ h2 ⟨e2,rfl⟩;simp only[jN,seval];first|exact⟨EP.step e2,trivial⟩|exact EP.step e2
 have k5e:(c.kind==5)=false:=by simp[k5]
 by_cases k6:c.kind=6
 ·have k6e:(c.kind==6)=true:=by simp[k6]
  have hC:xV m c=Yd m c.bucket:=by unfold xV;rw[if_neg (by unfold Xx;omega),if_neg k5,if_pos k6]
  rw[hC];simp only[jN,seval,k1e,k2e,k3e,k4e,k5e,k6e];refine(uL c.bucket hmp sb hbk hap hwp la lw hi).mono ?_;rintro _ h2 ⟨e2,rfl⟩;simp only[jN,seval];first|exact⟨EP.step e2,trivial⟩|exact EP.step e2
 have k6e:(c.kind==6)=false:=by simp[k6]
 by_cases k7:c.kind=7
 ·have k7e:(c.kind==7)=true:=by simp[k7]
  have hC:xV m c=if c.value<0\/3<c.value then 22 else 0:=by unfold xV;rw[if_neg (by unfold Xx;omega),if_neg k5,if_neg k6,if_pos k7]
  rw[hC];by_cases c1:c.value<0
  ·rw[if_pos (.inl c1)];simp only[jN,seval,k1e,k2e,k3e,k4e,k5e,k6e,k7e,c1];first|exact⟨EP,trivial⟩|exact EP
  by_cases c2:3<c.value
  ·rw[if_pos (.inr c2)];simp only[jN,seval,LB0,k1e,k2e,k3e,k4e,k5e,k6e,k7e,c1,c2];first|exact⟨EP,trivial⟩|exact EP
  rw[if_neg (by omega)];simp only[jN,seval,LB0,k1e,k2e,k3e,k4e,k5e,k6e,k7e,c1,c2];first|exact⟨EP,trivial⟩|exact EP
 have k7e:(c.kind==7)=false:=by simp[k7]
 have hC:xV m c=22:=by unfold xV;rw[if_neg (by unfold Xx;omega),if_neg k5,if_neg k6,if_neg k7]
 rw[hC]
 simp only[jN,seval,k1e,k2e,k3e,k4e,k5e,k6e,k7e]
 first|exact⟨EP,trivial⟩|exact EP
variable{T:TT}{h':AH}
section
section
variable {α:Type}
structure Ia(R:Zl α)(cf:α->List AV)(z:Nat)(ok:α->Prop):Prop where
 hz:R.z=z
 z0:0<z
 len:∀x,(cf x).length=z
 is:∀F h c x,R.is F h c x↔c=cf x/\ok x
variable {R:Zl α} {cf:α->List AV} {z:Nat} {ok:α->Prop}
theorem Ia.flat(hR:Ia R cf z ok):Rl R:=fun F G h h' c x hh=>(hR.is _ _ _ _).2 ((hR.is _ _ _ _).1 hh)
theorem Vu(hl:∀x,(cf x).length=z):∀l:List α,(l.flatMap cf).length=l.length * z
 |[]=>by simp
 |x::r=>by rw[QH,jQ,Vu hl r,hl,xA,YR];omega
theorem Vj{l:List α}{i:Nat}{x:α}(hx:l[i]? =some x):l.flatMap cf=(l.take i).flatMap cf++(cf x++(l.drop (i+1)).flatMap cf):=by
 obtain⟨hi,rfl⟩:=List.getElem?_eq_some_iff.1 hx;conv=>lhs;rw[<-yE i l,qS hi]
 rw[Xu,QH]
theorem wW{l:List α}{i k:Nat}{x y:α}{v:AV}(hl:∀x,(cf x).length=z)(hx:l[i]? =some x)(hk:k<z)(hy:cf y=(cf x).set k v):put (l.flatMap cf) (i * z+k) [v]=some ((l.set i y).flatMap cf):=by
 obtain⟨hi,hxe⟩:=List.getElem?_eq_some_iff.1 hx;have h2:(l.set i y)[i]? =some y:=by rw[qK hi]
 have ht:(l.set i y).take i=l.take i:=by rw[List.take_set_of_le (jM i)]
 have hd:(l.set i y).drop (i+1)=l.drop (i+1):=by rw[List.drop_set_of_lt (by omega)]
 have h3:=Vu hl (l.take i);rw[zV,QE (by omega)]at h3;rw[Vj hx,Vj h2,ht,hd,hy];unfold put;rw[if_pos (by simp only[jQ,h3,hl,fV];omega)];congr 1;have hkl:k<(cf x).length:=by rw[hl];exact hk
 have t1:((l.take i).flatMap cf++(cf x++(l.drop (i+1)).flatMap cf)).take (i * z+k)=(l.take i).flatMap cf++(cf x).take k:=by rw[<-h3,List.take_length_add_append,List.take_append_of_le_length (by omega)]
 have t2:((l.take i).flatMap cf++(cf x++(l.drop (i+1)).flatMap cf)).drop (i * z+k+[v].length)=(cf x).drop (k+1)++(l.drop (i+1)).flatMap cf:=by rw[show i * z+k+[v].length=((l.take i).flatMap cf).length+(k+1)by rw[h3];rfl,List.drop_length_add_append,List.drop_append_of_le_length (by omega)]
 rw[t1,t2,Qv,if_pos hkl];simp only[zP,Ro,xS]
theorem wV{l:List α}{i:Nat}{y:α}(hl:∀x,(cf x).length=z)(hi:i<l.length):put (l.flatMap cf) (i * z) (cf y)=some ((l.set i y).flatMap cf):=by
 have hx:l[i]? =some l[i]:=jO hi;have h2:(l.set i y)[i]? =some y:=by rw[qK hi]
 have ht:(l.set i y).take i=l.take i:=by rw[List.take_set_of_le (jM i)]
 have hd:(l.set i y).drop (i+1)=l.drop (i+1):=by rw[List.drop_set_of_lt (by omega)]
 have h3:=Vu hl (l.take i);rw[zV,QE (by omega)]at h3;rw[Vj hx,Vj h2,ht,hd];unfold put;rw[if_pos (by simp only[jQ,h3,hl];omega)];congr 1;have t1:((l.take i).flatMap cf++(cf l[i]++(l.drop (i+1)).flatMap cf)).take (i * z)=(l.take i).flatMap cf:=Eo h3;have t2:((l.take i).flatMap cf++(cf l[i]++(l.drop (i+1)).flatMap cf)).drop (i * z+(cf y).length)=(l.drop (i+1)).flatMap cf:=by rw[<-zP];exact List.drop_left' (by rw[jQ,h3,hl,hl])
 rw[t1,t2,zP]
theorem qE.row{G:Nat->Prop}{n0:Nat}{v:AV}{xs:List α}(hR:Ia R cf z ok)(ho:qE R G n0 h v e xs)(hne:xs≠[]):
 ∃p,v= .sl p 0 xs.length (.un z)/\n0<=p/\h.at p=some (.cells (xs.flatMap cf) e)/\∀x∈xs,ok x:=by
 obtain⟨L,⟨h1,h2⟩,h3,h4⟩:=ho
 rcases h2 with⟨rfl,rfl⟩|⟨p,rfl,hp,hat⟩
 ·exact absurd (zO h3.symm) hne
 ·have hL:∀(L:List (List AV)) (xs:List α),L.length=xs.length->(∀(i:Nat) c x,L[i]? =some c->xs[i]? =some x->c=cf x)->L.flatten=xs.flatMap cf:=by
   intro L
   induction L with
   |nil=>intro xs hl _;cases xs with|nil=>rfl|cons=>cases hl
   |cons a r ih=>
    intro xs hl hh
    cases xs with
    |nil=>cases hl
    |cons x xs=>
     rw[vE,QH,hh 0 a x rfl rfl,ih xs (by simpa using hl) (fun i c y a b=>hh (i+1) c y (by simpa using a) (by simpa using b))]
  refine⟨p,by rw[h3,hR.hz],hp,by rw[hat,hL L xs h3 fun i c x a b=>((hR.is _ _ _ _).1 (h4 i c x a b)).1],fun x hx=> ?_⟩
  obtain⟨i,hi,rfl⟩:=List.mem_iff_getElem.1 hx
  exact((hR.is _ _ _ _).1 (h4 i L[i] xs[i] (jO (by omega)) (jO hi))).2
theorem qE.ofRow{G:Nat->Prop}{n0:Nat}{xs:List α}{p n:Nat}(hR:Ia R cf z ok)(hn:n=xs.length)(hp:n0<=p)(hat:h.at p=some (.cells (xs.flatMap cf) e))(hx:∀x∈xs,ok x):qE R G n0 h (.sl p 0 n (.un z)) e xs:=by
 subst hn;refine⟨xs.map cf,⟨?_,.inr ⟨p,?_,hp,?_⟩⟩,?_,fun i c x h1 h2=> ?_⟩
 ·intro c hc;obtain⟨n,_,rfl⟩:=List.mem_map.1 hc;rw[hR.len,hR.hz]
 ·rw[yH,hR.hz]
 ·rw[hat,List.flatMap_def]
 ·simp
 ·rw[vF,h2]at h1;simp only[qD,jP]at h1;exact(hR.is _ _ _ _).2 ⟨h1.symm,hx x (zR h2)⟩
theorem yX.snoc{t:TypeId}{by' p n0:Nat}{zv:AV}{c:List AV}{y:α}{v:AV}{xs:List α}(hR:Ia R cf z ok)(ho:yX R n0 h v e xs)(hu:und T t=some (.slice e))(hz:vQ T e=some R.z)(hzv:Jm T e=some zv)(hb:VK T e=some by')
 (hzl:zv.cells.length=R.z) (h0:0<R.z) (h200:R.z<=200) (hp:h.at p=some (.cells c e')) (hc:R.is (fun _=>False) h c y) (hn:xs.length+1<=4611686018427387904) (hby:(xs.length+1) * by'<=140737488355328) (hn0:n0<=h.n):
 ∃s' h',vZ T h t t v (.sl p 0 1 cap)=some (s',h')/\yX R n0 h' s' e (xs++[y])/\Fr h v h' s':=by
 rcases ho with ho|⟨rfl,q,hq,rfl,hat⟩
 ·obtain⟨s',h',a,b,d,f⟩:=ho.snoc hu hu hz hzv hb hzl h0 h200 hp (cap:=cap) (hR.flat _ _ _ _ _ _ hc) hn hby hn0;exact⟨s',h',a,.inl b,d.1,f⟩
 ·obtain⟨rfl,hok⟩:=(hR.is _ _ _ _).1 hc;have hg:Zj h p=some (cf y):=by unfold Zj;rw[hp]
  have hl1:(cf y).length=R.z:=by rw[hR.len,hR.hz]
  rcases VZ (T:=T) (h:=h) (t:=t) (tx:=t) (e:=e) (M:=[cf y]) (p:=q) (x:= .sl p 0 1 cap) hu hu hz hzv hb hzl h0 h200 hat (by simp only[Dk,hg,cut];rw[if_pos (by omega)];simp[hl1▸xC]) rfl (by intro c hc;rw[List.mem_singleton.1 hc,hl1]) (by rw[vE,List.flatten_nil,kH,qG];exact fun v hv=>R.one hc v hv) (by simp) (by simpa using hby)with⟨hM,ha⟩|⟨hM,ha⟩
  ·cases hM
  ·refine⟨_,_,ha,.inl ?_,by rw[zF];omega,fun b hb hab=>⟨xE _ hb,fun off n cap e=>by cases e;omega⟩⟩;have:=qE.ofRow (G:=fun _=>False) (n0:=n0) (h:=h.push (.cells [cf y].flatten e)) (e:=e) (xs:=[y]) (p:=h.n) (n:=1) hR rfl hn0 (by rw[zI];simp) (fun x hx=>by rw[List.mem_singleton.1 hx];exact hok);rw[hR.hz];exact this
theorem yX.sep{β:Type}{R:Zl α}{S:Zl β}{n0 n1:Nat}{v u:AV}{e2:TypeId}{xs:List α}{ys:List β}(ho:yX R n0 h v e xs)(hu:yX S n1 h u e2 ys)(hne:e≠e2):∀b off n cap,v= .sl b off n cap->qR u b:=by
 have hat:∀{γ:Type} {R:Zl γ} {n0:Nat} {v:AV} {e:TypeId} {xs:List γ},yX R n0 h v e xs->∀b off n cap,v= .sl b off n cap->∃l,h.at b=some (.cells l e):=by
  intro γ R n0 v e xs ho b off n cap hv;rcases ho with⟨L,h1,h2⟩|⟨rfl,p,hp,rfl,hat⟩
  ·rcases h1.2 with⟨hh,_⟩|⟨p,hh,hp,hat⟩
   ·rw[hh]at hv;cases hv
   ·rw[hh]at hv;cases hv;exact⟨_,hat⟩
  ·cases hv;exact⟨_,hat⟩
 intro b off n cap hv off2 n2 cap2 hu2;obtain⟨l1,k1⟩:=hat ho b off n cap hv;obtain⟨l2,k2⟩:=hat hu b off2 n2 cap2 hu2;rw[k1]at k2;cases k2;exact hne rfl
theorem yX.keep{R:Zl α}{n0:Nat}{v:AV}{xs:List α}(ho:yX R n0 h v e xs)(hk:∀b off n cap,v= .sl b off n cap->h'.at b=h.at b):yX R n0 h' v e xs:=by
 rcases ho with ho|⟨rfl,p,hp,rfl,hat⟩
 ·exact .inl (ho.lift hk (fun b hb=>hb.elim))
 ·exact .inr ⟨rfl,p,hp,rfl,(hk _ _ _ _ rfl).trans hat⟩
theorem yX.blt{R:Zl α}{n0:Nat}{v:AV}{xs:List α}(ho:yX R n0 h v e xs):∀b off n cap,v= .sl b off n cap->b<h.n:=by
 intro b off n cap hv;rcases ho with⟨L,h1,h2⟩|⟨rfl,p,hp,rfl,hat⟩
 ·rcases h1.2 with⟨hh,_⟩|⟨p,hh,hp,hat⟩
  ·rw[hh]at hv;cases hv
  ·rw[hh]at hv;cases hv;exact jR hat
 ·cases hv;exact jR hat
theorem yX.fr{β:Type}{R:Zl α}{S:Zl β}{n0 n1:Nat}{v u u':AV}{e2:TypeId}{xs:List α}{ys:List β}(ho:yX R n0 h v e xs)(hu:yX S n1 h u e2 ys)(hne:e≠e2)(f:Fr h u h' u'):yX R n0 h' v e xs:=
 ho.keep fun b off n cap hv=>(f.2 b (ho.blt b off n cap hv) (ho.sep hu hne b off n cap hv)).1
end
section
def YV(o:Xa):List AV:=[.lit (.bool o.ex),.lit (.bool o.up),.lit (.int .i64 o.weight),.lit (.int .i64 o.boot),.lit (.int .i64 o.upFrom),.lit (.int .i64 o.upThru)]
def j0M(x:Xa):Prop:=Zq x.weight/\Zq x.boot/\Zq x.upFrom/\Zq x.upThru
theorem NH:Ia Dt YV 6 j0M:=⟨rfl,by decide,fun x=>rfl,fun F h c x=>Qn⟩
def Ul(p:xD):List AV:=[.lit (.int .i64 p.id),.lit (.int .i64 p.size),.lit (.int .i64 p.min),.lit (.int .i64 p.pgs)]
def j6S(x:xD):Prop:=Zq x.id/\Zq x.size/\Zq x.min/\Zq x.pgs
theorem AS:Ia XR Ul 4 j6S:=⟨rfl,by decide,fun x=>rfl,fun F h c x=>Jc⟩
end
end
structure BZ(F:Nat->Prop)(H:AH)(c:Yn)(va vw:AV):Prop where
 a:zJ qB F H va c.bucket.items
 w:zJ qB F H vw c.bucket.weights
 la:Sm 8 c.bucket.items
 lw:Sm 8 c.bucket.weights
 hi:Zq c.bucket.id/\Zq c.bucket.kind
 hp:j6S c.pool
 hv:Zq c.value
structure Ca(m:zU):Prop where
 so:Sm 40 m.osds
 sp:(m.pools.length+1) * 32<=140737488351232
 sb:(m.buckets.length+1) * 64<=140737488351232
 bk:∀b∈m.buckets,Sm 8 b.items/\Sm 8 b.weights
def mC(m:zU)(vo vp vb:AV):AB:= .cells [.lit (.int .i64 m.epoch),vo,vp,vb,.lit (.int .i64 m.leaf)] 66
def cC(c:Yn)(va vw:AV):AB:= .cells [.lit (.int .i64 c.kind),.lit (.int .i64 c.osd),.lit (.int .i64 c.value),.lit (.int .i64 c.pool.id),.lit (.int .i64 c.pool.size),.lit (.int .i64 c.pool.min),.lit (.int .i64 c.pool.pgs),.lit (.int .i64 c.bucket.id),.lit (.int .i64 c.bucket.kind),va,vw] 124
def mz:AB:= .cells [.lit (.int .i64 0),.lit (.slice none 0 0),.lit (.slice none 0 0),.lit (.slice none 0 0),.lit (.int .i64 0)] 66
theorem JA(x y z:AB):∃hp,hp=((H.push x).push y).push z/\zM H.n H hp/\hp.at H.n=some x/\hp.at (H.n+1)=some y/\hp.at (H.n+2)=some z/\hp.n=H.n+3:=
 ⟨_,rfl,(((zM.refl _ _).push _ (jM _)).push _ (by rw[zF];omega)).push _ (by rw[zF,zF];omega),
   ((xE _ (by rw[zF,zF];omega)).trans (xE _ (by rw[zF];omega))).trans (zI _ _),(xE _ (by rw[zF,zF];omega)).trans (zI _ _),zI _ _,by rw[zF,zF,zF]⟩
variable{p0:Nat}
theorem j2f(c:Yn)(hm:JE n0 p0 H m vo vp vb)(hn0:n0<=H.n)(hp0:p0<H.n)(hz:Ca m)(hc:BZ F H c va vw)(hk:c.kind=6):
 vR 60 [vS m vo vp vb,Eh c va vw] H fun r h'=>zM n0 H h'/\h'.at p0=H.at p0/\∃ro rp rb,r=vS (kI m c) ro rp rb/\JE n0 p0 h' (kI m c) ro rp rb:=by
 refine zW Tryz.func60 rfl rfl ?_
 have hmA:=hm.at (F:=fun _=>True) fun _ _=>trivial
 have o1:=hmA.o.one
 have o2:=hmA.p.one
 have o3:=hmA.b.one
 have a1:=hc.a.one
 have w1:=hc.w.one
 have k5e:(c.kind==5)=false:=by rw[hk];rfl
 have k6e:(c.kind==6)=true:=by rw[hk];rfl
 obtain⟨hp,hhp,EP,P0,C0,Z0,nP⟩:=JA (H:=H) (mC m vo vp vb) (cC c va vw) mz
 unfold mC at P0 hhp
 unfold cC at C0 hhp
 unfold mz at Z0 hhp
 have LP:=xI P0
 have LC:=xI C0
 simp only[jN,seval,Tryz.ntmps60,vS,Eh,o1,o2,o3,a1,w1,<-hhp,LP,LC,k5e,k6e]
 refine(j6G c.bucket (hmA.ext EP (jM _)) (j5p hz.sb) hz.bk ((hc.a.lift (G:=fun _=>True) fun _ _ _=>⟨rfl,trivial⟩).ext EP (jM _)) ((hc.w.lift (G:=fun _=>True) fun _ _ _=>⟨rfl,trivial⟩).ext EP (jM _)) hc.la hc.lw hc.hi).mono ?_
 rintro _ h2 ⟨e2,rb,rfl,ib⟩
 have q3:=ib.one
 have Z2:=(e2.2 _ (jR Z0)).trans Z0
 have lZ2:=jR Z2
 have hE:kI m c=JO m c.bucket:=by unfold kI;rw[if_neg (by omega),if_pos hk]
 simp only[jN,seval,vS,o1,o2,q3,Z2,lZ2]
 have E2:=EP.step e2
 have m2:=hm.ext E2 (jM _)
 refine⟨(E2.mono hn0).put _ (by omega),(E2.put _ (by omega)).2 _ hp0,vo,vp,rb,by rw[hE],?_⟩
 rw[hE]
 refine⟨m2.o.put_ap (hm.o.apart (by omega)),m2.p.put_ap (hm.p.apart (by omega)),?_,hm.ao,hm.ap⟩
 show zJ Vq _ _ rb (JO m c.bucket).buckets
 exact ib.lift fun b hb _=>⟨zE _ (by omega),by omega,hm.o.apart (by omega),hm.p.apart (by omega),by omega⟩
theorem j2g(c:Yn)(hm:JE n0 p0 H m vo vp vb)(hn0:n0<=H.n)(hp0:p0<H.n)(hz:Ca m)(hc:BZ F H c va vw)(hk:c.kind=7):
 vR 60 [vS m vo vp vb,Eh c va vw] H fun r h'=>zM n0 H h'/\h'.at p0=H.at p0/\∃ro rp rb,r=vS (kI m c) ro rp rb/\JE n0 p0 h' (kI m c) ro rp rb:=by
 refine zW Tryz.func60 rfl rfl ?_
 have hmA:=hm.at (F:=fun _=>True) fun _ _=>trivial
 have o1:=hmA.o.one
 have o2:=hmA.p.one
 have o3:=hmA.b.one
 have a1:=hc.a.one
 have w1:=hc.w.one
 have k5e:(c.kind==5)=false:=by rw[hk];rfl
 have k6e:(c.kind==6)=false:=by rw[hk];rfl
 have k7e:(c.kind==7)=true:=by rw[hk];rfl
 obtain⟨hp,hhp,EP,P0,C0,Z0,nP⟩:=JA (H:=H) (mC m vo vp vb) (cC c va vw) mz
 unfold mC at P0 hhp
 unfold cC at C0 hhp
 unfold mz at Z0 hhp
 have LP:=xI P0
 have LC:=xI C0
 have lP:=jR P0
 have lZ:=jR Z0
 have hne:¬H.n=H.n+2:=by omega
 have hE:kI m c={m with leaf:=c.value}:=by unfold kI;rw[if_neg (by omega),if_neg (by omega),if_pos hk]
 simp only[jN,seval,Tryz.ntmps60,vS,Eh,o1,o2,o3,a1,w1,<-hhp,LP,LC,P0,Z0,lP,lZ,k5e,k6e,k7e,hne]
 refine⟨((EP.put _ (jM _)).put _ (by omega)).mono hn0,((EP.put _ (jM _)).put _ (by omega)).2 _ hp0,vo,vp,vb,by rw[hE],?_⟩
 rw[hE]
 have mp:=hm.ext EP (jM _)
 refine⟨(mp.o.put_ap (hm.o.apart (by omega))).put_ap (hm.o.apart (by omega)),(mp.p.put_ap (hm.p.apart (by omega))).put_ap (hm.p.apart (by omega)),?_,hm.ao,hm.ap⟩
 have hbl:zJ Vq (fun k=>(n0<=k/\qR vo k/\qR vp k/\k≠p0)/\k<H.n) hp vb m.buckets:=hm.b.lift fun b hb hlt=>⟨EP.2 _ hlt,hb,hlt⟩
 exact hbl.lift fun b hb _=>⟨by have:=hb.2;rw[zE _ (by omega),zE _ (by omega)],hb.1⟩
theorem j25{b2 o2:Nat}{k2:Cap}{l2 new:List AV}(hv:isSl v=true)(hbig:(lenD v+1) * 32<=140737488355328)(hg2:Zj h b2=some l2)(hc2:cut l2 o2 4=some new)(h1:new.all AV.one=true):
 vZ (zH Tryz.prog kR) h 63 63 v (.sl b2 o2 1 k2)=Qp h 108 4 1 new v:=by
 have e1:und (zH Tryz.prog kR) 63=some (.slice 108):=by kernel_rfl
 have h00:(zH Tryz.prog kR 108).map (fun i=>(i.bytes,i.zero.cells.length,i.size))=some (32,4,4):=by kernel_rfl
 obtain⟨i0,h0,he⟩:=Option.map_eq_some_iff.1 h00
 obtain⟨hb,hz,hs⟩:i0.bytes=32/\i0.zero.cells.length=4/\i0.size=4:=by simp only[jV]at he;exact he
 have hlv:lenA v=some (lenD v):=by obtain⟨n,⟨rfl,_⟩|⟨b,off,cap,rfl⟩⟩:=Fz.of hv<;>rfl
 have hsrc:Dk h 4 (.sl b2 o2 1 k2)=some new:=by simp only[Dk,hg2];exact hc2
 have hnl:new.length=4:=by
  unfold cut at hc2;split at hc2
  ·cases hc2;rw[zV,kT];omega
  ·cases hc2
 unfold vZ
 have f1:Nat.ble (lenD v+1) 4611686018427387904=true:=yF (by omega)
 have f2:Nat.ble ((lenD v+1) * 32) 140737488355328=true:=yF hbig
 have hlu:lenA (.sl b2 o2 1 k2)=some 1:=rfl
 rw[e1,hlv,hlu]
 simp only[h0,hb,hz,hs,hsrc,hnl,h1,f1,f2]
 rfl
theorem yX.capOk{α:Type}{R:Zl α}{xs:List α}(ho:yX R n0 h v e xs):KN R.z v:=by obtain⟨L,-,-,hc,-⟩:=(ho.toSl (F:=fun _=>True) (fun _ _=>trivial)).out;exact hc
theorem j2e(c:Yn)(hm:JE n0 p0 H m vo vp vb)(hn0:n0<=H.n)(hp0:p0<H.n)(hz:Ca m)(hc:BZ F H c va vw)(hk:c.kind=5):
 vR 60 [vS m vo vp vb,Eh c va vw] H fun r h'=>zM n0 H h'/\h'.at p0=H.at p0/\∃ro rp rb,r=vS (kI m c) ro rp rb/\JE n0 p0 h' (kI m c) ro rp rb:=by
 refine zW Tryz.func60 rfl rfl ?_
 have hmA:=hm.at (F:=fun _=>True) fun _ _=>trivial
 have o1:=hmA.o.one
 have o2:=hmA.p.one
 have o3:=hmA.b.one
 have a1:=hc.a.one
 have w1:=hc.w.one
 have s2:=hmA.p.isSl
 have d2:=hmA.p.lenD
 have k5e:(c.kind==5)=true:=by rw[hk];rfl
 obtain⟨hp,hhp,EP,P0,C0,Z0,nP⟩:=JA (H:=H) (mC m vo vp vb) (cC c va vw) mz
 unfold mC at P0 hhp
 unfold cC at C0 hhp
 unfold mz at Z0 hhp
 have LP:=xI P0
 have LC:=xI C0
 have lP:=jR P0
 have lC:=jR C0
 have lZ:=jR Z0
 have hne:¬H.n=H.n+2:=by omega
 have hE:kI m c={m with pools:=Xi m.pools c.pool}:=by unfold kI;rw[if_pos hk]
 have hsp:m.pools.length<4611686018427387904:=by have:=hz.sp;omega
 have mp:=hm.ext EP (jM _)
 have hbl:zJ Vq (fun k=>(n0<=k/\qR vo k/\qR vp k/\k≠p0)/\k<H.n) hp vb m.buckets:=hm.b.lift fun b hb hlt=>⟨EP.2 _ hlt,hb,hlt⟩
 simp only[jN,jB,jC,jE,jF,reduceCtorEq,jG,Tryz.ntmps60,vS,Eh,o1,o2,o3,a1,w1,<-hhp,LP,LC,k5e]
 obtain⟨n,hN⟩:∃n,n=m.pools.length:=⟨_,rfl⟩
 rw[<-hN]at d2 hsp
 have fin:∀(h:AH) (rp:AV),hp.n<=h.n->(∀b,b<hp.n->qR vp b->h.at b=hp.at b)->yX XR n0 h rp 108 (Xi m.pools c.pool)->(∀b,b<hp.n->qR vp b->qR rp b)->
  zM n0 H ((h.put H.n (.cells [.lit (.int .i64 m.epoch),vo,rp,vb,.lit (.int .i64 m.leaf)] 66)).put (H.n+2) (.cells [.lit (.int .i64 m.epoch),vo,rp,vb,.lit (.int .i64 m.leaf)] 66))/\
  ((h.put H.n (.cells [.lit (.int .i64 m.epoch),vo,rp,vb,.lit (.int .i64 m.leaf)] 66)).put (H.n+2) (.cells [.lit (.int .i64 m.epoch),vo,rp,vb,.lit (.int .i64 m.leaf)] 66)).at p0=H.at p0/\
  JE n0 p0 ((h.put H.n (.cells [.lit (.int .i64 m.epoch),vo,rp,vb,.lit (.int .i64 m.leaf)] 66)).put (H.n+2) (.cells [.lit (.int .i64 m.epoch),vo,rp,vb,.lit (.int .i64 m.leaf)] 66)) {m with pools:=Xi m.pools c.pool} vo rp vb:=by
  intro h rp hhn hk ho hap
  refine⟨(zM.put _ (zM.put _ ⟨by have:=EP.1;omega,fun b hb=> ?_⟩ hn0) (by omega)),?_,⟨?_,?_,?_,hm.ao,hap _ (by omega) hm.ap⟩⟩
  ·rw[hk b (by have:=EP.1;omega) (hm.p.apartLt hb)];exact EP.2 b (by omega)
  ·rw[zE _ (by omega),zE _ (by omega),hk _ (by omega) hm.ap];exact EP.2 _ hp0
  ·refine((mp.o.keep fun b off n cap hv=>hk b (mp.o.blt b off n cap hv) (mp.o.sep mp.p (by decide) b off n cap hv)).put_ap (hm.o.apart (by omega))).put_ap (hm.o.apart (by omega))
  ·exact(ho.put_ap (hap _ (by omega) (hm.p.apart (by omega)))).put_ap (hap _ (by omega) (hm.p.apart (by omega)))
  ·refine hbl.lift fun b hb hlt=>⟨?_,hb.1.1,hb.1.2.1,hap b (by omega) hb.1.2.2.1,hb.1.2.2.2⟩;have:=hb.2;rw[zE _ (by omega),zE _ (by omega)];exact hk b (by omega) hb.1.2.2.1
 refine ZP (fun(i:Nat) t h=>h=hp/\i<=n/\(∀j,j<i->(m.pools.getD j yW).id<c.pool.id)/\t.n=138/\t.get 2= .ptr H.n 0/\t.get 3= .ptr (H.n+1) 0/\t.get 4= .ptr (H.n+2) 0/\t.get 5= .lit (.int .i64 i)) (fun i=>n-i) ?_ 0 _ _ ?_
 ·rintro i t h ⟨rfl,hin,hj,ga⟩ ih;by_cases hlt:i<n
  ·obtain⟨x,hx⟩:∃x,m.pools[i]? =some x:=⟨_,jO (by omega)⟩;obtain⟨cc,hc1,hld,hld0⟩:=hmA.p.atE (T:=zH Tryz.prog kR) EP YY hx;obtain⟨rfl,hokx⟩:=Jc.1 hc1;have hltI:((i:Int)<(n:Int))=True:=by simp only[eq_iff_iff,iff_true];omega
   have hws:=xG hlt (by omega);by_cases hxl:x.id<c.pool.id
   ·simp only[jN];rw[zL [0,1,2,3,4,5,6,7,8,9,10,11,12,13,14,15,16] 497317544944576001011160041067678386381011072683367138058344116058555441232145599692800 (by kernel_rfl)];repeat ((with_reducible refine jX ?_;simp only[vO];try simp only[vP,jB,jD,jH,jI]);simp only[jN,jB,jE,jF,reduceCtorEq,jG,zG,LP,LC,s2,d2,ga,hlt,hltI,hld0,hxl])
    simp only[hws];refine ih (i+1) _ _ ⟨rfl,hlt,fun j hji=> ?_,?_⟩ (by omega)
    ·by_cases hji2:j=i
     ·subst hji2;rw[jU,hx];exact hxl
     ·exact hj j (by omega)
    ·simp only[jN,jE,jF,ga]
   ·have hne0:m.pools≠[]:=fun hh=>by rw[hh]at hx;simp at hx
    have row:∃q,vp= .sl q 0 m.pools.length (.un 4)/\n0<=q/\q<H.n/\h.at q=some (.cells (m.pools.flatMap Ul) 108)/\∀x∈m.pools,j6S x:=by
     rcases mp.p with ho|⟨hh,_⟩
     ·obtain⟨q,hv,hq,hat,hok⟩:=ho.row AS hne0;exact⟨q,hv,hq,hm.p.blt q _ _ _ hv,hat,hok⟩
     ·exact absurd hh hne0
    obtain⟨q,hv,hq,hqH,hat,hok⟩:=row;have lq:=jR hat;by_cases hxe:x.id=c.pool.id
    ·have hxeb:(x.id==c.pool.id)=true:=by simp[hxe]
     have hput:=wV (cf:=Ul) (z:=4) (y:=c.pool) (fun _=>rfl) (show i<m.pools.length by omega);simp only[Ul]at hput;have hv1:slB vp=q:=by rw[hv];rfl
     have hv2:slO vp=0:=by rw[hv];rfl
     have hat':h.at (slB vp)=some (.cells (m.pools.flatMap Ul) 108):=by rw[hv1];exact hat
     have hput':put (m.pools.flatMap Ul) (slO vp+i * 4) [.lit (.int .i64 c.pool.id),.lit (.int .i64 c.pool.size),.lit (.int .i64 c.pool.min),.lit (.int .i64 c.pool.pgs)]=some ((m.pools.set i c.pool).flatMap Ul):=by rw[hv2,yG];exact hput
     obtain⟨h2,hh2⟩:∃h2,h2=h.put q (.cells ((m.pools.set i c.pool).flatMap Ul) 108):=⟨_,rfl⟩;have W2:h2.at q=some (.cells ((m.pools.set i c.pool).flatMap Ul) 108):=hh2▸qJ _ lq;have k2:∀b,b≠q->h2.at b=h.at b:=fun b hb=>hh2▸zE _ (Ne.symm hb);have n2:h2.n=h.n:=by rw[hh2,kZ]
     have P2:=(k2 _ (by omega)).trans P0;have Z2:=(k2 _ (by omega)).trans Z0;have LP2:=xI P2;have lZ2:=jR Z2;have hh2':h.put (slB vp) (.cells ((m.pools.set i c.pool).flatMap Ul) 108)=h2:=by rw[hv1];exact hh2.symm
     simp only[jN];rw[zL [0,1,2,3,4,5,6,7,8,9,10,11,12,13,14,15,16] 497317544944576001011160041067678386381011072683367138058344116058555441232145599692800 (by kernel_rfl)];repeat ((with_reducible refine jX ?_;simp only[vO];try simp only[vP,jB,jD,jH,jI]);simp only[jN,jB,jE,jF,reduceCtorEq,jG,zG,LP,LC,s2,d2,ga,hlt,hltI,hld0,hxl])
     rw[zL [0,1,2,3,4,5,6,7,8,9,10,11,12,13,14,15,16] 497317544944576001011160041067678386381011072683367138058344116058555441232145599692800 (by kernel_rfl)];repeat ((with_reducible refine jX ?_;simp only[vO];try simp only[vP,jB,jD,jH,jI]);simp only[Jy,qT,put,YU,xS,xK,qA,jB,jD,jE,jF,reduceCtorEq,jG,zG,-put,LP,LC,s2,d2,ga,hlt,hltI,hld0,hxeb,hat',hput',hh2',LP2,Z2,lZ2,o1,o2,o3])
     have hI:Xi m.pools c.pool=m.pools.set i c.pool:=j26 hx hj hxe;have E2:zM n0 H h2:=⟨by have:=EP.1;omega,fun b hb=>(k2 b (by omega)).trans (EP.2 b (by omega))⟩;have hqp:p0≠q:=fun hh=>hm.ap 0 _ _ (hh▸hv);refine⟨E2.put _ (by omega),by rw[zE _ (by omega),k2 _ hqp];exact EP.2 _ hp0,vo,vp,vb,by rw[hE],?_⟩;rw[hE,hI];have hsep:=mp.o.sep mp.p (by decide);refine⟨((mp.o.keep fun b off n cap hv'=>k2 b (fun hh=>hsep b off n cap hv' 0 _ _ (hh▸hv))).put_ap (hm.o.apart (by omega))),?_,?_,hm.ao,hm.ap⟩
     ·refine yX.put_ap (.inl ?_) (hm.p.apart (by omega))
      rw[hv];exact qE.ofRow AS (by simp) hq W2 fun y hy=>by
       rcases List.mem_or_eq_of_mem_set hy with hy|rfl
       ·exact hok y hy
       ·exact hc.hp
     ·refine hbl.lift fun b hb hlt=>⟨?_,hb.1⟩;have:=hb.2;rw[zE _ (by omega)];exact k2 b fun hh=>hb.1.2.2.1 0 _ _ (hh▸hv)
    ·have hxeb:(x.id==c.pool.id)=false:=by simp[hxe]
     simp only[jN];rw[zL [0,1,2,3,4,5,6,7,8,9,10,11,12,13,14,15,16] 497317544944576001011160041067678386381011072683367138058344116058555441232145599692800 (by kernel_rfl)];repeat ((with_reducible refine jX ?_;simp only[vO];try simp only[vP,jB,jD,jH,jI]);simp only[jN,jB,jE,jF,reduceCtorEq,jG,zG,LP,LC,s2,d2,ga,hlt,hltI,hld0,hxl])
     rw[zL [0,1,2,3,4,5,6,7,8,9,10,11,12,13,14,15,16] 497317544944576001011160041067678386381011072683367138058344116058555441232145599692800 (by kernel_rfl)];repeat ((with_reducible refine jX ?_;simp only[vO];try simp only[vP,jB,jD,jH,jI]);simp only[jN,jB,jD,jE,jF,reduceCtorEq,jG,zG,LP,LC,s2,d2,ga,hlt,hltI,hld0,hxeb])
     rw[hv];have hcut:cut (m.pools.flatMap Ul) 0 (m.pools.length * 4)=some (m.pools.flatMap Ul):=by unfold cut;have:=Vu (cf:=Ul) (z:=4) (fun _=>rfl) m.pools;rw[if_pos (by omega),xK,<-this,xC]
     have hIg:Xi m.pools c.pool=m.pools.take i++c.pool::m.pools.drop i:=j27 hx hj (by omega);have hrow:(m.pools.flatMap Ul).take (i * 4)++Ul c.pool++(m.pools.flatMap Ul).drop (i * 4)=(Xi m.pools c.pool).flatMap Ul:=by
      have h3:=Vu (cf:=Ul) (z:=4) (fun _=>rfl) (m.pools.take i);rw[zV,QE (by omega)]at h3;have h4:m.pools.flatMap Ul=(m.pools.take i).flatMap Ul++(m.pools.drop i).flatMap Ul:=by rw[<-Xu,yE]
      rw[hIg,Xu,QH,h4,Eo h3,List.drop_left' h3,zP]
     have hlenI:(Xi m.pools c.pool).length=m.pools.length+1:=by rw[hIg];simp;omega
     refine j6g (l2:=Ul c.pool) (new:=Ul c.pool) ((xE _ lq).trans hat) (zI _ _) hcut rfl (by have:=hz.sp;omega) (by omega) rfl ?_ (by omega) ?_
     ·rw[qG];intro v hv';obtain⟨y,_,hy⟩:=List.mem_flatMap.1 hv';simp only[Ul,qL,Bp,or_false]at hy;rcases hy with rfl|rfl|rfl|rfl<;>rfl
     rw[hrow];obtain⟨h2,hh2⟩:∃h2,h2=((h.push (.cells (Ul c.pool) 108)).put q .gone).push (.cells ((Xi m.pools c.pool).flatMap Ul) 108):=⟨_,rfl⟩;have n2:h2.n=h.n+2:=by rw[hh2,zF,kZ,zF]
     have W2:h2.at (h.n+1)=some (.cells ((Xi m.pools c.pool).flatMap Ul) 108):=by have:=zI ((h.push (.cells (Ul c.pool) 108)).put q .gone) (.cells ((Xi m.pools c.pool).flatMap Ul) 108);rw[kZ,zF]at this;rw[hh2];exact this
     have k2:∀b,b<h.n->b≠q->h2.at b=h.at b:=fun b hb hbq=>by rw[hh2,xE _ (by rw[kZ,zF];omega),zE _ (Ne.symm hbq),xE _ hb]
     have hgo:(h.push (.cells (Ul c.pool) 108)).n=h.n+1:=zF _ _;have hpc:((h.push (.cells [.lit (.int .i64 c.pool.id),.lit (.int .i64 c.pool.size),.lit (.int .i64 c.pool.min),.lit (.int .i64 c.pool.pgs)] 108)).put q .gone).push (.cells ((Xi m.pools c.pool).flatMap Ul) 108)=h2:=hh2.symm;have P2:=(k2 _ lP (by omega)).trans P0;have Z2:=(k2 _ lZ (by omega)).trans Z0;have lZ2:=jR Z2;have lP2:=jR P2;simp only[jN,jB,jE,jF,reduceCtorEq,jG,hpc,P2,lP2,Z2,lZ2,o1,o3,hne,ga];obtain⟨f1,f3,f2⟩:=fin h2 (.sl (h.n+1) 0 (m.pools.length+1) (.un 4)) (by omega) (fun b hb hab=>k2 b hb (fun hh=>hab 0 _ _ (hh▸hv))) (.inl (qE.ofRow AS hlenI.symm (by omega) W2 (by
      rw[hIg];intro y hy;rcases List.mem_append.1 hy with hy|hy
      ·exact hok y (ZY hy)
      ·rcases List.mem_cons.1 hy with rfl|hy
       ·exact hc.hp
       ·exact hok y (Yo hy)))) (fun b hb _ off n cap e=>by cases e;omega)
     exact⟨f1,f3,vo,_,vb,by rw[hE],by rw[hE];exact f2⟩
  ·have hltI:((i:Int)<(n:Int))=False:=by simp only[eq_iff_iff,iff_false];omega
   simp only[jN];rw[zL [0,1,2,3,4,5,6,7,8,9,10,11,12,13,14,15,16] 497317544944576001011160041067678386381011072683367138058344116058555441232145599692800 (by kernel_rfl)];repeat ((with_reducible refine jX ?_;simp only[vO];try simp only[vP,jB,jD,jH,jI]);simp only[jN,jB,jE,jF,reduceCtorEq,zG,LP,s2,d2,ga,hltI])
   rw[zL [0,1,2,3,4,5,6,7,8,9,10,11,12,13,14,15,16] 497317544944576001011160041067678386381011072683367138058344116058555441232145599692800 (by kernel_rfl)];repeat ((with_reducible refine jX ?_;simp only[vO];try simp only[vP,jB,jD,jH,jI]);simp only[jN,jB,jD,jE,jF,reduceCtorEq,jG,zG,LP,LC,s2,d2,ga,hlt,hltI])
   have hid:i=lenD vp:=by omega
   obtain⟨h1,hh1⟩:∃h1,h1=h.push (.cells [.lit (.int .i64 c.pool.id),.lit (.int .i64 c.pool.size),.lit (.int .i64 c.pool.min),.lit (.int .i64 c.pool.pgs)] 108):=⟨_,rfl⟩;have e1:=ZS hh1;have A1:h1.at h.n=some (.cells (Ul c.pool) 108):=hh1▸zI _ _;have n1:h1.n=h.n+1:=by rw[hh1,zF]
   rw[<-hh1,hid];clear hh1;have p1:=mp.p.ext e1 (jM _);have hg2:Zj h1 h.n=some (Ul c.pool):=by unfold Zj;rw[A1]
   have hbig:(lenD vp+1) * 32<=140737488355328:=by have:=hz.sp;omega
   have hIe:Xi m.pools c.pool=m.pools++[c.pool]:=tT fun j hjl=>hj j (by omega);obtain⟨s',h2,ha,hs',f2⟩:=p1.snoc (T:=zH Tryz.prog kR) (t:=63) (y:=c.pool) (cap:= .kn 1) AS (by kernel_rfl) (by kernel_rfl) (zv:= .agg [.lit (.int .i64 0),.lit (.int .i64 0),.lit (.int .i64 0),.lit (.int .i64 0)]) (by kernel_rfl) (by':=32) (by kernel_rfl) rfl (by decide) (by decide) A1 (Jc.2 ⟨rfl,hc.hp⟩) (by omega) (by rw[<-d2.trans hN];exact hbig) (by omega);rw[j25 s2 hbig hg2 rfl rfl]at ha;refine j4A s2 mp.p.capOk hg2 rfl hbig rfl ha ?_;have fr:Fr h vp h2 s':=(Fr.ext e1).trans f2;have ap0:=hm.p.apart (b:=H.n) (by omega);have ap2:=hm.p.apart (b:=H.n+2) (by omega);have P2:=(fr.2 _ lP ap0).1.trans P0;have Z2:=(fr.2 _ lZ ap2).1.trans Z0;have lZ2:=jR Z2;have lP2:=jR P2;have q1:=(hs'.toSl (F:=fun _=>True) (fun _ _=>trivial)).one;simp only[jN,jB,jE,jF,reduceCtorEq,jG,P2,lP2,Z2,lZ2,o1,o3,q1,hne,ga];have f0:=fr.1;obtain⟨f1,f3,f2⟩:=fin h2 s' (by omega) (fun b hb hab=>(fr.2 b hb hab).1) (by rw[hIe];exact hs') (fun b hb hab=>(fr.2 b hb hab).2);exact⟨f1,f3,vo,_,vb,by rw[hE],by rw[hE];exact f2⟩
 ·refine⟨rfl,vT _,fun j hj=>by omega,?_⟩;simp only[jN,jB,jE,jF];simp
theorem NN{l:List Xa}(h:n+1<=l.length+k)(hk:k=0\/l.length+k<=n+1):l++List.replicate k Zv=VQ l n:=by unfold VQ;congr 2;omega
theorem Tw(l:List Xa)(k:Nat):l++List.replicate k Zv++[Zv]=l++List.replicate (k+1) Zv:=by rw[List.replicate_succ',zP]
theorem j2r:j0M Zv:=by unfold j0M Zq Zv;decide
theorem Ed(n:Int):Zq (IntKind.i64.wrap n):=by rw[YQ];unfold Zq;omega
theorem j2h(c:Yn)(hm:JE n0 p0 H m vo vp vb)(hn0:n0<=H.n)(hp0:p0<H.n)(hz:Ca m)(hc:BZ F H c va vw)(hk:Xx c.kind)(ho:c.osd=(k:Int))(hk8:k<8):
 vR 60 [vS m vo vp vb,Eh c va vw] H fun r h'=>zM n0 H h'/\h'.at p0=H.at p0/\∃ro rp rb,r=vS (kI m c) ro rp rb/\JE n0 p0 h' (kI m c) ro rp rb:=by
 refine zW Tryz.func60 rfl rfl ?_
 have hmA:=hm.at (F:=fun _=>True) fun _ _=>trivial
 have o1:=hmA.o.one
 have o2:=hmA.p.one
 have o3:=hmA.b.one
 have a1:=hc.a.one
 have w1:=hc.w.one
 have s2:=hmA.p.isSl
 have d1:=hmA.o.lenD
 have s3:=hmA.b.isSl
 have k5e:(c.kind==5)=false:=by unfold Xx at hk;simp;omega
 have k6e:(c.kind==6)=false:=by unfold Xx at hk;simp;omega
 have k7e:(c.kind==7)=false:=by unfold Xx at hk;simp;omega
 obtain⟨hp,hhp,EP,P0,C0,Z0,nP⟩:=JA (H:=H) (mC m vo vp vb) (cC c va vw) mz
 unfold mC at P0 hhp
 unfold cC at C0 hhp
 unfold mz at Z0 hhp
 have LP:=xI P0
 have LC:=xI C0
 have hne:¬H.n=H.n+2:=by omega
 have hE:kI m c=bQ m k (KA m.epoch (Vf m (k:Int)) c.kind c.value):=by unfold kI;unfold Xx at hk;rw[if_neg (by omega),if_neg (by omega),if_neg (by omega),ho];rfl
 have mp:=hm.ext EP (jM _)
 have hbl:zJ Vq (fun k=>n0<=k/\qR vo k/\qR vp k/\k<H.n/\k≠p0) hp vb m.buckets:=hm.b.lift fun b hb hlt=>⟨EP.2 _ hlt,hb.1,hb.2.1,hb.2.2.1,hlt,hb.2.2.2⟩
 have hso:m.osds.length<4611686018427387904:=by have:=hz.so;unfold Sm at this;omega
 simp only[jN,jB,jC,jE,jF,reduceCtorEq,jG,Tryz.ntmps60,vS,Eh,o1,o2,o3,a1,w1,<-hhp,LP,LC,k5e,k6e,k7e]
 refine ZP (fun(j:Nat) t h=>∃v,h.at H.n=some (.cells [.lit (.int .i64 m.epoch),v,vp,vb,.lit (.int .i64 m.leaf)] 66)/\h.at (H.n+1)=hp.at (H.n+1)/\h.at (H.n+2)=hp.at (H.n+2)/\(j=0\/m.osds.length+j<=k+1)/\
  yX Dt n0 h v 136 (m.osds++List.replicate j Zv)/\yX XR n0 h vp 108 m.pools/\zJ Vq (fun k=>n0<=k/\qR v k/\qR vp k/\k<H.n/\k≠p0) h vb m.buckets/\qR v p0/\h.at p0=H.at p0/\zM n0 H h/\hp.n<=h.n/\qR v H.n/\qR v (H.n+1)/\qR v (H.n+2)/\t.n=138/\t.get 2= .ptr H.n 0/\t.get 3= .ptr (H.n+1) 0/\t.get 4= .ptr (H.n+2) 0) (fun j=>k+1-j) ?_ 0 _ _ ?_
 ·rintro j t h ⟨v,PH,CH,ZH,hj,ov,ovp,ib,avp,hp0e,EH,lhn,av0,av1,av2,hn,g2,g3,g4⟩ ih;rw[C0]at CH;rw[Z0]at ZH;have LPH:=xI PH;have LCH:=xI CH;have lPH:=jR PH;have lCH:=jR CH;have lZH:=jR ZH;have ovs:=ov.toSl (F:=fun _=>True) (fun _ _=>trivial);have t1:=ovs.isSl;have t2:=ovs.lenD;have t3:=ovs.one;obtain⟨n,hN⟩:∃n,n=(m.osds++List.replicate j Zv).length:=⟨_,rfl⟩;have hN':n=m.osds.length+j:=by rw[hN,jQ,AM]
  rw[<-hN]at t2;by_cases hlt:n<=k
  ·have hltI:((n:Int)<=(k:Int))=True:=by simp only[eq_iff_iff,iff_true];omega
   simp only[jN,jB,jD,jE,jF,reduceCtorEq,jG,hn,g2,g3,LPH,LCH,t1,t2,ho,hltI];have A1:=zI h (.cells (YV Zv) 136);have eA:zM h.n h (h.push (.cells (YV Zv) 136)):=(zM.refl _ _).push _ (jM _);refine qM ((ov.ext eA (jM _)).snoc (T:=zH Tryz.prog kR) (y:=Zv) (cap:= .kn 1) NH (by kernel_rfl) (by kernel_rfl) (zv:= .agg [.lit (.bool false),.lit (.bool false),.lit (.int .i64 0),.lit (.int .i64 0),.lit (.int .i64 0),.lit (.int .i64 0)]) (by kernel_rfl) (by':=40) (by kernel_rfl) rfl (by decide) (by decide) A1 (Qn.2 ⟨rfl,j2r⟩) (by rw[<-hN];omega) (by rw[<-hN];omega) (by rw[zF];have:=EH.1;omega)) ?_;rintro s' h2 ⟨os',f2⟩;have lfn:=f2.1;rw[zF]at lfn;have P1:(h.push (.cells (YV Zv) 136)).at H.n=_:=(xE _ lPH).trans PH;have C1:(h.push (.cells (YV Zv) 136)).at (H.n+1)=_:=(xE _ lCH).trans CH;have Z1:(h.push (.cells (YV Zv) 136)).at (H.n+2)=_:=(xE _ lZH).trans ZH;obtain⟨P2,bp0⟩:=f2.box P1 av0;obtain⟨C2,bp1⟩:=f2.box C1 av1;obtain⟨Z2,bp2⟩:=f2.box Z1 av2;have lP2:=jR P2;have q1:=(os'.toSl (F:=fun _=>True) (fun _ _=>trivial)).one;simp only[jN,jB,jE,jF,jG,hn,g2,P2,q1];refine ih (j+1) _ _ ⟨s',qJ _ lP2,by rw[zE _ (by omega),C2,C0],by rw[zE _ (by omega),Z2,Z0],.inr (by omega),?_,?_,?_,(f2.2 _ (by rw[zF];omega) avp).2,by rw[zE _ (by omega),(f2.2 _ (by rw[zF];omega) avp).1,xE _ (by omega)];exact hp0e,?_,by rw[kZ];omega,bp0,bp1,bp2,?_⟩ (by omega)
   ·rw[<-Tw];exact os'.put_ap bp0
   ·exact((ovp.ext eA (jM _)).fr (ov.ext eA (jM _)) (by decide) f2).put_ap (hm.p.apart (by omega))
   ·refine ib.lift fun b hb hlb=> ?_;obtain⟨k1,k2⟩:=f2.2 b (by rw[zF];omega) hb.2.1;have:=hb.2.2.2.1;exact⟨by rw[zE _ (by omega),k1,xE _ hlb],hb.1,k2,hb.2.2.1,hb.2.2.2⟩
   ·refine zM.put _ ⟨by have:=EH.1;omega,fun b hb=> ?_⟩ hn0;have:=EH.1;rw[(f2.2 b (by rw[zF];omega) (ov.apartLt hb)).1,xE _ (by omega)];exact EH.2 b hb
   ·simp only[jN,jF,hn,g2,g3,g4]
  ·have hltI:((n:Int)<=(k:Int))=False:=by simp only[eq_iff_iff,iff_false];omega
   have hgr:m.osds++List.replicate j Zv=VQ m.osds k:=NN (by omega) hj;have hkn:k<n:=by omega
   obtain⟨l,hl⟩:∃l,l=m.osds++List.replicate j Zv:=⟨_,rfl⟩;rw[<-hl]at ov ovs hN hgr;obtain⟨x,hx⟩:∃x,l[k]? =some x:=⟨_,jO (by omega)⟩;have hxG:Vf m (k:Int)=x:=by rw[Ti (by omega),vD,<-Sv m.osds k k,<-hgr,jU,hx];rfl
   have hlne:l≠[]:=fun hh=>by rw[hh]at hx;simp at hx
   have row:∃q,v= .sl q 0 l.length (.un 6)/\n0<=q/\h.at q=some (.cells (l.flatMap YV) 136)/\∀x∈l,j0M x:=by
    rcases ov with hov|⟨hh,_⟩
    ·exact hov.row NH hlne
    ·exact absurd hh hlne
   obtain⟨q,hv,hq,hat,hok⟩:=row;have hv1:slB v=q:=by rw[hv];rfl
   have hv2:slO v=0:=by rw[hv];rfl
   have hat':h.at (slB v)=some (.cells (l.flatMap YV) 136):=by rw[hv1];exact hat
   have lq:=jR hat;have lq':=jR hat';obtain⟨cc,hc1,hld,hld0⟩:=ovs.at (T:=zH Tryz.prog kR) Bs hx;obtain⟨rfl,okx⟩:=Qn.1 hc1;have hq0:q≠H.n:=fun hh=>av0 0 _ _ (hh▸hv);have hq1:q≠H.n+1:=fun hh=>av1 0 _ _ (hh▸hv);have hq2:q≠H.n+2:=fun hh=>av2 0 _ _ (hh▸hv);have hsep:=ovp.sep ov (by decide);have hb0:¬slB v=H.n:=by rw[hv1];exact hq0
   have hb1:¬slB v=H.n+1:=by rw[hv1];exact hq1
   have finO:∀(h':AH) (y:Xa) (X:AB),j0M y->h'.n=h.n->(∀b,b≠q->h'.at b=h.at b)->h'.at q=some (.cells ((l.set k y).flatMap YV) 136)->KA m.epoch x c.kind c.value=y->
    zM n0 H (h'.put (H.n+2) X)/\(h'.put (H.n+2) X).at p0=H.at p0/\∃ro rp rb,AV.agg [.lit (.int .i64 m.epoch),v,vp,vb,.lit (.int .i64 m.leaf)]= .agg [.lit (.int .i64 (kI m c).epoch),ro,rp,rb,.lit (.int .i64 (kI m c).leaf)]/\JE n0 p0 (h'.put (H.n+2) X) (kI m c) ro rp rb:=by
    intro h' y X oky hn' hk' hat2 hnew
    have hE':kI m c={m with osds:=l.set k y}:=by rw[hE,hxG,hnew,hgr];rfl
    refine⟨zM.put _ ⟨by have:=EH.1;omega,fun b hb=>(hk' b (by omega)).trans (EH.2 b hb)⟩ (by omega),by rw[zE _ (by omega),hk' _ (fun hh=>avp 0 _ _ (hh▸hv))];exact hp0e,v,vp,vb,by rw[hE'],?_⟩
    rw[hE']
    refine⟨?_,?_,?_,avp,hm.ap⟩
    ·refine yX.put_ap (.inl ?_) av2
     rw[hv];exact qE.ofRow NH (by simp) hq hat2 fun y' hy=>by
      rcases List.mem_or_eq_of_mem_set hy with hy|rfl
      ·exact hok y' hy
      ·exact oky
    ·exact(ovp.keep fun b off n cap hv'=>hk' b (fun hh=>hsep b off n cap hv' 0 _ _ (hh▸hv))).put_ap (hm.p.apart (by omega))
    ·refine ib.lift fun b hb hlb=>⟨?_,hb.1,hb.2.1,hb.2.2.1,hb.2.2.2.2⟩;have:=hb.2.2.2.1;rw[zE _ (by omega)];exact hk' b fun hh=>hb.2.1 0 _ _ (hh▸hv)
   have hkl:k<l.length:=by omega
   have pf:∀(l2:List Xa) (x2 y:Xa) (f:Nat) (u:AV),l2[k]? =some x2->f<6->YV y=(YV x2).set f u->put (l2.flatMap YV) (slO v+k * 6+f) [u]=some ((l2.set k y).flatMap YV):=by intro l2 x2 y f u hx2 hf hy;rw[hv2,yG];exact wW (fun _=>rfl) hx2 hf hy
   obtain⟨ex,up,w,bt,uf,ut⟩:=x;simp only at hld hld0;have one1:∀(h2:AH) (y:Xa),h2=h.put (slB v) (.cells ((l.set k y).flatMap YV) 136)->h2.n=h.n/\(∀b,b≠q->h2.at b=h.at b)/\h2.at q=some (.cells ((l.set k y).flatMap YV) 136):=by rintro h2 y rfl;rw[hv1];exact⟨kZ _ _ _,fun b hb=>zE _ (Ne.symm hb),qJ _ lq⟩
   rcases hk with k1|k1|k1|k1
   ·have e1:(c.kind==1)=true:=by simp[k1]
    have I64w:Zq (65536:Int):=by unfold Zq;decide
    cases ex with
    |true=>
     have hput0:=pf (l) ⟨true,up,w,bt,uf,ut⟩ ⟨true,up,w,bt,uf,ut⟩ 0 (.lit (.bool true)) hx (by decide) rfl;simp only[JH]at hput0;have hput1:=pf ((l).set k ⟨true,up,w,bt,uf,ut⟩) ⟨true,up,w,bt,uf,ut⟩ ⟨true,true,w,bt,uf,ut⟩ 1 (.lit (.bool true)) (qK (by first|exact hkl|(simp only[yI];exact hkl))) (by decide) rfl;have hput2:=pf (((l).set k ⟨true,up,w,bt,uf,ut⟩).set k ⟨true,true,w,bt,uf,ut⟩) ⟨true,true,w,bt,uf,ut⟩ ⟨true,true,w,c.value,uf,ut⟩ 3 (.lit (.int .i64 c.value)) (qK (by first|exact hkl|(simp only[yI];exact hkl))) (by decide) rfl;have hput3:=pf ((((l).set k ⟨true,up,w,bt,uf,ut⟩).set k ⟨true,true,w,bt,uf,ut⟩).set k ⟨true,true,w,c.value,uf,ut⟩) ⟨true,true,w,c.value,uf,ut⟩ ⟨true,true,w,c.value,(IntKind.i64.wrap (m.epoch+1)),ut⟩ 4 (.lit (.int .i64 (IntKind.i64.wrap (m.epoch+1)))) (qK (by first|exact hkl|(simp only[yI];exact hkl))) (by decide) rfl;obtain⟨h2,hh2⟩:∃h2,h2=((((h).put (slB v) (.cells (((l).set k ⟨true,up,w,bt,uf,ut⟩).flatMap YV) 136)).put (slB v) (.cells ((((l).set k ⟨true,up,w,bt,uf,ut⟩).set k ⟨true,true,w,bt,uf,ut⟩).flatMap YV) 136)).put (slB v) (.cells (((((l).set k ⟨true,up,w,bt,uf,ut⟩).set k ⟨true,true,w,bt,uf,ut⟩).set k ⟨true,true,w,c.value,uf,ut⟩).flatMap YV) 136)).put (slB v) (.cells ((((((l).set k ⟨true,up,w,bt,uf,ut⟩).set k ⟨true,true,w,bt,uf,ut⟩).set k ⟨true,true,w,c.value,uf,ut⟩).set k ⟨true,true,w,c.value,(IntKind.i64.wrap (m.epoch+1)),ut⟩).flatMap YV) 136):=⟨_,rfl⟩;have n2:h2.n=h.n:=by rw[hh2];simp only[kZ]
     have k2:∀b,b≠q->h2.at b=h.at b:=fun b hb=>by rw[hh2,hv1];simp only[zE _ (Ne.symm hb)]
     have W2:h2.at q=some (.cells ((l.set k ⟨true,true,w,c.value,(IntKind.i64.wrap (m.epoch+1)),ut⟩).flatMap YV) 136):=by rw[hh2,hv1,qJ _ (by simp only[kZ];exact lq)];simp only[List.set_set]
     have P2:=(k2 _ (Ne.symm hq0)).trans PH;have Z2:=(k2 _ (Ne.symm hq2)).trans ZH;have LP2:=xI P2;have lZ2:=jR Z2;simp only[Jy,qT,put,YU,xS,xK,qA,jB,jD,jE,jF,reduceCtorEq,jG,-put,hn,g2,g3,LPH,LCH,t1,t2,ho,hltI,hkn,e1,hld0,hat'];rw[zL [0,1,2,3,4,5,6,7,8,9,10,11,12,13,14,15,16,17,18,19,20] 2839211736014648557665625145243202673207761677055053730083980496644075090390337902035124234349416132990381754724532346531952526884864 (by kernel_rfl)];repeat (first|((with_reducible refine jX ?_;simp only[vO];try simp only[vP,jB,jD,jH,jI]);simp only[Jy,put,YU,xS,xK,qA,jB,jE,jF,reduceCtorEq,jG,zG,-put,hn,g2,g3,g4,LPH,LCH,t3,ho,hb0,hb1,hat',lq',hput0,hput1,hput2,hput3,<-hh2,LP2,Z2,lZ2,o2,o3])|simp only[Jy,qT,put,YU,Qc,xS,xK,qA,jB,jC,jD,jE,jF,reduceCtorEq,jG,jJ,jK,jL,zG,-put,hn,g2,g3,g4,LPH,LCH,lPH,lCH,t1,t2,t3,s2,s3,ho,hltI,hkn,e1,hld,hld0,hb0,hb1,DW,hat',lq',hput0,hput1,hput2,hput3,<-hh2,LP2,Z2,lZ2,o2,o3])
     exact finO h2 ⟨true,true,w,c.value,(IntKind.i64.wrap (m.epoch+1)),ut⟩ _ ⟨okx.1,hc.hv,Ed _,okx.2.2.2⟩ n2 k2 W2 (by simp[KA,k1])
    |false=>
     have hput0:=pf (l) ⟨false,up,w,bt,uf,ut⟩ ⟨false,up,65536,bt,uf,ut⟩ 2 (.lit (.int .i64 65536)) hx (by decide) rfl;have hput1:=pf ((l).set k ⟨false,up,65536,bt,uf,ut⟩) ⟨false,up,65536,bt,uf,ut⟩ ⟨true,up,65536,bt,uf,ut⟩ 0 (.lit (.bool true)) (qK (by first|exact hkl|(simp only[yI];exact hkl))) (by decide) rfl;simp only[JH]at hput1;have hput2:=pf (((l).set k ⟨false,up,65536,bt,uf,ut⟩).set k ⟨true,up,65536,bt,uf,ut⟩) ⟨true,up,65536,bt,uf,ut⟩ ⟨true,true,65536,bt,uf,ut⟩ 1 (.lit (.bool true)) (qK (by first|exact hkl|(simp only[yI];exact hkl))) (by decide) rfl;have hput3:=pf ((((l).set k ⟨false,up,65536,bt,uf,ut⟩).set k ⟨true,up,65536,bt,uf,ut⟩).set k ⟨true,true,65536,bt,uf,ut⟩) ⟨true,true,65536,bt,uf,ut⟩ ⟨true,true,65536,c.value,uf,ut⟩ 3 (.lit (.int .i64 c.value)) (qK (by first|exact hkl|(simp only[yI];exact hkl))) (by decide) rfl;have hput4:=pf (((((l).set k ⟨false,up,65536,bt,uf,ut⟩).set k ⟨true,up,65536,bt,uf,ut⟩).set k ⟨true,true,65536,bt,uf,ut⟩).set k ⟨true,true,65536,c.value,uf,ut⟩) ⟨true,true,65536,c.value,uf,ut⟩ ⟨true,true,65536,c.value,(IntKind.i64.wrap (m.epoch+1)),ut⟩ 4 (.lit (.int .i64 (IntKind.i64.wrap (m.epoch+1)))) (qK (by first|exact hkl|(simp only[yI];exact hkl))) (by decide) rfl;obtain⟨h2,hh2⟩:∃h2,h2=(((((h).put (slB v) (.cells (((l).set k ⟨false,up,65536,bt,uf,ut⟩).flatMap YV) 136)).put (slB v) (.cells ((((l).set k ⟨false,up,65536,bt,uf,ut⟩).set k ⟨true,up,65536,bt,uf,ut⟩).flatMap YV) 136)).put (slB v) (.cells (((((l).set k ⟨false,up,65536,bt,uf,ut⟩).set k ⟨true,up,65536,bt,uf,ut⟩).set k ⟨true,true,65536,bt,uf,ut⟩).flatMap YV) 136)).put (slB v) (.cells ((((((l).set k ⟨false,up,65536,bt,uf,ut⟩).set k ⟨true,up,65536,bt,uf,ut⟩).set k ⟨true,true,65536,bt,uf,ut⟩).set k ⟨true,true,65536,c.value,uf,ut⟩).flatMap YV) 136)).put (slB v) (.cells (((((((l).set k ⟨false,up,65536,bt,uf,ut⟩).set k ⟨true,up,65536,bt,uf,ut⟩).set k ⟨true,true,65536,bt,uf,ut⟩).set k ⟨true,true,65536,c.value,uf,ut⟩).set k ⟨true,true,65536,c.value,(IntKind.i64.wrap (m.epoch+1)),ut⟩).flatMap YV) 136):=⟨_,rfl⟩;have n2:h2.n=h.n:=by rw[hh2];simp only[kZ]
     have k2:∀b,b≠q->h2.at b=h.at b:=fun b hb=>by rw[hh2,hv1];simp only[zE _ (Ne.symm hb)]
     have W2:h2.at q=some (.cells ((l.set k ⟨true,true,65536,c.value,(IntKind.i64.wrap (m.epoch+1)),ut⟩).flatMap YV) 136):=by rw[hh2,hv1,qJ _ (by simp only[kZ];exact lq)];simp only[List.set_set]
     have P2:=(k2 _ (Ne.symm hq0)).trans PH;have Z2:=(k2 _ (Ne.symm hq2)).trans ZH;have LP2:=xI P2;have lZ2:=jR Z2;simp only[Jy,qT,put,YU,xS,xK,qA,jB,jD,jE,jF,reduceCtorEq,jG,-put,hn,g2,g3,LPH,LCH,t1,t2,ho,hltI,hkn,e1,hld0,hat',hput0];rw[zL [0,1,2,3,4,5,6,7,8,9,10,11,12,13,14,15,16,17,18,19,20] 2839211736014648557665625145243202673207761677055053730083980496644075090390337902035124234349416132990381754724532346531952526884864 (by kernel_rfl)];repeat (first|((with_reducible refine jX ?_;simp only[vO];try simp only[vP,jB,jD,jH,jI]);simp only[Jy,put,YU,xS,xK,qA,jB,jE,jF,reduceCtorEq,jG,zG,-put,hn,g2,g3,g4,LPH,LCH,t3,ho,hb0,hb1,lq',hput1,hput2,hput3,hput4,<-hh2,LP2,Z2,lZ2,o2,o3])|simp only[Jy,qT,put,YU,Qc,xS,xK,qA,jB,jC,jD,jE,jF,reduceCtorEq,jG,jJ,jK,jL,zG,-put,hn,g2,g3,g4,LPH,LCH,lPH,lCH,t1,t2,t3,s2,s3,ho,hltI,hkn,e1,hld,hld0,hb0,hb1,DW,hat',lq',hput0,hput1,hput2,hput3,hput4,<-hh2,LP2,Z2,lZ2,o2,o3])
     exact finO h2 ⟨true,true,65536,c.value,(IntKind.i64.wrap (m.epoch+1)),ut⟩ _ ⟨I64w,hc.hv,Ed _,okx.2.2.2⟩ n2 k2 W2 (by simp[KA,k1])
   ·have e1:(c.kind==1)=false:=by simp[k1]
    have e2:(c.kind==2)=true:=by simp[k1]
    have hput:=pf l ⟨ex,up,w,bt,uf,ut⟩ ⟨ex,false,w,bt,uf,ut⟩ 1 (.lit (.bool false)) hx (by decide) rfl;obtain⟨h2,hh2⟩:∃h2,h2=h.put (slB v) (.cells ((l.set k ⟨ex,false,w,bt,uf,ut⟩).flatMap YV) 136):=⟨_,rfl⟩;obtain⟨n2,k2,W2⟩:=one1 h2 _ hh2;have P2:=(k2 _ (Ne.symm hq0)).trans PH;have Z2:=(k2 _ (Ne.symm hq2)).trans ZH;have LP2:=xI P2;have lZ2:=jR Z2;simp only[Jy,qT,put,YU,xS,xK,qA,jB,jD,jE,jF,reduceCtorEq,jG,-put,hn,g2,g3,g4,LPH,LCH,t1,t2,t3,ho,hltI,hkn,e1,e2,hat',hput,<-hh2,LP2,Z2,lZ2,o2,o3];exact finO h2 ⟨ex,false,w,bt,uf,ut⟩ _ okx n2 k2 W2 (by simp[KA,k1])
   ·have e1:(c.kind==1)=false:=by simp[k1]
    have e2:(c.kind==2)=false:=by simp[k1]
    have e3:(c.kind==3)=true:=by simp[k1]
    have hput:=pf l ⟨ex,up,w,bt,uf,ut⟩ ⟨ex,up,c.value,bt,uf,ut⟩ 2 (.lit (.int .i64 c.value)) hx (by decide) rfl;obtain⟨h2,hh2⟩:∃h2,h2=h.put (slB v) (.cells ((l.set k ⟨ex,up,c.value,bt,uf,ut⟩).flatMap YV) 136):=⟨_,rfl⟩;obtain⟨n2,k2,W2⟩:=one1 h2 _ hh2;have P2:=(k2 _ (Ne.symm hq0)).trans PH;have Z2:=(k2 _ (Ne.symm hq2)).trans ZH;have LP2:=xI P2;have lZ2:=jR Z2;simp only[Jy,qT,put,YU,xS,xK,qA,jB,jD,jE,jF,reduceCtorEq,jG,-put,hn,g2,g3,g4,LPH,LCH,t1,t2,t3,ho,hltI,hkn,e1,e2,e3,hat',hput,<-hh2,LP2,Z2,lZ2,o2,o3];exact finO h2 ⟨ex,up,c.value,bt,uf,ut⟩ _ ⟨hc.hv,okx.2⟩ n2 k2 W2 (by simp[KA,k1])
   ·have e1:(c.kind==1)=false:=by simp[k1]
    have e2:(c.kind==2)=false:=by simp[k1]
    have e3:(c.kind==3)=false:=by simp[k1]
    have hput:=pf l ⟨ex,up,w,bt,uf,ut⟩ ⟨ex,up,w,bt,uf,c.value⟩ 5 (.lit (.int .i64 c.value)) hx (by decide) rfl;obtain⟨h2,hh2⟩:∃h2,h2=h.put (slB v) (.cells ((l.set k ⟨ex,up,w,bt,uf,c.value⟩).flatMap YV) 136):=⟨_,rfl⟩;obtain⟨n2,k2,W2⟩:=one1 h2 _ hh2;have P2:=(k2 _ (Ne.symm hq0)).trans PH;have Z2:=(k2 _ (Ne.symm hq2)).trans ZH;have LP2:=xI P2;have lZ2:=jR Z2;simp only[Jy,qT,put,YU,xS,xK,qA,jB,jD,jE,jF,reduceCtorEq,jG,-put,hn,g2,g3,g4,LPH,LCH,t1,t2,t3,ho,hltI,hkn,e1,e2,e3,hat',hput,<-hh2,LP2,Z2,lZ2,o2,o3];exact finO h2 ⟨ex,up,w,bt,uf,c.value⟩ _ ⟨okx.1,okx.2.1,okx.2.2.1,hc.hv⟩ n2 k2 W2 (by simp[KA,k1])
 ·refine⟨vo,P0,rfl,rfl,.inl rfl,by rw[List.replicate_zero,kH];exact mp.o,mp.p,hbl,hm.ao,EP.2 _ hp0,⟨by have:=EP.1;omega,fun b hb=>EP.2 b (by omega)⟩,jM _,hm.o.apart (by omega),hm.o.apart (by omega),hm.o.apart (by omega),?_⟩;simp only[jN,jB,jE,jF]
theorem j4L(c:Yn)(hm:JE n0 p0 H m vo vp vb)(hn0:n0<=H.n)(hp0:p0<H.n)(hz:Ca m)(hc:BZ F H c va vw)(hmay:xV m c=0):
 vR 60 [vS m vo vp vb,Eh c va vw] H fun r h'=>zM n0 H h'/\h'.at p0=H.at p0/\∃ro rp rb,r=vS (kI m c) ro rp rb/\JE n0 p0 h' (kI m c) ro rp rb:=by
 by_cases k5:c.kind=5
 ·exact j2e c hm hn0 hp0 hz hc k5
 by_cases k6:c.kind=6
 ·exact j2f c hm hn0 hp0 hz hc k6
 by_cases k7:c.kind=7
 ·exact j2g c hm hn0 hp0 hz hc k7
 unfold xV at hmay
 by_cases ki:Xx c.kind
 ·rw[if_pos ki]at hmay;by_cases ho:c.osd<0\/8<=c.osd
  ·rw[if_pos ho]at hmay;cases hmay
  ·exact j2h (k:=c.osd.toNat) c hm hn0 hp0 hz hc ki (by omega) (by omega)
 ·rw[if_neg ki,if_neg k5,if_neg k6,if_neg k7]at hmay;cases hmay
theorem Uv:∀(a b:List Yn) (m:zU),Jh m (a++b)=if(Jh m a).2=0 then Jh (Jh m a).1 b else Jh m a
 |[],b,m=>by simp[Jh]
 |c::r,b,m=>by
  have e1:∀l,Jh m (c::l)=if xV m c=0 then Jh (kI m c) l else(Gb,xV m c):=fun l=>rfl
  rw[Ro,e1,e1];by_cases h:xV m c=0
  ·rw[if_pos h,if_pos h];exact Uv r b (kI m c)
  ·rw[if_neg h,if_neg h,if_neg h]
variable{l:List Yn}
theorem Dx{n:zU}(hc:l[i]? =some c)(h:Jh m (l.take i)=(n,0)):Jh m (l.take (i+1))=if xV n c=0 then(kI n c,0)else(Gb,xV n c):=by rw[qV,hc,Uv,h];rw[if_pos rfl];rfl
theorem Iu{n:zU}(hc:l[i]? =some c)(h:Jh m (l.take i)=(n,0))(he:xV n c≠0):Jh m l=(Gb,xV n c):=by
 conv=>lhs;rw[<-yE (i+1) l]
 rw[Uv,Dx hc h,if_neg he,if_neg he]
theorem Ck:∀{l:List Yn} {m:zU},(Jh m l).2=0->(Jh m l).1.epoch=m.epoch
 |[],m,_=>rfl
 |c::r,m,h=>by
  unfold Jh at h ⊢;by_cases hm:xV m c=0
  ·rw[if_pos hm]at h ⊢;exact(Ck h).trans (Lt m c)
  ·rw[if_neg hm]at h;exact absurd h hm
theorem JE.putp(hm:JE n0 p0 h m vo vp vb):JE n0 p0 (h.put p0 x) m vo vp vb:=
 ⟨hm.o.put_ap hm.ao,hm.p.put_ap hm.ap,hm.b.lift fun b hb _=>⟨zE _ (Ne.symm hb.2.2.2),hb⟩,hm.ao,hm.ap⟩
theorem JE.putLt(hm:JE n0 p0 h m vo vp vb)(hp:p<n0):JE n0 p0 (h.put p x) m vo vp vb:=
 ⟨hm.o.put_ap (hm.o.apartLt hp),hm.p.put_ap (hm.p.apartLt hp),hm.b.lift fun b hb _=>⟨zE _ (by omega),hb⟩,hm.ao,hm.ap⟩
theorem QI:vG F h Gb (.lit (.slice none 0 0)) (.lit (.slice none 0 0)) (.lit (.slice none 0 0)):=⟨.nil,.nil,.nil⟩
theorem j0O{vc:AV}(x:Xt)(hm:vG F H m vo vp vb)(hok:Ds m)(hb:m.buckets.length<=1000000000)(he:Zq m.epoch)(hcs:zJ pJ F H vc x.changes)(sc:Sm 88 x.changes)(hsz:∀c∈x.changes,Sm 8 c.bucket.items/\Sm 8 c.bucket.weights)
 (hst:∀i n,i<=x.changes.length->Jh m (x.changes.take i)=(n,0)->Ca n):
 vR 37 [vS m vo vp vb,Sz x vc] H fun r h'=>zM H.n H h'/\∃ro rp rb,r= .tup [vS (vU m x).1 ro rp rb,.lit (.int .i64 (vU m x).2)]/\vG (fun k=>H.n<=k) h' (vU m x).1 ro rp rb:=by
 refine zW Tryz.func37 rfl rfl ?_
 have o1:=hm.o.one
 have o2:=hm.p.one
 have o3:=hm.b.one
 have c1:=hcs.one
 have c2:=hcs.isSl
 have c3:=hcs.lenD
 obtain⟨hp,hhp,EP,P0,C0,Z0,nP⟩:=JA (H:=H) (mC m vo vp vb) (.cells [.lit (.int .i64 x.epoch),vc] 116) mz
 unfold mC at P0 hhp
 unfold mz at Z0 hhp
 have LP:=xI P0
 have LC:=xI C0
 have lC:=jR C0
 have lZ:=jR Z0
 unfold Zq at he
 by_cases hM:m.epoch=9223372036854775807
 ·have hMe:(m.epoch==9223372036854775807)=true:=by simp[hM]
  have hA:vU m x=(Gb,126):=by unfold vU;rw[if_pos (.inl hM)]
  simp only[jN,jB,jC,jE,jF,reduceCtorEq,jG,Tryz.ntmps37,vS,Sz,o1,o2,o3,c1,<-hhp,LP,Z0,lZ,hMe];rw[hA];exact⟨EP.put _ (by omega),_,_,_,rfl,QI⟩
 have hMe:(m.epoch==9223372036854775807)=false:=by simp[hM]
 have hws:IntKind.i64.wrap (m.epoch+1)=m.epoch+1:=vW (by omega) (by omega)
 by_cases hE:x.epoch=m.epoch+1
 ·have hEe:(x.epoch !=m.epoch+1)=false:=by simp[hE]
  simp only[jN,jB,jC,jE,jF,reduceCtorEq,jG,Tryz.ntmps37,vS,Sz,o1,o2,o3,c1,<-hhp,LP,LC,hMe,hws,hEe];refine(dQ (hm.ext EP (jM _)) hok hb).mono ?_;rintro _ h3 ⟨e3,ro,rp,rb,rfl,hown⟩;have C3:=(e3.2 _ lC).trans C0;have l3:=e3.1;obtain⟨h4,hh4,e4,W4⟩:=xX h3 (.cells [.lit (.int .i64 m.epoch),ro,rp,rb,.lit (.int .i64 m.leaf)] 66);have n4:h4.n=h3.n+1:=by rw[hh4,zF]
  have hw3:=hown 0 (by omega);have w1:=(hw3.at (F:=fun _=>True) (fun _ _=>trivial)).o.one;have w2:=(hw3.at (F:=fun _=>True) (fun _ _=>trivial)).p.one;have w3:=(hw3.at (F:=fun _=>True) (fun _ _=>trivial)).b.one;have C4:=(e4.2 _ (jR C3)).trans C3;have LC4:=xI C4;have own4:=(hw3.lt (p1:=h3.n) (jM _)).ext e4 (jM _);simp only[jN,jB,jE,jF,jG,vS,w1,w2,w3,<-hh4,LC4,c2,c3];clear hh4;obtain⟨q,hq⟩:∃q,q=h3.n:=⟨_,rfl⟩;obtain⟨N,hN⟩:∃N,N=x.changes.length:=⟨_,rfl⟩;rw[<-hq]at W4 own4 n4;rw[<-hq,<-hN];rw[<-hN]at c3;have E4:zM hp.n hp h4:=e3.trans (e4.mono l3);refine kO N (fun i t h=>∃n v1 v2 v3,Jh m (x.changes.take i)=(n,0)/\h.at q=some (.cells [.lit (.int .i64 n.epoch),v1,v2,v3,.lit (.int .i64 n.leaf)] 66)/\JE hp.n q h n v1 v2 v3/\zM hp.n hp h/\h4.n<=h.n/\t.n=47/\t.get 2= .ptr H.n 0/\t.get 3= .ptr (H.n+1) 0/\t.get 4= .ptr (H.n+2) 0/\t.get 6= .ptr q 0/\t.get 25=vc/\t.get 26= .lit (.int .i64 N)/\t.get 27= .lit (.int .i64 i)) ?_ ?_ _ _ ?_
  ·rintro i t h hlt hc ⟨n,v1,v2,v3,hap,WQ,own,he',lh4,ga⟩ ih;obtain⟨c,hx⟩:∃c,x.changes[i]? =some c:=⟨_,jO (by omega)⟩;have hzn:=hst i n (by omega) hap;have EH:zM H.n H h:=EP.trans (he'.mono (by omega));obtain⟨cc,hc1,hld,hld0⟩:=hcs.atE (T:=zH Tryz.prog kR) EH j3c hx;obtain⟨va,vw,rfl,ha,hw,⟨i1,i2,i3⟩,i4,i5⟩:=pK.1 hc1;have a1:=ha.one;have b1:=hw.one;obtain⟨la,lw⟩:=hsz c (zR hx);have hwi:=xG (n:=N) hlt (by have:=sc;unfold Sm at this;omega);obtain⟨hA,hhA,eA,XA⟩:=xX h (cC c va vw);have nA:hA.n=h.n+1:=by rw[hhA,zF]
   unfold cC at XA hhA;have LXA:=xI XA;have QA:=(eA.2 _ (jR WQ)).trans WQ;have LQA:=xI QA;have EA:=EH.step eA;have ownA:=own.ext eA (jM _);have m1:=ownA.at (F:=fun _=>True) (fun _ _=>trivial);have haA:=(ha.ext EA (jM _)).lift (G:=fun _=>True) fun _ _ _=>⟨rfl,trivial⟩;have hwA:=(hw.ext EA (jM _)).lift (G:=fun _=>True) fun _ _ _=>⟨rfl,trivial⟩;have f1:hp.n<=h.n:=he'.1;simp only[jN,jB,jE,jF,reduceCtorEq,jG,c2,c3,ga,hlt,hc,hld0,a1,b1,<-hhA,LXA,LQA];refine(j5D c m1 hzn.so (UO (KO _) hzn.sp) hzn.sb hzn.bk haA hwA la lw i5).mono ?_;rintro _ h5 ⟨e5,rfl⟩;have f5:=e5.1;by_cases hmay:xV n c=0
   ·have hmn:(xV n c !=0)=false:=by simp[hmay]
    have X5:=(e5.2 _ (jR XA)).trans XA;have Q5:=(e5.2 _ (jR QA)).trans QA;have LX5:=xI X5;have LQ5:=xI Q5;have lQ5:=jR Q5;have own5:=ownA.ext e5 (jM _);simp only[jN,jB,jE,jF,reduceCtorEq,jG,ga,hmn,LX5,LQ5];refine(j4L (F:=fun _=>True) c own5 (by omega) (by omega) hzn ⟨haA.ext e5 (jM _),hwA.ext e5 (jM _),la,lw,i5,i4,i3⟩ hmay).mono ?_;rintro _ h6 ⟨e6,k6,r1,r2,r3,rfl,own6⟩;have Q6:=k6.trans Q5;have lQ6:=jR Q6;have m6:=own6.at (F:=fun _=>True) (fun _ _=>trivial);have z1:=m6.o.one;have z2:=m6.p.one;have z3:=m6.b.one;simp only[jN,jB,jF,jG,vS,ga,Q6,z1,z2,z3,hwi];refine ih _ _ ⟨kI n c,r1,r2,r3,by rw[Dx hx hap,if_pos hmay],qJ _ lQ6,own6.putp,?_,by rw[kZ];omega,?_⟩
    ·exact((he'.trans (eA.mono f1)).trans (e5.mono (by omega))).trans e6 |>.put _ (by omega)
    ·simp only[jN,jE,jF,ga]
   ·have hmn:(xV n c !=0)=true:=by simp[hmay]
    have Z5:=((((he'.trans (eA.mono f1)).trans (e5.mono (by omega)))).2 _ (by omega)).trans Z0;have lZ5:=jR Z5;have hD:vU m x=(Gb,xV n c):=by unfold vU;rw[if_neg (fun hh=>hh.elim hM (fun h=>h hE)),Iu hx hap hmay,if_neg hmay]
    simp only[jN,jB,jE,jF,reduceCtorEq,jG,ga,hmn,Z5,lZ5];rw[hD];exact⟨(EA.step e5).put _ (by omega),_,_,_,rfl,QI⟩
  ·rintro t h hc ⟨n,v1,v2,v3,hap,WQ,own,he',lh4,ga⟩;rw[hN,xC]at hap;have EH:zM H.n H h:=EP.trans (he'.mono (by omega));have ZH:=(he'.2 _ (by omega)).trans Z0;have lZH:=jR ZH;have LQ:=xI WQ;have lQ:=jR WQ;have m1:=own.at (F:=fun _=>True) (fun _ _=>trivial);have y1:=m1.o.one;have y2:=m1.p.one;have y3:=m1.b.one;have hne:¬q=H.n+2:=by omega
   have hep:n.epoch=m.epoch:=by have:=Ck (l:=x.changes) (m:=m) (by rw[hap]);rw[hap]at this;exact this
   have hD:vU m x=({n with epoch:=x.epoch},0):=by unfold vU;rw[if_neg (fun hh=>hh.elim hM (fun h=>h hE)),hap,if_pos rfl]
   rw[hep]at WQ LQ;simp only[jN,jB,jE,jF,reduceCtorEq,jG,ga,hc,WQ,LQ,lQ,ZH,lZH,hws,hne,y1,y2,y3];rw[hD];refine⟨(EH.put _ (by omega)).put _ (by omega),v1,v2,v3,by rw[<-hE],?_⟩;have own7:JE hp.n q ((h.put q (.cells [.lit (.int .i64 (m.epoch+1)),v1,v2,v3,.lit (.int .i64 n.leaf)] 66)).put (H.n+2) (.cells [.lit (.int .i64 (m.epoch+1)),v1,v2,v3,.lit (.int .i64 n.leaf)] 66)) n v1 v2 v3:=own.putp.putLt (by omega);have m7:=own7.at (F:=fun k=>H.n<=k) (fun _ hk=>by omega);exact⟨m7.o,m7.p,m7.b⟩
  ·refine⟨m,ro,rp,rb,rfl,W4,own4,E4,jM _,?_⟩;simp only[jN,jB,jE,jF];rfl
 ·have hEe:(x.epoch !=m.epoch+1)=true:=by simp[hE]
  have hA:vU m x=(Gb,126):=by unfold vU;rw[if_pos (.inr hE)]
  simp only[jN,jB,jC,jE,jF,reduceCtorEq,jG,Tryz.ntmps37,vS,Sz,o1,o2,o3,c1,<-hhp,LP,LC,Z0,lZ,hMe,hws,hEe];rw[hA];exact⟨EP.put _ (by omega),_,_,_,rfl,QI⟩
section
section
variable {P:Program} {T:TT} {t:TM} {h:AH} {o:Oper} {e:TypeId}
theorem WD(hv:t.get i= .lit (.pointer none))(hp:yS P (binOp .eql e (.pointer none) (.pointer none))=some (.ok (.bool true))):XK P T o t h .eql e (.tmp i) (.const (.pointer none))=some (.val (.lit (.bool true)),h):=by unfold XK;rw[kX,hv,GF];simp only[hp,Fa]
theorem Dw(hv:t.get i= .lit (.pointer none))(hp:yS P (binOp .neq e (.pointer none) (.pointer none))=some (.ok (.bool false))):XK P T o t h .neq e (.tmp i) (.const (.pointer none))=some (.val (.lit (.bool false)),h):=by unfold XK;rw[kX,hv,GF];simp only[hp,Fa]
end
structure vM where
 k:Int
 i:Int
 boot:Int
 mons:Int
 tries:Int
def j72(c:vM)(m:zU)(vo vp vb:AV):AB:= .cells [.lit (.int .i64 c.k),.lit (.int .i64 c.i),.lit (.int .i64 c.boot),.lit (.int .i64 c.mons),.lit (.int .i64 c.tries),.lit (.int .i64 m.epoch),vo,vp,vb,.lit (.int .i64 m.leaf),.lit (.int .i64 0),.lit (.pointer none),.lit (.pointer none)] 83
def Cl(q:Nat)(h:AH)(c:vM)(m:zU):Prop:=∃vo vp vb,h.at q=some (j72 c m vo vp vb)/\vG (fun k=>q<k) h m vo vp vb
def Kq(q:Nat)(H h:AH):Prop:=H.n<=h.n/\∀b,b<H.n->b≠q->h.at b=H.at b
theorem Kq.refl(q:Nat)(H:AH):Kq q H H:=⟨jM _,fun _ _ _=>rfl⟩
theorem Kq.ext{H h:AH}(e:zM H.n H h):Kq q H h:=⟨e.1,fun b hb _=>e.2 b hb⟩
theorem Kq.trans{H h h':AH}(a:Kq q H h)(b:Kq q h h'):Kq q H h':=⟨zY a.1 b.1,fun x hx hq=>(b.2 x (zS hx a.1) hq).trans (a.2 x hx hq)⟩
theorem Kq.put{H h:AH}(a:Kq q H h)(x:AB):Kq q H (h.put q x):=⟨by rw[kZ];exact a.1,fun b hb hq=>(zE _ (Ne.symm hq)).trans (a.2 b hb hq)⟩
theorem Kq.sl{α:Type}{R:Zl α}{H h:AH}{xs:List α}(a:Kq q H h)(hs:zJ R F H v xs)(hF:∀b,F b->b≠q):zJ R F h v xs:=hs.lift fun b hb hlt=>⟨a.2 b hlt (hF b hb),hb⟩
theorem Cl.ext{H h:AH}{c:vM}(k:Cl q H c m)(e:zM H.n H h):Cl q h c m:=by obtain⟨vo,vp,vb,h1,h2⟩:=k;exact⟨vo,vp,vb,(e.2 _ (jR h1)).trans h1,h2.ext e (jM _)⟩
theorem Cl.lt{H:AH}{c:vM}(k:Cl q H c m):q<H.n:=by obtain⟨vo,vp,vb,h1,h2⟩:=k;exact jR h1
theorem j5G{H:AH}(c:vM)(hno:c.boot<1\/c.tries<1\/c.mons<1\/5<c.mons):
 vR 4 [.agg [.lit (.int .i64 c.k),.lit (.int .i64 c.i)],.lit (.int .i64 c.boot),.lit (.int .i64 c.mons),.lit (.int .i64 c.tries)] H fun r h'=>zM H.n H h'/\r= .tup [.lit (.pointer none),.lit (.int .i64 22)]:=by
 refine zW Tryz.func4 rfl rfl ?_
 have E0:zM H.n H (H.push (.cells [.lit (.int .i64 c.k),.lit (.int .i64 c.i)] 23)):=(zM.refl _ _).push _ (jM _)
 by_cases h1:c.boot<1
 ·simp only[jN,seval,Tryz.ntmps4,h1];exact E0
 by_cases h2:c.tries<1
 ·simp only[jN,seval,Tryz.ntmps4,h1,h2];exact E0
 by_cases h3:c.mons<1
 ·simp only[jN,seval,Tryz.ntmps4,h1,h2,h3];exact E0
 have h4:5<c.mons:=by omega
 simp only[jN,seval,Tryz.ntmps4,h1,h2,h3,h4]
 exact E0
theorem j3J{H:AH}(c:vM)(h1:¬c.boot<1)(h2:¬c.tries<1)(h3:¬c.mons<1)(h4:¬5<c.mons):
 vR 4 [.agg [.lit (.int .i64 c.k),.lit (.int .i64 c.i)],.lit (.int .i64 c.boot),.lit (.int .i64 c.mons),.lit (.int .i64 c.tries)] H fun r h'=>zM H.n H h'/\∃q,r= .tup [.ptr q 0,.lit (.int .i64 0)]/\H.n<=q/\Cl q h' c Gb:=by
 refine zW Tryz.func4 rfl rfl ?_
 obtain⟨hA,hhA,eA,XA⟩:=xX H (.cells [.lit (.int .i64 c.k),.lit (.int .i64 c.i)] 23)
 have LXA:=xI XA
 have lXA:=jR XA
 simp only[jN,seval,Tryz.ntmps4,h1,h2,h3,h4,<-hhA]
 rw[zL [0,1,2,3,4,5,6,7,8] 1205375957378261718138880 (by kernel_rfl)]
 repeat ((with_reducible refine jX ?_;simp only[vO];try simp only[vP,seval]);simp only[jN,seval,zG,LXA])
 refine(j1L).mono ?_
 rintro _ hB ⟨eB,rfl⟩
 have e2:=eA.trans (eB.mono eA.1)
 unfold vS
 repeat ((with_reducible refine jX ?_;simp only[vO];try simp only[vP,seval]);simp only[jN,seval,zG])
 have XB:=(eB.2 _ lXA).trans XA
 have LXB:=Xy (T:=zH Tryz.prog kR) ((xE (.cells [.lit (.int .i64 c.k),.lit (.int .i64 c.i),.lit (.int .i64 c.boot),.lit (.int .i64 c.mons),.lit (.int .i64 c.tries),.lit (.int .i64 0),.lit (.slice none 0 0),.lit (.slice none 0 0),.lit (.slice none 0 0),.lit (.int .i64 0),.lit (.int .i64 0),.lit (.pointer none),.lit (.pointer none)] 83) (jR XB)).trans XB)
 refine⟨?_,e2.push _ e2.1,hB.n,rfl,e2.1,_,_,_,zI _ _,.nil,.nil,.nil⟩
 simp only[jN,seval,zG,LXB]
end
def XM(l:List Xt):Nat:=(l.map fun x=>x.changes.length).sum
variable{x:Xt}
theorem RT{l:List Xt}(hx:l[i]? =some x):XM (l.take i)+x.changes.length<=XM l:=by
 obtain⟨hi,rfl⟩:=List.getElem?_eq_some_iff.1 hx;unfold XM;conv=>rhs;rw[<-yE i l,qS hi]
 rw[QD,List.sum_append,kY,ZW];omega
theorem QU.sz{k:Nat}(h:QU m k)(hk:k<=1000000000):Ca m:=
 ⟨UO h.no (by decide),zY (qW 32 (Nat.succ_le_succ h.np)) (by omega),zY (qW 64 (Nat.succ_le_succ h.nb)) (by omega),fun b hb=>⟨UO (h.ni b hb).1 (by decide),UO (h.ni b hb).2 (by decide)⟩⟩
theorem QU.ok{k:Nat}(h:QU m k)(hk:k<=1000000000):Ds m:=
 ⟨⟨UO h.no (by decide),fun _ _=>trivial⟩,⟨UO h.np (by omega),fun _ _=>trivial⟩,UO h.nb (by omega),fun b hb=>⟨UO (h.ni b hb).1 (by decide),UO (h.ni b hb).2 (by decide)⟩⟩
theorem QU.leaf(h:QU m k):Zq m.leaf:=by have:=h.good;unfold vX at this;simp only[jW,decide_eq_true_eq]at this;unfold Zq;omega
theorem QU.run{n:zU}{j:Nat}{l:List Yn}(h:QU m k)(hi:∀c∈l,c.bucket.items.length<=1048576)(ha:Jh m (l.take j)=(n,0)):QU n (k+l.length):=by have:=(Eu h (l:=l.take j) (fun c hc=>hi c (ZY hc)) (by rw[ha])).1;rw[ha]at this;exact this.mono (by rw[zV];omega)
theorem pL:Kj.z=2:=rfl
theorem OF{c:List AV}:Kj.is F h c x↔∃vc,c=[.lit (.int .i64 x.epoch),vc]/\zJ pJ F h vc x.changes/\Zq x.epoch:=by
 constructor
 ·rintro⟨_,_,rfl,⟨rfl,h1⟩,h2⟩;obtain⟨vc,rfl,h3⟩:=Xo.1 h2;exact⟨vc,rfl,h3,h1⟩
 ·rintro⟨vc,rfl,h3,h1⟩;exact⟨_,_,rfl,⟨rfl,h1⟩,Xo.2 ⟨vc,rfl,h3⟩⟩
def pI(n0:Nat)(h:AH)(v:AV)(xs:List zU):Prop:=qE j6H (fun k=>n0<=k) n0 h v 66 xs\/∃p c x,n0<=p/\v= .sl p 0 1 (.kn 1)/\xs=[x]/\h.at p=some (.cells c 66)/\j6H.is (fun k=>n0<=k) h c x
variable{xs:List zU}
theorem pI.toSl(ho:pI n0 h v xs):zJ j6H (fun k=>n0<=k) h v xs:=by
 rcases ho with ho|⟨p,c,x,hp,rfl,rfl,hat,hc⟩
 ·exact ho.toSl (fun _ hk=>hk) (fun _ hk=>hk)
 ·exact zJ.ofAt (e:=66) (L:=[c]) (by rw[hat];simp) hp (YP.nil.snoc hc) rfl
theorem pI.ext{m:Nat}(ho:pI n0 h v xs)(he:zM m h h')(hm:h.n<=m):pI n0 h' v xs:=by
 rcases ho with ho|⟨p,c,x,hp,rfl,rfl,hat,hc⟩
 ·exact .inl (ho.ext he hm)
 ·exact .inr ⟨p,c,x,hp,rfl,rfl,(he.2 _ (by have:=jR hat;omega)).trans hat,j6H.lift hc fun b hb hlt=>⟨he.2 _ (by omega),hb⟩⟩
def Ql(m:zU):List Xt->zU
 |[]=>m
 |x::r=>if x.epoch<=m.epoch then Ql m r else if(vU m x).2=0 then Ql (vU m x).1 r else m
def Made(ms:List zU)(l:List Xt):Prop:=ms.length=l.length+1/\∀i x,l[i]? =some x->(vU (ms.getD i Gb) x).2=0/\(vU (ms.getD i Gb) x).1=ms.getD (i+1) Gb
variable{x:Int}
theorem St{L:List Int}(hi:i<L.length):(L.set i x).getD k 0=if k=i then x else L.getD k 0:=by
 rw[jU,List.getElem?_set];by_cases h:i=k
 ·subst h;simp[hi]
 ·rw[if_neg h,if_neg (fun hh=>h hh.symm),jU]
variable{xs:List Int}
theorem Oh(hat:H.at p=some (.cells (iL xs) 3))(hl:xs.length<2^62):
 vR 144 [.sl p 0 xs.length (.un 1)] H fun r h'=>h'.at p=some (.cells (iL xs.reverse) 3)/\h'.n=H.n/\∀b,b≠p->h'.at b=H.at b:=by
 refine zW Tryz.func144 rfl rfl ?_
 obtain⟨n,hn⟩:∃n,n=xs.length:=⟨_,rfl⟩
 rw[<-hn]
 have qs1:isSl (.sl p 0 n (.un 1))=true:=rfl
 have qs2:lenD (.sl p 0 n (.un 1))=n:=rfl
 have qs3:slB (.sl p 0 n (.un 1))=p:=rfl
 have qs4:slO (.sl p 0 n (.un 1))=0:=rfl
 have hw0:IntKind.i64.wrap ((n:Int)-1)=(n:Int)-1-((0:Nat):Int):=(vW (by omega) (by omega)).trans (by omega)
 simp only[jN,jB,jC,jE,jF,Tryz.ntmps144,qs1,qs2,hw0]
 refine ZP (fun(i:Nat) t h=>∃L,h.at p=some (.cells (iL L) 3)/\L.length=n/\(∀k,k<n->L.getD k 0=if k<i\/n<k+i+1 then xs.getD (n-1-k) 0 else xs.getD k 0)/\h.n=H.n/\(∀b,b≠p->h.at b=H.at b)/\i<=n/\t.n=28/\t.get 0= .sl p 0 n (.un 1)/\t.get 2= .lit (.int .i64 i)/\t.get 3= .lit (.int .i64 ((n:Int)-1-(i:Int)))) (fun i=>n-i) ?_ 0 _ _ ?_
 ·rintro i t h ⟨L,W1,hL,hk,hhn,hkp,hin,hn,g0,g2,g3⟩ ih;by_cases hlt:(i:Int)<(n:Int)-1-(i:Int)
  ·obtain⟨j,hj⟩:∃j:Nat,(n:Int)-1-(i:Int)=(j:Int):=⟨n-1-i,by omega⟩;have hij:i<j:=by omega
   have hjn:j<n:=by omega
   have hin':i<n:=by omega
   have hji:n=i+j+1:=by omega
   have hlt2:((i:Int)<(j:Int))=True:=by simp only[eq_iff_iff,iff_true];omega
   rw[hj]at g3;have hws:IntKind.i64.wrap ((i:Int)+1)=((i+1:Nat):Int):=xG hin' (by omega);have hwj:IntKind.i64.wrap ((j:Int)-1)=(n:Int)-1-((i+1:Nat):Int):=(vW (by omega) (by omega)).trans (by omega);have lp:=jR W1;have LW:=xI W1;have hLj:=Lg (T:=zH Tryz.prog kR) (e:=3) (by kernel_rfl) (by kernel_rfl) (xs:=L) (i:=j) (by omega);have hLi:=Lg (T:=zH Tryz.prog kR) (e:=3) (by kernel_rfl) (by kernel_rfl) (xs:=L) (i:=i) (by omega);have hp1:=DQ (xs:=L) (i:=i) (x:=L.getD j 0) (by omega);have hp2:=DQ (xs:=L.set i (L.getD j 0)) (i:=j) (x:=L.getD i 0) (by rw[yI];omega);simp only[Jy,qT,jB,jE,jF,reduceCtorEq,hn,g2,g3,hlt2];rw[zL [0,1,2,3,4,5,6,7,8,9,10,11,12,13,14,15] 57894719459764238329548227498075550650561006036747800846190911987956708278272 (by kernel_rfl)];repeat (first|((with_reducible refine jX ?_;simp only[vO];try simp only[vP,jB,jD,jH,jI]);simp only[Jy,jB,jE,jF,reduceCtorEq,zG,hn,g0,g2,g3,qs1,qs2,qs3,qs4,hin',hjn,LW,hLj,hLi,W1,lp,hp1,hp2,hws,hwj])|simp only[Jy,qT,put,YU,Qc,xS,xK,qA,jB,jC,jD,jE,jF,reduceCtorEq,jG,jJ,jK,jL,zG,-put,-YU,hn,g0,g2,g3,qs1,qs2,qs3,qs4,hin',hjn,LW,hLj,hLi,W1,lp,hp1,hp2,hws,hwj])
   refine ih (i+1) _ _ ⟨(L.set i (L.getD j 0)).set j (L.getD i 0),qJ _ (by rw[kZ];exact lp),by simp[hL],fun k hkn=> ?_,by rw[kZ,kZ];exact hhn,fun b hb=>by rw[zE _ (Ne.symm hb),zE _ (Ne.symm hb)];exact hkp b hb,by omega,?_⟩ (by omega)
   ·rw[St (by rw[yI];omega),St (by omega)];have q1:=hk i hin';have q2:=hk j hjn;have q3:=hk k hkn;rw[if_neg (by omega)]at q1 q2;by_cases c1:k=j
    ·subst c1;rw[if_pos rfl,if_pos (by omega),q1];congr 1;omega
    ·rw[if_neg c1];by_cases c2:k=i
     ·subst c2;rw[if_pos rfl,if_pos (by omega),q2];congr 1;omega
     ·rw[if_neg c2,q3];by_cases c3:k<i\/n<k+i+1
      ·rw[if_pos c3,if_pos (by omega)]
      ·rw[if_neg c3,if_neg (by omega)]
   ·simp only[jN,jE,jF,reduceCtorEq,hn,g0]
  ·have hlt2:((i:Int)<(n:Int)-1-(i:Int))=False:=by simp only[eq_iff_iff,iff_false];exact hlt
   simp only[jN,jB,jE,jF,reduceCtorEq,hn,g2,g3,hlt2];refine⟨Or.inl trivial,?_,hhn,hkp⟩;rw[W1];congr 3;refine List.ext_getElem (by rw[Kl];omega) fun k h1 h2=> ?_;have q:=hk k (by omega);rw[List.getElem_reverse];rw[jU,jO h1]at q;simp only[Jn]at q;rw[q];have hx:xs.getD (n-1-k) 0=xs[xs.length-1-k]'(by omega):=by rw[show n-1-k=xs.length-1-k by omega,jU,jO (by omega)];rfl
   split
   ·exact hx
   ·rw[<-hx];congr 1;omega
 ·refine⟨xs,hat,hn.symm,fun k hk=> ?_,rfl,fun _ _=>rfl,vT _,?_⟩
  ·rw[if_neg (by omega)]
  ·simp only[jN,jB,jE,jF,reduceCtorEq];(repeat' apply And.intro)<;>first|rfl|trivial
variable{c:Cap}{Q:AV->AH->Prop}
theorem j5h(hat:H.at p=some (.cells (iL xs) 3))(hne:xs≠[])(hl:xs.length<=4611686018427387903)(hq:Q (.tup []) (H.put p (.cells (iL (VC xs)) 3))):
 vR 143 [.sl p 0 xs.length c] H Q:=by
 refine ZF Tryz.func143 rfl (g:=Ml) rfl ?_ hq
 have h0:Nat.beq xs.length 0=false:=by
  cases xs with
  |nil=>exact absurd rfl hne
  |cons=>rfl
 have hi:AU (iL xs)=some xs:=EU xs
 unfold Ml
 simp only[h0,cond_false,hat,hi]
 have h1:Nat.beq xs.length xs.length=true:=by simp
 have h2:Nat.ble xs.length 4611686018427387903=true:=yF hl
 rw[h1,h2]
 rfl
theorem bT(hq:Q (.tup []) H):vR 143 [.lit (.slice none 0 0)] H Q:=
 ZF Tryz.func143 rfl (g:=Ml) rfl rfl hq
theorem TO(hq:Q (.tup []) H):vR 143 [.sl p 0 0 c] H Q:=
 ZF Tryz.func143 rfl (g:=Ml) rfl rfl hq
theorem iE(hat:H.at p=some (.cells (iL xs) 3))(hne:xs≠[])(hl:xs.length<=4611686018427387903)(hq:Q (.sl p 0 (OW xs).length c) (H.put p (.cells (iL (EG xs)) 3))):
 vR 145 [.sl p 0 xs.length c] H Q:=by
 refine ZF Tryz.func145 rfl (g:=YJ) rfl ?_ hq
 have h0:Nat.beq xs.length 0=false:=by
  cases xs with
  |nil=>exact absurd rfl hne
  |cons=>rfl
 have hi:AU (iL xs)=some xs:=EU xs
 unfold YJ
 simp only[h0,cond_false,hat,hi]
 have h1:Nat.beq xs.length xs.length=true:=by simp
 have h2:Nat.ble xs.length 4611686018427387903=true:=yF hl
 rw[h1,h2]
 rfl
theorem MT(hq:Q (.lit (.slice none 0 0)) H):vR 145 [.lit (.slice none 0 0)] H Q:=
 ZF Tryz.func145 rfl (g:=YJ) rfl rfl hq
theorem IF(hq:Q (.sl p 0 0 c) H):vR 145 [.sl p 0 0 c] H Q:=
 ZF Tryz.func145 rfl (g:=YJ) rfl rfl hq
theorem sL(hne:∀i,i+1<xs.length->¬xs.getD (i+1) 0=xs.getD i 0):OW xs=xs/\EG xs=xs:=by
 have h1:OW xs=xs:=by
  refine Lib.compact_all xs fun j hj=> ?_;unfold Lib.keeps;rw[decide_eq_true_eq];cases j with
  |zero=>exact .inl rfl
  |succ i=>
   refine .inr fun hh=>hne i hj ?_;have e1:xs.toArray[i+1]! =xs.getD (i+1) 0:=by simp[jU,List.getElem!_eq_getElem?_getD]
   have e2:xs.toArray[i+1-1]! =xs.getD i 0:=by simp[jU,List.getElem!_eq_getElem?_getD]
   rw[e1,e2]at hh;exact hh
 exact⟨h1,by unfold EG;rw[h1,Ju];simp⟩
theorem Tx:vR 144 [.lit (.slice none 0 0)] H fun r h'=>h'=H:=by
 refine zW Tryz.func144 rfl rfl ?_;have c1:((0:Int)< -1)=False:=by decide
 have w2:IntKind.i64.wrap (((0:Nat):Int)-1)= -1:=by decide
 have q1:isSl (.lit (.slice none 0 0))=true:=rfl;have q2:lenD (.lit (.slice none 0 0))=0:=rfl;simp only[jN,jB,jC,jE,jF,Tryz.ntmps144,q1,q2,w2];refine ZP (fun(i:Nat) t h=>h=H/\t.n=28/\t.get 0= .lit (.slice none 0 0)/\t.get 2= .lit (.int .i64 0)/\t.get 3= .lit (.int .i64 (-1))) (fun i=>0) ?_ 0 _ _ ?_
 ·rintro i t h ⟨rfl,ga⟩ ih;simp only[jN,jB,jE,jF,reduceCtorEq,ga,c1];exact Or.inl trivial
 ·refine⟨rfl,?_⟩;simp only[jN,jB,jE,jF,reduceCtorEq]
def VW(m:zU):Nat->List Int
 |0=>[]
 |i+1=>if(Ye m (m.buckets.getD i Kk).id).isSome then VW m i else VW m i++[(m.buckets.getD i Kk).id]
theorem Fe(m:zU):∀i,(VW m i).length<=i
 |0=>jM 0
 |i+1=>by
  have:=Fe m i;unfold VW;split
  ·omega
  ·simp;omega
def Qq(m:zU):List Int:=(VC (VW m m.buckets.length)).reverse
theorem wY(hm:vG F H m vo vp vb)(hok:OC m)(hdis:∀i,i+1<(Qq m).length->¬(Qq m).getD (i+1) 0=(Qq m).getD i 0):
 vR 132 [vS m vo vp vb] H fun v h'=>zM H.n H h'/\zJ qB (fun b=>H.n<=b) h' v (Qq m):=by
 refine zW Tryz.func132 rfl rfl ?_
 obtain⟨hl,hbs,hit⟩:=hok
 have hl0:=hl
 unfold Sm at hl
 have s1:=hm.b.isSl
 have s2:=hm.b.lenD
 have o1:=hm.o.one
 have o2:=hm.p.one
 have o3:=hm.b.one
 have EP:∀x,zM H.n H (H.push x):=fun x=>(zM.refl _ _).push _ (jM _)
 simp only[jN,jB,jC,jE,jF,Tryz.ntmps132,vS,s1,s2,o1,o2,o3]
 obtain⟨h1,hh1⟩:∃h1,h1=H.push (.cells [.lit (.int .i64 m.epoch),vo,vp,vb,.lit (.int .i64 m.leaf)] 66):=⟨_,rfl⟩
 have E0:zM H.n H h1:=hh1▸EP _
 have A0:=QJ hh1
 have n1:h1.n=H.n+1:=by rw[hh1,zF]
 rw[<-hh1]
 clear hh1
 refine kO m.buckets.length (fun i t h=>∃o,qE qB (fun _=>False) h1.n h o 3 (VW m i)/\zM h1.n h1 h/\t.n=36/\t.get 1= .ptr H.n 0/\t.get 3=o/\t.get 9=vb/\t.get 10= .lit (.int .i64 m.buckets.length)/\t.get 11= .lit (.int .i64 i)) ?_ ?_ _ _ ?_
 ·rintro i t h hlt hc ⟨o,ho,he,ga⟩ ih;obtain⟨x,hx⟩:∃x,m.buckets[i]? =some x:=⟨_,jO hlt⟩;have E1:zM H.n H h:=E0.trans (he.mono (by omega));obtain⟨c,hc1,hld,hld0⟩:=hm.b.atE (T:=zH Tryz.prog kR) E1 Qa hx;obtain⟨va,vw,rfl,ha,hw,i1,i2⟩:=Jx.1 hc1;have a1:=ha.one;have w1:=hw.one;have hws:=xG hlt (by omega);have A1:=(he.2 _ (by omega)).trans A0;have l1:H.n<h.n:=jR A1;have hstep:VW m (i+1)=if(Ye m x.id).isSome then VW m i else VW m i++[x.id]:=by rw[VW,Vl hx]
  obtain⟨hA,hhA⟩:∃hA,hA=h.push (.cells [.lit (.int .i64 x.id),.lit (.int .i64 x.kind),va,vw] 122):=⟨_,rfl⟩;have EA:=ZS hhA;have PA:hA.at h.n=some (.cells [.lit (.int .i64 x.id),.lit (.int .i64 x.kind),va,vw] 122):=hhA▸zI h _;have AA:=(EA.2 _ l1).trans A1;have LAA:=xI AA;have lA:=jR AA;have LPA:=xI PA;have lPA:=jR PA;have EHA:=E1.step EA;simp only[jN,jB,jE,jF,reduceCtorEq,jG,s1,s2,ga,hlt,hc,hld0,a1,w1,<-hhA,LPA,LAA];refine(wN x.id (hm.ext EHA (jM _)) hl0 hbs).mono ?_;rintro _ h2 ⟨e2,v1,v2,rfl,b1,b2⟩;have o4:=b1.one;have o5:=b2.one;have E2:=EHA.step e2;have P2:=(e2.2 _ lPA).trans PA;have l2:=jR P2;simp only[jN,jB,jE,jF,jG,ga,Xq,o4,o5];obtain⟨h3,hh3⟩:∃h3,h3=h2.push (.cells [.lit (.int .i64 (Yf m x.id).id),.lit (.int .i64 (Yf m x.id).kind),v1,v2] 122):=⟨_,rfl⟩;have e3:=ZS hh3;have P3:=(e3.2 _ l2).trans P2;have l3:=jR P3;have LP3:=xI P3;have he3:zM h1.n h1 h3:=((he.step EA).step e2).step e3;have ho3:=((ho.ext EA (jM _)).ext e2 (jM _)).ext e3 (jM _);rw[<-hh3];clear hh3;cases hp:(Ye m x.id).isSome with
  |true=>
   rw[hp,if_pos rfl]at hstep;simp only[jN,reduceCtorEq,hws];refine ih _ _ ⟨o,by rw[hstep];exact ho3,he3,?_⟩;simp only[jN,jE,jF,ga]
  |false=>
   rw[hp,if_neg (by decide)]at hstep;simp only[jN,jE,jF,reduceCtorEq,jG,ga,LP3];obtain⟨h6,hh6⟩:∃h6,h6=h3.push (.cells [.lit (.int .i64 x.id)] 3):=⟨_,rfl⟩;have e6:=ZS hh6;have A6:h6.at h3.n=some (.cells [.lit (.int .i64 x.id)] 3):=hh6▸zI h3 _;have n6:=jR A6;rw[<-hh6];have q1:=Fe m i;refine qM ((ho3.ext e6 (jM _)).snoc (by kernel_rfl) (by kernel_rfl) (by kernel_rfl) (zv:= .lit (.int .i64 0)) (by kernel_rfl) (by':=8) (by kernel_rfl) rfl (by decide) (by decide) A6 (y:=x.id) ⟨rfl,i1⟩ (by omega) (by omega) (by omega)) ?_;rintro s' h7 ⟨o7,e7,k7⟩;simp only[jN,jB,jE,jF,ga,hws];refine ih _ _ ⟨s',by rw[hstep];exact o7,(he3.step e6).trans e7,?_⟩;simp only[jN,jE,jF,ga]
 ·rintro t h hc ⟨o,ho,he,ga⟩;have E1:zM H.n H h:=E0.trans (he.mono (by omega));have q1:=Fe m m.buckets.length;obtain⟨xs,hxs⟩:∃xs,xs=VW m m.buckets.length:=⟨_,rfl⟩;rw[<-hxs]at ho q1;have hcr:Qq m=(VC xs).reverse:=by unfold Qq;rw[hxs]
  have hsl:(VC xs).length=xs.length:=by unfold VC;simp
  by_cases hne:xs=[]
  ·subst hne;have hcr0:Qq m=[]:=by rw[hcr];unfold VC;simp
   obtain⟨L,h1',h2'⟩:=ho;have hL:L=[]:=zO h2'.1;subst hL;rcases h1'.2 with⟨rfl,_⟩|⟨p,rfl,hp,hat⟩
   ·simp only[jN,jB,jE,jF,reduceCtorEq,s1,s2,ga,hc];refine bT ?_;simp only[jN,jB,jF,ga];refine Tx.mono ?_;rintro _ h3 rfl;simp only[jN,jB,jF,ga];refine MT ?_;simp only[jN,jE,reduceCtorEq,ga];rw[hcr0];exact⟨E1,zJ.nil⟩
   ·have hat:h.at p=some (.cells (iL []) 3):=hat;simp only[jN,jB,jE,jF,reduceCtorEq,s1,s2,ga,hc];refine TO ?_;simp only[jN,jB,jF,ga];refine(Oh hat (by decide)).mono ?_;rintro _ h3 ⟨hat3,hn3,hk3⟩;have E3:zM H.n H h3:=⟨by rw[hn3];exact E1.1,fun b hb=>(hk3 b (by omega)).trans (E1.2 b hb)⟩;have ho3:qE qB (fun _=>False) H.n h3 (.sl p 0 ([]:List Int).length (.un 1)) 3 []:=qE.ofInts (by omega) hat3 (fun y hy=>by cases hy);have hv3:zJ qB (fun b=>H.n<=b) h3 (.sl p 0 0 (.un 1)) []:=ho3.toSl (fun _ hf=>hf.elim) (fun b hb=>hb);simp only[jN,jB,jF,ga];refine IF ?_;simp only[jN,jE,reduceCtorEq,ga];rw[hcr0];exact⟨E3,hv3⟩
  ·obtain⟨p,rfl,hp,hat,hI⟩:=ho.ints hne;simp only[jN,jB,jE,jF,reduceCtorEq,s1,s2,ga,hc];refine j5h hat hne (by omega) ?_;obtain⟨h2,hh2⟩:∃h2,h2=h.put p (.cells (iL (VC xs)) 3):=⟨_,rfl⟩;have hat2:h2.at p=some (.cells (iL (VC xs)) 3):=hh2▸qJ _ (jR hat);have E2:zM H.n H h2:=hh2▸E1.put _ (by omega);rw[<-hh2];clear hh2;simp only[jN,jB,jF,ga];have hrv:=Oh hat2 (by omega);rw[hsl]at hrv;refine hrv.mono ?_;rintro _ h3 ⟨hat3,hn3,hk3⟩;have E3:zM H.n H h3:=⟨by rw[hn3];exact E2.1,fun b hb=>(hk3 b (by omega)).trans (E2.2 b hb)⟩;have hlr:(VC xs).reverse.length=xs.length:=by simp[hsl]
   have hI2:∀y∈(VC xs).reverse,Zq y:=fun y hy=>hI y (by rw[List.mem_reverse]at hy;unfold VC at hy;exact(List.mergeSort_perm _ _).mem_iff.1 hy);have ho3:qE qB (fun _=>False) H.n h3 (.sl p 0 (VC xs).reverse.length (.un 1)) 3 (VC xs).reverse:=qE.ofInts (by omega) hat3 hI2;have hv3:zJ qB (fun b=>H.n<=b) h3 (.sl p 0 xs.length (.un 1)) (Qq m):=by rw[hcr,<-hlr];exact ho3.toSl (fun _ hf=>hf.elim) (fun b hb=>hb)
   simp only[jN,jB,jF,ga];rw[hcr]at hdis;obtain⟨d1,d2⟩:=sL hdis;have hne3:(VC xs).reverse≠[]:=fun hh=>hne (zO (by rw[<-hlr,hh];rfl));rw[<-hlr];refine iE hat3 hne3 (by rw[hlr];omega) ?_;rw[d1,d2];simp only[jN,jE,reduceCtorEq,ga];refine⟨E3.put _ (by omega),?_⟩;have ho4:qE qB (fun _=>False) H.n (h3.put p (.cells (iL (VC xs).reverse) 3)) (.sl p 0 (VC xs).reverse.length (.un 1)) 3 (VC xs).reverse:=qE.ofInts (by omega) (qJ _ (jR hat3)) hI2;rw[hcr];exact ho4.toSl (fun _ hf=>hf.elim) (fun b hb=>hb)
 ·refine⟨_,qE.nil,zM.refl _ _,?_⟩;simp only[jN,jB,jE,jF];(repeat' apply And.intro)<;>first|rfl|trivial
variable{l:List Int}
theorem lG:(ES x l).Perm (x::l):=by unfold ES;have h:=(List.perm_middle (a:=x) (l₁:=l.take (UF x l l.length)) (l₂:=l.drop (UF x l l.length)));rw[yE]at h;exact h
theorem Oc{x:Int}{l:List Int}:∀n,n<=l.length->(∀k,UF x l n<=k->k<n->l.getD k 0<x)/\(0<UF x l n->x<=l.getD (UF x l n-1) 0)
 |0,_=>⟨fun k h1 h2=>by omega,fun h=>by unfold UF at h;omega⟩
 |n+1,hn=>by
  obtain⟨h1,h2⟩:=Oc (x:=x) (l:=l) n (by omega);unfold UF;split
  ·rename_i hq;refine⟨fun k h3 h4=> ?_,h2⟩;by_cases hk:k=n
   ·subst hk;simpa using hq
   ·exact h1 k h3 (by omega)
  ·rename_i hq;refine⟨fun k h3 h4=>by omega,fun _=> ?_⟩;simpa using hq
theorem RX(hs:l.Pairwise (fun a b=>b<a)){j:Nat}(hij:i<j)(hj:j<l.length):l.getD j 0<l.getD i 0:=by rw[jU,jU,jO hj,jO (by omega)];exact List.pairwise_iff_getElem.1 hs i j (by omega) hj hij
theorem iZ(hs:l.Pairwise (fun a b=>b<a))(hx:x ∉ l):(ES x l).Pairwise (fun a b=>b<a):=by
 obtain⟨h1,h2⟩:=Oc (x:=x) (l:=l) l.length (jM _);have hp:=PI x l l.length;unfold ES;rw[ZZ];refine⟨hs.sublist (List.take_sublist _ _),List.pairwise_cons.2 ⟨fun y hy=> ?_,hs.sublist (List.drop_sublist _ _)⟩,fun y hy z hz=> ?_⟩
 ·obtain⟨j,hj,rfl⟩:=List.mem_iff_getElem.1 hy;rw[kT]at hj;have:=h1 (UF x l l.length+j) (by omega) (by omega);rw[jU,jO (by omega)]at this;rw[List.getElem_drop];exact this
 ·obtain⟨j,hj,rfl⟩:=List.mem_iff_getElem.1 hy;rw[zV]at hj;have hjl:j<l.length:=by omega
  have hyx:x<(l.take (UF x l l.length))[j]:=by
   have e:(l.take (UF x l l.length))[j]=l.getD j 0:=by rw[List.getElem_take,jU,jO hjl];rfl
   rw[e];have h3:=h2 (by omega);have h4:l.getD (UF x l l.length-1) 0<=l.getD j 0:=by
    by_cases hh:j=UF x l l.length-1
    ·rw[<-hh];exact Zy _
    ·exact Int.le_of_lt (RX hs (by omega) (by omega))
   have h5:l.getD j 0≠x:=fun hh=>hx (by rw[<-hh,jU,jO hjl];exact List.getElem_mem hjl);omega
  rcases List.mem_cons.1 hz with rfl|hz
  ·exact hyx
  ·obtain⟨k,hk,rfl⟩:=List.mem_iff_getElem.1 hz;rw[kT]at hk;have:=h1 (UF x l l.length+k) (by omega) (by omega);rw[jU,jO (by omega)]at this;rw[List.getElem_drop];exact Int.lt_trans this hyx
variable{id:Int}
theorem Nd:(Ye m id).isSome=Yg m id:=by unfold Ye Yg;apply Bool.eq_iff_iff.2;rw[List.find?_isSome,List.any_eq_true]
theorem NM(hg:vX m=true)(hi:i<m.buckets.length):Ab m i=false:=by unfold vX at hg;simp only[jW]at hg;have:=List.all_eq_true.1 hg.2 i (List.mem_range.2 hi);unfold OM KM at this;simp only[jW]at this;have h:=this.1.1.1.1.1.1;unfold Ab;simpa using h
theorem GW{m:zU}(hg:vX m=true):∀i,i<=m.buckets.length->(kQ m i).Perm (VW m i)/\(kQ m i).Pairwise (fun a b=>b<a)/\∀y∈VW m i,∃c∈m.buckets.take i,c.id=y
 |0,_=>⟨List.Perm.refl _,List.Pairwise.nil,fun y hy=>by cases hy⟩
 |i+1,hi=>by
  obtain⟨h1,h2,h3⟩:=GW hg i (by omega);have hx:m.buckets[i]? =some (m.buckets.getD i Kk):=Ji Kk (by omega);have htk:m.buckets.take (i+1)=m.buckets.take i++[m.buckets.getD i Kk]:=by rw[qV,hx];rfl
  unfold kQ VW;rw[NM hg (by omega),BX,Nd];cases hw:Yg m (m.buckets.getD i Kk).id with
  |true=>
   refine⟨h1,h2,fun y hy=> ?_⟩;obtain⟨c,hc,hcy⟩:=h3 y hy;exact⟨c,by rw[htk];exact List.mem_append.2 (.inl hc),hcy⟩
  |false=>
   have hno:(m.buckets.getD i Kk).id ∉ kQ m i:=fun hmem=>by obtain⟨c,hc,hcy⟩:=h3 _ (h1.mem_iff.1 hmem);have:=NM hg (show i<m.buckets.length by omega);unfold Ab at this;rw[List.any_eq_false]at this;exact this c hc (by simpa using hcy)
   refine⟨?_,iZ h2 hno,fun y hy=> ?_⟩
   ·refine lG.trans ((List.Perm.cons _ h1).trans ?_);exact(List.perm_append_comm (l₁:=[_]) (l₂:=VW m i))
   ·rcases List.mem_append.1 hy with hy|hy
    ·obtain⟨c,hc,hcy⟩:=h3 y hy;exact⟨c,by rw[htk];exact List.mem_append.2 (.inl hc),hcy⟩
    ·exact⟨m.buckets.getD i Kk,by rw[htk];exact List.mem_append.2 (.inr (Ig ..)),(List.mem_singleton.1 hy).symm⟩
theorem Mh(hg:vX m=true):Qq m=Vg m:=by obtain⟨h1,h2,_⟩:=GW hg m.buckets.length (jM _);unfold Qq Vg;refine List.Perm.eq_of_pairwise (le:=fun a b=>b<=a) (fun a b _ _ h3 h4=>Int.le_antisymm h4 h3) ?_ (h2.imp fun h=>Int.le_of_lt h) ((List.reverse_perm _).trans ((List.mergeSort_perm _ _).trans h1.symm));rw[List.pairwise_reverse];unfold VC;have:=List.pairwise_mergeSort (le:=fun x y:Int=>decide (x<=y)) (fun a b c h h'=>by simp at *;omega) (fun a b=>by simp;omega) (VW m m.buckets.length);exact this.imp fun h=>by simpa using h
theorem WP(hg:vX m=true):∀i,i+1<(Qq m).length->¬(Qq m).getD (i+1) 0=(Qq m).getD i 0:=fun i hi=>by obtain⟨_,h2,_⟩:=GW hg m.buckets.length (jM _);rw[Mh hg]at hi ⊢;have:=RX (l:=Vg m) h2 (show i<i+1 by omega) hi;omega
theorem wZ(hm:vG F H m vo vp vb)(hok:OC m)(hg:vX m=true):
 vR 132 [vS m vo vp vb] H fun v h'=>zM H.n H h'/\zJ qB (fun b=>H.n<=b) h' v (Vg m):=by
 rw[<-Mh hg]
 exact wY hm hok (WP hg)
def j1E(m:zU)(vo vp vb:AV)(x:Int)(vs vq:AV):List AV:=[.lit (.int .i64 m.epoch),vo,vp,vb,.lit (.int .i64 m.leaf),.lit (.int .u32 x),vs,vq]
variable{os:List Int}
theorem fK{vs vq:AV}(hm:vG F H m vo vp vb)(hl:Sm 40 m.osds)(hp:H.at p=some (.cells (j1E m vo vp vb x vs vq) 238))(hs:zJ qB G H vs os)(hsl:os.length<=1000):
 vR 155 [.ptr p 0,.lit (.int .i64 k)] H fun r h'=>zM H.n H h'/\r= .lit (.bool (Yw m k x&& !os.contains (k:Int))):=by
 refine zW Tryz.func155 rfl rfl ?_
 unfold Sm at hl
 unfold j1E at hp
 have s1:=hm.o.isSl
 have s2:=hm.o.lenD
 have lp:=jR hp
 have LP:=xI hp
 by_cases hk:k<m.osds.length
 rotate_left
 ·have c1:(m.osds.length:Int)<=(k:Int):=by omega
  simp only[jN,jB,jC,jE,jF,reduceCtorEq,Tryz.ntmps155,LP,s1,s2,c1];refine⟨zM.refl _ _,?_⟩;have:m.osds[k]? =none:=qY (by omega);unfold Yw;rw[if_pos (by omega),vD,this];rfl
 have c1:¬(m.osds.length:Int)<=(k:Int):=by omega
 obtain⟨o,ho⟩:∃o,m.osds[k]? =some o:=⟨_,jO hk⟩
 have hres:Yw m (k:Int) x=Hq o (k:Int) x:=by unfold Yw;rw[if_pos (by omega),vD,ho]
 simp only[jN,jB,jC,jE,jF,reduceCtorEq,Tryz.ntmps155,LP,s1,s2,c1]
 refine(GC (k:Int) hs (by omega)).mono ?_
 rintro _ h1 ⟨rfl,rfl⟩
 cases hco:os.contains (k:Int)with
 |true=>
  simp only[jN,jB,jE,jF,reduceCtorEq];exact zM.refl _ _
 |false=>
 obtain⟨c,hc1,hld,hld0⟩:=hm.o.atE (T:=zH Tryz.prog kR) (zM.refl _ _) Bs ho
 obtain⟨rfl,-⟩:=Qn.1 hc1
 simp only[jN,jB,jE,jF,reduceCtorEq,jG,LP,s1,s2,hk,hld0]
 obtain⟨hA,hhA,EA,PA⟩:=xX h1 (.cells [.lit (.bool o.ex),.lit (.bool o.up),.lit (.int .i64 o.weight),.lit (.int .i64 o.boot),.lit (.int .i64 o.upFrom),.lit (.int .i64 o.upThru)] 136)
 have LA:=xI PA
 have la:=jR PA
 have PC:=(EA.2 _ lp).trans hp
 have LC:=xI PC
 have lc:=jR PC
 rw[<-hhA]
 clear hhA
 rw[zL [0,1,2,3,4,5,6,7,8,9,10,11,13,14,15,16,17,18,22,23,12,19,20,21,24,25,26] 1412006963573700906660700069524118243616869760544256360968249721346466011565351973626593501215177518672908580619239046012223972200766817852166722705780488590525571064120266307589064219363529374100029332153996355833954304 (by kernel_rfl)]
 cases hex:o.ex with
 |false=>
  repeat (first|((with_reducible refine jX ?_;simp only[vO];try simp only[vP,jB,jD,jH,jI]);simp only[jN,jB,jE,jF,reduceCtorEq,zG,LA,hex])|simp only[jN,jB,jC,jD,jE,jF,reduceCtorEq,jG,jJ,jK,jL,zG,LA,la,hex])
  exact⟨EA,by rw[hres];unfold Hq;rw[hex];rfl⟩
 |true=>
 cases hup:o.up with
 |false=>
  repeat (first|((with_reducible refine jX ?_;simp only[vO];try simp only[vP,jB,jD,jH,jI]);simp only[jN,jB,jE,jF,reduceCtorEq,zG,LA,hex,hup])|simp only[jN,jB,jC,jD,jE,jF,reduceCtorEq,jG,jJ,jK,jL,zG,LA,la,hex,hup])
  exact⟨EA,by rw[hres];unfold Hq;rw[hex,hup];rfl⟩
 |true=>
 by_cases hwt:0<o.weight
 ·repeat (first|((with_reducible refine jX ?_;simp only[vO];try simp only[vP,jB,jD,jH,jI]);simp only[jN,jB,jE,jF,reduceCtorEq,zG,LA,LC,hex,hup,hwt])|simp only[jN,jB,jC,jD,jE,jF,reduceCtorEq,jG,jJ,jK,jL,zG,LA,la,LC,lc,hex,hup,hwt])
  refine eJ.mono ?_;rintro _ h2 ⟨q,rfl,e2⟩;have E2:=EA.step e2;have P2:=(e2.2 _ la).trans PA;have L2:=xI P2;have l2:=jR P2;have C2:=(e2.2 _ lc).trans PC;have LC2:=xI C2;have lc2:=jR C2;have h65:¬(65536:Int)=0:=by decide
  repeat (first|((with_reducible refine jX ?_;simp only[vO];try simp only[vP,jB,jD,jH,jI]);simp only[jN,jB,jE,jF,zG,L2,LC2,hex,hup])|simp only[jN,jB,jC,jD,jE,jF,reduceCtorEq,jG,jJ,jK,jL,zG,L2,l2,LC2,lc2,hex,hup,hwt,h65])
  refine dW ?_;repeat (first|((with_reducible refine jX ?_;simp only[vO];try simp only[vP,jB,jD,jH,jI]);simp only[jN,jB,jE,jF,reduceCtorEq,zG,L2,hex,hup,h65])|simp only[jN,jB,jC,jD,jE,jF,reduceCtorEq,jG,jJ,jK,jL,zG,L2,l2,LC2,lc2,hex,hup,hwt,h65])
  refine⟨E2,?_⟩;rw[hres];unfold Hq;rw[hex,hup,decide_eq_true hwt];simp
 ·repeat (first|((with_reducible refine jX ?_;simp only[vO];try simp only[vP,jB,jD,jH,jI]);simp only[jN,jB,jE,jF,reduceCtorEq,zG,LA,hex,hup,hwt])|simp only[jN,jB,jC,jD,jE,jF,reduceCtorEq,jG,jJ,jK,jL,zG,LA,la,hex,hup,hwt])
  exact⟨EA,by rw[hres];unfold Hq;rw[hex,hup,decide_eq_false hwt];rfl⟩
def Di(m:zU)(QI a:Int)(hv:Bool):Bool:= !hv&&decide (0<m.leaf)&&((qN m a).kind==m.leaf)&&(a !=QI)
def BV(m:zU)(QI x r:Int)(ds:List Int):Nat->Int->Int->Bool->Option (Int×Int)
 |0,_,_,_=>none
 |n+1,a,dm,hv=>if 0<=a then some (a,if hv then dm else a)else
  if Di m QI a hv&&ds.contains a then none else
  match JZ (qN m a).items (qN m a).weights x r with
  |none=>none
  |some i=>BV m QI x r ds n ((qN m a).items.getD i 0) (if Di m QI a hv then a else dm) (hv||Di m QI a hv)
def Hs(m:zU)(QI x r:Int)(os ds:List Int):Int×Int×Bool:=match BV m QI x r ds 4 QI 0 false with
 |none=>(0,0,false)
 |some (o,d)=>(o,d,Yw m o x&& !os.contains o)
def j5m(y:Int×Int×Bool):AV:= .tup [.lit (.int .i64 y.1),.lit (.int .i64 y.2.1),.lit (.bool y.2.2)]
theorem j5l{vs vq:AV}{ds:List Int}(QI r:Int)(hm:vG F H m vo vp vb)(hok:OC m)(hlo:Sm 40 m.osds)(hg:vX m=true)
 (hp:H.at p=some (.cells (j1E m vo vp vb x vs vq) 238)) (hs:zJ qB G H vs os) (hq:zJ qB G H vq ds) (hsl:os.length<=1000) (hql:ds.length<=1000) (ha:yY m QI<=3):
 vR 146 [.ptr p 0,.lit (.int .i64 QI),.lit (.int .i64 r)] H fun v h'=>zM H.n H h'/\v=j5m (Hs m QI x r os ds):=by
 refine zW Tryz.func146 rfl rfl ?_
 obtain⟨hl,hbs,hit⟩:=id hok
 have q2:=hq.lenD
 unfold j1E at hp
 have lp:=jR hp
 simp only[jN,jB,jC,jE,jF,Tryz.ntmps146]
 refine ZP (fun(n:Nat) t h=>∃a dm hv,zM H.n H h/\1<=n/\yY m a<(n:Int)/\BV m QI x r ds n a dm hv=BV m QI x r ds 4 QI 0 false/\t.n=88/\t.get 0= .ptr p 0/\t.get 1= .lit (.int .i64 QI)/\t.get 2= .lit (.int .i64 r)/\t.get 9= .lit (.int .i64 a)/\t.get 10= .lit (.int .i64 dm)/\t.get 11= .lit (.bool hv)) (fun n=>n) ?_ 4 _ _ ?_
 ·rintro n t h ⟨a,dm,hv,E1,hn1,hkd,hD,hn,g0,g1,g2,g9,g10,g11⟩ ih;obtain⟨n,rfl⟩:∃n',n=n'+1:=⟨n-1,by omega⟩;rw[BV]at hD;have P1:=(E1.2 _ lp).trans hp;have LP1:=xI P1;have l1:=jR P1;by_cases h0:0<=a
  ·have h0':(a<0)=False:=by simp only[eq_iff_iff,iff_false];omega
   rw[if_pos h0]at hD;obtain⟨k,rfl⟩:∃k:Nat,a=(k:Int):=⟨a.toNat,by omega⟩;have hsE:=hs.ext E1 (jM _);have hmE:=hm.ext E1 (jM _);have hT:Hs m QI x r os ds=((k:Int),(if hv then dm else(k:Int)),Yw m k x&& !os.contains (k:Int)):=by unfold Hs;rw[<-hD]
   cases hv with
   |true=>
    simp only[jN,jB,jE,jF,reduceCtorEq,hn,g0,g9,g10,g11,h0'];refine(fK (k:=k) hmE hlo P1 hsE hsl).mono ?_;rintro _ h2 ⟨e2,rfl⟩;simp only[jN,jE,jF,reduceCtorEq,hn];exact⟨E1.step e2,by rw[hT];rfl⟩
   |false=>
    simp only[jN,jB,jE,jF,reduceCtorEq,hn,g0,g9,g10,g11,h0'];refine(fK (k:=k) hmE hlo P1 hsE hsl).mono ?_;rintro _ h2 ⟨e2,rfl⟩;simp only[jN,jE,jF,reduceCtorEq,hn];exact⟨E1.step e2,by rw[hT];rfl⟩
  ·have h0':(a<0)=True:=by simp only[eq_iff_iff,iff_true];omega
   rw[if_neg h0]at hD;simp only[jN,jB,jE,jF,reduceCtorEq,jG,hn,g0,g9,g10,g11,h0',LP1];refine(Iz a (hm.ext E1 (jM _)) hl hbs).mono ?_;rintro _ h2 ⟨e2,va,vw,rfl,b1,b2⟩;have o4:=b1.one;have o5:=b2.one;have E2:=E1.step e2;simp only[jN,jB,jE,jF,jG,hn,Xq,o4,o5];obtain⟨h3,hh3,e3,B3⟩:=xX h2 (.cells [.lit (.int .i64 (qN m a).id),.lit (.int .i64 (qN m a).kind),va,vw] 122);have LB3:=xI B3;have lb3:=jR B3;rw[<-hh3];clear hh3;have E3:=E2.step e3;have P3:=(E3.2 _ lp).trans hp;have LP3:=xI P3;have l3:=jR P3;have c3:=b1.ext e3 (jM _);have c4:=b2.ext e3 (jM _);refine Bt (fun t h'=>h'=h3/\t.n=88/\t.get 0= .ptr p 0/\t.get 1= .lit (.int .i64 QI)/\t.get 2= .lit (.int .i64 r)/\t.get 9= .lit (.int .i64 a)/\t.get 10= .lit (.int .i64 dm)/\t.get 11= .lit (.bool hv)/\t.get 12= .ptr h2.n 0/\t.get 52= .lit (.bool (Di m QI a hv))) (fun k' K' hk=> ?_) ?_
   ·rw[zL [0,1,2,3,4,5,6,7,8,9,10,11,12,13,14,15,16,17,18,19,20,21,22,23,24] 69617315882342504562567840841288315750640570987166138686464120633385435005909810912804776464491386479444954425742356428750360449267437331138830941716010092468283243943582678247324426174464 (by kernel_rfl)];cases hv with
    |true=>
     repeat (first|((with_reducible refine jX ?_;simp only[vO];try simp only[vP,jB,jD,jH,jI,jF]);simp only[jN,jE,jF,zG,hn,g11])|simp only[jN,jB,jC,jD,jE,jF,reduceCtorEq,jG,jJ,jK,jL,zG,hn,g0,g1,g2,g9,g10,g11,LP3,l3,LB3,lb3])
     refine hk _ _ ⟨rfl,?_⟩;simp only[jN,jE,jF,reduceCtorEq,hn,g0,g1,g2,g9,g10,g11];rfl
    |false=>
     by_cases c1:0<m.leaf
     ·cases c2:((qN m a).kind==m.leaf)with
      |false=>
       repeat (first|((with_reducible refine jX ?_;simp only[vO];try simp only[vP,jB,jD,jH,jI,jF]);simp only[jN,jE,jF,reduceCtorEq,zG,hn,g0,g11,LP3,LB3,c1,c2])|simp only[jN,jB,jC,jD,jE,jF,reduceCtorEq,jG,jJ,jK,jL,zG,hn,g0,g1,g2,g9,g10,g11,LP3,l3,LB3,lb3,c1,c2])
       refine hk _ _ ⟨rfl,?_⟩;simp only[jN,jE,jF,reduceCtorEq,hn,g0,g1,g2,g9,g10,g11];unfold Di;rw[c2,Jl];rfl
      |true=>
       cases c3:(a !=QI)with
       |false=>
        repeat (first|((with_reducible refine jX ?_;simp only[vO];try simp only[vP,jB,jD,jH,jI,jF]);simp only[jN,jE,jF,reduceCtorEq,zG,hn,g0,g1,g9,g11,LP3,LB3,c1,c2,c3])|simp only[jN,jB,jC,jD,jE,jF,reduceCtorEq,jG,jJ,jK,jL,zG,hn,g0,g1,g2,g9,g10,g11,LP3,l3,LB3,lb3,c1,c2,c3])
        refine hk _ _ ⟨rfl,?_⟩;simp only[jN,jE,jF,reduceCtorEq,hn,g0,g1,g2,g9,g10,g11];unfold Di;rw[c3,Jl]
       |true=>
        repeat (first|((with_reducible refine jX ?_;simp only[vO];try simp only[vP,jB,jD,jH,jI,jF]);simp only[jN,jE,jF,reduceCtorEq,zG,hn,g0,g1,g9,g11,LP3,LB3,c1,c2,c3])|simp only[jN,jB,jC,jD,jE,jF,reduceCtorEq,jG,jJ,jK,jL,zG,hn,g0,g1,g2,g9,g10,g11,LP3,l3,LB3,lb3,c1,c2,c3])
        refine hk _ _ ⟨rfl,?_⟩;simp only[jN,jE,jF,reduceCtorEq,hn,g0,g1,g2,g9,g10,g11];unfold Di;rw[c2,c3,decide_eq_true c1];rfl
     ·repeat (first|((with_reducible refine jX ?_;simp only[vO];try simp only[vP,jB,jD,jH,jI,jF]);simp only[jN,jE,jF,reduceCtorEq,zG,hn,g0,g11,LP3,c1])|simp only[jN,jB,jC,jD,jE,jF,reduceCtorEq,jG,jJ,jK,jL,zG,hn,g0,g1,g2,g9,g10,g11,LP3,l3,LB3,lb3,c1])
      refine hk _ _ ⟨rfl,?_⟩;simp only[jN,jE,jF,reduceCtorEq,hn,g0,g1,g2,g9,g10,g11];unfold Di;rw[decide_eq_false c1];rfl
   rintro t h' ⟨rfl,hn,g0,g1,g2,g9,g10,g11,g12,g52⟩;have hq3:=hq.ext E3 (jM _);obtain⟨ht,hht⟩:∃ht,ht=Di m QI a hv:=⟨_,rfl⟩;rw[<-hht]at g52 hD;by_cases hret:(ht&&ds.contains a)=true
   ·rw[if_pos hret]at hD;have hT:Hs m QI x r os ds=(0,0,false):=by unfold Hs;rw[<-hD]
    simp only[jW]at hret;obtain⟨rfl,hca⟩:=hret;simp only[jN,jB,jE,jF,reduceCtorEq,hn,g0,g9,g52,LP3];refine(GC a hq3 (by omega)).mono ?_;rintro _ h4 ⟨rfl,rfl⟩;simp only[jN,jB,jE,jF,reduceCtorEq,hn,hca];exact⟨E3,by rw[hT];rfl⟩
   rw[if_neg hret]at hD;refine Bt (fun t h4=>h4=h'/\t.n=88/\t.get 0= .ptr p 0/\t.get 1= .lit (.int .i64 QI)/\t.get 2= .lit (.int .i64 r)/\t.get 9= .lit (.int .i64 a)/\t.get 10= .lit (.int .i64 (if ht then a else dm))/\t.get 11= .lit (.bool (hv||ht))/\t.get 12= .ptr h2.n 0) (fun k' K' hk=> ?_) ?_
   ·cases ht with
    |false=>
     simp only[jN,jB,jE,reduceCtorEq,hn,g0,g9,g52];refine hk _ _ ⟨rfl,?_⟩;simp only[jN,reduceCtorEq,hn,g0,g1,g2,g9,g10,g11,g12,BX]
    |true=>
     have hca:ds.contains a=false:=by
      cases hcc:ds.contains a with
      |false=>rfl
      |true=>exact absurd (by rw[hcc];rfl) hret
     simp only[jN,jB,jE,jF,reduceCtorEq,hn,g0,g9,g52,LP3];refine(GC a hq3 (by omega)).mono ?_;rintro _ h4 ⟨rfl,rfl⟩;simp only[jN,jB,jE,reduceCtorEq,hn,hca];refine hk _ _ ⟨rfl,?_⟩;simp only[jN,jE,jF,reduceCtorEq,hn,g0,g1,g2,g9,g12,Bool.or_true]
   rintro t h4 ⟨rfl,hn,g0,g1,g2,g9,g10,g11,g12⟩;simp only[jN];have hG:∀b,kU m a=some b->qN m a=b:=fun b hb=>by unfold qN;rw[hb];rfl
   have hGl:(qN m a).items.length * 8<=140737488351232:=by
    cases hb:kU m a with
    |none=>unfold qN;rw[hb];decide
    |some b=>rw[hG b hb];exact(hbs b (ZG hb)).1
   rw[zL [0,1,2,3,4,5,6,7,8,9,10,11,12,13,14] 26958506803583283964102506241650125051416736049585717655372279349248 (by kernel_rfl)];have z1:=c3.isSl;have z2:=c3.lenD;have z3:=c4.isSl;repeat ((with_reducible refine jX ?_;simp only[vO];try simp only[vP,jB,jD,jH,jI]);simp only[jN,jE,jF,reduceCtorEq,zG,hn,g0,g2,g12,LP3,LB3,z1,z3])
   refine(sH x r c3 c4 (by omega)).mono ?_;rintro _ h5 ⟨e5,rfl⟩;have E5:=E3.step e5;have B5:=(e5.2 _ lb3).trans B3;have LB5:=xI B5;have lb5:=jR B5;have c5:=c3.ext e5 (jM _);cases hch:JZ (qN m a).items (qN m a).weights x r with
   |none=>
    rw[hch]at hD;have hT:Hs m QI x r os ds=(0,0,false):=by unfold Hs;rw[<-hD]
    repeat ((with_reducible refine jX ?_;simp only[vO];try simp only[vP,jB,jD,jH,jI,jF]);simp only[jN,jB,jE,jF,reduceCtorEq,zG,hn,g12,Al,De])
    exact⟨E5,by rw[hT];rfl⟩
   |some i=>
    obtain⟨hi,-⟩:=GB hch;rw[hch]at hD;obtain⟨b,hb⟩:∃b,kU m a=some b:=by
     cases hb:kU m a with
     |none=>
      unfold qN at hi;rw[hb]at hi;exact absurd hi (Nat.not_lt_zero _)
     |some b=>exact⟨b,rfl⟩
    have hGb:=hG b hb;obtain⟨u1,u2,u3,u4,u5,u6,u7,u8⟩:=Yu hg hb;have hkb:=Vv (by omega:a<0) hb;obtain⟨y1,y2⟩:=u7 i (by rw[<-hGb];exact hi);have hlda:=c5.int (T:=zH Tryz.prog kR) (e:=3) (by kernel_rfl) (by kernel_rfl) hi;repeat ((with_reducible refine jX ?_;simp only[vO];try simp only[vP,jB,jD,jH,jI,jF]);simp only[jN,jB,jE,jF,reduceCtorEq,zG,hn,g12,Al,De,LB5,z1,z2,hi,hlda])
    refine ih n _ _ ⟨_,_,_,E5,?_,?_,hD,?_⟩ (by omega)
    ·rw[hGb]at *;omega
    ·rw[hGb]at *;omega
    ·simp only[jN,jE,jF,reduceCtorEq,hn,g0,g1,g2,g10,g11]
 ·refine⟨QI,0,false,zM.refl _ _,by omega,by omega,rfl,?_⟩;simp only[jN,jB,jE,jF,reduceCtorEq]
variable{w:Int}
theorem SH(hg:vX m=true)(hw:w<0)(h0:0<=yY m w):∃b,kU m w=some b/\yY m w=b.kind/\1<=b.kind:=by
 cases hb:kU m w with
 |none=>
  unfold yY at h0;rw[if_neg (by omega),hb]at h0;exact absurd h0 (by simp)
 |some b=>exact⟨b,rfl,Vv hw hb,(Yu hg hb).2.2.1⟩
theorem Yi(hg:vX m=true)(hw:w<0)(h0:yY m w<=0):kU m w=none:=by
 cases hb:kU m w with
 |none=>rfl
 |some b=>
  have:=Vv hw hb;have:=(Yu hg hb).2.2.1;omega
variable{a r:Int}
theorem Ud(hb:kU m a=none):JZ (qN m a).items (qN m a).weights x r=none:=by
 have hG:qN m a=Kk:=by unfold qN;rw[hb];rfl
 rw[hG];cases hc:JZ Kk.items Kk.weights x r with
 |none=>rfl
 |some i=>exact absurd (GB hc).1 (Nat.not_lt_zero _)
theorem EX(hg:vX m=true)(hb:kU m a=some b)(hc:JZ b.items b.weights x r=some i):0<=yY m (b.items.getD i 0)/\yY m (b.items.getD i 0)<b.kind:=
 (Yu hg hb).2.2.2.2.2.2.1 i (GB hc).1
theorem IT{QI:Int}:Di m QI a true=false:=by unfold Di;simp
theorem ZJ{k:Int}(hb:kU m a=none):∀(n:Nat),Xf m k x r n a=none
 |0=>rfl
 |n+1=>by rw[Xf,hb]
theorem EJ{m:zU}(hg:vX m=true){k x r:Int}:∀(n n':Nat) (a:Int),a<0->yY m a<=(n:Int)->yY m a<=(n':Int)->Xf m k x r n a=Xf m k x r n' a
 |0,n',a,ha,h1,_=>by rw[ZJ (Yi hg ha (by simpa using h1)),ZJ (Yi hg ha (by simpa using h1))]
 |n+1,0,a,ha,_,h2=>by rw[ZJ (Yi hg ha (by simpa using h2)),ZJ (Yi hg ha (by simpa using h2))]
 |n+1,n'+1,a,ha,h1,h2=>by
  cases hb:kU m a with
  |none=>rw[ZJ hb,ZJ hb]
  |some b=>
   rw[Xf,Xf,hb]
   simp only
   cases hc:JZ b.items b.weights x r with
   |none=>rfl
   |some i=>
    simp only;obtain⟨q1,q2⟩:=EX hg hb hc;have hk:=Vv ha hb;split
    ·rfl
    ·rename_i hno;exact EJ hg n n' _ (by omega) (by omega) (by omega)
theorem TZ{m:zU}(hg:vX m=true){QI x r:Int}{ds:List Int}:∀(n:Nat) (a dm:Int),a<0->yY m a<=(n:Int)->BV m QI x r ds (n+1) a dm true=(Xf m 0 x r n a).map (fun o=>(o,dm))
 |0,a,dm,ha,h1=>by have hb:=Yi hg ha (by simpa using h1);rw[ZJ hb,BV,if_neg (by omega),IT,Ud hb];rfl
 |n+1,a,dm,ha,h1=>by
  rw[BV,if_neg (by omega),IT];cases hb:kU m a with
  |none=>rw[Ud hb,ZJ hb];rfl
  |some b=>
   have hG:qN m a=b:=by unfold qN;rw[hb];rfl
   rw[hG,Xf,hb]
   simp only[Dn,Je,if_false,BX]
   cases hc:JZ b.items b.weights x r with
   |none=>rfl
   |some i=>
    simp only;obtain⟨q1,q2⟩:=EX hg hb hc;have hk:=Vv ha hb;by_cases h0:0<=b.items.getD i 0
    ·rw[BV,if_pos h0,if_pos (show 0<=b.items.getD i 0\/yY m (b.items.getD i 0)=0 from .inl h0)];rfl
    ·obtain⟨b',hb',hk',h1'⟩:=SH hg (by omega) q1;rw[if_neg (by omega)];exact TZ hg n _ dm (by omega) (by omega)
theorem Ov{m:zU}(hg:vX m=true){QI x r:Int}{ds:List Int}(h3:yY m QI<=3):∀(n:Nat) (a dm:Int),a<0->yY m a<=(n:Int)->yY m a<=yY m QI->Di m QI a false=false->
 BV m QI x r ds (n+1) a dm false=match Xf m m.leaf x r n a with
  |none=>none
  |some d=>if 0<=d then some (d,d)else if ds.contains d then none else(Xf m 0 x r 4 d).map (fun o=>(o,d))
 |0,a,dm,ha,h1,_,hh=>by have hb:=Yi hg ha (by simpa using h1);rw[ZJ hb,BV,if_neg (by omega),hh,Ud hb];rfl
 |n+1,a,dm,ha,h1,h2,hh=>by
  rw[BV,if_neg (by omega),hh];cases hb:kU m a with
  |none=>rw[Ud hb,ZJ hb];rfl
  |some b=>
   have hG:qN m a=b:=by unfold qN;rw[hb];rfl
   rw[hG,Xf,hb]
   simp only[Dn,Je,if_false,BX]
   cases hc:JZ b.items b.weights x r with
   |none=>rfl
   |some i=>
    simp only;obtain⟨q1,q2⟩:=EX hg hb hc;have hk:=Vv ha hb;obtain⟨w,hw⟩:∃w,w=b.items.getD i 0:=⟨_,rfl⟩;rw[<-hw]at q1 q2 ⊢;by_cases h0:0<=w
    ·rw[BV,if_pos h0,if_pos (show 0<=w\/yY m w=m.leaf from .inl h0)];simp only[if_pos h0];rfl
    ·have hw0:w<0:=by omega
     obtain⟨b',hb',hk',h1'⟩:=SH hg hw0 q1;have hG':qN m w=b':=by unfold qN;rw[hb'];rfl
     by_cases hl:yY m w=m.leaf
     ·have hhit:Di m QI w false=true:=by
       unfold Di
       rw[hG']
       have c1:0<m.leaf:=by omega
       have c2:b'.kind=m.leaf:=by omega
       have c3:w≠QI:=fun hq=>by subst hq;omega
       simp[c1,c2,c3]
      rw[if_pos (.inr hl),BV,if_neg h0,hhit]
      simp only[ZU,Bool.or_true,if_true,if_neg h0]
      cases hds:ds.contains w with
      |true=>simp only[if_true]
      |false=>
       simp only[Je,if_false];have ht:=TZ hg (QI:=QI) (x:=x) (r:=r) (ds:=ds) n w w hw0 (by omega);rw[EJ hg 4 n w hw0 (by omega) (by omega),<-ht,BV,if_neg h0,IT];simp only[Dn,Je,if_false,BX]
     ·have hhit:Di m QI w false=false:=by
       unfold Di
       rw[hG']
       have c2:¬b'.kind=m.leaf:=by omega
       simp[c2]
      rw[if_neg (by omega)]
      exact Ov hg h3 n w dm hw0 (by omega) (by omega) hhit
theorem j0u(hg:vX m=true){QI:Int}{ds:List Int}(h3:yY m QI<=3)(ha:QI<0)(hi:∀d∈ds,0<=d->d∈os):
 BT m x QI (os,ds) r=if(Hs m QI x r os ds).2.2 then some ((Hs m QI x r os ds).1,(Hs m QI x r os ds).2.1)else none:=by
 have hh:Di m QI QI false=false:=by unfold Di;simp
 have hw:=Ov hg (x:=x) (r:=r) (ds:=ds) h3 3 QI 0 ha h3 (Zy _) hh
 unfold Hs BT
 rw[hw]
 by_cases hk:kU m QI=none
 ·rw[ZJ hk,ZJ hk];rfl
 rw[EJ hg 4 3 QI ha (by omega) h3]
 cases hd:Xf m m.leaf x r 3 QI with
 |none=>rfl
 |some d=>
  simp only;by_cases hd0:0<=d
  ·simp only[if_pos hd0];cases hc:ds.contains d with
   |true=>
    have:os.contains d=true:=List.contains_iff_mem.2 (hi d (List.contains_iff_mem.1 hc) hd0);simp only[if_true,this,BW,Jl,Je,if_false]
   |false=>
    rw[if_neg (show ¬d<0 by omega)];simp only[Je,if_false];cases Yw m d x<;>cases os.contains d<;>rfl
  ·simp only[if_neg hd0];cases hc:ds.contains d with
   |true=>rfl
   |false=>
    rw[if_pos (show d<0 by omega)]
    simp only[Je,if_false]
    cases Xf m 0 x r 4 d with
    |none=>rfl
    |some o=>
     simp only[qD];cases Yw m o x<;>cases os.contains o<;>rfl
variable{o root:Int}{s:List Int×List Int}
theorem j0t{d:Int}(h:BT m x root s r=some (o,d))(hd:0<=d):o=d:=by
 unfold BT at h;cases h1:Xf m m.leaf x r 4 root with
 |none=>rw[h1]at h;cases h
 |some d'=>
  rw[h1]at h;simp only at h;split at h
  ·cases h
  ·split at h
   ·cases h
   ·rename_i o' ho;split at h
    ·cases h
    ·cases h;rw[if_neg (by omega)]at ho;exact(jS ho).symm
theorem j0r{vb:AV}(hm:vG F H m vo vp vb){d:Int}(h:BT m x root s r=some (o,d)):Zq o/\Zq d:=by
 unfold BT at h;cases h1:Xf m m.leaf x r 4 root with
 |none=>rw[h1]at h;cases h
 |some d'=>
  rw[h1]at h;simp only at h;split at h
  ·cases h
  ·split at h
   ·cases h
   ·rename_i o' ho;split at h
    ·cases h
    ·cases h;have hd:=UU hm _ _ _ h1;refine⟨?_,hd⟩;split at ho
     ·exact UU hm _ _ _ ho
     ·cases ho;exact hd
theorem BE{m:zU}{x root:Int}{s:List Int×List Int}{k:Nat}{y:Int×Int}:∀n,Xh m x root s k n=some y->∃r,BT m x root s r=some y
 |0,h=>by rw[DH]at h;cases h
 |n+1,h=>by
  cases hn:Xh m x root s k n with
  |some z=>rw[Ao hn (n+1) (by omega)]at h;cases h;exact BE n hn
  |none=>rw[DG hn]at h;exact⟨_,h⟩
theorem iF{m:zU}{x root:Int}{s:List Int×List Int}{k:Nat}(hi:∀d∈s.2,0<=d->d∈s.1):∀d∈(VP m x root s k).2,0<=d->d∈(VP m x root s k).1:=by
 unfold VP;cases h:Xh m x root s k 50 with
 |none=>exact hi
 |some y=>
  obtain⟨o,d⟩:=y;obtain⟨r,hr⟩:=BE _ h;intro d' hd' h0;simp only[zN,zX]at hd' ⊢;rcases hd' with hd'|rfl
  ·exact .inl (hi _ hd' h0)
  ·exact .inr (j0t hr h0).symm
theorem TE{m:zU}{x root:Int}:∀k,∀d∈(Xz m x root k).2,0<=d->d∈(Xz m x root k).1
 |0=>fun d hd=>by cases hd
 |k+1=>by rw[Xz];exact iF (TE k)
theorem j0s{d:Int}(h:BT m x root s r=some (o,d)):Yw m o x=true/\s.1.contains o=false:=by
 unfold BT at h;cases h1:Xf m m.leaf x r 4 root with
 |none=>rw[h1]at h;cases h
 |some d'=>
  rw[h1]at h;simp only at h;split at h
  ·cases h
  ·split at h
   ·cases h
   ·rename_i o' ho;split at h
    ·cases h
    ·rename_i hn;cases h;cases hm:Yw m o x with
     |false=>rw[hm]at hn;exact absurd rfl hn
     |true=>
      cases hc:s.1.contains o with
      |true=>rw[hm,hc]at hn;exact absurd rfl hn
      |false=>exact⟨rfl,rfl⟩
theorem iG{m:zU}{x root:Int}{s:List Int×List Int}{k:Nat}(hi:(∀o∈s.1,Yw m o x=true)/\s.1.Nodup):(∀o∈(VP m x root s k).1,Yw m o x=true)/\(VP m x root s k).1.Nodup:=by
 unfold VP;cases h:Xh m x root s k 50 with
 |none=>exact hi
 |some y=>
  obtain⟨o,d⟩:=y;obtain⟨r,hr⟩:=BE _ h;obtain⟨h1,h2⟩:=j0s hr;refine⟨fun o' ho'=> ?_,?_⟩
  ·simp only[zN,zX]at ho';rcases ho' with ho'|rfl
   ·exact hi.1 _ ho'
   ·exact h1
  ·rw[List.nodup_append];refine⟨hi.2,by simp,fun a ha b hb=> ?_⟩;simp only[zX]at hb;subst hb;intro hab;subst hab;rw[List.contains_iff_mem.2 ha]at h2;cases h2
theorem TF{m:zU}{x root:Int}:∀k,(∀o∈(Xz m x root k).1,Yw m o x=true)/\(Xz m x root k).1.Nodup
 |0=>⟨fun o ho=>(by cases ho),List.nodup_nil⟩
 |k+1=>by rw[Xz];exact iG (TF k)
theorem TH{m:zU}{x n:Int}:(∀o∈Zm m x n,Yw m o x=true)/\(Zm m x n).Nodup:=by
 unfold Zm;split
 ·split
  ·exact⟨fun o ho=>(by cases ho),List.nodup_nil⟩
  ·exact TF _
 ·exact⟨fun o ho=>(by cases ho),List.nodup_nil⟩
theorem uM(h:Yw m o x=true):Cg m o=true:=by
 unfold Yw at h;unfold Cg;by_cases h0:0<=o
 ·rw[if_pos h0]at h ⊢;cases hy:m.osds[o.toNat]? with
  |none=>rw[hy]at h;cases h
  |some y=>
   rw[hy]at h;simp only[Hq,dD,jW]at h ⊢;exact h.1
 ·rw[if_neg h0]at h;cases h
theorem PQ{m:zU}{x n:Int}:∀o∈Zm m x n,Cg m o=true:=fun o ho=>uM (TH.1 o ho)
theorem sN(n:Int):Hp n<=8:=by unfold Hp;split<;>omega
theorem TG{n:Int}:(Zm m x n).length<=8:=by
 unfold Zm;split
 ·split
  ·exact vT _
  ·exact zY (CQ _ _ _ _).1 (sN n)
 ·exact vT _
theorem qE.low{α:Type}{R:Zl α}{xs:List α}(ho:qE R (fun _=>False) n0 h v e xs){b off:Nat}(hv:v= .sl b off n cap):n0<=b/\b<h.n:=by
 obtain⟨L,h1,h2⟩:=ho;rcases h1.2 with⟨hh,_⟩|⟨p,hh,hp,hat⟩
 ·rw[hh]at hv;cases hv
 ·rw[hh]at hv;cases hv;exact⟨hp,jR hat⟩
theorem qE.put{α:Type}{R:Zl α}{xs:List α}(ho:qE R (fun _=>False) n0 h v e xs)(hp:p<n0)(x:AB):qE R (fun _=>False) n0 (h.put p x) v e xs:=
 ho.lift (fun b off n cap hv=>zE x (by have:=ho.low hv;omega)) (fun b hb=>hb.elim)
theorem j4m{vs vq:AV}{ds:List Int}(k:Nat)(hm:vG F H m vo vp vb)(hok:OC m)(hlo:Sm 40 m.osds)(hg:vX m=true)(hr:root<0)(h3:yY m root<=3)
 (hp:H.at p=some (.cells (j1E m vo vp vb x vs vq) 238)) (hs:qE qB (fun _=>False) (p+1) H vs 3 os) (hq:qE qB (fun _=>False) (p+1) H vq 3 ds) (hdj:Bm vs vq) (hsl:os.length<=k) (hql:ds.length<=k) (hk:k<=8) (hi:∀d∈ds,0<=d->d∈os):
 vR 133 [.ptr p 0,.lit (.int .i64 root),.lit (.int .i64 k)] H fun v h'=>v= .tup []/\zM p H h'/\∃vs' vq',h'.at p=some (.cells (j1E m vo vp vb x vs' vq') 238)/\
  qE qB (fun _=>False) (p+1) h' vs' 3 (VP m x root (os,ds) k).1/\qE qB (fun _=>False) (p+1) h' vq' 3 (VP m x root (os,ds) k).2/\Bm vs' vq':=by
 refine zW Tryz.func133 rfl rfl ?_
 have lp:=jR hp
 have hvs:=hs.toSl (F:=fun _=>True) (fun _ _=>trivial) (fun _ _=>trivial)
 have hvq:=hq.toSl (F:=fun _=>True) (fun _ _=>trivial) (fun _ _=>trivial)
 simp only[jN,seval,Tryz.ntmps133]
 refine kO 50 (fun i t h=>zM H.n H h/\Xh m x root (os,ds) k i=none/\t.n=45/\t.get 0= .ptr p 0/\t.get 1= .lit (.int .i64 root)/\t.get 2= .lit (.int .i64 k)/\t.get 10= .lit (.int .i64 i)) ?_ ?_ _ _ ?_
 ·rintro i t h hi50 hc ⟨he,hf,ga⟩ ih;have hc:((i:Int)<50)=True:=by simp only[eq_iff_iff,iff_true];omega
  have hws:=xG hi50 (by omega);have hwk:IntKind.i64.wrap ((k:Int)+(i:Int))=((k+i:Nat):Int):=(vW (by omega) (by omega)).trans (by omega);have P1:=(he.2 _ lp).trans hp;have hf1:Xh m x root (os,ds) k (i+1)=BT m x root (os,ds) ((k+i:Nat):Int):=DG hf;have hT:=j0u hg (x:=x) (r:=((k+i:Nat):Int)) (os:=os) (ds:=ds) h3 hr hi;simp only[jN,seval,ga,hc,hwk];refine(j5l root _ (hm.ext he (jM _)) hok hlo hg P1 (hvs.ext he (jM _)) (hvq.ext he (jM _)) (by omega) (by omega) h3).mono ?_;rintro _ h2 ⟨e2,rfl⟩;have E2:=he.step e2;obtain⟨⟨o,d,b⟩,hy⟩:∃y,y=Hs m root x ((k+i:Nat):Int) os ds:=⟨_,rfl⟩;rw[<-hy]at hT ⊢;cases b with
  |false=>
   simp only[jN,seval,ga,j5m,hws];refine ih _ _ ⟨E2,by rw[hf1,hT];rfl,?_⟩;simp only[jN,seval,ga]
  |true=>
  have hT:BT m x root (os,ds) ((k+i:Nat):Int)=some (o,d):=hT;rw[hT]at hf1;have hS:VP m x root (os,ds) k=(os++[o],ds++[d]):=by unfold VP;rw[Ao hf1 50 (by omega)]
  obtain⟨I1,I2⟩:=j0r hm hT;have P2:=(E2.2 _ lp).trans hp;unfold j1E at P2;have LP2:=xI P2;have l2:=jR P2;have hs2:=hs.ext E2 (jM _);have hq2:=hq.ext E2 (jM _);simp only[jN,seval,ga,j5m,LP2];obtain⟨h3',hh3⟩:∃h3',h3'=h2.push (.cells [.lit (.int .i64 o)] 3):=⟨_,rfl⟩;have e3:=ZS hh3;have A3:h3'.at h2.n=some (.cells [.lit (.int .i64 o)] 3):=hh3▸zI h2 _;have q4:=e3.1;rw[<-hh3];refine qM ((hs2.ext e3 (jM _)).snoc (by kernel_rfl) (by kernel_rfl) (by kernel_rfl) (zv:= .lit (.int .i64 0)) (by kernel_rfl) (by':=8) (by kernel_rfl) rfl (by decide) (by decide) A3 (y:=o) ⟨rfl,I1⟩ (by omega) (by omega) (by omega)) ?_;rintro s8 h4 ⟨ho4,e4,k4⟩;have P4:=((e4.2 _ (by omega)).trans (e3.2 _ l2)).trans P2;have l4:=jR P4;have t8:=ho4.one;obtain⟨hq4,hd4⟩:=(hq2.ext e3 (jM _)).other hdj k4;simp only[jN,seval,ga,l4,P4,t8];obtain⟨h5,hh5⟩:∃h5,h5=h4.put p (.cells [.lit (.int .i64 m.epoch),vo,vp,vb,.lit (.int .i64 m.leaf),.lit (.int .u32 x),s8,vq] 238):=⟨_,rfl⟩;have e5:zM p h4 h5:=hh5▸(zM.refl _ _).put _ (jM _);have P5:=Jj hh5 l4;have ho5:qE qB (fun _=>False) (p+1) h5 s8 3 (os++[o]):=hh5▸ho4.put (by omega) _;have hq5:qE qB (fun _=>False) (p+1) h5 vq 3 ds:=hh5▸hq4.put (by omega) _;have n5:h5.n=h4.n:=by rw[hh5,kZ]
  rw[<-hh5];obtain⟨h6,hh6⟩:∃h6,h6=h5.push (.cells [.lit (.int .i64 d)] 3):=⟨_,rfl⟩;have e6:=ZS hh6;have A6:h6.at h4.n=some (.cells [.lit (.int .i64 d)] 3):=by rw[<-n5,hh6];exact zI h5 _
  have q5:=e6.1;rw[<-hh6];refine qM ((hq5.ext e6 (jM _)).snoc (by kernel_rfl) (by kernel_rfl) (by kernel_rfl) (zv:= .lit (.int .i64 0)) (by kernel_rfl) (by':=8) (by kernel_rfl) rfl (by decide) (by decide) A6 (y:=d) ⟨rfl,I2⟩ (by omega) (by omega) (by omega)) ?_;rintro s9 h7 ⟨ho7,e7,k7⟩;have P7:=((e7.2 _ (by omega)).trans (e6.2 _ (by omega))).trans P5;have l7:=jR P7;have t9:=ho7.one;obtain⟨ho7',hd7⟩:=(ho5.ext e6 (jM _)).other hd4.symm k7;simp only[jN,seval,ga,l7,P7,t9];have EE:zM p H (h7.put p (.cells [.lit (.int .i64 m.epoch),vo,vp,vb,.lit (.int .i64 m.leaf),.lit (.int .u32 x),s8,s9] 238)):=by exact((((((E2.mono (by omega)).trans (e3.mono (by omega))).trans (e4.mono (by omega))).trans e5).trans (e6.mono (by omega))).trans (e7.mono (by omega))).put _ (jM _)
  refine⟨EE,s8,s9,rfl,?_,?_,hd7.symm⟩
  ·rw[hS];exact ho7'.put (by omega) _
  ·rw[hS];exact ho7.put (by omega) _
 ·rintro t h hc ⟨he,hf,ga⟩;have hc:((50:Int)<50)=False:=by decide
  have hS:VP m x root (os,ds) k=(os,ds):=by unfold VP;rw[hf]
  simp only[jN,seval,ga,hc];refine⟨by simp,⟨he.1,fun b hb=>he.2 b (by omega)⟩,vs,vq,(he.2 _ lp).trans hp,?_,?_,hdj⟩
  ·rw[hS];exact hs.ext he (jM _)
  ·rw[hS];exact hq.ext he (jM _)
 ·refine⟨zM.refl _ _,DH,?_⟩;simp only[jN,seval];try((repeat' apply And.intro)<;>first|rfl|trivial)
theorem mY(hg:vX m=true)(hr:root∈Vg m):root<0/\yY m root<=3:=by
 obtain⟨h1,_,h3⟩:=GW hg m.buckets.length (jM _);obtain⟨c,hc,rfl⟩:=h3 root (h1.subset hr);have hc:=ZY hc;cases hb:kU m c.id with
 |none=>
  unfold kU at hb;exact absurd (List.find?_eq_none.1 hb c hc) (by simp)
 |some b=>
  obtain⟨g1,g2,g3,g4,g5,-⟩:=Yu hg hb;refine⟨by omega,?_⟩;rw[Vv (by omega) hb];exact g4
theorem j4l(n:Int):(if 8<(if n<0 then 0 else n)then 8 else(if n<0 then 0 else n))=((Hp n:Nat):Int):=by
 unfold Hp;repeat' split
 all_goals omega
theorem nJ(x n:Int)(hm:vG F H m vo vp vb)(hok:OC m)(hlo:Sm 40 m.osds):
 vR 110 [vS m vo vp vb,.lit (.int .u32 x),.lit (.int .i64 n)] H fun v h'=>zM H.n H h'/\zJ qB (fun b=>H.n<=b) h' v (Zm m x n):=by
 refine zW Tryz.func110 rfl rfl ?_
 have o1:=hm.o.one
 have o2:=hm.p.one
 have o3:=hm.b.one
 have EP:∀x,zM H.n H (H.push x):=fun x=>(zM.refl _ _).push _ (jM _)
 simp only[jN,jB,jC,jE,jF,jG,Tryz.ntmps110,vS,o1,o2,o3]
 obtain⟨h1,hh1⟩:∃h1,h1=H.push (.cells [.lit (.int .i64 m.epoch),vo,vp,vb,.lit (.int .i64 m.leaf)] 66):=⟨_,rfl⟩
 have E1:zM H.n H h1:=hh1▸EP _
 have A1:=QJ hh1
 have l1:=jR A1
 rw[<-hh1]
 clear hh1
 refine(j1Y (hm.ext E1 (jM _)) hok).mono ?_
 rintro _ h2 ⟨e2,rfl⟩
 have E2:=E1.step e2
 have A2:=(e2.2 _ l1).trans A1
 have l2:=jR A2
 have LA2:=xI A2
 cases hg:vX m with
 |false=>
  simp only[jN,jB,jE,jF,reduceCtorEq];refine⟨E2,?_⟩;unfold Zm;rw[hg];exact zJ.nil
 |true=>
 simp only[jN,jB,jE,jF,reduceCtorEq,jG,LA2]
 refine(wZ (hm.ext E2 (jM _)) hok hg).mono ?_
 rintro vr h3 ⟨e3,hr3⟩
 have E3:=E2.step e3
 have A3:=(e3.2 _ l2).trans A2
 have l3:=jR A3
 have LA3:=xI A3
 have r1:=hr3.isSl
 have r2:=hr3.lenD
 simp only[Jy,jB,jE,r1,r2]
 rw[qT]
 simp only[Jy,jB,jE,jF,reduceCtorEq]
 cases hrt:Vg m with
 |nil=>
  refine⟨fun _=>⟨E3,?_⟩,fun hq=>absurd hq (by decide)⟩;unfold Zm;rw[hg,hrt];exact zJ.nil
 |cons root rest=>
 obtain⟨hr0,hk3⟩:=mY hg (root:=root) (by rw[hrt];simp)
 have hrl:(0:Nat)<(Vg m).length:=by rw[hrt];simp
 have hrg:(Vg m).getD 0 0=root:=by rw[hrt];rfl
 have hsel:Zm m x n=(Xz m x root (Hp n)).1:=by unfold Zm;rw[hg,hrt];rfl
 rw[<-hrt]
 refine⟨fun hq=>absurd (eq_of_beq hq) (by omega),fun hq0=> ?_⟩
 simp only[jN,jB,jE,jF,jG,LA3,o1,o2,o3]
 obtain⟨h4,hh4⟩:∃h4,h4=h3.push (.cells [.lit (.int .i64 m.epoch),vo,vp,vb,.lit (.int .i64 m.leaf),.lit (.int .u32 x),.lit (.slice none 0 0),.lit (.slice none 0 0)] 238):=⟨_,rfl⟩
 have P4:=QJ hh4
 have e4:=ZS hh4
 rw[<-hh4]
 clear hh4
 simp only[j4l]
 have hc8:=sN n
 refine kO (Hp n) (fun k t h=>∃vs vq,h.at h3.n=some (.cells (j1E m vo vp vb x vs vq) 238)/\qE qB (fun _=>False) (h3.n+1) h vs 3 (Xz m x root k).1/\qE qB (fun _=>False) (h3.n+1) h vq 3 (Xz m x root k).2/\Bm vs vq/\zM h3.n h3 h/\t.n=39/\t.get 7=vr/\t.get 8= .ptr h3.n 0/\t.get 24= .lit (.int .i64 (Hp n))/\t.get 25= .lit (.int .i64 k)) ?_ ?_ _ _ ?_
 ·rintro k t h hlt hc ⟨vs,vq,P,hvs,hvq,hdj,he,ga⟩ ih;have hws:=xG hlt (by omega);have hld:=(hr3.ext he (jM _)).int (T:=zH Tryz.prog kR) (e:=3) (by kernel_rfl) (by kernel_rfl) hrl;rw[hrg,JH]at hld;obtain⟨q1,q2⟩:=CQ m x root k;simp only[jN,jB,jE,jF,reduceCtorEq,jJ,ga,hc,hld,r1,r2,hrl];refine(j4m k (hm.ext (E3.step he) (jM _)) hok hlo hg hr0 hk3 P hvs hvq hdj q1 q2 (by omega) (TE k)).mono ?_;rintro _ h' ⟨rfl,e',vs',vq',P',hvs',hvq',hdj'⟩;simp only[jN,jB,jF,ga,hws];refine ih _ _ ⟨vs',vq',P',hvs',hvq',hdj',he.trans e',?_⟩;simp only[jN,jE,jF,ga]
 ·rintro t h hc ⟨vs,vq,P,hvs,hvq,hdj,he,ga⟩;unfold j1E at P;have LP:=xI P;simp only[jN,jB,jE,jF,reduceCtorEq,ga,hc,LP];refine⟨E3.step he,?_⟩;rw[hsel];exact hvs.toSl (fun _ hf=>hf.elim) (fun b hb=>by have:=E3.1;omega)
 ·simp only[jN,jB,jE,jF];exact⟨_,_,P4,qE.nil,qE.nil,Bm.nil_l,e4,rfl⟩
def Ph(pool seed:Int):Int:=UB (IntKind.u32.wrap seed) (IntKind.u32.wrap pool)
def ZR(m:zU)(pool seed:Int):List Int:=match JG m pool with
 |none=>[]
 |some p=>if seed<0\/p.pgs<=seed\/8<=seed then[]else Zm m (Ph pool seed) p.size
def eN(pool seed:Int):AV:= .agg [.lit (.int .i64 pool),.lit (.int .i64 seed)]
theorem gN{m:zU}{pool seed:Int}:∀o∈ZR m pool seed,Cg m o=true:=by
 unfold ZR;split
 ·exact fun o ho=>by cases ho
 ·split
  ·exact fun o ho=>by cases ho
  ·exact PQ
theorem rV{pool seed:Int}:(ZR m pool seed).length<=8:=by
 unfold ZR;split
 ·exact vT _
 ·split
  ·exact vT _
  ·exact TG
theorem j4c(pool seed:Int)(hm:vG F H m vo vp vb)(hok:OC m)(hlo:Sm 40 m.osds)(hpo:Sm 32 m.pools):
 vR 98 [vS m vo vp vb,eN pool seed] H fun v h'=>zM H.n H h'/\zJ qB (fun b=>H.n<=b) h' v (ZR m pool seed):=by
 refine zW Tryz.func98 rfl rfl ?_
 have o1:=hm.o.one
 have o2:=hm.p.one
 have o3:=hm.b.one
 have i1:=hm.o.isSl
 have i2:=hm.p.isSl
 have i3:=hm.b.isSl
 simp only[jN,jB,jC,jE,jF,jG,Tryz.ntmps98,vS,eN,o1,o2,o3]
 obtain⟨h1,hh1⟩:∃h1,h1=(H.push (.cells [.lit (.int .i64 m.epoch),vo,vp,vb,.lit (.int .i64 m.leaf)] 66)).push (.cells [.lit (.int .i64 pool),.lit (.int .i64 seed)] 36):=⟨_,rfl⟩
 have E1:zM H.n H h1:=hh1▸((zM.refl _ _).push _ (jM _)).push _ (by rw[zF];omega)
 have A1:h1.at H.n=some (.cells [.lit (.int .i64 m.epoch),vo,vp,vb,.lit (.int .i64 m.leaf)] 66):=hh1▸(xE _ (by rw[zF];omega)).trans (zI _ _)
 have B1:h1.at (H.n+1)=some (.cells [.lit (.int .i64 pool),.lit (.int .i64 seed)] 36):=hh1▸zI _ _
 have la1:=jR A1
 have lb1:=jR B1
 rw[<-hh1]
 clear hh1
 refine(HL pool (hm.ext E1 (jM _)) hpo).mono ?_
 rintro _ h2 ⟨e2,rfl⟩
 have E2:=E1.step e2
 have A2:=(e2.2 _ la1).trans A1
 have B2:=(e2.2 _ lb1).trans B1
 simp only[jN,jB,jE,jF,jG,Zz]
 obtain⟨h3,hh3⟩:∃h3,h3=h2.push (.cells [.lit (.int .i64 (vV m pool).id),.lit (.int .i64 (vV m pool).size),.lit (.int .i64 (vV m pool).min),.lit (.int .i64 (vV m pool).pgs)] 108):=⟨_,rfl⟩
 have e3:=ZS hh3
 have C3:h3.at h2.n=some (.cells [.lit (.int .i64 (vV m pool).id),.lit (.int .i64 (vV m pool).size),.lit (.int .i64 (vV m pool).min),.lit (.int .i64 (vV m pool).pgs)] 108):=hh3▸zI _ _
 have E3:=E2.step e3
 have A3:=(e3.2 _ (jR A2)).trans A2
 have B3:=(e3.2 _ (jR B2)).trans B2
 have LA3:=xI A3
 have LB3:=xI B3
 have LC3:=xI C3
 rw[<-hh3]
 clear hh3
 by_cases hq:JG m pool=none
 ·simp only[jN,jB,jE,jF,reduceCtorEq,hq,Jg];refine⟨E3,?_⟩;unfold ZR;rw[hq];exact zJ.nil
 obtain⟨pl,hq⟩:=Option.ne_none_iff_exists'.1 hq
 have hG:vV m pool=pl:=by unfold vV;rw[hq];rfl
 rw[hG]at LC3
 have hbad:(seed<0\/pl.pgs<=seed\/8<=seed)->∀h',zM H.n H h'->zM H.n H h'/\zJ qB (fun b=>H.n<=b) h' (.lit (.slice none 0 0)) (ZR m pool seed):=fun hc h' e=>by refine⟨e,?_⟩;unfold ZR;rw[hq];simp only[if_pos hc];exact zJ.nil
 by_cases c1:seed<0
 ·simp only[jN,jB,jE,jF,reduceCtorEq,hq,LB3,c1];exact hbad (.inl c1) _ E3
 by_cases c2:pl.pgs<=seed
 ·simp only[jN,jB,jE,jF,reduceCtorEq,hq,LB3,LC3,c1,c2];exact hbad (.inr (.inl c2)) _ E3
 by_cases c3:8<=seed
 ·simp only[jN,jB,jE,jF,reduceCtorEq,hq,LB3,LC3,c1,c2,c3];exact hbad (.inr (.inr c3)) _ E3
 have hact:ZR m pool seed=Zm m (Ph pool seed) pl.size:=by unfold ZR;rw[hq];simp only[if_neg (show ¬(seed<0\/pl.pgs<=seed\/8<=seed)by omega)]
 simp only[jN,jB,jE,jF,reduceCtorEq,hq,LB3,LC3,c1,c2,c3]
 rw[zL [0,1,2,3,4,5,6,8,9,7,10,11] 11146287964711016698268812174730525759504384 (by kernel_rfl)]
 repeat ((with_reducible refine jX ?_;simp only[vO];try simp only[vP,jB,jD,jH,jI]);simp only[jN,jB,jE,jF,jG,zG,LA3,LB3,LC3,i1,i2,i3])
 refine Sx ?_
 repeat ((with_reducible refine jX ?_;simp only[vO];try simp only[vP,jB,jD,jH,jI]);simp only[jN,jB,jE,jF,jG,zG,LA3,LC3,i1,i2,i3])
 refine(nK _ _ (hm.ext E3 (jM _)) hok hlo).mono ?_
 rintro v h4 ⟨e4,hv⟩
 repeat ((with_reducible refine jX ?_;simp only[vO];try simp only[vP,jB,jD,jH,jI,jF]);simp only[jN,jB,jE,reduceCtorEq,zG])
 refine⟨E3.step e4,?_⟩
 rw[hact]
 exact hv.lift fun b hb _=>⟨rfl,zY E3.1 hb⟩
theorem j60(pool seed:Int)(hm:vG F H m vo vp vb)(hok:OC m)(hlo:Sm 40 m.osds)(hpo:Sm 32 m.pools):
 vR 80 [vS m vo vp vb,eN pool seed] H fun v h'=>zM H.n H h'/\zJ qB (fun b=>H.n<=b) h' v (ZR m pool seed):=by
 refine zW Tryz.func80 rfl rfl ?_
 have o1:=hm.o.one
 have o2:=hm.p.one
 have o3:=hm.b.one
 have i1:=hm.o.isSl
 have i2:=hm.p.isSl
 have i3:=hm.b.isSl
 simp only[jN,jB,jC,jE,jF,jG,Tryz.ntmps80,vS,eN,o1,o2,o3]
 obtain⟨h1,hh1⟩:∃h1,h1=(H.push (.cells [.lit (.int .i64 m.epoch),vo,vp,vb,.lit (.int .i64 m.leaf)] 66)).push (.cells [.lit (.int .i64 pool),.lit (.int .i64 seed)] 36):=⟨_,rfl⟩
 have E1:zM H.n H h1:=hh1▸((zM.refl _ _).push _ (jM _)).push _ (by rw[zF];omega)
 have A1:h1.at H.n=some (.cells [.lit (.int .i64 m.epoch),vo,vp,vb,.lit (.int .i64 m.leaf)] 66):=hh1▸(xE _ (by rw[zF];omega)).trans (zI _ _)
 have B1:h1.at (H.n+1)=some (.cells [.lit (.int .i64 pool),.lit (.int .i64 seed)] 36):=hh1▸zI _ _
 have la1:=jR A1
 have lb1:=jR B1
 rw[<-hh1]
 clear hh1
 refine(bE pool (hm.ext E1 (jM _)) hpo).mono ?_
 rintro _ h2 ⟨e2,rfl⟩
 have E2:=E1.step e2
 have A2:=(e2.2 _ la1).trans A1
 have B2:=(e2.2 _ lb1).trans B1
 simp only[jN,jB,jE,jF,jG,Zz]
 obtain⟨h3,hh3⟩:∃h3,h3=h2.push (.cells [.lit (.int .i64 (vV m pool).id),.lit (.int .i64 (vV m pool).size),.lit (.int .i64 (vV m pool).min),.lit (.int .i64 (vV m pool).pgs)] 108):=⟨_,rfl⟩
 have e3:=ZS hh3
 have C3:h3.at h2.n=some (.cells [.lit (.int .i64 (vV m pool).id),.lit (.int .i64 (vV m pool).size),.lit (.int .i64 (vV m pool).min),.lit (.int .i64 (vV m pool).pgs)] 108):=hh3▸zI _ _
 have E3:=E2.step e3
 have A3:=(e3.2 _ (jR A2)).trans A2
 have B3:=(e3.2 _ (jR B2)).trans B2
 have la3:=jR A3
 have lb3:=jR B3
 have lc3:=jR C3
 have LA3:=xI A3
 have LB3:=xI B3
 have LC3:=xI C3
 rw[<-hh3]
 clear hh3
 by_cases hq:JG m pool=none
 ·simp only[jN,jB,jE,jF,reduceCtorEq,hq,Jg];refine⟨E3,?_⟩;unfold ZR;rw[hq];exact zJ.nil
 obtain⟨pl,hq⟩:=Option.ne_none_iff_exists'.1 hq
 have hG:vV m pool=pl:=by unfold vV;rw[hq];rfl
 rw[hG]at LC3
 have hbad:(seed<0\/pl.pgs<=seed\/8<=seed)->∀h',zM H.n H h'->zM H.n H h'/\zJ qB (fun b=>H.n<=b) h' (.lit (.slice none 0 0)) (ZR m pool seed):=fun hc h' e=>by refine⟨e,?_⟩;unfold ZR;rw[hq];simp only[if_pos hc];exact zJ.nil
 by_cases c1:seed<0
 ·simp only[jN,jB,jE,jF,reduceCtorEq,hq,LB3,c1];exact hbad (.inl c1) _ E3
 by_cases c2:pl.pgs<=seed
 ·by_cases c4:8<pl.pgs
  ·have c5:8<=seed:=by omega
   simp only[jN,jB,jE,jF,reduceCtorEq,hq,LB3,LC3,c1,c4,c5];exact hbad (.inr (.inl c2)) _ E3
  ·simp only[jN,jB,jE,jF,reduceCtorEq,hq,LB3,LC3,c1,c2,c4];exact hbad (.inr (.inl c2)) _ E3
 by_cases c3:8<=seed
 ·have c4:8<pl.pgs:=by omega
  simp only[jN,jB,jE,jF,reduceCtorEq,hq,LB3,LC3,c1,c4,c3];exact hbad (.inr (.inr c3)) _ E3
 have hact:ZR m pool seed=Zm m (Ph pool seed) pl.size:=by unfold ZR;rw[hq];simp only[if_neg (show ¬(seed<0\/pl.pgs<=seed\/8<=seed)by omega)]
 have c4:((if 8<pl.pgs then 8 else pl.pgs)<=seed)=False:=by simp only[eq_iff_iff,iff_false];split<;>omega
 simp only[jN,jB,jE,jF,reduceCtorEq,hq,LB3,LC3,c1,c4]
 rw[zL [0,2,3,4,5,6,7,9,10,13,1,8,11,12] 1532168142376787500481165071645569925414942425950978048 (by kernel_rfl)]
 repeat ((with_reducible refine jX ?_;simp only[vO];try simp only[vP,jB,jD,jH,jI]);simp only[jN,jB,jE,jF,jG,zG,LA3,LB3,LC3,i1,i2,i3])
 refine eJ.mono ?_
 rintro _ h4 ⟨q,rfl,e4⟩
 have E4:=E3.step e4
 have A4:=(e4.2 _ la3).trans A3
 have B4:=(e4.2 _ lb3).trans B3
 have C4:=(e4.2 _ lc3).trans C3
 rw[hG]at C4
 have la4:=jR A4
 have LA4:=xI A4
 have LB4:=xI B4
 have LC4:=xI C4
 repeat ((with_reducible refine jX ?_;simp only[vO];try simp only[vP,jB,jD,jH,jI]);simp only[jN,jB,jE,jF,jG,zG,LA4,LB4,LC4,i1,i2,i3])
 refine dW ?_
 repeat ((with_reducible refine jX ?_;simp only[vO];try simp only[vP,jB,jD,jH,jI]);simp only[jN,jB,jE,jF,jG,zG,LA4,LC4,i1,i2,i3])
 refine(nJ _ _ (hm.ext E4 (jM _)) hok hlo).mono ?_
 rintro v h5 ⟨e5,hv⟩
 have E5:=E4.step e5
 have A5:=(e5.2 _ la4).trans A4
 have la5:=jR A5
 have v1:=hv.isSl
 have v2:=hv.lenD
 rw[show UB (IntKind.u32.wrap seed) (IntKind.u32.wrap pool)=Ph pool seed from rfl,<-hact]at hv v2
 repeat ((with_reducible refine jX ?_;simp only[vO];try simp only[vP,jB]);simp only[jN,jB,jE,zG,v1,v2])
 have hlen:=rV (m:=m) (pool:=pool) (seed:=seed)
 refine kO (ZR m pool seed).length (fun i t h=>∃o,qE qB (fun _=>False) h5.n h o 3 ((ZR m pool seed).take i)/\zM h5.n h5 h/\t.n=58/\t.get 2= .ptr H.n 0/\t.get 7=o/\t.get 43=v/\t.get 44= .lit (.int .i64 (ZR m pool seed).length)/\t.get 45= .lit (.int .i64 i)) ?_ ?_ _ _ ?_
 ·rintro i t h hlt hc ⟨o,ho,he,ga⟩ ih;have E6:=E5.step he;have A6:=(he.2 _ la5).trans A5;have LA6:=xI A6;have hws:=xG hlt (by omega);have hld:=(hv.ext he (jM _)).int (T:=zH Tryz.prog kR) (e:=3) (by kernel_rfl) (by kernel_rfl) hlt;have hel:=Ji (0:Int) hlt;have hab:=gN ((ZR m pool seed).getD i 0) (zR hel);have I1:=hv.i64 i hlt;simp only[jN,jB,jE,jF,reduceCtorEq,jG,ga,hc,hlt,hld,LA6,v1,v2];refine(j45 _ (hm.ext E6 (jM _)) hlo).mono ?_;rintro _ h7 ⟨e7,rfl⟩;have he7:=he.step e7;have ho7:=ho.ext e7 (jM _);simp only[jN,jB,jE,jF,reduceCtorEq,jG,ga,hab];obtain⟨h8,hh8⟩:∃h8,h8=h7.push (.cells [.lit (.int .i64 ((ZR m pool seed).getD i 0))] 3):=⟨_,rfl⟩;have e8:=ZS hh8;have A8:h8.at h7.n=some (.cells [.lit (.int .i64 ((ZR m pool seed).getD i 0))] 3):=hh8▸zI h7 _;have q7:=he7.1;have q8:=e8.1;rw[<-hh8];have htl:((ZR m pool seed).take i).length=i:=by rw[zV];omega
  refine qM ((ho7.ext e8 (jM _)).snoc (by kernel_rfl) (by kernel_rfl) (by kernel_rfl) (zv:= .lit (.int .i64 0)) (by kernel_rfl) (by':=8) (by kernel_rfl) rfl (by decide) (by decide) A8 (y:=(ZR m pool seed).getD i 0) ⟨rfl,I1⟩ (by omega) (by omega) (by omega)) ?_;rintro s9 h9 ⟨ho9,e9,k9⟩;simp only[jN,jB,jF,ga,hws];refine ih _ _ ⟨s9,?_,(he7.step e8).trans e9,?_⟩
  ·rw[qV,hel];exact ho9
  ·simp only[jN,jE,jF,ga]
 ·rintro t h hc ⟨o,ho,he,ga⟩;have t9:=ho.one;rw[xC]at ho;simp only[jN,jB,jE,jF,reduceCtorEq,ga,hc];refine⟨E5.step he,?_⟩;exact ho.toSl (fun _ hf=>hf.elim) (fun b hb=>by have:=E5.1;omega)
 ·simp only[jN,jB,jE,jF];exact⟨_,qE.nil,zM.refl _ _,rfl,rfl⟩
variable{xs ys:List UInt8}
theorem LM{x:AV}(ho:Jo n0 H v xs)(hx:zJ xZ F H x ys)(hl:xs.length+ys.length<=140737488355328)(hn0:n0<=H.n):
 ∃s' h',vZ (zH Tryz.prog kR) H 37 37 v x=some (s',h')/\Jo n0 h' s' (xs++ys)/\zM n0 H h':=by
 obtain⟨L,h1,h2,hc,h3⟩:=hx.out
 have hM:YP xZ (fun b=>False/\qR v b) H L ys:=⟨h3.1,fun i c x h1 h2=>h3.2 i c x h1 h2⟩
 obtain⟨s',h',a1,a2,a3,a4⟩:=qE.append ho (T:=zH Tryz.prog kR) (t:=37) (tx:=37) (by kernel_rfl) (by kernel_rfl) (by kernel_rfl) (zv:= .lit (.int .u8 0)) (by kernel_rfl) (by':=1) (by kernel_rfl) rfl (by decide) (by decide) h1.src h1.len hM (by omega) (by omega) hn0
 exact⟨s',h',a1,a2,a3⟩
section
open Go Go.RowKit Go.ChangeShapes Go.WideShapes Go.ChangeAt
def j3K(x:Yn):Prop:=Wn x.pool/\pG x.bucket
def cU(x:Xt):Prop:=Sm 88 x.changes/\∀y∈x.changes,j3K y
section
variable {H:Type} {enc:TypeId×Value->H} {W:World}
end
end
variable{W:World}
section
open Go Go.RowKit Go.ChangeShapes Go.WideShapes Go.ChangeAt
theorem Og{ρ:Nat->Value}{w:World}:∀{cs:List Value},(∀c∈cs,c.oneCell'=true)->qF ρ (j3B w) w (cs.map (Ch w)) cs
 |[],_=>rels_nil
 |c::r,h=>rels_cons (Ir (h c (by simp))) (Og fun x hx=>h x (by simp[hx]))
theorem law_join{f:FuncId}{vs:List Value}{avs:List AV}(ha:qF (fun _=>default) (j3B W) W avs vs)(hw:vR f avs (Et W) fun v h'=>v= .lit (.bool true)):
 Calls Tryz.prog f vs.toArray W fun e w'=>e= .returned (.bool true)/\Below W.heap.size W w':=by
 obtain⟨n,o,h1,hex,v,cm,rfl,rfl⟩:=hw
 refine(NF AF j2p Vk (j2Z _ _) (j1s W) (j1t W) hex ha).mono fun e w' hy=> ?_
 obtain⟨v',μ',rfl,hb,hv⟩:=hy
 exact⟨by rw[KE hv],hb⟩
theorem open_agg{ρ:Nat->Value}{P:Program}{H:Type}{enc:TypeId×Value->H}{base:Nat}{t:TypeId}{v0:Value}{d0:DataW H}{p0:List MemPlace}{d:TypeDesc}{α:Type}{R:Zl α}{B:α->Prop}(hO:JR enc P W t R B)(hu:P.underlying t=some d)(hd:BJ d=true)
 (k0:Value.okWide P W .any base t v0) (h0:DataW.Trod enc P W 0 (fun _=>true) true t v0 d0 p0) (hw:∀n∈d0.weights P t,n<=reachBytes):
 ∃(cs:List AV) (y:α),rel ρ (j3B W) W (.agg cs) v0/\R.is (j5B W) (Et W) cs y/\B y:=by
 obtain⟨cs,rfl,h1,h2⟩:=aT hu hd k0
 obtain⟨fuel,hf⟩:=h0
 obtain⟨h3,h4,y,h5,h6⟩:=hO.2 fuel cs.toList _ hf (List.all_eq_true.2 fun n hn=>(by simpa using hw n hn))
 refine⟨_,y,?_,h5,h6.1⟩
 unfold rel
 exact⟨cs.toList,by simp,Og h4⟩
end
section
open Go Go.RowKit Go.ChangeShapes Go.WideShapes Go.ChangeAt
end
theorem Ak{l:List Xt}{x:Xt}(hx:l[i]? =some x):XM (l.take (i+1))=XM (l.take i)+x.changes.length:=by unfold XM;rw[qV,hx,QD,List.sum_append];rfl
theorem GK{α:Type}{f:α->List UInt8}{k:Nat}:∀{l:List α},(∀x∈l,(f x).length<=k)->(l.flatMap f).length<=l.length * k
 |[],_=>by simp
 |x::r,h=>by have h1:=GK (l:=r) fun y hy=>h y (by simp[hy]);have h2:=h x (by simp);rw[QH,jQ,xA,YR];omega
theorem j4p{k:Nat}(h:QU m k)(hk:k<=2000000):(GD m).length<=140737488355328:=by
 rw[BD];have h1:=GK (f:=KZ) (k:=34) (l:=m.osds) fun x _=>by rw[IK];omega
 have h2:=GK (f:=QQ) (k:=32) (l:=m.pools) fun x _=>by rw[FL];omega
 have h3:=GK (f:=UA) (k:=17000000) (l:=m.buckets) fun x hx=>by have:=h.ni x hx;rw[II];omega
 have:=h.no;have:=h.np;have:=h.nb;have h4:m.buckets.length * 17000000<=2000000 * 17000000:=qW _ (by omega);have h5:m.pools.length * 32<=2000000 * 32:=qW _ (by omega);omega
theorem zJ.loadExt{α:Type}{R:Zl α}{xs:List α}(hs:zJ R F h v xs){x:α}(hx:xs[i]? =some x)(he:zM h.n h h')(e:TypeId)(off:Nat):Jr T h' e (slB v) off=Jr T h e (slB v) off:=by
 have hlt:slB v<h.n:=by
  obtain⟨L,r1,_,_,r3⟩:=hs.out;rcases r1.2 with⟨hh,h0⟩|⟨b,off,cap,row,hh,h1,h2⟩
  ·have h4:=r3.1;rw[h0]at h4;have:=(List.getElem?_eq_some_iff.1 hx).1;simp at h4;omega
  ·rw[hh];exact Cq h1
 unfold Jr Zj;rw[he.2 _ hlt]
structure MK where
 k:Int
 s:ByteArray
 d:List UInt8
 e:Int
 n:Int
structure Nv where
 kind:Int
 ti:Int
 tk:Int
 ep:Int
 pp:Int
 ps:Int
 client:Int
 num:Int
 ok:Int
 os:ByteArray
 od:List UInt8
 oe:Int
 on:Int
 k:Int
 i:Int
 boot:Int
def Ri(x:Nv)(vd:AV):List AV:=
 [.lit (.int .i64 x.kind),.lit (.int .i64 x.k),.lit (.int .i64 x.i),.lit (.int .i64 x.tk),.lit (.int .i64 x.ti),.lit (.int .i64 x.boot),.lit (.int .i64 x.ep),.lit (.int .i64 x.pp),.lit (.int .i64 x.ps),.lit (.int .i64 x.client),.lit (.int .i64 x.num),.lit (.int .i64 0),.lit (.slice none 0 0),.lit (.slice none 0 0),.lit (.slice none 0 0),
  .lit (.int .i64 0),.lit (.int .i64 0),.lit (.int .i64 0),.lit (.int .i64 0),.lit (.int .i64 0),.lit (.int .i64 0),.lit (.int .i64 0),.lit (.int .i64 0),.lit (.int .i64 0),.lit (.slice none 0 0),.lit (.slice none 0 0),.lit (.slice none 0 0),.lit (.int .i64 0),.lit (.int .i64 0),.lit (.bool false),.lit (.int .i64 0),.lit (.string ⟨#[]⟩),.lit (.int .i64 0),.lit (.int .i64 0),.lit (.string ⟨#[]⟩),.lit (.int .i64 0),.lit (.int .i64 0),.lit (.slice none 0 0),
  .lit (.int .i64 x.ok),.lit (.string x.os),vd,.lit (.int .i64 x.oe),.lit (.int .i64 x.on),.lit (.slice none 0 0),.lit (.slice none 0 0),.lit (.int .i64 0)]
def Hm:Zl Nv where
 z:=46
 is F h c x:=∃vd,c=Ri x vd/\zJ xZ F h vd x.od
 len:=fun⟨_,h,_⟩=>by subst h;rfl
 one:=fun⟨vd,h,h1⟩ v hv=>by
  subst h;unfold Ri at hv;simp only[qL,Bp,or_false]at hv;rcases hv with rfl|rfl|rfl|rfl|rfl|rfl|rfl|rfl|rfl|rfl|rfl|rfl|rfl|rfl|rfl|rfl|rfl|rfl|rfl|rfl|rfl|rfl|rfl|rfl|rfl|rfl|rfl|rfl|rfl|rfl|rfl|rfl|rfl|rfl|rfl|rfl|rfl|rfl|rfl|rfl|rfl|rfl|rfl|rfl|rfl|rfl
  all_goals first|exact h1.one|rfl
 lift:=fun⟨vd,h,h1⟩ hl=>⟨vd,h,h1.lift hl⟩
theorem j3e:Hm.z=46:=rfl
theorem Br{c:List AV}{x:Nv}:Hm.is F h c x↔∃vd,c=Ri x vd/\zJ xZ F h vd x.od:=Iff.rfl
abbrev Db(n0:Nat)(G:Nat->Prop)(h:AH)(v:AV)(xs:List Nv):Prop:=qE Hm G n0 h v 58 xs
def Nh(c:vM)(ep:Int)(k:Nat):Nv:=⟨14,k,1,ep,0,0,0,0,0,⟨#[]⟩,[],0,0,c.k,c.i,c.boot⟩
def XW(c:vM)(ep:Int)(n:Nat):List Nv:=(List.range n).map (Nh c ep)
theorem Mw(c:vM)(ep:Int)(n:Nat):XW c ep (n+1)=XW c ep n++[Nh c ep n]:=by unfold XW;rw[List.range_succ,QD];rfl
theorem Kh(c:vM)(ep:Int)(n:Nat):(XW c ep n).length=n:=by unfold XW;simp
structure VH where
 list:Bool
 pool:Int
 pg:MF
 op:MK
 tries:Int
structure Rj where
 e:Int
 s:ByteArray
 v1:Int
 v2:Int
 d:List UInt8
 l:List ByteArray
structure Zg where
 m:zU
 num:Int
 now:Option VH
 ans:Option Rj
def LR(m:zU)(pool:Int)(s:ByteArray):Int×Int×Int:=
 match JG m pool with
 |none=>(0,0,2)
 |some p=>if Ke s.data.toList=true then(pool,(Dj (VT s.data.toList).toNat p.pgs.toNat:Nat),0)else(0,0,36)
def Dh(m:zU)(x:VH):Option (Int×Int):=if x.list=true then some (x.pg.pool,x.pg.seed)else if(LR m x.pool x.op.s).2.2=0 then some ((LR m x.pool x.op.s).1,(LR m x.pool x.op.s).2.1)else none
def bM(c:vM)(ep num:Int)(pp ps k:Int)(o:MK):Nv:=⟨30,k,2,ep,pp,ps,c.boot,num,o.k,o.s,o.d,o.e,o.n,c.k,c.i,c.boot⟩
def Zc(c:vM)(m:zU)(num:Int)(x:VH):List Nv:=
 match Dh m x with
 |none=>[]
 |some (pp,ps)=>match ZR m pp ps with
  |[]=>[]
  |k::_=>[bM c m.epoch num pp ps k x.op]
variable{s:ByteArray}
section
def bytesOf(h:AH):AV->Option (List UInt8)
 | .lit (.slice none 0 0)=>some []
 | .sl b off len _=>JY h b off len
 |_=>none
theorem CY(xs:List UInt8)(k:Nat):(bL xs).take k=bL (xs.take k):=by unfold bL;rw[List.map_take]
theorem OY(xs:List UInt8)(k:Nat):(bL xs).drop k=bL (xs.drop k):=by unfold bL;rw[List.map_drop]
theorem Li(xs:List UInt8):(bL xs).length=xs.length:=by unfold bL;simp
theorem gT(xs ys:List UInt8):bL (xs++ys)=bL xs++bL ys:=by unfold bL;simp
theorem YP.bL{F:Nat->Prop}{h:AH}:∀{L:List (List AV)} {xs:List UInt8},YP xZ F h L xs->L.flatten=bL xs
 |[],xs,h1=>by obtain rfl:xs=[]:=zO h1.1.symm;rfl
 |a::r,[],h1=>by have:=h1.1;simp at this
 |a::r,x::xs,h1=>by have i1:=YP.bL (F:=F) (h:=h) (L:=r) (xs:=xs) ⟨by have:=h1.1;simpa using this,fun i c y a b=>h1.2 (i+1) c y (by simpa using a) (by simpa using b)⟩;obtain rfl:=h1.2 0 a x rfl rfl;rw[vE,i1];rfl
theorem j4o{F:Nat->Prop}{h:AH}(xs:List UInt8):YP xZ F h (xs.map fun x=>[AV.lit (.int .u8 x.toNat)]) xs:=by refine⟨by simp,fun i c x h1 h2=> ?_⟩;rw[vF,h2]at h1;cases h1;rfl
theorem j1A(xs:List UInt8):(xs.map fun x=>[AV.lit (.int .u8 x.toNat)]).flatten=bL xs:=by
 induction xs with
 |nil=>rfl
 |cons a r ih=>rw[kY,vE,ih];rfl
theorem zJ.bytesRow{F:Nat->Prop}{h:AH}(hs:zJ xZ F h v xs):(v= .lit (.slice none 0 0)/\xs=[])\/∃b off cap row,v= .sl b off xs.length cap/\F b/\Zj h b=some row/\cut row off xs.length=some (bL xs)/\KN 1 v:=by
 obtain⟨L,h1,h2,hc,h3⟩:=hs.out;have e0:L.length=xs.length:=h3.1;rcases h1.2 with⟨rfl,rfl⟩|⟨b,off,cap,row,rfl,h4,h5⟩
 ·exact .inl ⟨rfl,zO e0.symm⟩
 ·refine .inr ⟨b,off,cap,row,by rw[e0],h2 _ _ _ _ rfl,h4,?_,hc⟩;rw[show L.length * xZ.z=xs.length from by show L.length * 1=_;omega]at h5;rw[h5,h3.bL]
theorem zJ.mkBytes{F:Nat->Prop}{h:AH}{b off:Nat}{row:List AV}(hF:F b)(hr:Zj h b=some row)(hc:cut row off xs.length=some (bL xs))(hk:KN 1 (.sl b off xs.length cap)):zJ xZ F h (.sl b off xs.length cap) xs:=by have hE:=j4o (F:=F) (h:=h) xs;refine .mk (L:=xs.map fun x=>[AV.lit (.int .u8 x.toNat)]) ⟨by intro c hc;rw[XJ]at hc;obtain⟨x,_,rfl⟩:=hc;rfl,.inr ⟨b,off,cap,row,by simp,hr,?_⟩⟩ (fun b' off' n' cap' e=>by cases e;exact hF) hk hE;rw[j1A];rw[show(xs.map fun x=>[AV.lit (.int .u8 x.toNat)]).length * xZ.z=xs.length from by rw[yH];show xs.length * 1=_;omega];exact hc
theorem zJ.bytesOf{F:Nat->Prop}{h:AH}(hs:zJ xZ F h v xs):bytesOf h v=some xs:=by
 rcases hs.bytesRow with⟨rfl,rfl⟩|⟨b,off,cap,row,rfl,-,h4,h5,-⟩
 ·rfl
 ·show JY h b off xs.length=_;unfold JY;rw[h4];show(match cut row off xs.length with|some cs=>VJ cs|none=>none)=_;rw[h5];exact Aj xs
theorem zJ.byteAt{T:TT}{F:Nat->Prop}{h:AH}{e:TypeId}(hs:zJ xZ F h v xs)(hA:XO T e=some false)(hS:vQ T e=some 1){i:Nat}(hi:i<xs.length):
 Jr T h e (slB v) (slO v+i)=some (.lit (.int .u8 ((xs[i]).toNat:Int))):=by
 obtain⟨c,hc,h2⟩:=hs.get (T:=T) (jO hi)
 obtain rfl:c=[.lit (.int .u8 ((xs[i]).toNat:Int))]:=hc
 have:=h2 e 1 0 hS (by omega) (by show 0+1<=1;omega)
 simp only[xZ,KP,JH]at this
 rw[this]
 simp[YU,hA,hS]
section
variable {P:Program} {T:TT} {t:TM} {h:AH} {d:Option Tmp} {ty:TypeId} {ps:String} {af:Array Edge} {g:Option (Nat×Bool)}
def sO(h:AH)(r:AR):Option (List UInt8)->AR
 |some bs=>some (.val (.lit (.string ⟨bs.toArray⟩)),h)
 |none=>r
theorem eG{i:Nat}(hv:t.get i= .lit (.slice none 0 0)):yU Tryz.prog ⟨d,.convert 37 9 (.tmp i),ty,ps,af,g⟩ t=some (.val (.lit (.string ⟨#[]⟩))):=by
 have e0:qI t (.tmp i)= .slice none 0 0:=by simp[qI,kX,hv,ZT]
 unfold yU;rw[if_pos (by simp[Zs,Op.operands,JK,kX,hv,ZT])];show Na (yS Tryz.prog (do let x <-convert 37 9 (qI t (.tmp i));pure (Next.value x)))=_;rw[e0];kernel_rfl
theorem Wz{i:Nat}:AO Tryz.prog (zH Tryz.prog kR) ⟨d,.convert 37 9 (.tmp i),ty,ps,af,g⟩ t h 37 9 (.tmp i)=sO h (j3k Tryz.prog (zH Tryz.prog kR) ⟨d,.convert 37 9 (.tmp i),ty,ps,af,g⟩ t h 37 9 (.tmp i)) (bytesOf h (t.get i)):=by
 unfold sO;split
 ·rename_i bs hb;unfold bytesOf at hb;split at hb
  ·rename_i hv;obtain rfl:=jS hb;have hl:=eG (d:=d) (ty:=ty) (ps:=ps) (af:=af) (g:=g) hv;unfold AO JS;rw[kX,hv];unfold yR;simp only[hl]
  ·rename_i b off len cap hv;rw[Bv,hv];unfold j1G;simp only[hb]
  ·cases hb
 ·rfl
theorem HJ{e:TypeId}:yS P (binOp .eql e (.string s) (.string s))=some (.ok (.bool true)):=by simp[binOp,Op.stringOp];rfl
def j4Q(h:AH)(r:AR):AV->AR
 | .lit (.int .i64 n)=>if 0<=n/\n<=140737488355328 then some (.val (.sl h.n 0 n.toNat (.kn n.toNat)),h.push (.cells (bL (List.replicate n.toNat 0)) 5))else r
 |_=>r
def j5P(T:TT)(t:TM)(h:AH)(i:Nat):AR:=Zf T t h 37 (.tmp i) (.tmp i)
theorem Tv(x:AV):∀n,Mf [x] n=List.replicate n x
 |0=>rfl
 |n+1=>by have:=Tv x n;simp[Mf,this,List.replicate_succ]
theorem j42{i:Nat}:Js P (zH Tryz.prog kR) ⟨d,.makeSlice 37 (.tmp i) (.tmp i),ty,ps,af,g⟩ t h=j4Q h (j5P (zH Tryz.prog kR) t h i) (t.get i):=by
 show Zf (zH Tryz.prog kR) t h 37 (.tmp i) (.tmp i)=_;unfold j4Q;split
 ·rename_i n hn;split
  ·rename_i hc;have k1:und (zH Tryz.prog kR) 37=some (.slice 5):=by kernel_rfl
   have hz:vQ (zH Tryz.prog kR) 5=some 1:=by kernel_rfl
   have hzv:Jm (zH Tryz.prog kR) 5=some (.lit (.int .u8 0)):=by kernel_rfl
   have hb:VK (zH Tryz.prog kR) 5=some 1:=by kernel_rfl
   simp only[vQ,Jm,VK,jT]at hz hzv hb;obtain⟨i1,hi,e1⟩:=hz;obtain⟨i2,hi2,e2⟩:=hzv;obtain⟨i3,hi3,e3⟩:=hb;rw[hi]at hi2 hi3;obtain rfl:=jS hi2;obtain rfl:=jS hi3;unfold Zf;rw[k1,kX,hn];simp only[Kp,Gd,if_pos hc.1,hi,e1,e2,e3];rw[if_pos (by simp only[jW,decide_eq_true_eq];exact⟨⟨⟨jM _,by omega⟩,by omega⟩,rfl⟩)];rw[show(AV.lit (Value.int .u8 0)).cells=[.lit (.int .u8 0)]from rfl,Tv];unfold bL;rw[List.map_replicate];rfl
  ·rfl
 ·rfl
end
theorem PK{i:Nat}(x:UInt8)(hi:i<xs.length):put (bL xs) i [.lit (.int .u8 x.toNat)]=some (bL (xs.set i x)):=by unfold put;rw[if_pos (by rw[Li];simp;omega)];congr 1;rw[Qv,if_pos hi,gT,CY,OY];simp[bL]
theorem GO{b o n:Nat}:isSl (.sl b o n c)=true:=rfl
theorem GP{b o n:Nat}:lenD (.sl b o n c)=n:=rfl
theorem Fk{b o n:Nat}:slB (.sl b o n c)=b:=rfl
theorem Fl{b o n:Nat}:slO (.sl b o n c)=o:=rfl
theorem Mv{z l r b o n:Nat}:Gj z l r (.sl b o n c)= .sl b (o+l * z) (r-l) (UJ l c):=rfl
theorem Fo{l k:Nat}:UJ l (.kn k)= .kn (k-l):=rfl
def Vw(ys:List UInt8):List UInt8:=165::(ys++[90])
theorem Qr(ys:List UInt8):(Vw ys).length=ys.length+2:=by simp[Vw]
def Ga(ys:List UInt8)(i:Nat):List UInt8:=165::(ys.take i++(List.replicate (ys.length-i) 0++[90]))
theorem lJ(ys:List UInt8){i:Nat}(hi:i<=ys.length):(Ga ys i).length=ys.length+2:=by simp[Ga];omega
theorem aJ(ys:List UInt8){i:Nat}(hi:i<ys.length):(Ga ys i).set (i+1) ys[i]=Ga ys (i+1):=by
 unfold Ga;rw[List.set_cons_succ];congr 1;have hl:(ys.take i).length=i:=by rw[zV];omega
 rw[fY _ _ (by omega),hl,Ju,show ys.length-i=(ys.length-(i+1))+1 by omega,List.replicate_succ,Ro,List.set_cons_zero,List.take_succ_eq_append_getElem hi,zP];rfl
theorem aK(ys:List UInt8):(((List.replicate (ys.length+2) (0:UInt8)).set 0 165).set (ys.length+1) 90)=Ga ys 0:=by unfold Ga;rw[List.replicate_succ,List.set_cons_zero,List.set_cons_succ];congr 1;rw[List.replicate_succ',fY _ _ (by simp)];simp
theorem lI(ys:List UInt8):Ga ys ys.length=Vw ys:=by simp[Ga,Vw]
theorem j4G{H:AH}{F:Nat->Prop}(hv:zJ xZ F H v ys)(hl:ys.length<=140737488351232):
 vR 22 [v] H fun r h'=>zM H.n H h'/\h'.at H.n=some (.cells (bL (Vw ys)) 5)/\r= .tup [.sl H.n 0 (ys.length+2) (.kn (ys.length+2)),.sl H.n 1 ys.length (.kn (ys.length+1))]:=by
 refine zW Tryz.func22 rfl rfl ?_
 have v1:=hv.isSl
 have v2:=hv.lenD
 have hw2:IntKind.i64.wrap ((ys.length:Int)+2)=((ys.length+2:Nat):Int):=(vW (by omega) (by omega)).trans (by omega)
 have hw1:IntKind.i64.wrap ((ys.length:Int)+1)=((ys.length+1:Nat):Int):=(vW (by omega) (by omega)).trans (by omega)
 have c0:((0:Int)<=((ys.length+2:Nat):Int))=True:=by simp only[eq_iff_iff,iff_true];omega
 have c1:(((ys.length+2:Nat):Int)<=140737488355328)=True:=by simp only[eq_iff_iff,iff_true];omega
 simp only[jN,jB,jC,jE,jF,reduceCtorEq,Tryz.ntmps22,v1,v2,hw2,j42,j4Q,c0,c1]
 obtain⟨h1,hh1,E1,A1⟩:=xX H (.cells (bL (List.replicate (ys.length+2) 0)) 5)
 have l1:=jR A1
 rw[<-hh1]
 have p1:=PK (xs:=List.replicate (ys.length+2) 0) (i:=0) 165 (by simp)
 have p2:=PK (xs:=(List.replicate (ys.length+2) 0).set 0 165) (i:=ys.length+1) 90 (by simp)
 rw[aK]at p2
 rw[show((165:UInt8).toNat:Int)=165 from rfl]at p1
 rw[show((90:UInt8).toNat:Int)=90 from rfl]at p2
 have i1:(0<ys.length+2)=True:=by simp
 have i2:(ys.length+1<ys.length+2)=True:=by simp
 simp only[Jy,jB,jE,jF,reduceCtorEq,jJ,hw1,i1,i2,A1,l1,p1,p2,GO,GP,Fk,Fl]
 obtain⟨h2,hh2⟩:∃h2,h2=(h1.put H.n (.cells (bL ((List.replicate (ys.length+2) 0).set 0 165)) 5)).put H.n (.cells (bL (Ga ys 0)) 5):=⟨_,rfl⟩
 have E2:zM H.n H h2:=hh2▸(E1.put _ (jM _)).put _ (jM _)
 have A2:h2.at H.n=some (.cells (bL (Ga ys 0)) 5):=hh2▸Iw (by rw[kZ];exact l1)
 rw[<-hh2]
 clear hh2
 simp only[jN,jB,jE,v1,v2]
 refine kO ys.length (fun i t h=>(zM H.n H h/\h.at H.n=some (.cells (bL (Ga ys i)) 5))/\t.n=37/\t.get 0=v/\t.get 4= .sl H.n 0 (ys.length+2) (.kn (ys.length+2))/\t.get 18=v/\t.get 19= .lit (.int .i64 ys.length)/\t.get 20= .lit (.int .i64 i)) ?_ ?_ _ _ ?_
 ·rintro i t h hlt hc ⟨⟨E,A⟩,ga⟩ ih;have hld:=(hv.ext E (jM _)).byteAt (T:=zH Tryz.prog kR) (e:=5) (by kernel_rfl) (by kernel_rfl) hlt;have hw:=xG hlt (by omega);have l:=jR A;have p3:=PK (xs:=Ga ys i) (i:=i+1) ys[i] (by rw[lJ ys (by omega)];omega);rw[aJ ys hlt]at p3;have i3:(i+1<ys.length+2)=True:=by simp only[eq_iff_iff,iff_true];omega
  simp only[Jy,qT,jB,jE,jF,reduceCtorEq,ga,v1,v2,hlt,hc,hld,hw,i3,A,p3,GO,GP,Fk,Fl];refine ih _ _ ⟨⟨E.put _ (jM _),Iw l⟩,?_⟩;simp only[jN,jE,jF,reduceCtorEq,ga]
 ·rintro t h hc ⟨⟨E,A⟩,ga⟩;rw[lI]at A;simp only[jN,jB,jE,jF,reduceCtorEq,ga,v1,v2,hc];have j1:((1:Int)<=((ys.length+1:Nat):Int))=True:=by simp only[eq_iff_iff,iff_true];omega
  have j2:(((ys.length+1:Nat):Int)<=((ys.length+2:Nat):Int))=True:=by simp only[eq_iff_iff,iff_true];omega
  have hcap:KN 1 (.sl H.n 0 (ys.length+2) (.kn (ys.length+2))):=fun b off n cap e=>by cases e;exact jM _
  rw[zL [0,1,2,3,4,5,6,7] 9151628954749108224 (by kernel_rfl)];repeat ((with_reducible refine jX ?_;simp only[vO];try simp only[vP,jB]);simp only[jN,jE,jF,reduceCtorEq,jJ,jL,zG,ga,v1,v2,hw1,hcap,j1,j2,GO,GP,Mv,Fo])
  refine⟨E,A,?_⟩;rw[show ys.length+1-1=ys.length by omega,show ys.length+2-1=ys.length+1 by omega]
 ·simp only[jN,jB,jE,jF,reduceCtorEq];exact⟨⟨E2,A2⟩,rfl⟩
theorem j4C{H:AH}{W:Nat}{F:Nat->Prop}(hW:H.at W=some (.cells (bL (Vw ys)) 5))(hv:zJ xZ F H v ys)(hl:ys.length<=140737488351232):
 vR 24 [.sl W 0 (ys.length+2) (.kn (ys.length+2)),v] H fun r h'=>h'=H/\r= .lit (.bool true):=by
 refine zW Tryz.func24 rfl rfl ?_
 have v1:=hv.isSl
 have v2:=hv.lenD
 have b2:=hv.bytesOf
 have hw2:IntKind.i64.wrap ((ys.length:Int)+2)=((ys.length+2:Nat):Int):=(vW (by omega) (by omega)).trans (by omega)
 have hw1:IntKind.i64.wrap ((ys.length:Int)+1)=((ys.length+1:Nat):Int):=(vW (by omega) (by omega)).trans (by omega)
 have hcap:KN 1 (.sl W 0 (ys.length+2) (.kn (ys.length+2))):=fun b off n cap e=>by cases e;exact jM _
 have hs:zJ xZ (fun _=>True) H (.sl W 0 (ys.length+2) (.kn (ys.length+2))) (Vw ys):=by have:=zJ.mkBytes (F:=fun _=>True) (h:=H) (xs:=Vw ys) (b:=W) (off:=0) (cap:= .kn (ys.length+2)) (row:=bL (Vw ys)) trivial (by unfold Zj;rw[hW]) (by unfold cut;rw[if_pos (by rw[Li];omega),xK,CY,xC]) (fun b off n cap e=>by cases e;show _<=_;rw[Qr];exact jM _);rw[Qr]at this;exact this
 have l0:=hs.byteAt (T:=zH Tryz.prog kR) (e:=5) (by kernel_rfl) (by kernel_rfl) (i:=0) (by rw[Qr];omega)
 have l9:=hs.byteAt (T:=zH Tryz.prog kR) (e:=5) (by kernel_rfl) (by kernel_rfl) (i:=ys.length+1) (by rw[Qr];omega)
 rw[show((Vw ys)[0]'(by rw[Qr];omega)).toNat=165 from rfl]at l0
 rw[show((Vw ys)[ys.length+1]'(by rw[Qr];omega)).toNat=90 by
  have:(Vw ys)[ys.length+1]'(by rw[Qr];omega)=90:=by unfold Vw;rw[List.getElem_cons_succ,List.getElem_append_right (by omega)];simp
  rw[this];rfl]at l9
 rw[show((165:Nat):Int)=165 from rfl]at l0
 rw[show((90:Nat):Int)=90 from rfl]at l9
 simp only[Fk,Fl,yG]at l0 l9
 have b1:bytesOf H (.sl W 1 ys.length (.kn (ys.length+1)))=some ys:=by
  show JY H W 1 ys.length=_;unfold JY Zj;rw[hW];show(match cut (bL (Vw ys)) 1 ys.length with|some cs=>VJ cs|none=>none)=_;have:cut (bL (Vw ys)) 1 ys.length=some (bL ys):=by unfold cut;rw[if_pos (by rw[Li,Qr];omega),OY,CY];congr 2;show(ys++[90]).take ys.length=ys;exact Eo rfl
  rw[this];exact Aj ys
 have j0:(0<ys.length+2)=True:=by simp
 have j3:(ys.length+1<ys.length+2)=True:=by simp
 have j1:((1:Int)<=((ys.length+1:Nat):Int))=True:=by simp only[eq_iff_iff,iff_true];omega
 have j2:(((ys.length+1:Nat):Int)<=((ys.length+2:Nat):Int))=True:=by simp only[eq_iff_iff,iff_true];omega
 have m1:ys.length+1-1=ys.length:=by omega
 have m2:ys.length+2-1=ys.length+1:=by omega
 have b1':JY H W 1 ys.length=some ys:=b1
 rcases hv.bytesRow with⟨rfl,-⟩|⟨b,off,cap,row,rfl,-⟩
 ·simp only[jN,jB,jC,Tryz.ntmps24];rw[zL [0,1,2,3,4,5,6,7,8,9,10,11,12,13,14,15,16,17,18,19,20,21,22,23,24,25,26,27,28,29,30,31,32] 3316158517607899679322832364493539038177872038767581870018213529943937095721815070382723672233758677204053503949569435208963237486165269667908292222187668737702770531331608177760204158528317791446644047949605569471554244120325392070395037950579657876031929078980330764349370539947397177499358909260510378014764161982833371381760 (by kernel_rfl)];repeat ((with_reducible refine jX ?_;simp only[vO];try simp only[vP,jB,jD,jH,jI]);simp only[jN,jB,jE,jF,reduceCtorEq,jJ,jL,zG,v1,v2,hw1,hw2,hcap,j0,j1,j2,j3,l0,l9,GO,GP,Fk,Fl,Mv,Fo,m1,m2,Wz,b1,b2,sO,HJ,b1',eG])
 ·have b2':JY H b off ys.length=some ys:=b2;simp only[jN,jB,jC,Tryz.ntmps24];rw[zL [0,1,2,3,4,5,6,7,8,9,10,11,12,13,14,15,16,17,18,19,20,21,22,23,24,25,26,27,28,29,30,31,32] 3316158517607899679322832364493539038177872038767581870018213529943937095721815070382723672233758677204053503949569435208963237486165269667908292222187668737702770531331608177760204158528317791446644047949605569471554244120325392070395037950579657876031929078980330764349370539947397177499358909260510378014764161982833371381760 (by kernel_rfl)];repeat ((with_reducible refine jX ?_;simp only[vO];try simp only[vP,jB,jD,jH,jI]);simp only[jN,jB,jE,jF,reduceCtorEq,jJ,jL,zG,v1,v2,hw1,hw2,hcap,j0,j1,j2,j3,l0,l9,GO,GP,Fk,Fl,Mv,Fo,m1,m2,Wz,b1,b2,sO,HJ,b1',b2'])
end
variable{bs:List UInt8}{vd:AV}
section
section
variable {P:Program} {T:TT} {t:TM} {h:AH} {d:Option Tmp} {ty:TypeId} {ps:String} {af:Array Edge} {g:Option (Nat×Bool)}
theorem WA{i:Nat}(ht:t.get i= .lit (.string ⟨bs.toArray⟩))(hz:Nat.ble bs.length 16777216=true):AO Tryz.prog (zH Tryz.prog kR) ⟨d,.convert 9 37 (.tmp i),ty,ps,af,g⟩ t h 9 37 (.tmp i)=some (.val (.sl h.n 0 bs.length (.un 1)),h.push (.frz (bL bs) 5)):=by
 have hu1:und (zH Tryz.prog kR) 37=some (.slice 5):=by kernel_rfl
 have hu2:und (zH Tryz.prog kR) 9=some .string:=by kernel_rfl
 have hu3:und (zH Tryz.prog kR) 5=some (.int .u8):=by kernel_rfl
 have hl:yU Tryz.prog ⟨d,.convert 9 37 (.tmp i),ty,ps,af,g⟩ t=none:=by
  unfold yU;split
  ·have he:qI t (.tmp i)=Value.string ⟨bs.toArray⟩:=by unfold qI;rw[kX,ht];rfl
   have hk:∀s:ByteArray,yS Tryz.prog (do pure (Next.value (<-convert 9 37 (Value.string s))))=none:=fun s=>by kernel_rfl
   show Na (yS Tryz.prog (do pure (Next.value (<-convert 9 37 (qI t (.tmp i))))))=none;rw[he,hk];rfl
  ·rfl
 unfold AO JS;rw[kX,ht];unfold yR;rw[hl];have hsz:(ByteArray.mk bs.toArray).size=bs.length:=by rfl
 have hbc:byteCells ⟨bs.toArray⟩=bL bs:=by unfold byteCells bL;simp
 simp only[Yq,hu1,hu2,hu3,hsz,hz,cond_true,hbc]
end
theorem EN{h:AH}(bs:List UInt8):zJ xZ (fun b=>b=h.n) (h.push (.frz (bL bs) 5)) (.sl h.n 0 bs.length (.un 1)) bs:=
 zJ.mkBytes rfl (by unfold Zj;rw[zI]) (by unfold cut;rw[if_pos (by rw[Li];omega),xK,CY,xC]) (fun b off n cap e=>by cases e;rfl)
theorem Jv:isSl (.lit (.slice none 0 0))=true:=rfl
theorem JB:lenD (.lit (.slice none 0 0))=0:=rfl
theorem VU:((0:Nat):Int)=0:=rfl
def OZ(bs:List UInt8):List UInt8:=JI .u32 (IntKind.u32.wrap (bs.length:Int)) 4++bs
theorem JU(bs:List UInt8):(OZ bs).length=4+bs.length:=by unfold OZ;rw[jQ,zZ]
theorem Dz{F:Nat->Prop}{H:AH}{u:AV}{n0:Nat}(hx:zJ xZ F H u bs)(hA:∀b,F b->qR v b)(ho:Jo n0 H v xs)(hn0:n0<=H.n)(hl:xs.length+(4+bs.length)<=140737488355328):
 vR 92 [v,u] H fun r h'=>Fr H v h' r/\Jo n0 h' r (xs++OZ bs):=by
 refine zW Tryz.func92 rfl rfl ?_
 have u1:=hx.isSl
 have u2:=hx.lenD
 simp only[jN,seval,Tryz.ntmps92,u1,u2]
 refine(QK (bs.length:Int) ho hn0 (by omega)).mono ?_
 rintro r1 h1 ⟨f1,o1⟩
 have hx1:zJ xZ (fun _=>True) h1 u bs:=hx.lift fun b hb hlt=>⟨(f1.2 b hlt (hA b hb)).1,trivial⟩
 have n1:=f1.1
 obtain⟨L,j1,j2,jc,j3⟩:=hx1.out
 have hM:YP xZ (fun b=>False/\qR r1 b) h1 L bs:=⟨j3.1,fun i c x q1 q2=>j3.2 i c x q1 q2⟩
 simp only[jN,seval]
 refine qM (qE.append o1 (T:=zH Tryz.prog kR) (t:=37) (tx:=37) (by kernel_rfl) (by kernel_rfl) (by kernel_rfl) (zv:= .lit (.int .u8 0)) (by kernel_rfl) (by':=1) (by kernel_rfl) rfl (by decide) (by decide) j1.src j1.len hM (by rw[jQ,zZ];omega) (by rw[jQ,zZ];omega) (by omega)) ?_
 rintro r2 h2 ⟨o2,e2,f2⟩
 simp only[jN,seval]
 exact⟨f1.trans ⟨e2.1,f2⟩,by unfold OZ;rw[<-zP];exact o2⟩
def DC(a b:Int):List UInt8:=JI .i64 a 8++JI .i64 b 8
theorem qO(a b:Int):(DC a b).length=16:=by unfold DC;rw[jQ,zZ,zZ]
def Sd:List UInt8:=JI .i64 0 8++(DC 0 0++(DC 0 0++JI .i64 0 8))
theorem JM:Sd.length=48:=by unfold Sd;simp only[jQ,zZ,qO]
def Sc:List UInt8:=DC 0 0++(sW false++(JI .i64 0 8++(OZ []++(JI .i64 0 8++JI .i64 0 8))))
theorem Zr:Sc.length=45:=by unfold Sc;simp only[jQ,zZ,qO,JU,Jz,xH]
def Sh:List UInt8:=OZ []++(DC 0 0++OZ [])
theorem ZK:Sh.length=24:=by unfold Sh;simp only[jQ,qO,JU,xH]
def FK:List UInt8:=JI .u32 (IntKind.u32.wrap 0) 4
def Si:List UInt8:=JI .i64 0 8++(DC 0 0++(JI .u32 (IntKind.u32.wrap 0) 4++(JI .u32 (IntKind.u32.wrap 0) 4++JI .u32 (IntKind.u32.wrap 0) 4)))
theorem Za:Si.length=36:=by unfold Si;simp only[jQ,zZ,qO]
def sX(k:Int)(bs d:List UInt8)(e n:Int):List UInt8:=JI .i64 k 8++(OZ bs++(OZ d++DC e n))
theorem Qg(k:Int)(bs d:List UInt8)(e n:Int):(sX k bs d e n).length=32+bs.length+d.length:=by unfold sX;simp only[jQ,zZ,qO,JU];omega
theorem Gh{H:AH}{n0:Nat}(a b:Int)(ho:Jo n0 H v xs)(hn0:n0<=H.n)(hl:xs.length+16<=140737488355328):
 vR 113 [v,.agg [.lit (.int .i64 a),.lit (.int .i64 b)]] H fun r h'=>Fr H v h' r/\Jo n0 h' r (xs++DC a b):=by
 refine zW Tryz.func113 rfl rfl ?_
 obtain⟨h0,hh0,E0,A0⟩:=xX H (.cells [.lit (.int .i64 a),.lit (.int .i64 b)] 39)
 have L0:=xI A0
 have l0:=jR A0
 have ap0:qR v H.n:=ho.apart (.inr (jM _))
 have F0:Fr H v h0 v:=Fr.ext E0
 have o0:=ho.ext E0 (jM _)
 simp only[jN,seval,Tryz.ntmps113,<-hh0,L0]
 refine(Ja a o0 (by have:=F0.1;omega) (by first|omega|(simp only[jQ,zZ,Jz,qO,JU,JM,Zr,ZK,Za,Qg,xH];omega))).mono ?_
 rintro r1 h1 ⟨f1,o1⟩
 obtain⟨A1,ap1⟩:=f1.box A0 ap0
 have F1:=F0.trans f1
 have L1:=xI A1
 have l1:=jR A1
 simp only[jN,seval,L1]
 refine(Ja b o1 (by have:=F1.1;omega) (by first|omega|(simp only[jQ,zZ];omega))).mono ?_
 rintro r2 h2 ⟨f2,o2⟩
 obtain⟨A2,ap2⟩:=f2.box A1 ap1
 have F2:=F1.trans f2
 simp only[jN,seval]
 exact⟨F2,by unfold DC;simpa only[zP]using o2⟩
theorem wU{H:AH}{n0:Nat}(a b:Int)(ho:Jo n0 H v xs)(hn0:n0<=H.n)(hl:xs.length+16<=140737488355328):
 vR 82 [v,.agg [.lit (.int .i64 a),.lit (.int .i64 b)]] H fun r h'=>Fr H v h' r/\Jo n0 h' r (xs++DC a b):=by
 refine zW Tryz.func82 rfl rfl ?_
 obtain⟨h0,hh0,E0,A0⟩:=xX H (.cells [.lit (.int .i64 a),.lit (.int .i64 b)] 36)
 have L0:=xI A0
 have l0:=jR A0
 have ap0:qR v H.n:=ho.apart (.inr (jM _))
 have F0:Fr H v h0 v:=Fr.ext E0
 have o0:=ho.ext E0 (jM _)
 simp only[jN,seval,Tryz.ntmps82,<-hh0,L0]
 refine(Ja a o0 (by have:=F0.1;omega) (by first|omega|(simp only[jQ,zZ,Jz,qO,JU,JM,Zr,ZK,Za,Qg,xH];omega))).mono ?_
 rintro r1 h1 ⟨f1,o1⟩
 obtain⟨A1,ap1⟩:=f1.box A0 ap0
 have F1:=F0.trans f1
 have L1:=xI A1
 have l1:=jR A1
 simp only[jN,seval,L1]
 refine(Ja b o1 (by have:=F1.1;omega) (by first|omega|(simp only[jQ,zZ];omega))).mono ?_
 rintro r2 h2 ⟨f2,o2⟩
 obtain⟨A2,ap2⟩:=f2.box A1 ap1
 have F2:=F1.trans f2
 simp only[jN,seval]
 exact⟨F2,by unfold DC;simpa only[zP]using o2⟩
theorem Od{H:AH}{n0:Nat}(a b:Int)(ho:Jo n0 H v xs)(hn0:n0<=H.n)(hl:xs.length+16<=140737488355328):
 vR 81 [v,.agg [.lit (.int .i64 a),.lit (.int .i64 b)]] H fun r h'=>Fr H v h' r/\Jo n0 h' r (xs++DC a b):=by
 refine zW Tryz.func81 rfl rfl ?_
 obtain⟨h0,hh0,E0,A0⟩:=xX H (.cells [.lit (.int .i64 a),.lit (.int .i64 b)] 23)
 have L0:=xI A0
 have l0:=jR A0
 have ap0:qR v H.n:=ho.apart (.inr (jM _))
 have F0:Fr H v h0 v:=Fr.ext E0
 have o0:=ho.ext E0 (jM _)
 simp only[jN,seval,Tryz.ntmps81,<-hh0,L0]
 refine(Ja a o0 (by have:=F0.1;omega) (by first|omega|(simp only[jQ,zZ,Jz,qO,JU,JM,Zr,ZK,Za,Qg,xH];omega))).mono ?_
 rintro r1 h1 ⟨f1,o1⟩
 obtain⟨A1,ap1⟩:=f1.box A0 ap0
 have F1:=F0.trans f1
 have L1:=xI A1
 have l1:=jR A1
 simp only[jN,seval,L1]
 refine(Ja b o1 (by have:=F1.1;omega) (by first|omega|(simp only[jQ,zZ];omega))).mono ?_
 rintro r2 h2 ⟨f2,o2⟩
 obtain⟨A2,ap2⟩:=f2.box A1 ap1
 have F2:=F1.trans f2
 simp only[jN,seval]
 exact⟨F2,by unfold DC;simpa only[zP]using o2⟩
theorem mR{H:AH}{n0:Nat}(ho:Jo n0 H v xs)(hn0:n0<=H.n)(hl:xs.length+48<=140737488355328):
 vR 86 [v,.agg [.lit (.int .i64 0),.lit (.int .i64 0),.lit (.int .i64 0),.lit (.int .i64 0),.lit (.int .i64 0),.lit (.int .i64 0)]] H fun r h'=>Fr H v h' r/\Jo n0 h' r (xs++Sd):=by
 refine zW Tryz.func86 rfl rfl ?_
 obtain⟨h0,hh0,E0,A0⟩:=xX H (.cells [.lit (.int .i64 0),.lit (.int .i64 0),.lit (.int .i64 0),.lit (.int .i64 0),.lit (.int .i64 0),.lit (.int .i64 0)] 46)
 have L0:=xI A0
 have l0:=jR A0
 have ap0:qR v H.n:=ho.apart (.inr (jM _))
 have F0:Fr H v h0 v:=Fr.ext E0
 have o0:=ho.ext E0 (jM _)
 simp only[jN,seval,Tryz.ntmps86,<-hh0,L0]
 refine(Ja 0 o0 (by have:=F0.1;omega) (by first|omega|(simp only[jQ,zZ,Jz,qO,JU,JM,Zr,ZK,Za,Qg,xH];omega))).mono ?_
 rintro r1 h1 ⟨f1,o1⟩
 obtain⟨A1,ap1⟩:=f1.box A0 ap0
 have F1:=F0.trans f1
 have L1:=xI A1
 have l1:=jR A1
 simp only[jN,seval,L1]
 refine(Gh 0 0 o1 (by have:=F1.1;omega) (by first|omega|(simp only[jQ,zZ];omega))).mono ?_
 rintro r2 h2 ⟨f2,o2⟩
 obtain⟨A2,ap2⟩:=f2.box A1 ap1
 have F2:=F1.trans f2
 have L2:=xI A2
 have l2:=jR A2
 simp only[jN,seval,L2]
 refine(Gh 0 0 o2 (by have:=F2.1;omega) (by first|omega|(simp only[jQ,zZ,qO];omega))).mono ?_
 rintro r3 h3 ⟨f3,o3⟩
 obtain⟨A3,ap3⟩:=f3.box A2 ap2
 have F3:=F2.trans f3
 have L3:=xI A3
 have l3:=jR A3
 simp only[jN,seval,L3]
 refine(Ja 0 o3 (by have:=F3.1;omega) (by first|omega|(simp only[jQ,zZ,qO];omega))).mono ?_
 rintro r4 h4 ⟨f4,o4⟩
 obtain⟨A4,ap4⟩:=f4.box A3 ap3
 have F4:=F3.trans f4
 simp only[jN,seval]
 exact⟨F4,by unfold Sd;simpa only[zP]using o4⟩
theorem bH{H:AH}{n0:Nat}(ho:Jo n0 H v xs)(hn0:n0<=H.n)(hl:xs.length+45<=140737488355328):
 vR 88 [v,.agg [.lit (.int .i64 0),.lit (.int .i64 0),.lit (.bool false),.lit (.int .i64 0),.lit (.string ⟨#[]⟩),.lit (.int .i64 0),.lit (.int .i64 0)]] H fun r h'=>Fr H v h' r/\Jo n0 h' r (xs++Sc):=by
 refine zW Tryz.func88 rfl rfl ?_
 obtain⟨h0,hh0,E0,A0⟩:=xX H (.cells [.lit (.int .i64 0),.lit (.int .i64 0),.lit (.bool false),.lit (.int .i64 0),.lit (.string ⟨#[]⟩),.lit (.int .i64 0),.lit (.int .i64 0)] 53)
 have L0:=xI A0
 have l0:=jR A0
 have ap0:qR v H.n:=ho.apart (.inr (jM _))
 have F0:Fr H v h0 v:=Fr.ext E0
 have o0:=ho.ext E0 (jM _)
 simp only[jN,seval,Tryz.ntmps88,<-hh0,L0]
 refine(Gh 0 0 o0 (by have:=F0.1;omega) (by first|omega|(simp only[jQ,zZ,Jz,qO,JU,JM,Zr,ZK,Za,Qg,xH];omega))).mono ?_
 rintro r1 h1 ⟨f1,o1⟩
 obtain⟨A1,ap1⟩:=f1.box A0 ap0
 have F1:=F0.trans f1
 have L1:=xI A1
 have l1:=jR A1
 simp only[jN,seval,L1]
 refine(OP false o1 (by have:=F1.1;omega) (by first|omega|(simp only[jQ,qO];omega))).mono ?_
 rintro r2 h2 ⟨f2,o2⟩
 obtain⟨A2,ap2⟩:=f2.box A1 ap1
 have F2:=F1.trans f2
 have L2:=xI A2
 have l2:=jR A2
 simp only[jN,seval,L2]
 refine(Ja 0 o2 (by have:=F2.1;omega) (by first|omega|(simp only[jQ,Jz,qO];omega))).mono ?_
 rintro r3 h3 ⟨f3,o3⟩
 obtain⟨A3,ap3⟩:=f3.box A2 ap2
 have F3:=F2.trans f3
 have L3:=xI A3
 have l3:=jR A3
 obtain⟨g3,hg3⟩:∃g3,g3=h3.push (.frz (bL ([]:List UInt8)) 5):=⟨_,rfl⟩
 have eg3:zM h3.n h3 g3:=hg3▸(zM.refl _ _).push _ (jM _)
 have hcv3:∀{d:Option Tmp} {ty:TypeId} {ps:String} {af:Array Edge} {g:Option (Nat×Bool)} {t:TM} {i:Nat},t.get i= .lit (.string ⟨([]:List UInt8).toArray⟩)->AO Tryz.prog (zH Tryz.prog kR) ⟨d,.convert 9 37 (.tmp i),ty,ps,af,g⟩ t h3 9 37 (.tmp i)=some (.val (.sl h3.n 0 ([]:List UInt8).length (.un 1)),g3):=fun hg=>by rw[WA hg (yF (by decide)),hg3]
 have sg3:zJ xZ (fun b=>b=h3.n) g3 (.sl h3.n 0 ([]:List UInt8).length (.un 1)) ([]:List UInt8):=hg3▸EN ([]:List UInt8)
 simp only[jN,seval,hcv3,L3]
 refine(Dz sg3 (fun b hb=>by subst hb;exact Jo.apart o3 (.inr (jM _))) (o3.ext eg3 (jM _)) (by have:=F3.1;have:=eg3.1;omega) (by first|omega|(simp only[jQ,zZ,Jz,qO,xH];omega))).mono ?_
 rintro r4 h4 ⟨f4',o4⟩
 have f4:=(Fr.ext (v:=r3) eg3).trans f4'
 obtain⟨A4,ap4⟩:=f4.box A3 ap3
 have F4:=F3.trans f4
 have L4:=xI A4
 have l4:=jR A4
 simp only[jN,seval,L4]
 refine(Ja 0 o4 (by have:=F4.1;omega) (by first|omega|(simp only[jQ,zZ,Jz,qO,JU,xH];omega))).mono ?_
 rintro r5 h5 ⟨f5,o5⟩
 obtain⟨A5,ap5⟩:=f5.box A4 ap4
 have F5:=F4.trans f5
 have L5:=xI A5
 have l5:=jR A5
 simp only[jN,seval,L5]
 refine(Ja 0 o5 (by have:=F5.1;omega) (by first|omega|(simp only[jQ,zZ,Jz,qO,JU,xH];omega))).mono ?_
 rintro r6 h6 ⟨f6,o6⟩
 obtain⟨A6,ap6⟩:=f6.box A5 ap5
 have F6:=F5.trans f6
 simp only[jN,seval]
 exact⟨F6,by unfold Sc;simpa only[zP]using o6⟩
theorem Tp{H:AH}{n0:Nat}(ho:Jo n0 H v xs)(hn0:n0<=H.n)(hl:xs.length+24<=140737488355328):
 vR 89 [v,.agg [.lit (.string ⟨#[]⟩),.lit (.int .i64 0),.lit (.int .i64 0),.lit (.slice none 0 0)]] H fun r h'=>Fr H v h' r/\Jo n0 h' r (xs++Sh):=by
 refine zW Tryz.func89 rfl rfl ?_
 have bu:zJ xZ (fun _=>False) H (.lit (.slice none 0 0)) []:= .nil
 have hF0:∀b:Nat,(fun _=>False) b->b<n0:=fun _ hh=>hh.elim
 obtain⟨h0,hh0,E0,A0⟩:=xX H (.cells [.lit (.string ⟨#[]⟩),.lit (.int .i64 0),.lit (.int .i64 0),.lit (.slice none 0 0)] 55)
 have L0:=xI A0
 have l0:=jR A0
 have ap0:qR v H.n:=ho.apart (.inr (jM _))
 have F0:Fr H v h0 v:=Fr.ext E0
 have o0:=ho.ext E0 (jM _)
 obtain⟨g0,hg0⟩:∃g0,g0=h0.push (.frz (bL ([]:List UInt8)) 5):=⟨_,rfl⟩
 have eg0:zM h0.n h0 g0:=hg0▸(zM.refl _ _).push _ (jM _)
 have hcv0:∀{d:Option Tmp} {ty:TypeId} {ps:String} {af:Array Edge} {g:Option (Nat×Bool)} {t:TM} {i:Nat},t.get i= .lit (.string ⟨([]:List UInt8).toArray⟩)->AO Tryz.prog (zH Tryz.prog kR) ⟨d,.convert 9 37 (.tmp i),ty,ps,af,g⟩ t h0 9 37 (.tmp i)=some (.val (.sl h0.n 0 ([]:List UInt8).length (.un 1)),g0):=fun hg=>by rw[WA hg (yF (by decide)),hg0]
 have sg0:zJ xZ (fun b=>b=h0.n) g0 (.sl h0.n 0 ([]:List UInt8).length (.un 1)) ([]:List UInt8):=hg0▸EN ([]:List UInt8)
 simp only[jN,seval,Tryz.ntmps89,<-hh0,hcv0,L0]
 refine(Dz sg0 (fun b hb=>by subst hb;exact Jo.apart o0 (.inr (jM _))) (o0.ext eg0 (jM _)) (by have:=F0.1;have:=eg0.1;omega) (by first|omega|(simp only[xH];omega))).mono ?_
 rintro r1 h1 ⟨f1',o1⟩
 have f1:=(Fr.ext (v:=v) eg0).trans f1'
 obtain⟨A1,ap1⟩:=f1.box A0 ap0
 have F1:=F0.trans f1
 have L1:=xI A1
 have l1:=jR A1
 simp only[jN,seval,L1]
 refine(Gh 0 0 o1 (by have:=F1.1;omega) (by first|omega|(simp only[jQ,JU,xH];omega))).mono ?_
 rintro r2 h2 ⟨f2,o2⟩
 obtain⟨A2,ap2⟩:=f2.box A1 ap1
 have F2:=F1.trans f2
 have L2:=xI A2
 have l2:=jR A2
 simp only[jN,seval,L2]
 refine(Dz (F:=fun b=>b<n0) (bu.lift fun b hb hlt=>⟨(F2.2 b hlt (Jo.apart ho (.inl (hF0 b hb)))).1,hF0 b hb⟩) (fun b hb=>Jo.apart o2 (.inl hb)) o2 (by have:=F2.1;omega) (by first|omega|(simp only[jQ,qO,JU,xH];omega))).mono ?_
 rintro r3 h3 ⟨f3,o3⟩
 obtain⟨A3,ap3⟩:=f3.box A2 ap2
 have F3:=F2.trans f3
 simp only[jN,seval]
 exact⟨F3,by unfold Sh;simpa only[zP]using o3⟩
theorem bI{H:AH}{n0:Nat}(ho:Jo n0 H v xs)(hn0:n0<=H.n)(hl:xs.length+36<=140737488355328):
 vR 87 [v,.agg [.lit (.int .i64 0),.lit (.int .i64 0),.lit (.int .i64 0),.lit (.slice none 0 0),.lit (.slice none 0 0),.lit (.slice none 0 0)]] H fun r h'=>Fr H v h' r/\Jo n0 h' r (xs++Si):=by
 refine zW Tryz.func87 rfl rfl ?_
 obtain⟨h0,hh0,E0,A0⟩:=xX H (.cells [.lit (.int .i64 0),.lit (.int .i64 0),.lit (.int .i64 0),.lit (.slice none 0 0),.lit (.slice none 0 0),.lit (.slice none 0 0)] 51)
 have L0:=xI A0
 have l0:=jR A0
 have ap0:qR v H.n:=ho.apart (.inr (jM _))
 have F0:Fr H v h0 v:=Fr.ext E0
 have o0:=ho.ext E0 (jM _)
 simp only[jN,seval,Tryz.ntmps87,<-hh0,L0]
 refine(Ja 0 o0 (by have:=F0.1;omega) (by first|omega|(simp only[jQ,zZ,Jz,qO,JU,JM,Zr,ZK,Za,Qg,xH];omega))).mono ?_
 rintro r1 h1 ⟨f1,o1⟩
 obtain⟨A1,ap1⟩:=f1.box A0 ap0
 have F1:=F0.trans f1
 have L1:=xI A1
 have l1:=jR A1
 simp only[jN,seval,L1]
 refine(Gh 0 0 o1 (by have:=F1.1;omega) (by first|omega|(simp only[jQ,zZ];omega))).mono ?_
 rintro r2 h2 ⟨f2,o2⟩
 obtain⟨A2,ap2⟩:=f2.box A1 ap1
 have F2:=F1.trans f2
 have L2:=xI A2
 have l2:=jR A2
 simp only[jN,seval,Jv,JB,VU,L2]
 refine(QK 0 o2 (by have:=F2.1;omega) (by first|omega|(simp only[jQ,zZ,qO];omega))).mono ?_
 rintro r3 h3 ⟨f3,o3⟩
 obtain⟨A3,ap3⟩:=f3.box A2 ap2
 have F3:=F2.trans f3
 have L3:=xI A3
 have l3:=jR A3
 simp only[jN,seval,Jv,JB,VU,L3]
 rw[Cd]
 simp only[jN,seval,Jv,JB,VU,L3]
 refine(QK 0 o3 (by have:=F3.1;omega) (by first|omega|(simp only[jQ,zZ,qO];omega))).mono ?_
 rintro r4 h4 ⟨f4,o4⟩
 obtain⟨A4,ap4⟩:=f4.box A3 ap3
 have F4:=F3.trans f4
 have L4:=xI A4
 have l4:=jR A4
 simp only[jN,seval,Jv,JB,VU,L4]
 rw[Cd]
 simp only[jN,seval,Jv,JB,VU,L4]
 refine(QK 0 o4 (by have:=F4.1;omega) (by first|omega|(simp only[jQ,zZ,qO];omega))).mono ?_
 rintro r5 h5 ⟨f5,o5⟩
 obtain⟨A5,ap5⟩:=f5.box A4 ap4
 have F5:=F4.trans f5
 have L5:=xI A5
 simp only[jN,seval,Jv,JB,VU,L5]
 rw[Cd]
 simp only[jN,seval,Jv,JB]
 exact⟨F5,by unfold Si;simpa only[zP]using o5⟩
theorem j2M{H:AH}{n0:Nat}{F:Nat->Prop}{d:List UInt8}(k:Int)(bs:List UInt8)(e n:Int)(bu:zJ xZ F H vd d)(hF0:∀b,F b->b<n0)(hbs:bs.length<=4096)(hdl:d.length<=4096)(ho:Jo n0 H v xs)(hn0:n0<=H.n)(hl:xs.length+(32+bs.length+d.length)<=140737488355328):
 vR 90 [v,.agg [.lit (.int .i64 k),.lit (.string ⟨bs.toArray⟩),vd,.lit (.int .i64 e),.lit (.int .i64 n)]] H fun r h'=>Fr H v h' r/\Jo n0 h' r (xs++sX k bs d e n):=by
 refine zW Tryz.func90 rfl rfl ?_
 have w1:=bu.one
 obtain⟨h0,hh0,E0,A0⟩:=xX H (.cells [.lit (.int .i64 k),.lit (.string ⟨bs.toArray⟩),vd,.lit (.int .i64 e),.lit (.int .i64 n)] 41)
 have L0:=xI A0
 have l0:=jR A0
 have ap0:qR v H.n:=ho.apart (.inr (jM _))
 have F0:Fr H v h0 v:=Fr.ext E0
 have o0:=ho.ext E0 (jM _)
 simp only[jN,seval,Tryz.ntmps90,<-hh0,w1,L0]
 refine(Ja k o0 (by have:=F0.1;omega) (by first|omega|(simp only[jQ,zZ,Jz,qO,JU,JM,Zr,ZK,Za,Qg,xH];omega))).mono ?_
 rintro r1 h1 ⟨f1,o1⟩
 obtain⟨A1,ap1⟩:=f1.box A0 ap0
 have F1:=F0.trans f1
 have L1:=xI A1
 have l1:=jR A1
 obtain⟨g1,hg1⟩:∃g1,g1=h1.push (.frz (bL bs) 5):=⟨_,rfl⟩
 have eg1:zM h1.n h1 g1:=hg1▸(zM.refl _ _).push _ (jM _)
 have hcv1:∀{d:Option Tmp} {ty:TypeId} {ps:String} {af:Array Edge} {g:Option (Nat×Bool)} {t:TM} {i:Nat},t.get i= .lit (.string ⟨bs.toArray⟩)->AO Tryz.prog (zH Tryz.prog kR) ⟨d,.convert 9 37 (.tmp i),ty,ps,af,g⟩ t h1 9 37 (.tmp i)=some (.val (.sl h1.n 0 bs.length (.un 1)),g1):=fun hg=>by rw[WA hg (yF (by omega)),hg1]
 have sg1:zJ xZ (fun b=>b=h1.n) g1 (.sl h1.n 0 bs.length (.un 1)) bs:=hg1▸EN bs
 simp only[jN,seval,hcv1,L1]
 refine(Dz sg1 (fun b hb=>by subst hb;exact Jo.apart o1 (.inr (jM _))) (o1.ext eg1 (jM _)) (by have:=F1.1;have:=eg1.1;omega) (by first|omega|(simp only[jQ,zZ];omega))).mono ?_
 rintro r2 h2 ⟨f2',o2⟩
 have f2:=(Fr.ext (v:=r1) eg1).trans f2'
 obtain⟨A2,ap2⟩:=f2.box A1 ap1
 have F2:=F1.trans f2
 have L2:=xI A2
 have l2:=jR A2
 simp only[jN,seval,L2]
 refine(Dz (F:=fun b=>b<n0) (bu.lift fun b hb hlt=>⟨(F2.2 b hlt (Jo.apart ho (.inl (hF0 b hb)))).1,hF0 b hb⟩) (fun b hb=>Jo.apart o2 (.inl hb)) o2 (by have:=F2.1;omega) (by first|omega|(simp only[jQ,zZ,JU];omega))).mono ?_
 rintro r3 h3 ⟨f3,o3⟩
 obtain⟨A3,ap3⟩:=f3.box A2 ap2
 have F3:=F2.trans f3
 have L3:=xI A3
 have l3:=jR A3
 simp only[jN,seval,L3]
 refine(Gh e n o3 (by have:=F3.1;omega) (by first|omega|(simp only[jQ,zZ,JU];omega))).mono ?_
 rintro r4 h4 ⟨f4,o4⟩
 obtain⟨A4,ap4⟩:=f4.box A3 ap3
 have F4:=F3.trans f4
 simp only[jN,seval]
 exact⟨F4,by unfold sX;simpa only[zP]using o4⟩
end
theorem Xg:FK.length=4:=by unfold FK;rw[zZ]
theorem DB(ho:Jo n0 H v xs)(hn0:n0<=H.n)(hl:xs.length+4<=140737488355328):
 vR 51 [v,.lit (.int .i64 0)] H fun r h'=>Fr H v h' r/\Jo n0 h' r (xs++FK):=QK 0 ho hn0 hl
def Se(x:Nv):List UInt8:=JI .i64 x.kind 8++(DC x.k x.i++(DC x.tk x.ti++(JI .i64 x.boot 8++(JI .i64 x.ep 8++(DC x.pp x.ps++(JI .i64 x.client 8++(JI .i64 x.num 8++(JI .i64 0 8++(FK++(FK++(FK++(Sd++(Si++(Sc++(Sh++(sX x.ok x.os.data.toList x.od x.oe x.on++(FK++(FK++JI .i64 0 8))))))))))))))))))
theorem wS(kind ti tk ep pp ps client num ok:Int)(bs od:List UInt8)(oe on k i boot:Int)(bu:zJ xZ F H vd od)(hF0:∀b,F b->b<n0)(hbs:bs.length<=4096)(hdl:od.length<=4096)(ho:Jo n0 H v xs)(hn0:n0<=H.n)(hl:xs.length+10000<=140737488355328):
 vR 63 [v,.agg [.lit (.int .i64 kind),.lit (.int .i64 k),.lit (.int .i64 i),.lit (.int .i64 tk),.lit (.int .i64 ti),.lit (.int .i64 boot),.lit (.int .i64 ep),.lit (.int .i64 pp),.lit (.int .i64 ps),.lit (.int .i64 client),.lit (.int .i64 num),.lit (.int .i64 0),.lit (.slice none 0 0),.lit (.slice none 0 0),.lit (.slice none 0 0),.lit (.int .i64 0),.lit (.int .i64 0),.lit (.int .i64 0),.lit (.int .i64 0),.lit (.int .i64 0),.lit (.int .i64 0),.lit (.int .i64 0),.lit (.int .i64 0),.lit (.int .i64 0),.lit (.slice none 0 0),.lit (.slice none 0 0),.lit (.slice none 0 0),.lit (.int .i64 0),.lit (.int .i64 0),.lit (.bool false),.lit (.int .i64 0),.lit (.string ⟨#[]⟩),.lit (.int .i64 0),.lit (.int .i64 0),.lit (.string ⟨#[]⟩),.lit (.int .i64 0),.lit (.int .i64 0),.lit (.slice none 0 0),.lit (.int .i64 ok),.lit (.string ⟨bs.toArray⟩),vd,.lit (.int .i64 oe),.lit (.int .i64 on),.lit (.slice none 0 0),.lit (.slice none 0 0),.lit (.int .i64 0)]] H fun r h'=>Fr H v h' r/\Jo n0 h' r (xs++Se ⟨kind,ti,tk,ep,pp,ps,client,num,ok,⟨bs.toArray⟩,od,oe,on,k,i,boot⟩):=by
 refine zW Tryz.func63 rfl rfl ?_
 have w1:=bu.one
 obtain⟨h0,hh0,E0,A0⟩:=xX H (.cells [.lit (.int .i64 kind),.lit (.int .i64 k),.lit (.int .i64 i),.lit (.int .i64 tk),.lit (.int .i64 ti),.lit (.int .i64 boot),.lit (.int .i64 ep),.lit (.int .i64 pp),.lit (.int .i64 ps),.lit (.int .i64 client),.lit (.int .i64 num),.lit (.int .i64 0),.lit (.slice none 0 0),.lit (.slice none 0 0),.lit (.slice none 0 0),.lit (.int .i64 0),.lit (.int .i64 0),.lit (.int .i64 0),.lit (.int .i64 0),.lit (.int .i64 0),.lit (.int .i64 0),.lit (.int .i64 0),.lit (.int .i64 0),.lit (.int .i64 0),.lit (.slice none 0 0),.lit (.slice none 0 0),.lit (.slice none 0 0),.lit (.int .i64 0),.lit (.int .i64 0),.lit (.bool false),.lit (.int .i64 0),.lit (.string ⟨#[]⟩),.lit (.int .i64 0),.lit (.int .i64 0),.lit (.string ⟨#[]⟩),.lit (.int .i64 0),.lit (.int .i64 0),.lit (.slice none 0 0),.lit (.int .i64 ok),.lit (.string ⟨bs.toArray⟩),vd,.lit (.int .i64 oe),.lit (.int .i64 on),.lit (.slice none 0 0),.lit (.slice none 0 0),.lit (.int .i64 0)] 58)
 have L0:=xI A0
 have l0:=jR A0
 have ap0:qR v H.n:=ho.apart (.inr (jM _))
 have F0:Fr H v h0 v:=Fr.ext E0
 have o0:=ho.ext E0 (jM _)
 simp only[jN,seval,Tryz.ntmps63,<-hh0,w1,L0]
 refine(Ja kind o0 (by have:=F0.1;omega) (by first|omega|(simp only[jQ,zZ,Jz,qO,JU,JM,Zr,ZK,Za,Qg,xH,Xg];omega))).mono ?_
 rintro r1 h1 ⟨f1,o1⟩
 obtain⟨A1,ap1⟩:=f1.box A0 ap0
 have F1:=F0.trans f1
 have L1:=xI A1
 have l1:=jR A1
 simp only[jN,seval,L1]
 refine(Od k i o1 (by have:=F1.1;omega) (by first|omega|(simp only[jQ,zZ];omega))).mono ?_
 rintro r2 h2 ⟨f2,o2⟩
 obtain⟨A2,ap2⟩:=f2.box A1 ap1
 have F2:=F1.trans f2
 have L2:=xI A2
 have l2:=jR A2
 simp only[jN,seval,L2]
 refine(Od tk ti o2 (by have:=F2.1;omega) (by first|omega|(simp only[jQ,zZ,qO];omega))).mono ?_
 rintro r3 h3 ⟨f3,o3⟩
 obtain⟨A3,ap3⟩:=f3.box A2 ap2
 have F3:=F2.trans f3
 have L3:=xI A3
 have l3:=jR A3
 simp only[jN,seval,L3]
 refine(Ja boot o3 (by have:=F3.1;omega) (by first|omega|(simp only[jQ,zZ,qO];omega))).mono ?_
 rintro r4 h4 ⟨f4,o4⟩
 obtain⟨A4,ap4⟩:=f4.box A3 ap3
 have F4:=F3.trans f4
 have L4:=xI A4
 have l4:=jR A4
 simp only[jN,seval,L4]
 refine(Ja ep o4 (by have:=F4.1;omega) (by first|omega|(simp only[jQ,zZ,qO];omega))).mono ?_
 rintro r5 h5 ⟨f5,o5⟩
 obtain⟨A5,ap5⟩:=f5.box A4 ap4
 have F5:=F4.trans f5
 have L5:=xI A5
 have l5:=jR A5
 simp only[jN,seval,L5]
 refine(wU pp ps o5 (by have:=F5.1;omega) (by first|omega|(simp only[jQ,zZ,qO];omega))).mono ?_
 rintro r6 h6 ⟨f6,o6⟩
 obtain⟨A6,ap6⟩:=f6.box A5 ap5
 have F6:=F5.trans f6
 have L6:=xI A6
 have l6:=jR A6
 simp only[jN,seval,L6]
 refine(Ja client o6 (by have:=F6.1;omega) (by first|omega|(simp only[jQ,zZ,qO];omega))).mono ?_
 rintro r7 h7 ⟨f7,o7⟩
 obtain⟨A7,ap7⟩:=f7.box A6 ap6
 have F7:=F6.trans f7
 have L7:=xI A7
 have l7:=jR A7
 simp only[jN,seval,L7]
 refine(Ja num o7 (by have:=F7.1;omega) (by first|omega|(simp only[jQ,zZ,qO];omega))).mono ?_
 rintro r8 h8 ⟨f8,o8⟩
 obtain⟨A8,ap8⟩:=f8.box A7 ap7
 have F8:=F7.trans f8
 have L8:=xI A8
 have l8:=jR A8
 simp only[jN,seval,L8]
 refine(Ja 0 o8 (by have:=F8.1;omega) (by first|omega|(simp only[jQ,zZ,qO];omega))).mono ?_
 rintro r9 h9 ⟨f9,o9⟩
 obtain⟨A9,ap9⟩:=f9.box A8 ap8
 have F9:=F8.trans f9
 have L9:=xI A9
 have l9:=jR A9
 simp only[jN,seval,Jv,JB,VU,L9]
 refine(DB o9 (by have:=F9.1;omega) (by first|omega|(simp only[jQ,zZ,qO];omega))).mono ?_
 rintro r10 h10 ⟨f10,o10⟩
 obtain⟨A10,ap10⟩:=f10.box A9 ap9
 have F10:=F9.trans f10
 have L10:=xI A10
 have l10:=jR A10
 simp only[jN,seval,Jv,JB,VU,L10]
 rw[Cd]
 simp only[jN,seval,Jv,JB,VU,L10]
 refine(DB o10 (by have:=F10.1;omega) (by first|omega|(simp only[jQ,zZ,qO,Xg];omega))).mono ?_
 rintro r11 h11 ⟨f11,o11⟩
 obtain⟨A11,ap11⟩:=f11.box A10 ap10
 have F11:=F10.trans f11
 have L11:=xI A11
 have l11:=jR A11
 simp only[jN,seval,Jv,JB,VU,L11]
 rw[Cd]
 simp only[jN,seval,Jv,JB,VU,L11]
 refine(DB o11 (by have:=F11.1;omega) (by first|omega|(simp only[jQ,zZ,qO,Xg];omega))).mono ?_
 rintro r12 h12 ⟨f12,o12⟩
 obtain⟨A12,ap12⟩:=f12.box A11 ap11
 have F12:=F11.trans f12
 have L12:=xI A12
 have l12:=jR A12
 simp only[jN,seval,Jv,JB,VU,L12]
 rw[Cd]
 simp only[jN,seval,Jv,JB,L12]
 refine(mR o12 (by have:=F12.1;omega) (by first|omega|(simp only[jQ,zZ,qO,Xg];omega))).mono ?_
 rintro r13 h13 ⟨f13,o13⟩
 obtain⟨A13,ap13⟩:=f13.box A12 ap12
 have F13:=F12.trans f13
 have L13:=xI A13
 have l13:=jR A13
 simp only[jN,seval,L13]
 refine(bI o13 (by have:=F13.1;omega) (by first|omega|(simp only[jQ,zZ,qO,JM,Xg];omega))).mono ?_
 rintro r14 h14 ⟨f14,o14⟩
 obtain⟨A14,ap14⟩:=f14.box A13 ap13
 have F14:=F13.trans f14
 have L14:=xI A14
 have l14:=jR A14
 simp only[jN,seval,L14]
 refine(bH o14 (by have:=F14.1;omega) (by first|omega|(simp only[jQ,zZ,qO,JM,Za,Xg];omega))).mono ?_
 rintro r15 h15 ⟨f15,o15⟩
 obtain⟨A15,ap15⟩:=f15.box A14 ap14
 have F15:=F14.trans f15
 have L15:=xI A15
 have l15:=jR A15
 simp only[jN,seval,L15]
 refine(Tp o15 (by have:=F15.1;omega) (by first|omega|(simp only[jQ,zZ,qO,JM,Zr,Za,Xg];omega))).mono ?_
 rintro r16 h16 ⟨f16,o16⟩
 obtain⟨A16,ap16⟩:=f16.box A15 ap15
 have F16:=F15.trans f16
 have L16:=xI A16
 have l16:=jR A16
 simp only[jN,seval,L16]
 refine(j2M (F:=fun b=>b<n0) ok bs oe on (bu.lift fun b hb hlt=>⟨(F16.2 b hlt (Jo.apart ho (.inl (hF0 b hb)))).1,hF0 b hb⟩) (fun b hb=>hb) hbs hdl o16 (by have:=F16.1;omega) (by simp only[jQ,zZ,qO,JM,Zr,ZK,Za,Xg];omega)).mono ?_
 rintro r17 h17 ⟨f17,o17⟩
 obtain⟨A17,ap17⟩:=f17.box A16 ap16
 have F17:=F16.trans f17
 have L17:=xI A17
 have l17:=jR A17
 simp only[jN,seval,Jv,JB,VU,L17]
 refine(DB o17 (by have:=F17.1;omega) (by first|omega|(simp only[jQ,zZ,qO,JM,Zr,ZK,Za,Qg,Xg];omega))).mono ?_
 rintro r18 h18 ⟨f18,o18⟩
 obtain⟨A18,ap18⟩:=f18.box A17 ap17
 have F18:=F17.trans f18
 have L18:=xI A18
 have l18:=jR A18
 simp only[jN,seval,Jv,JB,VU,L18]
 rw[Cd]
 simp only[jN,seval,Jv,JB,VU,L18]
 refine(DB o18 (by have:=F18.1;omega) (by first|omega|(simp only[jQ,zZ,qO,JM,Zr,ZK,Za,Qg,Xg];omega))).mono ?_
 rintro r19 h19 ⟨f19,o19⟩
 obtain⟨A19,ap19⟩:=f19.box A18 ap18
 have F19:=F18.trans f19
 have L19:=xI A19
 have l19:=jR A19
 simp only[jN,seval,Jv,JB,VU,L19]
 rw[Cd]
 simp only[jN,seval,Jv,JB,L19]
 refine(Ja 0 o19 (by have:=F19.1;omega) (by first|omega|(simp only[jQ,zZ,qO,JM,Zr,ZK,Za,Qg,Xg];omega))).mono ?_
 rintro r20 h20 ⟨f20,o20⟩
 obtain⟨A20,ap20⟩:=f20.box A19 ap19
 have F20:=F19.trans f20
 simp only[jN,seval]
 exact⟨F20,by unfold Se;simpa only[zP]using o20⟩
theorem uQ(x:Nv)(hd:zJ xZ F H vd x.od)(hF:∀b,F b->b<H.n)(hbs:x.os.data.toList.length<=4096)(hdl:x.od.length<=4096):
 vR 40 [.agg (Ri x vd)] H fun r h'=>zM H.n H h'/\Jo H.n h' r (Se x):=by
 refine zW Tryz.func40 rfl rfl ?_
 have o1:=hd.one
 obtain⟨kind,ti,tk,ep,pp,ps,client,num,ok,os,od,oe,on,k,i,boot⟩:=x
 obtain⟨bs,rfl⟩:∃bs:List UInt8,os=⟨bs.toArray⟩:=⟨os.data.toList,rfl⟩
 unfold Ri
 simp only[jN,seval,Tryz.ntmps40,o1]
 obtain⟨h0,hh0⟩:∃h0,h0=H.push (.cells (Ri ⟨kind,ti,tk,ep,pp,ps,client,num,ok,⟨bs.toArray⟩,od,oe,on,k,i,boot⟩ vd) 58):=⟨_,rfl⟩
 have E0:=ZS hh0
 unfold Ri at hh0
 rw[<-hh0]
 clear hh0
 have n1:=E0.1
 have on':Jo H.n h0 (.lit (.slice none 0 0)) []:=qE.nil
 refine(wS kind ti tk ep pp ps client num ok bs od oe on k i boot (hd.ext E0 (jM _)) hF hbs hdl on' n1 (by simp)).mono ?_
 rintro r h1 ⟨f,o⟩
 simp only[jN,seval]
 exact⟨E0.trans (f.toExt on' n1),by simpa using o⟩
theorem Sf(x:Nv):Se x≠[]:=by unfold Se;intro h;have:=congrArg List.length h;simp only[jQ,zZ,xH]at this;omega
def Tk(x:Int×Int×Int):AV:= .tup [.agg [.lit (.int .i64 x.1),.lit (.int .i64 x.2.1)],.lit (.int .i64 x.2.2)]
variable{p:xD}
theorem wP(h:JG m id=some p):p.id=id:=by have:=List.find?_some h;exact eq_of_beq this
theorem Ob(h:JG m id=some p):p∈m.pools:=ZG h
theorem j76{m:zU}(pool:Int)(hm:vG F H m vo vp vb)(hpl:Sm 32 m.pools)(hpi:∀p∈m.pools,Zq p.pgs)(hs:s.size<=140737488351232):
 vR 79 [vS m vo vp vb,.lit (.int .i64 pool),.lit (.string s)] H fun r h'=>zM H.n H h'/\r=Tk (LR m pool s):=by
 refine zW Tryz.func79 rfl rfl ?_
 have o1:=hm.o.one
 have o2:=hm.p.one
 have o3:=hm.b.one
 simp only[jN,jB,jC,jE,jF,jG,Tryz.ntmps79,vS,o1,o2,o3]
 obtain⟨hp,hhp⟩:∃hp,hp=(H.push (mC m vo vp vb)).push (.cells [.lit (.int .i64 0),.lit (.int .i64 0)] 36):=⟨_,rfl⟩
 have EP:zM H.n H hp:=hhp▸((zM.refl _ _).push _ (jM _)).push _ (by rw[zF];omega)
 have Q0:hp.at (H.n+1)=some (.cells [.lit (.int .i64 0),.lit (.int .i64 0)] 36):=hhp▸zI (H.push (mC m vo vp vb)) _
 unfold mC at hhp
 rw[<-hhp]
 refine(bE pool (hm.ext EP (jM _)) hpl).mono ?_
 rintro _ h2 ⟨e2,rfl⟩
 unfold Zz
 obtain⟨h3,hh3,e3,X3⟩:=xX h2 (.cells [.lit (.int .i64 (vV m pool).id),.lit (.int .i64 (vV m pool).size),.lit (.int .i64 (vV m pool).min),.lit (.int .i64 (vV m pool).pgs)] 108)
 have E3:=EP.trans ((e2.trans (e3.mono e2.1)).mono EP.1)
 have Q3:=((e2.trans (e3.mono e2.1)).2 _ (jR Q0)).trans Q0
 have LX3:=xI X3
 have lX3:=jR X3
 have lQ3:=jR Q3
 cases hf:JG m pool with
 |none=>
  have e1:LR m pool s=(0,0,2):=by unfold LR;rw[hf]
  have e2:(none:Option xD).isSome=false:=rfl;rw[e1,e2];simp only[jN,jB,jE,jF,reduceCtorEq,jG,<-hh3,Q3,lQ3];exact⟨E3.put _ (by omega),rfl⟩
 |some p=>
 have e2:(some p:Option xD).isSome=true:=rfl
 rw[e2]
 have hid:=wP hf
 have hpg:=hpi p (Ob hf)
 have hG:vV m pool=p:=by unfold vV;rw[hf];rfl
 rw[hG]at X3 LX3 hh3 ⊢
 cases hg:Ke s.data.toList with
 |false=>
  have e1:LR m pool s=(0,0,36):=by unfold LR;rw[hf];simp only[hg];rfl
  rw[e1];simp only[jN,jB,jE,jF,reduceCtorEq,jG,<-hh3,Q3,lQ3];refine aA hs ?_;rw[hg];simp only[jN,jB,jE,jF,reduceCtorEq,jG,Q3,lQ3];exact⟨E3.put _ (by omega),rfl⟩
 |true=>
 have e1:LR m pool s=(pool,((Dj (VT s.data.toList).toNat p.pgs.toNat:Nat):Int),(0:Int)):=by unfold LR;rw[hf];simp only[hg,if_true]
 rw[e1]
 simp only[jN,jB,jE,jF,reduceCtorEq,jG,<-hh3]
 refine aA hs ?_
 rw[hg]
 simp only[jN,jB,jE,jF,reduceCtorEq]
 rw[zL [0,1,3,5,6,2,4,7,8,9,10] 1328253885236058694439228661949270016 (by kernel_rfl)]
 repeat ((with_reducible refine jX ?_;simp only[vO];try simp only[vP,jB,jD,jH,jI]);simp only[jN,jB,jE,jF,zG,LX3])
 refine eJ.mono ?_
 rintro _ h4 ⟨pe,rfl,e4⟩
 have X4:=(e4.2 _ lX3).trans X3
 have LX4:=xI X4
 have lX4:=jR X4
 have Q4:=(e4.2 _ (jR Q3)).trans Q3
 have lQ4:=jR Q4
 have E4:=E3.trans (e4.mono E3.1)
 have hnm:=SW s.data.toList
 repeat ((with_reducible refine jX ?_;simp only[vO];try simp only[vP,jB,jD,jH,jI]);simp only[jN,jB,jF,zG,LX4])
 refine j4S hs ?_
 repeat ((with_reducible refine jX ?_;simp only[vO];try simp only[vP,jB,jD,jH,jI]);simp only[jN,jB,jF,zG,LX4])
 refine j5i ⟨hnm.1,hnm.2,hpg.1,by have:=hpg.2;omega⟩ ?_
 repeat (first|((with_reducible refine jX ?_;simp only[vO];try simp only[vP,jB,jD,jH,jI]);simp only[jN,jB,jE,jF,reduceCtorEq,jG,zG,LX4,Q4,lQ4])|simp only[jN,jB,jC,jD,jE,jF,reduceCtorEq,jG,jJ,jK,jL,zG,LX4,lX4,Q4,lQ4])
 refine⟨E4.put _ (by omega),?_⟩
 unfold Tk
 rw[hid]
theorem j6D{m:zU}(pool:Int)(hm:vG F H m vo vp vb)(hpl:Sm 32 m.pools)(hpi:∀p∈m.pools,Zq p.pgs)(hs:s.size<=140737488351232):
 vR 66 [vS m vo vp vb,.lit (.int .i64 pool),.lit (.string s)] H fun r h'=>zM H.n H h'/\r=Tk (LR m pool s):=by
 refine zW Tryz.func66 rfl rfl ?_
 have o1:=hm.o.one
 have o2:=hm.p.one
 have o3:=hm.b.one
 simp only[jN,jB,jC,jE,jF,jG,Tryz.ntmps66,vS,o1,o2,o3]
 obtain⟨hp,hhp⟩:∃hp,hp=(H.push (mC m vo vp vb)).push (.cells [.lit (.int .i64 0),.lit (.int .i64 0)] 36):=⟨_,rfl⟩
 have EP:zM H.n H hp:=hhp▸((zM.refl _ _).push _ (jM _)).push _ (by rw[zF];omega)
 have Q0:hp.at (H.n+1)=some (.cells [.lit (.int .i64 0),.lit (.int .i64 0)] 36):=hhp▸zI (H.push (mC m vo vp vb)) _
 unfold mC at hhp
 rw[<-hhp]
 refine(HL pool (hm.ext EP (jM _)) hpl).mono ?_
 rintro _ h2 ⟨e2,rfl⟩
 unfold Zz
 obtain⟨h3,hh3,e3,X3⟩:=xX h2 (.cells [.lit (.int .i64 (vV m pool).id),.lit (.int .i64 (vV m pool).size),.lit (.int .i64 (vV m pool).min),.lit (.int .i64 (vV m pool).pgs)] 108)
 have E3:=EP.trans ((e2.trans (e3.mono e2.1)).mono EP.1)
 have Q3:=((e2.trans (e3.mono e2.1)).2 _ (jR Q0)).trans Q0
 have LX3:=xI X3
 have lX3:=jR X3
 have lQ3:=jR Q3
 cases hf:JG m pool with
 |none=>
  have e1:LR m pool s=(0,0,2):=by unfold LR;rw[hf]
  have e2:(none:Option xD).isSome=false:=rfl;rw[e1,e2];simp only[jN,jB,jE,jF,reduceCtorEq,jG,<-hh3,Q3,lQ3];exact⟨E3.put _ (by omega),rfl⟩
 |some p=>
 have e2:(some p:Option xD).isSome=true:=rfl
 rw[e2]
 have hpg:=hpi p (Ob hf)
 have hG:vV m pool=p:=by unfold vV;rw[hf];rfl
 rw[hG]at X3 LX3 hh3 ⊢
 cases hg:Ke s.data.toList with
 |false=>
  have e1:LR m pool s=(0,0,36):=by unfold LR;rw[hf];simp only[hg];rfl
  rw[e1];simp only[jN,jB,jE,jF,reduceCtorEq,jG,<-hh3,Q3,lQ3];refine Pf hs ?_;rw[hg];simp only[jN,jB,jE,jF,reduceCtorEq,jG,Q3,lQ3];exact⟨E3.put _ (by omega),rfl⟩
 |true=>
 have e1:LR m pool s=(pool,((Dj (VT s.data.toList).toNat p.pgs.toNat:Nat):Int),(0:Int)):=by unfold LR;rw[hf];simp only[hg,if_true]
 rw[e1]
 simp only[jN,jB,jE,jF,reduceCtorEq,jG,<-hh3]
 refine Pf hs ?_
 rw[hg]
 have hnm:=SW s.data.toList
 simp only[jN,jB,jE,jF,reduceCtorEq]
 rw[zL [0,1,3,4,2,5,6,7,8] 1205375957343627102388224 (by kernel_rfl)]
 repeat ((with_reducible refine jX ?_;simp only[vO];try simp only[vP,jB,jD,jH,jI]);simp only[jN,jB,jE,jF,zG,LX3])
 refine j2n hs ?_
 repeat ((with_reducible refine jX ?_;simp only[vO];try simp only[vP,jB,jD,jH,jI]);simp only[jN,jB,jF,zG,LX3])
 refine j2Y ⟨hnm.1,hnm.2,hpg.1,by have:=hpg.2;omega⟩ ?_
 repeat (first|((with_reducible refine jX ?_;simp only[vO];try simp only[vP,jB]);simp only[jN,jB,jE,jF,reduceCtorEq,jG,zG,Q3,lQ3])|simp only[jN,jB,jC,jD,jE,jF,reduceCtorEq,jG,jJ,jK,jL,zG,LX3,lX3,Q3,lQ3])
 exact⟨E3.put _ (by omega),rfl⟩
end Go.Proofs.YtcieggahhkoeeaaGreat.Ex
