/- Part 2 of the proof: Exk, Exd, Exd1, Exd2, Exd3, Exd4, Exd5, Exd6, Exd7, Exd8, Exs9, Exe, ExTab, W, Ws, Own, Row, Rep, Wr, Tab, Bt, Core, Exf, Lay, Srt. -/
import Derived.Test.YtcieggahhkoeeaaGreatChecked
import Derived.IntWalk
import Derived.Shelf.Sort.Plain
import Derived.Shelf.Slices.In.SortNone
import Derived.Test.YtcieggahhkoeeaaGreatProg
import Derived.Test.YtcieggahhkoeeaaGreatM1
set_option linter.unusedSimpArgs false
set_option linter.unusedVariables false
set_option maxRecDepth 100000
set_option maxHeartbeats 16000000
set_option linter.defProp false
namespace Go.Proofs.YtcieggahhkoeeaaGreat.Ex
open Go
variable{c:Code}{f:Frame}{m:Mode}{g:FuncId}{fn:Func}{cm:Option Mode}
section
open Go Go.RowKit
variable {P:Program} {T:TT} {S:Qb} {ρ:Nat->Value} {fl:Nat} {μ μ':Mu} {h:AH} {w w':World} {rec:Ij}
section code
variable {fr:QC} {k:List AI} {out:Out} {h':AH}
def Oy(P:Program)(T:TT)(ρ:Nat->Value)(fl:Nat)(rec:Ij):Prop:=
 ∀(fr:QC) (id:Nat) (ops:Array Oper) (k:List AI) (h:AH) (out:Out) (h':AH),fr.todo= .code (.region id ops true)::k->j4U T ops=true->Yt rec fr (.regD ops (GV T ops) []::k) h=some (out,h')->QW P ρ fl fr h h' out
theorem j0D(hT:TT.Sound P T)(hNG:AJ P)(hrec:KQ P ρ fl rec)(hdraw:Oy P T ρ fl rec)(hfr:fr.todo= .code c::k)(hx:KJ P T rec fr k h c=some (out,h')):QW P ρ fl fr h h' out:=by
 cases c with
 |ret=>
  simp only[KJ,jP,jV]at hx;obtain⟨rfl,rfl⟩:=hx;exact Pn fun μ w f hr hf=>by obtain⟨l,t1,_⟩:=Zd hfr hf;exact⟨l,t1⟩
 |skip=>
  refine XU hrec hx fun μ w f cs hr hf=> ?_;obtain⟨l,t1,t2⟩:=Zd hfr hf;exact⟨l,t2,step_lone_go (by simp[stepG,stepG.exec,hf.mode,t1])⟩
 |label n=>
  refine XU hrec hx fun μ w f cs hr hf=> ?_;obtain⟨l,t1,t2⟩:=Zd hfr hf;exact⟨l,t2,step_lone_go (by simp[stepG,stepG.exec,hf.mode,t1])⟩
 |seq a b=>
  refine XU hrec hx fun μ w f cs hr hf=> ?_;obtain⟨l,t1,t2⟩:=Zd hfr hf;exact⟨.code a:: .code b::l,⟨_,_,rfl,rfl,_,_,rfl,rfl,t2⟩,step_lone_go (by simp[stepG,stepG.exec,hf.mode,t1])⟩
 |block id c=>
  refine XU hrec hx fun μ w f cs hr hf=> ?_;obtain⟨l,t1,t2⟩:=Zd hfr hf;exact⟨.code c:: .inBlock id::l,⟨_,_,rfl,rfl,_,_,rfl,rfl,t2⟩,step_lone_go (by simp[stepG,stepG.exec,hf.mode,t1])⟩
 |loop c=>
  refine XU hrec hx fun μ w f cs hr hf=> ?_;obtain⟨l,t1,t2⟩:=Zd hfr hf;exact⟨.code c:: .inLoop c::l,⟨_,_,rfl,rfl,_,_,rfl,rfl,t2⟩,step_lone_go (by simp[stepG,stepG.exec,hf.mode,t1])⟩
 |scope c=>
  refine XU hrec hx fun μ w f cs hr hf=> ?_;obtain⟨l,t1,t2⟩:=Zd hfr hf;exact⟨.code c:: .inScope c::l,⟨_,_,rfl,rfl,_,_,rfl,rfl,t2⟩,step_lone_go (by simp[stepG,stepG.exec,hf.mode,t1])⟩
 |cond c a b=>
  simp only[KJ,Wf]at hx;split at hx;case h_2=>cases hx
  rename_i t hc;refine XU hrec hx fun μ w f cs hr hf=> ?_;obtain⟨l,t1,t2⟩:=Zd hfr hf;have hv:=KE (EL hf.u c _ hc);refine⟨.code (if t then a else b)::l,⟨_,_,rfl,by cases t<;>rfl,t2⟩,step_lone_go (by simp[stepG,stepG.exec,hf.mode,t1,hv])⟩
 |exit id=>
  simp only[KJ,Wg]at hx;split at hx
  ·rename_i k' hk;refine XU hrec hx fun μ w f cs hr hf=> ?_;obtain⟨l,t1,t2⟩:=Zd hfr hf;obtain⟨l',e1,e2⟩:=GI t2 hk;exact⟨l',e2,step_lone_go (by simp[stepG,stepG.exec,hf.mode,t1,e1])⟩
  ·rename_i hk;simp only[jP,jV]at hx;obtain⟨rfl,rfl⟩:=hx;exact Pn fun μ w f hr hf=>by obtain⟨l,t1,t2⟩:=Zd hfr hf;exact⟨l,t1,GH t2 hk⟩
 |goto n=>
  simp only[KJ,fQ]at hx;split at hx
  ·rename_i k' hk;refine XU hrec hx fun μ w f cs hr hf=> ?_;obtain⟨l,t1,t2⟩:=Zd hfr hf;obtain⟨l',e1,e2⟩:=GM t2 hk;exact⟨l',e2,step_lone_go (by simp[stepG,stepG.exec,hf.mode,t1,e1])⟩
  ·cases hx
 |rangeFunc f0 params asg body=>exact oI hT hNG hrec hfr hx
 |region id ops draw=>
  simp only[KJ,HX]at hx
  cases draw with
  |true=>
   simp only[cond_true]at hx
   cases hok:j4U T ops with
   |false=>rw[hok]at hx;cases hx
   |true=>rw[hok]at hx;exact hdraw fr id ops k h out h' hfr hok hx
  |false=>
   simp only[cond_false]at hx;refine XU hrec hx fun μ w f cs hr hf=> ?_;obtain⟨l,t1,t2⟩:=Zd hfr hf;exact⟨.inRegion ops (List.range ops.size)::l,⟨_,_,rfl,rfl,t2⟩,step_lone_go (by simp[stepG,stepG.exec,hf.mode,t1])⟩
 |refuse why=>cases hx
theorem j0B(hT:TT.Sound P T)(hNG:AJ P)(hrec:KQ P ρ fl rec)(hdraw:Oy P T ρ fl rec)(hx:JW P T rec fr h=some (out,h')):QW P ρ fl fr h h' out:=by
 unfold JW at hx;split at hx
 ·rename_i hfr;simp only[jP,jV]at hx;obtain⟨rfl,rfl⟩:=hx;exact Pn fun μ w f hr hf=>by have:=hf.todo;rw[hfr]at this;exact this
 ·rename_i it k hfr;cases it with
  |code c=>exact j0D hT hNG hrec hdraw hfr hx
  |blk id=>
   refine XU hrec hx fun μ w f cs hr hf=> ?_;obtain⟨i,l,t1,t2,t3⟩:=Vh hfr hf;simp only[Yv]at t2;subst t2;exact⟨l,t3,step_lone_go (by simp[stepG,stepG.exec,hf.mode,t1])⟩
  |sc c=>
   refine XU hrec hx fun μ w f cs hr hf=> ?_;obtain⟨i,l,t1,t2,t3⟩:=Vh hfr hf;simp only[Yv]at t2;subst t2;exact⟨l,t3,step_lone_go (by simp[stepG,stepG.exec,hf.mode,t1])⟩
  |lp c=>
   refine XU hrec hx fun μ w f cs hr hf=> ?_;obtain⟨i,l,t1,t2,t3⟩:=Vh hfr hf;simp only[Yv]at t2;subst t2;exact⟨.code c:: .inLoop c::l,⟨_,_,rfl,rfl,_,_,rfl,rfl,t3⟩,step_lone_go (by simp[stepG,stepG.exec,hf.mode,t1])⟩
  |reg ops todo=>
   cases todo with
   |nil=>
    refine XU hrec hx fun μ w f cs hr hf=> ?_;obtain⟨i,l,t1,t2,t3⟩:=Vh hfr hf;simp only[Yv]at t2;subst t2;exact⟨l,t3,step_lone_go (by simp[stepG,stepG.exec,hf.mode,t1])⟩
   |cons i r=>exact j39 hT hNG hrec hfr hx
  |regD ops todo reads=>
   have nofr:∀{μ w f},El P ρ μ w fr f->False:=by intro μ w f hf;obtain⟨i,l,_,t2,_⟩:=Vh hfr hf;exact t2
   exact fun μ w f cs hr hf hc=>(nofr hf).elim
  |endRF l=>exact j38 hrec hfr hx
  |beginRound=>exact oB hrec hfr hx
end code
def Fj(rt:Array Value):ResultVar->Sem Value
 | .tmp t=>pure (rt.getD t undef)
 | .cell a t=>do loadVar t (<-asAddr (rt.getD a undef))
theorem bO(fn:Func)(rt:Array Value):results fn rt=(do let vs <-fn.results.mapM (Fj rt);pure (if h:vs.size=1 then vs[0]else .tuple vs)):=by
 have:(fun x:ResultVar=>match x with
  | .tmp t=>(pure (rt.getD t undef):Sem Value)
  | .cell a t=>do loadVar t (<-asAddr (rt.getD a undef)))=Fj rt:=by funext x;cases x<;>rfl
 rw[<-this];rfl
theorem Ae(hT:TT.Sound P T){tmps:TM}{rt:Array Value}(hr:HR P ρ fl μ h w)(ht:qF ρ μ w tmps.L rt.toList):∀{l:List ResultVar} {xs:List AV},ZN T h tmps l=some xs->
 ∃vs,(l.mapM (Fj rt)).run P w= .ok vs w/\qF ρ μ w xs vs
 |[],xs,hh=>by simp only[ZN,jP]at hh;subst hh;exact⟨[],rfl,rels_nil⟩
 | .tmp t::r,xs,hh=>by
   simp only[ZN,jT]at hh;obtain⟨l,h1,rfl⟩:=hh;obtain⟨vs,h2,h3⟩:=Ae hT hr ht h1;refine⟨rt.getD t undef::vs,?_,rels_cons ?_ h3⟩
   ·simp[List.mapM_cons,Fj,h2]
   ·have:=Fi t ht;rw[jU,YZ]at this;simpa using this
 | .cell a t::r,xs,hh=>by
   unfold ZN at hh;split at hh;case h_2=>cases hh
   rename_i b off l hb hl;simp only[jT]at hh;obtain⟨x,h1,rfl⟩:=hh;obtain⟨vs,h2,h3⟩:=Ae hT hr ht hl;have hv:=Fi a ht;rw[jU,YZ,hb]at hv;obtain⟨r1,base,m1,m2⟩:=yN hv;obtain⟨v',h4,h5⟩:=FV hT hr m1 h1;refine⟨v'::vs,?_,rels_cons h5 h3⟩;have m3:rt.getD a undef= .pointer (some ⟨r1,base+off,none⟩):=by simpa using m2
   have m4:(Fj rt (.cell a t)).run P w= .ok v' w:=by simp only[Fj,xU,m3,asAddr,KW,xT];exact h4
   rw[List.mapM_cons];simp[m4,h2]
theorem lW{l:List AV}{vs:List Value}(hl:qF ρ μ w l vs):rel ρ μ w (DN l) (if h:vs.toArray.size=1 then vs.toArray[0]else .tuple vs.toArray):=by
 unfold DN;split
 ·obtain⟨v,vs',rfl,h1,h2⟩:=xB hl;obtain rfl:=xM h2;exact h1
 ·rename_i hne
  have:vs.toArray.size≠1:=fun hh=>by
   have hlen:=vA hl;simp only[Dq]at hh;rw[hh]at hlen;match l,hlen with
   |[x],_=>exact hne x rfl
  rw[dif_neg this];unfold rel;exact⟨vs,rfl,hl⟩
theorem CT{cs:List Frame}(hm:f.mode≠ .run):stepG P true {frame:=f,callers:=cs,status:= .running,dying:=none} w=unwind P true f cs none w:=by
 unfold stepG;cases hq:f.mode with
 |run=>exact absurd hq hm
 |returning=>simp
 |panicking c=>simp
theorem SV{x:FrameMode}(hh:Uk ρ μ w m x):x≠ .run:=by
 cases m with
 |ret=>obtain rfl:x= .returning:=hh;simp
 |pan c=>obtain⟨c',rfl,_⟩:=hh;simp
theorem nN{cs:List Frame}{r:Nat}{ds:List Deferred}(hm:f.mode≠ .run)(hd:f.defers={target:= .collected r,args:= #[]}::ds)(hg:w.heap[r]? =some (.deferred (some []))):
 step P (lone f cs w)= .next (lone {f with defers:=ds} cs {w with heap:=w.heap.setIfInBounds r (.deferred none)}):=by
 refine step_lone_go ?_
 rw[CT hm]
 have ht:(Instr.takeDeferred r).run P w= .ok [] {w with heap:=w.heap.setIfInBounds r (.deferred none)}:=by simp[Instr.takeDeferred,getObj,setObj,Sem.run,hg]
 simp[unwind,hd,ht]
theorem bW{cs:List Frame}{d:Deferred}{ds:List Deferred}{args:Array Value}(hm:f.mode≠ .run)(hd:f.defers=d::ds)(ht:∃fn c,d.target= .fn fn c)(hr:(invoke d.target d.args).run P w= .ok (.enter g args) w):
 step P (lone f cs w)= .next (lone (Frame.enter P g args .deferred) ({f with defers:=ds}::cs) w):=by
 refine step_lone_go ?_
 rw[CT hm]
 obtain⟨fn,c,ht⟩:=ht
 obtain⟨dt,da⟩:=d
 simp only at ht
 subst ht
 simp[unwind,hd,callDeferred,hr]
def j3u(m:Mode):End->Mode
 | .ret _=>PV m
 | .pan c=>PL m c
theorem cL(hT:TT.Sound P T)(hNG:AJ P)(hrec:KQ P ρ fl rec){fr:QC}{out:Out}{h':AH}(hx:Vo P T rec fr m h=some (out,h')):Es P ρ fl (.unwind fr m) h out h':=by
 unfold Vo at hx;split at hx
 ·rename_i hds;cases m with
  |ret=>
   simp only[ME]at hx;split at hx;case h_2=>cases hx
   rename_i fn hfn;simp only[jT,jV]at hx;obtain⟨l,h1,rfl,rfl⟩:=hx;refine fun hro μ w f cs hr hu hm hc=>⟨rfl,μ,w,f,cs,yD.refl hr,.refl P _,⟨hu.fn,?_,hu.kind,hm,?_⟩,Qf.refl hc⟩
   ·have:=hu.defers;rw[hds]at this;exact this
   ·obtain⟨vs,q1,q2⟩:=Ae hT hr hu.tmps h1;refine⟨fn,_,hfn,?_,lW q2⟩;rw[bO,xU,Array.mapM_eq_mapM_toList];simp[q1]
  |pan c=>
   simp only at hx;split at hx;case h_2=>cases hx
   rename_i fn hfn;simp only[jP,jV]at hx;obtain⟨rfl,rfl⟩:=hx;refine fun hro μ w f cs hr hu hm hc=>⟨rfl,μ,w,f,cs,yD.refl hr,.refl P _,⟨hu.fn,?_,hu.kind,?_⟩,Qf.refl hc⟩
   ·have:=hu.defers;rw[hds]at this;exact this
   ·obtain⟨c',e1,e2⟩:=hm;exact⟨c',fn,e1,hfn,e2⟩
 ·rename_i b ds hds;split at hx;case h_2=>cases hx
  rename_i hb;have ih:=hrec _ _ _ _ hx;cases out with
  |left j fr'=>exact ih.elim
  |raised c fr'=>exact ih.elim
  |ended e cm=>
   intro hro μ w f cs hr hu hm hc;have hd:=hu.defers;rw[hds]at hd;obtain⟨d,ds',d1,⟨r,d2,rfl⟩,d3⟩:=hd;obtain⟨_,hlt,o,o1,o2⟩:=hr.obj b r 0 _ d2 hb;obtain⟨rfl,_⟩:=o2;have hst:=nN (P:=P) (cs:=cs) (SV hm) d1 o1;have hone:MJ r w {w with heap:=w.heap.setIfInBounds r (.deferred none)}:=by
    refine⟨by simp,fun k hk=> ?_,fun k cur e fz hk=> ?_,⟨rfl,rfl,rfl⟩⟩
    ·show(w.heap.setIfInBounds r (.deferred none))[k]? =_;rw[qZ,if_neg (Ne.symm hk)]
    ·have hne:r≠k:=fun e'=>by subst e';rw[o1]at hk;cases hk
     exact⟨cur,e,fz,by show(w.heap.setIfInBounds r (.deferred none))[k]? =_;rw[qZ,if_neg hne];exact hk,rfl⟩
   have heff:yD P ρ fl μ h w μ (h.put b .gone) {w with heap:=w.heap.setIfInBounds r (.deferred none)}:=yD.upd hr d2 hb rfl hone (o':= .deferred none) (by simp[hlt]) trivial;have hu2:=hu.mono heff.more heff.grows;obtain⟨q0,μ2,w2,f2,cs2,q1,q2,q3,q4⟩:=ih hro μ _ {f with defers:=ds'} cs heff.hr ⟨hu2.fn,hu2.tmps,d3.mono heff.more heff.grows,hu2.kind,hu2.round,hu2.rc⟩ (hm.mono heff.more heff.grows) (hc.mono heff.more heff.grows);exact⟨q0,μ2,w2,f2,cs2,heff.trans hr q1,.head hst q2,q3,q4⟩
 ·rename_i g args ds hds;cases hcall:rec (.call g args (some m)) h with
  |none=>rw[hcall]at hx;cases hx
  |some p=>
   obtain⟨out1,h2⟩:=p
   have ih1:=hrec _ _ _ _ hcall
   cases out1 with
   |left j fr'=>exact ih1.elim
   |raised c fr'=>exact ih1.elim
   |ended e cm=>
    obtain⟨⟨fn,b,i2,i3⟩,i4⟩:=ih1
    rw[hcall]at hx
    cases cm with
    |none=>cases e<;>cases hx
    |some m'=>
     have key:∀μ w f cs,HR P ρ fl μ h w->Rm P ρ μ w fr f->Uk ρ μ w m f.mode->cmR ρ μ w fr.cm cs->∃(μ1:Mu) (w1:World) (ds':List Deferred) (mo:FrameMode),yD P ρ fl μ h w μ1 h2 w1/\IH P ρ μ1 w1 ds ds'/\
      Uk ρ μ1 w1 (j3u m' e) mo/\Steps P (lone f cs w) (lone {f with defers:=ds',mode:=mo} cs w1):=fun μ w f cs hr hu hm hc=>by
      have hd:=hu.defers
      rw[hds]at hd
      obtain⟨d,ds',d1,⟨d2,args',d3,d4⟩,d5⟩:=hd
      have hin:=d4 w
      rw[Cn hNG i2 i3]at hin
      have hst:=bW (cs:=cs) (SV hm) d1 d2 hin
      obtain⟨_,μ1,w1,f1,cs1,q1,q2,q3,c,r,mo,q4,q5,q6⟩:=i4 μ w ({f with defers:=ds'}::cs) args' hr d3 ⟨_,_,rfl,hm⟩
      obtain⟨rfl,rfl⟩:=UN q4
      subst q5
      cases e with
      |ret v=>
       obtain⟨mo2,r1,r2⟩:=SI (c:={f with defers:=ds',mode:=mo}) (cs:=cs) q3 q6;exact⟨μ1,w1,ds',mo2,q1,d5.mono q1.more q1.grows,r1,.head hst (q2.trans (.one r2))⟩
      |pan ch=>
       obtain⟨ch',r1,r2⟩:=NQ (c:={f with defers:=ds',mode:=mo}) (cs:=cs) q3;obtain⟨mo2,r3,r4⟩:=bJ (c:={f with defers:=ds',mode:=mo}) q6 r1;rw[r3]at r2;exact⟨μ1,w1,ds',mo2,q1,d5.mono q1.more q1.grows,r4,.head hst (q2.trans (.one r2))⟩
     have fin2:∀m2,m2=(j3u m' e)->rec (.unwind {fr with defers:=ds} m2) h2=some (out,h')->Es P ρ fl (.unwind fr m) h out h':=fun m2 hm2 hx2=>by
      have ih2:=hrec _ _ _ _ hx2;cases out with
      |left j fr'=>exact ih2.elim
      |raised c fr'=>exact ih2.elim
      |ended e2 cm2=>
       intro hro μ w f cs hr hu hm hc;obtain⟨μ1,w1,ds',mo,q1,q2,q3,q4⟩:=key μ w f cs hr hu hm hc;have hu2:=hu.mono q1.more q1.grows;obtain⟨r0,μ2,w2,f2,cs2,r1,r2,r3,r4⟩:=ih2 hro μ1 w1 {f with defers:=ds',mode:=mo} cs q1.hr ⟨hu2.fn,hu2.tmps,q2,hu2.kind,hu2.round,hu2.rc⟩ (hm2▸q3) (hc.mono q1.more q1.grows);exact⟨r0,μ2,w2,f2,cs2,q1.trans hr r1,q4.trans r2,r3,r4⟩
     cases e with
     |ret v=>exact fin2 _ rfl hx
     |pan c=>exact fin2 _ rfl hx
theorem FM(hf:P.funcs[g]? =some fn)(hb:fn.body=some c){args:List AV}{args':List Value}(ha:qF ρ μ w args args')(cm:Option Mode):
 El P ρ μ w {fn:=g,tmps:=TM.ofL args (fn.ntmps-args.length),todo:=[.code c],defers:=[],cm,roundOf:=none} (Frame.enter P g args'.toArray (Ui cm)):=by
 refine⟨⟨rfl,?_,rfl,rfl,rfl,fun hh=>by cases hh⟩,?_,rfl⟩
 ·have hlen:=vA ha;simp only[Frame.enter,hf,qD,Jn,Array.toList_append,Array.toList_replicate,Dq,hlen,eK];exact Xm ha (Md _ Kg)
 ·simp only[Frame.enter,hf,Kp,hb,Jn];exact⟨_,_,rfl,rfl,rfl⟩
def Uu(P:Program)(ρ:Nat->Value)(fl:Nat)(S:Qb):Prop:=∀f g args h v h',S f=some g->g args h=some (v,h')->∀μ w args',HR P ρ fl μ h w->qF ρ μ w args args'->
 Calls P f args'.toArray w fun e w'=>∃μ' v',e= .returned v'/\yD P ρ fl μ h w μ' h' w'/\rel ρ μ' w' v v'
theorem j0C(hS:Uu P ρ fl S)(hrec:KQ P ρ fl rec){args:List AV}{out:Out}{h':AH}(hx:Bi P S rec g args cm h=some (out,h')):Es P ρ fl (.call g args cm) h out h':=by
 unfold Bi at hx;split at hx;case h_2=>cases hx
 rename_i fn hfn;split at hx;case h_2=>cases hx
 rename_i c hb;cases hs:S g with
 |some s=>
  rw[hs]at hx
  cases cm with
  |some m=>cases hx
  |none=>
   simp only[jT,jV]at hx;obtain⟨⟨v,h2⟩,h1,rfl,rfl⟩:=hx;refine⟨⟨fn,c,hfn,hb⟩,fun μ w cs args' hr ha hc=>⟨rfl,?_⟩⟩;obtain⟨e,w',f',⟨μ',v',rfl,r1,r2⟩,q2,q3,q4⟩:=hS g s args h v h2 hs h1 μ w args' hr ha cs;obtain⟨s1,s2,s3,fn2,s4,s5⟩:=q4;subst q3;exact⟨μ',w',f',cs,r1,q2,⟨rfl,s2,s3,s1,fn2,v',s4,s5,r2⟩,rfl⟩
 |none=>
  rw[hs]at hx
  change MC rec cm (rec (.body {fn:=g,tmps:=TM.ofL args (fn.ntmps-args.length),todo:=[.code c],defers:=[],cm,roundOf:=none}) h)=some (out,h')at hx
  generalize hbody:rec (.body {fn:=g,tmps:=TM.ofL args (fn.ntmps-args.length),todo:=[.code c],defers:=[],cm,roundOf:=none}) h=rb at hx
  cases rb with
  |none=>cases hx
  |some p=>
   obtain⟨out1,h2⟩:=p
   have ih:QW P ρ fl _ h h2 out1:=hrec _ _ _ _ hbody
   have fin2:∀(fr2:QC) (m:Mode),(∀μ w cs args',HR P ρ fl μ h w->qF ρ μ w args args'->cmR ρ μ w cm cs->fr2.fn=g/\fr2.roundOf=none/\fr2.cm.isSome=cm.isSome/\∃μ1 w1 f1 cs1,yD P ρ fl μ h w μ1 h2 w1/\Steps P (lone (Frame.enter P g args'.toArray (Ui cm)) cs w) (lone f1 cs1 w1)/\Rm P ρ μ1 w1 fr2 f1/\Uk ρ μ1 w1 m f1.mode/\Qf ρ μ1 w1 fr2.cm cs cs1)->
    rec (.unwind fr2 m) h2=some (out,h')->Es P ρ fl (.call g args cm) h out h':=fun fr2 m hgo hx2=>by
    have ih2:=hrec _ _ _ _ hx2
    cases out with
    |left j fr'=>exact ih2.elim
    |raised c fr'=>exact ih2.elim
    |ended e cm'=>
     refine⟨⟨fn,c,hfn,hb⟩,fun μ w cs args' hr ha hc=> ?_⟩;obtain⟨g1,g2,g3,μ1,w1,f1,cs1,q1,q2,q3,q4,q5⟩:=hgo μ w cs args' hr ha hc;obtain⟨r0,μ2,w2,f2,cs2,r1,r2,r3,r4⟩:=ih2 g2 μ1 w1 f1 cs1 q1.hr q3 q4 q5.cmR;have hk:Ui fr2.cm=Ui cm:=by cases hq:fr2.cm<;>cases cm<;>simp_all [Ui]
     rw[g1,hk]at r3;exact⟨r0.trans g3,μ2,w2,f2,cs2,q1.trans hr r1,q2.trans r2,r3,q5.trans r4 r0⟩
   cases out1 with
   |ended e cm1=>cases hx
   |left j fr2=>
    have hj:(j=none\/j=some .ret)/\rec (.unwind fr2 .ret) h2=some (out,h'):=by
     cases j with
     |none=>exact⟨.inl rfl,hx⟩
     |some c=>cases c<;>first|exact⟨.inr rfl,hx⟩|cases hx
    refine fin2 fr2 .ret (fun μ w cs args' hr ha hc=> ?_) hj.2;obtain⟨⟨s1,s2,s3⟩,μ1,w1,f1,cs1,q1,q2,q3,q4,q5,q6⟩:=ih μ w _ cs hr (FM hfn hb ha cm) hc;have hron:f1.roundOf=none:=by have:=q3.round;rw[s2]at this;exact this
    refine⟨s1,s2,s3,μ1,w1,{f1 with mode:= .returning},cs1,q1,q2.trans (.one (step_lone_go ?_)),⟨q3.fn,q3.tmps,q3.defers,q3.kind,q3.round,q3.rc⟩,rfl,q6⟩;rcases hj.1 with rfl|rfl
    ·have q5:f1.todo=[]:=q5;simp[stepG,stepG.exec,q4,q5,hron]
    ·obtain⟨k,q5⟩:=q5;simp[stepG,stepG.exec,q4,q5,hron]
   |raised c2 fr2=>
    refine fin2 fr2 (.pan c2) (fun μ w cs args' hr ha hc=> ?_) hx;obtain⟨⟨s1,s2,s3⟩,μ1,w1,f1,cs1,c',q1,q2,q3,q4,q5,q6⟩:=ih μ w _ cs hr (FM hfn hb ha cm) hc;exact⟨s1,s2,s3,μ1,w1,f1,cs1,q1,q2,q3,⟨c',q4,q5⟩,q6⟩
theorem DX:∀{ps:List Tmp} {args:List AV} {args':List Value} {tmps:TM} {rt:Array Value},qF ρ μ w tmps.L rt.toList->qF ρ μ w args args'->
 qF ρ μ w (Qu tmps ps args).L ((ps.zip args').foldl (fun(t:Array Value) (p:Tmp×Value)=>t.setIfInBounds p.1 p.2) rt).toList
 |[],args,args',tmps,rt,ht,ha=>by simpa [Qu]using ht
 |t::ts,[],args',tmps,rt,ht,ha=>by rw[xM ha];simpa [Qu]using ht
 |t::ts,a::as',args',tmps,rt,ht,ha=>by obtain⟨v,vs,rfl,h1,h2⟩:=xB ha;simp only[Qu,List.zip_cons_cons,Vp];exact DX (by rw[Array.toList_setIfInBounds,Gv];exact Me t ht h1) h2
theorem oL{rl:Nat}{x:Loop}(hg:w.heap[rl]? =some (.loop x)){args:List Value}(hl:args.length=x.params.size):
 (Instr.yield rl args.toArray).run P w= .ok (.round rl x.fn ((x.params.toList.zip args).foldl (fun(t:Array Value) (p:Tmp×Value)=>t.setIfInBounds p.1 p.2) x.tmps) x.assign x.body) w:=by
 have e1:(x.params.zip args.toArray).foldl (fun(t:Array Value) (p:Tmp×Value)=>t.setIfInBounds p.1 p.2) x.tmps=(x.params.toList.zip args).foldl (fun(t:Array Value) (p:Tmp×Value)=>t.setIfInBounds p.1 p.2) x.tmps:=by rw[<-Array.foldl_toList,Array.toList_zip]
 rw[<-e1]
 simp[Instr.yield,Cv hg,hl]
theorem oK(hrec:KQ P ρ fl rec){l:Nat}{args:List AV}{out:Out}{h':AH}(hx:Fw P rec l args h=some (out,h')):Es P ρ fl (.round l args) h out h':=by
 unfold Fw at hx;split at hx;case h_2=>cases hx
 rename_i lo hl;split at hx;case isFalse=>cases hx
 rename_i hlen;generalize hbody:rec (.body {fn:=lo.fn,tmps:=Qu lo.tmps lo.params args,todo:=[.code lo.assign,.beginRound,.code lo.body],defers:=[],cm:=none,roundOf:=some l}) h=rb at hx;cases rb with
 |none=>cases hx
 |some p=>
  obtain⟨out1,h2⟩:=p
  have ih:QW P ρ fl _ h h2 out1:=hrec _ _ _ _ hbody
  have key:∀μ w (c:Frame) (cs:List Frame) args' rl,HR P ρ fl μ h w->μ l=some (rl,0)->qF ρ μ w args args'->∃g tmps asg body,(Instr.yield rl args'.toArray).run P w= .ok (.round rl g tmps asg body) w/\
   El P ρ μ w {fn:=lo.fn,tmps:=Qu lo.tmps lo.params args,todo:=[.code lo.assign,.beginRound,.code lo.body],defers:=[],cm:=none,roundOf:=some l} (Frame.round rl g tmps asg body .normal):=fun μ w c cs args' rl hr hm ha=>by
   obtain⟨x,g1,g3,g4,g5,g6,g7,g8,g9⟩:=Cw hr hm hl
   have hpl:x.params.size=lo.params.length:=by rw[<-g7,qU]
   refine⟨x.fn,_,x.assign,x.body,oL g1 (by rw[vA ha,hlen,hpl]),⟨⟨g5,?_,rfl,rfl,⟨rl,hm,rfl⟩,fun _=>rfl⟩,?_,rfl⟩⟩
   ·have:=DX (ps:=lo.params) g6 ha;rw[<-g7]at this ⊢;exact this
   ·exact⟨_,_,by rw[<-g8,<-g9];rfl,rfl,_,_,rfl,rfl,_,_,rfl,rfl,rfl⟩
  cases out1 with
  |ended e cm1=>cases hx
  |left j fr2=>
   simp only[Rg]at hx
   split at hx
   case h_2=>cases hx
   rename_i lo2 hl2
   simp only[jP,jV]at hx
   obtain⟨rfl,rfl⟩:=hx
   refine⟨rfl,fun μ w c cs args' rl hr hm ha=> ?_⟩
   obtain⟨g,tmps,asg,body,k1,k2⟩:=key μ w c cs args' rl hr hm ha
   obtain⟨⟨s1,s2,s3⟩,μ1,w1,f1,cs1,q1,q2,q3,q4,q5,q6⟩:=ih μ w _ (c::cs) hr k2 trivial
   have hcm:fr2.cm=none:=by cases hq:fr2.cm with|none=>rfl|some x=>rw[hq]at s3;cases s3
   rw[hcm]at q6
   have q6:cs1=c::cs:=q6
   subst q6
   have hm1:=q1.more _ _ hm
   have hron:f1.roundOf=some rl:=by have:=q3.round;rw[s2]at this;obtain⟨k,m1,m2⟩:=this;rw[hm1]at m1;rw[m2];exact congrArg some (Prod.mk.inj (jS m1)).1.symm
   have hkind:f1.kind= .normal:=by rw[q3.kind,hcm];rfl
   obtain⟨x,g1,g3,g4,g5,g6,g7,g8,g9⟩:=Cw q1.hr hm1 hl2
   have heff:=Ls (lo':={lo2 with state:=if j.isNone then .ready else .done,pending:=j}) (x':={x with state:=if j.isNone then .ready else .done,pending:=j}) q1.hr hm1 hl2 g1 ⟨rfl,rfl,g5,g6,g7,g8,g9⟩
   have hend:(Instr.endRound rl j).run P w1= .ok (.bool j.isNone) {w1 with heap:=w1.heap.setIfInBounds rl (.loop {x with state:=if j.isNone then .ready else .done,pending:=j})}:=by simp[Instr.endRound,Cv g1,(Uo (P:=P) g1 _).2.2]
   refine⟨g,tmps,asg,body,k1,μ1,_,q1.trans hr heff,.bool j.isNone,vN rfl,q2.trans (.one (step_lone_go ?_))⟩
   cases j with
   |none=>
    have q5:f1.todo=[]:=q5;simp[stepG,stepG.exec,q4,q5,hron,hend,doReturn,hkind]
   |some code=>
    cases code with
    |ret=>
     obtain⟨k,q5⟩:=q5;simp[stepG,stepG.exec,q4,q5,hron,hend,doReturn,hkind]
    |exit id=>
     obtain⟨k,q5,q7⟩:=q5;simp[stepG,stepG.exec,q4,q5,q7,hron,hend,doReturn,hkind]
    |_=>exact q5.elim
  |raised ch fr2=>
   simp only[Rg]at hx;split at hx;case isFalse=>cases hx
   rename_i hde;simp only[jP,jV]at hx;obtain⟨rfl,rfl⟩:=hx;simp only[jW]at hde;refine⟨rfl,fun μ w c cs args' rl hr hm ha=> ?_⟩;obtain⟨g,tmps,asg,body,k1,k2⟩:=key μ w c cs args' rl hr hm ha;obtain⟨⟨s1,s2,s3⟩,μ1,w1,f1,cs1,c',q1,q2,q3,q4,q5,q6⟩:=ih μ w _ (c::cs) hr k2 trivial;have hcm:fr2.cm=none:=by cases hq:fr2.cm with|none=>rfl|some x=>rw[hq]at s3;cases s3
   rw[hcm]at q6;have q6:cs1=c::cs:=q6;subst q6;have hdf:f1.defers=[]:=by
    have:=q3.defers;have he:fr2.defers=[]:=by simpa using hde.1
    rw[he]at this;exact this
   obtain⟨fn,hfn⟩:=Option.isSome_iff_exists.1 hde.2;have hfn2:P.funcs[f1.fn]? =some fn:=by rw[q3.fn];exact hfn
   exact⟨g,tmps,asg,body,k1,μ1,w1,q1,c',q5,q2.trans (.one (step_lone_go (by simp[stepG,unwind,Frame.catches,q4,hdf,hfn2])))⟩
theorem j0F(hT:TT.Sound P T)(hNG:AJ P)(hS:Uu P ρ fl S)(hrec:KQ P ρ fl rec)(hdraw:Oy P T ρ fl rec):KQ P ρ fl (Hi P T S rec):=by
 intro t h out h' hx;cases t with
 |call g args cm=>exact j0C hS hrec hx
 |body fr=>exact j0B hT hNG hrec hdraw hx
 |unwind fr m=>exact cL hT hNG hrec hx
 |round l args=>exact oK hrec hx
end
section
open Go Go.RowKit
variable {P:Program} {T:TT} {ρ:Nat->Value} {fl:Nat} {μ μ':Mu} {h:AH} {w w':World} {t1 t2:TM} {o:Oper}
theorem Vs:∀{l:List Operand},(∀x∈l,xJ t1 x=xJ t2 x)->XS t1 l=XS t2 l
 |[],_=>rfl
 |x::r,hh=>by simp only[XS];rw[hh x (by simp),Vs (fun y hy=>hh y (by simp[hy]))]
theorem VL:∀{l:List (Nat×Operand)},(∀x∈l.map (·.2),xJ t1 x=xJ t2 x)->Jk t1 l=Jk t2 l
 |[],_=>rfl
 |(i,x)::r,hh=>by simp only[Jk];rw[hh x (by simp),VL (fun y hy=>hh y (by simp at hy ⊢;exact .inr hy))]
theorem Ct:∀{l:List Operand},(∀x∈l,xJ t1 x=xJ t2 x)->JK t1 l=JK t2 l
 |[],_=>rfl
 |x::r,hh=>by simp only[JK];rw[hh x (by simp),Ct (fun y hy=>hh y (by simp[hy]))]
theorem SL(hh:∀x∈o.op.operands,xJ t1 x=xJ t2 x):yU P o t1=yU P o t2:=by
 unfold yU;rw[Ct (fun x hx=>hh x (by simpa using hx))];cases hs:Zs o.op with
 |false=>rfl
 |true=>
  rw[execOp_congr (ρ:=qI t1) (ρ':=qI t2) o (fun cs b hcs=>by rw[hcs]at hs;cases hs) (fun x hx=>by simp only[qI];rw[hh x hx])]
theorem Qk{k1 k2:Unit->AR}(hh:∀x∈o.op.operands,xJ t1 x=xJ t2 x)(hk:k1 ()=k2 ()):yR P o t1 h k1=yR P o t2 h k2:=by
 unfold yR;rw[SL hh];split
 ·rfl
 ·exact hk
theorem GS{x:Option Operand}(hh:∀y∈x.toArray,xJ t1 y=xJ t2 y):Qz t1 x=Qz t2 x:=by
 cases x with
 |none=>rfl
 |some y=>
  have:=hh y (by simp);simp only[Qz];rw[this]
theorem UQ(hh:∀x∈o.op.operands,xJ t1 x=xJ t2 x):Js P T o t1 h=Js P T o t2 h:=by
 obtain⟨dst,op,ty,pos,after,guard⟩:=o;cases op<;>simp only[Js];case move x=>rw[hh x (by simp[Op.operands])]
 case assign x=>rw[hh x (by simp[Op.operands])]
 case pick c a b=>
  simp only[FA];rw[hh c (by simp[Op.operands]),hh a (by simp[Op.operands]),hh b (by simp[Op.operands])]
 case box t x=>simp only[OH];rw[hh x (by simp[Op.operands])]
 case build t ps=>
  simp only[Gw];rw[VL (fun x hx=>hh x (by simpa [Op.operands]using hx))]
 case buildSlice t m ps=>
  simp only[Zo];rw[VL (fun x hx=>hh x (by simpa [Op.operands]using hx))]
 case load t a=>simp only[AP];rw[hh a (by simp[Op.operands])]
 case store t a x=>
  simp only[Bu];rw[hh a (by simp[Op.operands]),hh x (by simp[Op.operands])]
 case nilCheck x=>
  simp only[Qo];rw[hh x (by simp[Op.operands]),Qk hh rfl]
 case binOp op t x y yt=>
  have e1:=hh x (by simp[Op.operands]);have e2:=hh y (by simp[Op.operands]);simp only[XK,UP];rw[e1,e2,Qk hh rfl]
 case unOp op t x=>simp only[j3m];rw[hh x (by simp[Op.operands])]
 case convert src dst x=>
  simp only[JS];rw[hh x (by simp[Op.operands])];split
  ·split
   ·rfl
   ·exact Qk hh rfl
  ·exact Qk hh rfl
  ·rfl
 case makeInterface t x=>simp only[Xc];rw[hh x (by simp[Op.operands])]
 case makeFunc f a b=>
  simp only[Kc];rw[Vs (fun x hx=>hh x (by simp[Op.operands];left;simpa using hx)),Vs (fun x hx=>hh x (by simp[Op.operands];right;simpa using hx))]
 case makeSlice t l c=>
  simp only[Zf];rw[hh l (by simp[Op.operands]),hh c (by simp[Op.operands])]
 case slice t x lo hi mx=>
  simp only[Qy];have e1:=hh x (by simp[Op.operands]);have e2:Qz t1 lo=Qz t2 lo:=GS (fun y hy=>hh y (by simp[Op.operands]at hy ⊢;simp[hy]));have e3:Qz t1 hi=Qz t2 hi:=GS (fun y hy=>hh y (by simp[Op.operands]at hy ⊢;simp[hy]));have e4:Qz t1 mx=Qz t2 mx:=GS (fun y hy=>hh y (by simp[Op.operands]at hy ⊢;simp[hy]));refine Qk hh ?_;rw[e1,e2,e3,e4]
 case fieldAddr t x i=>simp only[Xp];rw[hh x (by simp[Op.operands])]
 case field t x i=>simp only[Gx];rw[hh x (by simp[Op.operands])]
 case indexAddr t x ix=>
  simp only[ZQ];rw[hh x (by simp[Op.operands]),hh ix (by simp[Op.operands])]
 case index t x ix=>
  simp only[Yr];have e1:=hh x (by simp[Op.operands]);have e2:=hh ix (by simp[Op.operands]);refine Qk hh ?_;rw[e1,e2]
 case lookup t m k ok=>
  simp only[Ks];rw[hh m (by simp[Op.operands]),hh k (by simp[Op.operands])]
 case mapUpdate t m k x=>
  simp only[VY];rw[hh m (by simp[Op.operands]),hh k (by simp[Op.operands]),hh x (by simp[Op.operands])]
 case insert t m k x=>
  simp only[VY];rw[hh m (by simp[Op.operands]),hh k (by simp[Op.operands]),hh x (by simp[Op.operands])]
 case extract x i=>simp only[Vr];rw[hh x (by simp[Op.operands])]
 case range t x=>simp only[Ip];rw[hh x (by simp[Op.operands])]
 case entry x=>simp only[Im];rw[hh x (by simp[Op.operands])]
 case next x s=>simp only[Rz];rw[hh x (by simp[Op.operands])]
 case typeAssert x xt t ok=>simp only[Af];rw[hh x (by simp[Op.operands])]
 case panic x=>simp only[Io];rw[hh x (by simp[Op.operands])]
 case call c=>
  obtain⟨callee,args,at'⟩:=c
  have e1:XS t1 args.toList=XS t2 args.toList:=Vs (fun x hx=>hh x (by simp[Op.operands,Call.operands];right;simpa using hx))
  cases callee with
  |builtin b=>
   simp only[Qd,Zt];rw[e1,Qk hh rfl]
  |value f=>
   simp only[Qd];rw[e1,hh f (by simp[Op.operands,Call.operands])]
  |invoke r name=>
   simp only[Qd];rw[e1,hh r (by simp[Op.operands,Call.operands])]
 case defer c=>
  obtain⟨callee,args,at'⟩:=c
  have e1:XS t1 args.toList=XS t2 args.toList:=Vs (fun x hx=>hh x (by simp[Op.operands,Call.operands];right;simpa using hx))
  cases callee with
  |builtin b=>rfl
  |value f=>
   simp only[Il];rw[e1,hh f (by simp[Op.operands,Call.operands])]
  |invoke r name=>rfl
 case makeMap t r=>cases r<;>rfl
theorem Nl{ops:Array Oper}(hh:∀j want d,o.guard=some (j,want)->(ops[j]?).bind (·.dst)=some d->t1.at d=t2.at d):yQ ops t1 o=yQ ops t2 o:=by
 unfold yQ;split
 ·rfl
 ·rename_i j want hg;split
  ·rename_i d hd;rw[hh j want d hg hd]
  ·rfl
end
variable{x y:Operand}{op:BinOp}{t e:TypeId}{a v:AV}
section
open Go Go.RowKit
variable {P:Program} {T:TT} {ρ:Nat->Value} {fl:Nat} {μ μ':Mu} {h:AH} {w w':World} {tmps:TM} {o:Oper} {n:AN} {h1:AH}
def j4z(x:AR)(h:AH):AR:=x.map fun p=>(p.1,h)
theorem XG{k1 k2:Unit->AR}(hk:k1 ()=j4z (k2 ()) h):yR P o tmps h k1=j4z (yR P o tmps .nil k2) h:=by
 unfold yR;split
 ·rfl
 ·exact hk
theorem Ug(x:Option AV):val h x=j4z (val .nil x) h:=by cases x<;>rfl
theorem SA:UP T tmps h op t x y=j4z (UP T tmps .nil op t x y) h:=by
 unfold UP;split
 ·split<;>rfl
 ·rfl
theorem aG{x:AV}{lo hi mx:Option Nat}:Ua T h t x lo hi mx=j4z (Ua T .nil t x lo hi mx) h:=by
 unfold Ua;split
 ·split
  ·cases Uc _ _<;>rfl
  ·rfl
 ·split
  ·cases Nat.ble _ _<;>rfl
  ·rfl
 ·rfl
theorem FH{src dst:TypeId}{x:AV}(hk:(match und T src,und T dst with
 |some (.slice _),some .string=>Kind.reads
 |some .string,some (.slice _)|some (.slice _),some (.slice _)=> .acts
 |_,_=> .still)= .still):Yq T h src dst x=none:=by
 unfold Yq
 split
 ·rename_i hs hd;rw[hs,hd]at hk;cases hk
 ·rename_i hs hd;rw[hs,hd]at hk;cases hk
 ·rename_i hs hd;rw[hs,hd]at hk;cases hk
 ·rfl
theorem Oq(hk:vB T o= .still):Js P T o tmps h=j4z (Js P T o tmps .nil) h:=by
 obtain⟨dst,op,ty,pos,after,guard⟩:=o;cases op<;>simp only[vB,reduceCtorEq]at hk<;>simp only[Js];case move x=>exact Ug _
 case assign x=>exact Ug _
 case pick c a b=>
  simp only[FA];split
  ·exact Ug _
  ·rfl
 case build t ps=>
  simp only[Gw];split
  ·exact Ug _
  ·rfl
 case nilCheck x=>
  simp only[Qo];split<;>first|rfl|exact XG rfl
 case binOp op t x y yt=>
  simp only[XK];split
  ·exact XG SA
  ·unfold BM;split
   ·cases BN _<;>rfl
   ·cases Ba _<;>rfl
   ·rfl
  ·exact Ug _
  ·exact XG SA
 case unOp op t x=>
  simp only[j3m];split
  ·unfold BM;split
   ·cases BN _<;>rfl
   ·cases Ba _<;>rfl
   ·rfl
  ·rfl
 case convert src dst x=>
  simp only[JS];split
  ·split
   ·rfl
   ·exact XG rfl
  ·exact XG (by rw[FH hk,FH hk];rfl)
  ·rfl
 case makeInterface t x=>
  simp only[Xc];split<;>rfl
 case makeFunc f a b=>
  simp only[Kc];split
  ·cases DM f<;>rfl
  ·rfl
 case slice t x lo hi mx=>
  simp only[Qy];refine XG ?_;split
  ·exact aG
  ·rfl
 case fieldAddr t x i=>
  simp only[Xp];split
  ·split
   ·split<;>rfl
   ·rfl
  ·rfl
 case field t x i=>
  simp only[Gx];split
  ·split
   ·exact Ug _
   ·rfl
  ·rfl
 case indexAddr t x ix=>
  simp only[ZQ];split
  ·split
   ·split<;>rfl
   ·rfl
  ·split
   ·split<;>rfl
   ·rfl
  ·rfl
 case index t x ix=>
  simp only[Yr];refine XG ?_;split
  ·split
   ·split
    ·exact Ug _
    ·rfl
   ·rfl
  ·rfl
 case typeAssert x xt t ok=>
  simp only[Af];split
  ·split
   ·split
    ·split<;>rfl
    ·rfl
   ·cases Nat.beq _ _
    ·cases ok<;>rfl
    ·rfl
  ·cases ok<;>rfl
  ·rfl
 case extract x i=>
  simp only[Vr];split
  ·exact Ug _
  ·rfl
 case call c=>
  obtain⟨callee,args,at'⟩:=c
  cases callee with
  |value f=>cases hk
  |invoke r name=>cases hk
  |builtin b=>
   have key:b= .len\/b= .min\/b= .max:=by cases b<;>simp at hk ⊢
   rcases key with rfl|rfl|rfl
   ·simp only[Qd,Zt];split;case h_5=>split<;>rfl
    case h_6=>
     rename_i b1 t1 r1 hb1 ha1 ht1;split
     ·rename_i hu hb;exfalso;have h3:at'[0]? =some t1:=by rw[<-xN,ht1];rfl
      simp only[h3,Kp,hu]at hk;cases hk
     ·split
      ·rename_i hu hb;exfalso;have h3:at'[0]? =some t1:=by rw[<-xN,ht1];rfl
       simp only[h3,Kp,hu]at hk;cases hk
      ·rfl
    all_goals first|rfl|exact XG rfl|(rename_i hb _ _;cases hb)|(rename_i hb;cases hb)
   ·simp only[Qd,Zt];exact XG rfl
   ·simp only[Qd,Zt];exact XG rfl
theorem Oo(hk:vB T o= .still)(ha:Js P T o tmps h=some (n,h1)):h1=h/\∀h2,Js P T o tmps h2=some (n,h2):=by
 rw[Oq hk]at ha;cases hq:Js P T o tmps .nil with
 |none=>rw[hq]at ha;cases ha
 |some p=>
  rw[hq]at ha;simp only[j4z,qD,jP,jV]at ha;obtain⟨rfl,rfl⟩:=ha;exact⟨rfl,fun h2=>by rw[Oq hk,hq];rfl⟩
theorem Fd{k:Unit->AR}(hl:yU P o tmps=some n):yR P o tmps h k=some (n,h):=by unfold yR;rw[hl]
theorem aN(hx:x∈o.op.operands)(ha:xJ tmps x=some a)(hn:ZT a=none):yU P o tmps=none:=by
 have:JK tmps o.op.operands.toList=false:=by
  have hx':x∈o.op.operands.toList:=by simpa using hx
  generalize o.op.operands.toList=l at hx';induction l with
  |nil=>cases hx'
  |cons y r ih=>
   simp only[JK]
   cases hx' with
   |head=>rw[ha];simp[hn]
   |tail _ hm=>
    split
    ·rw[ih hm,Jl]
    ·rfl
 unfold yU;rw[this,Jl];rfl
theorem DR(hk:vB T o= .reads):(∃t a,o.op= .load t a)\/(∃t m k ok,o.op= .lookup t m k ok)\/(∃src dst x e,o.op= .convert src dst x/\und T src=some (.slice e)/\und T dst=some .string)\/
 ∃c t k e,o.op= .call c/\c.callee= .builtin .len/\c.argTypes[0]? =some t/\und T t=some (.map k e):=by
 unfold vB at hk
 split at hk<;>try cases hk
 case h_22 t a ho=>exact .inl ⟨t,a,ho⟩
 case h_23 t m k ok ho=>exact .inr (.inl ⟨t,m,k,ok,ho⟩)
 case h_24 src dst x ho=>
  split at hk<;>try cases hk
  rename_i e h1 h2;exact .inr (.inr (.inl ⟨src,dst,x,e,ho,h1,h2⟩))
 case h_25 c ho=>
  split at hk<;>try cases hk
  rename_i hc;split at hk<;>try cases hk
  rename_i k e hm;obtain⟨t,h1,h2⟩:=Option.bind_eq_some_iff.1 hm;exact .inr (.inr (.inr ⟨c,t,k,e,ho,hc,h1,h2⟩))
theorem mU{rd:RD}{u:AV}(hk:vB T o= .reads)(ha:Js P T o tmps h=some (n,h1))(hr:Gi o tmps=some rd){h2:AH}(hu:oS T h2 rd=some u):h1=h/\Js P T o tmps h2=some (.val u,h2):=by
 obtain⟨ds,op,ty,pos,after,guard⟩:=o;rcases DR hk with⟨t,a,ho⟩|⟨t,m,k,ok,ho⟩|⟨src,dst,x,e,ho,e1,e2⟩|⟨c,t,k,e,ho,hc,e1,e2⟩
 ·simp only at ho;subst ho;simp only[Gi]at hr;split at hr;case h_2=>cases hr
  rename_i b off hx;obtain rfl:=jS hr;simp only[oS]at hu;simp only[Js,AP,hx]at ha ⊢;obtain⟨_,_,_,rfl⟩:=Zx ha;exact⟨rfl,by simp[hu,val]⟩
 ·simp only at ho;subst ho;simp only[Gi]at hr;split at hr;case h_2=>cases hr
  rename_i m' k' hm hk';obtain rfl:=jS hr;simp only[oS]at hu;simp only[Js,Ks,hm,hk']at ha ⊢;obtain⟨_,_,_,rfl⟩:=Zx ha;exact⟨rfl,by simp[hu,val]⟩
 ·simp only at ho;subst ho;simp only[Gi]at hr;split at hr;case h_2=>cases hr
  rename_i b off len cap hx;obtain rfl:=jS hr;simp only[oS]at hu;have hl:yU P ⟨ds,.convert src dst x,ty,pos,after,guard⟩ tmps=none:=aN (x:=x) (by simp[Op.operands]) hx rfl;simp only[Js,JS,hx,yR,hl,Yq,e1,e2]at ha ⊢;split at ha;case h_2=>cases ha
  rename_i he;obtain⟨_,_,_,rfl⟩:=Zx ha;exact⟨rfl,by simp[hu,val]⟩
 ·simp only at ho;subst ho;simp only[Gi]at hr;split at hr;case h_2=>cases hr
  rename_i b hx;obtain rfl:=jS hr;simp only[oS]at hu;split at hu;case h_2=>cases hu
  rename_i es cl hb;obtain rfl:=jS hu;obtain⟨rest,ht⟩:∃rest,c.argTypes.toList=t::rest:=by
   rw[<-xN]at e1;cases hq:c.argTypes.toList with
   |nil=>rw[hq]at e1;cases e1
   |cons y r=>rw[hq]at e1;exact⟨r,by simp only[xW,jP]at e1;rw[e1]⟩
  simp only[Js,Qd,hc,Zt,hx,ht,e2]at ha ⊢;rw[hb];refine⟨?_,rfl⟩;split at ha
  ·simp only[jP,jV]at ha;exact ha.2.symm
  ·cases ha
theorem WO{src dst:TypeId}{y:AN×AH}(e1:und T src=some (.slice e))(e2:und T dst=some .string)(hy:Yq T h src dst v=some y):y.2=h:=by
 unfold Yq at hy;rw[e1,e2]at hy;cases v with
 |sl b off len cap=>
  simp only at hy;split at hy
  ·obtain⟨n',h'⟩:=y;obtain⟨_,_,_,rfl⟩:=Zx hy;rfl
  ·cases hy
 |_=>cases hy
theorem mV(hk:vB T o= .reads)(ha:Js P T o tmps h=some (n,h1)):h1=h:=by
 obtain⟨ds,op,ty,pos,after,guard⟩:=o;rcases DR hk with⟨t,a,ho⟩|⟨t,m,k,ok,ho⟩|⟨src,dst,x,e,ho,e1,e2⟩|⟨c,t,k,e,ho,hc,e1,e2⟩
 ·simp only at ho;subst ho;simp only[Js,AP]at ha;split at ha
  ·obtain⟨_,_,_,rfl⟩:=Zx ha;rfl
  ·cases ha
 ·simp only at ho;subst ho;simp only[Js,Ks]at ha;split at ha
  ·obtain⟨_,_,_,rfl⟩:=Zx ha;rfl
  ·cases ha
 ·simp only at ho
  subst ho;simp only[Js,JS]at ha;have key:∀{kk:Unit->AR},(∀x,kk ()=some x->x.2=h)->yR P ⟨ds,.convert src dst x,ty,pos,after,guard⟩ tmps h kk=some (n,h1)->h1=h:=fun{kk} hkk hor=>by
   unfold yR at hor;split at hor
   ·simp only[jP,jV]at hor;exact hor.2.symm
   ·exact hkk _ hor
  split at ha
  ·simp only[e1,e2]at ha;exact key (fun x hx=>by cases hx) ha
  ·exact key (fun y hy=>WO e1 e2 hy) ha
  ·cases ha
 ·simp only at ho
  subst ho;obtain⟨rest,ht⟩:∃rest,c.argTypes.toList=t::rest:=by
   rw[<-xN]at e1;cases hq:c.argTypes.toList with
   |nil=>rw[hq]at e1;cases e1
   |cons y r=>rw[hq]at e1;exact⟨r,by simp only[xW,jP]at e1;rw[e1]⟩
  simp only[Js,Qd,hc,Zt,ht]at ha;split at ha;case h_5=>simp_all
  case h_6=>
   split at ha
   ·simp only[jP,jV]at ha;exact ha.2.symm
   ·cases ha
  all_goals first
   |(unfold yR at ha
     split at ha
     ·simp only[jP,jV]at ha;exact ha.2.symm
     ·cases ha)
   |simp_all
theorem Tu(hk:vB T o= .reads)(ha:Js P T o tmps h=some (n,h1))(hr:Gi o tmps=none)(hl:(yU P o tmps).isSome=true):h1=h/\∀h2,Js P T o tmps h2=some (n,h2):=by
 obtain⟨ds,op,ty,pos,after,guard⟩:=o;obtain⟨m,hm⟩:=Option.isSome_iff_exists.1 hl;rcases DR hk with⟨t,a,ho⟩|⟨t,m,k,ok,ho⟩|⟨src,dst,x,e,ho,e1,e2⟩|⟨c,t,k,e,ho,hc,e1,e2⟩
 ·simp only at ho;subst ho;simp only[Gi]at hr;simp only[Js,AP]at ha;split at hr
  ·cases hr
  ·rename_i hno;split at ha
   ·rename_i b off hx;exact absurd hx (hno b off)
   ·cases ha
 ·simp only at ho;subst ho;simp only[Gi]at hr;simp only[Js,Ks]at ha;split at hr
  ·cases hr
  ·rename_i hno;split at ha
   ·rename_i m' k' h1 h2;exact absurd h2 (hno m' k' h1)
   ·cases ha
 ·simp only at ho
  subst ho;have key:∀h2,JS P T ⟨ds,.convert src dst x,ty,pos,after,guard⟩ tmps h2 src dst x=some (m,h2):=fun h2=>by
   simp only[Js,JS]at ha ⊢;split
   ·simp only[e1,e2];exact Fd hm
   ·exact Fd hm
   ·rename_i hx;rw[hx]at ha;cases ha
  simp only[Js]at ha ⊢;rw[key]at ha;simp only[jP,jV]at ha;obtain⟨rfl,rfl⟩:=ha;exact⟨rfl,key⟩
 ·simp only at ho
  subst ho;obtain⟨rest,ht⟩:∃rest,c.argTypes.toList=t::rest:=by
   rw[<-xN]at e1;cases hq:c.argTypes.toList with
   |nil=>rw[hq]at e1;cases e1
   |cons y r=>rw[hq]at e1;exact⟨r,by simp only[xW,jP]at e1;rw[e1]⟩
  simp only[Gi]at hr;have key:∀h2,Qd P T ⟨ds,.call c,ty,pos,after,guard⟩ tmps h2 c=some (m,h2):=fun h2=>by
   simp only[Js,Qd,hc,Zt,ht]at ha ⊢;split;case h_5=>simp_all
   case h_6=>simp_all
   all_goals first|exact Fd hm|simp_all
  simp only[Js]at ha ⊢;rw[key]at ha;simp only[jP,jV]at ha;obtain⟨rfl,rfl⟩:=ha;exact⟨rfl,key⟩
end
section
open Go Go.RowKit
variable {P:Program} {T:TT} {ρ:Nat->Value} {fl:Nat} {μ μ':Mu} {h:AH} {w w':World} {tmps:TM} {o:Oper} {n:AN} {h1:AH}
theorem RG(hk:vB T o= .alloc):(∃t,o.op= .alloc t)\/(∃t x,o.op= .box t x)\/(∃t m ps,o.op= .buildSlice t m ps)\/(∃t l c,o.op= .makeSlice t l c)\/∃t r,o.op= .makeMap t r:=by
 unfold vB at hk;split at hk<;>try cases hk
 case h_17 t ho=>exact .inl ⟨t,ho⟩
 case h_18 t x ho=>exact .inr (.inl ⟨t,x,ho⟩)
 case h_19 t m ps ho=>exact .inr (.inr (.inl ⟨t,m,ps,ho⟩))
 case h_20 t l c ho=>exact .inr (.inr (.inr (.inl ⟨t,l,c,ho⟩)))
 case h_21 t r ho=>exact .inr (.inr (.inr (.inr ⟨t,r,ho⟩)))
 case h_24=>split at hk<;>cases hk
 case h_25=>split at hk<;>try cases hk
            split at hk<;>cases hk
def j0N(P:Program)(T:TT)(o:Oper)(tmps:TM)(mk:Nat->AV)(ab:AB):Prop:=
 (∀h2,Js P T o tmps h2=some (.val (mk h2.n),h2.push ab))/\Pp ab=true/\
 ∀(ρ:Nat->Value) (μ:Mu) (w:World) (ev:Operand->Value),ZV ρ μ w tmps ev->∃ob v',(execOp ev o).run P w= .ok (.value v') (w.alloc ob)/\XQ P ρ μ w 0 ab ob/\∀(μ1:Mu) (w1:World) (b:Nat),μ1 b=some (w.heap.size,0)->rel ρ μ1 w1 (mk b) v'
theorem Mb{b r:Nat}(hb:μ b=some (r,0)):rel ρ μ w (.ptr b 0) (.pointer (some ⟨r,0,none⟩)):=by unfold rel;exact⟨r,0,hb,rfl⟩
theorem Of{b r len k:Nat}(hb:μ b=some (r,0))(hk:len<=k)(hm:k<=maxLen):rel ρ μ w (.sl b 0 len (.kn k)) (.slice (some ⟨r,0,none⟩) len k):=by unfold rel;exact .inl ⟨r,0,0,k,hb,rfl,.inr rfl,rfl,hk,hm⟩
theorem mW{b r:Nat}(hb:μ b=some (r,0)):rel ρ μ w (.mp b) (.map (some r)):=by unfold rel;exact⟨r,hb,rfl⟩
theorem Nx(hT:TT.Sound P T)(hk:vB T o= .alloc)(ha:Js P T o tmps h=some (n,h1)):∃mk ab,n= .val (mk h.n)/\h1=h.push ab/\j0N P T o tmps mk ab:=by
 obtain⟨ds,op,ty,pos,after,guard⟩:=o;rcases RG hk with⟨t,ho⟩|⟨t,x,ho⟩|⟨t,m,ps,ho⟩|⟨t,l,c,ho⟩|⟨t,r,ho⟩<;>(simp only at ho;subst ho)
 ·simp only[Js,Dv,jT,jV]at ha;obtain⟨z,z1,rfl,rfl⟩:=ha;refine⟨fun b=> .ptr b 0,.cells z.cells t,rfl,rfl,fun h2=>by simp[Js,Dv,z1],rfl,fun ρ μ w ev he=> ?_⟩;obtain⟨v,h2,h3⟩:=QO hT z1 w;exact⟨.cells v.cells t,.pointer (some ⟨w.heap.size,0,none⟩),by simp[execOp,Instr.alloc,h2,newVar,newRow],⟨v.cells,rfl,VE (Zb (yV h3))⟩,fun μ1 w1 b hb=>Mb hb⟩
 ·simp only[Js,OH]at ha;split at ha;case h_2=>cases ha
  rename_i z hz;split at ha;case isFalse=>cases ha
  rename_i hone;simp only[jP,jV]at ha;obtain⟨rfl,rfl⟩:=ha;refine⟨fun b=> .ptr b 0,.cells z.cells t,rfl,rfl,fun h2=>by simp[Js,OH,hz,hone],rfl,fun ρ μ w ev he=> ?_⟩;exact⟨.cells (ev x).cells t,.pointer (some ⟨w.heap.size,0,none⟩),by simp[execOp,Instr.box,newVar,newRow],⟨_,rfl,VE (Zb (he x z hz))⟩,fun μ1 w1 b hb=>Mb hb⟩
 ·have ha0:=ha;simp only[Js,Zo]at ha;split at ha;case h_2=>cases ha
  rename_i e ps' hu hps;split at ha;case h_2=>cases ha
  rename_i i hi;split at ha;case isFalse=>cases ha
  rename_i hc;simp only[jT,jV]at ha;obtain⟨l,hf,rfl,rfl⟩:=ha;simp only[jW,decide_eq_true_eq]at hc;refine⟨fun b=> .sl b 0 m (.kn m),.cells l e,rfl,rfl,fun h2=>by simp[Js,Zo,hu,hps,hi,hc,hf],rfl,fun ρ μ w ev he=> ?_⟩;obtain⟨z,hz,hz2⟩:=QO hT (show Jm T e=some i.zero by simp[Jm,hi]) w;have hzr:=Zb (yV (ρ:=ρ) (μ:=μ) (w:=w) hz2);have hs:=JD hT (show vQ T e=some i.size by simp[vQ,hi]) w;have hrow:qF ρ μ w (Mf i.zero.cells m) ((Array.range (m * i.size)).map (fun k=>(if m * i.size=0 then(#[]:Array Value)else z.cells)[k%(if m * i.size=0 then(#[]:Array Value)else z.cells).size]!)).toList:=by
   by_cases h0:m * i.size=0
   ·have:Mf i.zero.cells m=[]:=zO (by rw[YH,hc.1.1];exact h0);rw[this,h0];simp[rels_nil]
   ·simp only[h0,if_false];have:=DU hzr m;rw[hc.1.1]at this;exact this
  obtain⟨rres,q1,q2⟩:=Vt (QR he hps) hrow hf;have hmm:m<=maxLen:=by simp only[maxLen];omega
  refine⟨.cells rres e,.slice (some ⟨w.heap.size,0,none⟩) m m,?_,⟨rres,rfl,VE q2⟩,fun μ1 w1 b hb=>Of hb (jM _) hmm⟩;have h24:¬(m * i.size>2^24):=by omega
  by_cases h0:m * i.size=0
  ·simp only[h0,if_true]at q1;have e0:Array.range 0= #[]:=rfl;simp only[e0,List.map_toArray,Dp]at q1;simp[execOp,Instr.buildSlice,qX hT hu,hs,h0,e0,q1,newRow]
  ·simp only[h0,if_false]at q1;simp[execOp,Instr.buildSlice,qX hT hu,hs,h0,h24,hz,q1,newRow]
 ·simp only[Js,Zf]at ha;split at ha;case h_2=>cases ha
  rename_i e k m hu hl hc;split at ha;case h_2=>cases ha
  rename_i i hi;split at ha;case isFalse=>cases ha
  rename_i hcond;have hcond0:=hcond;simp only[jW,decide_eq_true_eq]at hcond;obtain⟨⟨⟨c1,c2⟩,c3⟩,c4⟩:=hcond;simp only[jP,jV]at ha;obtain⟨rfl,rfl⟩:=ha;refine⟨fun b=> .sl b 0 k (.kn m),.cells (Mf i.zero.cells m) e,rfl,rfl,fun h2=>by simp[Js,Zf,hu,hl,hc,hi,c1,c2,c3,c4],rfl,fun ρ μ w ev he=> ?_⟩;obtain⟨al,al1,al2⟩:=Option.bind_eq_some_iff.1 hl;obtain⟨ac,ac1,ac2⟩:=Option.bind_eq_some_iff.1 hc;obtain⟨kl,il,e1,e2,rfl⟩:=Vy al2 (he l _ al1);obtain⟨kc,ic,f1,f2,rfl⟩:=Vy ac2 (he c _ ac1);obtain⟨info,z,g1,g2,g3,g4,g5⟩:=hT.info e i hi;have hzr:=Zb (yV (ρ:=ρ) (μ:=μ) (w:=w) g5);have hb:(info.bytes:Int) * ic<=281474976710656:=by
   have h2:((info.bytes * ic.toNat:Nat):Int)<=281474976710656:=by have:=qW ic.toNat g3.1;omega
   rw[Em,j0R f2]at h2;exact h2
  have hrun:=run_make (P:=P) w t e info z (Gk hT hu) g1 g4 kl kc il ic e2 (by omega) hb (by omega);have hrow:=DU hzr ic.toNat;rw[c4]at hrow;exact⟨.cells (madeCells z.cells (ic.toNat * info.size)) e,.slice (some ⟨w.heap.size,0,none⟩) il.toNat ic.toNat,by simp[execOp,e1,f1,hrun],⟨_,rfl,VE (by rw[g2];exact hrow)⟩,fun μ1 w1 b hb=>Of hb c1 (by simp only[maxLen];omega)⟩
 ·cases r with
  |some r=>cases ha
  |none=>
   simp only[Js,jP,jV]at ha;obtain⟨rfl,rfl⟩:=ha;exact⟨.mp,.map [] 0,rfl,rfl,fun h2=>rfl,rfl,fun ρ μ w ev he=>⟨.map #[] 0,.map (some w.heap.size),by simp[execOp,Instr.makeMap],⟨#[],rfl,rfl,rfl⟩,fun μ1 w1 b hb=>mW hb⟩⟩
theorem CO{a b:Value}(hs:BR a b=true):a=b:=by
 unfold BR at hs;split at hs<;>first|rfl|cases hs|skip
 ·simpa using hs
 ·simp only[jW,beq_iff_eq]at hs;rw[hs.1,hs.2]
 ·rename_i x y;have:x.data.toList=y.data.toList:=by simpa using hs
  have:x.data=y.data:=Array.ext' this;obtain⟨x⟩:=x;obtain⟨y⟩:=y;simp only at this;rw[this]
theorem FF{a b:Cap}(hs:dM a b=true):a=b:=by cases a<;>cases b<;>simp[dM]at hs<;>rw[hs]
theorem WV{f g:Fn}(h:j4u f g=true):f=g:=by
 unfold j4u at h;split at h
 ·rw[jY h]
 ·rw[jY h]
 ·cases h
theorem bP:∀(n:Nat) (a b:AV),AV.same n a b=true->a=b:=fun n=>by
 induction n with
 |zero=>
  intro a b hs;cases a<;>cases b<;>simp only[AV.same,Je,jW,beq_iff_eq]at hs
  ·rw[CO hs]
  ·rw[hs.1,hs.2]
  ·rw[hs.1.1.1,hs.1.1.2,hs.1.2,FF hs.2]
  ·rw[hs]
  ·rw[hs]
  ·rw[hs.1.1,hs.1.2,hs.2]
 |succ n ih=>
  have j4J:∀(l m:List AV),l.length=m.length->((l.zip m).all fun(x,y)=>AV.same n x y)=true->l=m:=fun l=>by
   induction l with
   |nil=>intro m hl _;exact(zO hl.symm).symm
   |cons x xs ihl=>
    intro m hl ha
    cases m with
    |nil=>cases hl
    |cons y ys=>
     simp only[List.zip_cons_cons,Oz,jW]at ha;rw[ih x y ha.1,ihl ys (by simpa using hl) ha.2]
  intro a b hs;cases a<;>cases b<;>simp only[AV.same,Je,jW,beq_iff_eq]at hs
  ·rw[CO hs]
  ·rw[hs.1,hs.2]
  ·rw[hs.1.1.1,hs.1.1.2,hs.1.2,FF hs.2]
  ·rw[hs]
  ·rw[j4J _ _ hs.1 hs.2]
  ·rw[j4J _ _ hs.1 hs.2]
  ·rw[hs.1,ih _ _ hs.2]
  ·rw[WV hs.1,j4J _ _ hs.2.1.1 hs.2.1.2,j4J _ _ hs.2.2.1 hs.2.2.2]
  ·rw[hs]
  ·rw[hs.1.1,hs.1.2,hs.2]
end
variable{b n i done:Nat}
section
open Go Go.RowKit
variable {T:TT} {ops:Array Oper}
def Ur(ops:Array Oper)(j i:Nat):Prop:=∃o e,ops[i]? =some o/\e∈o.after.toList/\Region.binds .any e=true/\e.on=j
inductive Before (ops:Array Oper):Nat->Nat->Prop where
 |one {j i:Nat}:Ur ops j i->Before ops j i
 |step {j k i:Nat}:Before ops j k->Ur ops k i->Before ops j i
theorem Ou(n M i k:Nat):waits n M i k=M.testBit (n * i+k):=by unfold waits;rw[Nat.testBit_eq_decide_div_mod_eq,YX,Gn,Nat.beq_eq];simp
theorem Bb:∀(l:List Edge) (acc j:Nat),(acc.testBit j=true\/∃e∈l,Region.binds .any e=true/\e.on=j)->(Ge l acc).testBit j=true
 |[],acc,j,hh=>by
  rcases hh with hh|⟨e,he,_⟩
  ·exact hh
  ·cases he
 |e::r,acc,j,hh=>by
  simp only[Ge];refine Bb r _ j ?_;cases hb:Region.binds .any e with
  |true=>
   simp only[cond_true,Nat.testBit_or,Ek];rcases hh with hh|⟨x,hx,h1,h2⟩
   ·exact .inl (.inl hh)
   ·cases hx with
    |head=>exact .inl (.inr (by rw[h2,Nat.one_shiftLeft,Nat.testBit_two_pow_self]))
    |tail _ hm=>exact .inr ⟨x,hm,h1,h2⟩
  |false=>
   simp only[cond_false];rcases hh with hh|⟨x,hx,h1,h2⟩
   ·exact .inl hh
   ·cases hx with
    |head=>rw[hb]at h1;cases h1
    |tail _ hm=>exact .inr ⟨x,hm,h1,h2⟩
theorem Ln{M:Nat}{r:List Nat}{last:Option Nat}(hl:Ll T ops n M (i::r) done last=true):∃o,ops[i]? =some o/\(∀j,(Ge o.after.toList 0).testBit j=true->done.testBit j=true)/\done.testBit i=false/\
 (∀a,last=some a->waits n M i a=true)/\Ll T ops n M r (done ||| (1 <<< i)) (bif Uh T ops i then some i else last)=true:=by
 simp only[Ll]at hl
 split at hl
 case h_2=>cases hl
 rename_i o ho
 simp only[jW]at hl
 obtain⟨⟨⟨h1,h2⟩,h3⟩,h4⟩:=hl
 refine⟨o,ho,fun j hj=> ?_,?_,fun a ha=>by rw[ha]at h3;exact h3,h4⟩
 ·have h1:=jY h1;rw[<-h1,Nat.testBit_and,jW]at hj;exact hj.2
 ·have h2:=jY h2;rw[Nat.testBit_eq_decide_div_mod_eq,<-YX,h2];rfl
theorem j1B{pre:List Nat}(hd:∀j,done.testBit j=true↔j∈pre)(j:Nat):(done ||| (1 <<< i)).testBit j=true↔j∈pre++[i]:=by
 rw[Nat.testBit_or,Ek,hd,zN,zX,Nat.one_shiftLeft,Nat.testBit_two_pow];constructor
 ·rintro(h1|h1)
  ·exact .inl h1
  ·exact .inr (by simpa [eq_comm]using h1)
 ·rintro(h1|h1)
  ·exact .inl h1
  ·exact .inr (by simp[h1])
theorem NV{n M:Nat}:∀(l:List Nat) (done:Nat) (last:Option Nat) (pre:List Nat),Ll T ops n M l done last=true->(∀j,done.testBit j=true↔j∈pre)->
 (∀pre' i post,l=pre'++i::post->(∃o,ops[i]? =some o)/\i ∉ pre++pre'/\∀j,Ur ops j i->j∈pre++pre')/\∀j,j<n->j∈pre++l
 |[],done,last,pre,hl,hd=>by refine⟨fun pre' i post he=>absurd he (by cases pre'<;>simp),fun j hj=> ?_⟩;have:=jY hl;rw[kH];rw[<-hd,this,Nat.testBit_two_pow_sub_one];simpa using hj
 |i0::r,done,last,pre,hl,hd=>by
  obtain⟨o,ho,h1,h2,h3,h4⟩:=Ln hl;obtain⟨k1,k2⟩:=NV r _ _ (pre++[i0]) h4 (fun j=>j1B hd j);refine⟨fun pre' i post he=> ?_,fun j hj=>by have:=k2 j hj;simpa using this⟩;cases pre' with
  |nil=>
   obtain⟨rfl,rfl⟩:=UN he;refine⟨⟨o,ho⟩,?_,fun j hj=> ?_⟩
   ·rw[kH,<-hd,h2];simp
   ·obtain⟨o',e,g1,g2,g3,g4⟩:=hj;rw[ho]at g1;obtain rfl:=jS g1;rw[kH,<-hd];exact h1 j (Bb _ _ _ (.inr ⟨e,g2,g3,g4⟩))
  |cons x xs=>
   obtain⟨rfl,rfl⟩:=UN he;have:=k1 xs i post rfl;simpa using this
def Ib(ops:Array Oper)(n M:Nat):Prop:=∀p,M.testBit p=true->∃a b,p=n * a+b/\b<n/\Before ops b a
theorem Ib.waits{M k:Nat}(hM:Ib ops n M)(hk:k<n)(hw:waits n M i k=true):Before ops k i:=by
 rw[Ou]at hw;obtain⟨a,b,h1,h2,h3⟩:=hM _ hw;have e1:(n * i+k)/n=i:=by rw[Nat.mul_add_div (by omega),Nat.div_eq_of_lt hk,JH]
 have e2:(n * a+b)/n=a:=by rw[Nat.mul_add_div (by omega),Nat.div_eq_of_lt h2,JH]
 have ea:i=a:=by rw[<-e1,h1,e2]
 subst ea;have:k=b:=by omega
 subst this;exact h3
theorem Mj{n M i:Nat}(hM:Ib ops n M)(hin:∀j i,Ur ops j i->j<n):∀(l:List Edge) (acc:Nat),(∀e∈l,Region.binds .any e=true->Ur ops e.on i)->(∀b,acc.testBit b=true->b<n/\Before ops b i)->∀b,(eW n M l acc).testBit b=true->b<n/\Before ops b i
 |[],acc,_,hacc,b,hb=>hacc b hb
 |e::r,acc,hl,hacc,b,hb=>by
  simp only[eW]at hb;refine Mj hM hin r _ (fun x hx=>hl x (by simp[hx])) (fun c hc=> ?_) b hb;cases hbd:Region.binds .any e with
  |false=>
   rw[hbd]at hc;exact hacc c hc
  |true=>
   have hd:=hl e (by simp) hbd;rw[hbd]at hc;simp only[cond_true,Nat.testBit_or,Ek,Nat.testBit_and,jW]at hc;rcases hc with(hc|hc)|hc
   ·exact hacc c hc
   ·rw[Nat.one_shiftLeft,Nat.testBit_two_pow]at hc;have:e.on=c:=by simpa using hc
    subst this;exact⟨hin _ _ hd,.one hd⟩
   ·obtain⟨c1,c2⟩:=hc;rw[Nat.testBit_two_pow_sub_one]at c2;have hcn:c<n:=by simpa using c2
    rw[Nat.testBit_shiftRight]at c1;have:Before ops c e.on:=hM.waits hcn (by rw[Ou];exact c1);exact⟨hcn,.step this hd⟩
theorem Lv{n:Nat}(hin:∀j i,Ur ops j i->j<n):∀(l:List Oper) (i M:Nat),(∀k,l[k]? =ops[i+k]?)->Ib ops n M->Ib ops n (eH n l i M)
 |[],i,M,_,hM=>hM
 |o::r,i,M,hl,hM=>by
  simp only[eH];have ho:ops[i]? =some o:=by have:=hl 0;simpa using this.symm
  refine Lv hin r (i+1) _ (fun k=>by have:=hl (k+1);rw[xQ]at this;rw[this];congr 1;omega) (fun p hp=> ?_);rw[Nat.testBit_or,Ek]at hp;rcases hp with hp|hp
  ·exact hM p hp
  ·rw[Nat.testBit_shiftLeft]at hp;simp only[jW,decide_eq_true_eq]at hp;obtain⟨p1,p2⟩:=hp;obtain⟨b1,b2⟩:=Mj (i:=i) hM hin o.after.toList 0 (fun e he hb=>⟨o,e,ho,he,hb,rfl⟩) (fun b hb=>by simp at hb) _ p2;exact⟨i,p-n * i,by omega,b1,b2⟩
theorem Lm{n M:Nat}(hM:Ib ops n M):∀(l:List Nat) (done:Nat) (last:Option Nat) (pre:List Nat),Ll T ops n M l done last=true->(∀i∈l,i<n)->(∀a∈pre,Uh T ops a=true->∃b,last=some b/\b<n/\(a=b\/Before ops a b))->
 (∀{a b c:Nat},Before ops a b->Before ops b c->Before ops a c)->∀pre' i post,l=pre'++i::post->∀a∈pre++pre',Uh T ops a=true->Before ops a i
 |[],done,last,pre,hl,_,_,_,pre',i,post,he=>absurd he (by cases pre'<;>simp)
 |i0::r,done,last,pre,hl,hlt,hp,htr,pre',i,post,he=>by
  obtain⟨o,ho,h1,h2,h3,h4⟩:=Ln hl;have hbef:∀a∈pre,Uh T ops a=true->Before ops a i0:=fun a ha hact=>by
   obtain⟨b,hb,hbn,hab⟩:=hp a ha hact;have:=hM.waits hbn (h3 b hb);rcases hab with rfl|hab
   ·exact this
   ·exact htr hab this
  cases pre' with
  |nil=>
   obtain⟨rfl,rfl⟩:=UN he;intro a ha hact;rw[kH]at ha;exact hbef a ha hact
  |cons x xs=>
   obtain⟨rfl,rfl⟩:=UN he;have:=Lm hM (xs++i::post) _ _ (pre++[i0]) h4 (fun j hj=>hlt j (by simp[hj])) (fun a ha hact=>by
    rw[zN,zX]at ha;cases hi0:Uh T ops i0 with
    |true=>
     rcases ha with ha|rfl
     ·exact⟨i0,rfl,hlt i0 (by simp),.inr (hbef a ha hact)⟩
     ·exact⟨a,rfl,hlt a (by simp),.inl rfl⟩
    |false=>
     rcases ha with ha|rfl
     ·exact hp a ha hact
     ·rw[hi0]at hact;cases hact) htr xs i post rfl
   simpa using this
theorem Before.trans{a c:Nat}(h1:Before ops a b)(h2:Before ops b c):Before ops a c:=by
 induction h2 with
 |one hd=>exact .step h1 hd
 |step _ hd ih=>exact .step ih hd
theorem My{n M i:Nat}{ts:List Tmp}:∀(l:List Oper) (j:Nat),TS n M i ts l j=true->∀k o d,l[k]? =some o->o.dst=some d->d∈ts->i=j+k\/waits n M i (j+k)=true\/waits n M (j+k) i=true
 |[],j,_,k,o,d,hk,_,_=>by simp at hk
 |x::r,j,hh,k,o,d,hk,hd,hm=>by
  simp only[TS,jW]at hh;cases k with
  |zero=>
   simp only[xW,jP]at hk;subst hk;rw[hd]at hh;simp only[Ek,j5z]at hh;rcases hh.1 with((h1|h1)|h1)|h1
   ·have:ts.contains d=true:=by simpa using hm
    rw[this]at h1;cases h1
   ·exact .inl (jY h1)
   ·exact .inr (.inl h1)
   ·exact .inr (.inr h1)
  |succ k=>
   rw[xQ]at hk;have:=My r (j+1) hh.2 k o d hk hd hm;rwa [show j+1+k=j+(k+1)by omega]at this
theorem Hg{n M:Nat}:∀(l:List Oper) (i:Nat),Rb n M ops l i=true->∀k o,l[k]? =some o->TS n M (i+k) (Kz ops o) ops.toList 0=true
 |[],i,_,k,o,hk=>by simp at hk
 |x::r,i,hh,k,o,hk=>by
  simp only[Rb,jW]at hh;cases k with
  |zero=>
   simp only[xW,jP]at hk;subst hk;exact hh.1
  |succ k=>
   rw[xQ]at hk;have:=Hg r (i+1) hh.2 k o hk;rwa [show i+1+k=i+(k+1)by omega]at this
structure j0J(T:TT)(ops:Array Oper)(l:List Nat):Prop where
 all:∀j,j<ops.size->j∈l
 oper:∀j∈l,∃o,ops[j]? =some o
 nodup:∀pre i post,l=pre++i::post->i ∉ pre
 lin:∀pre i post,l=pre++i::post->∀j,Ur ops j i->j∈pre
 acts:∀pre i post,l=pre++i::post->∀a∈pre,Uh T ops a=true->Before ops a i
 tmps:∀i j oi oj d,ops[i]? =some oi->ops[j]? =some oj->oj.dst=some d->d∈Kz ops oi->i=j\/Before ops j i\/Before ops i j
 waits:∀i k,k<ops.size->waits ops.size (j0L ops) i k=true->Before ops k i
theorem j2q(hok:j4U T ops=true):j0J T ops (GV T ops):=by
 simp only[j4U,jW]at hok;obtain⟨h1,h2⟩:=hok;obtain⟨k1,k2⟩:=NV _ 0 none [] h1 (fun j=>by simp);simp only[xS]at k1 k2;have hmem:∀j∈GV T ops,∃pre post,GV T ops=pre++j::post:=fun j hj=>by obtain⟨a,b,h⟩:=ZO hj;exact⟨a,b,h⟩
 have hoper:∀j∈GV T ops,∃o,ops[j]? =some o:=fun j hj=>by obtain⟨a,b,h⟩:=hmem j hj;exact(k1 a j b h).1
 have hlt:∀j∈GV T ops,j<ops.size:=fun j hj=>by obtain⟨o,ho⟩:=hoper j hj;exact(Array.getElem?_eq_some_iff.1 ho).1
 have hin:∀j i,Ur ops j i->j<ops.size:=fun j i hd=>by obtain⟨o,e,g1,_⟩:=id hd;have hi:=(Array.getElem?_eq_some_iff.1 g1).1;obtain⟨a,b,h⟩:=hmem i (k2 i hi);have:=(k1 a i b h).2.2 j hd;exact hlt j (by rw[h];simp[this])
 have hM:Ib ops ops.size (j0L ops):=Lv hin ops.toList 0 0 (fun k=>by rw[yG,xN]) (fun p hp=>by simp at hp);refine⟨k2,hoper,fun pre i post h=>(k1 pre i post h).2.1,fun pre i post h=>(k1 pre i post h).2.2,fun pre i post h a ha hact=> ?_,fun i j oi oj d hi hj hd hm=> ?_,fun i k hk hw=>hM.waits hk hw⟩
 ·exact Lm hM _ 0 none [] h1 hlt (fun a ha=>by cases ha) (fun x y=>x.trans y) pre i post h a (by simpa using ha) hact
 ·have e1:=Hg _ 0 h2 i oi (by rw[xN];exact hi);have e2:=My _ 0 e1 j oj d (by rw[xN];exact hj) hd hm;simp only[yG]at e2;have hil:=(Array.getElem?_eq_some_iff.1 hi).1;have hjl:=(Array.getElem?_eq_some_iff.1 hj).1;rcases e2 with e2|e2|e2
  ·exact .inl e2
  ·exact .inr (.inl (hM.waits hjl e2))
  ·exact .inr (.inr (hM.waits hil e2))
end
section
open Go Go.RowKit
variable {T:TT} {ops:Array Oper} {L:List Nat}
def on(listed:Array Bool)(i:Nat):Prop:=listed.getD i false=true
def Vi(ops:Array Oper)(listed:Array Bool):Prop:=∀j i,Ur ops j i->on listed i->on listed j
theorem Vi.before{listed:Array Bool}(hc:Vi ops listed){j i:Nat}(hb:Before ops j i)(hi:on listed i):on listed j:=by
 induction hb with
 |one hd=>exact hc _ _ hd hi
 |step _ hd ih=>exact ih (hc _ _ hd hi)
def Ut(ops:Array Oper)(listed:Array Bool)(i:Nat):Prop:=i<listed.size/\¬on listed i/\i<ops.size/\∀j,Ur ops j i->on listed j
theorem j2O{listed:Array Bool}{i:Nat}(hr:i∈Region.ready .any ops listed):Ut ops listed i:=by
 obtain⟨h1,o,ho,h2⟩:=mem_ready.1 hr;have hlt:i<listed.size:=by
  rcases j5F i listed.size with h'|h'
  ·exact h'
  ·simp[Array.getElem?_eq_none h']at h1
 refine⟨hlt,fun hh=> ?_,(Array.getElem?_eq_some_iff.1 ho).1,fun j hd=> ?_⟩
 ·simp only[on]at hh;simp[hlt]at h1 hh;rw[h1]at hh;cases hh
 ·obtain⟨o',e,g1,g2,g3,g4⟩:=hd;rw[ho]at g1;obtain rfl:=jS g1;subst g4;exact h2 e (by simpa using g2) g3
theorem j1i{listed:Array Bool}{i:Nat}(hr:Ut ops listed i):i∈Region.ready .any ops listed:=by obtain⟨h1,h2,h3,h4⟩:=hr;refine mem_ready.2 ⟨?_,ops[i],Jd h3,fun e he hb=>h4 e.on ⟨ops[i],e,Jd h3,by simpa using he,hb,rfl⟩⟩;simp only[on]at h2;simp[h1]at h2 ⊢;exact h2
theorem Ut.before{listed:Array Bool}{i j:Nat}(hc:Vi ops listed)(hr:Ut ops listed i)(hb:Before ops j i):on listed j:=by
 cases hb with
 |one hd=>exact hr.2.2.2 _ hd
 |step hb hd=>exact hc.before hb (hr.2.2.2 _ hd)
theorem uW{listed:Array Bool}{i j:Nat}(hi:i<listed.size):on (listed.setIfInBounds i true) j↔on listed j\/j=i:=by
 simp only[on];by_cases hij:i=j
 ·subst hij;simp[hi]
 ·rw[getD_set_ne false hij];constructor
  ·exact .inl
  ·rintro(h|h)
   ·exact h
   ·exact absurd h.symm hij
theorem Vi.set{listed:Array Bool}{i:Nat}(hc:Vi ops listed)(hr:Ut ops listed i):Vi ops (listed.setIfInBounds i true):=by
 intro j k hd hk;rw[uW hr.1]at hk ⊢;rcases hk with hk|rfl
 ·exact .inl (hc j k hd hk)
 ·exact .inl (hr.2.2.2 j hd)
theorem j0J.before(ho:j0J T ops L){a b:Nat}(hb:Before ops a b):∀{pre post:List Nat},L=pre++b::post->a∈pre:=by
 induction hb with
 |one hd=>intro pre post h;exact ho.lin pre _ post h _ hd
 |step hb hd ih=>
  rename_i k i;intro pre post h;have h1:=ho.lin pre _ post h _ hd;obtain⟨p,q,rfl⟩:=ZO h1;have:=ih (pre:=p) (post:=q++i::post) (by rw[h];simp);simp[this]
theorem j0J.some_ready(ho:j0J T ops L){listed:Array Bool}(hs:listed.size=ops.size){j:Nat}(hj:j<ops.size)(hn:¬on listed j):∃i,Ut ops listed i:=by
 have key:∀(post pre:List Nat),L=pre++post->(∀x∈pre,on listed x)->(∀x∈L,on listed x)\/∃i,Ut ops listed i:=by
  intro post;induction post with
  |nil=>intro pre h hp;exact .inl (by rw[h,kH];exact hp)
  |cons x r ih=>
   intro pre h hp;by_cases hx:on listed x
   ·exact ih (pre++[x]) (by rw[h];simp) (fun y hy=>by
     rw[zN,zX]at hy;rcases hy with hy|rfl
     ·exact hp y hy
     ·exact hx)
   ·obtain⟨o,hox⟩:=ho.oper x (by rw[h];simp);have hlt:=(Array.getElem?_eq_some_iff.1 hox).1;exact .inr ⟨x,by omega,hx,hlt,fun k hd=>hp k (ho.lin pre x r h k hd)⟩
 rcases key L [] rfl (fun x hx=>by cases hx)with h|h
 ·exact absurd (h j (ho.all j hj)) hn
 ·exact h
def oZ(ops:Array Oper):List Nat->Array Bool->Prop
 |[],listed=>∀j,j<ops.size->on listed j
 |i::r,listed=>Ut ops listed i/\oZ ops r (listed.setIfInBounds i true)
def left(listed:Array Bool):Nat->Nat
 |0=>0
 |n+1=>left listed n+(if listed.getD n false=true then 0 else 1)
theorem NR{listed:Array Bool}:∀{n:Nat},left listed n=0->∀j,j<n->on listed j
 |0,_,j,hj=>by omega
 |n+1,hl,j,hj=>by
  simp only[left]at hl;by_cases hjn:j=n
  ·subst hjn;simp only[on];split at hl
   ·assumption
   ·omega
  ·exact NR (n:=n) (by omega) j (by omega)
theorem FT{listed:Array Bool}{i:Nat}:∀{n:Nat},n<=i->left (listed.setIfInBounds i true) n=left listed n
 |0,_=>rfl
 |n+1,h=>by simp only[left];rw[FT (by omega),getD_set_ne false (by omega)]
theorem SK{listed:Array Bool}{i:Nat}(hi:i<listed.size)(hn:¬on listed i):∀{n:Nat},i<n->left (listed.setIfInBounds i true) n+1=left listed n
 |n+1,h=>by
  simp only[left];by_cases hin:i=n
  ·subst hin;rw[FT (jM _)];simp only[on]at hn;have:(listed.setIfInBounds i true).getD i false=true:=by simp[hi]
   rw[if_pos this,if_neg hn]
  ·have:=SK hi hn (n:=n) (by omega);rw[getD_set_ne false hin];omega
theorem j1X(ho:j0J T ops L):∀(fuel t:Nat) (listed:Array Bool),listed.size=ops.size->left listed ops.size=fuel->oZ ops (Region.linearise.go .any ops fuel t listed []) listed:=by
 intro fuel;induction fuel with
 |zero=>intro t listed hs hl;exact NR hl
 |succ fuel ih=>
  intro t listed hs hl
  simp only[Region.linearise.go]
  change oZ ops (match (Region.ready .any ops listed)[t%(Region.ready .any ops listed).length]? with
   |some i=>Region.linearise.go .any ops fuel (t/(Region.ready .any ops listed).length) (listed.setIfInBounds i true) [i]
   |none=>[].reverse) listed
  cases hi:(Region.ready .any ops listed)[t%(Region.ready .any ops listed).length]? with
  |none=>
   have hnil:Region.ready .any ops listed=[]:=by
    cases hr:Region.ready .any ops listed with
    |nil=>rfl
    |cons x xs=>
     rw[hr]at hi;have hlt:t%(x::xs).length<(x::xs).length:=Nat.mod_lt _ (by simp);simp at hi;simp at hlt;omega
   intro j hj;by_cases hon:on listed j
   ·exact hon
   ·obtain⟨i,hr⟩:=ho.some_ready hs hj hon;have:=j1i hr;rw[hnil]at this;cases this
  |some i=>
   simp only[];rw[linearise_go_acc,List.reverse_singleton,List.singleton_append];have hr:=j2O (zR hi);exact⟨hr,ih _ _ (by simpa using hs) (by have:=SK hr.1 hr.2.1 hr.2.2.1;omega)⟩
theorem Lh:∀(n m:Nat),left (Array.replicate m false) n=n
 |0,_=>rfl
 |n+1,m=>by simp only[left];rw[Lh n m,if_neg];simp only[Hj,Ox];split<;>simp
theorem Lo(ho:j0J T ops L)(t:Nat):oZ ops (Region.linearise .any ops t) (Array.replicate ops.size false):=
 j1X ho ops.size t _ (by simp) (Lh _ _)
theorem OV:Vi ops (Array.replicate ops.size false):=by intro j i _ hi;simp only[on,Hj,Ox]at hi;split at hi<;>simp at hi
end
section
open Go Go.RowKit
variable {P:Program} {T:TT} {S:Qb} {ρ:Nat->Value} {fl:Nat} {ops:Array Oper} {h:AH}
def MM:Kind->Bool
 | .acts=>true
 |_=>false
theorem IY{T:TT}{ops:Array Oper}{i:Nat}{o:Oper}(ho:ops[i]? =some o):Uh T ops i=MM (vB T o):=by unfold Uh;rw[ho];dsimp only;cases vB T o<;>rfl
abbrev Reads:=List (Nat×RD×AV)
structure BY where
 i:Nat
 o:Oper
 tmps:TM
 h:AH
 v:AV
 h1:AH
def oT(o:Oper)(t1 t2:TM):Prop:=∀x∈o.op.operands,xJ t1 x=xJ t2 x
def pS(P:Program)(ρ:Nat->Value)(fl:Nat)(o:Oper)(t:TM)(h:AH)(v:AV)(h1:AH):Prop:=
 ∀(μ:Mu) (w:World) (f:Frame) (cs:List Frame) (ops:Array Oper) (i:Nat) (r:List Nat) (l:List Item),HR P ρ fl μ h w->ZV ρ μ w t f.eval->f.mode= .run->f.todo= .inRegion ops (i::r)::l->ops[i]? =some o->Region.wanted o (yielded ops f.tmps)=true->
  ∃μ' w' v',yD P ρ fl μ h w μ' h1 w'/\rel ρ μ' w' v v'/\Steps P (lone f cs w) (lone (f.finish v') cs w')
theorem mZ{o:Oper}{t:TM}{h1:AH}(hT:TT.Sound P T)(ha:Js P T o t h=some (.val v,h1)):pS P ρ fl o t h v h1:=by intro μ w f cs ops i r l hr he hm ht ho hw;obtain⟨μ',w',v',q1,q2,q3⟩:=UR hT hr he ha;exact⟨μ',w',v',q2,q3,.one (GX hm ht ho hw (.inr (Qs ha (fun _ _=>by simp))) q1)⟩
def keep(ops:Array Oper)(i:Nat)(rs:Reads):Reads:=rs.filter fun(j,_,_)=> !waits ops.size (j0L ops) i j
def Rx(P:Program)(T:TT)(ρ:Nat->Value)(fl:Nat)(ops:Array Oper)(e:BY)(rs rs1:Reads):Prop:=
 ops[e.i]? =some e.o/\((yQ ops e.tmps e.o=some false/\e.v=kV/\e.h1=e.h/\(match vB T e.o with| .acts=>hold T e.h rs=true/\rs1=keep ops e.i rs|_=>rs1=rs))\/
  (yQ ops e.tmps e.o=some true/\(match vB T e.o with
    | .acts=>hold T e.h rs=true/\rs1=keep ops e.i rs/\∀t2,oT e.o e.tmps t2->pS P ρ fl e.o t2 e.h e.v e.h1
    | .reads=>Js P T e.o e.tmps e.h=some (.val e.v,e.h1)/\((∃rd,Gi e.o e.tmps=some rd/\rs1=(e.i,rd,e.v)::rs)\/(Gi e.o e.tmps=none/\(yU P e.o e.tmps).isSome=true/\rs1=rs))
    |_=>Js P T e.o e.tmps e.h=some (.val e.v,e.h1)/\rs1=rs)))
def Tr(P:Program)(T:TT)(ρ:Nat->Value)(fl:Nat)(ops:Array Oper):List BY->TM->AH->Reads->TM->AH->Reads->Prop
 |[],t,h,rs,t',h',rs'=>t'=t/\h'=h/\rs'=rs
 |e::r,t,h,rs,t',h',rs'=>e.tmps=t/\e.h=h/\∃rs1,Rx P T ρ fl ops e rs rs1/\Tr P T ρ fl ops r (vC t e.o.dst e.v) e.h1 rs1 t' h' rs'
theorem IC{rec:Ij}{fr:QC}{o:Oper}{it:AI}{k:List AI}{x:Option (Out×AH)}{out:Out}{h':AH}(hx:VF rec fr o it k x=some (out,h')):
 ∃v cm h2,x=some (.ended (.ret v) cm,h2)/\fin rec fr o it k v h2=some (out,h'):=by
 unfold VF at hx
 split at hx
 ·exact⟨_,_,_,rfl,hx⟩
 ·cases hx
theorem TU(hT:TT.Sound P T)(hNG:AJ P):∀(l:List Nat) (n:Nat) (fr:QC) (rs:Reads) (k:List AI) (h:AH) (out:Out) (h':AH),(∀m,m<n->KQ P ρ fl (ex P T S m))->
 ex P T S n (.body {fr with todo:= .regD ops l rs::k}) h=some (out,h')->
 ∃es tf hf rsf m,es.map (·.i)=l/\Tr P T ρ fl ops es fr.tmps h rs tf hf rsf/\hold T hf rsf=true/\m<n/\ex P T S m (.body {fr with tmps:=tf,todo:=k}) hf=some (out,h')
 |[],n,fr,rs,k,h,out,h',_,hx=>by
  cases n with
  |zero=>cases hx
  |succ n=>
   simp only[ex,Hi,JW,KU]at hx;split at hx
   ·rename_i hh;exact⟨[],fr.tmps,h,rs,n,rfl,⟨rfl,rfl,rfl⟩,hh,Nat.lt_succ_self n,hx⟩
   ·cases hx
 |i::r,n,fr,rs,k,h,out,h',hrec,hx=>by
  cases n with
  |zero=>cases hx
  |succ n=>
   simp only[ex,Hi,JW,KU,MD]at hx;split at hx;case h_2=>cases hx
   rename_i o ho
   have go:∀(v:AV) (h2:AH) (rs1:Reads),fin (ex P T S n) {fr with todo:= .regD ops (i::r) rs::k} o (.regD ops r rs1) k v h2=some (out,h')->Rx P T ρ fl ops {i,o,tmps:=fr.tmps,h,v,h1:=h2} rs rs1->
    ∃es tf hf rsf m,es.map (·.i)=i::r/\Tr P T ρ fl ops es fr.tmps h rs tf hf rsf/\hold T hf rsf=true/\m<n+1/\ex P T S m (.body {fr with tmps:=tf,todo:=k}) hf=some (out,h'):=fun v h2 rs1 hfin hstep=>by
    obtain⟨es,tf,hf,rsf,m,q1,q2,q3,q4,q5⟩:=TU hT hNG r n {fr with tmps:=vC fr.tmps o.dst v} rs1 k h2 out h' (fun m hm=>hrec m (by omega)) hfin
    exact⟨{i,o,tmps:=fr.tmps,h,v,h1:=h2}::es,tf,hf,rsf,m,by simp[q1],⟨rfl,rfl,rs1,hstep,q2⟩,q3,by omega,q5⟩
   have hact:Uh T ops i=MM (vB T o):=IY ho
   have one:∀(rs0:Reads),(match vB T o with| .acts=>hold T h rs=true/\rs0=keep ops i rs|_=>rs0=rs)->UM P T (ex P T S n) {fr with todo:= .regD ops (i::r) rs::k} ops i o r rs0 k h=some (out,h')->
    ∃es tf hf rsf m,es.map (·.i)=i::r/\Tr P T ρ fl ops es fr.tmps h rs tf hf rsf/\hold T hf rsf=true/\m<n+1/\ex P T S m (.body {fr with tmps:=tf,todo:=k}) hf=some (out,h'):=fun rs0 hrs0 hx=>by
    unfold UM at hx
    split at hx
    ·rename_i hwant;have hwant:yQ ops fr.tmps o=some true:=hwant;unfold Fu at hx;cases hk:vB T o with
     |acts=>
      rw[hk]at hx hrs0;simp only at hx hrs0
      have build:∀v h2,(∀t2,oT o fr.tmps t2->pS P ρ fl o t2 h v h2)->Rx P T ρ fl ops {i,o,tmps:=fr.tmps,h,v,h1:=h2} rs rs0:=fun v h2 hrun=>
       ⟨ho,.inr ⟨hwant,by simp only[hk];exact⟨hrs0.1,hrs0.2,hrun⟩⟩⟩
      split at hx
      ·rename_i v h2 ha;exact go v h2 rs0 hx (build v h2 fun t2 hag=>mZ hT (by rw[<-UQ hag];exact ha))
      ·rename_i g args h2 ha;obtain⟨v,cm,h3,hc,hfin⟩:=IC hx;refine go v h3 rs0 hfin (build v h3 fun t2 hag=> ?_);intro μ w f cs ops' i' r' l hr he hm ht ho' hw;obtain⟨rfl,args',q1,q2⟩:=UR hT hr he (show Js P T o t2 h=some (.enter g args,h2)by rw[<-UQ hag];exact ha);obtain⟨s1,μ1,w1,s2,v',s3,s4⟩:=Ew hNG (hrec n (by omega)) hc hr q1 f cs;rw[s1]at q2;exact⟨μ1,w1,v',s2,s3,.head (Mr hm ht ho' hw (.inr (Qs ha (fun _ _=>by simp))) q2) s4⟩
      ·rename_i l0 args h2 ha;obtain⟨v,cm,h3,hc,hfin⟩:=IC hx;refine go v h3 rs0 hfin (build v h3 fun t2 hag=> ?_);intro μ w f cs ops' i' r' l hr he hm ht ho' hw;obtain⟨rfl,rl,args',q0,q1,q2⟩:=UR hT hr he (show Js P T o t2 h=some (.round l0 args,h2)by rw[<-UQ hag];exact ha);obtain⟨_,s0⟩:=hrec n (by omega) _ _ _ _ hc;obtain⟨g,tm,asg,body,s1,μ1,w1,s2,v',s3,s4⟩:=s0 μ w f cs args' rl hr q0 q1;rw[s1]at q2;exact⟨μ1,w1,v',s2,s3,.head (Ms hm ht ho' hw (.inr (Qs ha (fun _ _=>by simp))) q2) s4⟩
      ·cases hx
     |reads=>
      rw[hk]at hx hrs0
      simp only at hx hrs0
      subst hrs0
      split at hx
      case h_2=>cases hx
      rename_i v h2 ha
      cases hrd:Gi o fr.tmps with
      |some rd=>
       rw[hrd]at hx;exact go v h2 _ hx ⟨ho,.inr ⟨hwant,by simp only[hk];exact⟨ha,.inl ⟨rd,hrd,rfl⟩⟩⟩⟩
      |none=>
       rw[hrd]at hx
       simp only at hx
       cases hl:(yU P o fr.tmps).isSome with
       |false=>rw[hl]at hx;cases hx
       |true=>
        rw[hl]at hx;exact go v h2 _ hx ⟨ho,.inr ⟨hwant,by simp only[hk];exact⟨ha,.inr ⟨hrd,hl,trivial⟩⟩⟩⟩
     |still=>
      rw[hk]at hx hrs0;simp only at hx hrs0;subst hrs0;split at hx;case h_2=>cases hx
      rename_i v h2 ha;exact go v h2 _ hx ⟨ho,.inr ⟨hwant,by simp only[hk];exact⟨ha,trivial⟩⟩⟩
     |alloc=>
      rw[hk]at hx hrs0;simp only at hx hrs0;subst hrs0;split at hx;case h_2=>cases hx
      rename_i v h2 ha;exact go v h2 _ hx ⟨ho,.inr ⟨hwant,by simp only[hk];exact⟨ha,trivial⟩⟩⟩
    ·rename_i hwant;exact go kV h rs0 hx ⟨ho,.inl ⟨hwant,rfl,rfl,hrs0⟩⟩
    ·cases hx
   split at hx
   ·rename_i hia;rw[hact]at hia;split at hx
    ·rename_i hh;refine one _ ?_ hx;cases hk:vB T o<;>rw[hk]at hia<;>first|exact⟨hh,rfl⟩|cases hia
    ·cases hx
   ·rename_i hia;rw[hact]at hia;refine one _ ?_ hx;cases hk:vB T o<;>rw[hk]at hia<;>first|rfl|exact absurd rfl hia
end
variable{d:Option Tmp}{t:List AV}{μ:Mu}{w:World}
section
open Go Go.RowKit
variable {P:Program} {T:TT} {S:Qb} {ρ:Nat->Value} {fl:Nat} {ops:Array Oper} {h:AH}
def Zn(t:List AV)(d:Option Tmp)(v:AV):List AV:=match d with
 |some k=>t.set k v
 |none=>t
theorem j0b(t:TM)(d:Option Tmp)(v:AV):(vC t d v).L=Zn t.L d v:=by
 cases d with
 |none=>rfl
 |some k=>exact Gv _ _ _
theorem PU{tmps:List AV}{rt:Array Value}{v:Value}(ht:qF ρ μ w tmps rt.toList)(hv:rel ρ μ w a v):qF ρ μ w (Zn tmps d a) (match d with|some d=>rt.setIfInBounds d v|none=>rt).toList:=by
 cases d with
 |none=>exact ht
 |some d=>simp only[Zn,Array.toList_setIfInBounds];exact Me d ht hv
theorem YK(t:List AV)(d:Option Tmp)(v:AV):(Zn t d v).length=t.length:=by cases d<;>simp[Zn]
theorem Mn{k:Nat}(hd:d≠some k):(Zn t d v)[k]? =t[k]? :=by
 cases d with
 |none=>rfl
 |some j=>exact vK (fun e=>hd (by rw[e]))
theorem TJ{t1 t2:List AV}{k:Nat}(hl:t1.length=t2.length)(hk:t1[k]? =t2[k]?):(Zn t1 d v)[k]? =(Zn t2 d v)[k]? :=by
 cases d with
 |none=>exact hk
 |some j=>
  simp only[Zn,List.getElem?_set,hl,hk]
theorem PT{d1 d2:Option Tmp}{v1 v2:AV}(hd:∀d,d1=some d->d2≠some d):Zn (Zn t d1 v1) d2 v2=Zn (Zn t d2 v2) d1 v1:=by
 cases d1 with
 |none=>rfl
 |some i=>
  cases d2 with
  |none=>rfl
  |some j=>exact List.set_comm _ _ (fun e=>hd i rfl (by rw[e]))
def Zi(listed:Array Bool):List BY->List AV->List AV
 |[],t=>t
 |e::r,t=>Zi listed r (if listed.getD e.i false=true then Zn t e.o.dst e.v else t)
def IP:List BY->List AV->List AV
 |[],t=>t
 |e::r,t=>IP r (Zn t e.o.dst e.v)
theorem Yb(listed:Array Bool):∀(a b:List BY) (t:List AV),Zi listed (a++b) t=Zi listed b (Zi listed a t)
 |[],_,_=>rfl
 |e::r,b,t=>Yb listed r b _
theorem IS{listed:Array Bool}{k:Nat}:∀(es:List BY) (t1 t2:List AV),t1.length=t2.length->t1[k]? =t2[k]?->(∀x∈es,x.o.dst=some k->on listed x.i)->(Zi listed es t1)[k]? =(IP es t2)[k]?
 |[],_,_,_,hk,_=>hk
 |e::r,t1,t2,hl,hk,hx=>by
  simp only[Zi,IP];split
  ·exact IS r _ _ (by rw[YK,YK,hl]) (TJ hl hk) (fun x hm=>hx x (by simp[hm]))
  ·rename_i hn;have:e.o.dst≠some k:=fun hd=>hn (hx e (by simp) hd);exact IS r _ _ (by rw[YK,hl]) (by rw[Mn this,hk]) (fun x hm=>hx x (by simp[hm]))
theorem IQ{listed:Array Bool}{k:Nat}:∀(es:List BY) (t:List AV),(∀x∈es,x.o.dst=some k->¬on listed x.i)->(Zi listed es t)[k]? =t[k]?
 |[],_,_=>rfl
 |e::r,t,hx=>by
  simp only[Zi];rw[IQ r _ (fun x hm=>hx x (by simp[hm]))];split
  ·rename_i hon;exact Mn (fun hd=>hx e (by simp) hd hon)
  ·rfl
theorem BF{l1 l2:Array Bool}:∀(es:List BY) (t:List AV),(∀x∈es,l1.getD x.i false=l2.getD x.i false)->Zi l1 es t=Zi l2 es t
 |[],_,_=>rfl
 |e::r,t,hx=>by simp only[Zi];rw[hx e (by simp)];exact BF r _ (fun x hm=>hx x (by simp[hm]))
theorem NL{listed:Array Bool}{d:Option Tmp}{v:AV}:∀(es:List BY) (t:List AV),(∀x∈es,on listed x.i->∀k,d=some k->x.o.dst≠some k)->Zi listed es (Zn t d v)=Zn (Zi listed es t) d v
 |[],_,_=>rfl
 |e::r,t,hx=>by
  simp only[Zi];rw[<-NL r _ (fun x hm=>hx x (by simp[hm]))];congr 1;split
  ·rename_i hon;exact PT (fun k hk=>hx e (by simp) hon k hk)
  ·rfl
theorem iP{listed:Array Bool}{e:BY}{pre post:List BY}(hi:e.i<listed.size)(hn:¬on listed e.i)(h1:∀x∈pre,x.i≠e.i)(h2:∀x∈post,x.i≠e.i)
 (h3:∀x∈post,on listed x.i->∀k,e.o.dst=some k->x.o.dst≠some k):Zi (listed.setIfInBounds e.i true) (pre++e::post) t=Zn (Zi listed (pre++e::post) t) e.o.dst e.v:=by
 rw[Yb,Yb]
 simp only[Zi]
 have e1:(listed.setIfInBounds e.i true).getD e.i false=true:=by simp[hi]
 have hn':¬listed.getD e.i false=true:=hn
 rw[if_pos e1,if_neg hn']
 rw[BF (l1:=listed.setIfInBounds e.i true) (l2:=listed) pre t (fun x hx=>getD_set_ne false (Ne.symm (h1 x hx)))]
 rw[BF (l1:=listed.setIfInBounds e.i true) (l2:=listed) post _ (fun x hx=>getD_set_ne false (Ne.symm (h2 x hx)))]
 exact NL post _ h3
theorem FR{n:Nat}:∀(es:List BY) (t:List AV),Zi (Array.replicate n false) es t=t
 |[],_=>rfl
 |e::r,t=>by simp only[Zi];rw[if_neg,FR r t];simp only[Hj,Ox];split<;>simp
theorem NK{listed:Array Bool}:∀(es:List BY) (t:List AV),(∀x∈es,on listed x.i)->Zi listed es t=IP es t
 |[],_,_=>rfl
 |e::r,t,hx=>by simp only[Zi,IP];have hn':listed.getD e.i false=true:=hx e (by simp);rw[if_pos hn'];exact NK r _ (fun x hm=>hx x (by simp[hm]))
theorem Tr.tmps:∀{es:List BY} {t t':TM} {h h':AH} {rs rs':Reads},Tr P T ρ fl ops es t h rs t' h' rs'->t'.L=IP es t.L
 |[],_,_,_,_,_,_,tr=>by rw[tr.1];rfl
 |e::r,_,_,_,_,_,_,tr=>by obtain⟨_,_,_,_,h4⟩:=tr;rw[Tr.tmps (es:=r) h4,j0b];rfl
theorem Tr.split:∀{a b:List BY} {t t':TM} {h h':AH} {rs rs':Reads},Tr P T ρ fl ops (a++b) t h rs t' h' rs'->∃tm hm rm,Tr P T ρ fl ops a t h rs tm hm rm/\Tr P T ρ fl ops b tm hm rm t' h' rs'
 |[],b,t,t',h,h',rs,rs',tr=>⟨t,h,rs,⟨rfl,rfl,rfl⟩,tr⟩
 |e::r,b,t,t',h,h',rs,rs',tr=>by obtain⟨h1,h2,rs1,h3,h4⟩:=tr;obtain⟨tm,hm,rm,q1,q2⟩:=Tr.split h4;exact⟨tm,hm,rm,⟨h1,h2,rs1,h3,q1⟩,q2⟩
theorem Tr.join:∀{a b:List BY} {t tm t':TM} {h hm h':AH} {rs rm rs':Reads},Tr P T ρ fl ops a t h rs tm hm rm->Tr P T ρ fl ops b tm hm rm t' h' rs'->Tr P T ρ fl ops (a++b) t h rs t' h' rs'
 |[],b,_,_,_,_,_,_,_,_,_,ha,hb=>by obtain⟨rfl,rfl,rfl⟩:=ha;exact hb
 |e::r,b,_,_,_,_,_,_,_,_,_,ha,hb=>by obtain⟨h1,h2,rs1,h3,h4⟩:=ha;exact⟨h1,h2,rs1,h3,Tr.join h4 hb⟩
def Ep(T:TT)(ops:Array Oper)(e:BY):Prop:=vB T e.o= .alloc/\yQ ops e.tmps e.o=some true
theorem mX(hT:TT.Sound P T){e:BY}{rs rs1:Reads}(hs:Rx P T ρ fl ops e rs rs1)(hna:MM (vB T e.o)=false):
 ((Ep T ops e/\∃ab,e.h1=e.h.push ab)\/(¬Ep T ops e/\e.h1=e.h))/\(∀x∈rs,x∈rs1)/\(∀rd,vB T e.o= .reads->yQ ops e.tmps e.o=some true->Gi e.o e.tmps=some rd->(e.i,rd,e.v)∈rs1):=by
 obtain⟨ho,⟨hw,hv,hh,hr⟩|⟨hw,hr⟩⟩:=hs
 ·have hnp:¬Ep T ops e:=fun hp=>by rw[hp.2]at hw;cases hw
  refine⟨.inr ⟨hnp,hh⟩,?_,fun rd _ hw2 _=>by rw[hw2]at hw;cases hw⟩;cases hk:vB T e.o with
  |acts=>rw[hk]at hna;cases hna
  |_=>rw[hk]at hr;subst hr;exact fun x hx=>hx
 ·cases hk:vB T e.o with
  |acts=>rw[hk]at hna;cases hna
  |still=>
   rw[hk]at hr;obtain⟨ha,rfl⟩:=hr;exact⟨.inr ⟨fun hp=>(by have:=hp.1;rw[hk]at this;cases this),(Oo hk ha).1⟩,fun x hx=>hx,fun rd hh=>by cases hh⟩
  |alloc=>
   rw[hk]at hr;obtain⟨ha,rfl⟩:=hr;obtain⟨mk,ab,_,h2,_⟩:=Nx hT hk ha;exact⟨.inl ⟨⟨hk,hw⟩,ab,h2⟩,fun x hx=>hx,fun rd hh=>by cases hh⟩
  |reads=>
   rw[hk]at hr;obtain⟨ha,hr⟩:=hr;have hnp:¬Ep T ops e:=fun hp=>by have:=hp.1;rw[hk]at this;cases this
   rcases hr with⟨rd,h1,rfl⟩|⟨h1,h2,rfl⟩
   ·refine⟨.inr ⟨hnp,?_⟩,fun x hx=>by simp[hx],fun rd' _ _ h2=> ?_⟩
    ·obtain⟨ds,op,ty,pos,after,guard⟩:=id e.o;exact mV hk ha
    ·rw[h1]at h2;obtain rfl:=jS h2;simp
   ·exact⟨.inr ⟨hnp,(Tu hk ha h1 h2).1⟩,fun x hx=>hx,fun rd' _ _ h3=>by rw[h1]at h3;cases h3⟩
end
variable{μ':Mu}{w':World}{ab:AB}{ob:Obj}
section
open Go Go.RowKit
variable {P:Program} {T:TT} {S:Qb} {ρ:Nat->Value} {fl:Nat} {ops:Array Oper} {h:AH}
theorem Ns.extend{h:List AB}(hr:Ns P ρ fl μ h w)(ex:List AB):Ns P ρ fl μ (h++ex) w:=by
 have key:∀(b:Nat) (x:Nat×Nat) (ab:AB),μ b=some x->(h++ex)[b]? =some ab->h[b]? =some ab:=fun b x ab hb hx=>by rwa [jZ (hr.dom b x hb)]at hx
 refine⟨hr.floor,fun b x hb=>by have:=hr.dom b x hb;simp;omega,fun b r base ab hb hx=>hr.obj b r base ab hb (key b _ ab hb hx),fun b b' r base base' ab ab' h1 h2 h3 h4 h5 h6=>hr.inj b b' r base base' ab ab' h1 h2 (key b _ ab h1 h3) (key b' _ ab' h2 h4) h5 h6,hr.pin⟩
theorem JQ.extend{h h':List AB}(e:JQ P ρ fl μ h w μ' h' w')(ex:List AB):JQ P ρ fl μ h w μ' (h'++ex) w':=by
 refine⟨e.more,by have:=e.len;simp;omega,e.new,fun b hb hn=> ?_,fun b hb=> ?_,fun b l t hb=> ?_,e.grows,e.size,e.own,e.rest,e.same,e.hr.extend ex⟩
 ·rw[jZ (zS hb e.len)];exact e.keep b hb hn
 ·have:=e.gone b hb;rw[jZ (List.getElem?_eq_some_iff.1 this).1];exact this
 ·have:=e.frz b l t hb;rw[jZ (List.getElem?_eq_some_iff.1 this).1];exact this
theorem JQ.late{h h':List AB}{b:Nat}(hr:Ns P ρ fl μ h w)(e:JQ P ρ fl μ h w μ' h' w')(hb:h.length<=b)(hn:μ' b=none)(hx:h'[b]? =some ab)(ho:XQ P ρ μ' w' 0 ab ob):
 JQ P ρ fl μ h w (up μ' b (w'.heap.size,0)) h' (w'.alloc ob):=by
 have hm:yZ μ' (up μ' b (w'.heap.size,0)):=HI hn
 have hg:=DJ w' ob
 have hs:(w'.alloc ob).heap.size=w'.heap.size+1:=by simp
 have hblt:=(List.getElem?_eq_some_iff.1 hx).1
 refine⟨e.more.trans hm,e.len,fun c x h1 h2=> ?_,e.keep,e.gone,e.frz,e.grows.trans hg,by have:=e.size;omega,fun c r base h1 h2=> ?_,fun r h1 h2=> ?_,e.same,?_⟩
 ·by_cases hc:c=b
  ·omega
  ·rw[XX hc]at h2;exact e.new c x h1 h2
 ·by_cases hc:c=b
  ·subst hc;rw[Jb]at h2;simp only[jP,jV]at h2;have:=e.size;exact .inl (by omega)
  ·rw[XX hc]at h2;exact e.own c r base h1 h2
 ·rw[Below.heap_alloc w' ob r (zS h1 e.size)];exact e.rest r h1 h2
 ·refine⟨by have:=e.hr.floor;omega,fun c x hc=> ?_,fun c r base ac hc hac=> ?_,fun c c' r base base' a1 a2 h1 h2 h3 h4 h5 h6=> ?_,e.hr.pin.more hm hg⟩
  ·by_cases hcb:c=b
   ·omega
   ·rw[XX hcb]at hc;exact e.hr.dom c x hc
  ·by_cases hcb:c=b
   ·subst hcb;rw[Jb]at hc;simp only[jP,jV]at hc;obtain⟨rfl,rfl⟩:=hc;rw[hx]at hac;obtain rfl:=jS hac;exact⟨fun _=>e.hr.floor,by omega,ob,Jp w' ob,ho.mono hm hg⟩
   ·rw[XX hcb]at hc;obtain⟨h3,h4,o',h5,h6⟩:=e.hr.obj c r base ac hc hac;exact⟨h3,by omega,o',by rw[Below.heap_alloc w' ob r h4];exact h5,h6.mono hm hg⟩
  ·by_cases hc1:c=b
   ·by_cases hc2:c'=b
    ·omega
    ·rw[XX hc2]at h2;rw[hc1,Jb]at h1;simp only[jP,jV]at h1;have:=(e.hr.obj c' r base' a2 h2 h4).2.1;omega
   ·rw[XX hc1]at h1;by_cases hc2:c'=b
    ·rw[hc2,Jb]at h2;simp only[jP,jV]at h2;have:=(e.hr.obj c r base a1 h1 h3).2.1;omega
    ·rw[XX hc2]at h2;exact e.hr.inj c c' r base base' a1 a2 h1 h2 h3 h4 h5 h6
theorem yD.extend{h' h1:AH}{ex:List AB}(e:yD P ρ fl μ h w μ' h' w')(hh:h1.L=h'.L++ex):yD P ρ fl μ h w μ' h1 w':=by unfold yD;rw[hh];exact JQ.extend e ex
theorem yD.late{h':AH}{b:Nat}(hr:HR P ρ fl μ h w)(e:yD P ρ fl μ h w μ' h' w')(hb:h.n<=b)(hn:μ' b=none)(hx:h'.at b=some ab)(ho:XQ P ρ μ' w' 0 ab ob):
 yD P ρ fl μ h w (up μ' b (w'.heap.size,0)) h' (w'.alloc ob):=
 JQ.late hr e (by rw[Ic];exact hb) hn (by rw[Kn];exact hx) ho
def oX(T:TT)(ops:Array Oper)(e:BY)(rd:RD):Prop:=vB T e.o= .reads/\yQ ops e.tmps e.o=some true/\Gi e.o e.tmps=some rd
theorem j79(hT:TT.Sound P T){tf:TM}{hf:AH}{rsf:Reads}:∀(B0:List BY) (tA:TM) (HA:AH) (RA:Reads),Tr P T ρ fl ops B0 tA HA RA tf hf rsf->
 ∃Sg B tS HS RS exs,B0=Sg++B/\Tr P T ρ fl ops Sg tA HA RA tS HS RS/\Tr P T ρ fl ops B tS HS RS tf hf rsf/\(∀e∈Sg,MM (vB T e.o)=false)/\(∀a B',B=a::B'->MM (vB T a.o)=true)/\HS.L=HA.L++exs/\
  (∀e∈Sg,Ep T ops e->HA.n<=e.h.n/\e.h.n<HS.n/\∃ab,e.h1=e.h.push ab/\HS.at e.h.n=some ab)/\
  (∀e∈Sg,∀e2∈Sg,Ep T ops e->Ep T ops e2->e.h.n=e2.h.n->e.i=e2.i)/\(∀x∈RA,x∈RS)/\(∀e∈Sg,∀rd,oX T ops e rd->(e.i,rd,e.v)∈RS)
 |[],tA,HA,RA,tr=>⟨[],[],tA,HA,RA,[],rfl,⟨rfl,rfl,rfl⟩,tr,fun e he=>(by cases he),fun a B' h=>(by cases h),by simp,fun e he=>(by cases he),fun e he=>(by cases he),fun x hx=>hx,fun e he=>(by cases he)⟩
 |e::r,tA,HA,RA,tr=>by
  cases hk:MM (vB T e.o)with
  |true=>exact⟨[],e::r,tA,HA,RA,[],rfl,⟨rfl,rfl,rfl⟩,tr,fun e he=>(by cases he),fun a B' h=>(by obtain⟨rfl,_⟩:=UN h;exact hk),by simp,fun e he=>(by cases he),fun e he=>(by cases he),fun x hx=>hx,fun e he=>(by cases he)⟩
  |false=>
   obtain⟨q1,q2,rs1,q3,q4⟩:=tr;obtain⟨p1,p2,p3⟩:=mX hT q3 hk;obtain⟨Sg,B,tS,HS,RS,exs,s1,s2,s3,s4,s5,s6,s7,s8,s9,s10⟩:=j79 hT r _ e.h1 rs1 q4;have hex:∃ex1,e.h1.L=HA.L++ex1:=by
    rcases p1 with⟨_,ab,h⟩|⟨_,h⟩
    ·exact⟨[ab],by rw[h,q2,Bo]⟩
    ·exact⟨[],by rw[h,q2];simp⟩
   obtain⟨ex1,hex⟩:=hex;have hlen:HA.n<=e.h1.n:=by rw[<-Ic,<-Ic,hex];simp
   have hS:HS.L=HA.L++(ex1++exs):=by rw[s6,hex];simp
   have hself:Ep T ops e->HA.n=e.h.n/\e.h1.n=HA.n+1/\∃ab,e.h1=e.h.push ab/\HS.at e.h.n=some ab:=fun hp=>by
    rcases p1 with⟨_,ab,h⟩|⟨hn,_⟩
    ·refine⟨by rw[q2],by rw[h,q2];rfl,ab,h,?_⟩;rw[<-Kn,s6,h,Bo,jZ (by simp[Ic]),zQ (by rw[Ic];exact jM _),Ic,Ju];rfl
    ·exact absurd hp hn
   refine⟨e::Sg,B,tS,HS,RS,ex1++exs,by rw[s1];rfl,⟨q1,q2,rs1,q3,s2⟩,s3,?_,s5,hS,?_,?_,fun x hx=>s9 x (p2 x hx),?_⟩
   ·intro x hx;cases hx with
    |head=>exact hk
    |tail _ hm=>exact s4 x hm
   ·intro x hx hp;cases hx with
    |head=>
     obtain⟨h1,h2,ab,h3,h4⟩:=hself hp;exact⟨by omega,jR h4,ab,h3,h4⟩
    |tail _ hm=>
     obtain⟨h1,h2⟩:=s7 x hm hp;exact⟨by omega,h2⟩
   ·intro x hx y hy hpx hpy hl;cases hx with
    |head=>
     cases hy with
     |head=>rfl
     |tail _ hm=>
      obtain⟨h1,h2,_⟩:=hself hpx;have:=(s7 y hm hpy).1;omega
    |tail _ hm=>
     cases hy with
     |head=>
      obtain⟨h1,h2,_⟩:=hself hpy;have:=(s7 x hm hpx).1;omega
     |tail _ hm2=>exact s8 x hm y hm2 hpx hpy hl
   ·intro x hx rd hrd;cases hx with
    |head=>exact s9 _ (p3 rd hrd.1 hrd.2.1 hrd.2.2)
    |tail _ hm=>exact s10 x hm rd hrd
structure Bn(P:Program)(T:TT)(ρ:Nat->Value)(fl:Nat)(ops:Array Oper)(es:List BY)(t0:TM)(h0:AH)(tf:TM)(hf:AH)(rsf:Reads)(μ0:Mu)(w0:World)
 (listed:Array Bool) (f:Frame) (w:World) (A B:List BY) (tA:TM) (HA:AH) (RA:Reads) (μ:Mu):Prop where
 cut:es=A++B
 trA:Tr P T ρ fl ops A t0 h0 [] tA HA RA
 trB:Tr P T ρ fl ops B tA HA RA tf hf rsf
 actsA:∀e∈A,MM (vB T e.o)=true->on listed e.i
 actsB:∀e∈B,MM (vB T e.o)=true->¬on listed e.i
 head:∀a B',B=a::B'->MM (vB T a.o)=true
 eff:yD P ρ fl μ0 h0 w0 μ HA w
 tmps:qF ρ μ w (Zi listed es t0.L) f.tmps.toList
 pend:∀e∈A,Ep T ops e->h0.n<=e.h.n/\e.h.n<HA.n/\(¬on listed e.i->μ e.h.n=none/\∃ab,e.h1=e.h.push ab/\HA.at e.h.n=some ab)
 dist:∀e∈A,∀e2∈A,Ep T ops e->Ep T ops e2->e.h.n=e2.h.n->e.i=e2.i
 reads:∀e∈A,∀rd,oX T ops e rd->¬on listed e.i->(e.i,rd,e.v)∈RA
end
section
open Go Go.RowKit
variable {P:Program} {T:TT} {S:Qb} {ρ:Nat->Value} {fl:Nat} {ops:Array Oper}
theorem Tr.oper:∀{es:List BY} {t t':TM} {h h':AH} {rs rs':Reads},Tr P T ρ fl ops es t h rs t' h' rs'->∀e∈es,ops[e.i]? =some e.o
 |[],_,_,_,_,_,_,_,e,he=>by cases he
 |x::r,_,_,_,_,_,_,tr,e,he=>by
  obtain⟨_,_,_,h3,h4⟩:=tr;cases he with
  |head=>exact h3.1
  |tail _ hm=>exact Tr.oper (es:=r) h4 e hm
theorem tM{h:AH}{rs:Reads}(hh:hold T h rs=true){i:Nat}{rd:RD}(hm:(i,rd,v)∈rs):oS T h rd=some v:=by
 unfold hold at hh;have:=List.all_eq_true.1 hh _ hm;simp only at this;split at this
 ·rename_i u hu;rw[hu,bP 8 u v this]
 ·cases this
section pick
variable {L:List Nat} {es:List BY} {t0:TM} {h0:AH} {tf:TM} {hf:AH} {rsf:Reads} {μ0:Mu} {w0:World} {listed:Array Bool} {f:Frame} {w:World} {A B:List BY} {tA:TM} {HA:AH} {RA:Reads} {μ:Mu}
theorem Bn.hold(iv:Bn P T ρ fl ops es t0 h0 tf hf rsf μ0 w0 listed f w A B tA HA RA μ)(hh:hold T hf rsf=true):Ex.hold T HA RA=true:=by
 cases B with
 |nil=>
  obtain⟨_,h1,h2⟩:=iv.trB;rw[<-h1,<-h2];exact hh
 |cons a B'=>
  obtain⟨q1,q2,rs1,q3,q4⟩:=iv.trB;have hk:=iv.head a B' rfl;obtain⟨_,⟨_,_,_,hr⟩|⟨_,hr⟩⟩:=q3
  ·cases hq:vB T a.o<;>rw[hq]at hk hr<;>first|cases hk|skip
   rw[<-q2];exact hr.1
  ·cases hq:vB T a.o<;>rw[hq]at hk hr<;>first|cases hk|skip
   rw[<-q2];exact hr.1
theorem j78(ho:j0J T ops L)(hes:es.map (·.i)=L)(tr:Tr P T ρ fl ops es t0 h0 [] tf hf rsf){e:BY}{pre post:List BY}(hsp:es=pre++e::post)(hcl:Vi ops listed)(hrd:Ut ops listed e.i):
 (∀k∈Kz ops e.o,(Zi listed es t0.L)[k]? =e.tmps.at k)/\Zi (listed.setIfInBounds e.i true) es t0.L=Zn (Zi listed es t0.L) e.o.dst e.v:=by
 have hL:L=pre.map (·.i)++e.i::post.map (·.i):=by rw[<-hes,hsp];simp
 have hoper:=tr.oper
 have hpre:∀x∈pre,x.i≠e.i:=fun x hx hxe=>ho.nodup _ _ _ hL (by rw[<-hxe];exact List.mem_map_of_mem hx)
 have hpostL:∀x∈post,∃p q,L=(pre.map (·.i)++e.i::p)++x.i::q:=fun x hx=>by obtain⟨p,q,rfl⟩:=ZO hx;exact⟨p.map (·.i),q.map (·.i),by rw[hL];simp⟩
 have hpost:∀x∈post,x.i≠e.i:=fun x hx hxe=>by obtain⟨p,q,h⟩:=hpostL x hx;exact ho.nodup _ _ _ h (by rw[hxe];simp)
 have heo:ops[e.i]? =some e.o:=hoper e (by rw[hsp];simp)
 have cpre:∀k∈Kz ops e.o,∀x∈pre,x.o.dst=some k->on listed x.i:=fun k hk x hx hd=>by
  have hxo:=hoper x (by rw[hsp];simp[hx]);rcases ho.tmps e.i x.i e.o x.o k heo hxo hd hk with h|h|h
  ·exact absurd h.symm (hpre x hx)
  ·exact hrd.before hcl h
  ·exfalso;obtain⟨p,q,rfl⟩:=ZO hx;have h2:L=p.map (·.i)++x.i::(q.map (·.i)++e.i::post.map (·.i)):=by rw[hL];simp
   have:=ho.before h h2;exact ho.nodup _ _ _ hL (by simp;left;simpa using this)
 have cpost:∀k∈Kz ops e.o,∀x∈post,x.o.dst=some k->¬on listed x.i:=fun k hk x hx hd hon=>by
  have hxo:=hoper x (by rw[hsp];simp[hx]);rcases ho.tmps e.i x.i e.o x.o k heo hxo hd hk with h|h|h
  ·exact hpost x hx h.symm
  ·obtain⟨p,q,h2⟩:=hpostL x hx;have:=ho.before h hL;exact ho.nodup _ _ _ h2 (by simp only[zN];exact .inl this)
  ·exact hrd.2.1 (hcl.before h hon)
 have het:e.tmps.L=IP pre t0.L:=by have tr2:=tr;rw[hsp]at tr2;obtain⟨tm,hm,rm,q1,q2⟩:=tr2.split;rw[<-q1.tmps,q2.1]
 refine⟨fun k hk=> ?_,?_⟩
 ·rw[hsp,Yb,<-YZ,het];simp only[Zi];have hn:¬listed.getD e.i false=true:=hrd.2.1;rw[if_neg hn,IQ post _ (cpost k hk)];exact IS pre t0.L t0.L rfl rfl (cpre k hk)
 ·rw[hsp];exact iP hrd.1 hrd.2.1 hpre hpost (fun x hx hon k hk hd=>cpost k (by simp[Kz,hk]) x hx hd hon)
theorem Pu{o:Oper}{t:Tmp}(hx:Operand.tmp t∈o.op.operands):t∈Kz ops o:=by unfold Kz;simp only[zN,List.mem_filterMap];exact .inl (.inr ⟨.tmp t,by simpa using hx,rfl⟩)
theorem rX{o:Oper}{t1 t2:TM}(hk:∀k∈Kz ops o,t1.at k=t2.at k):oT o t1 t2/\yQ ops t1 o=yQ ops t2 o:=by
 refine⟨fun x hx=> ?_,Nl fun j want d hg hd=>hk d ?_⟩
 ·cases x with
  |tmp t=>
   have:=hk t (Pu hx);simp only[xJ,this]
  |_=>rfl
 ·unfold Kz;simp only[zN];right;rw[hg];simp[hd]
theorem uX(hT:TT.Sound P T)(ho:j0J T ops L)(hes:es.map (·.i)=L)(tr:Tr P T ρ fl ops es t0 h0 [] tf hf rsf)(hh:Ex.hold T hf rsf=true)(hr0:HR P ρ fl μ0 h0 w0){i:Nat}{r:List Nat}{l:List Item}{cs:List Frame}
 (iv:Bn P T ρ fl ops es t0 h0 tf hf rsf μ0 w0 listed f w A B tA HA RA μ) (hcl:Vi ops listed) (hrd:Ut ops listed i) (hm:f.mode= .run) (ht:f.todo= .inRegion ops (i::r)::l):
 ∃v' w' A' B' tA' HA' RA' μ',Steps P (lone f cs w) (lone (f.finish v') cs w')/\Bn P T ρ fl ops es t0 h0 tf hf rsf μ0 w0 (listed.setIfInBounds i true) (f.finish v') w' A' B' tA' HA' RA' μ':=by
 have hiL:i∈L:=ho.all i hrd.2.2.1
 rw[<-hes,XJ]at hiL
 obtain⟨e,he,rfl⟩:=hiL
 obtain⟨pre,post,hsp⟩:=ZO he
 obtain⟨hsee,hfold⟩:=j78 ho hes tr hsp hcl hrd
 obtain⟨hag,hwt⟩:=rX (t1:=Ra (Zi listed es t0.L)) (t2:=e.tmps) (fun k hk=>by rw[j30];exact hsee k hk)
 have hXL:qF ρ μ w (Ra (Zi listed es t0.L)).L f.tmps.toList:=by rw[j0p];exact iv.tmps
 have heo:ops[e.i]? =some e.o:=tr.oper e he
 have henv:ZV ρ μ w (Ra (Zi listed es t0.L)) f.eval:=dU hXL (fun t=>by simp[Frame.eval]) (fun _=>rfl) (fun _=>rfl)
 have hwant:∀b,yQ ops e.tmps e.o=some b->Region.wanted e.o (yielded ops f.tmps)=b:=fun b hb=>UK hXL (by rw[hwt];exact hb)
 have hL:L=pre.map (·.i)++e.i::post.map (·.i):=by rw[<-hes,hsp];simp
 have uniq:∀x∈es,x.i=e.i->x=e:=fun x hx hxe=>by
  rw[hsp]at hx;simp only[zN,qL]at hx;rcases hx with hx|rfl|hx
  ·exact absurd (show e.i∈pre.map (·.i)by rw[<-hxe];exact List.mem_map_of_mem hx) (ho.nodup _ _ _ hL)
  ·rfl
  ·obtain⟨p,q,rfl⟩:=ZO hx;exact absurd (show x.i∈pre.map (·.i)++e.i::p.map (·.i)by rw[hxe];simp) (ho.nodup (pre.map (·.i)++e.i::p.map (·.i)) x.i (q.map (·.i)) (by rw[hL];simp))
 have hons:∀j,on (listed.setIfInBounds e.i true) j↔on listed j\/j=e.i:=fun j=>uW hrd.1
 have fin:∀{μ1:Mu} {w1:World} {v':Value},yZ μ μ1->Jt w w1->rel ρ μ1 w1 e.v v'->qF ρ μ1 w1 (Zi (listed.setIfInBounds e.i true) es t0.L) (f.finish v').tmps.toList:=by intro μ1 w1 v' h1 h2 h3;rw[hfold,QL ht heo];exact PU (qF.mono h1 h2 _ _ iv.tmps) h3
 cases hact:MM (vB T e.o)with
 |true=>
  have heB:e∈B:=by
   have:e∈A++B:=by rw[<-iv.cut];exact he
   rcases List.mem_append.1 this with h|h
   ·exact absurd (iv.actsA e h hact) hrd.2.1
   ·exact h
  cases hB:B with
  |nil=>rw[hB]at heB;cases heB
  |cons a B'=>
   have hha:=iv.head a B' hB;have hae:a=e:=by
    rw[hB]at heB;cases heB with
    |head=>rfl
    |tail _ hmem=>
     exfalso;obtain⟨p,q,rfl⟩:=ZO hmem;have h2:L=(A.map (·.i)++a.i::p.map (·.i))++e.i::q.map (·.i):=by rw[<-hes,iv.cut,hB];simp
     have hao:ops[a.i]? =some a.o:=tr.oper a (by rw[iv.cut,hB];simp);have:=ho.acts _ _ _ h2 a.i (by simp) (by rw[IY hao];exact hha);exact iv.actsB a (by rw[hB];simp) hha (hrd.before hcl this)
   subst hae;have trB:=iv.trB;rw[hB]at trB;obtain⟨q1,q2,rs1,q3,q4⟩:=trB;have step:∃μ1 w1 v',yD P ρ fl μ HA w μ1 a.h1 w1/\rel ρ μ1 w1 a.v v'/\Steps P (lone f cs w) (lone (f.finish v') cs w1)/\rs1=keep ops a.i RA:=by
    obtain⟨_,⟨hw,hv,hh1,hr⟩|⟨hw,hr⟩⟩:=q3
    ·cases hq:vB T a.o<;>rw[hq]at hact hr<;>first|cases hact|skip
     refine⟨μ,w,undef,by rw[hh1,q2];exact yD.refl iv.eff.hr,by rw[hv];exact Kg,.one (UH hm ht heo (hwant false hw)),hr.2⟩
    ·cases hq:vB T a.o<;>rw[hq]at hact hr<;>first|cases hact|skip
     obtain⟨_,hr2,hrun⟩:=hr;obtain⟨μ1,w1,v',r1,r2,r3⟩:=hrun (Ra (Zi listed es t0.L)) (fun x hx=>(hag x hx).symm) μ w f cs ops a.i r l (by rw[q2];exact iv.eff.hr) henv hm ht heo (hwant true hw);exact⟨μ1,w1,v',by rw[<-q2];exact r1,r2,r3,hr2⟩
   obtain⟨μ1,w1,v',r1,r2,r3,r4⟩:=step;subst r4;obtain⟨Sg,B2,tS,HS,RS,exs,s1,s2,s3,s4,s5,s6,s7,s8,s9,s10⟩:=j79 hT B' _ _ _ q4;have hlen:=r1.len;have hSn:HS.n=a.h1.n+exs.length:=by rw[<-Ic,s6,jQ,Ic]
   have hSat:∀b,b<a.h1.n->HS.at b=a.h1.at b:=fun b hb=>by rw[<-Kn,s6,jZ (by rw[Ic];exact hb),Kn]
   refine⟨v',w1,A++a::Sg,B2,tS,HS,RS,μ1,r3,?_,?_,s3,?_,?_,s5,?_,fin r1.more r1.grows r2,?_,?_,?_⟩
   ·rw[iv.cut,hB,s1];simp
   ·exact iv.trA.join ⟨q1,q2,_,q3,s2⟩
   ·intro x hx hk;rw[hons];simp only[zN,qL]at hx;rcases hx with hx|rfl|hx
    ·exact .inl (iv.actsA x hx hk)
    ·exact .inr rfl
    ·rw[s4 x hx]at hk;cases hk
   ·intro x hx hk hon;rw[hons]at hon;have hxB:x∈B':=by rw[s1];simp[hx]
    rcases hon with hon|hon
    ·exact iv.actsB x (by rw[hB];simp[hxB]) hk hon
    ·have hxa:=uniq x (by rw[iv.cut,hB];simp[hxB]) hon;subst hxa;obtain⟨p,q,hpq⟩:=ZO hxB;refine ho.nodup (A.map (·.i)++x.i::p.map (·.i)) x.i (q.map (·.i)) (by rw[<-hes,iv.cut,hB,hpq];simp) (by simp)
   ·exact(iv.eff.trans hr0 r1).extend s6
   ·intro x hx hp;simp only[zN,qL]at hx;rcases hx with hx|rfl|hx
    ·obtain⟨p1,p2,p3⟩:=iv.pend x hx hp;refine⟨p1,by omega,fun hn=> ?_⟩;have hn0:¬on listed x.i:=fun hon=>hn ((hons _).2 (.inl hon));obtain⟨p4,ab,p5,p6⟩:=p3 hn0;refine⟨?_,ab,p5,?_⟩
     ·cases hq:μ1 x.h.n with
      |none=>rfl
      |some y=>exact absurd (r1.new _ _ p4 hq) (by omega)
     ·rw[hSat _ (by omega),r1.keep _ p2 p4];exact p6
    ·exfalso;have:=hp.1;rw[this]at hact;cases hact
    ·obtain⟨p1,p2,ab,p3,p4⟩:=s7 x hx hp;have:=iv.eff.len;refine⟨by omega,p2,fun _=>⟨?_,ab,p3,p4⟩⟩;cases hq:μ1 x.h.n with
     |none=>rfl
     |some y=>exact absurd (r1.hr.dom _ _ hq) (by omega)
   ·intro x hx y hy hpx hpy hl;simp only[zN,qL]at hx hy;have notact:∀z:BY,Ep T ops z->z≠a:=fun z hz hza=>by subst hza;rw[hz.1]at hact;cases hact
    rcases hx with hx|hx|hx
    ·rcases hy with hy|hy|hy
     ·exact iv.dist x hx y hy hpx hpy hl
     ·exact absurd hy (notact y hpy)
     ·have h1:=(iv.pend x hx hpx).2.1;have h2:=(s7 y hy hpy).1;omega
    ·exact absurd hx (notact x hpx)
    ·rcases hy with hy|hy|hy
     ·have h1:=(iv.pend y hy hpy).2.1;have h2:=(s7 x hx hpx).1;omega
     ·exact absurd hy (notact y hpy)
     ·exact s8 x hx y hy hpx hpy hl
   ·intro x hx rd hxr hn;simp only[zN,qL]at hx;have hn0:¬on listed x.i:=fun hon=>hn ((hons _).2 (.inl hon));rcases hx with hx|rfl|hx
    ·have h1:=iv.reads x hx rd hxr hn0;refine s9 _ ?_;unfold keep;rw[List.mem_filter];refine⟨h1,?_⟩;have hxo:=tr.oper x (by rw[iv.cut];simp[hx]);have hxl:=(Array.getElem?_eq_some_iff.1 hxo).1;cases hq:waits ops.size (j0L ops) a.i x.i with
     |false=>simp[hq]
     |true=>exact absurd (hrd.before hcl (ho.waits _ _ hxl hq)) hn0
    ·rw[hxr.1]at hact;cases hact
    ·exact s10 x hx rd hxr
 |false=>
  have heA:e∈A:=by
   have:e∈A++B:=by rw[<-iv.cut];exact he
   rcases List.mem_append.1 this with h|h
   ·exact h
   ·exfalso;cases hB:B with
    |nil=>rw[hB]at h;cases h
    |cons a B'=>
     have hha:=iv.head a B' hB
     rw[hB]at h
     cases h with
     |head=>rw[hha]at hact;cases hact
     |tail _ hmem=>
      obtain⟨p,q,rfl⟩:=ZO hmem;have h2:L=(A.map (·.i)++a.i::p.map (·.i))++e.i::q.map (·.i):=by rw[<-hes,iv.cut,hB];simp
      have hao:ops[a.i]? =some a.o:=tr.oper a (by rw[iv.cut,hB];simp);have:=ho.acts _ _ _ h2 a.i (by simp) (by rw[IY hao];exact hha);exact iv.actsB a (by rw[hB];simp) hha (hrd.before hcl this)
  obtain⟨rs0,rs1,hstep⟩:∃rs0 rs1,Rx P T ρ fl ops e rs0 rs1:=by have tr2:=tr;rw[hsp]at tr2;obtain⟨tm,hm',rm,_,_,_,rs1,q,_⟩:=tr2.split;exact⟨rm,rs1,q⟩
  have go:∀(μ1:Mu) (w1:World) (v':Value),yD P ρ fl μ0 h0 w0 μ1 HA w1->yZ μ μ1->Jt w w1->rel ρ μ1 w1 e.v v'->(∀x∈A,Ep T ops x->x.i≠e.i->¬on listed x.i->μ x.h.n=none->μ1 x.h.n=none)->Steps P (lone f cs w) (lone (f.finish v') cs w1)->
   ∃v' w' A' B' tA' HA' RA' μ',Steps P (lone f cs w) (lone (f.finish v') cs w')/\Bn P T ρ fl ops es t0 h0 tf hf rsf μ0 w0 (listed.setIfInBounds e.i true) (f.finish v') w' A' B' tA' HA' RA' μ':=fun μ1 w1 v' h1 h2 h3 h4 h5 h6=>by
   refine⟨v',w1,A,B,tA,HA,RA,μ1,h6,iv.cut,iv.trA,iv.trB,fun x hx hk=>(hons _).2 (.inl (iv.actsA x hx hk)),fun x hx hk hon=> ?_,iv.head,h1,fin h2 h3 h4,fun x hx hp=> ?_,iv.dist,fun x hx rd hxr hn=>iv.reads x hx rd hxr (fun hon=>hn ((hons _).2 (.inl hon)))⟩
   ·rw[hons]at hon;rcases hon with hon|hon
    ·exact iv.actsB x hx hk hon
    ·have:=uniq x (by rw[iv.cut];simp[hx]) hon;subst this;rw[hact]at hk;cases hk
   ·obtain⟨p1,p2,p3⟩:=iv.pend x hx hp;refine⟨p1,p2,fun hn=> ?_⟩;have hn0:¬on listed x.i:=fun hon=>hn ((hons _).2 (.inl hon));obtain⟨p4,p5⟩:=p3 hn0;exact⟨h5 x hx hp (fun hxe=>hn ((hons _).2 (.inr hxe))) hn0 p4,p5⟩
  have calm:∀(h9:AH),Js P T e.o e.tmps HA=some (.val e.v,HA)->yQ ops e.tmps e.o=some true->
   ∃v' w' A' B' tA' HA' RA' μ',Steps P (lone f cs w) (lone (f.finish v') cs w')/\Bn P T ρ fl ops es t0 h0 tf hf rsf μ0 w0 (listed.setIfInBounds e.i true) (f.finish v') w' A' B' tA' HA' RA' μ':=fun _ ha hw=>by
   have ha2:Js P T e.o (Ra (Zi listed es t0.L)) HA=some (.val e.v,HA):=by rw[UQ hag];exact ha
   obtain⟨μ1,w1,v',q1,q2,q3⟩:=UR hT iv.eff.hr henv ha2
   refine go μ1 w1 v' (iv.eff.trans hr0 q2) q2.more q2.grows q3 (fun x hx hp _ _ hn=> ?_) (.one (GX hm ht heo (hwant true hw) (.inr (Qs ha2 (fun _ _=>by simp))) q1))
   cases hq:μ1 x.h.n with
   |none=>rfl
   |some y=>exact absurd (q2.new _ _ hn hq) (by have:=(iv.pend x hx hp).2.1;omega)
  obtain⟨_,⟨hw,hv,hh1,hr⟩|⟨hw,hr⟩⟩:=id hstep
  ·exact go μ w undef iv.eff (yZ.refl μ) (Jt.refl w) (by rw[hv];exact Kg) (fun _ _ _ _ _ hn=>hn) (.one (UH hm ht heo (hwant false hw)))
  ·cases hk:vB T e.o with
   |acts=>rw[hk]at hact;cases hact
   |still=>
    rw[hk]at hr;exact calm HA ((Oo hk hr.1).2 HA) hw
   |reads=>
    rw[hk]at hr;obtain⟨ha,hrr⟩:=hr;rcases hrr with⟨rd,h1,_⟩|⟨h1,h2,_⟩
    ·have hmem:=iv.reads e heA rd ⟨hk,hw,h1⟩ hrd.2.1;exact calm HA (mU hk ha h1 (tM (iv.hold hh) hmem)).2 hw
    ·exact calm HA ((Tu hk ha h1 h2).2 HA) hw
   |alloc=>
    rw[hk]at hr;obtain⟨p1,p2,p3⟩:=iv.pend e heA ⟨hk,hw⟩;obtain⟨p4,ab,p5,p6⟩:=p3 hrd.2.1;obtain⟨mk,ab',m1,m2,m3⟩:=Nx hT hk (show Js P T e.o (Ra (Zi listed es t0.L)) e.h=some (.val e.v,e.h1)by rw[UQ hag];exact hr.1);obtain rfl:ab=ab':=by have:=congrArg (fun h:AH=>h.at e.h.n) (p5.symm.trans m2);simp only[zI]at this;exact jS this
    have m1:e.v=mk e.h.n:=by simpa using m1
    obtain⟨m4,m5,m6⟩:=m3;obtain⟨ob,v',n1,n2,n3⟩:=m6 ρ μ w f.eval henv;have hlate:=yD.late hr0 iv.eff p1 p4 p6 n2;refine go _ _ v' hlate (HI p4) (DJ w ob) (by rw[m1];exact n3 _ _ _ (Jb _ _ _)) (fun x hx hp hne _ hn=> ?_) (.one (GX hm ht heo (hwant true hw) (.inr (Qs (m4 HA) (fun _ _=>by simp))) (.inl n1)));rw[XX (fun hl=>hne (iv.dist x hx e heA hp ⟨hk,hw⟩ hl))];exact hn
end pick
end
variable{f:FuncId}{h':AH}{args:List AV}
section
open Go Go.RowKit
variable {P:Program} {T:TT} {S:Qb} {ρ:Nat->Value} {fl:Nat} {ops:Array Oper}
theorem j3C{L:List Nat}{es:List BY}{t0:TM}{h0:AH}{tf:TM}{hf:AH}{rsf:Reads}{μ0:Mu}{w0:World}(hT:TT.Sound P T)(ho:j0J T ops L)(hes:es.map (·.i)=L)(tr:Tr P T ρ fl ops es t0 h0 [] tf hf rsf)(hh:hold T hf rsf=true)(hr0:HR P ρ fl μ0 h0 w0){l:List Item}{cs:List Frame}:
 ∀(l0:List Nat) (listed:Array Bool) (f:Frame) (w:World) (A B:List BY) (tA:TM) (HA:AH) (RA:Reads) (μ:Mu),oZ ops l0 listed->Vi ops listed->f.mode= .run->f.todo= .inRegion ops l0::l->Bn P T ρ fl ops es t0 h0 tf hf rsf μ0 w0 listed f w A B tA HA RA μ->
  ∃f' w' μ',Steps P (lone f cs w) (lone f' cs w')/\f'.fn=f.fn/\f'.defers=f.defers/\f'.kind=f.kind/\f'.roundOf=f.roundOf/\f'.mode= .run/\f'.todo= .inRegion ops []::l/\yD P ρ fl μ0 h0 w0 μ' hf w'/\qF ρ μ' w' tf.L f'.tmps.toList
 |[],listed,f,w,A,B,tA,HA,RA,μ,hl,hc,hm,ht,iv=>by
  have hall:∀e∈es,on listed e.i:=fun e he=>hl _ (Array.getElem?_eq_some_iff.1 (tr.oper e he)).1;have hB:B=[]:=by
   cases hq:B with
   |nil=>rfl
   |cons a B'=>exact absurd (hall a (by rw[iv.cut,hq];simp)) (iv.actsB a (by rw[hq];simp) (iv.head a B' hq))
  subst hB;obtain⟨e1,e2,e3⟩:=iv.trB;refine⟨f,w,μ,.refl P _,rfl,rfl,rfl,rfl,hm,ht,by rw[e2];exact iv.eff,?_⟩;have:=iv.tmps;rw[NK es t0.L hall,<-tr.tmps]at this;exact this
 |i::r,listed,f,w,A,B,tA,HA,RA,μ,hl,hc,hm,ht,iv=>by obtain⟨hrd,hl2⟩:=hl;obtain⟨v',w',A',B',tA',HA',RA',μ',s1,iv2⟩:=uX hT ho hes tr hh hr0 (cs:=cs) iv hc hrd hm ht;have heo:∃o,ops[i]? =some o:=⟨ops[i]'hrd.2.2.1,Jd hrd.2.2.1⟩;obtain⟨o,heo⟩:=heo;have hfin:=QL ht heo v';obtain⟨f2,w2,μ2,q1,q2,q3,q4,q5,q6,q7,q8,q9⟩:=j3C hT ho hes tr hh hr0 (l:=l) (cs:=cs) r _ (f.finish v') w' A' B' tA' HA' RA' μ' hl2 (hc.set hrd) (by rw[hfin];exact hm) (by rw[hfin]) iv2;exact⟨f2,w2,μ2,s1.trans q1,by rw[q2,hfin],by rw[q3,hfin],by rw[q4,hfin],by rw[q5,hfin],q6,q7,q8,q9⟩
theorem j1I(hT:TT.Sound P T)(hNG:AJ P)(hMix:P.follows .mixedOrders=true){n:Nat}(hrec:∀m,m<n->KQ P ρ fl (ex P T S m)):Oy P T ρ fl (ex P T S n):=by
 intro fr id ops k h out h' hfr hok hx;have ho:=j2q hok;obtain⟨es,tf,hf,rsf,m,e1,e2,e3,e4,e5⟩:=TU hT hNG _ n fr [] k h out h' hrec hx;refine QW.pre (fr1:={fr with tmps:=tf,todo:=k}) ⟨rfl,rfl,rfl⟩ (fun μ w f cs hr hfB hc=> ?_) (hrec m e4 _ _ _ _ e5);obtain⟨l,t1,t2⟩:=Zd hfr hfB;have hd:yD P ρ fl μ h w μ h w.drew:=yD.drew hr 1
 obtain⟨t,hst⟩:∃t,step P (lone f cs w)= .next (lone {f with todo:= .inRegion ops (Region.linearise .any ops t)::l} cs w.drew):=
  ⟨w.tape w.drawn (.order f.fn id),step_lone_go (by simp[stepG,stepG.exec,hfB.mode,t1,Question.forced,Question.cut,Region.schedule,hMix])⟩
 obtain⟨Sg,B,tS,HS,RS,exs,s1,s2,s3,s4,s5,s6,s7,s8,s9,s10⟩:=j79 hT es _ _ _ e2;have hnone:∀j,¬on (Array.replicate ops.size false) j:=fun j hj=>by simp only[on,Hj,Ox]at hj;split at hj<;>simp at hj
 have iv:Bn P T ρ fl ops es fr.tmps h tf hf rsf μ w.drew (Array.replicate ops.size false) {f with todo:= .inRegion ops (Region.linearise .any ops t)::l} w.drew Sg B tS HS RS μ:=by
  refine⟨s1,s2,s3,fun e he hk=> ?_,fun e he hk=>hnone _,s5,?_,?_,fun e he hp=> ?_,s8,fun e he rd hxr _=>s10 e he rd hxr⟩
  ·rw[s4 e he]at hk;cases hk
  ·exact(yD.refl hd.hr).extend s6
  ·rw[FR];exact qF.mono (yZ.refl μ) hd.grows _ _ hfB.u.tmps
  ·obtain⟨p1,p2,p3⟩:=s7 e he hp;refine⟨p1,p2,fun _=>⟨?_,p3⟩⟩;cases hq:μ e.h.n with
   |none=>rfl
   |some y=>exact absurd (hr.dom _ _ hq) (by omega)
 obtain⟨f2,w2,μ2,q1,q2,q3,q4,q5,q6,q7,q8,q9⟩:=j3C hT ho e1 e2 e3 hd.hr (cs:=cs) _ _ {f with todo:= .inRegion ops (Region.linearise .any ops t)::l} w.drew Sg B tS HS RS μ (Lo ho t) OV hfB.mode rfl iv;have heff:=hd.trans hr q8;have hu:=hfB.u.mono heff.more heff.grows;have hlast:step P (lone f2 cs w2)= .next (lone {f2 with todo:=l} cs w2):=step_lone_go (by simp[stepG,stepG.exec,q6,q7])
 refine⟨μ2,w2,{f2 with todo:=l},cs,heff,.head hst (q1.trans (.one hlast)),⟨⟨?_,q9,?_,?_,?_,hu.rc⟩,t2.mono heff.more,q6⟩,Qf.refl (hc.mono heff.more heff.grows)⟩
 ·exact q2.trans hu.fn
 ·show IH P ρ μ2 w2 fr.defers f2.defers;rw[q3];exact hu.defers
 ·show f2.kind=_;rw[q4];exact hu.kind
 ·show Mi μ2 fr.roundOf f2.roundOf;rw[q5];exact hu.round
theorem tH(hT:TT.Sound P T)(hNG:AJ P)(hMix:P.follows .mixedOrders=true)(hS:Uu P ρ fl S)(n:Nat):KQ P ρ fl (ex P T S n):=by
 induction n using Nat.strongRecOn with
 |_ n ih=>
  cases n with
  |zero=>intro t h out h' hx;cases hx
  |succ n=>exact j0F hT hNG hS (ih n (Nat.lt_succ_self n)) (j1I hT hNG hMix fun m hm=>ih m (by omega))
theorem NF(hT:TT.Sound P T)(hNG:AJ P)(hMix:P.follows .mixedOrders=true)(hS:Uu P ρ w.heap.size S){μ0:Mu}{h0:AH}(hr:HR P ρ w.heap.size μ0 h0 w)(hnw:∀b ab,h0.at b=some ab->wr ab=false){n:Nat}
 (hx:ex P T S n (.call f args none) h0=some (.ended (.ret v) cm,h')) {args':List Value} (ha:qF ρ μ0 w args args'):
 Calls P f args'.toArray w fun e w'=>∃v' μ',e= .returned v'/\Below w.heap.size w w'/\rel ρ μ' w' v v':=by
 intro cs
 obtain⟨_,h2⟩:=tH hT hNG hMix hS n _ _ _ _ hx
 obtain⟨_,μ',w',f',cs',q1,q2,q3,q4⟩:=h2 _ w cs args' hr ha trivial
 cases cm with
 |some m=>rename_i h3;cases h3
 |none=>
  have q4:cs'=cs:=q4;subst q4;obtain⟨r1,r2,r3,r4,fn,v',r5,r6,r7⟩:=q3;exact⟨.returned v',w',f',⟨v',μ',rfl,⟨q1.same.2.1,q1.same.1,q1.same.2.2,q1.size,fun k hk=>q1.rest k hk (fun b base ab _ hb=>hnw b ab hb)⟩,r7⟩,q2,r1,r4,r2,r3,fn,by rw[r1];exact r5,r6⟩
theorem tG(hT:TT.Sound P T)(hNG:AJ P)(hMix:P.follows .mixedOrders=true)(hS:Uu P ρ w.heap.size S){n:Nat}
 (hx:ex P T S n (.call f args none) .nil=some (.ended (.ret v) cm,h')) {args':List Value} (ha:qF ρ (fun _=>none) w args args') (hpin:∀r:Int,ρ 1000000≠ .int .i64 r:=by intro r h;cases h):
 Calls P f args'.toArray w fun e w'=>∃v' μ',e= .returned v'/\Below w.heap.size w w'/\rel ρ μ' w' v v':=
 NF hT hNG hMix hS (μ0:=fun _=>none) ⟨jM _,fun b x hb=>(by cases hb),fun b r base ab hb=>(by cases hb),fun b b' r base base' ab ab' hb=>(by cases hb),fun r h=>absurd h (hpin r)⟩ (fun b ab hb=>by rw[j4T]at hb;cases hb) hx ha
end
variable{t:TypeId}{r:Reach}{h:AH}
section
open Go Go.RowKit
variable {P:Program} {ρ:Nat->Value} {fl:Nat}
theorem JQ.below{h:List AB}(hr:Ns P ρ fl μ h w)(hb:Below w.heap.size w w'):JQ P ρ fl μ h w μ h w':=by have hg:Jt w w':=fun k cur e fz hc=>⟨cur,e,fz,by rw[hb.block k (VS hc)];exact hc,rfl⟩;refine⟨yZ.refl μ,jM _,fun c x h1 h2=>(by rw[h1]at h2;cases h2),fun c hc hn=>rfl,fun c hc=>hc,fun _ _ _ hc=>hc,hg,hb.size,fun c r' base' h1 h2=>(by rw[h1]at h2;cases h2),fun k hk2 hno=>hb.block k hk2,⟨hb.tape,hb.os,hb.output⟩,?_⟩;refine⟨zY hr.floor hb.size,hr.dom,fun c r' base' ac hc hac=> ?_,hr.inj,hr.pin.more (yZ.refl μ) hg⟩;obtain⟨q1,q2,o,q3,q4⟩:=hr.obj c r' base' ac hc hac;exact⟨q1,zS q2 hb.size,o,by rw[hb.block r' q2];exact q3,q4.mono (yZ.refl μ) hg⟩
theorem yD.below(hr:HR P ρ fl μ h w)(hb:Below w.heap.size w w'):yD P ρ fl μ h w μ h w':=JQ.below hr hb
def eY:List AV->AH->Option (AV×AH)
 |[],h=>some (.lit (.bool true),h)
 |_,_=>none
theorem j08(hc:∀w,Calls P f #[] w fun e w'=>e= .returned (.bool true)/\Below w.heap.size w w')(hg:eY args h=some (v,h')){w:World}{args':List Value}(hr:HR P ρ fl μ h w)(ha:qF ρ μ w args args'):
 Calls P f args'.toArray w fun e w'=>∃μ' v',e= .returned v'/\yD P ρ fl μ h w μ' h' w'/\rel ρ μ' w' v v':=by
 unfold eY at hg
 split at hg
 case h_2=>cases hg
 simp only[jP,jV]at hg
 obtain⟨rfl,rfl⟩:=hg
 obtain rfl:=xM ha
 refine(hc w).mono fun e w' hy=> ?_
 obtain⟨rfl,hb⟩:=hy
 exact⟨μ,_,rfl,yD.below hr hb,vN rfl⟩
def Pk:Option (Out×AH)->Bool
 |some (.ended (.ret (.lit (.bool true))) none,_)=>true
 |_=>false
theorem aH{x:Option (Out×AH)}(h:Pk x=true):∃h',x=some (.ended (.ret (.lit (.bool true))) none,h'):=by
 unfold Pk at h;split at h
 ·exact⟨_,rfl⟩
 ·cases h
theorem j2p:AJ Tryz.prog:=by
 have h:(Tryz.prog.funcs.all fun fn=> !(fn.name=="runtime.NumGoroutine"))=true:=by decide+kernel
 intro f fn hf;have:=Array.all_eq_true_iff_forall_mem.1 h fn (Array.mem_of_getElem? hf);simpa using this
theorem sF{P:Program}{base:Nat}{v:Value}(h:Cell.okWide P w r base t v):v.oneCell'=true:=by
 cases v<;>first|rfl|skip
 all_goals
  exfalso
  unfold Cell.okWide Cell.ok at h
  cases hq:P.underlying t with
  |none=>rw[hq]at h;exact h
  |some d=>rw[hq]at h;cases d<;>exact h
theorem aT{P:Program}{base:Nat}{v:Value}{d:TypeDesc}(hu:P.underlying t=some d)(hd:BJ d=true)(h:Value.okWide P w r base t v):
 ∃cs:Array Value,v= .agg cs/\cs.size=P.cellsOf t/\∀(i:Nat) (u:Value),cs[i]? =some u->u.oneCell'=true:=by
 unfold Value.okWide at h
 rw[hu]at h
 cases d<;>first|cases hd|skip
 all_goals
  obtain⟨cs,h1,h2,ts,_,_,h3⟩:=h
  refine⟨cs,h1,h2,fun i u hu=> ?_⟩
  obtain⟨t',_,h4⟩:=h3 i u hu
  exact sF h4
end
section
def kR:NT:=(.node (.node (.node (.node (.node (.node (.node (.node (.node .leaf 1 .leaf) 2 .leaf) 3 (.node .leaf 4 .leaf)) 5 (.node (.node .leaf 6 .leaf) 7 (.node .leaf 8 .leaf))) 9 (.node (.node (.node (.node .leaf 10 .leaf) 11 .leaf) 12 (.node .leaf 13 .leaf)) 14 (.node (.node .leaf 15 .leaf) 16 (.node .leaf 17 .leaf)))) 18 (.node (.node (.node (.node (.node .leaf 19 .leaf) 20 .leaf) 21 (.node .leaf 22 .leaf)) 23 (.node (.node .leaf 24 .leaf) 25 (.node .leaf 26 .leaf))) 27 (.node (.node (.node .leaf 28 .leaf) 30 (.node .leaf 31 .leaf)) 33 (.node (.node .leaf 34 .leaf) 35 (.node .leaf 36 .leaf))))) 37 (.node (.node (.node (.node (.node (.node .leaf 38 .leaf) 39 .leaf) 40 (.node .leaf 41 .leaf)) 42 (.node (.node .leaf 43 .leaf) 44 (.node .leaf 45 .leaf))) 46 (.node (.node (.node (.node .leaf 47 .leaf) 48 .leaf) 49 (.node .leaf 50 .leaf)) 51 (.node (.node .leaf 52 .leaf) 53 (.node .leaf 54 .leaf)))) 55 (.node (.node (.node (.node (.node .leaf 56 .leaf) 57 .leaf) 58 (.node .leaf 59 .leaf)) 60 (.node (.node .leaf 61 .leaf) 62 (.node .leaf 63 .leaf))) 64 (.node (.node (.node .leaf 65 .leaf) 66 (.node .leaf 67 .leaf)) 68 (.node (.node .leaf 69 .leaf) 70 (.node .leaf 71 .leaf)))))) 72 (.node (.node (.node (.node (.node (.node (.node .leaf 73 .leaf) 74 .leaf) 75 (.node .leaf 76 .leaf)) 77 (.node (.node .leaf 78 .leaf) 79 (.node .leaf 80 .leaf))) 81 (.node (.node (.node (.node .leaf 82 .leaf) 83 .leaf) 84 (.node .leaf 86 .leaf)) 87 (.node (.node .leaf 88 .leaf) 89 (.node .leaf 90 .leaf)))) 92 (.node (.node (.node (.node (.node .leaf 93 .leaf) 95 .leaf) 97 (.node .leaf 98 .leaf)) 99 (.node (.node .leaf 100 .leaf) 102 (.node .leaf 103 .leaf))) 104 (.node (.node (.node .leaf 105 .leaf) 106 (.node .leaf 107 .leaf)) 108 (.node (.node .leaf 110 .leaf) 111 (.node .leaf 112 .leaf))))) 113 (.node (.node (.node (.node (.node (.node .leaf 114 .leaf) 115 .leaf) 116 (.node .leaf 118 .leaf)) 119 (.node (.node .leaf 120 .leaf) 121 (.node .leaf 122 .leaf))) 123 (.node (.node (.node (.node .leaf 124 .leaf) 125 .leaf) 127 (.node .leaf 128 .leaf)) 129 (.node (.node .leaf 130 .leaf) 131 (.node .leaf 132 .leaf)))) 133 (.node (.node (.node (.node (.node .leaf 134 .leaf) 135 .leaf) 136 (.node .leaf 137 .leaf)) 138 (.node (.node .leaf 139 .leaf) 140 (.node .leaf 141 .leaf))) 142 (.node (.node (.node .leaf 143 .leaf) 144 (.node .leaf 145 .leaf)) 147 (.node (.node .leaf 149 .leaf) 150 (.node .leaf 151 .leaf))))))) 153 (.node (.node (.node (.node (.node (.node (.node (.node .leaf 154 .leaf) 155 .leaf) 156 (.node .leaf 157 .leaf)) 158 (.node (.node .leaf 159 .leaf) 160 (.node .leaf 161 .leaf))) 162 (.node (.node (.node (.node .leaf 163 .leaf) 164 .leaf) 165 (.node .leaf 166 .leaf)) 167 (.node (.node .leaf 169 .leaf) 170 (.node .leaf 171 .leaf)))) 172 (.node (.node (.node (.node (.node .leaf 173 .leaf) 174 .leaf) 175 (.node .leaf 176 .leaf)) 177 (.node (.node .leaf 178 .leaf) 179 (.node .leaf 180 .leaf))) 181 (.node (.node (.node .leaf 182 .leaf) 183 (.node .leaf 184 .leaf)) 185 (.node (.node .leaf 186 .leaf) 187 (.node .leaf 188 .leaf))))) 189 (.node (.node (.node (.node (.node (.node .leaf 190 .leaf) 191 .leaf) 192 (.node .leaf 193 .leaf)) 195 (.node (.node .leaf 196 .leaf) 197 (.node .leaf 198 .leaf))) 199 (.node (.node (.node (.node .leaf 200 .leaf) 201 .leaf) 202 (.node .leaf 203 .leaf)) 204 (.node (.node .leaf 205 .leaf) 206 (.node .leaf 207 .leaf)))) 208 (.node (.node (.node (.node (.node .leaf 209 .leaf) 210 .leaf) 211 (.node .leaf 212 .leaf)) 213 (.node (.node .leaf 214 .leaf) 216 (.node .leaf 217 .leaf))) 218 (.node (.node (.node .leaf 219 .leaf) 220 (.node .leaf 221 .leaf)) 222 (.node (.node .leaf 223 .leaf) 224 (.node .leaf 225 .leaf)))))) 226 (.node (.node (.node (.node (.node (.node (.node .leaf 227 .leaf) 228 .leaf) 229 (.node .leaf 230 .leaf)) 231 (.node (.node .leaf 232 .leaf) 233 (.node .leaf 234 .leaf))) 235 (.node (.node (.node (.node .leaf 236 .leaf) 237 .leaf) 238 (.node .leaf 239 .leaf)) 240 (.node (.node .leaf 241 .leaf) 242 (.node .leaf 243 .leaf)))) 244 (.node (.node (.node (.node (.node .leaf 245 .leaf) 246 .leaf) 247 (.node .leaf 248 .leaf)) 249 (.node (.node .leaf 250 .leaf) 251 (.node .leaf 252 .leaf))) 254 (.node (.node (.node .leaf 255 .leaf) 256 (.node .leaf 257 .leaf)) 258 (.node (.node .leaf 259 .leaf) 260 (.node .leaf 261 .leaf))))) 262 (.node (.node (.node (.node (.node (.node .leaf 263 .leaf) 265 .leaf) 266 (.node .leaf 267 .leaf)) 268 (.node (.node .leaf 269 .leaf) 270 (.node .leaf 271 .leaf))) 272 (.node (.node (.node (.node .leaf 273 .leaf) 274 .leaf) 275 (.node .leaf 276 .leaf)) 277 (.node (.node .leaf 278 .leaf) 279 (.node .leaf 280 .leaf)))) 282 (.node (.node (.node (.node (.node .leaf 283 .leaf) 284 .leaf) 285 (.node .leaf 286 .leaf)) 287 (.node (.node .leaf 288 .leaf) 289 (.node .leaf 290 .leaf))) 291 (.node (.node (.node .leaf 292 .leaf) 293 (.node .leaf 294 .leaf)) 295 (.node (.node .leaf 296 .leaf) 297 (.node .leaf 298 .leaf))))))))
set_option maxRecDepth 100000 in
theorem AF:TT.Sound Tryz.prog (zH Tryz.prog kR):=TR (by decide+kernel)
end
variable{o:Oper}{tk:Task}{ops:Array Oper}
section
def Az:Op->Bool
 | .defer _=>false
 | .call c=>(match c.callee with| .builtin .recover=>false|_=>true)
 |_=>true
def AN.plain:AN->Bool
 | .defer _ _=>false
 | .recover=>false
 |_=>true
def Pl(x:AR):Prop:=∀n h1,x=some (n,h1)->n.plain=true
theorem Gu:Pl none:=fun n h1 h=>by cases h
theorem Hu{n:AN}{h:AH}(hn:n.plain=true):Pl (some (n,h)):=fun n' h1 e=>by simp only[jP,jV]at e;rw[<-e.1];exact hn
theorem Er{α:Type}{x:Option α}{f:α->AN×AH}(hf:∀y,(f y).1.plain=true):Pl (x.map f):=fun n h1 e=>by simp only[jT]at e;obtain⟨y,_,e2⟩:=e;rw[show n=(f y).1 by rw[e2]];exact hf y
theorem Wo{x:Option AV}{h:AH}:Pl (val h x):=Er fun _=>rfl
theorem Rt{P:Program}{t:TM}{h:AH}{r:Unit->AR}(hr:Pl (r ())):Pl (yR P o t h r):=by
 unfold yR;split
 ·rename_i n hn;refine Hu ?_;unfold yU at hn;split at hn
  ·unfold Na at hn;split at hn
   ·simp only[jT]at hn;obtain⟨_,_,rfl⟩:=hn;rfl
   ·simp only[jT]at hn;obtain⟨_,_,rfl⟩:=hn;rfl
   ·cases hn
  ·cases hn
 ·exact hr
theorem j5J{h:AH}{x:Option (PR Value)}:Pl (BM h x):=by
 unfold BM;split
 ·exact Er fun _=>rfl
 ·exact Er fun _=>rfl
 ·exact Gu
theorem j5I{c:Prop}[Decidable c]{a b:AR}(ha:Pl a)(hb:Pl b):Pl (if c then a else b):=by split<;>assumption
theorem j3N{c:Bool}{a b:AR}(ha:Pl a)(hb:Pl b):Pl (bif c then a else b):=by cases c<;>assumption
theorem Rs{P:Program}{h:AH}{f:AV}{args:List AV}:Pl ((UT P f args).map (·,h)):=fun n h1 e=>by
 simp only[jT,jV]at e;obtain⟨y,hy,rfl,_⟩:=e;unfold UT at hy;split at hy
 ·obtain rfl:=jS hy;rfl
 ·obtain rfl:=jS hy;rfl
 ·simp only[jT]at hy;obtain⟨_,_,rfl⟩:=hy;rfl
 ·cases hy
theorem gS{P:Program}{T:TT}{t:TM}{h:AH}(hp:Az o.op=true):Pl (Js P T o t h):=by
 obtain⟨dst,op,ty,pos,after,guard⟩:=o
 cases op<;>simp only[Js]<;>first
  |exact Gu|exact Wo|exact Er fun _=>rfl|skip
 all_goals first
  |(cases hp;done)
  |(simp only[FA,OH,Gw,Zo,AP,Bu,Qo,XK,j3m,JS,Yq,Xc,Kc,Zf,Qy,Ua,Xp,Gx,ZQ,Yr,Ks,VY,Ip,Rz,Im,Vr,Af,Io,UP,Dv]
    repeat' (first|exact Gu|exact Wo|exact j5J|(exact Er fun _=>rfl)|exact Hu rfl|refine Rt ?_|refine j3N ?_ ?_|refine j5I ?_ ?_|split)
    done)
  |skip
 ·rename_i r;cases r<;>first|exact Gu|exact Hu rfl
 ·rename_i c;unfold Qd;split
  ·rename_i b hb;unfold Zt;repeat' (first|exact Gu|exact Wo|(exact Er fun _=>rfl)|exact Hu rfl|refine Rt ?_|split)
   all_goals (simp only[Az,hb]at hp;first|cases hp|skip)
  ·split<;>first|exact Rs|exact Gu
  ·split<;>first|exact Rs|exact Gu
section
variable {P:Program} {T:TT} {S:Qb}
def MG(r r':Ij):Prop:=∀t h x,r t h=some x->r' t h=some x
def Hl{α:Type}(a b:Option α):Prop:=∀x,a=some x->b=some x
theorem Hl.refl{α:Type}(a:Option α):Hl a a:=fun _ h=>h
variable {r r':Ij}
theorem We(hr:MG r r'){a b:Option (Out×AH)}(hab:Hl a b)(cm:Option Mode):Hl (MC r cm a) (MC r' cm b):=fun x hx=>by
 cases a with
 |none=>cases hx
 |some p=>rw[hab _ rfl];revert hx;unfold MC;split<;>first|exact fun hx=>hr _ _ _ hx|exact id
theorem cH(hr:MG r r')(f:FuncId)(args:List AV)(cm:Option Mode)(h:AH):Hl (Bi P S r f args cm h) (Bi P S r' f args cm h):=fun x hx=>by
 unfold Bi at hx ⊢;split at hx
 ·split at hx
  ·split at hx
   ·exact hx
   ·exact hx
   ·exact We hr (fun y hy=>hr _ _ _ hy) _ x hx
  ·cases hx
 ·cases hx
theorem Np(hr:MG r r'){a b:Option (Out×AH)}(hab:Hl a b)(fr:QC)(ds:List ADI):Hl (Ef r fr ds a) (Ef r' fr ds b):=fun x hx=>by
 cases a with
 |none=>cases hx
 |some p=>rw[hab _ rfl];revert hx;unfold Ef;split<;>first|exact fun hx=>hr _ _ _ hx|exact id
theorem Rh(hr:MG r r')(fr:QC)(m:Mode)(h:AH):Hl (Vo P T r fr m h) (Vo P T r' fr m h):=fun x hx=>by
 unfold Vo at hx ⊢;split at hx
 ·split at hx<;>exact hx
 ·split at hx
  ·exact hr _ _ _ hx
  ·cases hx
 ·exact Np hr (fun y hy=>hr _ _ _ hy) _ _ x hx
theorem Wi(hr:MG r r')(l:Nat)(args:List AV)(h:AH):Hl (Fw P r l args h) (Fw P r' l args h):=fun x hx=>by
 unfold Fw at hx ⊢;split at hx
 ·rename_i lo hl;split at hx
  ·rename_i hlen;rw[if_pos hlen];cases hb:r (.body {fn:=lo.fn,tmps:=Qu lo.tmps lo.params args,todo:=[.code lo.assign,.beginRound,.code lo.body],defers:=[],cm:=none,roundOf:=some l}) h with
   |none=>rw[hb]at hx;cases hx
   |some p=>rw[hb]at hx;rw[hr _ _ _ hb];exact hx
  ·cases hx
 ·cases hx
theorem Rf(hr:MG r r'){a b:Option (Out×AH)}(hab:Hl a b)(fr:QC)(k:List AI)(d l:Nat):Hl (AG r fr k d l a) (AG r' fr k d l b):=fun x hx=>by
 cases a with
 |none=>cases hx
 |some p=>rw[hab _ rfl];revert hx;unfold AG;split<;>first|exact fun hx=>hr _ _ _ hx|exact id
theorem Wh(hr:MG r r')(fr:QC)(k:List AI)(h:AH)(f:Operand)(ps:Array Tmp)(a b:Code):Hl (Fv P r fr k h f ps a b) (Fv P r' fr k h f ps a b):=fun x hx=>by
 unfold Fv at hx ⊢;split at hx
 ·split at hx
  ·exact Rf hr (fun y hy=>hr _ _ _ hy) _ _ _ _ x hx
  ·cases hx
 ·cases hx
theorem Wd(hr:MG r r')(fr:QC)(k:List AI)(h:AH):Hl (Ft r fr k h) (Ft r' fr k h):=fun x hx=>by
 unfold Ft at hx ⊢;split at hx
 ·split at hx
  ·split at hx
   ·exact hr _ _ _ hx
   ·cases hx
  ·cases hx
 ·cases hx
theorem oE(hr:MG r r')(fr:QC)(l:Nat)(k:List AI)(h:AH):Hl (oD r fr l k h) (oD r' fr l k h):=fun x hx=>by
 unfold oD at hx ⊢;split at hx
 ·split at hx
  ·cases hx
  ·exact hr _ _ _ hx
 ·cases hx
theorem Ee(hr:MG r r'){a b:Option (Out×AH)}(hab:Hl a b)(fr:QC)(o:Oper)(it:AI)(k:List AI):Hl (XY r fr o it k a) (XY r' fr o it k b):=fun x hx=>by
 cases a with
 |none=>cases hx
 |some p=>rw[hab _ rfl];revert hx;unfold XY;split<;>first|exact fun hx=>hr _ _ _ hx|exact id
theorem j0E(hr:MG r r')(fr:QC)(o:Oper)(it:AI)(k:List AI)(a:AR):Hl (oG r fr o it k a) (oG r' fr o it k a):=fun x hx=>by
 unfold oG at hx ⊢;split at hx
 ·exact hr _ _ _ hx
 ·exact Ee hr (fun y hy=>hr _ _ _ hy) _ _ _ _ x hx
 ·exact Ee hr (fun y hy=>hr _ _ _ hy) _ _ _ _ x hx
 ·split at hx
  ·cases hx
  ·rename_i hn;rw[if_neg hn];exact hr _ _ _ hx
 ·split at hx
  ·cases hx
  ·rename_i hn;rw[if_neg hn];exact hr _ _ _ hx
 ·exact hx
 ·cases hx
theorem oJ(hr:MG r r')(fr:QC)(ops:Array Oper)(i:Nat)(l:List Nat)(k:List AI)(h:AH):Hl (Nn P T r fr ops i l k h) (Nn P T r' fr ops i l k h):=fun x hx=>by
 unfold Nn at hx ⊢;split at hx
 ·split at hx
  ·exact j0E hr _ _ _ _ _ x hx
  ·exact hr _ _ _ hx
  ·cases hx
 ·cases hx
theorem Bj(hr:MG r r'){a b:Option (Out×AH)}(hab:Hl a b)(fr:QC)(o:Oper)(it:AI)(k:List AI):Hl (VF r fr o it k a) (VF r' fr o it k b):=fun x hx=>by
 cases a with
 |none=>cases hx
 |some p=>rw[hab _ rfl];revert hx;unfold VF;split<;>first|exact fun hx=>hr _ _ _ hx|exact id
theorem oH(hr:MG r r')(fr:QC)(ops:Array Oper)(i:Nat)(o:Oper)(l:List Nat)(rs:List (Nat×RD×AV))(k:List AI)(a:AR):Hl (Fu P T r fr ops i o l rs k a) (Fu P T r' fr ops i o l rs k a):=fun x hx=>by
 unfold Fu at hx ⊢;split at hx
 ·split at hx
  ·exact hr _ _ _ hx
  ·exact Bj hr (fun y hy=>hr _ _ _ hy) _ _ _ _ x hx
  ·exact Bj hr (fun y hy=>hr _ _ _ hy) _ _ _ _ x hx
  ·cases hx
 ·split at hx
  ·split at hx
   ·exact hr _ _ _ hx
   ·rename_i hrd;cases hl:(yU P o fr.tmps).isSome with
    |false=>rw[hl]at hx;cases hx
    |true=>rw[hl]at hx;exact hr _ _ _ hx
  ·cases hx
 ·split at hx
  ·exact hr _ _ _ hx
  ·cases hx
theorem Hh(hr:MG r r')(fr:QC)(ops:Array Oper)(i:Nat)(o:Oper)(l:List Nat)(rs:List (Nat×RD×AV))(k:List AI)(h:AH):Hl (UM P T r fr ops i o l rs k h) (UM P T r' fr ops i o l rs k h):=fun x hx=>by
 unfold UM at hx ⊢;split at hx
 ·exact oH hr _ _ _ _ _ _ _ _ x hx
 ·exact hr _ _ _ hx
 ·cases hx
theorem cJ(hr:MG r r')(fr:QC)(ops:Array Oper)(i:Nat)(l:List Nat)(rs:List (Nat×RD×AV))(k:List AI)(h:AH):Hl (MD P T r fr ops i l rs k h) (MD P T r' fr ops i l rs k h):=fun x hx=>by
 unfold MD at hx ⊢;split at hx
 ·split at hx
  ·rename_i ha;rw[if_pos ha];split at hx
   ·rename_i hh;rw[if_pos hh];exact Hh hr _ _ _ _ _ _ _ _ x hx
   ·cases hx
  ·rename_i ha;rw[if_neg ha];exact Hh hr _ _ _ _ _ _ _ _ x hx
 ·cases hx
theorem cI(hr:MG r r')(fr:QC)(k:List AI)(h:AH)(c:Code):Hl (KJ P T r fr k h c) (KJ P T r' fr k h c):=fun x hx=>by
 cases c with
 |ret=>exact hx
 |skip=>exact hr _ _ _ hx
 |label n=>exact hr _ _ _ hx
 |seq a b=>exact hr _ _ _ hx
 |cond c a b=>
  simp only[KJ,Wf]at hx ⊢;split at hx
  ·exact hr _ _ _ hx
  ·cases hx
 |block id c=>exact hr _ _ _ hx
 |loop c=>exact hr _ _ _ hx
 |scope c=>exact hr _ _ _ hx
 |exit id=>
  simp only[KJ,Wg]at hx ⊢;split at hx
  ·exact hr _ _ _ hx
  ·exact hx
 |goto n=>
  simp only[KJ,fQ]at hx ⊢;split at hx
  ·exact hr _ _ _ hx
  ·cases hx
 |rangeFunc f ps a b=>exact Wh hr _ _ _ _ _ _ _ x hx
 |region id ops draw=>
  simp only[KJ,HX]at hx ⊢
  cases draw with
  |true=>
   simp only[cond_true]at hx ⊢
   cases hok:j4U T ops with
   |false=>rw[hok]at hx;cases hx
   |true=>rw[hok]at hx;exact hr _ _ _ hx
  |false=>exact hr _ _ _ hx
 |refuse why=>cases hx
theorem cG(hr:MG r r')(fr:QC)(h:AH):Hl (JW P T r fr h) (JW P T r' fr h):=fun x hx=>by
 unfold JW at hx ⊢;split at hx
 ·exact hx
 ·rename_i it k hk;unfold KU at hx ⊢;split at hx
  ·exact cI hr _ _ _ _ x hx
  ·exact hr _ _ _ hx
  ·exact hr _ _ _ hx
  ·exact hr _ _ _ hx
  ·exact hr _ _ _ hx
  ·exact oJ hr _ _ _ _ _ _ x hx
  ·split at hx
   ·rename_i hh;rw[if_pos hh];exact hr _ _ _ hx
   ·cases hx
  ·exact cJ hr _ _ _ _ _ _ _ x hx
  ·exact Wd hr _ _ _ x hx
  ·exact oE hr _ _ _ _ x hx
theorem cK(hr:MG r r'):MG (Hi P T S r) (Hi P T S r'):=fun t h x hx=>by
 cases t with
 |call f args cm=>exact cH hr _ _ _ _ x hx
 |body fr=>exact cG hr _ _ x hx
 |unwind fr m=>exact Rh hr _ _ _ x hx
 |round l args=>exact Wi hr _ _ _ x hx
theorem Cp:∀n,MG (ex P T S n) (ex P T S (n+1))
 |0=>fun t h x hx=>by cases hx
 |n+1=>fun t h x hx=>cK (Cp n) t h x hx
theorem An{m:Nat}(hnm:n<=m):MG (ex P T S n) (ex P T S m):=by
 induction hnm with
 |refl=>exact fun _ _ _ h=>h
 |step _ ih=>exact fun t h x hx=>Cp _ t h x (ih t h x hx)
def W(P:Program)(T:TT)(S:Qb)(t:Task)(h:AH)(Q:Out->AH->Prop):Prop:=∃n o h',ex P T S n t h=some (o,h')/\Q o h'
theorem W.mono{t:Task}{h:AH}{Q Q':Out->AH->Prop}(hw:W P T S t h Q)(hq:∀o h',Q o h'->Q' o h'):W P T S t h Q':=by obtain⟨n,o,h',h1,h2⟩:=hw;exact⟨n,o,h',h1,hq _ _ h2⟩
theorem j6V{t t':Task}{h h':AH}{Q:Out->AH->Prop}(e:∀rec:Ij,Hi P T S rec t h=rec t' h'):W P T S t h Q=W P T S t' h' Q:=by
 apply propext;constructor
 ·rintro⟨n,o,h2,h3,h4⟩;refine⟨n,o,h2,?_,h4⟩;have h5:ex P T S (n+1) t h=some (o,h2):=Cp n _ _ _ h3;rw[<-h5];exact(e (ex P T S n)).symm
 ·rintro⟨n,o,h2,h3,h4⟩;exact⟨n+1,o,h2,(e (ex P T S n)).trans h3,h4⟩
theorem j5O{t:Task}{h h':AH}{o:Out}{Q:Out->AH->Prop}(e:∀rec:Ij,Hi P T S rec t h=some (o,h')):W P T S t h Q=Q o h':=by
 apply propext;constructor
 ·rintro⟨n,o2,h2,h3,h4⟩;have h5:ex P T S (n+1) t h=some (o2,h2):=Cp n _ _ _ h3;have h6:ex P T S (n+1) t h=some (o,h'):=e (ex P T S n);rw[h5]at h6;simp only[jP,jV]at h6;rw[<-h6.1,<-h6.2];exact h4
 ·exact fun hq=>⟨1,o,h',e (ex P T S 0),hq⟩
structure FE where
 fn:FuncId
 defers:List ADI:=[]
 cm:Option Mode:=none
 ro:Option Nat:=none
def FE.fr(E:FE)(t:TM)(k:List AI):QC:={fn:=E.fn,tmps:=t,todo:=k,defers:=E.defers,cm:=E.cm,roundOf:=E.ro}
abbrev KK:=Option Code->TM->AH->Prop
inductive Coll (ok:Prop):List ADI->List ADI->AH->AH->Prop
 |refl (ds:List ADI) (h:AH):Coll ok ds ds h h
 |cons {b:Nat} {ds ds0:List ADI} {h h':AH}:ok->h.at b=some .defd->Coll ok ds ds0 (h.put b .gone) h'->Coll ok (.coll b::ds) ds0 h h'
theorem Coll.len{ok:Prop}{ds ds0:List ADI}{h h':AH}(c:Coll ok ds ds0 h h'):ds0.length<=ds.length:=by
 induction c with
 |refl=>exact jM _
 |cons _ _ _ ih=>simp only[xA];omega
theorem Coll.same{ok:Prop}{ds:List ADI}{h h':AH}(c:Coll ok ds ds h h'):h'=h:=by
 cases c with
 |refl=>rfl
 |cons _ _ c=>have:=c.len;simp only[xA]at this;omega
theorem Coll.snoc{ok:Prop}{ds ds0 ds1:List ADI}{h h':AH}(c:Coll ok ds ds1 h h')(e:ds1= .coll b::ds0)(hok:ok)(hb:h'.at b=some .defd):Coll ok ds ds0 h (h'.put b .gone):=by
 induction c with
 |refl=>subst e;exact .cons hok hb (.refl _ _)
 |cons h1 h2 _ ih=>exact .cons h1 h2 (ih e hb)
def WB(P:Program)(T:TT)(S:Qb)(E:FE)(t:TM)(k:List AI)(h:AH)(K:KK):Prop:=
 W P T S (.body (E.fr t k)) h fun o h'=>∃j t' k' ds h'',o= .left j (({E with defers:=ds}:FE).fr t' k')/\Coll (E.ro=none) ds E.defers h' h''/\K j t' h''
def WC(P:Program)(T:TT)(S:Qb)(f:FuncId)(args:List AV)(h:AH)(Q:AV->AH->Prop):Prop:=
 W P T S (.call f args none) h fun o h'=>∃v cm,o= .ended (.ret v) cm/\Q v h'
theorem WC.mono{args:List AV}{h:AH}{Q Q':AV->AH->Prop}(hw:WC P T S f args h Q)(hq:∀v h',Q v h'->Q' v h'):WC P T S f args h Q':=
 W.mono hw fun o h' ⟨v,cm,e,hv⟩=>⟨v,cm,e,hq v h' hv⟩
theorem WB.mono{E:FE}{t:TM}{k:List AI}{h:AH}{K K':KK}(hw:WB P T S E t k h K)(hq:∀j t' h',K j t' h'->K' j t' h'):WB P T S E t k h K':=
 W.mono hw fun o h' ⟨j,t',k',ds,h'',e,hc,hv⟩=>⟨j,t',k',ds,h'',e,hc,hq j t' h'' hv⟩
variable {E:FE} {t:TM} {k:List AI} {h:AH} {K:KK}
theorem Xv{t':TM}{k':List AI}{h':AH}(e:∀rec:Ij,JW P T rec (E.fr t k) h=rec (.body (E.fr t' k')) h'):WB P T S E t k h K=WB P T S E t' k' h' K:=j6V e
theorem FE.fr_inj{t':TM}{k':List AI}{ds:List ADI}(e:E.fr t k=({E with defers:=ds}:FE).fr t' k'):t=t'/\k=k'/\E.defers=ds:=by simp only[FE.fr,QC.mk.injEq]at e;exact⟨e.2.1,e.2.2.1,e.2.2.2.1⟩
theorem Wt{j:Option Code}(e:∀rec:Ij,JW P T rec (E.fr t k) h=some (.left j (E.fr t k),h)):WB P T S E t k h K=K j t h:=by
 unfold WB;rw[j5O (t:= .body (E.fr t k)) (h':=h) (o:= .left j (E.fr t k)) (fun rec=>e rec)];apply propext;constructor
 ·rintro⟨j',t',k',ds,h'',e1,hc,hk⟩;simp only[Out.left.injEq]at e1;obtain⟨rfl,e2⟩:=e1;obtain⟨rfl,_,rfl⟩:=FE.fr_inj e2;rw[hc.same]at hk;exact hk
 ·exact fun hk=>⟨j,t,k,E.defers,h,rfl,.refl _ _,hk⟩
theorem j3S:WB P T S E t [] h K=K none t h:=Wt fun _=>rfl
theorem j3T:WB P T S E t (.code .ret::k) h K=K (some .ret) t h:=Wt fun _=>rfl
theorem dB:WB P T S E t (.code .skip::k) h K=WB P T S E t k h K:=Xv fun _=>rfl
theorem Qc{n:Nat}:WB P T S E t (.code (.label n)::k) h K=WB P T S E t k h K:=Xv fun _=>rfl
theorem rC{a b:Code}:WB P T S E t (.code (.seq a b)::k) h K=WB P T S E t (.code a:: .code b::k) h K:=Xv fun _=>rfl
theorem pZ{id:Nat}{c:Code}:WB P T S E t (.code (.block id c)::k) h K=WB P T S E t (.code c:: .blk id::k) h K:=Xv fun _=>rfl
theorem j1a{c:Code}:WB P T S E t (.code (.loop c)::k) h K=WB P T S E t (.lp c::k) h K:=
 (Xv (k':= .code c:: .lp c::k) fun _=>rfl).trans (Xv (k:= .lp c::k) fun _=>rfl).symm
theorem Cd:WB P T S E t (.lp c::k) h K=WB P T S E t (.code c:: .lp c::k) h K:=Xv fun _=>rfl
theorem rB{c:Code}:WB P T S E t (.code (.scope c)::k) h K=WB P T S E t (.code c:: .sc c::k) h K:=Xv fun _=>rfl
theorem j3Q{id:Nat}:WB P T S E t (.blk id::k) h K=WB P T S E t k h K:=Xv fun _=>rfl
theorem j5M{c:Code}:WB P T S E t (.sc c::k) h K=WB P T S E t k h K:=Xv fun _=>rfl
theorem gH{id:Nat}{ops:Array Oper}:WB P T S E t (.code (.region id ops false)::k) h K=WB P T S E t (.reg ops (List.range ops.size)::k) h K:=Xv fun _=>rfl
theorem Wu{ops:Array Oper}:WB P T S E t (.reg ops []::k) h K=WB P T S E t k h K:=Xv fun _=>rfl
def j3h(P:Program)(T:TT)(S:Qb)(E:FE)(t:TM)(id:Nat)(h:AH)(K:KK):Option (List AI)->Prop
 |some k'=>WB P T S E t k' h K
 |none=>K (some (.exit id)) t h
theorem j19{id:Nat}:WB P T S E t (.code (.exit id)::k) h K=j3h P T S E t id h K (Kv id k):=by
 cases hk:Kv id k with
 |some k'=>exact Xv fun _=>by simp[JW,FE.fr,KU,KJ,Wg,hk,Yt]
 |none=>exact Wt fun _=>by simp[JW,FE.fr,KU,KJ,Wg,hk]
def j3i(P:Program)(T:TT)(S:Qb)(E:FE)(t:TM)(h:AH)(K:KK):Option (List AI)->Prop
 |some k'=>WB P T S E t k' h K
 |none=>False
theorem cZ:j3i P T S E t h K (AT n k)->WB P T S E t (.code (.goto n)::k) h K:=by
 cases hk:AT n k with
 |some k'=>exact fun hw=>by rw[Xv (t':=t) (k':=k') (h':=h) fun _=>by simp[JW,FE.fr,KU,KJ,fQ,hk,Yt]];exact hw
 |none=>exact False.elim
def j5N(A B:Prop):Option AV->Prop
 |some (.lit (.bool b))=>(b=true->A)/\(b=false->B)
 |_=>False
theorem cY{c:Operand}{a b:Code}(x:Bool)(hx:xJ t c=some (.lit (.bool x))):WB P T S E t (.code (.cond c a b)::k) h K=WB P T S E t (.code (bif x then a else b)::k) h K:=
 Xv fun _=>by simp[JW,FE.fr,KU,KJ,Wf,hx,Yt]
theorem Ws{c:Operand}{a b:Code}(hw:j5N (WB P T S E t (.code a::k) h K) (WB P T S E t (.code b::k) h K) (xJ t c)):WB P T S E t (.code (.cond c a b)::k) h K:=by
 unfold j5N at hw;split at hw
 ·rename_i x hx;rw[cY x hx];cases x
  ·exact hw.2 rfl
  ·exact hw.1 rfl
 ·exact hw.elim
def j3U(P:Program)(T:TT)(S:Qb)(E:FE)(t:TM)(o:Oper)(k:List AI)(K:KK):AR->Prop
 |some (.val v,h1)=>WB P T S E (vC t o.dst v) k h1 K
 |some (.enter g a,h1)=>WC P T S g a h1 fun v h2=>WB P T S E (vC t o.dst v) k h2 K
 |some (.round l a,h1)=>W P T S (.round l a) h1 fun x h2=>∃v cm,x= .ended (.ret v) cm/\WB P T S E (vC t o.dst v) k h2 K
 |_=>False
theorem gF{it:AI}{k0:List AI}{h1:AH}(e:∀rec:Ij,JW P T rec (E.fr t k) h=XY rec (E.fr t k) o it k0 (rec tk h1))
 (hw:W P T S tk h1 fun x h2=>∃v cm,x= .ended (.ret v) cm/\WB P T S E (vC t o.dst v) (it::k0) h2 K):WB P T S E t k h K:=by
 obtain⟨n,x,h2,h3,v,cm,rfl,m,x2,h4,h5,h6⟩:=hw
 refine⟨max n m+1,x2,h4,?_,h6⟩
 show JW P T (ex P T S (max n m)) (E.fr t k) h=_
 rw[e,An (Nat.le_max_left n m) _ _ _ h3]
 exact An (Nat.le_max_right n m) _ _ _ h5
theorem Cc{it:AI}{k0:List AI}{h1:AH}(e:∀rec:Ij,JW P T rec (E.fr t k) h=XY rec (E.fr t k) o it k0 (rec tk h1)):
 WB P T S E t k h K=W P T S tk h1 fun x h2=>∃v cm,x= .ended (.ret v) cm/\WB P T S E (vC t o.dst v) (it::k0) h2 K:=by
 apply propext
 refine⟨fun hw=> ?_,gF e⟩
 obtain⟨n,x,h2,h3,j,t',k',ds,h'',rfl,h4⟩:=hw
 cases n with
 |zero=>cases h3
 |succ n=>
  have h5:XY (ex P T S n) (E.fr t k) o it k0 (ex P T S n tk h1)=some (.left j (({E with defers:=ds}:FE).fr t' k'),h2):=by rw[<-e];exact h3
  cases hx:ex P T S n tk h1 with
  |none=>rw[hx]at h5;cases h5
  |some p=>
   rw[hx]at h5
   obtain⟨x,hh⟩:=p
   cases x with
   |ended en cm=>
    cases en with
    |ret v=>exact⟨n,_,_,hx,v,cm,rfl,n,_,_,h5,j,t',k',ds,h'',rfl,h4⟩
    |pan c=>simp[XY]at h5
   |left a b=>simp[XY]at h5
   |raised a b=>simp[XY]at h5
theorem Ce(e:∀rec:Ij,JW P T rec (E.fr t k) h=none):WB P T S E t k h K=False:=by
 apply propext;refine⟨fun hw=> ?_,False.elim⟩;obtain⟨n,x,h2,h3,_⟩:=hw;cases n with
 |zero=>cases h3
 |succ n=>
  have:JW P T (ex P T S n) (E.fr t k) h=some (x,h2):=h3;rw[e]at this;cases this
def rE(P:Program)(T:TT)(S:Qb)(E:FE)(t:TM)(ops:Array Oper)(l:List Nat)(k:List AI)(h:AH)(K:KK)(o:Oper):Option Bool->Prop
 |some true=>j3U P T S E t o (.reg ops l::k) K (Js P T o t h)
 |some false=>WB P T S E (vC t o.dst kV) (.reg ops l::k) h K
 |none=>False
theorem gG{l:List Nat}(o:Oper)(ho:ops[i]? =some o)(hn:∀g a h1,Js P T o t h≠some (.defer g a,h1))(hn2:∀h1,Js P T o t h≠some (.recover,h1)):WB P T S E t (.reg ops (i::l)::k) h K=rE P T S E t ops l k h K o (yQ ops t o):=by
 cases hg:yQ ops t o with
 |none=>exact Ce fun rec=>by simp[JW,FE.fr,KU,Nn,ho,hg]
 |some b=>
  cases b with
  |false=>exact Xv fun rec=>by simp[JW,FE.fr,KU,Nn,ho,hg];rfl
  |true=>
   have e0:∀rec:Ij,JW P T rec (E.fr t (.reg ops (i::l)::k)) h=oG rec (E.fr t (.reg ops (i::l)::k)) o (.reg ops l) k (Js P T o t h):=fun rec=>by simp[JW,FE.fr,KU,Nn,ho,hg]
   show _=j3U P T S E t o (.reg ops l::k) K (Js P T o t h)
   cases ha:Js P T o t h with
   |none=>rw[ha]at e0;exact Ce e0
   |some p=>
    obtain⟨an,h1⟩:=p
    rw[ha]at e0
    cases an with
    |val v=>exact Xv e0
    |enter g a=>exact Cc e0
    |round l a=>exact Cc e0
    |defer g a=>exact absurd ha (hn g a h1)
    |recover=>exact absurd ha (hn2 h1)
    |pan v=>
     apply propext
     refine⟨fun hw=> ?_,False.elim⟩
     obtain⟨n,x,h2,h3,j,t',k',ds,h'',rfl,h4⟩:=hw
     cases n with
     |zero=>cases h3
     |succ n=>
      have h5:=e0 (ex P T S n);have h6:JW P T (ex P T S n) (E.fr t (.reg ops (i::l)::k)) h=some (.left j (({E with defers:=ds}:FE).fr t' k'),h2):=h3;rw[h5]at h6;simp[oG]at h6
def bD:Option Oper->Bool
 |some o=>Az o.op
 |none=>true
def rF(P:Program)(T:TT)(S:Qb)(E:FE)(t:TM)(ops:Array Oper)(l:List Nat)(k:List AI)(h:AH)(K:KK):Option Oper->Prop
 |some o=>rE P T S E t ops l k h K o (yQ ops t o)
 |none=>False
theorem rA{ops:Array Oper}{i:Nat}{l:List Nat}(hp:bD (ops[i]?)=true):WB P T S E t (.reg ops (i::l)::k) h K=rF P T S E t ops l k h K (ops[i]?):=by
 cases ho:ops[i]? with
 |none=>exact Ce fun rec=>by simp[JW,FE.fr,KU,Nn,ho]
 |some o=>
  rw[ho]at hp;have hpl:=gS (P:=P) (T:=T) (t:=t) (h:=h) (o:=o) hp;exact gG o ho (fun g a h1 e=>by have:=hpl _ _ e;cases this) (fun h1 e=>by have:=hpl _ _ e;cases this)
theorem Wx{ops:Array Oper}{l:List Nat}{d:Option Tmp}{op:Op}{ty:TypeId}{ps:String}{af:Array Edge}:rF P T S E t ops l k h K (some ⟨d,op,ty,ps,af,none⟩)=j3U P T S E t ⟨d,op,ty,ps,af,none⟩ (.reg ops l::k) K (Js P T ⟨d,op,ty,ps,af,none⟩ t h):=rfl
theorem Ry{ops:Array Oper}{l:List Nat}{d:Option Tmp}{op:Op}{ty:TypeId}{ps:String}{af:Array Edge}{g:Nat×Bool}:rF P T S E t ops l k h K (some ⟨d,op,ty,ps,af,some g⟩)=rE P T S E t ops l k h K ⟨d,op,ty,ps,af,some g⟩ (yQ ops t ⟨d,op,ty,ps,af,some g⟩):=rfl
theorem gJ{ops:Array Oper}{l:List Nat}{o:Oper}:rE P T S E t ops l k h K o (some true)=j3U P T S E t o (.reg ops l::k) K (Js P T o t h):=rfl
theorem Wy{ops:Array Oper}{l:List Nat}{o:Oper}:rE P T S E t ops l k h K o (some false)=WB P T S E (vC t o.dst kV) (.reg ops l::k) h K:=rfl
theorem qT{c:Operand}{a b:Code}:WB P T S E t (.code (.cond c a b)::k) h K=j5N (WB P T S E t (.code a::k) h K) (WB P T S E t (.code b::k) h K) (xJ t c):=by
 apply propext;refine⟨fun hw=> ?_,Ws⟩;unfold j5N;split
 ·rename_i x hx;rw[cY x hx]at hw;cases x
  ·exact⟨fun e=>(by cases e),fun _=>hw⟩
  ·exact⟨fun _=>hw,fun e=>(by cases e)⟩
 ·rename_i hx;have:WB P T S E t (.code (.cond c a b)::k) h K=False:=Ce fun rec=>by simp only[JW,FE.fr,KU,KJ,Wf]
  exact this▸hw
structure MO(ops:Array Oper) where
 m:Nat
 ok:j0L ops=m
def MH(P:Program)(T:TT)(S:Qb)(E:FE)(t:TM){ops:Array Oper}(M:MO ops)(l:List Nat)(rs:List (Nat×RD×AV))(k:List AI)(h:AH)(K:KK):Prop:=WB P T S E t (.regD ops l rs::k) h K
theorem zL{id:Nat}(l:List Nat)(m:Nat)(hk:(j4U T ops&&(GV T ops==l)&&Nat.beq (j0L ops) m)=true):
 WB P T S E t (.code (.region id ops true)::k) h K=MH P T S E t (⟨m,jY (by simp only[jW]at hk;exact hk.2)⟩:MO ops) l [] k h K:=by
 simp only[jW,beq_iff_eq]at hk
 unfold MH
 rw[<-hk.1.2]
 exact Xv fun rec=>by simp[JW,FE.fr,KU,KJ,HX,hk.1.1,Yt]
theorem j1b{ops:Array Oper}{M:MO ops}{rs:List (Nat×RD×AV)}:MH P T S E t M [] rs k h K=(hold T h rs=true/\WB P T S E t k h K):=by
 unfold MH;cases hh:hold T h rs with
 |false=>rw[Ce fun rec=>by simp[JW,FE.fr,KU,hh]];simp
 |true=>rw[Xv (t':=t) (k':=k) (h':=h) fun rec=>by simp[JW,FE.fr,KU,hh,Yt]];simp
def ML(P:Program)(T:TT)(S:Qb)(E:FE)(t:TM){ops:Array Oper}(M:MO ops)(i:Nat)(o:Oper)(l:List Nat)(rs:List (Nat×RD×AV))(k:List AI)(K:KK):Kind->AR->Prop
 | .acts,some (.val v,h1)=>MH P T S E (vC t o.dst v) M l rs k h1 K
 | .acts,some (.enter g a,h1)=>WC P T S g a h1 fun v h2=>MH P T S E (vC t o.dst v) M l rs k h2 K
 | .acts,some (.round g a,h1)=>W P T S (.round g a) h1 fun x h2=>∃v cm,x= .ended (.ret v) cm/\MH P T S E (vC t o.dst v) M l rs k h2 K
 | .reads,some (.val v,h1)=>match Gi o t with
   |some rd=>MH P T S E (vC t o.dst v) M l ((i,rd,v)::rs) k h1 K
   |none=>(yU P o t).isSome=true/\MH P T S E (vC t o.dst v) M l rs k h1 K
 | .still,some (.val v,h1)=>MH P T S E (vC t o.dst v) M l rs k h1 K
 | .alloc,some (.val v,h1)=>MH P T S E (vC t o.dst v) M l rs k h1 K
 |_,_=>False
def Ik(P:Program)(T:TT)(S:Qb)(E:FE)(t:TM){ops:Array Oper}(M:MO ops)(i:Nat)(l:List Nat)(rs:List (Nat×RD×AV))(k:List AI)(h:AH)(K:KK)(o:Oper):Option Bool->Prop
 |some true=>ML P T S E t M i o l rs k K (vB T o) (Js P T o t h)
 |some false=>MH P T S E (vC t o.dst kV) M l rs k h K
 |none=>False
def FJ(n m i:Nat)(rs:List (Nat×RD×AV)):List (Nat×RD×AV):=rs.filter fun x=> !waits n m i x.1
def Ww(P:Program)(T:TT)(S:Qb)(E:FE)(t:TM){ops:Array Oper}(M:MO ops)(i:Nat)(l:List Nat)(rs:List (Nat×RD×AV))(k:List AI)(h:AH)(K:KK):Option Oper->Prop
 |some o=>match vB T o with
  | .acts=>hold T h rs=true/\Ik P T S E t M i l (FJ ops.size M.m i rs) k h K o (yQ ops t o)
  |_=>Ik P T S E t M i l rs k h K o (yQ ops t o)
 |none=>False
theorem Nw{it:AI}{k0:List AI}{h1:AH}(e:∀rec:Ij,JW P T rec (E.fr t k) h=VF rec (E.fr t k) o it k0 (rec tk h1))
 (hw:W P T S tk h1 fun x h2=>∃v cm,x= .ended (.ret v) cm/\WB P T S E (vC t o.dst v) (it::k0) h2 K):WB P T S E t k h K:=by
 obtain⟨n,x,h2,h3,v,cm,rfl,m,x2,h4,h5,h6⟩:=hw
 refine⟨max n m+1,x2,h4,?_,h6⟩
 show JW P T (ex P T S (max n m)) (E.fr t k) h=_
 rw[e,An (Nat.le_max_left n m) _ _ _ h3]
 exact An (Nat.le_max_right n m) _ _ _ h5
theorem j3g{M:MO ops}{l:List Nat}{rs rs0:List (Nat×RD×AV)}(e:∀rec:Ij,JW P T rec (E.fr t (.regD ops (i::l) rs0::k)) h=UM P T rec (E.fr t (.regD ops (i::l) rs0::k)) ops i o l rs k h)
 (hw:Ik P T S E t M i l rs k h K o (yQ ops t o)):WB P T S E t (.regD ops (i::l) rs0::k) h K:=by
 cases hg:yQ ops t o with
 |none=>rw[hg]at hw;exact hw.elim
 |some b=>
  rw[hg]at hw
  cases b with
  |false=>
   rw[Xv (t':=vC t o.dst kV) (k':= .regD ops l rs::k) (h':=h) fun rec=>by rw[e];simp[UM,FE.fr,hg];rfl];exact hw
  |true=>
   have e1:∀rec:Ij,JW P T rec (E.fr t (.regD ops (i::l) rs0::k)) h=Fu P T rec (E.fr t (.regD ops (i::l) rs0::k)) ops i o l rs k (Js P T o t h):=fun rec=>by rw[e];simp[UM,FE.fr,hg]
   have hw:ML P T S E t M i o l rs k K (vB T o) (Js P T o t h):=hw;unfold ML at hw;split at hw
   ·rename_i v h1 hk ha;rw[Xv (t':=vC t o.dst v) (k':= .regD ops l rs::k) (h':=h1) fun rec=>by rw[e1,ha];simp only[Fu,hk];rfl];exact hw
   ·rename_i g a h1 hk ha;refine Nw (o:=o) (it:= .regD ops l rs) (k0:=k) (h1:=h1) (tk:= .call g a none) (fun rec=> ?_) hw;rw[e1,ha];simp only[Fu,hk]
   ·rename_i g a h1 hk ha;refine Nw (o:=o) (it:= .regD ops l rs) (k0:=k) (h1:=h1) (tk:= .round g a) (fun rec=> ?_) hw;rw[e1,ha];simp only[Fu,hk]
   ·rename_i v h1 hk ha;split at hw
    ·rename_i rd hrd;rw[Xv (t':=vC t o.dst v) (k':= .regD ops l ((i,rd,v)::rs)::k) (h':=h1) fun rec=>by rw[e1,ha];simp only[Fu,hk];show(match Gi o t with|some rd=>_|none=>_)=_;rw[hrd];rfl];exact hw
    ·rename_i hrd;rw[Xv (t':=vC t o.dst v) (k':= .regD ops l rs::k) (h':=h1) fun rec=>by rw[e1,ha];simp only[Fu,hk];show(match Gi o t with|some rd=>_|none=>(bif (yU P o t).isSome then _ else _))=_;rw[hrd];simp only[hw.1,cond_true];rfl];exact hw.2
   ·rename_i v h1 hk ha;rw[Xv (t':=vC t o.dst v) (k':= .regD ops l rs::k) (h':=h1) fun rec=>by rw[e1,ha];simp only[Fu,hk];rfl];exact hw
   ·rename_i v h1 hk ha;rw[Xv (t':=vC t o.dst v) (k':= .regD ops l rs::k) (h':=h1) fun rec=>by rw[e1,ha];simp only[Fu,hk];rfl];exact hw
   ·exact hw.elim
theorem jX{M:MO ops}{l:List Nat}{rs:List (Nat×RD×AV)}(hw:Ww P T S E t M i l rs k h K (ops[i]?)):MH P T S E t M (i::l) rs k h K:=by
 unfold MH;cases ho:ops[i]? with
 |none=>rw[ho]at hw;exact hw.elim
 |some o=>
  rw[ho]at hw
  have hw:(match vB T o with
   | .acts=>hold T h rs=true/\Ik P T S E t M i l (FJ ops.size M.m i rs) k h K o (yQ ops t o)
   |_=>Ik P T S E t M i l rs k h K o (yQ ops t o)):=hw
  have hact:Uh T ops i=(match vB T o with| .acts=>true|_=>false):=by simp only[Uh,ho];rfl
  split at hw
  ·rename_i hk;refine j3g (M:=M) (rs:=FJ ops.size M.m i rs) (o:=o) (fun rec=> ?_) hw.2;rw[hk]at hact;simp only[JW,FE.fr,KU,MD,ho,hact,hw.1,if_true];rw[M.ok];rfl
  ·rename_i hk
   refine j3g (M:=M) (rs:=rs) (o:=o) (fun rec=> ?_) hw;have:Uh T ops i=false:=by
    rw[hact];split
    ·rename_i h2;exact absurd h2 hk
    ·rfl
   simp[JW,FE.fr,KU,MD,ho,this]
theorem TW(hf:P.funcs[f]? =some fn){ok:Prop}{ds ds0:List ADI}{h1 h2:AH}(c:Coll ok ds ds0 h1 h2)(h0:ds0=[]){t':TM}{k':List AI}{l:List AV}(hl:ZN T h2 t' fn.results.toList=some l):
 ∃n,ex P T S n (.unwind (FE.fr {fn:=f,defers:=ds} t' k') .ret) h1=some (.ended (.ret (DN l)) none,h2):=by
 induction c with
 |refl ds h=>
  subst h0;refine⟨1,?_⟩;show Vo P T (ex P T S 0) (FE.fr {fn:=f} t' k') .ret _=_;simp only[Vo,FE.fr,ME,hf,hl,qD]
 | @cons b ds ds0 h h' h1 h2 c ih=>
   obtain⟨n,hn⟩:=ih h0 hl;refine⟨n+1,?_⟩;rw[<-hn];show Vo P T (ex P T S n) (FE.fr {fn:=f,defers:= .coll b::ds} t' k') .ret h=_;simp only[Vo,FE.fr,h2]
theorem zW{args:List AV}{Q:AV->AH->Prop}(hf:P.funcs[f]? =some fn)(hb:fn.body=some c)(hS:S f=none)
 (hw:WB P T S {fn:=f} (TM.ofL args (fn.ntmps-args.length)) [.code c] h fun j t h1=>(j=none\/j=some .ret)/\∃l,ZN T h1 t fn.results.toList=some l/\Q (DN l) h1):WC P T S f args h Q:=by
 obtain⟨n,o,h1,h2,j,t',k',ds,h'',rfl,hcl,hj,l,hl,hq⟩:=hw
 obtain⟨m,hm⟩:=TW (S:=S) hf hcl rfl (k':=k') hl
 refine⟨max n m+1,.ended (.ret (DN l)) none,h'',?_,DN l,none,rfl,hq⟩
 show Bi P S (ex P T S (max n m)) f args none h=_
 unfold Bi
 rw[hf]
 simp only[hb,hS]
 have e1:ex P T S (max n m) (.body {fn:=f,tmps:=TM.ofL args (fn.ntmps-args.length),todo:=[.code c],defers:=[],cm:=none,roundOf:=none}) h=some (.left j (FE.fr {fn:=f,defers:=ds} t' k'),h1):=An (Nat.le_max_left n m) _ _ _ h2
 rw[e1]
 have e2:=An (Nat.le_max_right n m) _ _ _ hm
 rcases hj with rfl|rfl
 ·exact e2
 ·exact e2
theorem ZP{ι:Type}(Bn:ι->TM->AH->Prop)(ms:ι->Nat)
 (body:∀i t h,Bn i t h->(∀j t' h',Bn j t' h'->ms j<ms i->WB P T S E t' (.lp c::k) h' K)->WB P T S E t (.code c:: .lp c::k) h K):
 ∀i t h,Bn i t h->WB P T S E t (.lp c::k) h K:=by
 have key:∀n i t h,ms i=n->Bn i t h->WB P T S E t (.lp c::k) h K:=fun n=>by
  induction n using Nat.strongRecOn with
  |_ n ih=>
   intro i t h hn hi;rw[Cd];exact body i t h hi fun j t' h' hj hlt=>ih (ms j) (by omega) j t' h' rfl hj
 exact fun i t h hi=>key _ i t h rfl hi
end
end
variable{l:List AV}
section
section
variable {P:Program} {T:TT} {S:Qb} {t:TM} {h:AH} {d:Option Tmp} {ty:TypeId} {ps:String} {af:Array Edge} {g:Option (Nat×Bool)}
def VK(T:TT)(t:TypeId):Option Nat:=(T t).map (·.bytes)
def DE(T:TT)(t:TypeId)(i:Nat):Option (Nat×Nat×Bool):=match und T t with
 |some (.struct fs)=>match fs[i]? with
  |some f=>match vQ T f.type,XO T f.type with
   |some z,some a=>some (f.offset,z,a)
   |_,_=>none
  |none=>none
 |_=>none
def TM.get(t:TM)(i:Nat):AV:=(t.at i).getD kV
theorem Pe{i:Nat}{v:AV}(hi:i<t.n):(t.set i v).get i=v:=by unfold TM.get;rw[<-YZ,Gv,qK (by rw[gE];exact hi)];rfl
theorem WY{i j:Nat}{v:AV}(hi:i≠j):(t.set i v).get j=t.get j:=by unfold TM.get;rw[<-YZ,Gv,vK hi,YZ]
theorem j6y{i:Nat}{v:AV}:(t.set i v).n=t.n:=pX t i v
theorem j6x{l:List AV}{m:Nat}:(TM.ofL l m).n=l.length+m:=by rw[<-gE,eK];simp
theorem kX{i:Nat}:xJ t (.tmp i)=some (t.get i):=rfl
theorem j4q{k:IntKind}{n:Int}:xJ t (.const (.int k n))=some (.lit (.int k n)):=rfl
theorem j1O{b:Bool}:xJ t (.const (.bool b))=some (.lit (.bool b)):=rfl
theorem j4r{s:ByteArray}:xJ t (.const (.string s))=some (.lit (.string s)):=rfl
theorem GF:xJ t (.const (.pointer none))=some (.lit (.pointer none)):=rfl
theorem GG:xJ t (.const (.slice none 0 0))=some (.lit (.slice none 0 0)):=rfl
theorem j1S:xJ t (.const (.map none))=some (.lit (.map none)):=rfl
theorem j1Q:xJ t (.const .nilFunc)=some (.lit .nilFunc):=rfl
theorem j1R:xJ t (.const .nilIface)=some (.lit .nilIface):=rfl
theorem j1P{f:FuncId}:xJ t (.func f)=some (.fn (.func f) [] []):=rfl
theorem TN{i:Nat}{v:AV}:vC t (some i) v=t.set i v:=rfl
theorem TK{v:AV}:vC t none v=t:=rfl
theorem j43{x:Operand}:Js P T ⟨d,.move x,ty,ps,af,g⟩ t h=val h (xJ t x):=rfl
theorem rI{x:Operand}:Js P T ⟨d,.assign x,ty,ps,af,g⟩ t h=val h (xJ t x):=rfl
theorem j41{e:TypeId}{x:Operand}:Js P T ⟨d,.load e x,ty,ps,af,g⟩ t h=AP T t h e x:=rfl
theorem j1r{e:TypeId}{x y:Operand}:Js P T ⟨d,.store e x y,ty,ps,af,g⟩ t h=Bu T t h e x y:=rfl
theorem j1j{e:TypeId}:Js P T ⟨d,.alloc e,ty,ps,af,g⟩ t h=Dv T h e:=rfl
theorem j5R{e:TypeId}{x:Operand}:Js P T ⟨d,.box e x,ty,ps,af,g⟩ t h=OH t h e x:=rfl
theorem dC{e:TypeId}{p:Array (Nat×Operand)}:Js P T ⟨d,.build e p,ty,ps,af,g⟩ t h=Gw T t h e p:=rfl
theorem RC{e:TypeId}{x:Operand}{i:Nat}:Js P T ⟨d,.fieldAddr e x i,ty,ps,af,g⟩ t h=Xp T t h e x i:=rfl
theorem j1n{e:TypeId}{x:Operand}{i:Nat}:Js P T ⟨d,.field e x i,ty,ps,af,g⟩ t h=Gx T t h e x i:=rfl
theorem RE{e:TypeId}:Js P T ⟨d,.indexAddr e x y,ty,ps,af,g⟩ t h=ZQ T t h e x y:=rfl
theorem RB{e f:TypeId}:Js P T ⟨d,.binOp op e x y f,ty,ps,af,g⟩ t h=XK P T ⟨d,.binOp op e x y f,ty,ps,af,g⟩ t h op e x y:=rfl
theorem j6X{op:UnOp}{e:TypeId}{x:Operand}:Js P T ⟨d,.unOp op e x,ty,ps,af,g⟩ t h=j3m P t h op x:=rfl
theorem OK{c:Call}:Js P T ⟨d,.call c,ty,ps,af,g⟩ t h=Qd P T ⟨d,.call c,ty,ps,af,g⟩ t h c:=rfl
theorem j44{c x y:Operand}:Js P T ⟨d,.pick c x y,ty,ps,af,g⟩ t h=FA t h c x y:=rfl
theorem j5q{v:AV}:val h (some v)=some (.val v,h):=rfl
theorem RN{e:TypeId}{k k':IntKind}{a b:Int}(hx:xJ t x=some (.lit (.int k a)))(hy:xJ t y=some (.lit (.int k' b))):
 XK P T o t h op e x y=BM h (yS P (binOp op e (.int k a) (.int k' b))):=by
 unfold XK
 rw[hx,hy]
variable {k:IntKind} {a b:Int} {e:TypeId}
theorem j56:yS P (binOp .lss e (.int k a) (.int k b))=some (.ok (.bool (decide (a<b)))):=by simp[binOp,Op.intCmp];rfl
theorem j55:yS P (binOp .leq e (.int k a) (.int k b))=some (.ok (.bool (decide (a<=b)))):=by simp[binOp,Op.intCmp];rfl
theorem j54:yS P (binOp .gtr e (.int k a) (.int k b))=some (.ok (.bool (decide (b<a)))):=by simp[binOp,Op.intCmp];rfl
theorem j53:yS P (binOp .geq e (.int k a) (.int k b))=some (.ok (.bool (decide (b<=a)))):=by simp[binOp,Op.intCmp];rfl
theorem j52:yS P (binOp .eql e (.int k a) (.int k b))=some (.ok (.bool (a==b))):=by simp[binOp,Op.intCmp];rfl
theorem j58:yS P (binOp .neq e (.int k a) (.int k b))=some (.ok (.bool (a !=b))):=by simp[binOp,Op.intCmp];rfl
theorem j50:yS P (binOp .add e (.int k a) (.int k b))=some (.ok (.int k (k.wrap (a+b)))):=by simp[binOp,Op.intArith];rfl
theorem j5d:yS P (binOp .sub e (.int k a) (.int k b))=some (.ok (.int k (k.wrap (a-b)))):=by simp[binOp,Op.intArith];rfl
theorem j57:yS P (binOp .mul e (.int k a) (.int k b))=some (.ok (.int k (k.wrap (a * b)))):=by simp[binOp,Op.intArith];rfl
theorem uT{n:Int}:BM h (some (.ok (.int k n)))=some (.val (.lit (.int k n)),h):=rfl
theorem Fa{x:Bool}:BM h (some (.ok (.bool x)))=some (.val (.lit (.bool x)),h):=rfl
theorem j1e{E:FE}{o:Oper}{l:List AI}{K:KK}{v:AV}{h1:AH}:j3U P T S E t o l K (some (.val v,h1))=WB P T S E (vC t o.dst v) l h1 K:=rfl
def KC(P:Program)(T:TT)(S:Qb)(E:FE)(t:TM)(d:Option Tmp)(l:List AI)(K:KK):AV->AH->Prop:=fun v h2=>WB P T S E (vC t d v) l h2 K
theorem j5C{E:FE}{l:List AI}{K:KK}{v:AV}{h2:AH}:KC P T S E t d l K v h2=WB P T S E (vC t d v) l h2 K:=rfl
theorem gI{E:FE}{o:Oper}{l:List AI}{K:KK}{f:FuncId}{xs:List AV}{h1:AH}:j3U P T S E t o l K (some (.enter f xs,h1))=WC P T S f xs h1 (KC P T S E t o.dst l K):=rfl
theorem tK{l:List AV}{m i:Nat}:(TM.ofL l m).get i=l.getD i kV:=by
 unfold TM.get;rw[<-YZ,eK];by_cases hi:i<l.length
 ·rw[jZ hi,jU]
 ·rw[zQ (by omega),Rp,jU,qY (by omega)];split<;>rfl
theorem Gd{k:IntKind}{n:Int}:Hr (.lit (.int k n))=if 0<=n then some n.toNat else none:=rfl
theorem j77(n:Nat):List.range n=List.range' 0 n:=List.range_eq_range'
theorem rD{A B:Prop}{b:Bool}:j5N A B (some (.lit (.bool b)))=((b=true->A)/\(b=false->B)):=rfl
theorem j1T{id id':Nat}{k:List AI}:Kv id (.blk id'::k)=if id'=id then some k else Kv id k:=rfl
theorem tF{id:Nat}{c:Code}{k:List AI}:Kv id (.code c::k)=Kv id k:=rfl
theorem j4s{id:Nat}{c:Code}{k:List AI}:Kv id (.lp c::k)=Kv id k:=rfl
theorem j4t{id:Nat}{c:Code}{k:List AI}:Kv id (.sc c::k)=Kv id k:=rfl
theorem Wv{E:FE}{id:Nat}{K:KK}{k:List AI}:j3h P T S E t id h K (some k)=WB P T S E t k h K:=rfl
def Dc(P:Program)(T:TT)(o:Oper)(t:TM)(h:AH)(op:BinOp)(e:TypeId)(x y:Operand):AR:=XK P T o t h op e x y
theorem j2Q:ZN T h t []=some []:=rfl
theorem j2R{i:Nat}{r:List ResultVar}:ZN T h t (.tmp i::r)=(ZN T h t r).map (t.get i:: ·):=rfl
theorem gL{x:Operand}{i:Nat}:Js P T ⟨d,.extract x i,ty,ps,af,g⟩ t h=Vr t h x i:=rfl
theorem sB{i:Nat}{v:AV}(hi:i<t.n):(t.set i v).at i=some v:=by rw[<-YZ,Gv,qK (by rw[gE];exact hi)]
theorem j4f{i j:Nat}{v:AV}(hi:i≠j):(t.set i v).at j=t.at j:=by rw[<-YZ,Gv,vK hi,YZ]
theorem j71:(true==true)=true:=rfl
theorem j6Z:(false==true)=false:=rfl
theorem j70:(true==false)=false:=rfl
theorem j6Y:(false==false)=true:=rfl
theorem j2y{v:Value}:(AV.lit v).one=true:=rfl
theorem j2z{b off:Nat}:(AV.ptr b off).one=true:=rfl
theorem j4X{b off n:Nat}{c:Cap}:(AV.sl b off n c).one=true:=rfl
theorem j4W{b:Nat}:(AV.mp b).one=true:=rfl
theorem j4V{f:Fn}{a b:List AV}:(AV.fn f a b).one=true:=rfl
theorem j2x{t:TypeId}{a:AV}:(AV.ifc t a).one=true:=rfl
theorem j2w:AV.any.one=true:=rfl
theorem iA{v:Value}:(AV.lit v).cells=[.lit v]:=rfl
theorem sG{b off n:Nat}{c:Cap}:(AV.sl b off n c).cells=[.sl b off n c]:=rfl
theorem iB{b off:Nat}:(AV.ptr b off).cells=[.ptr b off]:=rfl
theorem hJ{l:List AV}:(AV.agg l).cells=l:=rfl
theorem Ey{v:AV}(hv:v.one=true):v.cells=[v]:=by cases v<;>first|rfl|cases hv
theorem j2m(x:AB):(h.push x).n=h.n+1:=by rw[zF]
theorem rZ{b:Nat}{x:AB}(hb:b=h.n):(h.push x).at b=some x:=by subst hb;exact zI h x
theorem sA{b:Nat}{x:AB}(hb:b<h.n):(h.push x).at b=h.at b:=xE x hb
theorem Iw{b:Nat}{x:AB}(hb:b<h.n):(h.put b x).at b=some x:=qJ x hb
theorem dH{b c:Nat}{x:AB}(hb:c≠b):(h.put c x).at b=h.at b:=zE x hb
def YU(T:TT)(t:TypeId)(l:List AV)(off:Nat):Option AV:=match XO T t,vQ T t with
 |some true,some n=>(cut l off n).map .agg
 |some false,some _=>l[off]?
 |_,_=>none
theorem UD{b off:Nat}{e':TypeId}(hb:h.at b=some (.cells l e')):Jr T h e b off=YU T e l off:=by
 simp only[Jr,Zj,hb,YU];cases XO T e with
 |none=>rfl
 |some a=>cases a<;>cases vQ T e<;>rfl
theorem j4D{b off:Nat}{l:List AV}{e':TypeId}(hb:b=h.n):Jr T (h.push (.cells l e')) e b off=YU T e l off:=UD (rZ hb)
theorem j4E{b off:Nat}{x:AB}(hb:b<h.n):Jr T (h.push x) e b off=Jr T h e b off:=by simp only[Jr,Zj,sA hb]
theorem j4F{b off:Nat}{l:List AV}{e':TypeId}(hb:b<h.n):Jr T (h.put b (.cells l e')) e b off=YU T e l off:=UD (Iw hb)
theorem j2b{b c off:Nat}{x:AB}(hb:c≠b):Jr T (h.put c x) e b off=Jr T h e b off:=by simp only[Jr,Zj,dH hb]
def j6T(T:TT)(h:AH)(t:TypeId)(b off:Nat)(v:AV):Option AB->Option AH
 |some (.cells l e)=>match vQ T t with
  |some n=>if v.cells.length=n&&v.cells.all AV.one then(put l off v.cells).map fun l'=>h.put b (.cells l' e)else none
  |none=>none
 |_=>none
theorem j6F{b off:Nat}{v:AV}:Mt T h e b off v=j6T T h e b off v (h.at b):=by
 unfold Mt j6T KL;cases h.at b with
 |none=>rfl
 |some ab=>cases ab<;>first|rfl|(cases vQ T e<;>rfl)
def j3j(P:Program)(T:TT)(o:Oper)(t:TM)(h:AH)(op:BinOp)(e:TypeId)(x y:Operand):AR:=XK P T o t h op e x y
def fH(h:AH)(b:Bool)(r:AR):Option TypeDesc->AV->AR
 |some (.slice _),.sl _ _ _ _=>some (.val (.lit (.bool b)),h)
 |_,_=>r
theorem ON{f:TypeId}{i:Nat}:
 Dc P T ⟨d,.binOp .eql e (.tmp i) (.const (.slice none 0 0)) f,ty,ps,af,g⟩ t h .eql e (.tmp i) (.const (.slice none 0 0))=
  fH h false (j3j P T ⟨d,.binOp .eql e (.tmp i) (.const (.slice none 0 0)) f,ty,ps,af,g⟩ t h .eql e (.tmp i) (.const (.slice none 0 0))) (und T e) (t.get i):=by
 unfold fH
 split
 ·rename_i e' b off len cap hu hv;unfold Dc XK;rw[show xJ t (.tmp i)=some (.sl b off len cap)by rw[kX,hv],GG];simp only[yR,yU,Zs,Op.operands,JK,kX,hv,ZT,Jg,Dn,Jl,UP,hu,GG,CM];rfl
 ·rfl
theorem OO{f:TypeId}{i:Nat}:
 Dc P T ⟨d,.binOp .neq e (.tmp i) (.const (.slice none 0 0)) f,ty,ps,af,g⟩ t h .neq e (.tmp i) (.const (.slice none 0 0))=
  fH h true (j3j P T ⟨d,.binOp .neq e (.tmp i) (.const (.slice none 0 0)) f,ty,ps,af,g⟩ t h .neq e (.tmp i) (.const (.slice none 0 0))) (und T e) (t.get i):=by
 unfold fH
 split
 ·rename_i e' b off len cap hu hv;unfold Dc XK;rw[show xJ t (.tmp i)=some (.sl b off len cap)by rw[kX,hv],GG];simp only[yR,yU,Zs,Op.operands,JK,kX,hv,ZT,Jg,Dn,Jl,UP,hu,GG,CM];rfl
 ·rfl
theorem OJ{n:Nat}{p:Array (Nat×Operand)}:Js P T ⟨d,.buildSlice e n p,ty,ps,af,g⟩ t h=Zo T t h e n p:=rfl
def j65(T:TT)(h:AH)(n:Nat)(ps:Option (List (Nat×AV))):Option TypeDesc->AR
 |some (.slice e)=>match Jm T e,vQ T e,ps with
  |some zv,some z,some ps=>if zv.cells.length=z&&n<=65536&&n * z<=65536 then(Kw (fun k=>some (k * z,z)) (Mf zv.cells n) ps).map fun l=>(.val (.sl h.n 0 n (.kn n)),h.push (.cells l e))else none
  |_,_,_=>none
 |_=>none
theorem j66{n:Nat}{p:Array (Nat×Operand)}:Zo T t h e n p=j65 T h n (Jk t p.toList) (und T e):=by
 unfold Zo j65;cases hu:und T e with
 |none=>simp
 |some dd=>
  cases dd<;>try(simp;done)
  rename_i e'
  cases hp:Jk t p.toList with
  |none=>
   simp only;cases Jm T e'<;>cases vQ T e'<;>rfl
  |some l=>
   simp only[Jm,vQ]
   cases T e' with
   |none=>rfl
   |some i=>rfl
def j6K(h:AH):Option (Nat×Nat×Bool)->Option AV->AR
 |some (o,_+1,_),some (.ptr b off)=>some (.val (.ptr b (off+o)),h)
 |_,_=>none
theorem j6b{x:Operand}{i:Nat}:Xp T t h e x i=j6K h (DE T e i) (xJ t x):=by
 unfold Xp DE j6K;cases hu:und T e with
 |none=>simp
 |some dd=>
  cases dd<;>try(simp;done)
  rename_i fs
  cases hx:xJ t x with
  |none=>simp
  |some v=>
   cases v<;>try(simp;done)
   simp only
   cases hf:fs[i]? with
   |none=>simp
   |some f=>
    simp only[vQ,XO]
    cases hT:T f.type with
    |none=>simp
    |some ti=>
     simp only[qD];cases ti.size<;>rfl
def j6c(h:AH):Option (Nat×Nat×Bool)->Option AV->AR
 |some (o,z,true),some (.agg l)=>val h ((cut l o z).map .agg)
 |some (o,_,false),some (.agg l)=>val h l[o]?
 |_,_=>none
theorem j6d{x:Operand}{i:Nat}:Gx T t h e x i=j6c h (DE T e i) (xJ t x):=by
 unfold Gx DE j6c;cases hu:und T e with
 |none=>simp
 |some dd=>
  cases dd<;>try(simp;done)
  rename_i fs
  cases hx:xJ t x with
  |none=>simp
  |some v=>
   cases v<;>try(simp;done)
   simp only
   cases hf:fs[i]? with
   |none=>simp
   |some f=>
    simp only[vQ,XO,Tj]
    cases hT:T f.type with
    |none=>simp[val]
    |some ti=>
     simp only[qD];cases BJ ti.desc<;>rfl
end
end
def zM(n0:Nat)(h h':AH):Prop:=h.n<=h'.n/\∀b,b<n0->h'.at b=h.at b
theorem zM.refl(n0:Nat)(h:AH):zM n0 h h:=⟨jM _,fun _ _=>rfl⟩
variable{n0:Nat}
theorem zM.trans{a b c:AH}(h:zM n0 a b)(k:zM n0 b c):zM n0 a c:=⟨zY h.1 k.1,fun x hx=>(k.2 x hx).trans (h.2 x hx)⟩
theorem zM.mono{n1:Nat}{a b:AH}(h:zM n1 a b)(hn:n0<=n1):zM n0 a b:=⟨h.1,fun x hx=>h.2 x (by omega)⟩
theorem zM.push(x:AB)(he:zM n0 h h')(hn:n0<=h'.n):zM n0 h (h'.push x):=
 ⟨by rw[zF];have:=he.1;omega,fun b hb=>(xE x (by omega)).trans (he.2 b hb)⟩
theorem zM.put{p:Nat}(x:AB)(he:zM n0 h h')(hn:n0<=p):zM n0 h (h'.put p x):=
 ⟨by rw[kZ];exact he.1,fun b hb=>(zE x (by omega)).trans (he.2 b hb)⟩
theorem zM.at{x:AB}(he:zM n0 h h')(hb:b<n0)(hx:h.at b=some x):h'.at b=some x:=(he.2 b hb).trans hx
def Own(n0:Nat)(h:AH)(v:AV)(z:Nat)(e:TypeId)(L:List (List AV)):Prop:=
 (∀x∈L,x.length=z)/\((v= .lit (.slice none 0 0)/\L=[])\/∃p,v= .sl p 0 L.length (.un z)/\n0<=p/\h.at p=some (.cells L.flatten e))
variable{z:Nat}
theorem QM{L:List (List AV)}(h:∀x∈L,x.length=z):L.flatten.length=L.length * z:=by
 induction L with
 |nil=>simp
 |cons a r ih=>
  rw[vE,jQ,ih (fun x hx=>h x (by simp[hx])),h a (by simp),xA,YR];omega
def qR(v:AV)(b:Nat):Prop:=∀off len cap,v≠ .sl b off len cap
variable{T:TT}{L:List (List AV)}
theorem WH{tx:TypeId}{by':Nat}{zv s x:AV}{M:List (List AV)}(hu:und T t=some (.slice e))(htx:und T tx=some (.slice e))(hz:vQ T e=some z)(hzv:Jm T e=some zv)(hb:VK T e=some by')
 (hzl:zv.cells.length=z) (h0:0<z) (h200:z<=200) (ho:Own n0 h s z e L) (hx:Dk h z x=some M.flatten) (hxl:lenA x=some M.length) (hM:∀c∈M,c.length=z) (h1:M.flatten.all AV.one=true) (hn:L.length+M.length<=4611686018427387904) (hby:(L.length+M.length) * by'<=140737488355328) (hn0:n0<=h.n):
 ∃s' h',vZ T h t tx s x=some (s',h')/\Own n0 h' s' z e (L++M)/\zM n0 h h'/\∀b,b<h.n->qR s b->h'.at b=h.at b/\qR s' b:=by
 simp only[vQ,Jm,VK,jT]at hz hzv hb
 obtain⟨i,hi,rfl⟩:=hz
 obtain⟨i2,hi2,rfl⟩:=hzv
 obtain⟨i3,hi3,rfl⟩:=hb
 rw[hi]at hi2 hi3
 obtain rfl:=jS hi2
 obtain rfl:=jS hi3
 have hml:=QM hM
 have hlm:∀c∈L++M,c.length=i.size:=fun c hc=>(List.mem_append.1 hc).elim (ho.1 c) (hM c)
 have hs:lenA s=some L.length:=by rcases ho.2 with⟨rfl,rfl⟩|⟨p,rfl,_⟩<;>rfl
 have hA:vZ T h t tx s x=Qp h e i.size M.length M.flatten s:=by unfold vZ;rw[hu,htx];simp only[hi,hxl,hs];rw[show(EW i.size (.slice e)&&Nat.blt 0 i.size&&Nat.ble i.size 200&&Nat.beq i.zero.cells.length i.size&&Nat.ble (L.length+M.length) 4611686018427387904&&Nat.ble ((L.length+M.length) * i.bytes) 140737488355328)=true by simp only[jW,Nat.ble_eq,Nat.blt_eq];exact⟨⟨⟨⟨⟨rfl,h0⟩,h200⟩,by rw[hzl];exact Wm _⟩,hn⟩,hby⟩];simp only[cond_true,hx];rw[show(Nat.beq M.flatten.length (M.length * i.size)&&M.flatten.all AV.one)=true by rw[hml,h1,Wm];rfl];rfl
 rw[hA]
 rcases ho.2 with⟨rfl,rfl⟩|⟨p,rfl,hp,hat⟩
 ·unfold Qp;cases hm:Nat.beq M.length 0 with
  |true=>
   have:M=[]:=zO (jY hm);subst this;exact⟨_,_,rfl,⟨hlm,.inl ⟨rfl,rfl⟩⟩,zM.refl _ _,fun _ _ ha=>⟨rfl,ha⟩⟩
  |false=>
   refine⟨_,_,rfl,⟨hlm,.inr ⟨h.n,by simp,hn0,?_⟩⟩,(zM.refl _ _).push _ hn0,fun b hb _=>⟨xE _ hb,fun off len cap e=>by cases e;omega⟩⟩;rw[zI];simp
 ·have hlt:=jR hat;unfold Qp;cases hm:Nat.beq M.length 0 with
  |true=>
   have:M=[]:=zO (jY hm);subst this;exact⟨_,_,rfl,⟨hlm,.inr ⟨p,by simp,hp,by simpa using hat⟩⟩,zM.refl _ _,fun _ _ ha=>⟨rfl,ha⟩⟩
  |false=>
   have hg:KL h p=some (L.flatten,e):=by unfold KL;rw[hat]
   have hc:cut L.flatten 0 (L.length * i.size)=some L.flatten:=by unfold cut;rw[if_pos (by rw[yG,QM ho.1];exact jM _),xK,<-QM ho.1,xC]
   simp only[cond_false,hg,hc,Wm,kS,cond_true];refine⟨_,_,rfl,⟨hlm,.inr ⟨h.n,by simp,hn0,?_⟩⟩,((zM.refl n0 h).put .gone hp).push _ (by rw[kZ];exact hn0),fun b hb ha=> ?_⟩
   ·have:=zI (h.put p .gone) (.cells (L.flatten++M.flatten) e);rw[kZ]at this;rw[this];simp
   ·refine⟨?_,fun off len cap e=>by cases e;omega⟩;rw[xE _ (by rw[kZ];exact hb),zE];intro hpb;subst hpb;exact ha _ _ _ rfl
theorem VZ{tx:TypeId}{by' p:Nat}{zv x:AV}{M:List (List AV)}(hu:und T t=some (.slice e))(htx:und T tx=some (.slice e))(hz:vQ T e=some z)(hzv:Jm T e=some zv)(hb:VK T e=some by')
 (hzl:zv.cells.length=z) (h0:0<z) (h200:z<=200) (hp:h.at p=some (.cells [] e)) (hx:Dk h z x=some M.flatten) (hxl:lenA x=some M.length) (hM:∀c∈M,c.length=z) (h1:M.flatten.all AV.one=true) (hn:M.length<=4611686018427387904) (hby:M.length * by'<=140737488355328):
 (M=[]/\vZ T h t tx (.sl p 0 0 (.kn 0)) x=some (.sl p 0 0 (.kn 0),h))\/(M≠[]/\vZ T h t tx (.sl p 0 0 (.kn 0)) x=some (.sl h.n 0 M.length (.un z),h.push (.cells M.flatten e))):=by
 simp only[vQ,Jm,VK,jT]at hz hzv hb
 obtain⟨i,hi,rfl⟩:=hz
 obtain⟨i2,hi2,rfl⟩:=hzv
 obtain⟨i3,hi3,rfl⟩:=hb
 rw[hi]at hi2 hi3
 obtain rfl:=jS hi2
 obtain rfl:=jS hi3
 have hml:=QM hM
 have hA:vZ T h t tx (.sl p 0 0 (.kn 0)) x=Qp h e i.size M.length M.flatten (.sl p 0 0 (.kn 0)):=by unfold vZ;rw[hu,htx];have hl0:lenA (.sl p 0 0 (.kn 0))=some 0:=rfl;simp only[hi,hxl,hl0];rw[show(EW i.size (.slice e)&&Nat.blt 0 i.size&&Nat.ble i.size 200&&Nat.beq i.zero.cells.length i.size&&Nat.ble (0+M.length) 4611686018427387904&&Nat.ble ((0+M.length) * i.bytes) 140737488355328)=true by simp only[jW,Nat.ble_eq,Nat.blt_eq];exact⟨⟨⟨⟨⟨rfl,h0⟩,h200⟩,by rw[hzl];exact Wm _⟩,by omega⟩,by rw[yG];exact hby⟩];simp only[cond_true,hx];rw[show(Nat.beq M.flatten.length (M.length * i.size)&&M.flatten.all AV.one)=true by rw[hml,h1,Wm];rfl];rfl
 rw[hA]
 unfold Qp
 cases hm:Nat.beq M.length 0 with
 |true=>exact .inl ⟨zO (jY hm),rfl⟩
 |false=>
  have hne:M≠[]:=fun hh=>by subst hh;simp at hm
  have hb:Nat.ble (0+M.length) 0=false:=by rw[Nr];intro hh;have:=Nat.ble_eq.mp hh;exact hne (zO (by omega))
  refine .inr ⟨hne,?_⟩;have hg:Zj h p=some []:=by unfold Zj;rw[hp]
  have hc:cut ([]:List AV) 0 (0 * i.size)=some []:=by simp[cut]
  simp only[hb,hg,hc,cond_false];simp
def Rd(h:AH)(v:AV)(z:Nat)(L:List (List AV)):Prop:=
 (∀x∈L,x.length=z)/\((v= .lit (.slice none 0 0)/\L=[])\/∃b off cap row,v= .sl b off L.length cap/\Zj h b=some row/\cut row off (L.length * z)=some L.flatten)
theorem Rd.len(hr:Rd h v z L):lenA v=some L.length:=by rcases hr.2 with⟨rfl,rfl⟩|⟨b,off,cap,row,rfl,_⟩<;>rfl
theorem Rd.src(hr:Rd h v z L):Dk h z v=some L.flatten:=by
 rcases hr.2 with⟨rfl,rfl⟩|⟨b,off,cap,row,rfl,h1,h2⟩
 ·rfl
 ·simp only[Dk,h1];exact h2
theorem Sp{z:Nat}:∀{L:List (List AV)},(∀x∈L,x.length=z)->∀(i:Nat) {c:List AV},L[i]? =some c->(L.flatten.drop (i * z)).take z=c
 |[],_,i,c,hc=>by simp at hc
 |a::r,h,i,c,hc=>by
  have ha:=h a (by simp);cases i with
  |zero=>
   obtain rfl:a=c:=by simpa using hc
   rw[Dr,xK,vE,<-ha,Eo];rfl
  |succ i=>
   rw[vE,YR,Nat.add_comm,List.drop_append,XI (by omega),xS,ha,Nat.add_sub_cancel_left];exact Sp (fun x hx=>h x (by simp[hx])) i (by simpa using hc)
variable{cap:Cap}
theorem Rd.get{off len:Nat}{L:List (List AV)}(hr:Rd h (.sl b off len cap) z L){c:List AV}(hi:L[i]? =some c):
 ∃row,Zj h b=some row/\(row.drop (off+i * z)).take z=c/\off+i * z+z<=row.length/\c.length=z:=by
 rcases hr.2 with⟨hh,_⟩|⟨b2,off2,cap2,row,hh,h1,h2⟩
 ·cases hh
 ·cases hh;have hlt:=(List.getElem?_eq_some_iff.1 hi).1;have hcz:=hr.1 c (zR hi);unfold cut at h2;split at h2;case isFalse=>cases h2
  rename_i hfit;have h2:=jS h2;have hz:i * z+z<=L.length * z:=by rw[<-YR];exact qW _ hlt
  refine⟨row,h1,?_,by omega,hcz⟩;have:=Sp hr.1 i hi;rw[<-h2,List.drop_take,pA,QE (by omega),List.drop_drop]at this;exact this
theorem Rd.ext{n0:Nat}(hr:Rd h v z L)(hv:∀b off len cap,v= .sl b off len cap->h'.at b=h.at b):Rd h' v z L:=by
 refine⟨hr.1,?_⟩;rcases hr.2 with hh|⟨b,off,cap,row,hh,h1,h2⟩
 ·exact .inl hh
 ·refine .inr ⟨b,off,cap,row,hh,?_,h2⟩;unfold Zj at h1 ⊢;rw[hv _ _ _ _ hh];exact h1
theorem Own.rd(ho:Own n0 h v z e L):Rd h v z L:=by
 refine⟨ho.1,?_⟩;rcases ho.2 with hh|⟨p,rfl,hp,hat⟩
 ·exact .inl hh
 ·refine .inr ⟨p,0,_,L.flatten,rfl,by unfold Zj;rw[hat],?_⟩;unfold cut;rw[if_pos (by rw[yG,QM ho.1];exact jM _),xK,<-QM ho.1,xC]
section
structure Zl(α:Type) where
 z:Nat
 is:(Nat->Prop)->AH->List AV->α->Prop
 len:∀{F h c x},is F h c x->c.length=z
 one:∀{F h c x},is F h c x->∀v∈c,v.one=true
 lift:∀{F G:Nat->Prop} {h h':AH} {c x},is F h c x->(∀b,F b->b<h.n->h'.at b=h.at b/\G b)->is G h' c x
def Zq(n:Int):Prop:= -9223372036854775808<=n/\n<9223372036854775808
def qB:Zl Int where
 z:=1
 is _ _ c x:=c=[.lit (.int .i64 x)]/\Zq x
 len:=fun⟨h,_⟩=>by subst h;rfl
 one:=fun⟨h,_⟩ v hv=>by subst h;simp at hv;subst hv;rfl
 lift:=fun h _=>h
def j5L:Zl Nat where
 z:=1
 is _ _ c x:=c=[.lit (.int .u32 x)]/\x<4294967296
 len:=fun⟨h,_⟩=>by subst h;rfl
 one:=fun⟨h,_⟩ v hv=>by subst h;simp at hv;subst hv;rfl
 lift:=fun h _=>h
def xZ:Zl UInt8 where
 z:=1
 is _ _ c x:=c=[.lit (.int .u8 x.toNat)]
 len:=fun h=>by subst h;rfl
 one:=fun h v hv=>by subst h;simp at hv;subst hv;rfl
 lift:=fun h _=>h
def cX:Zl Bool where
 z:=1
 is _ _ c x:=c=[.lit (.bool x)]
 len:=fun h=>by subst h;rfl
 one:=fun h v hv=>by subst h;simp at hv;subst hv;rfl
 lift:=fun h _=>h
def JX:Zl ByteArray where
 z:=1
 is _ _ c x:=c=[.lit (.string x)]
 len:=fun h=>by subst h;rfl
 one:=fun h v hv=>by subst h;simp at hv;subst hv;rfl
 lift:=fun h _=>h
def kM{α β:Type}(R:Zl α)(S:Zl β):Zl (α×β) where
 z:=R.z+S.z
 is F h c x:=∃c1 c2,c=c1++c2/\R.is F h c1 x.1/\S.is F h c2 x.2
 len:=fun⟨c1,c2,e,h1,h2⟩=>by subst e;rw[jQ,R.len h1,S.len h2]
 one:=fun⟨c1,c2,e,h1,h2⟩ v hv=>by subst e;exact(List.mem_append.1 hv).elim (R.one h1 v) (S.one h2 v)
 lift:=fun⟨c1,c2,e,h1,h2⟩ hh=>⟨c1,c2,e,R.lift h1 hh,S.lift h2 hh⟩
def Us{α β:Type}(f:β->α)(R:Zl α):Zl β where
 z:=R.z
 is F h c x:=R.is F h c (f x)
 len:=R.len
 one:=R.one
 lift:=R.lift
def Fz(v:AV)(n:Nat):Prop:=(v= .lit (.slice none 0 0)/\n=0)\/∃b off cap,v= .sl b off n cap
def slB:AV->Nat
 | .sl b _ _ _=>b
 |_=>0
def slO:AV->Nat
 | .sl _ o _ _=>o
 |_=>0
def j6I(F:Nat->Prop)(v:AV):Prop:=∀b off n cap,v= .sl b off n cap->F b
theorem Cq{h:AH}{b:Nat}{row:List AV}(hr:Zj h b=some row):b<h.n:=by
 unfold Zj at hr;cases hq:h.at b with
 |none=>rw[hq]at hr;cases hr
 |some ab=>exact jR hq
theorem Rd.slN{h:AH}{v:AV}{z:Nat}{L:List (List AV)}(hr:Rd h v z L):Fz v L.length:=by
 rcases hr.2 with⟨rfl,rfl⟩|⟨b,off,cap,row,rfl,_⟩
 ·exact .inl ⟨rfl,rfl⟩
 ·exact .inr ⟨b,off,cap,rfl⟩
theorem Fz.one{v:AV}{n:Nat}(h:Fz v n):v.one=true:=by rcases h with⟨rfl,_⟩|⟨b,off,cap,rfl⟩<;>rfl
theorem Fz.lenA{v:AV}{n:Nat}(h:Fz v n):lenA v=some n:=by rcases h with⟨rfl,rfl⟩|⟨b,off,cap,rfl⟩<;>rfl
theorem Rd.lift{h h':AH}{v:AV}{z:Nat}{L:List (List AV)}(hr:Rd h v z L)(hv:∀b off n cap,v= .sl b off n cap->b<h.n->h'.at b=h.at b):Rd h' v z L:=
 hr.ext (n0:=0) fun b off len cap e=>by
  rcases hr.2 with⟨rfl,_⟩|⟨b2,off2,cap2,row,rfl,h1,_⟩
  ·cases e
  ·cases e;exact hv _ _ _ _ rfl (Cq h1)
def YP{α:Type}(R:Zl α)(F:Nat->Prop)(h:AH)(L:List (List AV))(xs:List α):Prop:=L.length=xs.length/\∀(i:Nat) c x,L[i]? =some c->xs[i]? =some x->R.is F h c x
theorem YP.nil{α:Type}{R:Zl α}{F:Nat->Prop}{h:AH}:YP R F h [] []:=⟨rfl,fun i c x hc=>by simp at hc⟩
theorem YP.lens{α:Type}{R:Zl α}{F:Nat->Prop}{h:AH}{L:List (List AV)}{xs:List α}(he:YP R F h L xs):∀c∈L,c.length=R.z:=fun c hc=>by
 obtain⟨i,hi,rfl⟩:=List.mem_iff_getElem.1 hc;have hx:i<xs.length:=by rw[<-he.1];exact hi
 exact R.len (he.2 i _ xs[i] (jO hi) (jO hx))
theorem YP.ones{α:Type}{R:Zl α}{F:Nat->Prop}{h:AH}{L:List (List AV)}{xs:List α}(he:YP R F h L xs):L.flatten.all AV.one=true:=by
 simp only[qG,List.mem_flatten];rintro v ⟨c,hc,hv⟩;obtain⟨i,hi,rfl⟩:=List.mem_iff_getElem.1 hc;have hx:i<xs.length:=by rw[<-he.1];exact hi
 exact R.one (he.2 i _ xs[i] (jO hi) (jO hx)) v hv
theorem YP.lift{α:Type}{R:Zl α}{F G:Nat->Prop}{h h':AH}{L:List (List AV)}{xs:List α}(he:YP R F h L xs)(hh:∀b,F b->b<h.n->h'.at b=h.at b/\G b):YP R G h' L xs:=
 ⟨he.1,fun i c x hc hx=>R.lift (he.2 i c x hc hx) hh⟩
theorem YP.snoc{α:Type}{R:Zl α}{F:Nat->Prop}{h:AH}{L:List (List AV)}{xs:List α}{c:List AV}{x:α}(he:YP R F h L xs)(hc:R.is F h c x):YP R F h (L++[c]) (xs++[x]):=by
 refine⟨by simp[he.1],fun i c' x' h1 h2=> ?_⟩;by_cases hi:i<L.length
 ·rw[jZ hi]at h1;rw[jZ (by rw[<-he.1];exact hi)]at h2;exact he.2 i _ _ h1 h2
 ·rw[zQ (by omega)]at h1
  rw[zQ (by rw[<-he.1];omega),<-he.1]at h2;have h0:i-L.length=0:=by
   cases hk:i-L.length with
   |zero=>rfl
   |succ k=>rw[hk]at h1;simp at h1
  rw[h0]at h1 h2;simp at h1 h2;subst h1 h2;exact hc
theorem YP.append{α:Type}{R:Zl α}{F:Nat->Prop}{h:AH}{L M:List (List AV)}{xs ys:List α}(he:YP R F h L xs)(hm:YP R F h M ys):YP R F h (L++M) (xs++ys):=by
 refine⟨by simp[he.1,hm.1],fun i c x h1 h2=> ?_⟩;by_cases hi:i<L.length
 ·rw[jZ hi]at h1;rw[jZ (by rw[<-he.1];exact hi)]at h2;exact he.2 i _ _ h1 h2
 ·rw[zQ (by omega)]at h1;rw[zQ (by rw[<-he.1];omega),<-he.1]at h2;exact hm.2 _ _ _ h1 h2
theorem YP.get{α:Type}{R:Zl α}{F:Nat->Prop}{h:AH}{L:List (List AV)}{xs:List α}(he:YP R F h L xs){i:Nat}{x:α}(hx:xs[i]? =some x):∃c,L[i]? =some c/\R.is F h c x:=by
 have hi:i<L.length:=by rw[he.1];exact(List.getElem?_eq_some_iff.1 hx).1
 exact⟨L[i],jO hi,he.2 i _ x (jO hi) hx⟩
def KN(z:Nat)(v:AV):Prop:=∀b off n cap,v= .sl b off n cap->match cap with
 | .kn k=>n<=k
 | .un z'=>z'=z
def Eg{α:Type}(R:Zl α):Zl (List α) where
 z:=1
 is F h c xs:=∃v L,c=[v]/\Rd h v R.z L/\j6I F v/\KN R.z v/\YP R F h L xs
 len:=fun⟨v,L,e,_⟩=>by subst e;rfl
 one:=fun⟨v,L,e,h1,_⟩ u hu=>by subst e;simp at hu;subst hu;exact h1.slN.one
 lift:=fun⟨v,L,e,h1,h2,hc,h3⟩ hh=>⟨v,L,e,h1.lift fun b off n cap e' hb=>(hh b (h2 b off n cap e') hb).1,
  fun b off n cap e'=>by
   rcases h1.2 with⟨hv,_⟩|⟨b2,off2,cap2,row,hv,h4,_⟩
   ·rw[hv]at e';cases e'
   ·have e2:=e';rw[hv]at e';cases e';exact(hh _ (h2 _ _ _ _ e2) (Cq h4)).2,hc,h3.lift hh⟩
def isSl:AV->Bool
 | .sl .. =>true
 | .lit (.slice none 0 0)=>true
 |_=>false
def lenD:AV->Nat
 | .sl _ _ n _=>n
 |_=>0
section
variable {α:Type} {R:Zl α} {F:Nat->Prop} {h:AH} {v:AV} {xs:List α}
theorem Fz.isSl{n:Nat}(h:Fz v n):isSl v=true:=by rcases h with⟨rfl,_⟩|⟨b,off,cap,rfl⟩<;>rfl
theorem Fz.lenD{n:Nat}(h:Fz v n):lenD v=n:=by rcases h with⟨rfl,rfl⟩|⟨b,off,cap,rfl⟩<;>rfl
theorem Fz.of(h:Ex.isSl v=true):∃n,Fz v n:=by
 unfold Ex.isSl at h;split at h
 ·exact⟨_,.inr ⟨_,_,_,rfl⟩⟩
 ·exact⟨0,.inl ⟨rfl,rfl⟩⟩
 ·cases h
def zJ(R:Zl α)(F:Nat->Prop)(h:AH)(v:AV)(xs:List α):Prop:=(Eg R).is F h [v] xs
theorem zJ.mk{L:List (List AV)}(h1:Rd h v R.z L)(h2:j6I F v)(hc:KN R.z v)(h3:YP R F h L xs):zJ R F h v xs:=⟨v,L,rfl,h1,h2,hc,h3⟩
theorem zJ.out(hs:zJ R F h v xs):∃L,Rd h v R.z L/\j6I F v/\KN R.z v/\YP R F h L xs:=by obtain⟨v',L,e,h1,h2,hc,h3⟩:=hs;cases e;exact⟨L,h1,h2,hc,h3⟩
theorem zJ.slN(hs:zJ R F h v xs):Fz v xs.length:=by obtain⟨L,h1,_,_,h3⟩:=hs.out;rw[<-h3.1];exact h1.slN
theorem zJ.one(hs:zJ R F h v xs):v.one=true:=hs.slN.one
theorem zJ.isSl(hs:zJ R F h v xs):Ex.isSl v=true:=hs.slN.isSl
theorem zJ.lenD(hs:zJ R F h v xs):Ex.lenD v=xs.length:=hs.slN.lenD
theorem zJ.cells(hs:zJ R F h v xs):v.cells=[v]:=Ey hs.one
theorem zJ.lift{G:Nat->Prop}{h':AH}(hs:zJ R F h v xs)(hh:∀b,F b->b<h.n->h'.at b=h.at b/\G b):zJ R G h' v xs:=(Eg R).lift hs hh
theorem zJ.ext{h':AH}{n0:Nat}(hs:zJ R F h v xs)(he:zM n0 h h')(hn:h.n<=n0):zJ R F h' v xs:=hs.lift fun b hb hlt=>⟨he.2 b (by omega),hb⟩
theorem zJ.nil:zJ R F h (.lit (.slice none 0 0)) []:= .mk (L:=[]) ⟨by simp,.inl ⟨rfl,rfl⟩⟩ (fun b off n cap e=>by cases e) (fun b off n cap e=>by cases e) .nil
theorem zJ.get(hs:zJ R F h v xs){i:Nat}{x:α}(hx:xs[i]? =some x):
 ∃c,R.is F h c x/\(∀e n j,vQ T e=some n->0<n->j+n<=R.z->Jr T h e (slB v) (slO v+i * R.z+j)=YU T e c j):=by
 obtain⟨L,h1,h2,_,h3⟩:=hs.out
 obtain⟨c,hc,hi⟩:=h3.get hx
 refine⟨c,hi,fun e n j hn h0 hj=> ?_⟩
 rcases h1.2 with⟨_,rfl⟩|⟨b,off,cap,row,rfl,h4,h5⟩
 ·simp at hc
 ·obtain⟨row',e1,e2,e3,e4⟩:=h1.get hc;rw[h4]at e1;obtain rfl:=jS e1;have key:∀k,k<R.z->row[off+i * R.z+k]? =c[k]? :=fun k hk=>by rw[<-e2,qH,if_pos hk,yA]
  simp only[Jr,slB,slO,h4,YU,hn];cases ha:XO T e with
  |none=>rfl
  |some a=>
   cases a with
   |false=>exact key j (by omega)
   |true=>
    simp only[cut];rw[if_pos (by omega),if_pos (by omega)];simp only[qD,jP,AV.agg.injEq];apply VO;intro k;by_cases hk:k<n
    ·rw[qH,if_pos hk,qH,if_pos hk,yA,yA];rw[vI];exact key (j+k) (by omega)
    ·rw[qH,if_neg hk,qH,if_neg hk]
def UJ(l:Nat):Cap->Cap
 | .kn k=> .kn (k-l)
 | .un z'=> .un z'
def Gj(z l r:Nat):AV->AV
 | .sl b off _ cap=> .sl b (off+l * z) (r-l) (UJ l cap)
 |v=>v
theorem zJ.sub{l r:Nat}(hs:zJ R F h v xs)(hlr:l<=r)(hr:r<=xs.length):zJ R F h (Gj R.z l r v) ((xs.take r).drop l):=by
 obtain⟨L,h1,h2,hc,h3⟩:=hs.out;have hL:L.length=xs.length:=h3.1;have hE:YP R F h ((L.take r).drop l) ((xs.take r).drop l):=by
  refine⟨by simp[hL],fun i c x e1 e2=> ?_⟩;rw[yA,qH]at e1 e2;split at e1
  ·rename_i hi;rw[if_pos hi]at e2;exact h3.2 _ _ _ e1 e2
  ·cases e1
 rcases h1.2 with⟨rfl,rfl⟩|⟨b,off,cap,row,rfl,h4,h5⟩
 ·refine .mk (L:=[]) ⟨by simp,.inl ⟨rfl,rfl⟩⟩ (fun b off n cap e=>by cases e) (fun b off n cap e=>by cases e) ?_;have:xs=[]:=zO (by rw[<-hL];rfl);subst this;simpa using YP.nil
 ·refine .mk (L:=(L.take r).drop l) ⟨fun c hc=>h1.1 c (ZY (Yo hc)),.inr ⟨b,off+l * R.z,UJ l cap,row,?_,h4,?_⟩⟩ (fun b' off' n' cap' e=> ?_) (fun b' off' n' cap' e=> ?_) hE
  ·show AV.sl b (off+l * R.z) (r-l) (UJ l cap)=_;rw[show((L.take r).drop l).length=r-l by rw[kT,zV];omega]
  ·have hlen:((L.take r).drop l).length=r-l:=by rw[kT,zV];omega
   rw[hlen];unfold cut at h5 ⊢;split at h5;case isFalse=>cases h5
   rename_i hfit;have h5:=jS h5;have m1:l * R.z+(r-l) * R.z=r * R.z:=by rw[<-Da];congr 1;omega
   have m2:r * R.z<=L.length * R.z:=qW _ (by omega);have hp:=qW R.z (show l<=r by omega);rw[if_pos (by omega)];congr 1;have hflat:∀(M:List (List AV)) (k:Nat),(∀c∈M,c.length=R.z)->(M.drop k).flatten=M.flatten.drop (k * R.z):=by
    intro M;induction M with
    |nil=>intro k _;simp
    |cons a M ih=>
     intro k hM
     cases k with
     |zero=>simp
     |succ k=>
      rw[List.drop_succ_cons,ih k (fun c hc=>hM c (by simp[hc])),vE,YR,Nat.add_comm,<-List.drop_drop,List.drop_left' (hM a (by simp))]
   have hflat2:∀(M:List (List AV)) (k:Nat),(∀c∈M,c.length=R.z)->(M.take k).flatten=M.flatten.take (k * R.z):=by
    intro M;induction M with
    |nil=>intro k _;simp
    |cons a M ih=>
     intro k hM
     cases k with
     |zero=>simp
     |succ k=>
      have ha:=hM a (by simp);rw[Km,vE,vE,ih k (fun c hc=>hM c (by simp[hc])),YR,List.take_append,xP (l:=a) (by omega),ha];congr 2;omega
   rw[hflat _ _ (fun c hc=>h1.1 c (ZY hc)),hflat2 _ _ h1.1,<-h5,pA,List.drop_take,List.drop_drop];congr 1;omega
  ·show F b';have e':AV.sl b (off+l * R.z) (r-l) (UJ l cap)= .sl b' off' n' cap':=e;cases e';exact h2 b off _ cap rfl
  ·have e':AV.sl b (off+l * R.z) (r-l) (UJ l cap)= .sl b' off' n' cap':=e;cases e';have:=hc b off _ cap rfl;cases cap with
   |kn k=>show _<=_;simp only at this;omega
   |un z'=>exact this
def qE(R:Zl α)(G:Nat->Prop)(n0:Nat)(h:AH)(v:AV)(e:TypeId)(xs:List α):Prop:=∃L,Own n0 h v R.z e L/\YP R (fun b=>G b/\qR v b) h L xs
variable {G:Nat->Prop} {n0:Nat} {e:TypeId}
theorem Own.slN{z:Nat}{L:List (List AV)}(h:Own n0 h v z e L):Fz v L.length:=by
 rcases h.2 with⟨rfl,rfl⟩|⟨p,rfl,_⟩
 ·exact .inl ⟨rfl,rfl⟩
 ·exact .inr ⟨_,_,_,rfl⟩
theorem qE.nil:qE R G n0 h (.lit (.slice none 0 0)) e []:=⟨[],⟨by simp,.inl ⟨rfl,rfl⟩⟩,.nil⟩
theorem qE.slN(ho:qE R G n0 h v e xs):Fz v xs.length:=by obtain⟨L,h1,h2⟩:=ho;rw[<-h2.1];exact h1.slN
theorem qE.one(ho:qE R G n0 h v e xs):v.one=true:=ho.slN.one
theorem qE.isSl(ho:qE R G n0 h v e xs):Ex.isSl v=true:=ho.slN.isSl
theorem qE.lenD(ho:qE R G n0 h v e xs):Ex.lenD v=xs.length:=ho.slN.lenD
theorem qE.cells(ho:qE R G n0 h v e xs):v.cells=[v]:=Ey ho.one
theorem qE.lift{h':AH}(ho:qE R G n0 h v e xs)(hv:∀b off n cap,v= .sl b off n cap->h'.at b=h.at b)(hh:∀b,G b->b<h.n->qR v b->h'.at b=h.at b):qE R G n0 h' v e xs:=by
 obtain⟨L,h1,h2⟩:=ho;refine⟨L,⟨h1.1,?_⟩,h2.lift fun b hb hlt=>⟨hh b hb.1 hlt hb.2,hb⟩⟩;rcases h1.2 with hh|⟨p,rfl,hp,hat⟩
 ·exact .inl hh
 ·exact .inr ⟨p,rfl,hp,(hv _ _ _ _ rfl).trans hat⟩
theorem qE.ext{h':AH}{m:Nat}(ho:qE R G n0 h v e xs)(he:zM m h h')(hm:h.n<=m):qE R G n0 h' v e xs:=
 ho.lift (fun b off n cap ev=>by
  obtain⟨L,h1,h2⟩:=ho;rcases h1.2 with⟨hh,_⟩|⟨p,hh,hp,hat⟩
  ·rw[hh]at ev;cases ev
  ·rw[hh]at ev;cases ev;exact he.2 _ (by have:=jR hat;omega)) (fun b _ hlt _=>he.2 b (by omega))
theorem qE.apart(ho:qE R G n0 h v e xs){b:Nat}(hb:h.n<=b):qR v b:=fun off n cap ev=>by
 obtain⟨L,h1,h2⟩:=ho;rcases h1.2 with⟨hh,_⟩|⟨p,hh,hp,hat⟩
 ·rw[hh]at ev;cases ev
 ·rw[hh]at ev;cases ev;have:=jR hat;omega
theorem qE.toSl(ho:qE R G n0 h v e xs)(hG:∀b,G b->F b)(hn:∀b,n0<=b->F b):zJ R F h v xs:=by
 obtain⟨L,h1,h2⟩:=ho;refine .mk h1.rd (fun b off n cap ev=> ?_) (fun b off n cap ev=> ?_) (h2.lift fun b hb _=>⟨rfl,hG b hb.1⟩)
 ·rcases h1.2 with⟨hh,_⟩|⟨p,hh,hp,hat⟩
  ·rw[hh]at ev;cases ev
  ·rw[hh]at ev;cases ev;exact hn _ hp
 ·rcases h1.2 with⟨hh,_⟩|⟨p,hh,hp,hat⟩
  ·rw[hh]at ev;cases ev
  ·rw[hh]at ev;cases ev;rfl
theorem qE.append{t tx:TypeId}{by':Nat}{zv x:AV}{M:List (List AV)}{ys:List α}(ho:qE R G n0 h v e xs)
 (hu:und T t=some (.slice e)) (htx:und T tx=some (.slice e)) (hz:vQ T e=some R.z) (hzv:Jm T e=some zv) (hb:VK T e=some by')
 (hzl:zv.cells.length=R.z) (h0:0<R.z) (h200:R.z<=200) (hx:Dk h R.z x=some M.flatten) (hxl:lenA x=some M.length) (hM:YP R (fun b=>G b/\qR v b) h M ys)
 (hn:xs.length+ys.length<=4611686018427387904) (hby:(xs.length+ys.length) * by'<=140737488355328) (hn0:n0<=h.n):
 ∃s' h',vZ T h t tx v x=some (s',h')/\qE R G n0 h' s' e (xs++ys)/\zM n0 h h'/\∀b,b<h.n->qR v b->h'.at b=h.at b/\qR s' b:=by
 obtain⟨L,h1,h2⟩:=ho
 obtain⟨s',h',a1,a2,a3,a4⟩:=WH hu htx hz hzv hb hzl h0 h200 h1 hx hxl hM.lens hM.ones (by rw[h2.1,hM.1];exact hn) (by rw[h2.1,hM.1];exact hby) hn0
 exact⟨s',h',a1,⟨_,a2,(h2.append hM).lift fun b hb hlt=>⟨(a4 b hlt hb.2).1,hb.1,(a4 b hlt hb.2).2⟩⟩,a3,a4⟩
theorem qE.snoc{t tx:TypeId}{by' p:Nat}{zv:AV}{c:List AV}{y:α}{e':TypeId}(ho:qE R G n0 h v e xs)
 (hu:und T t=some (.slice e)) (htx:und T tx=some (.slice e)) (hz:vQ T e=some R.z) (hzv:Jm T e=some zv) (hb:VK T e=some by')
 (hzl:zv.cells.length=R.z) (h0:0<R.z) (h200:R.z<=200) (hp:h.at p=some (.cells c e')) (hc:R.is (fun b=>G b/\qR v b) h c y)
 (hn:xs.length+1<=4611686018427387904) (hby:(xs.length+1) * by'<=140737488355328) (hn0:n0<=h.n):
 ∃s' h',vZ T h t tx v (.sl p 0 1 cap)=some (s',h')/\qE R G n0 h' s' e (xs++[y])/\zM n0 h h'/\∀b,b<h.n->qR v b->h'.at b=h.at b/\qR s' b:=by
 refine ho.append hu htx hz hzv hb hzl h0 h200 (M:=[c]) (ys:=[y]) ?_ rfl (YP.nil.snoc hc) hn hby hn0
 have hg:Zj h p=some c:=by unfold Zj;rw[hp]
 simp only[Dk,hg,cut]
 rw[if_pos (by rw[R.len hc];omega)]
 simp[R.len hc▸xC]
end
end
variable{dd:TypeDesc}
section
section
variable {P:Program} {T:TT} {S:Qb} {t:TM} {h:AH} {d:Option Tmp} {ty:TypeId} {ps:String} {af:Array Edge} {g:Option (Nat×Bool)} {N:NT}
def NO(T:TT)(t:TypeId):Bool:=match und T t with
 |some (.slice _)=>true
 |_=>false
def nS(T:TT)(t:TypeId):Nat:=match und T t with
 |some (.slice e)=>(vQ T e).getD 0
 |_=>0
def tW:AV->Bool
 | .ptr _ _=>true
 |_=>false
theorem Re{t:TypeId}(hu:und (zH P N) t=some dd):(P.underlying t).getD .invalid=dd:=by
 unfold und zH at hu;cases hq:N.has t with
 |false=>rw[hq]at hu;cases hu
 |true=>rw[hq]at hu;simpa [Mx]using hu
theorem Mz{t e:TypeId}(hu:und (zH P N) t=some (.slice e)):P.underlying t=some (.slice e):=by
 have:=Re hu;cases hq:P.underlying t with
 |none=>rw[hq]at this;cases this
 |some x=>rw[hq]at this;exact congrArg some this
theorem EV{t:TypeId}(hT:NO T t=true):∃e,und T t=some (.slice e):=by
 unfold NO at hT;split at hT
 ·rename_i e hu;exact⟨e,hu⟩
 ·cases hT
theorem wQ{α:Type}{f:Program->Sem α}:yS P (program >>= f)=yS P (f P):=rfl
theorem j5T{i ty':Nat}(hs:isSl (t.get i)=true)(hT:NO (zH P N) ty'=true):
 Js P (zH P N) ⟨d,.call ⟨.builtin .len,#[.tmp i],#[ty']⟩,ty,ps,af,g⟩ t h=some (.val (.lit (.int .i64 (lenD (t.get i)))),h):=by
 obtain⟨e,hu⟩:=EV hT
 have hP:=Mz hu
 rw[OK]
 obtain⟨n,⟨hv,_⟩|⟨b,off,cap,hv⟩⟩:=Fz.of hs
 ·have he:qI t (.tmp i)= .slice none 0 0:=by simp[qI,kX,hv,ZT]
  have hl:yU P ⟨d,.call ⟨.builtin .len,#[.tmp i],#[ty']⟩,ty,ps,af,g⟩ t=some (.val (.lit (.int .i64 0))):=by simp only[yU,Zs,Op.operands,Call.operands,execOp,resolve];simp[JK,kX,hv,ZT,invoke,builtin,Builtin.len_,he,underlying];rw[wQ,hP];rfl
  simp only[Qd,Zt,XS,kX,hv,yR,hl,lenD];rfl
 ·simp only[Qd,Zt,XS,kX,hv,hu,lenD]
def j5w(h:AH)(v:AV)(z:Nat):Option Nat->AR
 |some k=>if k<lenD v then some (.val (.ptr (slB v) (slO v+k * z)),h)else none
 |none=>none
theorem tP{v:AV}{z k:Nat}:j5w h v z (some k)=if k<lenD v then some (.val (.ptr (slB v) (slO v+k * z)),h)else none:=rfl
theorem j5j{e el z:Nat}(hu:und T e=some (.slice el))(hz:vQ T el=some z):nS T e=z:=by unfold nS;rw[hu];simp[hz]
def TQ(T:TT)(t:TypeId):Bool:=match und T t with
 |some (.slice e)=>(vQ T e).isSome&&Nat.blt 0 ((vQ T e).getD 0)
 |_=>false
theorem DZ{e:TypeId}(hT:TQ T e=true):∃el z,und T e=some (.slice el)/\vQ T el=some z/\nS T e=z/\0<z:=by
 unfold TQ at hT;split at hT;case h_2=>cases hT
 rename_i el hu;simp only[jW]at hT;obtain⟨z,hz⟩:=Option.isSome_iff_exists.1 hT.1;refine⟨el,z,hu,hz,j5j hu hz,?_⟩;have:=Nat.blt_eq.mp hT.2;rw[hz]at this;exact this
theorem j6W{e i:Nat}{y:Operand}(hs:isSl (t.get i)=true)(hT:TQ T e=true):Js P T ⟨d,.indexAddr e (.tmp i) y,ty,ps,af,g⟩ t h=j5w h (t.get i) (nS T e) ((xJ t y).bind Hr):=by
 rw[RE];obtain⟨el,z,hu,hz,hzz,_⟩:=DZ hT;rw[hzz];unfold ZQ;obtain⟨n,⟨hv,_⟩|⟨b,off,cap,hv⟩⟩:=Fz.of hs
 ·rw[hu,kX,hv];cases(xJ t y).bind Hr<;>simp[j5w,lenD]
 ·rw[hu,kX,hv];cases(xJ t y).bind Hr with
  |none=>simp[j5w]
  |some k=>
   by_cases hk:k<n
   ·simp[j5w,lenD,slB,slO,hz,hk]
   ·simp[j5w,lenD,hz,hk]
theorem j5S{e i:Nat}{y:Operand}(hs:tW (t.get i)=true):Js P T ⟨d,.indexAddr e (.tmp i) y,ty,ps,af,g⟩ t h=ZQ T t h e (.tmp i) y:=rfl
def gK(P:Program)(T:TT)(o:Oper)(t:TM)(h:AH)(e:TypeId)(x:Operand)(lo hi mx:Option Operand):AR:=Qy P T o t h e x lo hi mx
def j5g(h:AH)(v:AV)(z:Nat)(lo hi:Int)(r:AR):AR:=if 0<=lo/\lo<=hi/\hi<=(lenD v:Int)then some (.val (Gj z lo.toNat hi.toNat v),h)else r
theorem PW{o:Oper}{i:Nat}(hx: .tmp i∈o.op.operands){b off n:Nat}(hv:t.get i= .sl b off n cap):yU P o t=none:=by
 have key:∀l:List Operand,Operand.tmp i∈l->JK t l=false:=by
  intro l;induction l with
  |nil=>intro h;cases h
  |cons a r ih=>
   intro h
   cases h with
   |head=>simp[JK,kX,hv,ZT]
   |tail _ h=>
    have:=ih h;simp only[JK];split
    ·rw[this];simp
    ·rfl
 have:=key o.op.operands.toList (by simpa using hx);unfold yU;rw[this];simp
theorem sE{z n k:Nat}(hk:k<=n)(hc:match cap with| .kn k=>n<=k| .un z'=>z'=z):AQ cap n k=some true:=by
 cases cap with
 |kn m=>simp only at hc;simp[AQ];omega
 |un z'=>simp[AQ,hk]
theorem bS{e:TypeId}{v:AV}{l r:Nat}{lo hi:Option Nat}(hT:TQ T e=true)(hc:KN (nS T e) v){b off n:Nat}{cap:Cap}(hv:v= .sl b off n cap)(hl:lo.getD 0=l)(hr:hi.getD n=r)(hlr:l<=r)(hrn:r<=n):
 Ua T h e v lo hi none=some (.val (Gj (nS T e) l r v),h):=by
 obtain⟨el,z,hu,hz,hzz,_⟩:=DZ hT
 subst hv
 have hcap:=hc b off n cap rfl
 rw[hzz]at hcap ⊢
 unfold Ua
 rw[hu]
 simp only[hz]
 have hb:Ai n cap lo hi none=some (l,r,UJ l cap):=by unfold Ai;simp only[hl,hr,sE hrn hcap];rw[if_pos (by simp[hlr])];cases cap<;>rfl
 rw[hb]
 simp only
 have hf:Uc z (UJ l cap)=true:=by
  cases cap with
  |kn k=>rfl
  |un z'=>simp only at hcap;subst hcap;simp[Uc,UJ]
 rw[hf]
 rfl
theorem lV{e:TypeId}{lo hi:Option Value}(hP:P.underlying e=some (.slice ty))(hl:lo=none\/lo=some (.int .i64 0))(hh:hi=none\/hi=some (.int .i64 0))(hi':(P.info? ty).isSome=true):
 yS P (do let x <-Instr.sliceAt e (.slice none 0 0) lo hi none;pure (Next.value x))=some (.ok (.value (.slice none 0 0))):=by
 obtain⟨ii,hii⟩:=Option.isSome_iff_exists.1 hi'
 have u1:∀{α β:Type} (f:TypeDesc->Sem α) (g:α->Sem β),yS P ((underlying e >>= f) >>= g)=yS P (f (.slice ty) >>= g):=fun f g=>by show yS P (((match P.underlying e with|some d=>pure d|none=>stuck "no such type") >>= f) >>= g)=_;rw[hP];rfl
 have u2:∀{α β:Type} (f:Nat->Sem α) (g:α->Sem β),yS P ((sizeOf ty >>= f) >>= g)=yS P (f ii.size >>= g):=fun f g=>by show yS P (((((match P.info? ty with|some i=>pure i|none=>stuck "no such type") >>= fun i=>pure i.size)) >>= f) >>= g)=_;rw[hii];rfl
 unfold Instr.sliceAt
 rw[u1]
 show yS P (Instr.slice e (.slice none 0 0) lo hi none >>= _)=_
 unfold Instr.slice
 rw[u1]
 rcases hl with rfl|rfl<;>rcases hh with rfl|rfl<;>exact u2 _ _
theorem EZ{o:Oper}{e el i:Nat}{lo hi:Option Operand}(hu:und (zH P N) e=some (.slice el)){z:Nat}(hel:vQ (zH P N) el=some z)(h0:0<z)(hv:t.get i= .lit (.slice none 0 0))
 (hl:lo=none\/∃x,lo=some x/\xJ t x=some (.lit (.int .i64 0))) (hh:hi=none\/∃x,hi=some x/\xJ t x=some (.lit (.int .i64 0))) (ho:o.op= .slice e (.tmp i) lo hi none):
 yU P o t=some (.val (.lit (.slice none 0 0))):=by
 obtain⟨d,op,ty,ps,af,g⟩:=o
 simp only at ho
 subst ho
 have hinfo:(P.info? el).isSome=true:=by
  cases hq:P.info? el with
  |some ii=>rfl
  |none=>
   simp only[vQ,jT,zH]at hel
   obtain⟨ti,h1,h2⟩:=hel
   cases hN:N.has el with
   |false=>rw[hN]at h1;cases h1
   |true=>
    rw[hN]at h1;simp only[cond_true,jP]at h1;rw[<-h1]at h2;simp only[Mx,hq]at h2;simp at h2;omega
 have e0:qI t (.tmp i)= .slice none 0 0:=by simp[qI,kX,hv,ZT]
 have key:=lV (P:=P) (lo:=lo.map (qI t)) (hi:=hi.map (qI t)) (Mz hu) (by
  rcases hl with rfl|⟨x,rfl,hx⟩
  ·exact .inl rfl
  ·exact .inr (by simp[qI,hx,ZT])) (by
  rcases hh with rfl|⟨x,rfl,hx⟩
  ·exact .inl rfl
  ·exact .inr (by simp[qI,hx,ZT])) hinfo
 unfold yU
 rw[if_pos]
 ·show Na (yS P (do let x <-Instr.sliceAt e (qI t (.tmp i)) (lo.map (qI t)) (hi.map (qI t)) none;pure (Next.value x)))=_;rw[e0,key];rfl
 ·rcases hl with rfl|⟨x,rfl,hx⟩<;>rcases hh with rfl|⟨y,rfl,hy⟩<;>simp[Zs,Op.operands,JK,kX,ZT, *]
theorem j1p{e i:Nat}{hi:Operand}(hs:isSl (t.get i)=true)(hT:TQ (zH P N) e=true)(hc:KN (nS (zH P N) e) (t.get i)):
 Js P (zH P N) ⟨d,.slice e (.tmp i) none (some hi) none,ty,ps,af,g⟩ t h=(match xJ t hi with
  |some (.lit (.int .i64 n))=>j5g h (t.get i) (nS (zH P N) e) 0 n (gK P (zH P N) ⟨d,.slice e (.tmp i) none (some hi) none,ty,ps,af,g⟩ t h e (.tmp i) none (some hi) none)
  |_=>gK P (zH P N) ⟨d,.slice e (.tmp i) none (some hi) none,ty,ps,af,g⟩ t h e (.tmp i) none (some hi) none):=by
 have h0:Js P (zH P N) ⟨d,.slice e (.tmp i) none (some hi) none,ty,ps,af,g⟩ t h=Qy P (zH P N) ⟨d,.slice e (.tmp i) none (some hi) none,ty,ps,af,g⟩ t h e (.tmp i) none (some hi) none:=rfl
 rw[h0]
 split
 ·rename_i n hn;unfold j5g;split
  ·rename_i hb;obtain⟨m,⟨hv,hm⟩|⟨b,off,cap,hv⟩⟩:=Fz.of hs
   ·obtain⟨el,z,hu,hz,hzz,h0⟩:=DZ hT;have hl:(lenD (t.get i))=0:=by rw[hv];rfl
    obtain rfl:n=0:=by omega
    unfold Qy yR;rw[EZ hu hz h0 hv (.inl rfl) (.inr ⟨_,rfl,hn⟩) rfl,hv];rfl
   ·unfold Qy yR;rw[PW (i:=i) (by simp[Op.operands]) hv];simp only[kX,Qz,hn,Gd,if_pos hb.2.1,qD];have hl:(lenD (t.get i))=m:=by rw[hv];rfl
    exact bS hT hc hv rfl rfl (by simp) (by simp;omega)
  ·rfl
 ·rfl
theorem j1q{e i:Nat}{lo:Operand}(hs:isSl (t.get i)=true)(hT:TQ (zH P N) e=true)(hc:KN (nS (zH P N) e) (t.get i)):
 Js P (zH P N) ⟨d,.slice e (.tmp i) (some lo) none none,ty,ps,af,g⟩ t h=(match xJ t lo with
  |some (.lit (.int .i64 n))=>j5g h (t.get i) (nS (zH P N) e) n (lenD (t.get i)) (gK P (zH P N) ⟨d,.slice e (.tmp i) (some lo) none none,ty,ps,af,g⟩ t h e (.tmp i) (some lo) none none)
  |_=>gK P (zH P N) ⟨d,.slice e (.tmp i) (some lo) none none,ty,ps,af,g⟩ t h e (.tmp i) (some lo) none none):=by
 have h0:Js P (zH P N) ⟨d,.slice e (.tmp i) (some lo) none none,ty,ps,af,g⟩ t h=Qy P (zH P N) ⟨d,.slice e (.tmp i) (some lo) none none,ty,ps,af,g⟩ t h e (.tmp i) (some lo) none none:=rfl
 rw[h0]
 split
 ·rename_i n hn;unfold j5g;split
  ·rename_i hb;obtain⟨m,⟨hv,hm⟩|⟨b,off,cap,hv⟩⟩:=Fz.of hs
   ·obtain⟨el,z,hu,hz,hzz,h0⟩:=DZ hT;have hl:(lenD (t.get i))=0:=by rw[hv];rfl
    obtain rfl:n=0:=by omega
    unfold Qy yR;rw[EZ hu hz h0 hv (.inr ⟨_,rfl,hn⟩) (.inl rfl) rfl,hv];rfl
   ·unfold Qy yR;rw[PW (i:=i) (by simp[Op.operands]) hv];simp only[kX,Qz,hn,Gd,if_pos hb.1,qD];have hl:(lenD (t.get i))=m:=by rw[hv];rfl
    rw[vD];exact bS hT hc hv rfl (by rw[hl];rfl) (by simp;omega) (by omega)
  ·rfl
 ·rfl
theorem gM{e i:Nat}{lo hi:Operand}(hs:isSl (t.get i)=true)(hT:TQ (zH P N) e=true)(hc:KN (nS (zH P N) e) (t.get i)):
 Js P (zH P N) ⟨d,.slice e (.tmp i) (some lo) (some hi) none,ty,ps,af,g⟩ t h=(match xJ t lo,xJ t hi with
  |some (.lit (.int .i64 n)),some (.lit (.int .i64 m))=>j5g h (t.get i) (nS (zH P N) e) n m (gK P (zH P N) ⟨d,.slice e (.tmp i) (some lo) (some hi) none,ty,ps,af,g⟩ t h e (.tmp i) (some lo) (some hi) none)
  |_,_=>gK P (zH P N) ⟨d,.slice e (.tmp i) (some lo) (some hi) none,ty,ps,af,g⟩ t h e (.tmp i) (some lo) (some hi) none):=by
 have h0:Js P (zH P N) ⟨d,.slice e (.tmp i) (some lo) (some hi) none,ty,ps,af,g⟩ t h=Qy P (zH P N) ⟨d,.slice e (.tmp i) (some lo) (some hi) none,ty,ps,af,g⟩ t h e (.tmp i) (some lo) (some hi) none:=rfl
 rw[h0]
 split
 ·rename_i n k hn hk;unfold j5g;split
  ·rename_i hb;obtain⟨m,⟨hv,hm⟩|⟨b,off,cap,hv⟩⟩:=Fz.of hs
   ·obtain⟨el,z,hu,hz,hzz,h0⟩:=DZ hT;have hl:(lenD (t.get i))=0:=by rw[hv];rfl
    obtain rfl:n=0:=by omega
    obtain rfl:k=0:=by omega
    unfold Qy yR;rw[EZ hu hz h0 hv (.inr ⟨_,rfl,hn⟩) (.inr ⟨_,rfl,hk⟩) rfl,hv];rfl
   ·unfold Qy yR;rw[PW (i:=i) (by simp[Op.operands]) hv];have hk0:0<=k:=by omega
    simp only[kX,Qz,hn,hk,Gd,if_pos hb.1,if_pos hk0,qD];have hl:(lenD (t.get i))=m:=by rw[hv];rfl
    exact bS hT hc hv rfl rfl (by simp;omega) (by simp;omega)
  ·rfl
 ·rfl
def IZ:AV->Bool
 | .lit (.slice none 0 0)=>true
 |_=>false
theorem j1l{e f:TypeId}{i:Nat}(hs:isSl (t.get i)=true)(hT:NO T e=true)(hN:yS P (binOp .eql e (.slice none 0 0) (.slice none 0 0))=some (.ok (.bool true))):
 Js P T ⟨d,.binOp .eql e (.tmp i) (.const (.slice none 0 0)) f,ty,ps,af,g⟩ t h=some (.val (.lit (.bool (IZ (t.get i)))),h):=by
 obtain⟨el,hu⟩:=EV hT
 rw[RB]
 obtain⟨n,⟨hv,_⟩|⟨b,off,cap,hv⟩⟩:=Fz.of hs
 ·unfold XK;rw[kX,hv,GG];simp only[hN];rfl
 ·have:=ON (P:=P) (T:=T) (t:=t) (h:=h) (d:=d) (ty:=ty) (ps:=ps) (af:=af) (g:=g) (e:=e) (f:=f) (i:=i);rw[hu,hv]at this;unfold Dc at this;rw[this,hv];rfl
theorem j1o{e f:TypeId}{i:Nat}(hs:isSl (t.get i)=true)(hT:NO T e=true)(hN:yS P (binOp .neq e (.slice none 0 0) (.slice none 0 0))=some (.ok (.bool false))):
 Js P T ⟨d,.binOp .neq e (.tmp i) (.const (.slice none 0 0)) f,ty,ps,af,g⟩ t h=some (.val (.lit (.bool (!IZ (t.get i)))),h):=by
 obtain⟨el,hu⟩:=EV hT
 rw[RB]
 obtain⟨n,⟨hv,_⟩|⟨b,off,cap,hv⟩⟩:=Fz.of hs
 ·unfold XK;rw[kX,hv,GG];simp only[hN];rfl
 ·have:=OO (P:=P) (T:=T) (t:=t) (h:=h) (d:=d) (ty:=ty) (ps:=ps) (af:=af) (g:=g) (e:=e) (f:=f) (i:=i);rw[hu,hv]at this;unfold Dc at this;rw[this,hv];rfl
theorem j2s:DN []= .tup []:=rfl
theorem j2t{a:AV}:DN [a]=a:=rfl
theorem j2u{a b:AV}:DN [a,b]= .tup [a,b]:=rfl
theorem j2v{a b c:AV}:DN [a,b,c]= .tup [a,b,c]:=rfl
theorem j7v(n:Nat):((0:Int)<=(n:Int))=True:=by simp
theorem fL{t:TypeId}(hu:und (zH P N) t=some dd)(hne:dd≠ .invalid):P.underlying t=some dd:=by
 have:=Re hu;cases hq:P.underlying t with
 |none=>rw[hq]at this;exact absurd this.symm hne
 |some x=>rw[hq]at this;exact congrArg some this
def dL(h:AH)(a b:Bool)(r:AR):BinOp->Option TypeDesc->AR
 | .eql,some .bool=>some (.val (.lit (.bool (a==b))),h)
 | .neq,some .bool=>some (.val (.lit (.bool (!(a==b)))),h)
 |_,_=>r
theorem gY{a b:Bool}{r:AR}:dL h a b r .eql (some .bool)=some (.val (.lit (.bool (a==b))),h):=rfl
theorem gZ{a b:Bool}{r:AR}:dL h a b r .neq (some .bool)=some (.val (.lit (.bool (!(a==b)))),h):=rfl
theorem j2K{e:TypeId}{a b:Bool}(hP:P.underlying e=some .bool):yS P (binOp .eql e (.bool a) (.bool b))=some (.ok (.bool (a==b))):=by show yS P (((match P.underlying e with|some d=>pure d|none=>stuck "no such type") >>= _) >>= _)=_;rw[hP];rfl
theorem j2L{e:TypeId}{a b:Bool}(hP:P.underlying e=some .bool):yS P (binOp .neq e (.bool a) (.bool b))=some (.ok (.bool (!(a==b)))):=by show yS P (((match P.underlying e with|some d=>pure d|none=>stuck "no such type") >>= _) >>= _)=_;rw[hP];rfl
theorem j3Y{op:BinOp}{e f:TypeId}{i:Nat}{y:Operand}:XK P (zH P N) ⟨d,.binOp op e (.tmp i) y f,ty,ps,af,g⟩ t h op e (.tmp i) y=(match t.get i,xJ t y with
 | .lit (.int k a),some (.lit (.int k' b))=>BM h (yS P (binOp op e (.int k a) (.int k' b)))
 | .lit (.bool a),some (.lit (.bool b))=>dL h a b (Dc P (zH P N) ⟨d,.binOp op e (.tmp i) y f,ty,ps,af,g⟩ t h op e (.tmp i) y) op (und (zH P N) e)
 | .lit (.string a),some (.lit (.string b))=>BM h (yS P (binOp op e (.string a) (.string b)))
 |_,_=>Dc P (zH P N) ⟨d,.binOp op e (.tmp i) y f,ty,ps,af,g⟩ t h op e (.tmp i) y):=by
 split
 ·rename_i k a k' b h1 h2;exact RN (by rw[kX,h1]) h2
 ·rename_i a b h1 h2;unfold dL;split
  ·rename_i hu;unfold XK;rw[kX,h1,h2];simp only[j2K (fL hu (by simp))];rfl
  ·rename_i hu;unfold XK;rw[kX,h1,h2];simp only[j2L (fL hu (by simp))];rfl
  ·rfl
 ·rename_i a b h1 h2;unfold XK;rw[kX,h1,h2]
 ·rfl
theorem rM{op:BinOp}{e f:TypeId}{i j:Nat}:Js P T ⟨d,.binOp op e (.tmp i) (.tmp j) f,ty,ps,af,g⟩ t h=XK P T ⟨d,.binOp op e (.tmp i) (.tmp j) f,ty,ps,af,g⟩ t h op e (.tmp i) (.tmp j):=rfl
theorem rK{op:BinOp}{e f:TypeId}{i:Nat}{k:IntKind}{n:Int}:Js P T ⟨d,.binOp op e (.tmp i) (.const (.int k n)) f,ty,ps,af,g⟩ t h=XK P T ⟨d,.binOp op e (.tmp i) (.const (.int k n)) f,ty,ps,af,g⟩ t h op e (.tmp i) (.const (.int k n)):=rfl
theorem rL{op:BinOp}{e f:TypeId}{i:Nat}{n:ByteArray}:Js P T ⟨d,.binOp op e (.tmp i) (.const (.string n)) f,ty,ps,af,g⟩ t h=XK P T ⟨d,.binOp op e (.tmp i) (.const (.string n)) f,ty,ps,af,g⟩ t h op e (.tmp i) (.const (.string n)):=rfl
theorem rJ{op:BinOp}{e f:TypeId}{j:Nat}{k:IntKind}{n:Int}:Js P T ⟨d,.binOp op e (.const (.int k n)) (.tmp j) f,ty,ps,af,g⟩ t h=(match t.get j with
 | .lit (.int k' b)=>BM h (yS P (binOp op e (.int k n) (.int k' b)))
 |_=>XK P T ⟨d,.binOp op e (.const (.int k n)) (.tmp j) f,ty,ps,af,g⟩ t h op e (.const (.int k n)) (.tmp j)):=by
 rw[RB]
 split
 ·rename_i k' b hb;exact RN rfl (by rw[kX,hb])
 ·rfl
theorem j5o{b:Bool}:yS P (Op.unary .not (.bool b))=some (.ok (.bool !b)):=rfl
theorem j5n{k:IntKind}{a:Int}:yS P (Op.unary .neg (.int k a))=some (.ok (.int k (k.wrap (0-a)))):=rfl
theorem j6i{o:Oper}{a b c:Value}(hx:xJ t x=some (.lit a))(hy:xJ t y=some (.lit b))(hops:o.op.operands= #[x,y])(hn:Zs o.op=true)
 (he:yS P (execOp (qI t) o)=some (.ok (.value c))) (hc:Ba c=some (.lit c)):yU P o t=some (.val (.lit c)):=by
 unfold yU
 rw[if_pos (by rw[hops,hn];simp[JK,hx,hy,ZT]),he]
 simp[Na,hc]
theorem j5V{x y:Operand}{t1 t2:Nat}:Js P T ⟨d,.call ⟨.builtin .min,#[x,y],#[t1,t2]⟩,ty,ps,af,g⟩ t h=(match xJ t x,xJ t y with
 |some (.lit (.int .i64 a)),some (.lit (.int .i64 b))=>some (.val (.lit (.int .i64 (if b<a then b else a))),h)
 |_,_=>Qd P T ⟨d,.call ⟨.builtin .min,#[x,y],#[t1,t2]⟩,ty,ps,af,g⟩ t h ⟨.builtin .min,#[x,y],#[t1,t2]⟩):=by
 split
 ·rename_i a b hx hy;rw[OK];have ex:qI t x= .int .i64 a:=by simp[qI,hx,ZT]
  have ey:qI t y= .int .i64 b:=by simp[qI,hy,ZT]
  have hl:=j6i (P:=P) (o:=⟨d,.call ⟨.builtin .min,#[x,y],#[t1,t2]⟩,ty,ps,af,g⟩) (c:= .int .i64 (if b<a then b else a)) hx hy (by simp[Op.operands,Call.operands]) rfl (by simp only[execOp,resolve];simp[invoke,builtin,Builtin.min_,ex,ey];rfl) rfl;simp only[Qd,Zt,yR,hl]
 ·rfl
theorem j5U{x y:Operand}{t1 t2:Nat}:Js P T ⟨d,.call ⟨.builtin .max,#[x,y],#[t1,t2]⟩,ty,ps,af,g⟩ t h=(match xJ t x,xJ t y with
 |some (.lit (.int .i64 a)),some (.lit (.int .i64 b))=>some (.val (.lit (.int .i64 (if a<b then b else a))),h)
 |_,_=>Qd P T ⟨d,.call ⟨.builtin .max,#[x,y],#[t1,t2]⟩,ty,ps,af,g⟩ t h ⟨.builtin .max,#[x,y],#[t1,t2]⟩):=by
 split
 ·rename_i a b hx hy;rw[OK];have ex:qI t x= .int .i64 a:=by simp[qI,hx,ZT]
  have ey:qI t y= .int .i64 b:=by simp[qI,hy,ZT]
  have hl:=j6i (P:=P) (o:=⟨d,.call ⟨.builtin .max,#[x,y],#[t1,t2]⟩,ty,ps,af,g⟩) (c:= .int .i64 (if a<b then b else a)) hx hy (by simp[Op.operands,Call.operands]) rfl (by simp only[execOp,resolve];simp[invoke,builtin,Builtin.max_,ex,ey];rfl) rfl;simp only[Qd,Zt,yR,hl]
 ·rfl
theorem j1k{f:Operand}{xs:Array Operand}{ts:Array TypeId}:Js P T ⟨d,.call ⟨.value f,xs,ts⟩,ty,ps,af,g⟩ t h=(match xJ t f,XS t xs.toList with
 |some f,some args=>(UT P f args).map (·,h)
 |_,_=>none):=rfl
theorem rH{x y:Operand}{t1 t2:TypeId}:Js P T ⟨d,.call ⟨.builtin .append,#[x,y],#[t1,t2]⟩,ty,ps,af,g⟩ t h=(match xJ t x,xJ t y with
 |some s,some x=>(vZ T h t1 t2 s x).map fun r=>(.val r.1,r.2)
 |_,_=>Qd P T ⟨d,.call ⟨.builtin .append,#[x,y],#[t1,t2]⟩,ty,ps,af,g⟩ t h ⟨.builtin .append,#[x,y],#[t1,t2]⟩):=by
 split
 ·rename_i s x hs hx;rw[OK];simp only[Qd,Zt,XS,hs,hx]
 ·rfl
theorem qM{E:FE}{o:Oper}{l:List AI}{K:KK}{t1 t2:TypeId}{s x:AV}{Q:AV->AH->Prop}(hq:∃s' h',vZ T h t1 t2 s x=some (s',h')/\Q s' h')(hk:∀s' h',Q s' h'->WB P T S E (vC t o.dst s') l h' K):
 j3U P T S E t o l K ((vZ T h t1 t2 s x).map fun r=>(.val r.1,r.2)):=by
 obtain⟨s',h',ha,hQ⟩:=hq
 rw[ha]
 exact hk s' h' hQ
theorem Cf{E:FE}{ops:Array Oper}{M:MO ops}{i:Nat}{o:Oper}{l:List Nat}{rs:List (Nat×RD×AV)}{k:List AI}{K:KK}{t1 t2:TypeId}{s x:AV}{Q:AV->AH->Prop}(hq:∃s' h',vZ T h t1 t2 s x=some (s',h')/\Q s' h')(hk:∀s' h',Q s' h'->MH P T S E (vC t o.dst s') M l rs k h' K):
 ML P T S E t M i o l rs k K .acts ((vZ T h t1 t2 s x).map fun r=>(.val r.1,r.2)):=by
 obtain⟨s',h',ha,hQ⟩:=hq
 rw[ha]
 exact hk s' h' hQ
theorem Rc{α:Type}(d:α):∀(f:Nat) (t:Tri α) (k:Nat) (x y:α),Tri.put d f (Tri.put d f t k x) k y=Tri.put d f t k y
 |0,_,_,_,_=>rfl
 |f+1,t,k,x,y=>by
  simp only[Tri.put];cases Nat.ble k 1 with
  |true=>simp only[cond_true,Tri.lt,Tri.rt]
  |false=>
   cases Nat.beq (k%2) 0 with
   |true=>simp only[cond_true,cond_false,Tri.lt,Tri.rt,Tri.top,Rc d f]
   |false=>simp only[cond_false,Tri.lt,Tri.rt,Tri.top,Rc d f]
theorem LV{h:AH}{x y:AB}:(h.push x).put h.n y=h.push y:=by unfold AH.put AH.push nW TX;simp only;rw[show Nat.blt h.n (h.n+1)=true from Nat.blt_eq.mpr (Nat.lt_succ_self _),cond_true,Rc]
section
variable {E:FE} {ops:Array Oper} {M:MO ops} {i:Nat} {l:List Nat} {rs:List (Nat×RD×AV)} {k:List AI} {K:KK} {o:Oper} {v:AV} {h1:AH} {f:FuncId} {a:List AV}
theorem j1d:ML P T S E t M i o l rs k K .acts (some (.val v,h1))=MH P T S E (vC t o.dst v) M l rs k h1 K:=rfl
theorem j1c:ML P T S E t M i o l rs k K .acts (some (.enter f a,h1))=WC P T S f a h1 fun v h2=>MH P T S E (vC t o.dst v) M l rs k h2 K:=rfl
theorem j3X:ML P T S E t M i o l rs k K .still (some (.val v,h1))=MH P T S E (vC t o.dst v) M l rs k h1 K:=rfl
theorem j3V:ML P T S E t M i o l rs k K .alloc (some (.val v,h1))=MH P T S E (vC t o.dst v) M l rs k h1 K:=rfl
theorem j3W:ML P T S E t M i o l rs k K .reads (some (.val v,h1))=(match Gi o t with
 |some rd=>MH P T S E (vC t o.dst v) M l ((i,rd,v)::rs) k h1 K
 |none=>(yU P o t).isSome=true/\MH P T S E (vC t o.dst v) M l rs k h1 K):=rfl
end
theorem j1g{E:FE}{ops:Array Oper}{M:MO ops}{i:Nat}{l:List Nat}{rs:List (Nat×RD×AV)}{k:List AI}{K:KK}{o:Oper}:Ik P T S E t M i l rs k h K o (some true)=ML P T S E t M i o l rs k K (vB T o) (Js P T o t h):=rfl
theorem j1f{E:FE}{ops:Array Oper}{M:MO ops}{i:Nat}{l:List Nat}{rs:List (Nat×RD×AV)}{k:List AI}{K:KK}{o:Oper}:Ik P T S E t M i l rs k h K o (some false)=MH P T S E (vC t o.dst kV) M l rs k h K:=rfl
theorem j0w{n M i k:Nat}:waits n M i k=decide ((M >>> (n * i+k))%2=1):=by
 unfold waits;by_cases h:(M >>> (n * i+k))%2=1
 ·rw[h];rfl
 ·rw[decide_eq_false h];exact Bool.eq_false_iff.mpr fun hh=>h (jY hh)
theorem iH{n m i:Nat}:FJ n m i []=[]:=rfl
theorem WR{n m i k:Nat}{r:RD}{v:AV}{rs:List (Nat×RD×AV)}:FJ n m i ((k,r,v)::rs)=bif waits n m i k then FJ n m i rs else(k,r,v)::FJ n m i rs:=by unfold FJ;rw[List.filter_cons];cases waits n m i k<;>rfl
theorem Xy{h:AH}{b:Nat}{l:List AV}{e':TypeId}(hb:h.at b=some (.cells l e'))(e:TypeId)(off:Nat):Jr T h e b off=YU T e l off:=UD hb
def CI(T:TT)(t:TypeId):Option (List (Nat×Nat)):=match und T t with
 |some (.struct fs)=>Ff T fs.toList
 |_=>none
def sD(h:AH):Option AV->Option (List (Nat×Nat))->Option (List (Nat×AV))->AR
 |some (.agg z),some pl,some ps=>val h ((Kw (fun i=>pl[i]?) z ps).map .agg)
 |_,_,_=>none
theorem j64{e:TypeId}{p:Array (Nat×Operand)}(hp:(CI T e).isSome=true):Js P T ⟨d,.build e p,ty,ps,af,g⟩ t h=sD h (Jm T e) (CI T e) (Jk t p.toList):=by
 obtain⟨pl,hp⟩:=Option.isSome_iff_exists.1 hp;rw[hp];rw[dC];unfold Gw sD;unfold CI at hp;split at hp
 ·rename_i fs hu;cases Jk t p.toList with
  |none=>cases Jm T e with
   |none=>rfl
   |some z=>cases z<;>rfl
  |some l=>
   simp only
   unfold OS
   rw[hu]
   cases Jm T e with
   |none=>rfl
   |some z=>cases z<;>first|rfl|(simp only[hp])
 ·cases hp
def RJ(T:TT)(t:TypeId):Option Nat:=match und T t with
 |some (.array _ e)=>vQ T e
 |_=>none
theorem j4g{e:TypeId}{p:Array (Nat×Operand)}(hp:(RJ T e).isSome=true):Js P T ⟨d,.build e p,ty,ps,af,g⟩ t h=(match Jm T e,Jk t p.toList with
 |some (.agg z),some l=>val h ((Kw (fun i=>some (i * (RJ T e).getD 0,(RJ T e).getD 0)) z l).map .agg)
 |_,_=>none):=by
 obtain⟨n,hp⟩:=Option.isSome_iff_exists.1 hp
 rw[hp]
 simp only[Jn]
 rw[dC]
 unfold Gw
 unfold RJ at hp
 split at hp
 ·rename_i m el hu;cases Jk t p.toList with
  |none=>cases Jm T e with
   |none=>rfl
   |some z=>cases z<;>rfl
  |some l=>
   simp only
   unfold OS
   rw[hu]
   cases Jm T e with
   |none=>rfl
   |some z=>cases z<;>first|rfl|(simp only[hp])
 ·cases hp
theorem tN:hold T h []=true:=rfl
theorem iV{i:Nat}{r:RD}{v:AV}{rs:List (Nat×RD×AV)}:hold T h ((i,r,v)::rs)=((match oS T h r with|some u=>AV.same 8 u v|none=>false)&&hold T h rs):=rfl
theorem DW{n:Nat}{k:IntKind}{a:Int}:AV.same n (.lit (.int k a)) (.lit (.int k a))=true:=by cases n<;>cases k<;>simp[AV.same,BR]
theorem Ol{n:Nat}{a:Bool}:AV.same n (.lit (.bool a)) (.lit (.bool a))=true:=by cases n<;>simp[AV.same,BR]
theorem Mm{n:Nat}{a:ByteArray}:AV.same n (.lit (.string a)) (.lit (.string a))=true:=by cases n<;>simp[AV.same,BR]
theorem yK{n:Nat}{v:AV}(hv:isSl v=true):AV.same n v v=true:=by
 obtain⟨m,⟨rfl,_⟩|⟨b,off,cap,rfl⟩⟩:=Fz.of hv
 ·cases n<;>simp[AV.same,BR]
 ·cases n<;>cases cap<;>simp[AV.same,dM]
theorem j09{n:Nat}{l m:List AV}:AV.same (n+1) (.agg l) (.agg m)=(l.length==m.length&&(l.zip m).all fun(x,y)=>AV.same n x y):=by simp[AV.same]
theorem j0a{n b i:Nat}:AV.same n (.ptr b i) (.ptr b i)=true:=by cases n<;>simp[AV.same]
theorem Bt{E:FE}{k:List AI}{K:KK}{a:Code}(Bn:TM->AH->Prop)(ha:∀k' K',(∀t' h',Bn t' h'->WB P T S E t' k' h' K')->WB P T S E t (.code a::k') h K')(hk:∀t' h',Bn t' h'->WB P T S E t' k h' K):WB P T S E t (.code a::k) h K:=ha k K hk
theorem kO{E:FE}{k:List AI}{K:KK}(n:Nat)(Bn:Nat->TM->AH->Prop)
 (step:∀i t h,i<n->((i:Int)<(n:Int))=True->Bn i t h->(∀t' h',Bn (i+1) t' h'->WB P T S E t' (.lp c::k) h' K)->WB P T S E t (.code c:: .lp c::k) h K)
 (leave:∀t h,((n:Int)<(n:Int))=False->Bn n t h->WB P T S E t (.code c:: .lp c::k) h K):∀t h,Bn 0 t h->WB P T S E t (.lp c::k) h K:=by
 intro t h h0
 refine ZP (fun(i:Nat) t h=>i<=n/\Bn i t h) (fun i=>n-i) ?_ 0 t h ⟨vT _,h0⟩
 rintro i t h ⟨hi,hI⟩ ih
 by_cases hlt:i<n
 ·exact step i t h hlt (by simp;omega) hI fun t' h' hI'=>ih (i+1) t' h' ⟨hlt,hI'⟩ (by omega)
 ·obtain rfl:i=n:=by omega
  exact leave t h (by simp) hI
end
end
section
set_option maxRecDepth 100000 in
theorem j7b:(fun(f:Nat->Option Bool) (t u:Option Bool)=>f 1=u/\f 2=u/\f 3=u/\f 4=u/\f 5=u/\f 6=u/\f 7=t/\f 8=t/\f 9=u/\f 10=u/\f 11=u/\f 12=u/\f 13=t/\f 14=t/\f 15=u/\f 16=u/\f 17=u/\f 18=t/\f 19=t/\f 20=u/\f 21=u/\f 22=t/\f 23=t/\f 24=t/\f 25=t/\f 26=u/\f 27=u/\f 28=u/\f 30=u/\f 31=u/\f 33=u/\f 34=u/\f 35=t/\f 36=t/\f 37=u/\f 38=t/\f 39=t/\f 40=t/\f 41=t/\f 42=u/\f 43=u/\f 44=u/\f 45=t/\f 46=t/\f 47=u/\f 48=u/\f 49=u/\f 50=t/\f 51=t/\f 52=t/\f 53=t/\f 54=t/\f 55=t/\f 56=u/\f 57=t/\f 58=t/\f 59=t/\f 60=t/\f 61=u/\f 62=u/\f 63=u/\f 64=u/\f 65=t/\f 66=t/\f 67=t/\f 68=t/\f 69=t/\f 70=t/\f 71=u/\f 72=u/\f 73=u/\f 74=u/\f 75=t/\f 76=t/\f 77=t/\f 78=t/\f 79=t/\f 80=u/\f 81=u/\f 82=t/\f 83=t/\f 84=u/\f 86=u/\f 87=u/\f 88=u/\f 89=u/\f 90=t/\f 92=u/\f 93=u/\f 95=u/\f 97=u/\f 98=u/\f 99=u/\f 100=u/\f 102=u/\f 103=u/\f 104=u/\f 105=u/\f 106=u/\f 107=t/\f 108=t/\f 110=u/\f 111=u/\f 112=u/\f 113=t/\f 114=t/\f 115=t/\f 116=t/\f 118=u/\f 119=u/\f 120=u/\f 121=t/\f 122=t/\f 123=t/\f 124=t/\f 125=u/\f 127=u/\f 128=u/\f 129=u/\f 130=u/\f 131=u/\f 132=u/\f 133=u/\f 134=u/\f 135=t/\f 136=t/\f 137=u/\f 138=u/\f 139=u/\f 140=u/\f 141=u/\f 142=u/\f 143=u/\f 144=u/\f 145=u/\f 147=u/\f 149=u/\f 150=u/\f 151=u/\f 153=u/\f 154=u/\f 155=u/\f 156=u/\f 157=u/\f 158=u/\f 159=u/\f 160=u/\f 161=u/\f 162=u/\f 163=u/\f 164=u/\f 165=u/\f 166=u/\f 167=u/\f 169=u/\f 170=u/\f 171=u/\f 172=u/\f 173=t/\f 174=t/\f 175=u/\f 176=u/\f 177=u/\f 178=u/\f 179=u/\f 180=u/\f 181=u/\f 182=u/\f 183=t/\f 184=t/\f 185=u/\f 186=u/\f 187=u/\f 188=u/\f 189=u/\f 190=u/\f 191=u/\f 192=u/\f 193=u/\f 195=u/\f 196=u/\f 197=u/\f 198=u/\f 199=u/\f 200=u/\f 201=u/\f 202=u/\f 203=u/\f 204=u/\f 205=t/\f 206=t/\f 207=u/\f 208=u/\f 209=u/\f 210=u/\f 211=t/\f 212=t/\f 213=u/\f 214=u/\f 216=u/\f 217=u/\f 218=u/\f 219=u/\f 220=u/\f 221=t/\f 222=t/\f 223=t/\f 224=t/\f 225=t/\f 226=t/\f 227=t/\f 228=t/\f 229=t/\f 230=t/\f 231=t/\f 232=t/\f 233=t/\f 234=t/\f 235=u/\f 236=u/\f 237=t/\f 238=t/\f 239=u/\f 240=u/\f 241=u/\f 242=u/\f 243=t/\f 244=t/\f 245=u/\f 246=u/\f 247=u/\f 248=u/\f 249=u/\f 250=t/\f 251=t/\f 252=u/\f 254=u/\f 255=u/\f 256=u/\f 257=u/\f 258=u/\f 259=u/\f 260=u/\f 261=u/\f 262=u/\f 263=u/\f 265=u/\f 266=u/\f 267=u/\f 268=u/\f 269=u/\f 270=u/\f 271=u/\f 272=u/\f 273=u/\f 274=u/\f 275=u/\f 276=u/\f 277=u/\f 278=u/\f 279=u/\f 280=u/\f 282=u/\f 283=u/\f 284=t/\f 285=t/\f 286=t/\f 287=t/\f 288=t/\f 289=u/\f 290=u/\f 291=u/\f 292=u/\f 293=u/\f 294=u/\f 295=t/\f 296=t/\f 297=u/\f 298=u) (XO (zH Tryz.prog kR)) (some true) (some false):=by(repeat' apply And.intro)<;>kernel_rfl
set_option maxRecDepth 100000 in
theorem j7h:(fun(f:Nat->Option Nat) (a:Option Nat) (c:Nat->Option Nat)=>f 1=a/\f 2=a/\f 3=a/\f 4=a/\f 5=a/\f 6=a/\f 7=c 4/\f 8=c 4/\f 9=a/\f 10=a/\f 11=a/\f 12=a/\f 13=c 2/\f 14=c 2/\f 15=a/\f 16=a/\f 17=a/\f 18=a/\f 19=a/\f 20=a/\f 21=a/\f 22=c 2/\f 23=c 2/\f 24=c 5/\f 25=c 5/\f 26=a/\f 27=a/\f 28=a/\f 30=a/\f 31=a/\f 33=a/\f 34=a/\f 35=c 2/\f 36=c 2/\f 37=a/\f 38=c 2/\f 39=c 2/\f 40=c 5/\f 41=c 5/\f 42=a/\f 43=a/\f 44=a/\f 45=c 6/\f 46=c 6/\f 47=a/\f 48=a/\f 49=a/\f 50=c 6/\f 51=c 6/\f 52=c 7/\f 53=c 7/\f 54=c 4/\f 55=c 4/\f 56=a/\f 57=c 46/\f 58=c 46/\f 59=c 55/\f 60=c 55/\f 61=a/\f 62=a/\f 63=a/\f 64=a/\f 65=c 5/\f 66=c 5/\f 67=c 6/\f 68=c 6/\f 69=c 28/\f 70=c 28/\f 71=a/\f 72=a/\f 73=a/\f 74=a/\f 75=c 0/\f 76=c 0/\f 77=c 0/\f 78=a/\f 79=a/\f 80=a/\f 81=a/\f 82=c 13/\f 83=c 13/\f 84=a/\f 86=a/\f 87=a/\f 88=a/\f 89=a/\f 90=c 6/\f 92=a/\f 93=a/\f 95=a/\f 97=a/\f 98=a/\f 99=a/\f 100=a/\f 102=a/\f 103=a/\f 104=a/\f 105=a/\f 106=a/\f 107=c 4/\f 108=c 4/\f 110=a/\f 111=a/\f 112=a/\f 113=c 11/\f 114=c 11/\f 115=c 2/\f 116=c 2/\f 118=a/\f 119=a/\f 120=a/\f 121=c 4/\f 122=c 4/\f 123=c 11/\f 124=c 11/\f 125=a/\f 127=a/\f 128=a/\f 129=a/\f 130=a/\f 131=a/\f 132=a/\f 133=a/\f 134=a/\f 135=c 6/\f 136=c 6/\f 137=a/\f 138=a/\f 139=a/\f 140=a/\f 141=a/\f 142=a/\f 143=a/\f 144=a/\f 145=a/\f 147=a/\f 149=a/\f 150=a/\f 151=a/\f 153=a/\f 154=a/\f 155=a/\f 156=a/\f 157=a/\f 158=a/\f 159=a/\f 160=a/\f 161=a/\f 162=a/\f 163=a/\f 164=a/\f 165=a/\f 166=a/\f 167=a/\f 169=a/\f 170=a/\f 171=a/\f 172=a/\f 173=c 3/\f 174=c 3/\f 175=a/\f 176=a/\f 177=a/\f 178=a/\f 179=a/\f 180=a/\f 181=a/\f 182=a/\f 183=c 4/\f 184=c 4/\f 185=a/\f 186=a/\f 187=a/\f 188=a/\f 189=a/\f 190=a/\f 191=a/\f 192=a/\f 193=a/\f 195=a/\f 196=a/\f 197=a/\f 198=a/\f 199=a/\f 200=a/\f 201=a/\f 202=a/\f 203=a/\f 204=a/\f 205=c 5/\f 206=c 5/\f 207=a/\f 208=a/\f 209=a/\f 210=a/\f 211=c 3/\f 212=c 3/\f 213=a/\f 214=a/\f 216=a/\f 217=a/\f 218=a/\f 219=a/\f 220=a/\f 221=c 0/\f 222=a/\f 223=a/\f 224=c 2/\f 225=c 2/\f 226=c 2/\f 227=c 2/\f 228=c 3/\f 229=c 3/\f 230=c 256/\f 231=c 260/\f 232=c 260/\f 233=c 3/\f 234=c 3/\f 235=a/\f 236=a/\f 237=c 8/\f 238=c 8/\f 239=a/\f 240=a/\f 241=a/\f 242=a/\f 243=c 3/\f 244=c 9/\f 245=a/\f 246=a/\f 247=a/\f 248=a/\f 249=a/\f 250=c 3/\f 251=c 9/\f 252=a/\f 254=a/\f 255=a/\f 256=a/\f 257=a/\f 258=a/\f 259=a/\f 260=a/\f 261=a/\f 262=a/\f 263=a/\f 265=a/\f 266=a/\f 267=a/\f 268=a/\f 269=a/\f 270=a/\f 271=a/\f 272=a/\f 273=a/\f 274=a/\f 275=a/\f 276=a/\f 277=a/\f 278=a/\f 279=a/\f 280=a/\f 282=a/\f 283=a/\f 284=c 4/\f 285=c 4/\f 286=c 0/\f 287=c 0/\f 288=c 0/\f 289=a/\f 290=a/\f 291=a/\f 292=a/\f 293=a/\f 294=a/\f 295=c 11/\f 296=c 11/\f 297=a/\f 298=a) (vQ (zH Tryz.prog kR)) (some 1) some:=by(repeat' apply And.intro)<;>kernel_rfl
set_option maxRecDepth 100000 in
theorem j7c:(fun(f:Nat->Option Nat) (a:Option Nat) (c:Nat->Option Nat)=>f 1=c 8/\f 2=c 8/\f 3=c 8/\f 4=a/\f 5=a/\f 6=a/\f 7=c 24/\f 8=c 24/\f 9=c 16/\f 10=c 16/\f 11=c 16/\f 12=c 8/\f 13=c 24/\f 14=c 24/\f 15=c 8/\f 16=c 8/\f 17=c 8/\f 18=c 8/\f 19=c 8/\f 20=c 16/\f 21=c 4/\f 22=c 16/\f 23=c 16/\f 24=c 40/\f 25=c 40/\f 26=c 24/\f 27=c 8/\f 28=c 8/\f 30=c 8/\f 31=c 8/\f 33=c 8/\f 34=c 8/\f 35=c 16/\f 36=c 16/\f 37=c 24/\f 38=c 16/\f 39=c 16/\f 40=c 64/\f 41=c 64/\f 42=c 24/\f 43=c 24/\f 44=c 24/\f 45=c 48/\f 46=c 48/\f 47=c 24/\f 48=c 24/\f 49=c 24/\f 50=c 96/\f 51=c 96/\f 52=c 64/\f 53=c 64/\f 54=c 56/\f 55=c 56/\f 56=c 24/\f 57=c 552/\f 58=c 552/\f 59=c 648/\f 60=c 648/\f 61=c 8/\f 62=c 24/\f 63=c 24/\f 64=c 24/\f 65=c 88/\f 66=c 88/\f 67=c 88/\f 68=c 88/\f 69=c 328/\f 70=c 328/\f 71=c 8/\f 72=c 8/\f 73=c 8/\f 74=c 8/\f 75=c 0/\f 76=c 0/\f 77=c 0/\f 78=c 8/\f 79=c 8/\f 80=c 8/\f 81=c 8/\f 82=c 152/\f 83=c 152/\f 84=c 24/\f 86=c 8/\f 87=c 8/\f 88=c 8/\f 89=c 8/\f 90=c 88/\f 92=c 8/\f 93=c 8/\f 95=c 8/\f 97=c 8/\f 98=c 8/\f 99=c 8/\f 100=c 8/\f 102=c 8/\f 103=c 8/\f 104=c 8/\f 105=c 8/\f 106=c 8/\f 107=c 32/\f 108=c 32/\f 110=c 8/\f 111=c 8/\f 112=c 8/\f 113=c 112/\f 114=c 112/\f 115=c 32/\f 116=c 32/\f 118=c 8/\f 119=c 8/\f 120=c 24/\f 121=c 64/\f 122=c 64/\f 123=c 120/\f 124=c 120/\f 125=c 8/\f 127=c 8/\f 128=c 8/\f 129=c 8/\f 130=c 8/\f 131=c 24/\f 132=c 8/\f 133=c 8/\f 134=c 8/\f 135=c 40/\f 136=c 40/\f 137=c 8/\f 138=c 8/\f 139=c 8/\f 140=c 8/\f 141=c 8/\f 142=c 8/\f 143=c 8/\f 144=c 8/\f 145=c 8/\f 147=c 8/\f 149=c 8/\f 150=c 8/\f 151=c 8/\f 153=c 8/\f 154=c 8/\f 155=c 8/\f 156=c 8/\f 157=c 4/\f 158=c 8/\f 159=c 8/\f 160=c 8/\f 161=c 8/\f 162=c 8/\f 163=c 8/\f 164=c 8/\f 165=c 8/\f 166=c 8/\f 167=c 8/\f 169=c 8/\f 170=c 8/\f 171=c 8/\f 172=c 8/\f 173=c 40/\f 174=c 40/\f 175=c 8/\f 176=c 8/\f 177=c 8/\f 178=c 8/\f 179=c 8/\f 180=c 8/\f 181=c 8/\f 182=c 8/\f 183=c 40/\f 184=c 40/\f 185=c 8/\f 186=c 8/\f 187=c 8/\f 188=c 8/\f 189=c 8/\f 190=c 8/\f 191=c 8/\f 192=c 8/\f 193=c 8/\f 195=c 8/\f 196=c 8/\f 197=c 8/\f 198=c 8/\f 199=c 8/\f 200=c 8/\f 201=c 8/\f 202=c 8/\f 203=c 8/\f 204=c 8/\f 205=c 40/\f 206=c 40/\f 207=c 8/\f 208=c 8/\f 209=c 8/\f 210=c 8/\f 211=c 12/\f 212=c 12/\f 213=c 8/\f 214=c 8/\f 216=c 8/\f 217=c 8/\f 218=c 8/\f 219=c 8/\f 220=c 8/\f 221=c 0/\f 222=c 4/\f 223=c 4/\f 224=c 8/\f 225=c 8/\f 226=c 8/\f 227=c 8/\f 228=c 12/\f 229=c 12/\f 230=c 1024/\f 231=c 1048/\f 232=c 1048/\f 233=c 12/\f 234=c 12/\f 235=c 8/\f 236=c 8/\f 237=c 144/\f 238=c 144/\f 239=c 8/\f 240=c 8/\f 241=c 8/\f 242=c 8/\f 243=c 24/\f 244=c 72/\f 245=c 8/\f 246=c 8/\f 247=c 8/\f 248=c 8/\f 249=c 8/\f 250=c 24/\f 251=c 72/\f 252=c 8/\f 254=c 8/\f 255=c 8/\f 256=c 8/\f 257=c 8/\f 258=c 8/\f 259=c 8/\f 260=c 8/\f 261=c 8/\f 262=c 8/\f 263=c 8/\f 265=c 8/\f 266=c 8/\f 267=c 8/\f 268=c 8/\f 269=c 8/\f 270=c 8/\f 271=c 8/\f 272=c 8/\f 273=c 8/\f 274=c 8/\f 275=c 8/\f 276=c 8/\f 277=c 8/\f 278=c 8/\f 279=c 8/\f 280=c 8/\f 282=c 8/\f 283=c 8/\f 284=c 40/\f 285=c 40/\f 286=c 0/\f 287=c 0/\f 288=c 0/\f 289=a/\f 290=a/\f 291=c 8/\f 292=c 8/\f 293=c 4/\f 294=c 4/\f 295=c 48/\f 296=c 48/\f 297=c 8/\f 298=c 8) (VK (zH Tryz.prog kR)) (some 1) some:=by(repeat' apply And.intro)<;>kernel_rfl
set_option maxRecDepth 100000 in
theorem j7j:(fun(f:Nat->Option AV) (L I P S B F:AV) (o:AV->Option AV)=>f 1=o F/\f 2=o I/\f 3=o I/\f 4=o B/\f 5=o (.lit (.int .u8 0))/\f 6=o (.lit (.int .u8 0))/\f 7=o (.agg [I,I,B,(.lit (.int .u8 0))])/\f 8=o (.agg [I,I,B,(.lit (.int .u8 0))])/\f 9=o S/\f 10=o S/\f 11=o S/\f 12=o (.lit (.int .u64 0))/\f 13=o (.agg [S,(.lit (.int .u64 0))])/\f 14=o (.agg [S,(.lit (.int .u64 0))])/\f 15=o P/\f 16=o P/\f 17=o P/\f 18=o (.agg [P])/\f 19=o (.agg [P])/\f 20=o (.lit .nilIface)/\f 21=o (.lit (.int .i32 0))/\f 22=o (.agg [I,I])/\f 23=o (.agg [I,I])/\f 24=o (.agg [I,I,I,I,I])/\f 25=o (.agg [I,I,I,I,I])/\f 26=o L/\f 27=o P/\f 28=o I/\f 30=o F/\f 31=o P/\f 33=o F/\f 34=o F/\f 35=o (.agg [I,I])/\f 36=o (.agg [I,I])/\f 37=o L/\f 38=o (.agg [I,I])/\f 39=o (.agg [I,I])/\f 40=o (.agg [I,S,L,I,I])/\f 41=o (.agg [I,S,L,I,I])/\f 42=o L/\f 43=o L/\f 44=o L/\f 45=o (.agg [I,I,I,I,I,I])/\f 46=o (.agg [I,I,I,I,I,I])/\f 47=o L/\f 48=o L/\f 49=o L/\f 50=o (.agg [I,I,I,L,L,L])/\f 51=o (.agg [I,I,I,L,L,L])/\f 52=o (.agg [I,I,B,I,S,I,I])/\f 53=o (.agg [I,I,B,I,S,I,I])/\f 54=o (.agg [S,I,I,L])/\f 55=o (.agg [S,I,I,L])/\f 56=o L/\f 57=o (.agg [I,I,I,I,I,I,I,I,I,I,I,I,L,L,L,I,I,I,I,I,I,I,I,I,L,L,L,I,I,B,I,S,I,I,S,I,I,L,I,S,L,I,I,L,L,I])/\f 58=o (.agg [I,I,I,I,I,I,I,I,I,I,I,I,L,L,L,I,I,I,I,I,I,I,I,I,L,L,L,I,I,B,I,S,I,I,S,I,I,L,I,S,L,I,I,L,L,I])/\f 59=o (.agg [I,I,I,I,I,S,L,I,I,I,I,I,I,I,I,I,I,I,I,I,I,L,L,L,I,I,I,I,I,I,I,I,I,L,L,L,I,I,B,I,S,I,I,S,I,I,L,I,S,L,I,I,L,L,I])/\f 60=o (.agg [I,I,I,I,I,S,L,I,I,I,I,I,I,I,I,I,I,I,I,I,I,L,L,L,I,I,I,I,I,I,I,I,I,L,L,L,I,I,B,I,S,I,I,S,I,I,L,I,S,L,I,I,L,L,I])/\f 61=o F/\f 62=o L/\f 63=o L/\f 64=o L/\f 65=o (.agg [I,L,L,L,I])/\f 66=o (.agg [I,L,L,L,I])/\f 67=o (.agg [I,S,I,I,L,L])/\f 68=o (.agg [I,S,I,I,L,L])/\f 69=o (.agg [I,I,I,I,I,I,L,L,L,I,I,B,B,I,I,S,L,I,I,I,I,I,I,S,I,I,L,L])/\f 70=o (.agg [I,I,I,I,I,I,L,L,L,I,I,B,B,I,I,S,L,I,I,I,I,I,I,S,I,I,L,L])/\f 71=o F/\f 72=o F/\f 73=o F/\f 74=o F/\f 75=o (.agg [])/\f 76=o (.agg [])/\f 77=o (.agg [])/\f 78=o (.agg [I])/\f 79=o (.agg [I])/\f 80=o P/\f 81=o P/\f 82=o (.agg [I,I,I,I,I,I,L,L,L,I,I,P,P])/\f 83=o (.agg [I,I,I,I,I,I,L,L,L,I,I,P,P])/\f 84=o L/\f 86=o F/\f 87=o F/\f 88=o F/\f 89=o F/\f 90=o (.agg [I,S,I,I,L,L])/\f 92=o F/\f 93=o F/\f 95=o F/\f 97=o F/\f 98=o F/\f 99=o F/\f 100=o F/\f 102=o F/\f 103=o F/\f 104=o F/\f 105=o F/\f 106=o F/\f 107=o (.agg [I,I,I,I])/\f 108=o (.agg [I,I,I,I])/\f 110=o F/\f 111=o F/\f 112=o F/\f 113=o (.agg [I,I,I,B,I,S,L,I,I,I,I])/\f 114=o (.agg [I,I,I,B,I,S,L,I,I,I,I])/\f 115=o (.agg [I,L])/\f 116=o (.agg [I,L])/\f 118=o F/\f 119=o F/\f 120=o L/\f 121=o (.agg [I,I,L,L])/\f 122=o (.agg [I,I,L,L])/\f 123=o (.agg [I,I,I,I,I,I,I,I,I,L,L])/\f 124=o (.agg [I,I,I,I,I,I,I,I,I,L,L])/\f 125=o F/\f 127=o F/\f 128=o F/\f 129=o F/\f 130=o F/\f 131=o L/\f 132=o F/\f 133=o F/\f 134=o F/\f 135=o (.agg [B,B,I,I,I,I])/\f 136=o (.agg [B,B,I,I,I,I])/\f 137=o F/\f 138=o F/\f 139=o F/\f 140=o F/\f 141=o F/\f 142=o F/\f 143=o F/\f 144=o F/\f 145=o F/\f 147=o F/\f 149=o F/\f 150=o F/\f 151=o F/\f 153=o F/\f 154=o F/\f 155=o F/\f 156=o F/\f 157=o (.lit (.int .u32 0))/\f 158=o F/\f 159=o F/\f 160=o P/\f 161=o F/\f 162=o P/\f 163=o F/\f 164=o F/\f 165=o F/\f 166=o F/\f 167=o P/\f 169=o F/\f 170=o F/\f 171=o F/\f 172=o F/\f 173=o (.agg [I,I,L])/\f 174=o (.agg [I,I,L])/\f 175=o F/\f 176=o F/\f 177=o F/\f 178=o F/\f 179=o F/\f 180=o F/\f 181=o F/\f 182=o F/\f 183=o (.agg [S,I,I,(.lit (.int .u32 0))])/\f 184=o (.agg [S,I,I,(.lit (.int .u32 0))])/\f 185=o F/\f 186=o F/\f 187=o F/\f 188=o F/\f 189=o F/\f 190=o F/\f 191=o F/\f 192=o F/\f 193=o F/\f 195=o F/\f 196=o F/\f 197=o F/\f 198=o F/\f 199=o P/\f 200=o F/\f 201=o F/\f 202=o F/\f 203=o F/\f 204=o F/\f 205=o (.agg [I,I,I,I,I])/\f 206=o (.agg [I,I,I,I,I])/\f 207=o F/\f 208=o F/\f 209=o F/\f 210=o (.lit (.int .u64 0))/\f 211=o (.agg [(.lit (.int .u32 0)),(.lit (.int .u32 0)),(.lit (.int .u32 0))])/\f 212=o (.agg [(.lit (.int .u32 0)),(.lit (.int .u32 0)),(.lit (.int .u32 0))])/\f 213=o F/\f 214=o F/\f 216=o F/\f 217=o F/\f 218=o F/\f 219=o (.lit (.map none))/\f 220=o F/\f 221=o (.agg [])/\f 222=o (.agg [(.lit (.int .u32 0))])/\f 223=o (.agg [(.lit (.int .u32 0))])/\f 224=o (.agg [(.lit (.int .i32 0)),(.lit (.int .u32 0))])/\f 225=o (.agg [(.lit (.int .i32 0)),(.lit (.int .u32 0))])/\f 226=o (.agg [(.lit (.int .i32 0)),(.lit (.int .u32 0))])/\f 227=o (.agg [(.lit (.int .i32 0)),(.lit (.int .u32 0))])/\f 228=o (.agg [(.lit (.int .u32 0)),(.lit (.int .i32 0)),(.lit (.int .u32 0))])/\f 229=o (.agg [(.lit (.int .u32 0)),(.lit (.int .i32 0)),(.lit (.int .u32 0))])/\f 233=o (.agg [(.lit (.int .u32 0)),(.lit (.int .u32 0)),(.lit (.int .u32 0))])/\f 234=o (.agg [(.lit (.int .u32 0)),(.lit (.int .u32 0)),(.lit (.int .u32 0))])/\f 235=o F/\f 236=o P/\f 237=o (.agg [I,L,L,L,I,(.lit (.int .u32 0)),L,L])/\f 238=o (.agg [I,L,L,L,I,(.lit (.int .u32 0)),L,L])/\f 239=o F/\f 240=o F/\f 241=o P/\f 242=o F/\f 243=o (.agg [(.lit (.int .u64 0)),(.lit (.int .u64 0)),(.lit (.int .u64 0))])/\f 244=o (.agg [(.lit (.int .u64 0)),(.lit (.int .u64 0)),(.lit (.int .u64 0)),(.lit (.int .u64 0)),(.lit (.int .u64 0)),(.lit (.int .u64 0)),(.lit (.int .u64 0)),(.lit (.int .u64 0)),(.lit (.int .u64 0))])/\f 245=o F/\f 246=o F/\f 247=o F/\f 248=o F/\f 249=o P/\f 250=o (.agg [I,I,I])/\f 251=o (.agg [I,I,I,I,I,I,I,I,I])/\f 252=o F/\f 254=o F/\f 255=o F/\f 256=o F/\f 257=o F/\f 258=o F/\f 259=o F/\f 260=o F/\f 261=o F/\f 262=o F/\f 263=o I/\f 265=o F/\f 266=o F/\f 267=o F/\f 268=o F/\f 269=o F/\f 270=o F/\f 271=o F/\f 272=o (.lit (.int .u64 0))/\f 273=o F/\f 274=o (.lit (.int .u64 0))/\f 275=o F/\f 276=o F/\f 277=o F/\f 278=o P/\f 279=o F/\f 280=o P/\f 282=o F/\f 283=o F/\f 284=o (.agg [P,P,P,S])/\f 285=o (.agg [P,P,P,S])/\f 286=o (.agg [])/\f 287=o (.agg [])/\f 288=o (.agg [])/\f 289=o (.lit (.int .u8 0))/\f 290=o (.lit (.int .u8 0))/\f 291=o F/\f 292=o P/\f 293=o (.lit (.int .i32 0))/\f 294=o (.lit (.int .i32 0))/\f 295=o (.agg [(.lit (.int .u64 0)),(.lit (.int .u64 0)),(.lit (.int .u32 0)),(.lit (.int .u8 0)),(.lit (.int .u8 0)),(.lit (.int .u8 0)),(.lit (.int .u8 0)),F,P,(.lit (.int .i32 0)),(.lit (.int .i32 0))])/\f 296=o (.agg [(.lit (.int .u64 0)),(.lit (.int .u64 0)),(.lit (.int .u32 0)),(.lit (.int .u8 0)),(.lit (.int .u8 0)),(.lit (.int .u8 0)),(.lit (.int .u8 0)),F,P,(.lit (.int .i32 0)),(.lit (.int .i32 0))])/\f 297=o F/\f 298=o P) (Jm (zH Tryz.prog kR)) (.lit (.slice none 0 0)) (.lit (.int .i64 0)) (.lit (.pointer none)) (.lit (.string ⟨#[]⟩)) (.lit (.bool false)) (.lit .nilFunc) some:=by(repeat' apply And.intro)<;>kernel_rfl
set_option maxRecDepth 100000 in
theorem j7i:(fun(f:Nat->Option TypeDesc) (i b t u:Option TypeDesc) (l p:Nat->Option TypeDesc)=>f 2=i/\f 3=i/\f 4=b/\f 5=u/\f 6=u/\f 9=t/\f 10=t/\f 11=t/\f 12=some (.int .u64)/\f 15=p 285/\f 16=p 288/\f 17=p 296/\f 21=some (.int .i32)/\f 26=l 60/\f 27=p 83/\f 28=i/\f 31=p 70/\f 37=l 5/\f 42=l 174/\f 43=l 116/\f 44=l 124/\f 47=l 53/\f 48=l 206/\f 49=l 184/\f 56=l 9/\f 62=l 136/\f 63=l 108/\f 64=l 122/\f 80=p 114/\f 81=p 90/\f 84=l 58/\f 120=l 3/\f 131=l 36/\f 157=some (.int .u32)/\f 160=p 79/\f 162=p 2/\f 167=p 136/\f 199=p 232/\f 210=some (.int .u64)/\f 219=some (.map 3 3)/\f 230=some (.array 256 157)/\f 233=some (.array 3 157)/\f 234=some (.array 3 157)/\f 236=p 238/\f 241=p 157/\f 243=some (.array 3 210)/\f 244=some (.array 3 243)/\f 249=p 234/\f 250=some (.array 3 3)/\f 251=some (.array 3 250)/\f 263=i/\f 272=some (.int .u64)/\f 274=some (.int .u64)/\f 278=p 3/\f 280=p 274/\f 286=some (.array 0 16)/\f 289=u/\f 290=u/\f 292=p 5/\f 293=some (.int .i32)/\f 294=some (.int .i32)) (und (zH Tryz.prog kR)) (some (.int .i64)) (some .bool) (some .string) (some (.int .u8)) (fun n=>some (.slice n)) (fun n=>some (.pointer n)):=by(repeat' apply And.intro)<;>kernel_rfl
set_option maxRecDepth 100000 in
theorem j7d:(fun(f:Nat->Nat->Option (Nat×Nat×Bool)) (u:Nat->Option (Nat×Nat×Bool)) (c:Nat->Nat->Bool->Option (Nat×Nat×Bool))=>f 7 0=u 0/\f 7 1=u 1/\f 7 2=u 2/\f 7 3=u 3/\f 8 0=u 0/\f 8 1=u 1/\f 8 2=u 2/\f 8 3=u 3/\f 13 0=u 0/\f 13 1=u 1/\f 14 0=u 0/\f 14 1=u 1/\f 18 0=u 0/\f 19 0=u 0/\f 22 0=u 0/\f 22 1=u 1/\f 23 0=u 0/\f 23 1=u 1/\f 24 0=c 0 2 true/\f 24 1=u 2/\f 24 2=u 3/\f 24 3=u 4/\f 25 0=c 0 2 true/\f 25 1=u 2/\f 25 2=u 3/\f 25 3=u 4/\f 35 0=u 0/\f 35 1=u 1/\f 36 0=u 0/\f 36 1=u 1/\f 38 0=u 0/\f 38 1=u 1/\f 39 0=u 0/\f 39 1=u 1/\f 40 0=u 0/\f 40 1=u 1/\f 40 2=u 2/\f 40 3=c 3 2 true/\f 41 0=u 0/\f 41 1=u 1/\f 41 2=u 2/\f 41 3=c 3 2 true/\f 45 0=u 0/\f 45 1=c 1 2 true/\f 45 2=c 3 2 true/\f 45 3=u 5/\f 46 0=u 0/\f 46 1=c 1 2 true/\f 46 2=c 3 2 true/\f 46 3=u 5/\f 50 0=u 0/\f 50 1=c 1 2 true/\f 50 2=u 3/\f 50 3=u 4/\f 50 4=u 5/\f 51 0=u 0/\f 51 1=c 1 2 true/\f 51 2=u 3/\f 51 3=u 4/\f 51 4=u 5/\f 52 0=c 0 2 true/\f 52 1=u 2/\f 52 2=u 3/\f 52 3=u 4/\f 52 4=u 5/\f 52 5=u 6/\f 53 0=c 0 2 true/\f 53 1=u 2/\f 53 2=u 3/\f 53 3=u 4/\f 53 4=u 5/\f 53 5=u 6/\f 54 0=u 0/\f 54 1=c 1 2 true/\f 54 2=u 3/\f 55 0=u 0/\f 55 1=c 1 2 true/\f 55 2=u 3/\f 57 0=u 0/\f 57 1=c 1 2 true/\f 57 2=c 3 2 true/\f 57 3=u 5/\f 57 4=u 6/\f 57 5=c 7 2 true/\f 57 6=u 9/\f 57 7=u 10/\f 57 8=u 11/\f 57 9=u 12/\f 57 10=u 13/\f 57 11=u 14/\f 57 12=c 15 6 true/\f 57 13=c 21 6 true/\f 57 14=c 27 7 true/\f 57 15=c 34 4 true/\f 57 16=c 38 5 true/\f 57 17=u 43/\f 57 18=u 44/\f 57 19=u 45/\f 58 0=u 0/\f 58 1=c 1 2 true/\f 58 2=c 3 2 true/\f 58 3=u 5/\f 58 4=u 6/\f 58 5=c 7 2 true/\f 58 6=u 9/\f 58 7=u 10/\f 58 8=u 11/\f 58 9=u 12/\f 58 10=u 13/\f 58 11=u 14/\f 58 12=c 15 6 true/\f 58 13=c 21 6 true/\f 58 14=c 27 7 true/\f 58 15=c 34 4 true/\f 58 16=c 38 5 true/\f 58 17=u 43/\f 58 18=u 44/\f 58 19=u 45/\f 59 0=u 0/\f 59 1=u 1/\f 59 2=c 2 2 true/\f 59 3=c 4 5 true/\f 59 4=c 9 46 true/\f 60 0=u 0/\f 60 1=u 1/\f 60 2=c 2 2 true/\f 60 3=c 4 5 true/\f 60 4=c 9 46 true/\f 65 0=u 0/\f 65 1=u 1/\f 65 2=u 2/\f 65 3=u 3/\f 65 4=u 4/\f 66 0=u 0/\f 66 1=u 1/\f 66 2=u 2/\f 66 3=u 3/\f 66 4=u 4/\f 67 0=u 0/\f 67 1=c 1 4 true/\f 67 2=u 5/\f 68 0=u 0/\f 68 1=c 1 4 true/\f 68 2=u 5/\f 69 0=c 0 2 true/\f 69 1=u 2/\f 69 2=u 3/\f 69 3=u 4/\f 69 4=c 5 5 true/\f 69 5=u 10/\f 69 6=u 11/\f 69 7=u 12/\f 69 8=u 13/\f 69 9=c 14 5 true/\f 69 10=c 19 2 true/\f 69 11=u 21/\f 69 12=c 22 6 true/\f 70 0=c 0 2 true/\f 70 1=u 2/\f 70 2=u 3/\f 70 3=u 4/\f 70 4=c 5 5 true/\f 70 5=u 10/\f 70 6=u 11/\f 70 7=u 12/\f 70 8=u 13/\f 70 9=c 14 5 true/\f 70 10=c 19 2 true/\f 70 11=u 21/\f 70 12=c 22 6 true/\f 78 0=c 0 0 true/\f 78 1=c 0 0 true/\f 78 2=u 0/\f 79 0=c 0 0 true/\f 79 1=c 0 0 true/\f 79 2=u 0/\f 82 0=c 0 2 true/\f 82 1=u 2/\f 82 2=u 3/\f 82 3=u 4/\f 82 4=c 5 5 true/\f 82 5=c 10 1 true/\f 82 6=u 11/\f 82 7=u 12/\f 83 0=c 0 2 true/\f 83 1=u 2/\f 83 2=u 3/\f 83 3=u 4/\f 83 4=c 5 5 true/\f 83 5=c 10 1 true/\f 83 6=u 11/\f 83 7=u 12/\f 90 0=u 0/\f 90 1=c 1 4 true/\f 90 2=u 5/\f 107 0=u 0/\f 107 1=u 1/\f 107 2=u 2/\f 107 3=u 3/\f 108 0=u 0/\f 108 1=u 1/\f 108 2=u 2/\f 108 3=u 3/\f 113 0=u 0/\f 113 1=c 1 2 true/\f 113 2=u 3/\f 113 3=c 4 5 true/\f 113 4=u 9/\f 113 5=u 10/\f 114 0=u 0/\f 114 1=c 1 2 true/\f 114 2=u 3/\f 114 3=c 4 5 true/\f 114 4=u 9/\f 114 5=u 10/\f 115 0=u 0/\f 115 1=u 1/\f 116 0=u 0/\f 116 1=u 1/\f 121 0=u 0/\f 121 1=u 1/\f 121 2=u 2/\f 121 3=u 3/\f 122 0=u 0/\f 122 1=u 1/\f 122 2=u 2/\f 122 3=u 3/\f 123 0=u 0/\f 123 1=u 1/\f 123 2=u 2/\f 123 3=c 3 4 true/\f 123 4=c 7 4 true/\f 124 0=u 0/\f 124 1=u 1/\f 124 2=u 2/\f 124 3=c 3 4 true/\f 124 4=c 7 4 true/\f 135 0=u 0/\f 135 1=u 1/\f 135 2=u 2/\f 135 3=u 3/\f 135 4=u 4/\f 135 5=u 5/\f 136 0=u 0/\f 136 1=u 1/\f 136 2=u 2/\f 136 3=u 3/\f 136 4=u 4/\f 136 5=u 5/\f 173 0=u 0/\f 173 1=u 1/\f 173 2=u 2/\f 174 0=u 0/\f 174 1=u 1/\f 174 2=u 2/\f 183 0=u 0/\f 183 1=c 1 2 true/\f 183 2=u 3/\f 184 0=u 0/\f 184 1=c 1 2 true/\f 184 2=u 3/\f 205 0=u 0/\f 205 1=u 1/\f 205 2=u 2/\f 205 3=c 3 2 true/\f 206 0=u 0/\f 206 1=u 1/\f 206 2=u 2/\f 206 3=c 3 2 true/\f 211 0=u 0/\f 211 1=u 1/\f 211 2=u 2/\f 212 0=u 0/\f 212 1=u 1/\f 212 2=u 2/\f 222 0=c 0 0 true/\f 222 1=u 0/\f 223 0=c 0 0 true/\f 223 1=u 0/\f 224 0=u 0/\f 224 1=u 1/\f 225 0=u 0/\f 225 1=u 1/\f 226 0=c 0 0 true/\f 226 1=c 0 2 true/\f 227 0=c 0 0 true/\f 227 1=c 0 2 true/\f 228 0=c 0 0 true/\f 228 1=c 0 1 true/\f 228 2=c 1 2 true/\f 229 0=c 0 0 true/\f 229 1=c 0 1 true/\f 229 2=c 1 2 true/\f 231 0=c 0 3 true/\f 231 1=c 3 256 true/\f 231 2=c 259 1 true/\f 232 0=c 0 3 true/\f 232 1=c 3 256 true/\f 232 2=c 259 1 true/\f 237 0=c 0 5 true/\f 237 1=u 5/\f 237 2=u 6/\f 237 3=u 7/\f 238 0=c 0 5 true/\f 238 1=u 5/\f 238 2=u 6/\f 238 3=u 7/\f 284 0=u 0/\f 284 1=u 1/\f 284 2=u 2/\f 284 3=u 3/\f 285 0=u 0/\f 285 1=u 1/\f 285 2=u 2/\f 285 3=u 3/\f 287 0=c 0 0 true/\f 288 0=c 0 0 true/\f 295 0=u 0/\f 295 1=u 1/\f 295 2=u 2/\f 295 3=u 3/\f 295 4=u 4/\f 295 5=u 5/\f 295 6=u 6/\f 295 7=u 7/\f 295 8=u 8/\f 295 9=u 9/\f 295 10=u 10/\f 296 0=u 0/\f 296 1=u 1/\f 296 2=u 2/\f 296 3=u 3/\f 296 4=u 4/\f 296 5=u 5/\f 296 6=u 6/\f 296 7=u 7/\f 296 8=u 8/\f 296 9=u 9/\f 296 10=u 10) (DE (zH Tryz.prog kR)) (fun o=>some (o,1,false)) (fun o z a=>some (o,z,a)):=by(repeat' apply And.intro)<;>kernel_rfl
theorem j7e:(fun(e:Nat->Prop)=>e 26/\e 37/\e 42/\e 43/\e 44/\e 47/\e 48/\e 49/\e 56/\e 62/\e 63/\e 64/\e 84/\e 120/\e 131) (fun i=>yS Tryz.prog (binOp .eql i (.slice none 0 0) (.slice none 0 0))=some (.ok (.bool true))/\yS Tryz.prog (binOp .neq i (.slice none 0 0) (.slice none 0 0))=some (.ok (.bool false))):=by(repeat' apply And.intro)<;>kernel_rfl
theorem j7g:(fun(r:Func->List ResultVar->Prop) (t:Nat->List ResultVar) (u:Nat->Nat->List ResultVar)=>r Tryz.f3 (t 4)/\r Tryz.f4 (u 8 9)/\r Tryz.f5 (u 8 9)/\r Tryz.f6 (t 0)/\r Tryz.f7 (t 6)/\r Tryz.f8 (t 2)/\r Tryz.f9 (t 2)/\r Tryz.f10 (t 2)/\r Tryz.f11 [.cell 2 66]/\r Tryz.f12 [.cell 0 66]/\r Tryz.f13 (u 6 7)/\r Tryz.f14 (t 4)/\r Tryz.f16 (t 2)/\r Tryz.f17 [.cell 2 90,.tmp 3]/\r Tryz.f18 (t 4)/\r Tryz.f19 (t 4)/\r Tryz.f20 (t 2)/\r Tryz.f21 (t 2)/\r Tryz.f22 (u 2 3)/\r Tryz.f23 (u 6 7)/\r Tryz.f24 (t 4)/\r Tryz.f25 (u 4 5)/\r Tryz.f26 (u 4 5)/\r Tryz.f27 [.cell 2 68,.tmp 3]/\r Tryz.f28 (t 4)/\r Tryz.f29 (t 2)/\r Tryz.f30 (t 2)/\r Tryz.f31 (t 4)/\r Tryz.f32 [.cell 2 66]/\r Tryz.f33 (t 2)/\r Tryz.f34 [.cell 4 108,.tmp 5]/\r Tryz.f35 (t 2)/\r Tryz.f36 (t 4)/\r Tryz.f37 [.cell 4 66,.tmp 5]/\r Tryz.f38 (t 2)/\r Tryz.f39 []/\r Tryz.f40 (t 2)/\r Tryz.f41 [.cell 4 66,.tmp 5]/\r Tryz.f42 (t 2)/\r Tryz.f43 []/\r Tryz.f44 (t 2)/\r Tryz.f45 [.cell 4 108,.tmp 5]/\r Tryz.f46 []/\r Tryz.f47 [.cell 2 41]/\r Tryz.f48 (t 2)/\r Tryz.f49 (t 4)/\r Tryz.f50 (t 4)/\r Tryz.f51 (t 4)/\r Tryz.f52 (t 4)/\r Tryz.f53 (t 4)/\r Tryz.f54 (t 4)/\r Tryz.f55 (t 2)/\r Tryz.f56 (t 2)/\r Tryz.f57 [.cell 2 122]/\r Tryz.f58 (t 4)/\r Tryz.f59 (t 4)/\r Tryz.f60 [.cell 4 66]/\r Tryz.f61 [.cell 2 36,.tmp 3]/\r Tryz.f62 (u 4 5)/\r Tryz.f63 (t 4)/\r Tryz.f64 [.cell 2 66]/\r Tryz.f65 [.cell 4 66,.tmp 5]/\r Tryz.f66 [.cell 6 36,.tmp 7]/\r Tryz.f67 (u 4 5)/\r Tryz.f68 []/\r Tryz.f69 (t 4)/\r Tryz.f70 (t 4)/\r Tryz.f71 (t 4)/\r Tryz.f72 (t 2)/\r Tryz.f74 (t 4)/\r Tryz.f75 (t 4)/\r Tryz.f76 (t 4)/\r Tryz.f77 (t 6)/\r Tryz.f78 [.cell 4 66]/\r Tryz.f79 [.cell 6 36,.tmp 7]/\r Tryz.f80 (t 4)/\r Tryz.f81 (t 4)/\r Tryz.f82 (t 4)/\r Tryz.f84 (t 4)/\r Tryz.f85 (t 4)/\r Tryz.f86 (t 4)/\r Tryz.f87 (t 4)/\r Tryz.f88 (t 4)/\r Tryz.f89 (t 4)/\r Tryz.f90 (t 4)/\r Tryz.f92 (t 4)/\r Tryz.f93 [.cell 4 136]/\r Tryz.f94 [.cell 4 66,.tmp 5]/\r Tryz.f95 [.cell 6 66]/\r Tryz.f96 (t 4)/\r Tryz.f97 (t 2)/\r Tryz.f98 (t 4)/\r Tryz.f99 []/\r Tryz.f100 [.cell 4 136]/\r Tryz.f101 (t 4)/\r Tryz.f102 (t 3)/\r Tryz.f103 [.cell 4 122,.tmp 5]/\r Tryz.f104 (t 2)/\r Tryz.f107 (t 4)/\r Tryz.f108 (t 0)/\r Tryz.f109 (t 4)/\r Tryz.f110 (t 6)/\r Tryz.f111 (t 6)/\r Tryz.f112 (t 4)/\r Tryz.f113 (t 4)/\r Tryz.f115 [.cell 4 108,.tmp 5]/\r Tryz.f116 [.cell 4 66]/\r Tryz.f117 [.cell 4 122,.tmp 5]/\r Tryz.f118 [.cell 4 66]/\r Tryz.f119 (t 2)/\r Tryz.f120 [.cell 2 212]/\r Tryz.f121 (t 4)/\r Tryz.f122 (u 4 5)/\r Tryz.f123 (t 6)/\r Tryz.f124 (t 4)/\r Tryz.f125 []/\r Tryz.f127 (t 6)/\r Tryz.f129 (t 2)/\r Tryz.f130 []/\r Tryz.f131 (t 2)/\r Tryz.f132 (t 2)/\r Tryz.f133 []/\r Tryz.f134 []/\r Tryz.f135 (t 4)/\r Tryz.f136 (t 2)/\r Tryz.f137 (u 10 11)/\r Tryz.f138 (t 4)/\r Tryz.f139 (t 6)/\r Tryz.f142 [.cell 4 122,.tmp 5]/\r Tryz.f143 []/\r Tryz.f144 []/\r Tryz.f145 (t 2)/\r Tryz.f146 [.tmp 6,.tmp 7,.tmp 8]/\r Tryz.f147 (t 4)/\r Tryz.f148 (t 4)/\r Tryz.f149 (u 8 9)/\r Tryz.f151 (t 4)/\r Tryz.f152 []/\r Tryz.f153 (t 2)/\r Tryz.f154 (u 8 9)/\r Tryz.f155 (t 4)/\r Tryz.f156 (t 4)/\r Tryz.f157 (t 6)/\r Tryz.f158 (t 4)/\r Tryz.f159 []/\r Tryz.f160 []/\r Tryz.f161 []/\r Tryz.f162 (u 6 7)/\r Tryz.f163 []/\r Tryz.f164 (t 6)/\r Tryz.f165 (t 4)/\r Tryz.f166 (t 8)/\r Tryz.f167 (u 8 9)/\r Tryz.f168 (t 2)/\r Tryz.f169 (t 2)/\r Tryz.f170 (t 7)/\r Tryz.f171 (t 4)/\r Tryz.f172 (t 8)/\r Tryz.f173 (t 2)/\r Tryz.f174 []/\r Tryz.f175 (t 2)/\r Tryz.f176 (t 2)/\r Tryz.f177 (t 6)/\r Tryz.f178 (t 10)/\r Tryz.f179 (t 2)/\r Tryz.f180 (t 2)/\r Tryz.f181 (u 8 9)) (fun f l=>f.results.toList=l) (fun n=>[.tmp n]) (fun n m=>[.tmp n,.tmp m]):=by(repeat' apply And.intro)<;>(show _ = _;kernel_rfl)
set_option maxRecDepth 100000 in
theorem j7f:(fun(f:Nat->Option (List (Nat×Nat)))=>f 7=some [(0,1),(1,1),(2,1),(3,1)]/\f 8=some [(0,1),(1,1),(2,1),(3,1)]/\f 13=some [(0,1),(1,1)]/\f 14=some [(0,1),(1,1)]/\f 18=some [(0,1)]/\f 19=some [(0,1)]/\f 22=some [(0,1),(1,1)]/\f 23=some [(0,1),(1,1)]/\f 24=some [(0,2),(2,1),(3,1),(4,1)]/\f 25=some [(0,2),(2,1),(3,1),(4,1)]/\f 35=some [(0,1),(1,1)]/\f 36=some [(0,1),(1,1)]/\f 38=some [(0,1),(1,1)]/\f 39=some [(0,1),(1,1)]/\f 40=some [(0,1),(1,1),(2,1),(3,2)]/\f 41=some [(0,1),(1,1),(2,1),(3,2)]/\f 45=some [(0,1),(1,2),(3,2),(5,1)]/\f 46=some [(0,1),(1,2),(3,2),(5,1)]/\f 50=some [(0,1),(1,2),(3,1),(4,1),(5,1)]/\f 51=some [(0,1),(1,2),(3,1),(4,1),(5,1)]/\f 52=some [(0,2),(2,1),(3,1),(4,1),(5,1),(6,1)]/\f 53=some [(0,2),(2,1),(3,1),(4,1),(5,1),(6,1)]/\f 54=some [(0,1),(1,2),(3,1)]/\f 55=some [(0,1),(1,2),(3,1)]/\f 57=some [(0,1),(1,2),(3,2),(5,1),(6,1),(7,2),(9,1),(10,1),(11,1),(12,1),(13,1),(14,1),(15,6),(21,6),(27,7),(34,4),(38,5),(43,1),(44,1),(45,1)]/\f 58=some [(0,1),(1,2),(3,2),(5,1),(6,1),(7,2),(9,1),(10,1),(11,1),(12,1),(13,1),(14,1),(15,6),(21,6),(27,7),(34,4),(38,5),(43,1),(44,1),(45,1)]/\f 59=some [(0,1),(1,1),(2,2),(4,5),(9,46)]/\f 60=some [(0,1),(1,1),(2,2),(4,5),(9,46)]/\f 65=some [(0,1),(1,1),(2,1),(3,1),(4,1)]/\f 66=some [(0,1),(1,1),(2,1),(3,1),(4,1)]/\f 67=some [(0,1),(1,4),(5,1)]/\f 68=some [(0,1),(1,4),(5,1)]/\f 69=some [(0,2),(2,1),(3,1),(4,1),(5,5),(10,1),(11,1),(12,1),(13,1),(14,5),(19,2),(21,1),(22,6)]/\f 70=some [(0,2),(2,1),(3,1),(4,1),(5,5),(10,1),(11,1),(12,1),(13,1),(14,5),(19,2),(21,1),(22,6)]/\f 75=some []/\f 76=some []/\f 77=some []/\f 78=some [(0,0),(0,0),(0,1)]/\f 79=some [(0,0),(0,0),(0,1)]/\f 82=some [(0,2),(2,1),(3,1),(4,1),(5,5),(10,1),(11,1),(12,1)]/\f 83=some [(0,2),(2,1),(3,1),(4,1),(5,5),(10,1),(11,1),(12,1)]/\f 90=some [(0,1),(1,4),(5,1)]/\f 107=some [(0,1),(1,1),(2,1),(3,1)]/\f 108=some [(0,1),(1,1),(2,1),(3,1)]/\f 113=some [(0,1),(1,2),(3,1),(4,5),(9,1),(10,1)]/\f 114=some [(0,1),(1,2),(3,1),(4,5),(9,1),(10,1)]/\f 115=some [(0,1),(1,1)]/\f 116=some [(0,1),(1,1)]/\f 121=some [(0,1),(1,1),(2,1),(3,1)]/\f 122=some [(0,1),(1,1),(2,1),(3,1)]/\f 123=some [(0,1),(1,1),(2,1),(3,4),(7,4)]/\f 124=some [(0,1),(1,1),(2,1),(3,4),(7,4)]/\f 135=some [(0,1),(1,1),(2,1),(3,1),(4,1),(5,1)]/\f 136=some [(0,1),(1,1),(2,1),(3,1),(4,1),(5,1)]/\f 173=some [(0,1),(1,1),(2,1)]/\f 174=some [(0,1),(1,1),(2,1)]/\f 183=some [(0,1),(1,2),(3,1)]/\f 184=some [(0,1),(1,2),(3,1)]/\f 205=some [(0,1),(1,1),(2,1),(3,2)]/\f 206=some [(0,1),(1,1),(2,1),(3,2)]/\f 211=some [(0,1),(1,1),(2,1)]/\f 212=some [(0,1),(1,1),(2,1)]/\f 221=some []/\f 222=some [(0,0),(0,1)]/\f 223=some [(0,0),(0,1)]/\f 224=some [(0,1),(1,1)]/\f 225=some [(0,1),(1,1)]/\f 226=some [(0,0),(0,2)]/\f 227=some [(0,0),(0,2)]/\f 228=some [(0,0),(0,1),(1,2)]/\f 229=some [(0,0),(0,1),(1,2)]/\f 231=some [(0,3),(3,256),(259,1)]/\f 232=some [(0,3),(3,256),(259,1)]/\f 237=some [(0,5),(5,1),(6,1),(7,1)]/\f 238=some [(0,5),(5,1),(6,1),(7,1)]/\f 284=some [(0,1),(1,1),(2,1),(3,1)]/\f 285=some [(0,1),(1,1),(2,1),(3,1)]/\f 287=some [(0,0)]/\f 288=some [(0,0)]/\f 295=some [(0,1),(1,1),(2,1),(3,1),(4,1),(5,1),(6,1),(7,1),(8,1),(9,1),(10,1)]/\f 296=some [(0,1),(1,1),(2,1),(3,1),(4,1),(5,1),(6,1),(7,1),(8,1),(9,1),(10,1)]) (CI (zH Tryz.prog kR)):=by(repeat' apply And.intro)<;>kernel_rfl
end
variable{x:AB}{s:ByteArray}{N:NT}{E:FE}{K:KK}
section
def oQ:Qb:=fun _=>none
section
variable {P:Program} {T:TT} {S:Qb} {t:TM} {h:AH} {d:Option Tmp} {ty:TypeId} {ps:String} {af:Array Edge} {g:Option (Nat×Bool)} {k k':IntKind} {a b:Int} {e:TypeId}
def Ka(k:IntKind)(a b:Int):Int:=k.wrap ((BitVec.ofInt k.bits a ^^^ BitVec.ofInt k.bits b).toNat:Int)
def j4e(k:IntKind)(a b:Int):Int:=k.wrap ((BitVec.ofInt k.bits a &&& BitVec.ofInt k.bits b).toNat:Int)
def j7p(k:IntKind)(a b:Int):Int:=k.wrap ((BitVec.ofInt k.bits a ||| BitVec.ofInt k.bits b).toNat:Int)
def UG(k:IntKind)(a b:Int):Int:=k.wrap (a * 2^min b.toNat k.bits)
def YL(k:IntKind)(a b:Int):Int:=a.fdiv (2^min b.toNat k.bits)
theorem j5e:yS P (binOp .xor e (.int k a) (.int k b))=some (.ok (.int k (Ka k a b))):=by simp[binOp,Op.intBits,Ka];rfl
theorem j51:yS P (binOp .and e (.int k a) (.int k b))=some (.ok (.int k (j4e k a b))):=by simp[binOp,Op.intBits,j4e];rfl
theorem j6C:yS P (binOp .or e (.int k a) (.int k b))=some (.ok (.int k (j7p k a b))):=by simp[binOp,Op.intBits,j7p];rfl
theorem j5b(hb:0<=b):yS P (binOp .shl e (.int k a) (.int k' b))=some (.ok (.int k (UG k a b))):=by
 have:¬b<0:=by omega
 simp[binOp,Op.shift,UG,this];rfl
theorem j5c(hb:0<=b):yS P (binOp .shr e (.int k a) (.int k' b))=some (.ok (.int k (YL k a b))):=by
 have:¬b<0:=by omega
 simp[binOp,Op.shift,YL,this];rfl
theorem j59(hb:¬b=0):yS P (binOp .quo e (.int k a) (.int k b))=some (.ok (.int k (k.wrap (a.tdiv b)))):=by simp[binOp,Op.intDiv,hb];rfl
theorem j5a(hb:¬b=0):yS P (binOp .rem e (.int k a) (.int k b))=some (.ok (.int k (a.tmod b))):=by simp[binOp,Op.intDiv,hb];rfl
def j5Q(P:Program)(o:Oper)(t:TM)(h:AH)(x:Operand):AR:=Qo P o t h x
theorem j5Z{i:Nat}:Js P T ⟨d,.nilCheck (.tmp i),ty,ps,af,g⟩ t h=(match t.get i with
 | .ptr b off=>some (.val (.ptr b off),h)
 |_=>j5Q P ⟨d,.nilCheck (.tmp i),ty,ps,af,g⟩ t h (.tmp i)):=by
 show Qo _ _ _ _ _=_
 split
 ·rename_i b off hb;unfold Qo;rw[kX,hb]
 ·rfl
theorem TV{α:Type}(dd:α):∀(f f':Nat) (t:Tri α) (k j:Nat) (x y:α),1<=k->1<=j->k≠j->k<2^f->j<2^f'->Tri.put dd f (Tri.put dd f' t j y) k x=Tri.put dd f' (Tri.put dd f t k x) j y
 |0,_,_,_,_,_,_,h1,_,_,h2,_=>by simp at h2;omega
 |_+1,0,_,_,_,_,_,_,h1,_,_,h2=>by simp at h2;omega
 |f+1,f'+1,t,k,j,x,y,hk,hj,hne,h1,h2=>by
  have e1:k/2<2^f:=by rw[Jf]at h1;omega
  have e2:j/2<2^f':=by rw[Jf]at h2;omega
  have key:=fun t=>TV dd f f' t (k/2) (j/2) x y;simp only[Tri.put];cases hk1:Nat.ble k 1<;>cases hj1:Nat.ble j 1<;>cases hk2:Nat.beq (k%2) 0<;>cases hj2:Nat.beq (j%2) 0<;>simp only[cond_true,cond_false,Tri.lt,Tri.rt,Tri.top,Tri.n.injEq,true_and,and_true]
  all_goals first
   |(exfalso;have:=Nat.ble_eq.mp hk1;have:=Nat.ble_eq.mp hj1;omega)
   |skip
  all_goals
   have g1:¬k<=1:=fun h=>by rw[Nat.ble_eq.mpr h]at hk1;cases hk1
   have g2:¬j<=1:=fun h=>by rw[Nat.ble_eq.mpr h]at hj1;cases hj1
  ·have p1:¬k%2=0:=fun h=>by rw[h]at hk2;cases hk2
   have p2:¬j%2=0:=fun h=>by rw[h]at hj2;cases hj2
   exact key _ (by omega) (by omega) (by omega) e1 e2
  ·have p1:=jY hk2;have p2:=jY hj2;exact key _ (by omega) (by omega) (by omega) e1 e2
theorem Ts{b:Nat}{x y:AB}(hb:b=h.n):(h.push x).put b y=h.push y:=by subst hb;exact LV
theorem Tt{b:Nat}{x y:AB}(hb:b<h.n):(h.push x).put b y=(h.put b y).push x:=by unfold AH.put AH.push nW TX;simp only;rw[show Nat.blt b (h.n+1)=true from Nat.blt_eq.mpr (by omega),show Nat.blt b h.n=true from Nat.blt_eq.mpr hb];simp only[cond_true];rw[TV _ _ _ _ _ _ _ _ (by omega) (by omega) (by omega) (log2_lt _ (by omega)) (log2_lt _ (by omega))]
theorem j6l{n:Nat}:n<n+1:=Nat.lt_succ_self n
theorem j6m{n:Nat}:n<n+1+1:=by omega
theorem j6n{n:Nat}:n<n+1+1+1:=by omega
theorem j6o{n:Nat}:n<n+1+1+1+1:=by omega
theorem j6p{n:Nat}:n<n+1+1+1+1+1:=by omega
theorem j6q{n:Nat}:n<n+1+1+1+1+1+1:=by omega
theorem j6r{n:Nat}:n<n+1+1+1+1+1+1+1:=by omega
theorem wX{i:Nat}{r:List ResultVar}:ZN T h t (.cell i ty::r)=(match t.get i,ZN T h t r with
 | .ptr b off,some l=>(Jr T h ty b off).map (·::l)
 |_,_=>none):=rfl
def La(T:TT)(t:TypeId):Bool:=match und T t with
 |some (.pointer _)=>true
 |_=>false
theorem eP{i:Nat}{b off:Nat}{f:TypeId}(ho:o.op= .binOp op e (.tmp i) (.const (.pointer none)) f)(hv:t.get i= .ptr b off):yU P o t=none:=by unfold yU;rw[ho,if_neg];simp[Op.operands,JK,kX,hv,ZT]
theorem rO{i:Nat}{f:TypeId}(hT:La T e=true):Js P T ⟨d,.binOp .eql e (.tmp i) (.const (.pointer none)) f,ty,ps,af,g⟩ t h=(match t.get i with
 | .ptr _ _=>some (.val (.lit (.bool false)),h)
 |_=>XK P T ⟨d,.binOp .eql e (.tmp i) (.const (.pointer none)) f,ty,ps,af,g⟩ t h .eql e (.tmp i) (.const (.pointer none))):=by
 rw[RB]
 split
 ·rename_i b off hv;unfold La at hT;split at hT;case h_2=>cases hT
  rename_i el hu;unfold XK;simp only[kX,hv,GF];simp only[yR,eP (o:=⟨d,.binOp .eql e (.tmp i) (.const (.pointer none)) f,ty,ps,af,g⟩) rfl hv,UP,hu,kX,hv,GF,CM]
 ·rfl
theorem rS{i:Nat}{f:TypeId}(hT:La T e=true):Js P T ⟨d,.binOp .neq e (.tmp i) (.const (.pointer none)) f,ty,ps,af,g⟩ t h=(match t.get i with
 | .ptr _ _=>some (.val (.lit (.bool true)),h)
 |_=>XK P T ⟨d,.binOp .neq e (.tmp i) (.const (.pointer none)) f,ty,ps,af,g⟩ t h .neq e (.tmp i) (.const (.pointer none))):=by
 rw[RB]
 split
 ·rename_i b off hv;unfold La at hT;split at hT;case h_2=>cases hT
  rename_i el hu;unfold XK;simp only[kX,hv,GF];simp only[yR,eP (o:=⟨d,.binOp .neq e (.tmp i) (.const (.pointer none)) f,ty,ps,af,g⟩) rfl hv,UP,hu,kX,hv,GF,CM];rfl
 ·rfl
theorem Kd{i j:Nat}{vx vy vr:Value}{ar:AV}(hx:ZT (t.get i)=some vx)(hy:ZT (t.get j)=some vy)
 (he:yS P (Instr.index e vx vy)=some (.ok vr)) (hr:Ba vr=some ar):Js P T ⟨d,.index e (.tmp i) (.tmp j),ty,ps,af,g⟩ t h=some (.val ar,h):=by
 have key:∀(f:Value->Sem Next),yS P (Instr.index e vx vy >>= f)=yS P (f vr):=fun f=>by
  generalize Instr.index e vx vy=s at he;induction s with
  |pure x=>simp[yS]at he;subst he;rfl
  |halt r=>cases r<;>simp[yS]at he
  |program k ih=>exact ih P he
  |mark e k ih=>exact ih he
  |_=>simp[yS]at he
 have h0:yU P ⟨d,.index e (.tmp i) (.tmp j),ty,ps,af,g⟩ t=some (.val ar):=by
  unfold yU;rw[if_pos (by simp[Zs,Op.operands,JK,kX,hx,hy])];have e1:qI t (.tmp i)=vx:=by simp[qI,kX,hx]
  have e2:qI t (.tmp j)=vy:=by simp[qI,kX,hy]
  simp only[execOp,e1,e2,key];show Na (some (.ok (.value vr)))=_;simp only[Na,hr,qD]
 show Yr _ _ _ _ _ _ _ _=_
 unfold Yr yR
 rw[h0]
def CW(s:ByteArray)(n:Int):Option Nat:=if 0<=n then(s[n.toNat]?).map (·.toNat)else none
def Lc(T:TT)(t:TypeId):Bool:=match und T t with
 |some .string=>true
 |_=>false
theorem MX{n:Int}{b:Nat}(hT:Lc (zH P N) e=true)(hb:CW s n=some b):yS P (Instr.index e (.string s) (.int k n))=some (.ok (.int .u8 b)):=by
 have hu:und (zH P N) e=some .string:=by
  unfold Lc at hT;split at hT
  ·assumption
  ·cases hT
 have hP:P.underlying e=some .string:=by
  have:=Re hu;cases hq:P.underlying e with
  |none=>rw[hq]at this;cases this
  |some x=>rw[hq]at this;exact congrArg some this
 have u1:∀{α:Type} (f:TypeDesc->Sem α),yS P (underlying e >>= f)=yS P (f .string):=fun f=>by show yS P ((match P.underlying e with|some d=>pure d|none=>stuck "no such type") >>= f)=_;rw[hP];rfl
 unfold Instr.index;show yS P (underlying e >>= _)=_;rw[u1];unfold CW at hb;split at hb;case isFalse=>cases hb
 rename_i h0;obtain⟨c,hc,rfl⟩:=Option.map_eq_some_iff.1 hb;simp only[if_pos h0,hc];rfl
def j3l(P:Program)(T:TT)(o:Oper)(t:TM)(h:AH)(e:TypeId)(x y:Operand):AR:=Yr P T o t h e x y
theorem j22{x:Operand}{n:Int}{b:Nat}(hT:Lc (zH P N) e=true)(hx:xJ t x=some (.lit (.string s)))(hy:xJ t y=some (.lit (.int k n)))(hb:CW s n=some b):Js P (zH P N) ⟨d,.index e x y,ty,ps,af,g⟩ t h=some (.val (.lit (.int .u8 b)),h):=by
 have he:=MX (P:=P) (k:=k) hT hb;have key:∀(f:Value->Sem Next),yS P (Instr.index e (.string s) (.int k n) >>= f)=yS P (f (.int .u8 b)):=fun f=>by
  generalize Instr.index e (.string s) (.int k n)=s at he;induction s with
  |pure x=>simp[yS]at he;subst he;rfl
  |halt r=>cases r<;>simp[yS]at he
  |program k ih=>exact ih P he
  |mark e k ih=>exact ih he
  |_=>simp[yS]at he
 have h0:yU P ⟨d,.index e x y,ty,ps,af,g⟩ t=some (.val (.lit (.int .u8 b))):=by
  unfold yU;rw[if_pos (by simp[Zs,Op.operands,JK,hx,hy,ZT])];have e1:qI t x= .string s:=by simp[qI,hx,ZT]
  have e2:qI t y= .int k n:=by simp[qI,hy,ZT]
  simp only[execOp,e1,e2,key];rfl
 show Yr _ _ _ _ _ _ _ _=_;unfold Yr yR;rw[h0]
theorem rP{N:NT}{s:ByteArray}{j:Nat}(hT:Lc (zH P N) e=true):Js P (zH P N) ⟨d,.index e (.const (.string s)) (.tmp j),ty,ps,af,g⟩ t h=(match t.get j with
 | .lit (.int _ n)=>(match CW s n with
   |some b=>some (.val (.lit (.int .u8 b)),h)
   |none=>j3l P (zH P N) ⟨d,.index e (.const (.string s)) (.tmp j),ty,ps,af,g⟩ t h e (.const (.string s)) (.tmp j))
 |_=>j3l P (zH P N) ⟨d,.index e (.const (.string s)) (.tmp j),ty,ps,af,g⟩ t h e (.const (.string s)) (.tmp j)):=by
 split
 ·rename_i k n hy;split
  ·rename_i b hb;exact j22 hT rfl (by rw[kX,hy]) hb
  ·rfl
 ·rfl
def AO(P:Program)(T:TT)(o:Oper)(t:TM)(h:AH)(src dst:TypeId)(x:Operand):AR:=JS P T o t h src dst x
theorem j3Z{src dst i:Nat}:Js P T ⟨d,.convert src dst (.tmp i),ty,ps,af,g⟩ t h=(match t.get i,und T src,und T dst with
 | .lit (.int _ n),some _,some (.int k')=>some (.val (.lit (.int k' (k'.wrap n))),h)
 |_,_,_=>AO P T ⟨d,.convert src dst (.tmp i),ty,ps,af,g⟩ t h src dst (.tmp i)):=by
 show JS _ _ _ _ _ _ _ _=_
 split
 ·rename_i k n d' k' h1 h2 h3;unfold JS;rw[kX,h1,h2,h3]
 ·rfl
theorem j5X{f:Fn}{xs ys:Array Operand}:Js P T ⟨d,.makeFunc f xs ys,ty,ps,af,g⟩ t h=Kc t h f xs ys:=rfl
theorem pY{k:List AI}(Bn:Nat->TM->AH->Prop)(n:Nat)
 (step:∀n t h,Bn n t h->(∀m t' h',m<n->Bn m t' h'->WB P T S E t' k h' K)->WB P T S E t k h K):∀t h,Bn n t h->WB P T S E t k h K:=by
 induction n using Nat.strongRecOn with
 |_ n ih=>exact fun t h hi=>step n t h hi fun m t' h' hm hi'=>ih m hm t' h' hi'
theorem j3R{l:Nat}{k k':List AI}(hk:AT l k=some k')(hs:∀t h,WB P T S E t k' h K=WB P T S E t k h K)(Bn:Nat->TM->AH->Prop)(n:Nat)
 (step:∀n t h,Bn n t h->(∀m t' h',m<n->Bn m t' h'->j3i P T S E t' h' K (AT l k))->WB P T S E t k h K):∀t h,Bn n t h->WB P T S E t (.code (.label l)::k) h K:=by
 intro t h hi
 rw[Qc]
 rw[hk]at step
 have:=pY (k:=k') Bn n (fun n t h hi ih=>by rw[hs];exact step n t h hi ih) t h hi
 rw[hs]at this
 exact this
theorem ZF{fn:Func}{c:Code}{h':AH}{Q:AV->AH->Prop}{g:List AV->AH->Option (AV×AH)}(hf:P.funcs[f]? =some fn)(hb:fn.body=some c)(hS:S f=some g)(hg:g args h=some (v,h'))(hq:Q v h'):WC P T S f args h Q:=by refine⟨1,.ended (.ret v) none,h',?_,v,none,rfl,hq⟩;show Bi P S (ex P T S 0) f args none h=_;unfold Bi;rw[hf];simp only[hb,hS,hg];rfl
end
theorem vW{n:Int}(h1: -9223372036854775808<=n)(h2:n<9223372036854775808):IntKind.i64.wrap n=n:=IntWalk.i64_in _ ⟨h1,by omega⟩
theorem wrap_u32{n:Int}(h1:0<=n)(h2:n<4294967296):IntKind.u32.wrap n=n:=by unfold IntKind.wrap;simp[IntKind.bits,IntKind.signed];omega
theorem KI{n:Int}(h1:0<=n)(h2:n<18446744073709551616):IntKind.u64.wrap n=n:=by unfold IntKind.wrap;simp[IntKind.bits,IntKind.signed];omega
theorem xG{i n:Nat}(h:i<n)(hn:n<9223372036854775808):IntKind.i64.wrap ((i:Int)+1)=((i+1:Nat):Int):=(vW (by omega) (by omega)).trans (by omega)
theorem xX(h:AH)(x:AB):∃h',h'=h.push x/\zM h.n h h'/\h'.at h.n=some x:=⟨_,rfl,(zM.refl _ _).push _ (jM _),zI _ _⟩
theorem QJ{h h':AH}(e:h'=h.push x):h'.at h.n=some x:=e▸zI _ _
theorem ZS{h h':AH}(e:h'=h.push x):zM h.n h h':=e▸(zM.refl _ _).push _ (jM _)
theorem Jj{h h':AH}{b:Nat}(e:h'=h.put b x)(l:b<h.n):h'.at b=some x:=e▸qJ _ l
theorem Qx{h h':AH}{b c:Nat}{x:AB}{z:Option AB}(e:h'=h.put b x)(hb:b≠c)(y:h.at c=z):h'.at c=z:=(e▸zE _ hb).trans y
theorem xI{h:AH}{b:Nat}{e':TypeId}(hb:h.at b=some (.cells l e'))(e:TypeId)(off:Nat):Jr (zH Tryz.prog kR) h e b off=YU (zH Tryz.prog kR) e l off:=Xy hb e off
end
def sR:=And.intro @bD.eq_1 (And.intro @bD.eq_2 (And.intro @Az.eq_1 (And.intro @Az.eq_2 (And.intro @Az.eq_3 (And.intro @Gd (And.intro @Int.toNat_natCast (And.intro @rC (And.intro @gH (And.intro @Wu (And.intro @rA (And.intro @Wx (And.intro @Ry (And.intro @gJ (And.intro @Wy (And.intro @pZ (And.intro @j3Q (And.intro @j1a (And.intro @dB (And.intro @rB (And.intro @j5M (And.intro @j3T (And.intro @j3S (And.intro @List.size_toArray.{0} (And.intro @List.size_toArray.{1} (And.intro @List.length_cons.{0} (And.intro @List.length_cons.{1} (And.intro @List.length_nil.{0} (And.intro @List.length_nil.{1} (And.intro @Nat.zero_add (And.intro @Nat.add_zero (And.intro @Nat.mul_one (And.intro @j77 (And.intro @List.range'_succ (And.intro @List.range'_zero (And.intro @List.getElem?_toArray.{0} (And.intro @List.getElem?_toArray.{1} (And.intro @List.getElem?_cons_zero.{0} (And.intro @List.getElem?_cons_zero.{1} (And.intro @List.getElem?_cons_succ.{0} (And.intro @List.getElem?_cons_succ.{1} (And.intro @j43 (And.intro @rI (And.intro @j41 (And.intro @AP.eq_1 (And.intro @j1r (And.intro @Bu.eq_1 (And.intro @ZQ.eq_1 (And.intro @RC (And.intro @j6b (And.intro @j6K.eq_1 (And.intro @j6K.eq_2 (And.intro @j1n (And.intro @j6d (And.intro @j6c.eq_1 (And.intro @j6c.eq_2 (And.intro @j6c.eq_3 (And.intro @OJ (And.intro @j66 (And.intro @j65.eq_1 (And.intro @j65.eq_2 (And.intro @j65.eq_3 (And.intro @Mf.eq_1 (And.intro @Mf.eq_2 (And.intro @Kw.eq_1 (And.intro @Kw.eq_2 (And.intro @Jk.eq_1 (And.intro @Jk.eq_2 (And.intro @List.map_cons.{0,0} (And.intro @List.map_cons.{0,1} (And.intro @List.map_cons.{1,0} (And.intro @List.map_cons.{1,1} (And.intro @List.map_nil.{0,0} (And.intro @List.map_nil.{0,1} (And.intro @List.map_nil.{1,0} (And.intro @List.map_nil.{1,1} (And.intro @j6X (And.intro @gL (And.intro @Vr.eq_1 (And.intro @j1j (And.intro @Dv.eq_1 (And.intro @j5R (And.intro @OH.eq_1 (And.intro @j56 (And.intro @j55 (And.intro @j54 (And.intro @j53 (And.intro @j52 (And.intro @j58 (And.intro @j50 (And.intro @j5d (And.intro @j57 (And.intro @uT (And.intro @Fa (And.intro @val.eq_1 (And.intro @Option.map_some.{0,0} (And.intro @Option.map_some.{0,1} (And.intro @Option.map_some.{1,0} (And.intro @Option.map_some.{1,1} (And.intro @Option.map_none.{0,0} (And.intro @Option.map_none.{0,1} (And.intro @Option.map_none.{1,0} (And.intro @Option.map_none.{1,1} (And.intro @kX (And.intro @j4q (And.intro @j1O (And.intro @j4r (And.intro @GF (And.intro @GG (And.intro @j1S (And.intro @j1Q (And.intro @j1R (And.intro @j1P (And.intro @j5q (And.intro @j1e (And.intro @gI (And.intro @j5C (And.intro @List.append_nil.{0} (And.intro @List.append_nil.{1} (And.intro @List.cons_append.{0} (And.intro @List.cons_append.{1} (And.intro @TN (And.intro @TK (And.intro @UT.eq_1 (And.intro @UT.eq_2 (And.intro @UT.eq_3 (And.intro @UT.eq_4 (And.intro @XS.eq_1 (And.intro @XS.eq_2 (And.intro @WY (And.intro @Pe (And.intro @tK (And.intro @j7b (And.intro @j7h (And.intro @j7c (And.intro @j7j (And.intro @j7i (And.intro @j7d (And.intro @ne_eq.{0} (And.intro @ne_eq.{1} (And.intro @not_false_eq_true (And.intro @not_true_eq_false (And.intro @j6y (And.intro @j6x (And.intro @rD (And.intro @j19 (And.intro @j1T (And.intro @tF (And.intro @j4s (And.intro @j4t (And.intro @Wv (And.intro @List.getD_cons_zero.{0} (And.intro @List.getD_cons_zero.{1} (And.intro @List.getD_cons_succ.{0} (And.intro @List.getD_cons_succ.{1} (And.intro @if_true.{0} (And.intro @if_true.{1} (And.intro @if_false.{0} (And.intro @if_false.{1} (And.intro @Nat.zero_le (And.intro @Nat.zero_mul (And.intro @Bool.true_and (And.intro @Bool.and_true (And.intro @Bool.and_self (And.intro @Bool.false_and (And.intro @Bool.and_false (And.intro @cond_true.{0} (And.intro @cond_true.{1} (And.intro @cond_false.{0} (And.intro @cond_false.{1} (And.intro @Option.bind_some.{0,0} (And.intro @Option.bind_some.{0,1} (And.intro @Option.bind_some.{1,0} (And.intro @Option.bind_some.{1,1} (And.intro @decide_true (And.intro @decide_false (And.intro @true_implies (And.intro @false_implies (And.intro @forall_const.{0} (And.intro @forall_const.{1} (And.intro @and_true (And.intro @true_and (And.intro @or_true (And.intro @false_or (And.intro @j2Q (And.intro @j2R (And.intro @sB (And.intro @j4f (And.intro @j2y (And.intro @j2z (And.intro @j4X (And.intro @j4W (And.intro @j4V (And.intro @j2x (And.intro @j2w (And.intro @j71 (And.intro @j6Z (And.intro @j70 (And.intro @j6Y (And.intro @iA (And.intro @sG (And.intro @iB (And.intro @hJ (And.intro @Ey (And.intro @j4D (And.intro @j4E (And.intro @j4F (And.intro @j2b (And.intro @j6F (And.intro @j6T.eq_1 (And.intro @j6T.eq_2 (And.intro @rZ (And.intro @sA (And.intro @Iw (And.intro @dH (And.intro @kZ (And.intro @j2m (And.intro @cut.eq_1 (And.intro @List.take_succ_cons.{0} (And.intro @List.take_succ_cons.{1} (And.intro @List.drop_succ_cons.{0} (And.intro @List.drop_succ_cons.{1} (And.intro @List.all_cons.{0} (And.intro @List.all_cons.{1} (And.intro @List.all_nil.{0} (And.intro @List.all_nil.{1} (And.intro @Nat.lt_add_one (And.intro @j44 (And.intro @FA.eq_1 (And.intro @Bool.cond_false.{0} (And.intro @Bool.cond_false.{1} (And.intro @Bool.cond_true.{0} (And.intro @Bool.cond_true.{1} (And.intro @yQ.eq_1 (And.intro @Option.bind_none.{0,0} (And.intro @Option.bind_none.{0,1} (And.intro @Option.bind_none.{1,0} (And.intro @Option.bind_none.{1,1} (And.intro @j1k (And.intro @rH (And.intro @j5T (And.intro @j5V (And.intro @j5U (And.intro @j6W (And.intro @j5S (And.intro @tP (And.intro @tW.eq_1 (And.intro @tW.eq_2 (And.intro @nS.eq_1 (And.intro @TQ.eq_1 (And.intro @NO.eq_1 (And.intro @Option.getD_some.{0} (And.intro @Option.getD_some.{1} (And.intro @Option.isSome_some.{0} (And.intro @Option.isSome_some.{1} (And.intro @j1p (And.intro @j1q (And.intro @gM (And.intro @j5g.eq_1 (And.intro @j1l (And.intro @j1o (And.intro @j3Y (And.intro @rM (And.intro @rK (And.intro @rL (And.intro @rJ (And.intro @gY (And.intro @gZ (And.intro @j5o (And.intro @j5n (And.intro @j7e (And.intro @Nat.blt_eq (And.intro @j7v (And.intro @Int.toNat_zero (And.intro @j7g (And.intro @Option.some.injEq.{0} (And.intro @Option.some.injEq.{1} (And.intro @exists_eq_left'.{0} (And.intro @exists_eq_left'.{1} (And.intro @exists_eq_left.{0} (And.intro @exists_eq_left.{1} (And.intro @j2t (And.intro @j2u (And.intro @j2v (And.intro @j2s (And.intro @LV (And.intro @beq_true (And.intro @beq_false (And.intro @decide_not (And.intro @j64 (And.intro @sD.eq_1 (And.intro @sD.eq_2 (And.intro @j4g (And.intro @RJ.eq_1 (And.intro @j7f (And.intro @j3m.eq_1 (And.intro @j5e (And.intro @j51 (And.intro @j6C (And.intro @j5b (And.intro @j5c (And.intro @j59 (And.intro @j5a (And.intro @j5Z (And.intro @rO (And.intro @rS (And.intro @La.eq_1 (And.intro @Ts (And.intro @Tt (And.intro @j6l (And.intro @j6m (And.intro @j6n (And.intro @j6o (And.intro @j6p (And.intro @j6q (And.intro @j6r (And.intro @wX (And.intro @j3Z (And.intro @rP (And.intro @Lc.eq_1 (And.intro @j5X (And.intro @Kc.eq_1 (And.intro @DM.eq_1 (And.intro @DM.eq_2 (And.intro @Bool.not_true (@Bool.not_false)))))))))))))))))))))))))))))))))))))))))))))))))))))))))))))))))))))))))))))))))))))))))))))))))))))))))))))))))))))))))))))))))))))))))))))))))))))))))))))))))))))))))))))))))))))))))))))))))))))))))))))))))))))))))))))))))))))))))))))))))))))))))))))))))))))))))))))))))))))))))))))))))))))))))))))))))))))))))))))))))))))
def sQ:=And.intro @vB.eq_1 (And.intro @j1g (And.intro @j1f (And.intro @j1d (And.intro @j1c (And.intro @j3X (And.intro @j3V (And.intro @j3W (And.intro @Gi.eq_1 (And.intro @j1b (And.intro @tN (And.intro @iV (And.intro @oS.eq_1 (And.intro @oS.eq_2 (And.intro @oS.eq_3 (And.intro @oS.eq_4 (And.intro @yK (And.intro @DW (And.intro @Ol (And.intro @Mm (And.intro @j09 (And.intro @j0a (And.intro @List.zip_cons_cons.{0,0} (And.intro @List.zip_cons_cons.{0,1} (And.intro @List.zip_cons_cons.{1,0} (And.intro @List.zip_cons_cons.{1,1} (And.intro @List.zip_nil_left.{0,0} (And.intro @List.zip_nil_left.{0,1} (And.intro @List.zip_nil_left.{1,0} (And.intro @List.zip_nil_left.{1,1} (And.intro @beq_self_eq_true.{0} (@beq_self_eq_true.{1})))))))))))))))))))))))))))))))
theorem Jy:type_of%sR:=sR
theorem zG:type_of%sQ:=sQ
def j3s:=And.intro Jy (And.intro @qT (And.intro @put.eq_1 (And.intro @YU.eq_1 (And.intro @Qc (And.intro @List.nil_append.{0} (And.intro @List.nil_append.{1} (And.intro @List.drop_zero.{0} (And.intro @List.drop_zero.{1} (And.intro @List.take_zero.{0} (@List.take_zero.{1}))))))))))
theorem jN:type_of%j3s:=j3s
def j69:=And.intro @List.getElem?_toArray.{0} (And.intro @List.getElem?_cons_zero.{0} (And.intro @List.getElem?_cons_succ.{0} (And.intro @Ww.eq_1 (And.intro @Ww.eq_2 (@vB.eq_1)))))
theorem vO:type_of%j69:=j69
def j6a:=And.intro @iH (And.intro @WR (And.intro @List.size_toArray.{0} (And.intro @List.length_cons.{0} (And.intro @List.length_nil.{0} (And.intro @j0w (And.intro @Nat.zero_add (And.intro @Nat.zero_ne_one (And.intro @decide_true (And.intro @decide_false (And.intro @cond_true.{0} (And.intro @cond_true.{1} (And.intro @cond_false.{0} (@cond_false.{1})))))))))))))
theorem vP:type_of%j6a:=j6a
variable{μ1:Mu}{w1:World}
section
open Go Go.RowKit
variable {P:Program} {ρ:Nat->Value} {fl:Nat}
mutual
theorem rel.back{μ μ1:Mu}{w w1:World}(hm:yZ μ μ1):∀(a:AV) (v0 v:Value),rel ρ μ w a v0->rel ρ μ1 w1 a v->rel ρ μ w1 a v
 | .lit _,_,_,_,h=>by unfold rel at h ⊢;exact h
 | .ptr b off,_,_,h0,h=>by unfold rel at h0 h ⊢;obtain⟨r,base,e0,_⟩:=h0;obtain⟨r',base',e1,e2⟩:=h;rw[hm _ _ e0]at e1;cases e1;exact⟨r,base,e0,e2⟩
 | .sl b off len cap,_,_,h0,h=>by
   unfold rel at h0 h ⊢;rcases h with⟨r',base',o',c',e1,e2,e3,e4⟩|h
   ·rcases h0 with⟨r,base,o,c,e0,_⟩|⟨rfl,rfl,_⟩
    ·rw[hm _ _ e0]at e1;cases e1;exact .inl ⟨_,_,o',c',e0,e2,e3,e4⟩
    ·obtain⟨rfl,_,_⟩:=e4;exact .inr ⟨rfl,rfl,_,e2⟩
   ·exact .inr h
 | .mp b,_,_,h0,h=>by unfold rel at h0 h ⊢;obtain⟨r,e0,_⟩:=h0;obtain⟨r',e1,e2⟩:=h;rw[hm _ _ e0]at e1;cases e1;exact⟨r,e0,e2⟩
 | .agg l,_,_,h0,h=>by unfold rel at h0 h ⊢;obtain⟨l0,_,h0⟩:=h0;obtain⟨l',e,h⟩:=h;exact⟨l',e,qF.back hm l l0 l' h0 h⟩
 | .tup l,_,_,h0,h=>by unfold rel at h0 h ⊢;obtain⟨l0,_,h0⟩:=h0;obtain⟨l',e,h⟩:=h;exact⟨l',e,qF.back hm l l0 l' h0 h⟩
 | .ifc t a,_,_,h0,h=>by unfold rel at h0 h ⊢;obtain⟨u0,_,h0⟩:=h0;obtain⟨u,e,h⟩:=h;exact⟨u,e,rel.back hm a u0 u h0 h⟩
 | .fn f a b,_,_,h0,h=>by
   unfold rel at h0 h ⊢;obtain⟨f0,a0,b0,_,g0,h1,h2⟩:=h0;obtain⟨f',a',b',e,g,h3,h4⟩:=h;refine⟨f',a',b',e,?_,qF.back hm a a0 a' h1 h3,qF.back hm b b0 b' h2 h4⟩
   cases f<;>first
    |exact g
    |(obtain⟨r,e0,_⟩:=g0
      obtain⟨r',e1,e2⟩:=g
      rw[hm _ _ e0]at e1
      cases e1
      exact⟨r,e0,e2⟩)
 | .ext _,_,_,_,h=>by unfold rel at h ⊢;exact h
 | .any,_,_,_,h=>by unfold rel at h ⊢;exact h
 | .rng _ _ _,_,_,_,h=>by unfold rel at h ⊢;exact h
theorem qF.back{μ μ1:Mu}{w w1:World}(hm:yZ μ μ1):∀(a:List AV) (v0 v:List Value),qF ρ μ w a v0->qF ρ μ1 w1 a v->qF ρ μ w1 a v
 |[],_,_,_,h=>by unfold qF at h ⊢;exact h
 |x::xs,_,_,h0,h=>by unfold qF at h0 h ⊢;obtain⟨a0,r0,_,p0,q0⟩:=h0;obtain⟨a,r1,e,p,q⟩:=h;exact⟨a,r1,e,rel.back hm x a0 a p0 p,qF.back hm xs r0 r1 q0 q⟩
end
theorem QB.back(hm:yZ μ μ1){base base1:Nat}{c0 c1:Array Value}(h0:QB ρ μ w base l c0)(h1:QB ρ μ1 w1 base1 l c1):QB ρ μ w1 base1 l c1:=
 ⟨h1.1,fun i x hx=>by obtain⟨v0,_,a⟩:=h0.2 i x hx;obtain⟨v,e,b⟩:=h1.2 i x hx;exact⟨v,e,rel.back hm x v0 v a b⟩⟩
theorem kK.back{μ μ1:Mu}{w w1:World}(hm:yZ μ μ1):∀{l:List AE} {m0 m1:List MapEntry},kK ρ μ w l m0->kK ρ μ1 w1 l m1->kK ρ μ w1 l m1
 |[],_,_,_,h=>h
 |a::r,_,_,h0,h=>by obtain⟨e0,es0,_,⟨_,_,p0,_⟩,q0⟩:=h0;obtain⟨e,es,rfl,⟨g1,g2,p,g4⟩,q⟩:=h;exact⟨e,es,rfl,⟨g1,g2,rel.back hm _ _ _ p0 p,g4⟩,kK.back hm q0 q⟩
theorem XQ.back(hm:yZ μ μ1){base base1:Nat}{o0 o1:Obj}(h0:XQ P ρ μ w base ab o0)(h1:XQ P ρ μ1 w1 base1 ab o1):XQ P ρ μ w1 base1 ab o1:=by
 cases ab with
 |cells l e=>
  obtain⟨c0,_,a,_⟩:=h0;obtain⟨c1,e1,b,c⟩:=h1;exact⟨c1,e1,a.back hm b,c⟩
 |frz l e=>
  obtain⟨c0,_,_,a⟩:=h0;obtain⟨c1,fz,e1,b⟩:=h1;exact⟨c1,fz,e1,a.back hm b⟩
 |map es clock=>
  obtain⟨m0,_,_,a⟩:=h0;obtain⟨m1,e1,e2,b⟩:=h1;exact⟨m1,e1,e2,a.back hm b⟩
 |loop a=>
  obtain⟨l0,_,_,_,_,_,q0,_⟩:=h0;obtain⟨l1,e1,e2,p1,p2,p3,q1,p4,p5,p6⟩:=h1;exact⟨l1,e1,e2,p1,p2,p3,qF.back hm _ _ _ q0 q1,p4,p5,p6⟩
 |iter m since seen last=>
  obtain⟨_,m0,_,q0⟩:=h0
  obtain⟨e0,m1,e1,q1⟩:=h1
  refine⟨e0,m1,e1,?_⟩
  cases m with
  |none=>exact q1
  |some b=>
   obtain⟨r0,g0,_⟩:=q0;obtain⟨r1,g1,g2⟩:=q1;rw[hm _ _ g0]at g1;cases g1;exact⟨r0,g0,g2⟩
 |siter s pos=>exact h1
 |defd=>exact h1
 |gone=>trivial
theorem JQ.forget{h h1:List AB}(hr:Ns P ρ fl μ h w)(q:JQ P ρ fl μ h w μ1 h1 w1)(hl:∀b,b<h.length->h1[b]? =h[b]?):JQ P ρ fl μ h w μ h w1:=by refine⟨yZ.refl μ,jM _,fun b x e1 e2=>(by rw[e1]at e2;cases e2),fun _ _ _=>rfl,fun _ e=>e,fun _ _ _ e=>e,q.grows,q.size,fun b r base e1 e2=>(by rw[e1]at e2;cases e2),q.rest,q.same,?_⟩;refine⟨q.hr.floor,hr.dom,fun b r base ab e1 e2=> ?_,hr.inj,hr.pin.more (yZ.refl μ) q.grows⟩;have hb:=hr.dom b _ e1;obtain⟨p1,p2,o1,p3,p4⟩:=q.hr.obj b r base ab (q.more _ _ e1) (by rw[hl b hb];exact e2);obtain⟨_,_,o0,_,g4⟩:=hr.obj b r base ab e1 e2;exact⟨p1,p2,o1,p3,g4.back q.more p4⟩
theorem yD.forget{h1:AH}(hr:HR P ρ fl μ h w)(q:yD P ρ fl μ h w μ1 h1 w1)(he:zM h.n h h1):yD P ρ fl μ h w μ h w1:=
 JQ.forget hr q fun b hb=>by rw[Kn,Kn];exact he.2 b (by rw[show h.L.length=h.n from bZ _ _]at hb;exact hb)
theorem nR(ρ:Nat->Value)(fl:Nat):Uu P ρ fl oQ:=by intro f g args h v h' hs;cases hs
theorem nO{S:Qb}(hT:TT.Sound P T)(hNG:AJ P)(hMix:P.follows .mixedOrders=true)(hS:Uu P ρ fl S){x:Value}(hx:CN x=true)
 (hw:WC P T S f args h fun r h'=>zM h.n h h'/\r= .lit x)   {args':List Value} (hr:HR P ρ fl μ h w) (ha:qF ρ μ w args args'):
 Calls P f args'.toArray w fun e w'=>∃μ' v',e= .returned v'/\yD P ρ fl μ h w μ' h w'/\rel ρ μ' w' (.lit x) v':=by
 obtain⟨n,o,h1,hex,v,cm,rfl,he,rfl⟩:=hw
 intro cs
 obtain⟨_,h2⟩:=tH hT hNG hMix hS n _ _ _ _ hex
 obtain⟨_,μ',w',f',cs',q1,q2,q3,q4⟩:=h2 _ w cs args' hr ha trivial
 cases cm with
 |some m=>rename_i h3;cases h3
 |none=>
  have q4:cs'=cs:=q4;subst q4;obtain⟨r1,r2,r3,r4,fn,v',r5,r6,r7⟩:=q3;exact⟨.returned v',w',f',⟨μ,v',rfl,q1.forget hr he,by rw[xF r7];exact vN hx⟩,q2,r1,r4,r2,r3,fn,by rw[r1];exact r5,r6⟩
end
end Go.Proofs.YtcieggahhkoeeaaGreat.Ex
namespace Go.Proofs
section
open Go.Shelf
def Tryz.lays189_ren:Go.Shelf.Ren:=⟨fun|189=>143|125=>153|257=>152|128=>168|129=>169|294=>159|295=>160|296=>161|297=>162|298=>163|299=>164|216=>165|300=>166|301=>167|328=>174|329=>175|330=>176|331=>177|332=>178|215=>179|343=>181|n=>n,fun|28=>120|3=>3|46=>210|0=>0|51=>157|53=>272|4=>4|183=>264|182=>263|131=>148|5=>5|9=>9|218=>274|222=>278|228=>280|229=>281|n=>n,fun|n=>n⟩
theorem Tryz.lays189:Go.Proofs.Lays.n189 Tryz.prog Tryz.lays189_ren:={
 mixed:=by kernel_rfl,
 f125:=Tryz.func153.trans (congrArg some (by kernel_rfl)),
 f128:=Tryz.func168.trans (congrArg some (by kernel_rfl)),
 f129:=Tryz.func169.trans (congrArg some (by kernel_rfl)),
 f189:=Tryz.func143.trans (congrArg some (by kernel_rfl)),
 f215:=Tryz.func179.trans (congrArg some (by kernel_rfl)),
 f216:=Tryz.func165.trans (congrArg some (by kernel_rfl)),
 f257:=Tryz.func152.trans (congrArg some (by kernel_rfl)),
 f294:=Tryz.func159.trans (congrArg some (by kernel_rfl)),
 f295:=Tryz.func160.trans (congrArg some (by kernel_rfl)),
 f296:=Tryz.func161.trans (congrArg some (by kernel_rfl)),
 f297:=Tryz.func162.trans (congrArg some (by kernel_rfl)),
 f298:=Tryz.func163.trans (congrArg some (by kernel_rfl)),
 f299:=Tryz.func164.trans (congrArg some (by kernel_rfl)),
 f300:=Tryz.func166.trans (congrArg some (by kernel_rfl)),
 f301:=Tryz.func167.trans (congrArg some (by kernel_rfl)),
 f328:=Tryz.func174.trans (congrArg some (by kernel_rfl)),
 f329:=Tryz.func175.trans (congrArg some (by kernel_rfl)),
 f330:=Tryz.func176.trans (congrArg some (by kernel_rfl)),
 f331:=Tryz.func177.trans (congrArg some (by kernel_rfl)),
 f332:=Tryz.func178.trans (congrArg some (by kernel_rfl)),
 f343:=Tryz.func181.trans (congrArg some (by kernel_rfl)),
 t0:=Tryz.underlying0,
 a0:=Tryz.isAgg0,
 z0:=Tryz.sizeOf0,
 v0:=Tryz.zeroValue0,
 t3:=Tryz.underlying3,
 a3:=Tryz.isAgg3,
 z3:=Tryz.sizeOf3,
 v3:=Tryz.zeroValue3,
 t4:=Tryz.underlying4,
 a4:=Tryz.isAgg4,
 z4:=Tryz.sizeOf4,
 v4:=Tryz.zeroValue4,
 t5:=Tryz.underlying5,
 a5:=Tryz.isAgg5,
 z5:=Tryz.sizeOf5,
 v5:=Tryz.zeroValue5,
 t9:=Tryz.underlying9,
 a9:=Tryz.isAgg9,
 z9:=Tryz.sizeOf9,
 v9:=Tryz.zeroValue9,
 t28:=Tryz.underlying120,
 a28:=Tryz.isAgg120,
 z28:=Tryz.sizeOf120,
 v28:=Tryz.zeroValue120,
 t46:=Tryz.underlying210,
 a46:=Tryz.isAgg210,
 z46:=Tryz.sizeOf210,
 v46:=Tryz.zeroValue210,
 t51:=Tryz.underlying157,
 a51:=Tryz.isAgg157,
 z51:=Tryz.sizeOf157,
 v51:=Tryz.zeroValue157,
 t53:=Tryz.underlying272,
 a53:=Tryz.isAgg272,
 z53:=Tryz.sizeOf272,
 v53:=Tryz.zeroValue272,
 t131:=Tryz.underlying148,
 a131:=Tryz.isAgg148,
 z131:=Tryz.sizeOf148,
 v131:=Tryz.zeroValue148,
 t182:=Tryz.underlying263,
 a182:=Tryz.isAgg263,
 z182:=Tryz.sizeOf263,
 v182:=Tryz.zeroValue263,
 t183:=Tryz.underlying264,
 a183:=Tryz.isAgg264,
 z183:=Tryz.sizeOf264,
 v183:=Tryz.zeroValue264,
 t218:=Tryz.underlying274,
 a218:=Tryz.isAgg274,
 z218:=Tryz.sizeOf274,
 v218:=Tryz.zeroValue274,
 t222:=Tryz.underlying278,
 a222:=Tryz.isAgg278,
 z222:=Tryz.sizeOf278,
 v222:=Tryz.zeroValue278,
 t228:=Tryz.underlying280,
 a228:=Tryz.isAgg280,
 z228:=Tryz.sizeOf280,
 v228:=Tryz.zeroValue280,
 t229:=Tryz.underlying281,
 a229:=Tryz.isAgg281,
 z229:=Tryz.sizeOf281,
 v229:=Tryz.zeroValue281}
end
end Go.Proofs
namespace Go.Proofs.YtcieggahhkoeeaaGreat.Ex
variable{μ:Mu}{w:World}
section
open Go Go.RowKit Go.Sort
def VC(xs:List Int):List Int:=xs.mergeSort fun x y=>decide (x<=y)
def AU:List AV->Option (List Int)
 |[]=>some []
 | .lit (.int .i64 x)::r=>(AU r).map (x:: ·)
 |_::_=>none
def Ix(xs:List Int):List AV:=xs.map fun x=> .lit (.int .i64 x)
theorem IX:∀{l:List AV} {xs:List Int},AU l=some xs->l=Ix xs
 |[],xs,h=>by cases h;rfl
 |a::r,xs,h=>by
  unfold AU at h;split at h
  ·rename_i h0;cases h0
  ·rename_i x r' h0;cases h0;cases hr:AU r with
   |none=>rw[hr]at h;cases h
   |some ys=>
    rw[hr]at h;cases h;rw[IX hr];rfl
  ·cases h
theorem EU:∀xs:List Int,AU (Ix xs)=some xs
 |[]=>rfl
 |x::xs=>by show(AU (Ix xs)).map (x:: ·)=_;rw[EU xs];rfl
def Ml:List AV->AH->Option (AV×AH)
 |[.sl b 0 n _],h=>bif Nat.beq n 0 then some (.tup [],h)else match h.at b with
  |some (.cells l e)=>match AU l with
   |some xs=>bif Nat.beq n xs.length&&Nat.ble xs.length 4611686018427387903 then some (.tup [],h.put b (.cells (Ix (VC xs)) e))else none
   |none=>none
  |_=>none
 |[.lit (.slice none 0 0)],h=>some (.tup [],h)
 |_,_=>none
variable {ρ:Nat->Value} {fl:Nat}
theorem sV{P:Program}{h:AH}(hr:HR P ρ fl μ h w)(os:Array Obj):yD P ρ fl μ h w μ h (grow w os):=by
 have hx:∀r,r<w.heap.size->(grow w os).heap[r]? =w.heap[r]? :=fun r hr=>by unfold grow;simp only;rw[HY hr]
 have hlt:∀r o,w.heap[r]? =some o->r<w.heap.size:=fun r o h=>(Array.getElem?_eq_some_iff.1 h).1;have hsz:w.heap.size<=(grow w os).heap.size:=by unfold grow;simp
 have hg:Jt w (grow w os):=fun r cur e fz h=>⟨cur,e,fz,by rw[hx r (hlt r _ h)];exact h,rfl⟩;have hr':Ns P ρ fl μ h.L w:=hr;show JQ P ρ fl μ h.L w μ h.L (grow w os)
 exact⟨yZ.refl μ,jM _,fun b x h1 h2=>(by rw[h1]at h2;cases h2),fun _ _ _=>rfl,fun _ h=>h,fun _ _ _ h=>h,hg,hsz,fun b r base h1 h2=>(by rw[h1]at h2;cases h2),fun r h _=>hx r h,⟨rfl,rfl,rfl⟩,
  ⟨zY hr'.floor hsz,hr'.dom,fun b r base ab h1 h2=>let⟨h3,h4,o,h5,h6⟩:=hr'.obj b r base ab h1 h2;⟨h3,zS h4 hsz,o,by rw[hx r h4];exact h5,h6.mono (yZ.refl μ) hg⟩,hr'.inj,hr'.pin.more (yZ.refl μ) hg⟩⟩
theorem LF{α:Type}{enc:α->Value}{r:Nat}{e:TypeId}{cur:Array Value}{fz:Nat×Nat}(hg:w.heap[r]? =some (.cells cur e fz))(n off:Nat)(d:Array α)[Inhabited α]:
 MJ r w (putRow enc (Sort.ahead w n) r off d)/\(putRow enc (Sort.ahead w n) r off d).heap[r]? =some (.cells (putCells enc off d cur) e fz):=by
 have hat:(putRow enc (Sort.ahead w n) r off d).heap[r]? =some (.cells (putCells enc off d cur) e fz):=by unfold putRow mapBlock Sort.ahead;simp only[ZL,if_true,hg,qD,onCells]
 have hot:∀k,k≠r->(putRow enc (Sort.ahead w n) r off d).heap[k]? =w.heap[k]? :=fun k hk=>by unfold putRow mapBlock Sort.ahead;simp only[ZL];rw[if_neg (fun hh=>hk hh.symm)]
 refine⟨⟨by unfold putRow mapBlock Sort.ahead;simp,hot,fun k cur' e' fz' hk=> ?_,⟨rfl,rfl,rfl⟩⟩,hat⟩
 by_cases hkr:k=r
 ·subst hkr;rw[hg]at hk;obtain⟨rfl,rfl,rfl⟩:=Obj.cells.inj (jS hk);exact⟨_,_,_,hat,by unfold putCells;simp⟩
 ·exact⟨cur',e',fz',by rw[hot k hkr];exact hk,rfl⟩
theorem j06{h h':AH}{v:AV}{args:List AV}{args':List Value}(hg:Ml args h=some (v,h'))(hr:HR Tryz.prog ρ fl μ h w)(ha:qF ρ μ w args args'):
 Calls Tryz.prog 143 args'.toArray w fun e w'=>∃μ' v',e= .returned v'/\yD Tryz.prog ρ fl μ h w μ' h' w'/\rel ρ μ' w' v v':=by
 have hnone:∀p c,Calls Tryz.prog 143 #[.slice p 0 c] w fun e w'=>e= .returned (.tuple #[])/\w'=w:=fun p c=>Any.slices_Sort_int_none Tryz.lays189 p c w
 have hret:∀w',rel ρ μ w' (.tup []) (.tuple #[]):=fun w'=>by unfold rel;exact⟨[],rfl,rels_nil⟩
 unfold Ml at hg
 split at hg
 ·rename_i b n c;obtain⟨v1,vs,rfl,r1,r2⟩:=xB ha;obtain rfl:=xM r2;cases hn:Nat.beq n 0 with
  |true=>
   rw[hn]at hg;cases hg;have h0:n=0:=jY hn;subst h0;have hv:∃p c',v1= .slice p 0 c':=by
    rcases yP r1 with⟨r,base,o,c',_,rfl,_⟩|hh
    ·exact⟨_,_,rfl⟩
    ·obtain⟨h1,h2,p,rfl⟩:=hh;exact⟨_,_,rfl⟩
   obtain⟨p,c',rfl⟩:=hv;refine(hnone p c').mono fun e w' hy=> ?_;obtain⟨rfl,rfl⟩:=hy;exact⟨μ,_,rfl,yD.refl hr,hret _⟩
  |false=>
  rw[hn]at hg;simp only[cond_false]at hg;split at hg;case h_2=>cases hg
  rename_i l e hb;split at hg;case h_2=>cases hg
  rename_i xs hxs;cases hcc:(Nat.beq n xs.length&&Nat.ble xs.length 4611686018427387903)with
  |false=>rw[hcc]at hg;cases hg
  |true=>
  rw[hcc]at hg;cases hg;simp only[jW]at hcc;have hnx:n=xs.length:=jY hcc.1;have hle:xs.length<=4611686018427387903:=Nat.le_of_ble_eq_true hcc.2;have hn0:n≠0:=fun hh=>by subst hh;cases hn
  obtain rfl:=IX hxs;subst hnx;rcases yP r1 with⟨r,base,o,c',m1,rfl,hco,hcap⟩|hh
  case inr=>exact absurd hh.1 hn0
  have hc0:=(ZI hcap).1;have ho:o=base:=by rcases hco with h|h<;>omega
  subst ho;have hgb:KL h b=some (Ix xs,e):=by unfold KL;rw[hb]
  obtain⟨cur,k1,k2,k3⟩:=Xr hr m1 hgb;have hgx:∀(ys:List Int) (j:Nat) (hj:j<ys.length),(Ix ys)[j]? =some (.lit (.int .i64 ys[j])):=fun ys j hj=>by unfold Ix;rw[vF,jO hj];rfl
  have hlA:(Ix xs).length=xs.length:=by unfold Ix;simp
  have hH:Holds (Value.int .i64) w r o xs.toArray:=fun j hj=>by
   have hj':j<xs.length:=by simpa using hj
   obtain⟨v0,q1,q2⟩:=k2.2 j _ (hgx xs j hj');refine⟨?_,yC k1⟩;rw[qP k1,q1,xF q2];simp[hj']
  have hsl:(VC xs).length=xs.length:=by unfold VC;simp
  refine(Any.slices_Sort_int Tryz.lays189 r o c' xs w hH (Array.getElem?_eq_some_iff.1 k1).1 (by omega)).mono fun e' w' hy=> ?_;obtain⟨rfl,n',os,rfl⟩:=hy;obtain⟨hone,hat⟩:=LF (enc:=Value.int .i64) k1 n' o (VC xs).toArray;have hef:yD Tryz.prog ρ fl μ h w μ (h.put b (.cells (Ix (VC xs)) e)) (putRow (Value.int .i64) (Sort.ahead w n') r o (VC xs).toArray):=by
   refine yD.upd hr m1 hb rfl hone hat ⟨_,rfl,⟨?_,fun i x hi=> ?_⟩,fun hbg=> ?_⟩
   ·have:=k2.1;unfold putCells Ix;rw[hlA]at this;simpa [hsl]using this
   ·have hi':i<(VC xs).length:=by
     have:=(List.getElem?_eq_some_iff.1 hi).1
     unfold Ix at this
     simpa using this
    rw[hgx _ i hi']at hi
    cases hi
    refine⟨.int .i64 (VC xs)[i],?_,vN rfl⟩
    have hsz:=k2.1
    rw[hlA]at hsz
    unfold putCells
    rw[Array.getElem?_mapIdx,Jd (by omega)]
    simp only[qD,Dq]
    rw[if_pos ⟨Nat.le_add_right _ _,by omega⟩,show o+i-o=i by omega]
    simp[hi']
   ·obtain⟨b1,b2⟩:=k3 hbg;refine⟨b1,?_⟩;rw[hlA]at b2;unfold putCells Ix;simpa [hsl]using b2
  refine⟨μ,_,rfl,yD.trans hr hef (sV hef.hr os),hret _⟩
 ·cases hg;obtain⟨v1,vs,rfl,r1,r2⟩:=xB ha;obtain rfl:=xM r2;obtain rfl:=xF r1;refine(hnone none 0).mono fun e w' hy=> ?_;obtain⟨rfl,rfl⟩:=hy;exact⟨μ,_,rfl,yD.refl hr,hret _⟩
 ·cases hg
end
end Go.Proofs.YtcieggahhkoeeaaGreat.Ex
