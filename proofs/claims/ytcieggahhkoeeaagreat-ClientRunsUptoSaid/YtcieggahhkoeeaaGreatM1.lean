/- Part 1 of the proof: Region, Lib, Ex, Exr, Exh, Exo, Exp, Exq, Exs, Ext, Exu, Exv, Exw, Exm, Exn, Exx, Exy, Exz. -/
import Derived.WalkKit
import Derived.Deep.QuietTactic
import Derived.BigQuiet
import Derived.StillTailTactics
import Derived.WalkSpells
import Derived.WalkLawsBesides
import Derived.Handy
import Derived.Deep.AppendSrc
import Derived.Lib.Hide
import Derived.Lib.MinMax
import Derived.Orders
import Derived.Deep.MidRow
import Derived.Laws.IdiomStrings
import Derived.Laws.MakeOwn
import Derived.Defers
set_option linter.unusedSimpArgs false
set_option linter.unusedVariables false
set_option maxRecDepth 100000
set_option maxHeartbeats 16000000
namespace Go.Proofs.YtcieggahhkoeeaaGreat
open Go
theorem jM:type_of% @Nat.le_refl:=@Nat.le_refl
theorem jO:type_of% @List.getElem?_eq_getElem:=@List.getElem?_eq_getElem
theorem jP:type_of% @Option.some.injEq:=@Option.some.injEq
theorem jQ:type_of% @List.length_append:=@List.length_append
theorem jS:type_of% @Option.some.inj:=@Option.some.inj
theorem jT:type_of% @Option.map_eq_some_iff:=@Option.map_eq_some_iff
theorem jU:type_of% @List.getD_eq_getElem?_getD:=@List.getD_eq_getElem?_getD
theorem jV:type_of% @Prod.mk.injEq:=@Prod.mk.injEq
theorem jW:type_of% @Bool.and_eq_true:=@Bool.and_eq_true
theorem jY:type_of% @Nat.eq_of_beq_eq_true:=@Nat.eq_of_beq_eq_true
theorem jZ:type_of% @List.getElem?_append_left:=@List.getElem?_append_left
theorem zD:type_of% @List.getElem?_eq_some_iff:=@List.getElem?_eq_some_iff
theorem zN:type_of% @List.mem_append:=@List.mem_append
theorem zO:type_of% @List.eq_nil_of_length_eq_zero:=@List.eq_nil_of_length_eq_zero
theorem zP:type_of% @List.append_assoc:=@List.append_assoc
theorem zQ:type_of% @List.getElem?_append_right:=@List.getElem?_append_right
theorem zR:type_of% @List.mem_of_getElem?:=@List.mem_of_getElem?
theorem zS:type_of% @Nat.lt_of_lt_of_le:=@Nat.lt_of_lt_of_le
theorem zV:type_of% @List.length_take:=@List.length_take
theorem zX:type_of% @List.mem_singleton:=@List.mem_singleton
theorem zY:type_of% @Nat.le_trans:=@Nat.le_trans
theorem xA:type_of% @List.length_cons:=@List.length_cons
theorem xC:type_of% @List.take_length:=@List.take_length
theorem xH:type_of% @List.length_nil:=@List.length_nil
theorem xK:type_of% @List.drop_zero:=@List.drop_zero
theorem xN:type_of% @Array.getElem?_toList:=@Array.getElem?_toList
theorem xO:type_of% @Array.getElem?_eq_some_iff:=@Array.getElem?_eq_some_iff
theorem xP:type_of% @List.take_of_length_le:=@List.take_of_length_le
theorem xQ:type_of% @List.getElem?_cons_succ:=@List.getElem?_cons_succ
theorem xS:type_of% @List.nil_append:=@List.nil_append
theorem xT:type_of% @Result.andThen_ok:=@Result.andThen_ok
theorem xU:type_of% @Sem.run_bind:=@Sem.run_bind
theorem xW:type_of% @List.getElem?_cons_zero:=@List.getElem?_cons_zero
theorem qA:type_of% @List.take_zero:=@List.take_zero
theorem qD:type_of% @Option.map_some:=@Option.map_some
theorem qG:type_of% @List.all_eq_true:=@List.all_eq_true
theorem qH:type_of% @List.getElem?_take:=@List.getElem?_take
theorem qK:type_of% @List.getElem?_set_self:=@List.getElem?_set_self
theorem qL:type_of% @List.mem_cons:=@List.mem_cons
theorem qS:type_of% @List.drop_eq_getElem_cons:=@List.drop_eq_getElem_cons
theorem qU:type_of% @Array.length_toList:=@Array.length_toList
theorem qV:type_of% @List.take_add_one:=@List.take_add_one
theorem qW:type_of% @Nat.mul_le_mul_right:=@Nat.mul_le_mul_right
theorem qY:type_of% @List.getElem?_eq_none:=@List.getElem?_eq_none
theorem qZ:type_of% @Array.getElem?_setIfInBounds:=@Array.getElem?_setIfInBounds
theorem kH:type_of% @List.append_nil:=@List.append_nil
theorem kS:type_of% @Bool.and_self:=@Bool.and_self
theorem kT:type_of% @List.length_drop:=@List.length_drop
theorem kY:type_of% @List.map_cons:=@List.map_cons
theorem vD:type_of% @Int.toNat_natCast:=@Int.toNat_natCast
theorem vE:type_of% @List.flatten_cons:=@List.flatten_cons
theorem vF:type_of% @List.getElem?_map:=@List.getElem?_map
theorem vI:type_of% @Nat.add_assoc:=@Nat.add_assoc
theorem vK:type_of% @List.getElem?_set_ne:=@List.getElem?_set_ne
theorem vT:type_of% @Nat.zero_le:=@Nat.zero_le
theorem yA:type_of% @List.getElem?_drop:=@List.getElem?_drop
theorem yB:type_of% @List.mem_range:=@List.mem_range
theorem yE:type_of% @List.take_append_drop:=@List.take_append_drop
theorem yF:type_of% @Nat.ble_eq_true_of_le:=@Nat.ble_eq_true_of_le
theorem yG:type_of% @Nat.zero_add:=@Nat.zero_add
theorem yH:type_of% @List.length_map:=@List.length_map
theorem yI:type_of% @List.length_set:=@List.length_set
theorem yJ:type_of% @List.mem_iff_getElem:=@List.mem_iff_getElem
theorem yO:type_of% @Option.isSome_iff_exists:=@Option.isSome_iff_exists
theorem yT:type_of% @Option.bind_eq_some_iff:=@Option.bind_eq_some_iff
theorem Jd:type_of% @Array.getElem?_eq_getElem:=@Array.getElem?_eq_getElem
theorem Je:type_of% @Bool.false_eq_true:=@Bool.false_eq_true
theorem Jf:type_of% @Nat.pow_succ:=@Nat.pow_succ
theorem Jg:type_of% @Option.isSome_none:=@Option.isSome_none
theorem Jl:type_of% @Bool.and_false:=@Bool.and_false
theorem Jn:type_of% @Option.getD_some:=@Option.getD_some
theorem Ju:type_of% @Nat.sub_self:=@Nat.sub_self
theorem JH:type_of% @Nat.add_zero:=@Nat.add_zero
theorem JP:type_of% @List.contains_iff_mem:=@List.contains_iff_mem
theorem Zh:type_of% @List.drop_length:=@List.drop_length
theorem Zy:type_of% @Int.le_refl:=@Int.le_refl
theorem ZG:type_of% @List.mem_of_find?_eq_some:=@List.mem_of_find?_eq_some
theorem ZL:type_of% @Array.getElem?_modify:=@Array.getElem?_modify
theorem ZO:type_of% @List.append_of_mem:=@List.append_of_mem
theorem ZU:type_of% @Bool.true_and:=@Bool.true_and
theorem ZW:type_of% @List.sum_cons:=@List.sum_cons
theorem ZY:type_of% @List.mem_of_mem_take:=@List.mem_of_mem_take
theorem ZZ:type_of% @List.pairwise_append:=@List.pairwise_append
theorem Xu:type_of% @List.flatMap_append:=@List.flatMap_append
theorem XI:type_of% @List.drop_of_length_le:=@List.drop_of_length_le
theorem XJ:type_of% @List.mem_map:=@List.mem_map
theorem Qv:type_of% @List.set_eq_take_append_cons_drop:=@List.set_eq_take_append_cons_drop
theorem QD:type_of% @List.map_append:=@List.map_append
theorem QE:type_of% @Nat.min_eq_left:=@Nat.min_eq_left
theorem QH:type_of% @List.flatMap_cons:=@List.flatMap_cons
theorem Kl:type_of% @List.length_reverse:=@List.length_reverse
theorem Km:type_of% @List.take_succ_cons:=@List.take_succ_cons
theorem Ko:type_of% @List.pairwise_singleton:=@List.pairwise_singleton
theorem Kp:type_of% @Option.bind_some:=@Option.bind_some
theorem KO:type_of% @Nat.le_succ:=@Nat.le_succ
theorem KP:type_of% @Nat.mul_one:=@Nat.mul_one
theorem KW:type_of% @Sem.run_pure:=@Sem.run_pure
theorem Vp:type_of% @List.foldl_cons:=@List.foldl_cons
theorem VO:type_of% @List.ext_getElem?:=@List.ext_getElem?
theorem Ym:type_of% @Array.toArray_toList:=@Array.toArray_toList
theorem Yo:type_of% @List.mem_of_mem_drop:=@List.mem_of_mem_drop
theorem Yp:type_of% @Nat.pow_le_pow_right:=@Nat.pow_le_pow_right
theorem YQ:type_of% @IntKind.wrap_i64:=@IntKind.wrap_i64
theorem YR:type_of% @Nat.succ_mul:=@Nat.succ_mul
theorem YX:type_of% @Nat.shiftRight_eq_div_pow:=@Nat.shiftRight_eq_div_pow
theorem UN:type_of% @List.cons.inj:=@List.cons.inj
theorem Gn:type_of% @Bool.eq_iff_iff:=@Bool.eq_iff_iff
theorem Gp:type_of% @List.find?_cons:=@List.find?_cons
theorem Gt:type_of% @List.pairwise_cons:=@List.pairwise_cons
theorem Da:type_of% @Nat.add_mul:=@Nat.add_mul
theorem Dn:type_of% @Bool.false_and:=@Bool.false_and
theorem Dp:type_of% @List.map_nil:=@List.map_nil
theorem Dq:type_of% @List.size_toArray:=@List.size_toArray
theorem Dr:type_of% @Nat.zero_mul:=@Nat.zero_mul
theorem AM:type_of% @List.length_replicate:=@List.length_replicate
theorem Bp:type_of% @List.not_mem_nil:=@List.not_mem_nil
theorem BW:type_of% @Bool.not_true:=@Bool.not_true
theorem BX:type_of% @Bool.or_false:=@Bool.or_false
theorem Ek:type_of% @Bool.or_eq_true:=@Bool.or_eq_true
theorem Em:type_of% @Int.natCast_mul:=@Int.natCast_mul
theorem En:type_of% @List.all_append:=@List.all_append
theorem Eo:type_of% @List.take_left':=@List.take_left'
theorem Fx:type_of% @List.filterMap_cons:=@List.filterMap_cons
theorem Fy:type_of% @List.length_pos_iff:=@List.length_pos_iff
theorem Hj:type_of% @Array.getD_eq_getD_getElem?:=@Array.getD_eq_getD_getElem?
theorem HY:type_of% @Array.getElem?_append_left:=@Array.getElem?_append_left
theorem Ie:type_of% @List.filterMap_nil:=@List.filterMap_nil
theorem Ig:type_of% @List.mem_cons_self:=@List.mem_cons_self
theorem Ih:type_of% @Nat.add_sub_cancel:=@Nat.add_sub_cancel
theorem Nr:type_of% @Bool.eq_false_iff:=@Bool.eq_false_iff
theorem Nu:type_of% @List.reverse_cons:=@List.reverse_cons
theorem Ox:type_of% @Array.getElem?_replicate:=@Array.getElem?_replicate
theorem Oz:type_of% @List.all_cons:=@List.all_cons
theorem Rn:type_of% @Int.eq_ofNat_of_zero_le:=@Int.eq_ofNat_of_zero_le
theorem Ro:type_of% @List.cons_append:=@List.cons_append
theorem Rp:type_of% @List.getElem?_replicate:=@List.getElem?_replicate
theorem Wm:type_of% @Nat.beq_refl:=@Nat.beq_refl
theorem cQ:type_of% @Int.natCast_pow:=@Int.natCast_pow
theorem fV:type_of% @List.length_singleton:=@List.length_singleton
theorem fW:type_of% @List.mem_append_right:=@List.mem_append_right
theorem fX:type_of% @List.mem_iff_getElem?:=@List.mem_iff_getElem?
theorem fY:type_of% @List.set_append_right:=@List.set_append_right
theorem oV:type_of% @Bool.not_false:=@Bool.not_false
theorem pA:type_of% @List.take_take:=@List.take_take
theorem j0R:type_of% @Int.toNat_of_nonneg:=@Int.toNat_of_nonneg
theorem j0S:type_of% @List.getElem?_range:=@List.getElem?_range
theorem j3I:type_of% @Nat.eq_zero_or_pos:=@Nat.eq_zero_or_pos
theorem j3L:type_of% @Option.toList_some:=@Option.toList_some
theorem j5z:type_of% @Bool.not_eq_true':=@Bool.not_eq_true'
theorem j5E:type_of% @Nat.le_succ_of_le:=@Nat.le_succ_of_le
theorem j5F:type_of% @Nat.lt_or_ge:=@Nat.lt_or_ge
end Go.Proofs.YtcieggahhkoeeaaGreat
namespace Go.Proofs.YtcieggahhkoeeaaGreat
variable{i k n:Nat}{a:Act}{v:Value}
section
open Go.RowKit
section
variable {P:Program} {ops:Array Oper} {md:Region.Mode} {C:World->Prop}
def Xe(md:Region.Mode)(ops:Array Oper)(k:Nat):Nat->List Bool
 |0=>[]
 |i+1=>
  let b:=Xe md ops k i
  b++[decide (i=k)||(match ops[i]? with|some o=>o.after.any (fun e=>Region.binds md e&&decide (e.on<i)&&b.getD e.on false)|none=>false)]
theorem Xw(md:Region.Mode)(ops:Array Oper)(k:Nat):∀n,(Xe md ops k n).length=n
 |0=>rfl
 |n+1=>by simp[Xe,Xw md ops k n]
theorem Ux(md:Region.Mode)(ops:Array Oper)(k:Nat):∀(n i:Nat),(Xe md ops k n).getD i false=true->
 i=k\/∃o,ops[i]? =some o/\∃e∈o.after,Region.binds md e=true/\e.on<i/\(Xe md ops k i).getD e.on false=true
 |0,i,h=>by simp[Xe]at h
 |n+1,i,h=>by
  rcases Nat.lt_trichotomy i n with hi|hi|hi
  ·refine Ux md ops k n i ?_;simp only[Xe,jU]at h;rw[jZ (by rw[Xw];exact hi)]at h;simpa [jU]using h
  ·subst hi;simp only[Xe,jU]at h;rw[zQ (by rw[Xw];exact jM _),Xw,Ju]at h;simp only[xW,Jn,Ek,decide_eq_true_eq]at h;rcases h with h|h
   ·exact .inl h
   ·cases ho:ops[i]? with
    |none=>rw[ho]at h;cases h
    |some o=>
     rw[ho]at h;obtain⟨e,he,hb⟩:=Array.any_eq_true'.1 h;simp only[jW,decide_eq_true_eq]at hb;exact .inr ⟨o,rfl,e,he,hb.1.1,hb.1.2,by simpa [jU]using hb.2⟩
  ·have:(Xe md ops k (n+1))[i]? =none:=qY (by rw[Xw];omega);rw[jU,this]at h;cases h
def Bl(md:Region.Mode)(ops:Array Oper)(listed:Array Bool):Prop:=
 ∀j oj,ops[j]? =some oj->listed.getD j false=true->∀e∈oj.after,Region.binds md e=true->listed.getD e.on false=true
theorem Bl.set{listed:Array Bool}(h:Bl md ops listed)(hi:i∈Region.ready md ops listed):Bl md ops (listed.setIfInBounds i true):=by
 obtain⟨_,oi,hoi,hall⟩:=mem_ready.1 hi;intro j oj hj hl e he hb;by_cases hij:i=j
 ·subst hij;have:oj=oi:=jS (hj.symm.trans hoi);subst this;exact getD_set_true (hall e he hb)
 ·rw[getD_set_ne false hij]at hl;exact getD_set_true (h j oj hj hl e he hb)
theorem BU{listed:Array Bool}(hc:Bl md ops listed)(hk:listed.getD k false=false):∀(i n:Nat),(Xe md ops k n).getD i false=true->listed.getD i false=false:=by
 intro i;induction i using Nat.strongRecOn with
 |_ i ih=>
  intro n h;rcases Ux md ops k n i h with rfl|⟨o,ho,e,he,hb,hlt,hB⟩
  ·exact hk
  ·have h1:=ih e.on hlt i hB;cases hl:listed.getD i false with
   |false=>rfl
   |true=>
    have:=hc i o ho hl e he hb;rw[h1]at this;cases this
theorem VV{listed:Array Bool}(hc:Bl md ops listed)(hk:listed.getD k false=false)(hne:i≠k)(h:(Xe md ops k n).getD i false=true):i ∉ Region.ready md ops listed:=by
 intro hr;rcases Ux md ops k n i h with rfl|⟨o,ho,e,he,hb,hlt,hB⟩
 ·exact hne rfl
 ·obtain⟨_,o',ho',hall⟩:=mem_ready.1 hr;have:o'=o:=jS (ho'.symm.trans ho);subst this;have h1:=BU hc hk e.on i hB;have h2:=hall e he hb;rw[h1]at h2;cases h2
theorem Pd{listed:Array Bool}(h:listed.getD i true=false):listed.getD i false=false:=by
 rcases j5F i listed.size with h'|h'
 ·simp[h']at h ⊢;exact h
 ·simp[Array.getElem?_eq_none h']at h
def CP(l:List Oper)(is:List Nat):List Oper:=is.filterMap fun i=>l[i]?
def j6P(P:Program)(ops:Array Oper)(i:Nat)(K:Act->Prop)(a:Act):Prop:=
 match ops[i]? with
 |none=>K a
 |some o=>if Region.wanted o (yielded ops a.tmps)then∃v,(∀w,(execOp a.eval o).run P w= .ok (.value v) w)/\K (a.put o.dst v)else K (a.put o.dst undef)
def UL(P:Program)(ops:Array Oper)(Q:Act->Prop):List Oper->Act->Prop
 |[],a=>Q a
 |o::rest,a=>if Region.wanted o (yielded ops a.tmps)then∃v,(∀w,(execOp a.eval o).run P w= .ok (.value v) w)/\UL P ops Q rest (a.put o.dst v)else UL P ops Q rest (a.put o.dst undef)
theorem YO{Q:Act->Prop}(h:Q a):UL P ops Q [] a:=h
theorem Nq{o:Oper}{K:Act->Prop}(hi:ops[i]? =some o)(h:j6P P ops i K a):∃v,Yields P ops o v a/\K (a.put o.dst v):=by
 unfold j6P at h;simp only[hi]at h;by_cases hw:Region.wanted o (yielded ops a.tmps)=true
 ·simp only[hw,if_true]at h;obtain⟨v,h1,h2⟩:=h;exact⟨v,.inl ⟨hw,h1⟩,h2⟩
 ·simp only[hw]at h;exact⟨undef,.inr ⟨by simpa using hw,rfl⟩,h⟩
theorem Kb{o:Oper}(h:Yields P ops o v a):YieldsIn P ops C o v a:=
 h.imp (fun⟨hw,hv⟩=>⟨hw,fun w _=>by unfold Oper.quietAt;rw[hv w];exact⟨rfl,rfl⟩⟩) id
def j37(P:Program)(md:Region.Mode)(ops:Array Oper)(C:World->Prop)(Q:Exit->Act->World->Prop)(T:List Nat):Nat->Array Bool->Act->Prop
 |0,listed,a=>∀w,C w->wpAny P md ops Q 0 listed a w
 |f+1,listed,a=>(Region.ready md ops listed=[]->∀w,C w->Q .normal a w)/\∀i∈Region.ready md ops listed,
   if i∈T then∀w,C w->wpOp P ops Q i (fun a' w'=>wpAny P md ops Q f (listed.setIfInBounds i true) a' w') a w
   else qOp P ops C i (j37 P md ops C Q T f (listed.setIfInBounds i true)) a
theorem Ec{Q:Exit->Act->World->Prop}{T:List Nat}:∀(f:Nat) (listed:Array Bool) (a:Act),j37 P md ops C Q T f listed a->∀w,C w->wpAny P md ops Q f listed a w
 |0,_,_,h,w,hw=>h w hw
 |f+1,listed,a,h,w,hw=>by
  refine⟨fun h0=>h.1 h0 w hw,fun i hi=> ?_⟩;have h1:=h.2 i hi;by_cases hT:i∈T
  ·rw[if_pos hT]at h1;exact h1 w hw
  ·rw[if_neg hT]at h1;exact wpOp_of_qOp hw (fun a' w' hw' h'=>Ec f _ a' h' w' hw') h1
theorem EM{md:Region.Mode}{oi:Oper}{listed:Array Bool}(hfree:∀j oj,ops[j]? =some oj->j≠i->listed.getD j true=false->(∀e∈oj.after,Region.binds md e=true->e.on≠i)->oi.apart ops oj=true){j:Nat}(hjun:listed.getD j true=false):
 ∀k ok,ops[k]? =some ok->k≠i->(listed.setIfInBounds j true).getD k true=false->(∀e∈ok.after,Region.binds md e=true->e.on≠i)->oi.apart ops ok=true:=fun k ok hk hki hun hno=>by
 refine hfree k ok hk hki ?_ hno
 by_cases hjk:j=k
 ·subst hjk;exact hjun
 ·rw[getD_set_ne true hjk]at hun;exact hun
theorem uS{md:Region.Mode}{oj:Oper}{listed:Array Bool}(hun:listed.getD i true=false)(hall:∀e∈oj.after,Region.binds md e=true->listed.getD e.on false=true):
 ∀e∈oj.after,Region.binds md e=true->e.on≠i:=fun e he hb heq=>by
 have h1:=hall e he hb
 rw[heq,Pd hun]at h1
 cases h1
theorem cF{Q:Exit->Act->World->Prop}{T:List Nat}{oi:Oper}(hi:ops[i]? =some oi)(hsel:∀(j:Nat) (o:Oper) cs b,ops[j]? =some o->o.op≠ .select cs b)
 (hQ:∀c (a:Act) d v w,Q (.panic c) (a.put d v) w->Q (.panic c) a w) (hiT:i ∉ T):
 ∀(f:Nat) (listed:Array Bool) (a:Act),
  (∀j oj,ops[j]? =some oj->j≠i->listed.getD j true=false->(∀e∈oj.after,Region.binds md e=true->e.on≠i)->oi.apart ops oj=true)->
  i∈Region.ready md ops listed->Yields P ops oi v a->
  j37 P md ops C Q T f (listed.setIfInBounds i true) (a.put oi.dst v)->j37 P md ops C Q T (f+1) listed a:=by
 intro f
 induction f with
 |zero=>
  intro listed a hfree hr hy H;refine⟨fun h=>(by rw[h]at hr;cases hr),fun j hj=> ?_⟩;by_cases hji:j=i
  ·subst hji;rw[if_neg hiT];exact(Kb hy).qOp hi H
  ·by_cases hex:∃w,C w
   ·obtain⟨w,hw⟩:=hex;have:=ready_mono hj hji;rw[(H w hw).1]at this;cases this
   ·split
    ·exact fun w hw=>absurd ⟨w,hw⟩ hex
    ·obtain⟨hjun,oj,hoj,hall⟩:=mem_ready.1 hj;unfold qOp;simp only[hoj];split
     ·exact⟨undef,fun w hw=>absurd ⟨w,hw⟩ hex,fun w hw=>absurd ⟨w,hw⟩ hex⟩
     ·exact fun w hw=>absurd ⟨w,hw⟩ hex
 |succ f ih=>
  intro listed a hfree hr hy H;refine⟨fun h=>(by rw[h]at hr;cases hr),fun j hj=> ?_⟩;by_cases hji:j=i
  ·subst hji;rw[if_neg hiT];exact(Kb hy).qOp hi H
  ·have h1:=H.2 j (ready_mono hj hji);have hun:=(mem_ready.1 hr).1;obtain⟨hjun,oj,hoj,hall⟩:=mem_ready.1 hj;have hap:=hfree j oj hoj hji hjun (uS (md:=md) hun hall);by_cases hT:j∈T
   ·rw[if_pos hT]at h1 ⊢;intro w hw;have h2:=wpOp_put hoj hap (fun cs b=>hsel i oi cs b hi) (fun cs b=>hsel j oj cs b hoj) (fun c a w=>hQ c a _ _ w) hy (h1 w hw);refine wpOp_mono (fun a' w' h3=> ?_) h2;refine wpAny_first hi hsel (fun c a w=>hQ c a _ _ w) f (listed.setIfInBounds j true) a' w' (EM hfree hjun) (ready_mono hr (Ne.symm hji)) h3.1 ?_;rw[Array.setIfInBounds_comm _ _ hji];exact h3.2
   ·rw[if_neg hT]at h1 ⊢;have h2:=qOp_put hoj hap (fun cs b=>hsel i oi cs b hi) (fun cs b=>hsel j oj cs b hoj) (Kb (C:=C) hy) h1;have h3:qOp P ops C j (fun a'=>Yields P ops oi v a'/\j37 P md ops C Q T f ((listed.setIfInBounds i true).setIfInBounds j true) (a'.put oi.dst v)) a:=by obtain⟨q1,q2,q3⟩:=Oper.apart_spec hap;obtain⟨u,hu,hK⟩:=yieldsIn_of_qOp hoj h2;exact hu.qOp hoj ⟨hy.of_same (execOp_put oi (fun cs b=>hsel i oi cs b hi) a oj.dst u q3) (wanted_put oi a oj.dst u q3),hK.2⟩
    refine qOp_mono (fun a' h4=>ih (listed.setIfInBounds j true) a' (EM hfree hjun) (ready_mono hr (Ne.symm hji)) h4.1 ?_) h3;rw[Array.setIfInBounds_comm _ _ hji];exact h4.2
theorem cE{Q:Exit->Act->World->Prop}{T:List Nat}{oi:Oper}(hi:ops[i]? =some oi)(hsel:∀(j:Nat) (o:Oper) cs b,ops[j]? =some o->o.op≠ .select cs b)
 (hiT:i ∉ T) (hbe:∀j∈T,(Xe md ops i ops.size).getD j false=true):
 ∀(f:Nat) (listed:Array Bool) (a:Act),Bl md ops listed->
  (∀j oj,ops[j]? =some oj->j≠i->listed.getD j true=false->(∀e∈oj.after,Region.binds md e=true->e.on≠i)->oi.apart ops oj=true)->
  i∈Region.ready md ops listed->YieldsIn P ops C oi v a->
  j37 P md ops C Q T f (listed.setIfInBounds i true) (a.put oi.dst v)->j37 P md ops C Q T (f+1) listed a:=by
 intro f
 induction f with
 |zero=>
  intro listed a hc hfree hr hy H;refine⟨fun h=>(by rw[h]at hr;cases hr),fun j hj=> ?_⟩;have hjT:j ∉ T:=fun hT=>by have hji:j≠i:=fun e=>hiT (e▸hT);exact VV hc (Pd (mem_ready.1 hr).1) hji (hbe j hT) hj
  rw[if_neg hjT];by_cases hji:j=i
  ·subst hji;exact hy.qOp hi H
  ·by_cases hex:∃w,C w
   ·obtain⟨w,hw⟩:=hex;have:=ready_mono hj hji;rw[(H w hw).1]at this;cases this
   ·obtain⟨hjun,oj,hoj,hall⟩:=mem_ready.1 hj;unfold qOp;simp only[hoj];split
    ·exact⟨undef,fun w hw=>absurd ⟨w,hw⟩ hex,fun w hw=>absurd ⟨w,hw⟩ hex⟩
    ·exact fun w hw=>absurd ⟨w,hw⟩ hex
 |succ f ih=>
  intro listed a hc hfree hr hy H;refine⟨fun h=>(by rw[h]at hr;cases hr),fun j hj=> ?_⟩;have hjT:j ∉ T:=fun hT=>by have hji:j≠i:=fun e=>hiT (e▸hT);exact VV hc (Pd (mem_ready.1 hr).1) hji (hbe j hT) hj
  rw[if_neg hjT];by_cases hji:j=i
  ·subst hji;exact hy.qOp hi H
  ·have h1:=H.2 j (ready_mono hj hji);rw[if_neg hjT]at h1;have hun:=(mem_ready.1 hr).1;obtain⟨hjun,oj,hoj,hall⟩:=mem_ready.1 hj;have h2:=qOp_put hoj (hfree j oj hoj hji hjun (uS (md:=md) hun hall)) (fun cs b=>hsel i oi cs b hi) (fun cs b=>hsel j oj cs b hoj) hy h1;refine qOp_mono (fun a' h3=>ih (listed.setIfInBounds j true) a' (hc.set hj) (EM hfree hjun) (ready_mono hr (Ne.symm hji)) h3.1 ?_) h2;rw[Array.setIfInBounds_comm _ _ hji];exact h3.2
def Om(md:Region.Mode)(ops:Array Oper):List Nat->Array Bool->Bool
 |[],listed=>(Region.ready md ops listed).isEmpty
 |i::r,listed=>decide (Region.ready md ops listed=[i])&&Om md ops r (listed.setIfInBounds i true)
theorem Ad{Q:Exit->Act->World->Prop}{l:List Oper}(hl:ops=l.toArray):∀(T:List Nat) (listed:Array Bool) (a:Act) (w:World),Om md ops T listed=true->
 wpList P ops Q (CP l T) a w->wpAny P md ops Q T.length listed a w
 |[],_,_,_,hB,h=>⟨by simpa [Om]using hB,h⟩
 |i::r,listed,a,w,hB,h=>by
  simp only[Om,jW,decide_eq_true_eq]at hB;have hmem:i∈Region.ready md ops listed:=by rw[hB.1];simp
  obtain⟨_,o,ho,_⟩:=mem_ready.1 hmem;have ho':l[i]? =some o:=by subst hl;simpa using ho
  refine⟨fun h1=>(by rw[hB.1]at h1;cases h1),fun k hk=> ?_⟩;rw[hB.1]at hk;have hki:k=i:=by simpa using hk
  subst hki;have h':wpList P ops Q (o::CP l r) a w:=by simpa [CP,ho']using h
  have hw:wpOp P ops Q k (wpList P ops Q (CP l r)) a w:=by unfold wpOp;simp only[ho];exact h'
  exact wpOp_mono (fun a' w' h''=>Ad hl r _ a' w' hB.2 h'') hw
def wK(md:Region.Mode)(ops:Array Oper)(T:List Nat):List Nat->Array Bool->Bool
 |[],listed=>Om md ops T listed
 |i::r,listed=> !T.contains i&&(Region.ready md ops listed).contains i&&Region.free md ops listed i&&wK md ops T r (listed.setIfInBounds i true)
def wJ(md:Region.Mode)(ops:Array Oper)(I T:List Nat):List Nat->Array Bool->Bool
 |[],listed=>wK md ops T I listed
 |i::r,listed=> !T.contains i&&T.all (fun j=>(Xe md ops i ops.size).getD j false)&&(Region.ready md ops listed).contains i&&Region.free md ops listed i&&wJ md ops I T r (listed.setIfInBounds i true)
theorem Wb{Q:Exit->Act->World->Prop}{l:List Oper}(hl:ops=l.toArray)(hQ:∀c (a:Act) d v w,Q (.panic c) (a.put d v) w->Q (.panic c) a w)(hsel:Region.noSelect ops=true){T:List Nat}:
 ∀(I:List Nat) (listed:Array Bool) (a:Act),wK md ops T I listed=true->UL P ops (fun a'=>∀w,C w->wpList P ops Q (CP l T) a' w) (CP l I) a->j37 P md ops C Q T (I.length+T.length) listed a
 |[],listed,a,hB,h=>by
  simp only[wK]at hB;have key:∀w,C w->wpAny P md ops Q T.length listed a w:=fun w hw=>Ad hl T listed a w hB (h w hw);simp only[xH,yG];cases T with
  |nil=>exact key
  |cons i r=>
   simp only[Om,jW,decide_eq_true_eq]at hB;refine⟨fun h1=>(by rw[hB.1]at h1;cases h1),fun k hk=> ?_⟩;have hk':=hk;rw[hB.1]at hk';have hki:k=i:=by simpa using hk'
   subst hki;rw[if_pos (by simp)];exact fun w hw=>(key w hw).2 k hk
 |i::r,listed,a,hB,h=>by
  simp only[wK,jW,j5z]at hB;obtain⟨⟨⟨hT,hr⟩,hf⟩,hB'⟩:=hB;have hr':i∈Region.ready md ops listed:=by simpa using hr
  obtain⟨_,o,ho,_⟩:=mem_ready.1 hr';have ho':l[i]? =some o:=by subst hl;simpa using ho
  have hst:j6P P ops i (UL P ops (fun a'=>∀w,C w->wpList P ops Q (CP l T) a' w) (CP l r)) a:=by
   have h':UL P ops (fun a'=>∀w,C w->wpList P ops Q (CP l T) a' w) (o::CP l r) a:=by simpa [CP,ho']using h
   unfold j6P;simp only[ho];exact h'
  obtain⟨v,hy,hK⟩:=Nq ho hst;rw[show(i::r).length+T.length=(r.length+T.length)+1 by simp only[xA];omega];exact cF ho (Region.noSelect_spec hsel) hQ (by simpa using hT) _ listed a (Region.free_spec ho hf) hr' hy (Wb hl hQ hsel r _ _ hB' hK)
theorem Wa{Q:Exit->Act->World->Prop}{l:List Oper}(hl:ops=l.toArray)(hQ:∀c (a:Act) d v w,Q (.panic c) (a.put d v) w->Q (.panic c) a w)(hsel:Region.noSelect ops=true){I T:List Nat}:
 ∀(H:List Nat) (listed:Array Bool) (a:Act),Bl md ops listed->wJ md ops I T H listed=true->wpQuiet P ops C (fun a1=>UL P ops (fun a'=>∀w,C w->wpList P ops Q (CP l T) a' w) (CP l I) a1) (CP l H) a->
 j37 P md ops C Q T (H.length+(I.length+T.length)) listed a
 |[],listed,a,_,hB,h=>by simp only[wJ]at hB;simp only[xH,yG];exact Wb hl hQ hsel I listed a hB h
 |i::r,listed,a,hc,hB,h=>by
  simp only[wJ,jW,j5z]at hB;obtain⟨⟨⟨⟨hT,hbe⟩,hr⟩,hf⟩,hB'⟩:=hB;have hr':i∈Region.ready md ops listed:=by simpa using hr
  obtain⟨_,o,ho,_⟩:=mem_ready.1 hr';have ho':l[i]? =some o:=by subst hl;simpa using ho
  have hst:qOp P ops C i (wpQuiet P ops C (fun a1=>UL P ops (fun a'=>∀w,C w->wpList P ops Q (CP l T) a' w) (CP l I) a1) (CP l r)) a:=by
   have h':wpQuiet P ops C (fun a1=>UL P ops (fun a'=>∀w,C w->wpList P ops Q (CP l T) a' w) (CP l I) a1) (o::CP l r) a:=by simpa [CP,ho']using h
   unfold qOp;simp only[ho];exact h'
  obtain⟨v,hy,hK⟩:=yieldsIn_of_qOp ho hst;rw[show(i::r).length+(I.length+T.length)=(r.length+(I.length+T.length))+1 by simp only[xA];omega];exact cE ho (Region.noSelect_spec hsel) (by simpa using hT) (fun j hj=>List.all_eq_true.1 hbe j hj) _ listed a hc (Region.free_spec ho hf) hr' hy (Wa hl hQ hsel r _ _ (hc.set hr') hB' hK)
def j6A(ops:Array Oper)(H I T:List Nat):Bool:=Region.noSelect ops&&decide (H.length+(I.length+T.length)=ops.size)&&wJ .any ops I T H (Array.replicate ops.size false)
theorem QP{id:Nat}{Q:Exit->Act->World->Prop}{a:Act}{w:World}{l:List Oper}(H I T:List Nat)(hm:P.follows .mixedOrders=true)(hB:j6A l.toArray H I T=true)
 (hQ:∀c (a:Act) d v w,Q (.panic c) (a.put d v) w->Q (.panic c) a w)
 (h:wpQuiet P l.toArray (fun w'=>∃k,w'=w.drewN k) (fun a1=>UL P l.toArray (fun a'=>∀w',(∃k,w'=w.drewN k)->wpList P l.toArray Q (CP l T) a' w') (CP l I) a1) (CP l H) a):(Code.region id l.toArray true).wp P Q a w:=by
 simp only[j6A,jW,decide_eq_true_eq]at hB
 obtain⟨⟨hsel,hlen⟩,hmix⟩:=hB
 refine wp_region_any hm ?_
 have:=Ec _ _ _ (Wa (P:=P) (C:=fun w'=>∃k,w'=w.drewN k) (md:= .any) rfl hQ hsel H (Array.replicate l.toArray.size false) a (fun j oj _ hl=>by rw[getD_replicate_false]at hl;cases hl) hmix h) {w with drawn:=w.drawn+1} ⟨1,rfl⟩
 rwa [hlen]at this
end
end
variable{a w w':World}{F G:Nat->Prop}{g:Option Nat}{cur:Array Value}{e size:Nat}{fz:Nat×Nat}{l:List Value}
section
open Go.RowKit
structure Kept(F:Nat->Prop)(w w':World):Prop where
 os:w'.os=w.os
 tape:w'.tape=w.tape
 output:w'.output=w.output
 size:w.heap.size<=w'.heap.size
 block:∀k,k<w.heap.size->¬F k->w'.heap[k]? =w.heap[k]?
theorem Kept.refl(F:Nat->Prop)(w:World):Kept F w w:=⟨rfl,rfl,rfl,jM _,fun _ _ _=>rfl⟩
theorem Kept.trans{b c:World}(h:Kept F a b)(k:Kept F b c):Kept F a c:=
 ⟨k.os.trans h.os,k.tape.trans h.tape,k.output.trans h.output,zY h.size k.size,
   fun i hi hf=>(k.block i (zS hi h.size) hf).trans (h.block i hi hf)⟩
theorem Kept.transNew{b c:World}(h:Kept F a b)(k:Kept G b c)(hg:∀i,i<a.heap.size->G i->F i):Kept F a c:=
 ⟨k.os.trans h.os,k.tape.trans h.tape,k.output.trans h.output,zY h.size k.size,
   fun i hi hf=>(k.block i (zS hi h.size) (fun q=>hf (hg i hi q))).trans (h.block i hi hf)⟩
theorem Kept.mono(h:Kept F w w')(hg:∀i,i<w.heap.size->F i->G i):Kept G w w':=
 ⟨h.os,h.tape,h.output,h.size,fun k hk hn=>h.block k hk (fun q=>hn (hg k hk q))⟩
theorem Kept.drewN(F:Nat->Prop)(w:World)(n:Nat):Kept F w (w.drewN n):=⟨rfl,rfl,rfl,jM _,fun _ _ _=>rfl⟩
theorem Kept.drew(F:Nat->Prop)(w:World):Kept F w w.drew:=⟨rfl,rfl,rfl,jM _,fun _ _ _=>rfl⟩
theorem Kept.alloc(F:Nat->Prop)(w:World)(o:Obj):Kept F w (w.alloc o):=⟨rfl,rfl,rfl,by simp,fun k hk _=>Below.heap_alloc w o k hk⟩
theorem Kept.setCell(w:World)(a:Addr)(u:Value)(h:F a.block):Kept F w (w.setCell a u):=
 ⟨rfl,rfl,rfl,by simp[World.setCell],fun k _ hn=>Below.heap_setCell _ _ _ _ (fun e=>hn (e▸h))⟩
theorem Kept.dN(h:Kept F a w)(n:Nat):Kept F a (w.drewN n):=h.trans (Kept.drewN _ _ _)
theorem Kept.al(h:Kept F a w)(o:Obj):Kept F a (w.alloc o):=h.trans (Kept.alloc _ _ _)
theorem Kept.st(h:Kept F a w){p:Addr}(u:Value)(hp:F p.block\/a.heap.size<=p.block):Kept F a (w.setCell p u):=
 h.transNew (Kept.setCell (F:=fun k=>k=p.block) w p u rfl) (by rintro i hi rfl;rcases hp with hp|hp;exact hp;omega)
theorem Kept.thn{b c:World}(h:Kept F a b)(k:Kept G b c)(hg:∀i,G i->F i\/a.heap.size<=i):Kept F a c:=
 h.transNew k (fun i hi q=>by rcases hg i q with e|e;exact e;omega)
theorem Kept.below{B:Nat}(h:Kept F w w')(hb:B<=w.heap.size)(hf:∀k,F k->B<=k):Below B w w':=
 ⟨h.os,h.tape,h.output,h.size,fun k hk=>h.block k (by omega) (fun q=>by have:=hf k q;omega)⟩
theorem Kept.cell(h:Kept F w w'){a:Addr}(hl:a.block<w.heap.size)(hn:¬F a.block):w'.cell? a=w.cell? a:=
 World.cell?_of_block (h.block _ hl hn)
theorem Jp(w:World)(o:Obj):(w.alloc o).heap[w.heap.size]? =some o:=by show(w.heap.push o)[w.heap.size]? =_;simp
theorem j32(w:World)(a b:Obj):Kept (fun _=>False) w ((w.alloc a).alloc b)/\((w.alloc a).alloc b).heap[w.heap.size]? =some a/\((w.alloc a).alloc b).heap[w.heap.size+1]? =some b:=by refine⟨(Kept.alloc _ _ _).al _,(Below.heap_alloc _ _ _ (by simp)).trans (Jp w a),?_⟩;have:=Jp (w.alloc a) b;simpa using this
def bv(b:UInt8):Value:= .int .u8 (b.toNat:Int)
def Reads(w:World)(size:Nat)(v:Value)(n:Nat)(l:List Value)(g:Option Nat):Prop:=
 l.length=n * size/\((∃a c,v= .slice a 0 c/\n=0)\/
  ∃b off c,g=some b/\v= .slice (some ⟨b,off,none⟩) n c/\n<=c/\c<=maxLen/\∀j,j<l.length->w.cell? ⟨b,off+j,none⟩=l[j]?)
def Own(w:World)(e:TypeId)(size:Nat)(v:Value)(n:Nat)(l:List Value)(g:Option Nat):Prop:=
 l.length=n * size/\((g=none/\v= .slice none 0 0/\n=0)\/
  ∃b off c cur,g=some b/\v= .slice (some ⟨b,off,none⟩) n c/\n<=c/\c<=maxLen/\w.heap[b]? =some (.cells cur e (0,0))/\off+c * size<=cur.size/\∀j,j<l.length->cur[off+j]? =l[j]?)
theorem qP{g:Nat}{e:TypeId}(h:w.heap[g]? =some (.cells cur e fz)):w.cell? ⟨g,k,none⟩=cur[k]? :=by simp[World.cell?,h]
theorem yC{g:Nat}{e:TypeId}(h:w.heap[g]? =some (.cells cur e (0,0))):w.frozen? ⟨g,k,none⟩=false:=by simp[World.frozen?,h]
theorem VS{g:Nat}{o:Obj}(h:w.heap[g]? =some o):g<w.heap.size:=by simpa using(Array.getElem?_eq_some_iff.1 h).1
theorem qQ{g o:Nat}{e:TypeId}(h:w.heap[g]? =some (.cells cur e fz))(u:Value):
 (w.setCell ⟨g,o,none⟩ u).heap[g]? =some (.cells (cur.setIfInBounds o u) e fz):=by
 simp[World.setCell,ZL,h]
theorem Own.reads(h:Own w e size v n l g):Reads w size v n l g:=by
 obtain⟨h0,⟨rfl,rfl,rfl⟩|⟨b,off,c,cur,rfl,rfl,h1,h2,h3,h4,h5⟩⟩:=h
 ·exact⟨h0,.inl ⟨none,0,rfl,rfl⟩⟩
 ·exact⟨h0,.inr ⟨b,off,c,rfl,rfl,h1,h2,fun j hj=>by rw[qP h3];exact h5 j hj⟩⟩
theorem Own.shape(h:Own w e size v n l g):∃a c,v= .slice a n c/\n<=c/\c<=maxLen:=by
 obtain⟨h0,⟨rfl,rfl,rfl⟩|⟨b,off,c,cur,rfl,rfl,h1,h2,h3,h4,h5⟩⟩:=h
 ·exact⟨_,_,rfl,jM _,vT _⟩
 ·exact⟨_,_,rfl,h1,h2⟩
theorem Own.pos{c:Nat}{a:Option Addr}(h:Own w e size (.slice a n c) n l g)(hn:0<n):
 ∃b off cur,g=some b/\a=some ⟨b,off,none⟩/\n<=c/\c<=maxLen/\w.heap[b]? =some (.cells cur e (0,0))/\off+c * size<=cur.size/\l.length=n * size/\∀j,j<l.length->cur[off+j]? =l[j]? :=by
 obtain⟨h0,⟨rfl,h1,rfl⟩|⟨b,off,c',cur,rfl,h1,h2,h3,h4,h5,h6⟩⟩:=h
 ·omega
 ·simp at h1;obtain⟨rfl,rfl⟩:=h1;exact⟨b,off,cur,rfl,rfl,h2,h3,h4,h5,h0,h6⟩
theorem Own.lt(h:Own w e size v n l g):∀k,g=some k->k<w.heap.size:=by
 obtain⟨h0,⟨rfl,rfl,rfl⟩|⟨b,off,c,cur,rfl,rfl,h1,h2,h3,h4,h5⟩⟩:=h
 ·rintro k ⟨⟩
 ·rintro k ⟨⟩;exact VS h3
theorem Reads.shape(h:Reads w size v n l g):∃a c,v= .slice a n c/\n<=c:=by
 obtain⟨-,⟨a,c,rfl,hx⟩|⟨b,off,c,-,rfl,h1,-⟩⟩:=h
 ·rw[hx];exact⟨_,_,rfl,vT _⟩
 ·exact⟨_,_,rfl,h1⟩
theorem Reads.heap(h:Reads w size v n l g)(hg:∀k,g=some k->l≠[]->w'.heap[k]? =w.heap[k]?):Reads w' size v n l g:=by
 obtain⟨h0,h1|⟨b,off,c,rfl,rfl,h1,h2,h3⟩⟩:=h
 ·exact⟨h0,.inl h1⟩
 ·refine⟨h0,.inr ⟨b,off,c,rfl,rfl,h1,h2,fun j hj=> ?_⟩⟩;rw[World.cell?_of_block (a:=⟨b,off+j,none⟩) (hg b rfl (by intro e;subst e;simp at hj))];exact h3 j hj
theorem Reads.lt(h:Reads w size v n l g)(hl:l≠[]):∀k,g=some k->k<w.heap.size:=by
 obtain⟨h0,⟨a,c,rfl,rfl⟩|⟨b,off,c,rfl,rfl,h1,h2,h3⟩⟩:=h
 ·exact absurd (zO (by simpa using h0)) hl
 ·rintro k ⟨⟩;have hp:0<l.length:=List.length_pos_iff.2 hl;have:=h3 0 hp;rw[jO hp]at this;exact World.block_lt_of_cell? _ _ this
theorem Reads.drewN(h:Reads w size v n l g)(m:Nat):Reads (w.drewN m) size v n l g:=h.heap fun _ _ _=>rfl
theorem Reads.drew(h:Reads w size v n l g):Reads w.drew size v n l g:=h.heap fun _ _ _=>rfl
theorem Own.heap(h:Own w e size v n l g)(hg:∀k,g=some k->w'.heap[k]? =w.heap[k]?):Own w' e size v n l g:=by
 obtain⟨h0,h1|⟨b,off,c,cur,rfl,rfl,h1,h2,h3,h4,h5⟩⟩:=h
 ·exact⟨h0,.inl h1⟩
 ·exact⟨h0,.inr ⟨b,off,c,cur,rfl,rfl,h1,h2,(hg b rfl).trans h3,h4,h5⟩⟩
theorem Own.drewN(h:Own w e size v n l g)(m:Nat):Own (w.drewN m) e size v n l g:=h.heap fun _ _=>rfl
theorem Own.drew(h:Own w e size v n l g):Own w.drew e size v n l g:=h.heap fun _ _=>rfl
theorem Own.nil(w:World)(e size:Nat):Own w e size (.slice none 0 0) 0 [] none:=⟨by simp,.inl ⟨rfl,rfl,rfl⟩⟩
theorem Own.ne{e' p:Nat}{cs:Array Value}(h:Own w e size v n l g)(hp:w.heap[p]? =some (.cells cs e' fz))(he:e≠e'):∀k,g=some k->k≠p:=by
 obtain⟨h0,⟨rfl,rfl,rfl⟩|⟨b,off,c,cur,rfl,rfl,h1,h2,h3,h4,h5⟩⟩:=h
 ·rintro k ⟨⟩
 ·rintro k ⟨⟩ rfl;rw[h3]at hp;simp at hp;exact he hp.2.1
theorem Xd(b off k:Nat):(⟨b,off,none⟩:Addr).add k=⟨b,off+k,none⟩:=by unfold Addr.add;split<;>simp_all
theorem Zp{g:Nat}{e:TypeId}{fz:Nat×Nat}:∀(vs:List Value) (o:Nat) (w:World) (cur:Array Value),w.heap[g]? =some (.cells cur e fz)->o+vs.length<=cur.size->
 ∃cur',(w.setCells g o vs).heap[g]? =some (.cells cur' e fz)/\cur'.size=cur.size/\∀k,cur'[k]? =if o<=k/\k<o+vs.length then vs[k-o]? else cur[k]?
 |[],o,w,cur,h,_=>⟨cur,h,rfl,fun k=>by rw[if_neg (by simp)]⟩
 |v::r,o,w,cur,h,hl=>by
  have h1:(w.setCell ⟨g,o,none⟩ v).heap[g]? =some (.cells (cur.setIfInBounds o v) e fz):=by simp[World.setCell,ZL,h]
  simp only[xA]at hl;obtain⟨cur',h2,h3,h4⟩:=Zp r (o+1) _ _ h1 (by simp;omega);refine⟨cur',h2,by simpa using h3,fun k=> ?_⟩;rw[h4 k];simp only[xA];by_cases hk:k=o
  ·subst hk;rw[if_neg (by omega),if_pos (by omega)];simp[qZ];omega
  ·by_cases hk2:o+1<=k/\k<o+1+r.length
   ·rw[if_pos hk2,if_pos (by omega),show k-o=(k-(o+1))+1 by omega,xQ]
   ·rw[if_neg hk2,if_neg (by omega),qZ,if_neg (by omega)]
theorem YM(b:Nat):∀(vs:List Value) (o:Nat) (w:World),(w.setCells b o vs).heap.size=w.heap.size
 |[],_,_=>rfl
 |v::r,o,w=>by rw[World.setCells,YM b r];simp[World.setCell]
theorem YN(b:Nat):∀(vs:List Value) (o:Nat) (w:World),(w.setCells b o vs).tape=w.tape
 |[],_,_=>rfl
 |v::r,o,w=>by rw[World.setCells,YN b r];rfl
theorem QS(b:Nat):∀(vs:List Value) (o:Nat) (w:World) (k:Nat),k≠b->(w.setCells b o vs).heap[k]? =w.heap[k]?
 |[],_,_,_,_=>rfl
 |v::r,o,w,k,hk=>by rw[World.setCells,QS b r _ _ _ hk];exact Below.heap_setCell _ _ _ _ hk
theorem KB(b:Nat):∀(vs:List Value) (o:Nat) (w:World),(w.setCells b o vs).os=w.os/\(w.setCells b o vs).output=w.output
 |[],_,_=>⟨rfl,rfl⟩
 |v::r,o,w=>by rw[World.setCells];exact KB b r _ _
theorem Kept.setCells(w:World)(b o:Nat)(vs:List Value)(h:F b):Kept F w (w.setCells b o vs):=
 ⟨(KB b vs o w).1,YN b vs o w,(KB b vs o w).2,by rw[YM];exact jM _,
   fun k _ hn=>QS b vs o w k (fun e=>hn (e▸h))⟩
section
variable {P:Program}
theorem Reads.src{g:Option Nat}{l:List Value}(h:Reads w size v n l g){tx e':TypeId}(hk:P.underlying tx=some (.slice e'))(h1:∀u∈l,u.oneCell'=true):Src P size tx v n l w:=by
 obtain⟨h0,⟨a,c,rfl,rfl⟩|⟨b,off,c,rfl,rfl,h2,h3,h4⟩⟩:=h
 ·obtain rfl:l=[]:=zO (by simpa using h0);cases a with
  |none=>exact Src.ofNil w hk c
  |some a=>exact Src.ofSlice w hk a 0 c [] (by simp) (fun j u hu=>by simp at hu) h1
 ·refine Src.ofSlice w hk _ n c l h0 (fun j u hu=> ?_) h1;have hj:j<l.length:=(List.getElem?_eq_some_iff.1 hu).1;have hadd:(⟨b,off,none⟩:Addr).add j=⟨b,off+j,none⟩:=by unfold Addr.add;split<;>simp_all
  rw[hadd,h4 j hj,hu]
theorem UY:∀(l:List UInt8) (s:ByteArray),(l.map fun b=>(b.toNat:Int)).foldl (fun r n=>r.push (UInt8.ofNat n.toNat)) s=⟨s.data++l.toArray⟩
 |[],s=>by simp
 |b::r,s=>by
  simp only[kY,Vp];rw[UY r];have:UInt8.ofNat ((b.toNat:Int)).toNat=b:=by simp
  rw[this];congr 1;simp[ByteArray.push]
theorem Reads.string_run{src dst:Nat}{g:Option Nat}{bs:List UInt8}(h:Reads w 1 v n (bs.map bv) g)(hs:P.underlying src=some (.slice e))(he:P.underlying e=some (.int .u8))(hd:P.underlying dst=some .string):
 (convert src dst v).run P w= .ok (.string ⟨bs.toArray⟩) w:=by
 obtain⟨h0,⟨a,c,rfl,rfl⟩|⟨b,off,c,rfl,rfl,h2,h3,h4⟩⟩:=h
 ·obtain rfl:bs=[]:=zO (by simpa using h0);rw[run_convert_bytes_string w src dst e a 0 c hs he hd];cases a with
  |none=>simp[Conv.bytesToString,ByteArray.empty,ByteArray.emptyWithCapacity];rfl
  |some a=>
   have hl:=run_firstCells_some (P:=P) w 1 0 a 0 c [] (by simp) (fun j u hu=>by simp at hu);simp only[Builtin.firstCells,KP]at hl;rw[run_bytesToString w _ _ _ [] (by simpa using hl)];rfl
 ·have hn:n=bs.length:=by simpa using h0.symm
  subst hn;rw[run_convert_bytes_string w src dst e _ _ c hs he hd];have hm:bs.map bv=(bs.map fun b=>(b.toNat:Int)).map (Value.int .u8):=by simp[bv,Function.comp_def]
  have hl:=run_firstCells_some (P:=P) w 1 bs.length ⟨b,off,none⟩ bs.length c (bs.map bv) (by simp) (fun j u hu=>by have hj:j<(bs.map bv).length:=(List.getElem?_eq_some_iff.1 hu).1;rw[Xd,h4 j hj,hu]);simp only[Builtin.firstCells,KP]at hl;rw[hm]at hl;rw[run_bytesToString w _ _ _ _ hl,UY];simp[ByteArray.empty,ByteArray.emptyWithCapacity];rfl
end
end
end Go.Proofs.YtcieggahhkoeeaaGreat
namespace Go.Proofs.YtcieggahhkoeeaaGreat.Ex
open Go
section
inductive Tri (α:Type) where
 |e
 |n (l:Tri α) (v:α) (r:Tri α)
variable {α:Type}
def Tri.get(d:α):Tri α->Nat->α
 | .e,_=>d
 | .n l v r,k=>bif Nat.ble k 1 then v else bif Nat.beq (k%2) 0 then l.get d (k/2)else r.get d (k/2)
def Tri.lt:Tri α->Tri α
 | .e=> .e
 | .n l _ _=>l
def Tri.rt:Tri α->Tri α
 | .e=> .e
 | .n _ _ r=>r
def Tri.top(d:α):Tri α->α
 | .e=>d
 | .n _ v _=>v
def Tri.put(d:α):Nat->Tri α->Nat->α->Tri α
 |0,t,_,_=>t
 |f+1,t,k,x=>bif Nat.ble k 1 then .n t.lt x t.rt else bif Nat.beq (k%2) 0 then .n (Tri.put d f t.lt (k/2) x) (t.top d) t.rt else .n t.lt (t.top d) (Tri.put d f t.rt (k/2) x)
structure oR(α:Type) where
 t:Tri α
 n:Nat
def j3G(d:α)(h:oR α)(b:Nat):Option α:=bif Nat.blt b h.n then some (h.t.get d (b+1))else none
def nW(d:α)(h:oR α)(b:Nat)(x:α):oR α:=bif Nat.blt b h.n then⟨h.t.put d (Nat.log2 (b+1)+1) (b+1) x,h.n⟩else h
def TX(d:α)(h:oR α)(x:α):oR α:=⟨h.t.put d (Nat.log2 (h.n+1)+1) (h.n+1) x,h.n+1⟩
def vL(d:α)(h:oR α):List α:=(List.range h.n).map fun b=>h.t.get d (b+1)
theorem Cr(d:α):∀(f:Nat) (t:Tri α) (k j:Nat) (x:α),1<=k->1<=j->k<2^f->(t.put d f k x).get d j=if j=k then x else t.get d j
 |0,t,k,j,x,hk,_,hf=>by simp at hf;omega
 |f+1,t,k,j,x,hk,hj,hf=>by
  have e1:t.get d j=if j<=1 then t.top d else if j%2=0 then t.lt.get d (j/2)else t.rt.get d (j/2):=by
   cases t with
   |e=>simp[Tri.get,Tri.lt,Tri.rt,Tri.top]
   |n l v r=>
    simp only[Tri.get,Tri.lt,Tri.rt,Tri.top];by_cases h1:j<=1
    ·rw[if_pos h1,Nat.ble_eq.mpr h1];rfl
    ·rw[if_neg h1,Bool.eq_false_iff.mpr (fun h=>h1 (Nat.ble_eq.mp h))];by_cases h2:j%2=0
     ·rw[if_pos h2,h2];rfl
     ·rw[if_neg h2,show Nat.beq (j%2) 0=false from Bool.eq_false_iff.mpr (fun h=>h2 (jY h))];rfl
  have e2:∀(l:Tri α) (v:α) (r:Tri α),(Tri.n l v r).get d j=if j<=1 then v else if j%2=0 then l.get d (j/2)else r.get d (j/2):=fun l v r=>by
   simp only[Tri.get];by_cases h1:j<=1
   ·rw[if_pos h1,Nat.ble_eq.mpr h1];rfl
   ·rw[if_neg h1,Bool.eq_false_iff.mpr (fun h=>h1 (Nat.ble_eq.mp h))];by_cases h2:j%2=0
    ·rw[if_pos h2,h2];rfl
    ·rw[if_neg h2,show Nat.beq (j%2) 0=false from Bool.eq_false_iff.mpr (fun h=>h2 (jY h))];rfl
  rw[e1];simp only[Tri.put];by_cases h1:k<=1
  ·rw[Nat.ble_eq.mpr h1];simp only[cond_true];rw[e2];by_cases hj1:j<=1
   ·rw[if_pos hj1,if_pos (by omega)]
   ·have hjk:¬j=k:=by omega
    simp only[if_neg hj1,if_neg hjk]
  ·rw[Bool.eq_false_iff.mpr (fun h=>h1 (Nat.ble_eq.mp h))];simp only[cond_false];have hf2:k/2<2^f:=by rw[Jf]at hf;omega
   by_cases h2:k%2=0
   ·rw[h2];rw[show Nat.beq 0 0=true from rfl,cond_true,e2];by_cases hj1:j<=1
    ·have hjk:¬j=k:=by omega
     simp only[if_pos hj1,if_neg hjk]
    ·simp only[if_neg hj1];by_cases hj2:j%2=0
     ·simp only[if_pos hj2];rw[Cr d f _ _ _ _ (by omega) (by omega) hf2];by_cases hjk:j=k
      ·rw[if_pos (by omega),if_pos hjk]
      ·rw[if_neg (by omega),if_neg hjk]
     ·have hjk:¬j=k:=by omega
      simp only[if_neg hj2,if_neg hjk]
   ·rw[show Nat.beq (k%2) 0=false from Bool.eq_false_iff.mpr (fun h=>h2 (jY h)),cond_false,e2];by_cases hj1:j<=1
    ·have hjk:¬j=k:=by omega
     simp only[if_pos hj1,if_neg hjk]
    ·simp only[if_neg hj1];by_cases hj2:j%2=0
     ·have hjk:¬j=k:=by omega
      simp only[if_pos hj2,if_neg hjk]
     ·simp only[if_neg hj2];rw[Cr d f _ _ _ _ (by omega) (by omega) hf2];by_cases hjk:j=k
      ·rw[if_pos (by omega),if_pos hjk]
      ·rw[if_neg (by omega),if_neg hjk]
theorem bZ(d:α)(h:oR α):(vL d h).length=h.n:=by simp[vL]
theorem Ot(d:α)(h:oR α)(b:Nat):(vL d h)[b]? =j3G d h b:=by
 unfold vL j3G;rw[vF];by_cases hb:b<h.n
 ·rw[j0S hb,show Nat.blt b h.n=true from Nat.blt_eq.mpr hb];rfl
 ·rw[qY (by simp;omega),show Nat.blt b h.n=false from Bool.eq_false_iff.mpr (fun hh=>hb (Nat.blt_eq.mp hh))];rfl
theorem log2_lt(k:Nat)(hk:1<=k):k<2^(Nat.log2 k+1):=Nat.lt_log2_self
theorem j0v(d:α)(h:oR α)(b:Nat)(x:α):vL d (nW d h b x)=(vL d h).set b x:=by
 apply VO;intro j;rw[Ot,List.getElem?_set,bZ,Ot];unfold nW;by_cases hb:b<h.n
 ·rw[show Nat.blt b h.n=true from Nat.blt_eq.mpr hb,cond_true];unfold j3G;simp only;by_cases hj:j<h.n
  ·rw[show Nat.blt j h.n=true from Nat.blt_eq.mpr hj,cond_true,cond_true,Cr d _ _ _ _ _ (by omega) (by omega) (log2_lt _ (by omega))];by_cases hbj:b=j
   ·rw[if_pos (by omega),if_pos hbj,if_pos hb]
   ·rw[if_neg (by omega),if_neg hbj]
  ·rw[show Nat.blt j h.n=false from Bool.eq_false_iff.mpr (fun hh=>hj (Nat.blt_eq.mp hh)),cond_false,cond_false,if_neg (by omega)]
 ·rw[show Nat.blt b h.n=false from Bool.eq_false_iff.mpr (fun hh=>hb (Nat.blt_eq.mp hh)),cond_false];by_cases hbj:b=j
  ·subst hbj;rw[if_pos rfl,if_neg hb];unfold j3G;rw[show Nat.blt b h.n=false from Bool.eq_false_iff.mpr (fun hh=>hb (Nat.blt_eq.mp hh)),cond_false]
  ·rw[if_neg hbj]
theorem j35(d:α)(h:oR α)(x:α):vL d (TX d h x)=vL d h++[x]:=by
 apply VO;intro j;rw[Ot];unfold j3G TX;simp only;by_cases hj:j<h.n
 ·rw[show Nat.blt j (h.n+1)=true from Nat.blt_eq.mpr (by omega),cond_true,Cr d _ _ _ _ _ (by omega) (by omega) (log2_lt _ (by omega)),if_neg (by omega),jZ (by rw[bZ];exact hj),Ot];unfold j3G;rw[show Nat.blt j h.n=true from Nat.blt_eq.mpr hj,cond_true]
 ·rw[zQ (by rw[bZ];omega),bZ];by_cases hjn:j=h.n
  ·subst hjn;rw[show Nat.blt h.n (h.n+1)=true from Nat.blt_eq.mpr (by omega),cond_true,Cr d _ _ _ _ _ (by omega) (by omega) (log2_lt _ (by omega)),if_pos rfl,Ju];rfl
  ·rw[show Nat.blt j (h.n+1)=false from Bool.eq_false_iff.mpr (fun hh=>by have:=Nat.blt_eq.mp hh;omega),cond_false,qY (by simp;omega)]
inductive Cap where
 |kn (k:Nat)
 |un (z:Nat)
 deriving Repr
inductive AV where
 |lit (v:Value)
 |ptr (b off:Nat)
 |sl (b off len:Nat) (cap:Cap)
 |mp (b:Nat)
 |agg (l:List AV)
 |tup (l:List AV)
 |ifc (t:TypeId) (v:AV)
 |fn (f:Fn) (first caps:List AV)
 |ext (i:Nat)
 |rng (i:Nat) (lo hi:Option Int)
 |any
instance:Inhabited AV:=⟨.lit (.bool false)⟩
abbrev TM:=oR AV
def TM.at(h:TM)(b:Nat):Option AV:=j3G (.tup []) h b
def TM.set(h:TM)(b:Nat)(x:AV):TM:=nW (.tup []) h b x
def TM.fill:TM->Nat->List AV->TM
 |m,_,[]=>m
 |m,k,x::r=>TM.fill (m.set k x) (k+1) r
def TM.ofL(l:List AV)(n:Nat):TM:=TM.fill ⟨.e,l.length+n⟩ 0 l
def TM.L(h:TM):List AV:=vL (.tup []) h
theorem gE(h:TM):h.L.length=h.n:=bZ _ _
theorem YZ(h:TM)(b:Nat):h.L[b]? =h.at b:=Ot _ _ _
theorem Gv(h:TM)(b:Nat)(x:AV):(h.set b x).L=h.L.set b x:=j0v _ _ _ _
theorem pX(h:TM)(b:Nat)(x:AV):(h.set b x).n=h.n:=by rw[<-gE,Gv,yI,gE]
theorem Sn:∀(l:List AV) (m:TM) (k j:Nat),k+l.length<=m.n->(TM.fill m k l).L[j]? =if k<=j/\j<k+l.length then l[j-k]? else m.L[j]?
 |[],m,k,j,_=>by rw[if_neg (by simp)];rfl
 |x::r,m,k,j,hk=>by
  simp only[xA]at hk ⊢;rw[TM.fill,Sn r _ (k+1) j (by rw[pX];omega),Gv];by_cases h1:k+1<=j/\j<k+1+r.length
  ·rw[if_pos h1,if_pos (by omega),show j-k=(j-(k+1))+1 by omega,xQ]
  ·rw[if_neg h1];by_cases h2:j=k
   ·subst h2;rw[if_pos (by omega),qK (by rw[gE];omega),Ju];rfl
   ·rw[if_neg (by omega),vK (by omega)]
theorem j1K(m:Nat):TM.L ⟨.e,m⟩=List.replicate m (AV.tup []):=by
 unfold TM.L vL;apply VO;intro j;rw[vF,Rp];simp only;by_cases hj:j<m
 ·rw[if_pos hj,j0S hj];rfl
 ·rw[if_neg hj,qY (by simp;omega)];rfl
theorem eK(l:List AV)(n:Nat):(TM.ofL l n).L=l++List.replicate n (.tup []):=by
 apply VO;intro j;unfold TM.ofL;rw[Sn l _ 0 j (by simp),j1K];by_cases h1:j<l.length
 ·rw[if_pos (by omega),Nat.sub_zero,jZ h1]
 ·rw[if_neg (by omega),zQ (by omega),Rp,Rp];by_cases h2:j<l.length+n
  ·rw[if_pos h2,if_pos (by omega)]
  ·rw[if_neg h2,if_neg (by omega)]
def Ra(l:List AV):TM:=TM.ofL l 0
theorem j0p(l:List AV):(Ra l).L=l:=by rw[Ra,eK];simp
theorem j30(l:List AV)(k:Nat):(Ra l).at k=l[k]? :=by rw[<-YZ,j0p]
structure AE where
 key:Value
 val:AV
 born:Nat
structure cM where
 state:LoopState
 pending:Option Code
 fn:FuncId
 tmps:TM
 params:List Tmp
 assign:Code
 body:Code
inductive AB where
 |cells (l:List AV) (e:TypeId)
 |frz (l:List AV) (e:TypeId)
 |map (es:List AE) (clock:Nat)
 |loop (l:cM)
 |iter (m:Option Nat) (since:Nat) (seen:List Nat) (last:Nat)
 |siter (s:ByteArray) (pos:Nat)
 |defd
 |gone
abbrev AH:=oR AB
def AH.at(h:AH)(b:Nat):Option AB:=j3G .gone h b
def AH.put(h:AH)(b:Nat)(x:AB):AH:=nW .gone h b x
def AH.push(h:AH)(x:AB):AH:=TX .gone h x
def AH.nil:AH:=⟨.e,0⟩
def CN:Value->Bool
 | .bool _| .int _ _| .string _| .pointer none| .slice none 0 0| .map none| .nilFunc| .nilIface=>true
 |_=>false
def BN(v:Value):Option AV:=if CN v then some (.lit v)else none
def CB:List Value->Option (List AV)
 |[]=>some []
 |v::r=>match BN v,CB r with
  |some x,some y=>some (x::y)
  |_,_=>none
def Yx:Value->Option AV
 | .agg cs=>(CB cs.toList).map .agg
 |v=>BN v
def CD:List Value->Option (List AV)
 |[]=>some []
 |v::r=>match Yx v,CD r with
  |some x,some y=>some (x::y)
  |_,_=>none
def Ba:Value->Option AV
 | .tuple vs=>(CD vs.toList).map .tup
 | .iface t v=>(Yx v).map (.ifc t)
 |v=>Yx v
def Vn:List AV->Option (List Value)
 |[]=>some []
 | .lit v::r=>(Vn r).map (v:: ·)
 |_::_=>none
def ZT:AV->Option Value
 | .lit v=>some v
 | .agg l=>(Vn l).map fun l=> .agg l.toArray
 | .ifc t (.lit v)=>some (.iface t v)
 | .ifc t (.agg l)=>(Vn l).map fun l=> .iface t (.agg l.toArray)
 |_=>none
def AV.cells:AV->List AV
 | .agg l=>l
 |v=>[v]
inductive PR (α:Type) where
 |ok (a:α)
 |pan (v:Value)
def yS(P:Program){α:Type}:Sem α->Option (PR α)
 | .pure a=>some (.ok a)
 | .program k=>yS P (k P)
 | .mark _ k=>yS P k
 | .halt (.panic v)=>some (.pan v)
 |_=>none
inductive AN where
 |val (v:AV)
 |enter (f:FuncId) (args:List AV)
 |round (l:Nat) (args:List AV)
 |defer (f:FuncId) (args:List AV)
 |recover
 |pan (v:AV)
def kV:AV:= .tup []
def xJ(tmps:TM):Operand->Option AV
 | .tmp t=>some ((tmps.at t).getD kV)
 | .const v=>Ba v
 | .func f=>some (.fn (.func f) [] [])
 | .global _=>none
def XS(tmps:TM):List Operand->Option (List AV)
 |[]=>some []
 |x::r=>match xJ tmps x,XS tmps r with
  |some v,some vs=>some (v::vs)
  |_,_=>none
structure TI where
 desc:TypeDesc
 size:Nat
 bytes:Nat
 zero:AV
 ck:Value->Bool
 eq:Value->Value->Option Bool
abbrev TT:=TypeId->Option TI
def und(T:TT)(t:TypeId):Option TypeDesc:=(T t).map (·.desc)
def BJ:TypeDesc->Bool
 | .struct _| .array _ _=>true
 |_=>false
def j4h:AV->Bool
 | .agg [.lit (.pointer none),.lit (.slice none 0 0)]=>true
 |_=>false
def Mx(P:Program)(t:TypeId):TI:=
 {desc:=(P.underlying t).getD .invalid
  size:=((P.info? t).map (·.size)).getD 0
  bytes:=(bif j4h ((((P.info? t).bind (·.zero)).bind Yx).getD (.tup []))then 281474976710657 else 0)+((P.info? t).map (·.bytes)).getD 0
  zero:=(((P.info? t).bind (·.zero)).bind Yx).getD (.tup [])
  ck:=fun v=>match yS P (Instr.checkKey true 10000 t v),yS P (Instr.checkKey false 10000 t v)with
   |some (.ok _),some (.ok _)=>true
   |_,_=>false
  eq:=fun a b=>match yS P (Op.equal t a b)with
   |some (.ok r)=>some r
   |_=>none}
def Py(P:Program)(t:TypeId):Bool:=(P.underlying t).isSome&&(((P.info? t).bind (·.zero)).bind Yx).isSome
inductive NT where
 |leaf
 |node (l:NT) (k:Nat) (r:NT)
def NT.has(t:Nat):NT->Bool
 | .leaf=>false
 | .node l k r=>bif Nat.beq t k then true else bif Nat.blt t k then l.has t else r.has t
def NT.all(p:Nat->Bool):NT->Bool
 | .leaf=>true
 | .node l k r=>p k&&l.all p&&r.all p
def zH(P:Program)(N:NT):TT:=fun t=>bif N.has t then some (Mx P t)else none
def XO(T:TT)(t:TypeId):Option Bool:=(T t).map fun i=>BJ i.desc
def vQ(T:TT)(t:TypeId):Option Nat:=(T t).map (·.size)
def Jm(T:TT)(t:TypeId):Option AV:=(T t).map (·.zero)
def KL(h:AH)(b:Nat):Option (List AV×TypeId):=match (h.at b)with
 |some (.cells l e)=>some (l,e)
 |_=>none
def Zj(h:AH)(b:Nat):Option (List AV):=match (h.at b)with
 |some (.cells l _)|some (.frz l _)=>some l
 |_=>none
def cut(l:List AV)(i n:Nat):Option (List AV):=if i+n<=l.length then some ((l.drop i).take n)else none
def put(l:List AV)(i:Nat)(vs:List AV):Option (List AV):=if i+vs.length<=l.length then some (l.take i++vs++l.drop (i+vs.length))else none
def AV.one:AV->Bool
 | .agg _| .tup _=>false
 |_=>true
def Jr(T:TT)(h:AH)(t:TypeId)(b off:Nat):Option AV:=
 match Zj h b,XO T t,vQ T t with
 |some l,some true,some n=>(cut l off n).map .agg
 |some l,some false,some _=>l[off]?
 |_,_,_=>none
def Mt(T:TT)(h:AH)(t:TypeId)(b off:Nat)(v:AV):Option AH:=
 match KL h b,vQ T t with
 |some (l,e),some n=>if v.cells.length=n&&v.cells.all AV.one then(put l off v.cells).map fun l'=>h.put b (.cells l' e)else none
 |_,_=>none
def j6h:AV->Option Int
 | .lit (.int _ n)=>some n
 |_=>none
def Hr(v:AV):Option Nat:=match j6h v with
 |some n=>if 0<=n then some n.toNat else none
 |none=>none
def Kw(place:Nat->Option (Nat×Nat)):List AV->List (Nat×AV)->Option (List AV)
 |cells,[]=>some cells
 |cells,(i,v)::rest=>
  match place i with
  |some (off,size)=>if v.cells.length=size then match put cells off v.cells with
   |some c=>Kw place c rest
   |none=>none else none
  |none=>none
def Jk(tmps:TM):List (Nat×Operand)->Option (List (Nat×AV))
 |[]=>some []
 |(i,x)::r=>match xJ tmps x,Jk tmps r with
  |some v,some vs=>some ((i,v)::vs)
  |_,_=>none
def Ff(T:TT):List Field->Option (List (Nat×Nat))
 |[]=>some []
 |f::r=>match vQ T f.type,Ff T r with
  |some n,some l=>some ((f.offset,n)::l)
  |_,_=>none
def OS(T:TT)(t:TypeId)(parts:List (Nat×AV)):Option AV:=
 match Jm T t,und T t with
 |some (.agg z),some (.struct fs)=>match Ff T fs.toList with
  |some pl=>(Kw (fun i=>pl[i]?) z parts).map .agg
  |none=>none
 |some (.agg z),some (.array _ e)=>match vQ T e with
  |some n=>(Kw (fun i=>some (i * n,n)) z parts).map .agg
  |none=>none
 |_,_=>none
def Mf(z:List AV):Nat->List AV
 |0=>[]
 |n+1=>z++Mf z n
def AQ(c:Cap)(len n:Nat):Option Bool:=match c with
 | .kn k=>some (n<=k)
 | .un _=>if n<=len then some true else none
def Ai(len:Nat)(cap:Cap)(lo hi mx:Option Nat):Option (Nat×Nat×Cap):=
 let l:=lo.getD 0
 match mx with
 |some m=>match hi with
  |some h=>if l<=h&&h<=m&&AQ cap len m==some true then some (l,h,.kn (m-l))else none
  |none=>none
 |none=>
  let h:=hi.getD len
  if l<=h&&AQ cap len h==some true then some (l,h,match cap with| .kn k=> .kn (k-l)| .un z=> .un z)else none
def Qz(tmps:TM):Option Operand->Option (Option Nat)
 |none=>some none
 |some x=>match xJ tmps x with
  |some v=>(Hr v).map some
  |none=>none
def VJ:List AV->Option (List UInt8)
 |[]=>some []
 | .lit (.int .u8 (.ofNat k))::r=>bif Nat.blt k 256 then(VJ r).map (UInt8.ofNat k:: ·)else none
 |_::_=>none
def byteCells(s:ByteArray):List AV:=s.data.toList.map fun b=> .lit (.int .u8 b.toNat)
def Dk(h:AH)(z:Nat):AV->Option (List AV)
 | .lit (.slice none 0 0)=>some []
 | .lit (.string s)=>bif Nat.beq z 1 then some (byteCells s)else none
 | .sl b off len _=>match Zj h b with
   |some l=>cut l off (len * z)
   |none=>none
 |_=>none
def lenA:AV->Option Nat
 | .lit (.slice none 0 0)=>some 0
 | .lit (.string s)=>some s.size
 | .sl _ _ len _=>some len
 |_=>none
def EW(z:Nat):TypeDesc->Bool
 | .slice _=>true
 | .string=>Nat.beq z 1
 |_=>false
def Qp(h:AH)(e:TypeId)(z m:Nat)(new:List AV)(s:AV):Option (AV×AH):=match s with
 | .lit (.slice none 0 0)=>bif Nat.beq m 0 then some (s,h)else some (.sl h.n 0 m (.un z),h.push (.cells new e))
 | .sl b off len cap=>bif Nat.beq m 0 then some (s,h)else match cap with
   | .un z'=>match KL h b with
     |some (l,e')=>match cut l off (len * z)with
      |some old=>bif Nat.beq z z'&&Nat.beq e e' then some (.sl h.n 0 (len+m) (.un z),(h.put b .gone).push (.cells (old++new) e))else none
      |none=>none
     |none=>none
   | .kn k=>bif Nat.ble (len+m) k then match KL h b with
      |some (l,e')=>(put l (off+len * z) new).map fun l'=>(.sl b off (len+m) cap,h.put b (.cells l' e'))
      |none=>none
     else match Zj h b with
      |some l=>match cut l off (len * z)with
       |some old=>some (.sl h.n 0 (len+m) (.un z),h.push (.cells (old++new) e))
       |none=>none
      |none=>none
 |_=>none
def vZ(T:TT)(h:AH)(t tx:TypeId)(s x:AV):Option (AV×AH):=match und T t,und T tx with
 |some (.slice e),some dx=>match T e,lenA x,lenA s with
  |some i,some m,some n=>bif EW i.size dx&&Nat.blt 0 i.size&&Nat.ble i.size 200&&Nat.beq i.zero.cells.length i.size&&Nat.ble (n+m) 4611686018427387904&&Nat.ble ((n+m) * i.bytes) 140737488355328 then match Dk h i.size x with
   |some new=>bif Nat.beq new.length (m * i.size)&&new.all AV.one then Qp h e i.size m new s else none
   |none=>none else none
  |_,_,_=>none
 |_,_=>none
def SD(len:Nat):Cap->Bool
 | .kn k=>Nat.beq len 0&&Nat.beq k 0
 | .un _=>false
def j3r(h:AH)(z k:Nat)(cs:List AV):AV->Option (AV×AH)
 | .sl b off len cap=>bif SD len cap then some (.lit (.int .i64 0),h)else match KL h b with
   |some (l,e')=>(put l off (cs.take (k * z))).map fun l'=>(.lit (.int .i64 (k:Nat)),h.put b (.cells l' e'))
   |none=>none
 | .lit (.slice none 0 0)=>some (.lit (.int .i64 0),h)
 |_=>none
def sP(T:TT)(h:AH)(t:TypeId)(d x:AV):Option (AV×AH):=match und T t with
 |some (.slice e)=>match vQ T e,lenA d,lenA x with
  |some z,some n,some m=>match Dk h z x with
   |some cs=>bif Nat.beq cs.length (m * z)&&cs.all AV.one then j3r h z (Nat.min m n) cs d else none
   |none=>none
  |_,_,_=>none
 |_=>none
def Pm:TypeDesc->Bool
 | .int _| .string=>true
 |_=>false
def Uf(kind:TypeDesc)(k:Value):List AE->Nat->Option (Option (Nat×AV))
 |[],_=>some none
 |e::es,i=>match Instr.sameNow kind k e.key with
  |some true=>some (some (i,e.val))
  |some false=>Uf kind k es (i+1)
  |none=>none
def So(eq:Value->Value->Option Bool)(k:Value):List AE->Nat->Option (Option (Nat×AV))
 |[],_=>some none
 |e::es,i=>match eq k e.key with
  |some true=>bif Instr.sameBits 10000 e.key k then some (some (i,e.val))else none
  |some false=>So eq k es (i+1)
  |none=>none
def NP:TypeDesc->Bool
 | .struct _=>true
 |_=>false
def lH:Value->Bool
 | .agg cs=>cs.toList.all CN
 |v=>CN v
def AW:AV->Option Value
 | .lit v=>some v
 | .agg l=>(Vn l).map fun l=> .agg l.toArray
 |_=>none
def dI:Value->AV
 | .agg cs=> .agg (cs.toList.map .lit)
 |v=> .lit v
def FQ(T:TT)(t:TypeId)(k:Value)(es:List AE):Option (Option (Nat×AV)):=match und T t with
 |some (.map kt _)=>match T kt with
  |some i=>bif Pm i.desc then Uf i.desc k es 0 else bif NP i.desc&&i.ck k then So i.eq k es 0 else none
  |none=>none
 |_=>none
def ND(T:TT)(t:TypeId):Option TypeId:=match und T t with
 |some (.map _ e)=>some e
 |_=>none
def Sj(h:AH):AV->Option (List AE)
 | .lit (.map none)=>some []
 | .mp b=>match (h.at b)with
   |some (.map es _)=>some es
   |_=>none
 |_=>none
def Vm(T:TT)(h:AH)(t:TypeId)(m k:AV)(ok:Bool):Option AV:=
 match AW k,Sj h m,ND T t with
 |some key,some es,some e=>match FQ T t key es,Jm T e with
   |some (some (_,v)),_=>some (bif ok then .tup [v,.lit (.bool true)]else v)
   |some none,some z=>some (bif ok then .tup [z,.lit (.bool false)]else z)
   |_,_=>none
 |_,_,_=>none
def GY(T:TT)(h:AH)(t:TypeId)(m k v:AV):Option AH:=
 match m,AW k with
 | .mp b,some key=>match (h.at b)with
   |some (.map es clock)=>match FQ T t key es with
    |some (some (i,_))=>some (h.put b (.map (es.modify i fun e=>{e with key:=key,val:=v}) clock))
    |some none=>some (h.put b (.map (es++[{key,val:=v,born:=clock}]) (clock+1)))
    |none=>none
   |_=>none
 |_,_=>none
def OX(T:TT)(h:AH)(t:TypeId)(m k:AV):Option AH:=
 match m,AW k with
 | .lit (.map none),some key=>match FQ T t key []with
   |some _=>some h
   |none=>none
 | .mp b,some key=>match (h.at b)with
   |some (.map es clock)=>match FQ T t key es with
    |some (some (i,_))=>some (h.put b (.map (es.eraseIdx i) clock))
    |some none=>some h
    |none=>none
   |_=>none
 |_,_=>none
def Pv(P:Program)(t:TypeId)(name:String):Option FuncId:=match P.info? t with
 |some i=>match i.methods.find? (·.name==name)with
  |some m=>bif m.path.isEmpty then(match m.func,P.underlying t with
    |some (f,true),some (.pointer _)=>some f
    |some (_,false),some (.pointer _)=>none
    |some (f,false),some _=>some f
    |_,_=>none)else none
  |none=>none
 |none=>none
def UT(P:Program)(f:AV)(args:List AV):Option AN:=
 match f with
 | .fn (.func g) first caps=>some (.enter g (first++args++caps))
 | .fn (.yield l) [] []=>some (.round l args)
 | .fn (.method name) [.ifc t v] []=>(Pv P t name).map fun g=> .enter g (v::args)
 |_=>none
def CM(T:TT)(d:TypeDesc)(x y:AV):Option Bool:=match d,x,y with
 | .pointer _,.ptr _ _,.lit (.pointer none)| .pointer _,.lit (.pointer none),.ptr _ _=>some false
 | .slice _,.sl ..,.lit (.slice none 0 0)| .slice _,.lit (.slice none 0 0),.sl .. =>some false
 | .map _ _,.mp _,.lit (.map none)| .map _ _,.lit (.map none),.mp _=>some false
 | .func ..,.fn ..,.lit .nilFunc| .func ..,.lit .nilFunc,.fn .. =>some false
 | .interface _,.ifc ..,.lit .nilIface| .interface _,.lit .nilIface,.ifc .. =>some false
 | .pointer e,.ptr b i,.ptr c j=>match vQ T e with
   |some (_+1)=>bif Nat.beq b c then some (Nat.beq i j)else none
   |_=>none
 |_,_,_=>none
def JK(tmps:TM):List Operand->Bool
 |[]=>true
 |x::r=>match xJ tmps x with
  |some v=>(ZT v).isSome&&JK tmps r
  |none=>false
def qI(tmps:TM)(x:Operand):Value:=match xJ tmps x with
 |some v=>(ZT v).getD undef
 |none=>undef
def Na:Option (PR Next)->Option AN
 |some (.ok (.value v))=>(Ba v).map .val
 |some (.pan v)=>(Ba v).map .pan
 |_=>none
def Zs:Op->Bool
 | .select .. =>false
 |_=>true
def yU(P:Program)(o:Oper)(tmps:TM):Option AN:=
 if Zs o.op&&JK tmps o.op.operands.toList then Na (yS P (execOp (qI tmps) o))else none
abbrev AR:=Option (AN×AH)
def val(h:AH)(x:Option AV):AR:=x.map fun x=>(.val x,h)
def yR(P:Program)(o:Oper)(tmps:TM)(h:AH)(r:Unit->AR):AR:=match yU P o tmps with
 |some n=>some (n,h)
 |none=>r ()
def FA(tmps:TM)(h:AH)(c a b:Operand):AR:=match xJ tmps c with
 |some (.lit (.bool t))=>val h (bif t then xJ tmps a else xJ tmps b)
 |_=>none
def Dv(T:TT)(h:AH)(t:TypeId):AR:=(Jm T t).map fun z=>(.val (.ptr h.n 0),h.push (.cells z.cells t))
def OH(tmps:TM)(h:AH)(t:TypeId)(x:Operand):AR:=match xJ tmps x with
 |some z=>if z.cells.all AV.one then some (.val (.ptr h.n 0),h.push (.cells z.cells t))else none
 |none=>none
def Gw(T:TT)(tmps:TM)(h:AH)(t:TypeId)(ps:Array (Nat×Operand)):AR:=match Jk tmps ps.toList with
 |some ps=>val h (OS T t ps)
 |none=>none
def Zo(T:TT)(tmps:TM)(h:AH)(t:TypeId)(n:Nat)(ps:Array (Nat×Operand)):AR:=match und T t,Jk tmps ps.toList with
 |some (.slice e),some ps=>match T e with
  |some i=>if i.zero.cells.length=i.size&&n<=65536&&n * i.size<=65536 then(Kw (fun k=>some (k * i.size,i.size)) (Mf i.zero.cells n) ps).map fun l=>(.val (.sl h.n 0 n (.kn n)),h.push (.cells l e))else none
  |none=>none
 |_,_=>none
def AP(T:TT)(tmps:TM)(h:AH)(t:TypeId)(a:Operand):AR:=match xJ tmps a with
 |some (.ptr b off)=>val h (Jr T h t b off)
 |_=>none
def Bu(T:TT)(tmps:TM)(h:AH)(t:TypeId)(a x:Operand):AR:=match xJ tmps a,xJ tmps x with
 |some (.ptr b off),some x=>(Mt T h t b off x).map fun h'=>(.val kV,h')
 |_,_=>none
def Qo(P:Program)(o:Oper)(tmps:TM)(h:AH)(x:Operand):AR:=match xJ tmps x with
 |some (.ptr b off)=>some (.val (.ptr b off),h)
 |some (.fn (.func g) a b)=>some (.val (.fn (.func g) a b),h)
 |some (.ifc t x)=>some (.val (.ifc t x),h)
 |_=>yR P o tmps h fun _=>none
def UP(T:TT)(tmps:TM)(h:AH)(op:BinOp)(t:TypeId)(x y:Operand):AR:=match und T t,xJ tmps x,xJ tmps y with
 |some d,some a,some b=>match CM T d a b,op with
  |some r,.eql=>some (.val (.lit (.bool r)),h)
  |some r,.neq=>some (.val (.lit (.bool !r)),h)
  |_,_=>none
 |_,_,_=>none
def JY(h:AH)(b off len:Nat):Option (List UInt8):=match Zj h b with
 |some l=>match cut l off len with
  |some cs=>VJ cs
  |none=>none
 |none=>none
def Yq(T:TT)(h:AH)(src dst:TypeId)(x:AV):AR:=match und T src,und T dst,x with
 |some (.slice e),some .string,.sl b off len _=>match und T e with
  |some (.int .u8)=>val h ((JY h b off len).map fun bs=> .lit (.string ⟨bs.toArray⟩))
  |_=>none
 |some (.slice _),some (.slice e),.sl b off len cap=>if src==dst then match und T e,KL h b with
   |some (.int .u8),some (l,e')=>bif SD len cap then none else some (.val (.sl b off len cap),h.put b (.frz l e'))
   |_,_=>none else none
 |some .string,some (.slice e),.lit (.string s)=>match und T e with
  |some (.int .u8)=>bif Nat.ble s.size 16777216 then some (.val (.sl h.n 0 s.size (.un 1)),h.push (.frz (byteCells s) e))else none
  |_=>none
 |_,_,_=>none
def JS(P:Program)(T:TT)(o:Oper)(tmps:TM)(h:AH)(src dst:TypeId)(x:Operand):AR:=match xJ tmps x with
 |some (.lit (.int k n))=>match und T src,und T dst with
  |some _,some (.int k')=>some (.val (.lit (.int k' (k'.wrap n))),h)
  |_,_=>yR P o tmps h fun _=>none
 |some v=>yR P o tmps h fun _=>Yq T h src dst v
 |none=>none
def Xc(T:TT)(tmps:TM)(h:AH)(t:TypeId)(x:Operand):AR:=match und T t,xJ tmps x with
 |some (.interface _),_=>none
 |some _,some x=>some (.val (.ifc t x),h)
 |_,_=>none
def DM:Fn->Bool
 | .yield _=>false
 |_=>true
def Kc(tmps:TM)(h:AH)(f:Fn)(first caps:Array Operand):AR:=match XS tmps first.toList,XS tmps caps.toList with
 |some a,some b=>bif DM f then some (.val (.fn f a b),h)else none
 |_,_=>none
def Zf(T:TT)(tmps:TM)(h:AH)(t:TypeId)(l c:Operand):AR:=match und T t,(xJ tmps l).bind Hr,(xJ tmps c).bind Hr with
 |some (.slice e),some n,some m=>match T e with
  |some i=>if n<=m&&m<=140737488355328&&i.bytes * m<=281474976710656&&i.zero.cells.length=i.size then some (.val (.sl h.n 0 n (.kn m)),h.push (.cells (Mf i.zero.cells m) e))else none
  |none=>none
 |_,_,_=>none
def Uc(z:Nat):Cap->Bool
 | .kn _=>true
 | .un z'=>Nat.beq z z'
def Ua(T:TT)(h:AH)(t:TypeId)(x:AV)(lo hi mx:Option Nat):AR:=match und T t,x with
 |some (.slice e),.sl b off len cap=>match vQ T e,Ai len cap lo hi mx with
  |some z,some (l,r,c)=>bif Uc z c then some (.val (.sl b (off+l * z) (r-l) c),h)else none
  |_,_=>none
 |some (.array n e),.ptr b off=>match vQ T e,Ai n (.kn n) lo hi mx with
  |some z,some (l,r,c)=>bif Nat.ble n 16777216 then some (.val (.sl b (off+l * z) (r-l) c),h)else none
  |_,_=>none
 |_,_=>none
def Qy(P:Program)(T:TT)(o:Oper)(tmps:TM)(h:AH)(t:TypeId)(x:Operand)(lo hi mx:Option Operand):AR:=
 yR P o tmps h fun _=>match xJ tmps x,Qz tmps lo,Qz tmps hi,Qz tmps mx with
  |some x,some lo,some hi,some mx=>Ua T h t x lo hi mx
  |_,_,_,_=>none
def Xp(T:TT)(tmps:TM)(h:AH)(t:TypeId)(x:Operand)(i:Nat):AR:=match und T t,xJ tmps x with
 |some (.struct fs),some (.ptr b off)=>match fs[i]? with
  |some f=>match vQ T f.type with
   |some (_+1)=>some (.val (.ptr b (off+f.offset)),h)
   |_=>none
  |none=>none
 |_,_=>none
def Tj(T:TT)(t:TypeId)(l:List AV)(off:Nat):Option AV:=match T t with
 |some i=>bif BJ i.desc then(cut l off i.size).map .agg else l[off]?
 |none=>none
def Gx(T:TT)(tmps:TM)(h:AH)(t:TypeId)(x:Operand)(i:Nat):AR:=match und T t,xJ tmps x with
 |some (.struct fs),some (.agg l)=>match fs[i]? with
  |some f=>val h (Tj T f.type l f.offset)
  |none=>none
 |_,_=>none
def ZQ(T:TT)(tmps:TM)(h:AH)(t:TypeId)(x ix:Operand):AR:=match und T t,xJ tmps x,(xJ tmps ix).bind Hr with
 |some (.slice e),some (.sl b off len _),some i=>match vQ T e with
  |some z=>if i<len then some (.val (.ptr b (off+i * z)),h)else none
  |none=>none
 |some (.array n e),some (.ptr b off),some i=>match vQ T e with
  |some z=>if i<n then some (.val (.ptr b (off+i * z)),h)else none
  |none=>none
 |_,_,_=>none
def Yr(P:Program)(T:TT)(o:Oper)(tmps:TM)(h:AH)(t:TypeId)(x ix:Operand):AR:=
 yR P o tmps h fun _=>match und T t,xJ tmps x,(xJ tmps ix).bind Hr with
  |some (.array n e),some (.agg l),some i=>match vQ T e with
   |some z=>if i<n then val h (Tj T e l (i * z))else none
   |none=>none
  |_,_,_=>none
def Ks(T:TT)(tmps:TM)(h:AH)(t:TypeId)(m k:Operand)(ok:Bool):AR:=match xJ tmps m,xJ tmps k with
 |some m,some k=>val h (Vm T h t m k ok)
 |_,_=>none
def VY(T:TT)(tmps:TM)(h:AH)(t:TypeId)(m k x:Operand):AR:=match xJ tmps m,xJ tmps k,xJ tmps x with
 |some m,some k,some x=>(GY T h t m k x).map fun h'=>(.val kV,h')
 |_,_,_=>none
def Ip(T:TT)(tmps:TM)(h:AH)(t:TypeId)(x:Operand):AR:=match und T t,xJ tmps x with
 |some (.map _ _),some (.lit (.map none))=>some (.val (.ptr h.n 0),h.push (.iter none 0 [] 0))
 |some (.map _ _),some (.mp b)=>match h.at b with
  |some (.map _ clock)=>some (.val (.ptr h.n 0),h.push (.iter (some b) clock [] clock))
  |_=>none
 |some .string,some (.lit (.string s))=>some (.val (.ptr h.n 0),h.push (.siter s 0))
 |_,_=>none
def Rz(tmps:TM)(h:AH)(x:Operand)(isS:Bool):AR:=match xJ tmps x,isS with
 |some (.ptr b 0),false=>match h.at b with
  |some (.iter none _ _ _)=>some (.val (.tup [.lit (.bool false)]),h)
  |some (.iter (some m) since seen last)=>match h.at m with
   |some (.map es clock)=>bif !seen.isEmpty&& !es.isEmpty&&es.all (fun e=>decide (e.born>=last))then none else match es.filter (fun e=> !seen.contains e.born)with
    |[]=>some (.val (.tup [.lit (.bool false)]),h)
    |[e]=>bif Nat.blt e.born since then some (.val (.tup [.lit (.bool true),dI e.key,e.val]),h.put b (.iter (some m) since (seen++[e.born]) clock))else none
    |_=>none
   |_=>none
  |_=>none
 |some (.ptr b 0),true=>match h.at b with
  |some (.siter s pos)=>bif Nat.blt pos s.size then some (.val (.tup [.lit (.bool true),.lit (.int .i64 pos),.lit (.int .i32 (Utf8.decode s pos).1)]),h.put b (.siter s (pos+(Utf8.decode s pos).2)))else some (.val (.tup [.lit (.bool false)]),h)
  |_=>none
 |_,_=>none
def Im(tmps:TM)(h:AH)(x:Operand):AR:=match xJ tmps x with
 |some (.ptr b 0)=>match h.at b with
  |some (.iter (some m) _ seen stepped)=>match h.at m,seen.getLast? with
   |some (.map es clock),some stamp=>bif Nat.beq clock stepped then match es.find? (fun e=>Nat.beq e.born stamp)with
    |some e=>some (.val (.tup [dI e.key,e.val]),h)
    |none=>none else none
   |_,_=>none
  |_=>none
 |_=>none
def Vr(tmps:TM)(h:AH)(x:Operand)(i:Nat):AR:=match xJ tmps x with
 |some (.tup l)=>val h l[i]?
 |_=>none
def aS(ok:Bool)(v:AV)(b:Bool):AV:=bif ok then .tup [v,.lit (.bool b)]else v
def Af(P:Program)(T:TT)(tmps:TM)(h:AH)(x:Operand)(t:TypeId)(ok:Bool):AR:=match xJ tmps x,T t with
 |some (.ifc d y),some i=>match i.desc with
  | .interface want=>match P.info? d with
    |some j=>if(Instr.missingMethod want j.methods).isNone then some (.val (aS ok (.ifc d y) true),h)else none
    |none=>none
  |_=>bif Nat.beq d t then some (.val (aS ok y true),h)else bif ok then some (.val (.tup [i.zero,.lit (.bool false)]),h)else none
 |some (.lit .nilIface),some i=>bif ok then some (.val (.tup [i.zero,.lit (.bool false)]),h)else none
 |_,_=>none
def Io(tmps:TM)(h:AH)(x:Operand):AR:=match xJ tmps x with
 |some (.ifc t x)=>some (.pan (.ifc t x),h)
 |_=>none
def WL(T:TT)(h:AH)(t:TypeId)(x:AV):Option AH:=match und T t with
 |some (.slice e)=>match x with
  | .sl b off len _=>bif Nat.beq len 0 then some h else match T e,KL h b with
    |some i,some (l,e')=>bif (Mf i.zero.cells len).all AV.one then(put l off (Mf i.zero.cells len)).map fun l'=>h.put b (.cells l' e')else none
    |_,_=>none
  | .lit (.slice none 0 0)=>some h
  |_=>none
 |_=>none
def Zt(P:Program)(T:TT)(o:Oper)(tmps:TM)(h:AH)(b:Builtin)(c:Call):AR:=match b,XS tmps c.args.toList,c.argTypes.toList with
 | .append,some [s,x],[t,tx]=>(vZ T h t tx s x).map fun r=>(.val r.1,r.2)
 | .copy,some [s,x],t::_=>(sP T h t s x).map fun r=>(.val r.1,r.2)
 | .delete,some [m,k],t::_=>(OX T h t m k).map fun h'=>(.val (.tup []),h')
 | .clear,some [x],t::_=>(WL T h t x).map fun h'=>(.val (.tup []),h')
 | .len,some [.sl _ _ n _],t::_=>match und T t with
   |some (.slice _)=>some (.val (.lit (.int .i64 n)),h)
   |_=>none
 | .len,some [.mp b],t::_=>match und T t,(h.at b)with
   |some (.map _ _),some (.map es _)=>some (.val (.lit (.int .i64 es.length)),h)
   |_,_=>none
 | .recover,_,_=>some (.recover,h)
 |_,_,_=>yR P o tmps h fun _=>none
def Qd(P:Program)(T:TT)(o:Oper)(tmps:TM)(h:AH)(c:Call):AR:=match c.callee with
 | .builtin b=>Zt P T o tmps h b c
 | .value f=>match xJ tmps f,XS tmps c.args.toList with
   |some f,some args=>(UT P f args).map (·,h)
   |_,_=>none
 | .invoke r name=>match xJ tmps r,XS tmps c.args.toList with
   |some r,some args=>(UT P (.fn (.method name) [r] []) args).map (·,h)
   |_,_=>none
def Il(P:Program)(tmps:TM)(h:AH)(c:Call):AR:=match c.callee with
 | .value f=>match xJ tmps f,XS tmps c.args.toList with
   |some f,some args=>match UT P f args with
    |some (.enter g a)=>some (.defer g a,h)
    |_=>none
   |_,_=>none
 |_=>none
def BM(h:AH):Option (PR Value)->AR
 |some (.ok v)=>(BN v).map fun a=>(.val a,h)
 |some (.pan v)=>(Ba v).map fun a=>(.pan a,h)
 |none=>none
def j4k(op:BinOp)(below above upto from':Bool):Option Bool:=match op with
 | .lss=>bif below then some true else bif from' then some false else none
 | .geq=>bif below then some false else bif from' then some true else none
 | .leq=>bif upto then some true else bif above then some false else none
 | .gtr=>bif upto then some false else bif above then some true else none
 | .eql=>bif below||above then some false else none
 | .neq=>bif below||above then some true else none
 |_=>none
def j6R(x:Option Int)(c:Int):Bool:=match x with
 |some b=>decide (b<c)
 |none=>false
def j6M(x:Option Int)(c:Int):Bool:=match x with
 |some b=>decide (c<b)
 |none=>false
def j68(op:BinOp)(lo hi:Option Int)(c:Int):Option Bool:=j4k op (j6R hi c) (j6M lo c) (j6R hi (c+1)) (j6M lo (c-1))
def XK(P:Program)(T:TT)(o:Oper)(tmps:TM)(h:AH)(op:BinOp)(t:TypeId)(x y:Operand):AR:=match xJ tmps x,xJ tmps y with
 |some (.lit .nilIface),_=>yR P o tmps h fun _=>UP T tmps h op t x y
 |some (.lit a),some (.lit b)=>BM h (yS P (binOp op t a b))
 |some (.rng _ lo hi),some (.lit (.int .i64 c))=>val h ((j68 op lo hi c).map fun r=> .lit (.bool r))
 |_,_=>yR P o tmps h fun _=>UP T tmps h op t x y
def j3m(P:Program)(tmps:TM)(h:AH)(op:UnOp)(x:Operand):AR:=match xJ tmps x with
 |some (.lit a)=>BM h (yS P (Op.unary op a))
 |_=>none
def Js(P:Program)(T:TT)(o:Oper)(tmps:TM)(h:AH):AR:=
 match o.op with
 | .move x| .assign x=>val h (xJ tmps x)
 | .pick c a b=>FA tmps h c a b
 | .alloc t=>Dv T h t
 | .box t x=>OH tmps h t x
 | .build t ps=>Gw T tmps h t ps
 | .buildSlice t n ps=>Zo T tmps h t n ps
 | .load t a=>AP T tmps h t a
 | .store t a x=>Bu T tmps h t a x
 | .nilCheck x=>Qo P o tmps h x
 | .binOp op t x y _=>XK P T o tmps h op t x y
 | .convert src dst x=>JS P T o tmps h src dst x
 | .makeInterface t x=>Xc T tmps h t x
 | .makeFunc f first caps=>Kc tmps h f first caps
 | .makeMap _ none=>some (.val (.mp h.n),h.push (.map [] 0))
 | .makeSlice t l c=>Zf T tmps h t l c
 | .slice t x lo hi mx=>Qy P T o tmps h t x lo hi mx
 | .fieldAddr t x i=>Xp T tmps h t x i
 | .field t x i=>Gx T tmps h t x i
 | .indexAddr t x ix=>ZQ T tmps h t x ix
 | .index t x ix=>Yr P T o tmps h t x ix
 | .lookup t m k ok=>Ks T tmps h t m k ok
 | .mapUpdate t m k x| .insert t m k x=>VY T tmps h t m k x
 | .extract x i=>Vr tmps h x i
 | .range t x=>Ip T tmps h t x
 | .next x s=>Rz tmps h x s
 | .entry x=>Im tmps h x
 | .typeAssert x _ t ok=>Af P T tmps h x t ok
 | .panic x=>Io tmps h x
 | .call c=>Qd P T o tmps h c
 | .defer c=>Il P tmps h c
 | .unOp op _ x=>j3m P tmps h op x
 |_=>none
end
variable{cap:Cap}{x a:AV}{xs l:List AV}
section
abbrev Mu:=Nat->Option (Nat×Nat)
def Uy(w:World)(r o len:Nat):Cap->Nat->Prop
 | .kn k,c=>c=k/\len<=k/\k<=maxLen
 | .un z,c=>len<=c/\c<=maxLen/\0<z/\∃cur e fz,w.heap[r]? =some (.cells cur e fz)/\o+c * z<=cur.size
def IN(μ:Mu):Fn->Fn->Prop
 | .yield l,f'=>∃r,μ l=some (r,0)/\f'= .yield r
 |f,f'=>f'=f
mutual
def rel(ρ:Nat->Value)(μ:Mu)(w:World):AV->Value->Prop
 | .lit v,v'=>v'=v/\CN v=true
 | .ptr b off,v'=>∃r base,μ b=some (r,base)/\v'= .pointer (some ⟨r,base+off,none⟩)
 | .sl b off len cap,v'=>(∃r base o c,μ b=some (r,base)/\v'= .slice (some ⟨r,o,none⟩) len c/\(c=0\/o=base+off)/\Uy w r (base+off) len cap c)\/(len=0/\cap= .kn 0/\∃a,v'= .slice (some a) 0 0)
 | .mp b,v'=>∃r,μ b=some (r,0)/\v'= .map (some r)
 | .agg l,v'=>∃l',v'= .agg l'.toArray/\qF ρ μ w l l'
 | .tup l,v'=>∃l',v'= .tuple l'.toArray/\qF ρ μ w l l'
 | .ifc t v,v'=>∃u,v'= .iface t u/\rel ρ μ w v u
 | .fn f first caps,v'=>∃f' a b,v'= .func f' a.toArray b.toArray/\IN μ f f'/\qF ρ μ w first a/\qF ρ μ w caps b
 | .ext i,v'=>v'=ρ i/\v'.oneCell'=true
 | .any,v'=>v'.oneCell'=true
 | .rng i lo hi,v'=>v'=ρ i/\∃n:Int,v'= .int .i64 n/\(∀a,lo=some a->a<=n)/\(∀b,hi=some b->n<=b)
def qF(ρ:Nat->Value)(μ:Mu)(w:World):List AV->List Value->Prop
 |[],l'=>l'=[]
 |x::xs,l'=>∃v vs,l'=v::vs/\rel ρ μ w x v/\qF ρ μ w xs vs
end
variable {ρ:Nat->Value}
def Jt(w w':World):Prop:=∀(r:Nat) (cur:Array Value) (e:TypeId) (fz:Nat×Nat),w.heap[r]? =some (.cells cur e fz)->∃(cur':Array Value) (e':TypeId) (fz':Nat×Nat),w'.heap[r]? =some (.cells cur' e' fz')/\cur'.size=cur.size
theorem Jt.refl(w:World):Jt w w:=fun r cur e fz h=>⟨cur,e,fz,h,rfl⟩
theorem Jt.trans{a b c:World}(h:Jt a b)(k:Jt b c):Jt a c:=fun r cur e fz x=>by obtain⟨c1,e1,f1,h1,s1⟩:=h r cur e fz x;obtain⟨c2,e2,f2,h2,s2⟩:=k r c1 e1 f1 h1;exact⟨c2,e2,f2,h2,s2.trans s1⟩
def yZ(μ μ':Mu):Prop:=∀b x,μ b=some x->μ' b=some x
theorem yZ.refl(μ:Mu):yZ μ μ:=fun _ _ h=>h
theorem yZ.trans{a b c:Mu}(h:yZ a b)(k:yZ b c):yZ a c:=fun x y z=>k x y (h x y z)
theorem Uy.mono{w w':World}{r o len c:Nat}(hg:Jt w w')(h:Uy w r o len cap c):Uy w' r o len cap c:=by
 cases cap with
 |kn k=>exact h
 |un z=>
  obtain⟨h1,h2,h3,cur,e,fz,h4,h5⟩:=h;obtain⟨cur',e',fz',h6,h7⟩:=hg _ _ _ _ h4;exact⟨h1,h2,h3,cur',e',fz',h6,by omega⟩
theorem IN.mono{μ μ':Mu}{f f':Fn}(hm:yZ μ μ')(h:IN μ f f'):IN μ' f f':=by cases f<;>first|exact h|(obtain⟨r,h1,h2⟩:=h;exact⟨r,hm _ _ h1,h2⟩)
mutual
theorem rel.mono{μ μ':Mu}{w w':World}(hm:yZ μ μ')(hg:Jt w w'):∀(a:AV) (v:Value),rel ρ μ w a v->rel ρ μ' w' a v
 | .lit v,v',h=>by unfold rel at h ⊢;exact h
 | .ptr b off,v',h=>by unfold rel at h ⊢;obtain⟨r,base,h1,h2⟩:=h;exact⟨r,base,hm _ _ h1,h2⟩
 | .sl b off len cap,v',h=>by
   unfold rel at h ⊢;rcases h with⟨r,base,o,c,h1,h2,h3,h4⟩|h
   ·exact .inl ⟨r,base,o,c,hm _ _ h1,h2,h3,h4.mono hg⟩
   ·exact .inr h
 | .mp b,v',h=>by unfold rel at h ⊢;obtain⟨r,h1,h2⟩:=h;exact⟨r,hm _ _ h1,h2⟩
 | .agg l,v',h=>by unfold rel at h ⊢;obtain⟨l',h1,h2⟩:=h;exact⟨l',h1,qF.mono hm hg l l' h2⟩
 | .tup l,v',h=>by unfold rel at h ⊢;obtain⟨l',h1,h2⟩:=h;exact⟨l',h1,qF.mono hm hg l l' h2⟩
 | .ifc t v,v',h=>by unfold rel at h ⊢;obtain⟨u,h1,h2⟩:=h;exact⟨u,h1,rel.mono hm hg v u h2⟩
 | .fn f first caps,v',h=>by unfold rel at h ⊢;obtain⟨f',a,b,h1,h2,h3,h4⟩:=h;exact⟨f',a,b,h1,h2.mono hm,qF.mono hm hg first a h3,qF.mono hm hg caps b h4⟩
 | .ext i,v',h=>by unfold rel at h ⊢;exact h
 | .rng i lo hi,v',h=>by unfold rel at h ⊢;exact h
 | .any,v',h=>by unfold rel at h ⊢;exact h
theorem qF.mono{μ μ':Mu}{w w':World}(hm:yZ μ μ')(hg:Jt w w'):∀(l:List AV) (l':List Value),qF ρ μ w l l'->qF ρ μ' w' l l'
 |[],l',h=>by unfold qF at h ⊢;exact h
 |x::xs,l',h=>by unfold qF at h ⊢;obtain⟨v,vs,h1,h2,h3⟩:=h;exact⟨v,vs,h1,rel.mono hm hg x v h2,qF.mono hm hg xs vs h3⟩
end
section
variable {μ:Mu} {w:World}
theorem rels_nil:qF ρ μ w [] []:=by unfold qF;rfl
theorem rels_cons{v:Value}{vs:List Value}(h:rel ρ μ w x v)(k:qF ρ μ w xs vs):qF ρ μ w (x::xs) (v::vs):=by unfold qF;exact⟨v,vs,rfl,h,k⟩
theorem xB{l':List Value}(h:qF ρ μ w (x::xs) l'):∃v vs,l'=v::vs/\rel ρ μ w x v/\qF ρ μ w xs vs:=by unfold qF at h;exact h
theorem xM{l':List Value}(h:qF ρ μ w [] l'):l'=[]:=by unfold qF at h;exact h
theorem vA:∀{l:List AV} {l':List Value},qF ρ μ w l l'->l'.length=l.length
 |[],l',h=>by rw[xM h];rfl
 |x::xs,l',h=>by obtain⟨v,vs,rfl,_,h2⟩:=xB h;rw[xA,xA,vA h2]
theorem Zk:∀{l:List AV} {l':List Value} {i:Nat} {x:AV},qF ρ μ w l l'->l[i]? =some x->∃v,l'[i]? =some v/\rel ρ μ w x v
 |[],l',i,x,h,hx=>by simp at hx
 |y::ys,l',i,x,h,hx=>by
  obtain⟨v,vs,rfl,h1,h2⟩:=xB h;cases i with
  |zero=>simp only[xW,jP]at hx;subst hx;exact⟨v,rfl,h1⟩
  |succ i=>simp only[xQ]at hx ⊢;exact Zk h2 hx
theorem Un:∀{l:List AV} {l':List Value},l'.length=l.length->(∀(i:Nat) (x:AV),l[i]? =some x->∃v,l'[i]? =some v/\rel ρ μ w x v)->qF ρ μ w l l'
 |[],l',hl,_=>by rw[zO hl];exact rels_nil
 |x::xs,l',hl,h=>by
  cases l' with
  |nil=>simp at hl
  |cons v vs=>
   obtain⟨u,h1,h2⟩:=h 0 x rfl;simp only[xW,jP]at h1;subst h1;exact rels_cons h2 (Un (by simpa using hl) (fun i y hy=>by obtain⟨u,h3,h4⟩:=h (i+1) y (by simpa using hy);exact⟨u,by simpa using h3,h4⟩))
theorem Xm{m:List AV}{l' m':List Value}(h:qF ρ μ w l l')(k:qF ρ μ w m m'):qF ρ μ w (l++m) (l'++m'):=by
 induction l generalizing l' with
 |nil=>rw[xM h];exact k
 |cons x xs ih=>
  obtain⟨v,vs,rfl,h1,h2⟩:=xB h;exact rels_cons h1 (ih h2)
theorem AC{l':List Value}(n:Nat)(h:qF ρ μ w l l'):qF ρ μ w (l.take n) (l'.take n):=by
 induction l generalizing l' n with
 |nil=>rw[xM h];simp;exact rels_nil
 |cons x xs ih=>
  obtain⟨v,vs,rfl,h1,h2⟩:=xB h
  cases n with
  |zero=>exact rels_nil
  |succ n=>exact rels_cons h1 (ih n h2)
theorem Fh{l':List Value}(n:Nat)(h:qF ρ μ w l l'):qF ρ μ w (l.drop n) (l'.drop n):=by
 induction l generalizing l' n with
 |nil=>rw[xM h];simp;exact rels_nil
 |cons x xs ih=>
  obtain⟨v,vs,rfl,h1,h2⟩:=xB h
  cases n with
  |zero=>exact rels_cons h1 h2
  |succ n=>exact ih n h2
theorem Me{l':List Value}(i:Nat){v:Value}(h:qF ρ μ w l l')(hx:rel ρ μ w x v):qF ρ μ w (l.set i x) (l'.set i v):=by
 induction l generalizing l' i with
 |nil=>rw[xM h];exact rels_nil
 |cons y ys ih=>
  obtain⟨u,us,rfl,h1,h2⟩:=xB h
  cases i with
  |zero=>exact rels_cons hx h2
  |succ i=>exact rels_cons h1 (ih i h2)
theorem Md(n:Nat){v:Value}(hx:rel ρ μ w x v):qF ρ μ w (List.replicate n x) (List.replicate n v):=by
 induction n with
 |zero=>exact rels_nil
 |succ n ih=>exact rels_cons hx ih
theorem Kg:rel ρ μ w kV undef:=by unfold kV rel;exact⟨[],rfl,rels_nil⟩
theorem Fi{l':List Value}(i:Nat)(h:qF ρ μ w l l'):rel ρ μ w (l.getD i kV) (l'.getD i undef):=by
 rw[jU,jU];cases hx:l[i]? with
 |none=>
  have:l'[i]? =none:=by rw[List.getElem?_eq_none_iff]at hx ⊢;rw[vA h];exact hx
  rw[this];exact Kg
 |some x=>
  obtain⟨v,h1,h2⟩:=Zk h hx;rw[h1];exact h2
theorem BO{v:Value}(h:BN v=some a):rel ρ μ w a v:=by
 unfold BN at h;split at h
 ·obtain rfl:=jS h;unfold rel;exact⟨rfl,by assumption⟩
 ·cases h
theorem FX:∀{l:List Value} {xs:List AV},CB l=some xs->qF ρ μ w xs l
 |[],xs,h=>by simp only[CB,jP]at h;subst h;exact rels_nil
 |v::r,xs,h=>by
  unfold CB at h;split at h
  ·rename_i x y hx hy;obtain rfl:=jS h;exact rels_cons (BO hx) (FX hy)
  ·cases h
theorem yV{v:Value}(h:Yx v=some a):rel ρ μ w a v:=by
 unfold Yx at h;split at h
 ·rename_i cs;simp only[jT]at h;obtain⟨l,h1,rfl⟩:=h;unfold rel;exact⟨cs.toList,by simp,FX h1⟩
 ·exact BO h
theorem FY:∀{l:List Value} {xs:List AV},CD l=some xs->qF ρ μ w xs l
 |[],xs,h=>by simp only[CD,jP]at h;subst h;exact rels_nil
 |v::r,xs,h=>by
  unfold CD at h;split at h
  ·rename_i x y hx hy;obtain rfl:=jS h;exact rels_cons (yV hx) (FY hy)
  ·cases h
theorem Ax{v:Value}(h:Ba v=some a):rel ρ μ w a v:=by
 unfold Ba at h;split at h
 ·rename_i vs;simp only[jT]at h;obtain⟨l,h1,rfl⟩:=h;unfold rel;exact⟨vs.toList,by simp,FY h1⟩
 ·rename_i t u;simp only[jT]at h;obtain⟨x,h1,rfl⟩:=h;unfold rel;exact⟨u,rfl,yV h1⟩
 ·exact yV h
theorem Uq:∀{l:List AV} {vs l':List Value},Vn l=some vs->qF ρ μ w l l'->l'=vs
 |[],vs,l',h,k=>by simp only[Vn,jP]at h;subst h;exact xM k
 |x::r,vs,l',h,k=>by cases x<;>simp only[Vn,jT,reduceCtorEq]at h;obtain⟨us,h1,rfl⟩:=h;obtain⟨u,us',rfl,k1,k2⟩:=xB k;unfold rel at k1;rw[k1.1,Uq h1 k2]
theorem CZ:∀{l:List AV} {vs l':List Value},Vn l=some vs->qF ρ μ w l l'->∀x∈vs,CN x=true
 |[],vs,l',h,k=>by simp only[Vn,jP]at h;subst h;intro x hx;cases hx
 |x::r,vs,l',h,k=>by
  cases x<;>simp only[Vn,jT,reduceCtorEq]at h;obtain⟨us,h1,rfl⟩:=h;obtain⟨u,us',rfl,k1,k2⟩:=xB k;unfold rel at k1;intro y hy;rcases List.mem_cons.1 hy with rfl|hy
  ·exact k1.2
  ·exact CZ h1 k2 y hy
theorem nV{v v':Value}(h:ZT a=some v)(k:rel ρ μ w a v'):v'=v:=by
 unfold ZT at h;split at h
 ·obtain rfl:=jS h;unfold rel at k;exact k.1
 ·simp only[jT]at h;obtain⟨l,h1,rfl⟩:=h;unfold rel at k;obtain⟨l',rfl,k2⟩:=k;rw[Uq h1 k2]
 ·obtain rfl:=jS h;unfold rel at k;obtain⟨u,rfl,k2⟩:=k;unfold rel at k2;rw[k2.1]
 ·simp only[jT]at h;obtain⟨l,h1,rfl⟩:=h;unfold rel at k;obtain⟨u,rfl,k2⟩:=k;unfold rel at k2;obtain⟨l',rfl,k3⟩:=k2;rw[Uq h1 k3]
 ·cases h
theorem vN{v:Value}(h:CN v=true):rel ρ μ w (.lit v) v:=by unfold rel;exact⟨rfl,h⟩
theorem Zb{v:Value}(h:rel ρ μ w a v):qF ρ μ w a.cells v.cells.toList:=by
 cases a with
 |agg l=>
  unfold rel at h;obtain⟨l',rfl,h2⟩:=h;simpa [AV.cells,Value.cells]using h2
 |lit x=>
  have h':=h;unfold rel at h;obtain⟨rfl,h2⟩:=h;have:v.cells= #[v]:=by cases v<;>first|rfl|(simp[CN]at h2)
  rw[this];exact rels_cons h' rels_nil
 |ptr b off=>
  have h':=h;unfold rel at h;obtain⟨r,base,_,rfl⟩:=h;exact rels_cons h' rels_nil
 |sl b off len cap=>
  have h':=h;unfold rel at h;rcases h with⟨r,base,o,c,_,rfl,_⟩|⟨_,_,a,rfl⟩<;>exact rels_cons h' rels_nil
 |mp b=>
  have h':=h;unfold rel at h;obtain⟨r,_,rfl⟩:=h;exact rels_cons h' rels_nil
 |tup l=>
  have h':=h;unfold rel at h;obtain⟨l',rfl,_⟩:=h;exact rels_cons h' rels_nil
 |ifc t x=>
  have h':=h;unfold rel at h;obtain⟨u,rfl,_⟩:=h;exact rels_cons h' rels_nil
 |fn f a b=>
  have h':=h;unfold rel at h;obtain⟨f',x,y,rfl,_⟩:=h;exact rels_cons h' rels_nil
 |ext i=>
  have h':=h;unfold rel at h;obtain⟨rfl,h2⟩:=h;have:(ρ i).cells= #[ρ i]:=by generalize ρ i=v at h2;cases v<;>first|rfl|(cases h2)
  rw[this];exact rels_cons h' rels_nil
 |any=>
  have h':=h;unfold rel at h;have:v.cells= #[v]:=by cases v<;>first|rfl|(cases h)
  rw[this];exact rels_cons h' rels_nil
 |rng i lo hi=>
  have h':=h;unfold rel at h;obtain⟨_,n,rfl,_⟩:=h;exact rels_cons h' rels_nil
theorem j2P{v:Value}(h:rel ρ μ w a v)(ho:a.one=true):v.oneCell'=true:=by
 cases a with
 |agg l=>cases ho
 |tup l=>cases ho
 |lit x=>
  unfold rel at h;obtain⟨rfl,h2⟩:=h;cases v<;>first|rfl|(simp[CN]at h2)
 |ptr b off=>
  unfold rel at h;obtain⟨r,base,_,rfl⟩:=h;rfl
 |sl b off len cap=>
  unfold rel at h;rcases h with⟨r,base,o,c,_,rfl,_⟩|⟨_,_,a,rfl⟩<;>rfl
 |mp b=>
  unfold rel at h;obtain⟨r,_,rfl⟩:=h;rfl
 |ifc t x=>
  unfold rel at h;obtain⟨u,rfl,_⟩:=h;rfl
 |fn f a b=>
  unfold rel at h;obtain⟨f',x,y,rfl,_⟩:=h;rfl
 |ext i=>
  unfold rel at h;exact h.2
 |rng i lo hi=>
  unfold rel at h;obtain⟨_,n,rfl,_⟩:=h;rfl
 |any=>
  unfold rel at h;exact h
end
end
variable{ab ab':AB}{o o':Obj}
section
open Go Go.RowKit
variable {P:Program} {ρ:Nat->Value}
def Pp:AB->Bool
 | .gone=>false
 |_=>true
def wr:AB->Bool
 | .gone=>false
 | .frz .. =>false
 |_=>true
theorem fP(h:wr ab=true):Pp ab=true:=by cases ab<;>first|rfl|cases h
theorem j0A(h:wr ab=false):ab= .gone\/∃l e,ab= .frz l e:=by cases ab<;>first|exact .inl rfl|exact .inr ⟨_,_,rfl⟩|cases h
def Pa(ρ:Nat->Value)(μ:Mu)(w:World)(a:AE)(e:MapEntry):Prop:=e.key=a.key/\lH a.key=true/\rel ρ μ w a.val e.val/\e.born=a.born
def kK(ρ:Nat->Value)(μ:Mu)(w:World):List AE->List MapEntry->Prop
 |[],l=>l=[]
 |a::r,l=>∃e es,l=e::es/\Pa ρ μ w a e/\kK ρ μ w r es
def Ps(ρ:Nat->Value)(μ:Mu)(w:World)(a:cM)(l:Loop):Prop:=
 l.state=a.state/\l.pending=a.pending/\l.fn=a.fn/\qF ρ μ w a.tmps.L l.tmps.toList/\l.params.toList=a.params/\l.assign=a.assign/\l.body=a.body
def QB(ρ:Nat->Value)(μ:Mu)(w:World)(base:Nat)(l:List AV)(cur:Array Value):Prop:=
 base+l.length<=cur.size/\∀(i:Nat) (x:AV),l[i]? =some x->∃v,cur[base+i]? =some v/\rel ρ μ w x v
def WJ(P:Program)(e:TypeId):Bool:=Nat.blt 200 (((P.info? e).map (·.size)).getD 0)||j4h ((((P.info? e).bind (·.zero)).bind Yx).getD (.tup []))
def XQ(P:Program)(ρ:Nat->Value)(μ:Mu)(w:World)(base:Nat):AB->Obj->Prop
 | .cells l e,o=>∃cur,o= .cells cur e (0,0)/\QB ρ μ w base l cur/\(WJ P e=true->base=0/\cur.size=l.length)
 | .frz l e,o=>∃cur fz,o= .cells cur e fz/\QB ρ μ w base l cur
 | .map es clock,o=>∃es',o= .map es' clock/\base=0/\kK ρ μ w es es'.toList
 | .loop a,o=>∃l,o= .loop l/\base=0/\Ps ρ μ w a l
 | .iter m since seen last,o=>base=0/\∃m',o= .mapIter m' since seen.toArray last/\(match m with|none=>m'=none|some b=>∃r,μ b=some (r,0)/\m'=some r)
 | .siter s pos,o=>o= .stringIter s pos/\base=0
 | .defd,o=>o= .deferred (some [])/\base=0
 | .gone,_=>True
section
variable {μ μ':Mu} {w w':World}
theorem kK.mono(hm:yZ μ μ')(hg:Jt w w'):∀{l:List AE} {l':List MapEntry},kK ρ μ w l l'->kK ρ μ' w' l l'
 |[],l',h=>h
 |a::r,l',h=>by obtain⟨e,es,rfl,⟨h1,h2,h3,h4⟩,h5⟩:=h;exact⟨e,es,rfl,⟨h1,h2,rel.mono hm hg _ _ h3,h4⟩,kK.mono hm hg h5⟩
theorem QB.mono(hm:yZ μ μ')(hg:Jt w w'){base:Nat}{cur:Array Value}(h:QB ρ μ w base l cur):QB ρ μ' w' base l cur:=
 ⟨h.1,fun i x hx=>let⟨v,h1,h2⟩:=h.2 i x hx;⟨v,h1,rel.mono hm hg _ _ h2⟩⟩
theorem XQ.mono(hm:yZ μ μ')(hg:Jt w w'){base:Nat}(h:XQ P ρ μ w base ab o):XQ P ρ μ' w' base ab o:=by
 cases ab with
 |cells l e=>obtain⟨cur,h1,h2,h3⟩:=h;exact⟨cur,h1,h2.mono hm hg,h3⟩
 |frz l e=>obtain⟨cur,fz,h1,h2⟩:=h;exact⟨cur,fz,h1,h2.mono hm hg⟩
 |map es clock=>obtain⟨es',h1,h2,h3⟩:=h;exact⟨es',h1,h2,h3.mono hm hg⟩
 |loop a=>obtain⟨l,h1,h0,h2,h3,h4,h5,h6,h7,h8⟩:=h;exact⟨l,h1,h0,h2,h3,h4,qF.mono hm hg _ _ h5,h6,h7,h8⟩
 |iter m since seen last=>
  obtain⟨h0,m',h1,h2⟩:=h
  refine⟨h0,m',h1,?_⟩
  cases m with
  |none=>exact h2
  |some b=>obtain⟨r,h3,h4⟩:=h2;exact⟨r,hm _ _ h3,h4⟩
 |siter s pos=>exact h
 |defd=>exact h
 |gone=>trivial
end
def Rr(ρ:Nat->Value)(μ:Mu)(w:World):Prop:=∀r:Int,ρ 1000000= .int .i64 r->μ 1=some (r.toNat,0)/\∃cur e fz,w.heap[r.toNat]? =some (.cells cur e fz)/\ρ 1000001= .int .i64 cur.size
theorem Rr.more{ρ:Nat->Value}{μ μ':Mu}{w w':World}(h:Rr ρ μ w)(hm:yZ μ μ')(hg:Jt w w'):Rr ρ μ' w':=fun r hr=>by obtain⟨h1,cur,e,fz,h2,h3⟩:=h r hr;obtain⟨cur',e',fz',h4,h5⟩:=hg _ _ _ _ h2;exact⟨hm _ _ h1,cur',e',fz',h4,by rw[h5];exact h3⟩
structure Ns(P:Program)(ρ:Nat->Value)(fl:Nat)(μ:Mu)(h:List AB)(w:World):Prop where
 floor:fl<=w.heap.size
 dom:∀b x,μ b=some x->b<h.length
 obj:∀(b r base:Nat) (ab:AB),μ b=some (r,base)->h[b]? =some ab->(wr ab=true->fl<=r)/\r<w.heap.size/\∃o,w.heap[r]? =some o/\XQ P ρ μ w base ab o
 inj:∀(b b' r base base':Nat) (ab ab':AB),μ b=some (r,base)->μ b'=some (r,base')->h[b]? =some ab->h[b']? =some ab'->wr ab=true->Pp ab'=true->b=b'
 pin:Rr ρ μ w
structure JQ(P:Program)(ρ:Nat->Value)(fl:Nat)(μ:Mu)(h:List AB)(w:World)(μ':Mu)(h':List AB)(w':World):Prop where
 more:yZ μ μ'
 len:h.length<=h'.length
 new:∀b x,μ b=none->μ' b=some x->h.length<=b
 keep:∀b,b<h.length->μ b=none->h'[b]? =h[b]?
 gone:∀b:Nat,h[b]? =some .gone->h'[b]? =some .gone
 frz:∀(b:Nat) (l:List AV) (e:TypeId),h[b]? =some (.frz l e)->h'[b]? =some (.frz l e)
 grows:Jt w w'
 size:w.heap.size<=w'.heap.size
 own:∀b r base,μ b=none->μ' b=some (r,base)->w.heap.size<=r\/∃(b0 base0:Nat) (ab:AB),μ b0=some (r,base0)/\h[b0]? =some ab/\wr ab=true
 rest:∀r,r<w.heap.size->(∀(b base:Nat) (ab:AB),μ b=some (r,base)->h[b]? =some ab->wr ab=false)->w'.heap[r]? =w.heap[r]?
 same:w'.tape=w.tape/\w'.os=w.os/\w'.output=w.output
 hr:Ns P ρ fl μ' h' w'
theorem JQ.refl{fl:Nat}{μ:Mu}{h:List AB}{w:World}(hr:Ns P ρ fl μ h w):JQ P ρ fl μ h w μ h w:=
 ⟨yZ.refl μ,jM _,fun b x h1 h2=>(by rw[h1]at h2;cases h2),fun _ _ _=>rfl,fun _ h=>h,fun _ _ _ h=>h,Jt.refl w,jM _,fun b r base h1 h2=>(by rw[h1]at h2;cases h2),fun _ _ _=>rfl,⟨rfl,rfl,rfl⟩,hr⟩
theorem JQ.drew{fl:Nat}{μ:Mu}{h:List AB}{w:World}(hr:Ns P ρ fl μ h w)(n:Nat):JQ P ρ fl μ h w μ h (w.drewN n):=by
 have hg:Jt w (w.drewN n):=fun r cur e fz h=>⟨cur,e,fz,h,rfl⟩
 exact⟨yZ.refl μ,jM _,fun b x h1 h2=>(by rw[h1]at h2;cases h2),fun _ _ _=>rfl,fun _ h=>h,fun _ _ _ h=>h,hg,jM _,fun b r base h1 h2=>(by rw[h1]at h2;cases h2),fun _ _ _=>rfl,⟨rfl,rfl,rfl⟩,
  ⟨hr.floor,hr.dom,fun b r base ab h1 h2=>let⟨h3,h4,o,h5,h6⟩:=hr.obj b r base ab h1 h2;⟨h3,h4,o,h5,h6.mono (yZ.refl μ) hg⟩,hr.inj,hr.pin.more (yZ.refl μ) hg⟩⟩
theorem aO(h:Pp ab=false):ab= .gone:=by cases ab<;>first|rfl|cases h
theorem JQ.nowr{fl:Nat}{μ μ1:Mu}{h h1:List AB}{w w1:World}(a:JQ P ρ fl μ h w μ1 h1 w1){b:Nat}(hb:h[b]? =some ab)(hw:wr ab=false):h1[b]? =some ab:=by
 rcases j0A hw with rfl|⟨l,e,rfl⟩
 ·exact a.gone b hb
 ·exact a.frz b l e hb
theorem JQ.trans{fl:Nat}{μ μ1 μ2:Mu}{h h1 h2:List AB}{w w1 w2:World}(hr:Ns P ρ fl μ h w)(a:JQ P ρ fl μ h w μ1 h1 w1)(b:JQ P ρ fl μ1 h1 w1 μ2 h2 w2):JQ P ρ fl μ h w μ2 h2 w2:=by
 refine⟨a.more.trans b.more,zY a.len b.len,fun c x hc hx=> ?_,fun c hc hn=> ?_,fun c hc=>b.gone c (a.gone c hc),fun c l e hc=>b.frz c l e (a.frz c l e hc),a.grows.trans b.grows,zY a.size b.size,fun c r base hc hx=> ?_,fun r hr1 hno=> ?_,?_,b.hr⟩
 ·cases h3:μ1 c with
  |some y=>exact a.new c y hc h3
  |none=>exact zY a.len (b.new c x h3 hx)
 ·have h3:μ1 c=none:=by
   cases h4:μ1 c with
   |none=>rfl
   |some y=>exact absurd (a.new c y hn h4) (by omega)
  rw[b.keep c (zS hc a.len) h3,a.keep c hc hn]
 ·cases h3:μ1 c with
  |some y=>
   have h4:=b.more c y h3;rw[hx]at h4;obtain rfl:=jS h4;exact a.own c r base hc h3
  |none=>
   rcases b.own c r base h3 hx with h4|⟨b0,base0,ab,h5,h6,h7⟩
   ·exact .inl (zY a.size h4)
   ·cases h8:μ b0 with
    |some y=>
     have h9:=a.more b0 y h8
     rw[h5]at h9
     obtain rfl:=jS h9
     have hd:=hr.dom b0 _ h8
     have hx2:h[b0]? =some h[b0]:=jO hd
     refine .inr ⟨b0,base0,h[b0],h8,hx2,?_⟩
     cases hl:wr h[b0]with
     |true=>rfl
     |false=>
      rw[a.nowr hx2 hl]at h6;obtain rfl:=jS h6;rw[hl]at h7;cases h7
    |none=>exact a.own b0 r base0 h8 h5
 ·have e1:=a.rest r hr1 hno;rw[<-e1];refine b.rest r (zS hr1 a.size) (fun c base ab hc hab=> ?_);cases h3:μ c with
  |some y=>
   have h4:=a.more c y h3;rw[hc]at h4;obtain rfl:=jS h4;have hd:=hr.dom c _ h3;have hx2:h[c]? =some h[c]:=jO hd;have hl:=hno c base _ h3 hx2;rw[a.nowr hx2 hl]at hab;obtain rfl:=jS hab;exact hl
  |none=>
   rcases a.own c r base h3 hc with h4|⟨b0,base0,ab0,h5,h6,h7⟩
   ·omega
   ·rw[hno b0 base0 ab0 h5 h6]at h7;cases h7
 ·exact⟨b.same.1.trans a.same.1,b.same.2.1.trans a.same.2.1,b.same.2.2.trans a.same.2.2⟩
def up(μ:Mu)(b:Nat)(x:Nat×Nat):Mu:=fun c=>if c=b then some x else μ c
theorem Jb(μ:Mu)(b:Nat)(x:Nat×Nat):up μ b x b=some x:=by simp[up]
theorem XX{μ:Mu}{b c:Nat}{x:Nat×Nat}(h:c≠b):up μ b x c=μ c:=by simp[up,h]
theorem HI{μ:Mu}{b:Nat}{x:Nat×Nat}(h:μ b=none):yZ μ (up μ b x):=fun c y hc=>by
 by_cases hcb:c=b
 ·subst hcb;rw[h]at hc;cases hc
 ·rw[XX hcb];exact hc
theorem DJ(w:World)(o:Obj):Jt w (w.alloc o):=fun r cur e fz h=>⟨cur,e,fz,by rw[Below.heap_alloc w o r (VS h)];exact h,rfl⟩
theorem JQ.alloc{fl:Nat}{μ:Mu}{h:List AB}{w:World}(hr:Ns P ρ fl μ h w)(ho:XQ P ρ μ w 0 ab o):JQ P ρ fl μ h w (up μ h.length (w.heap.size,0)) (h++[ab]) (w.alloc o):=by
 have hn:μ h.length=none:=by
  cases hx:μ h.length with
  |none=>rfl
  |some x=>exact absurd (hr.dom _ _ hx) (by omega)
 have hm:yZ μ (up μ h.length (w.heap.size,0)):=HI hn;have hg:=DJ w o;have hs:(w.alloc o).heap.size=w.heap.size+1:=by simp
 refine⟨hm,by simp,fun b x h1 h2=> ?_,fun b hb _=>jZ hb,fun b hb=> ?_,fun b l e hb=>(by rw[jZ (List.getElem?_eq_some_iff.1 hb).1];exact hb),hg,by omega,fun b r base h1 h2=> ?_,fun r h1 _=>Below.heap_alloc w o r h1,⟨rfl,rfl,rfl⟩,?_⟩
 ·by_cases hb:b=h.length
  ·omega
  ·rw[XX hb,h1]at h2;cases h2
 ·rw[jZ (List.getElem?_eq_some_iff.1 hb).1];exact hb
 ·by_cases hb:b=h.length
  ·subst hb;rw[Jb]at h2;simp only[jP,jV]at h2;exact .inl (by omega)
  ·rw[XX hb,h1]at h2;cases h2
 ·refine⟨by have:=hr.floor;omega,fun b x hb=> ?_,fun b r base ab' h1 h2=> ?_,fun b b' r base base' ab1 ab2 h1 h2 h3 h4 h5 h6=> ?_,hr.pin.more hm hg⟩
  ·by_cases hbb:b=h.length
   ·simp[hbb]
   ·rw[XX hbb]at hb;have:=hr.dom b x hb;simp;omega
  ·by_cases hbb:b=h.length
   ·subst hbb;rw[Jb]at h1;simp only[jP,jV]at h1;obtain⟨rfl,rfl⟩:=h1;rw[zQ (jM _),Ju]at h2;simp only[xW,jP]at h2;subst h2;exact⟨fun _=>hr.floor,by omega,o,Jp w o,ho.mono hm hg⟩
   ·rw[XX hbb]at h1;rw[jZ (hr.dom b _ h1)]at h2;obtain⟨h3,h4,o',h5,h6⟩:=hr.obj b r base ab' h1 h2;exact⟨h3,by omega,o',by rw[Below.heap_alloc w o r h4];exact h5,h6.mono hm hg⟩
  ·by_cases hbb:b=h.length
   ·by_cases hbb':b'=h.length
    ·omega
    ·rw[XX hbb']at h2;rw[hbb,Jb]at h1;simp only[jP,jV]at h1;have hd:=hr.dom b' _ h2;rw[jZ hd]at h4;have:=(hr.obj b' r base' ab2 h2 h4).2.1;omega
   ·rw[XX hbb]at h1;have hd:=hr.dom b _ h1;rw[jZ hd]at h3;by_cases hbb':b'=h.length
    ·rw[hbb',Jb]at h2;simp only[jP,jV]at h2;have:=(hr.obj b r base ab1 h1 h3).2.1;omega
    ·rw[XX hbb']at h2;rw[jZ (hr.dom b' _ h2)]at h4;exact hr.inj b b' r base base' ab1 ab2 h1 h2 h3 h4 h5 h6
structure MJ(r:Nat)(w w':World):Prop where
 size:w'.heap.size=w.heap.size
 other:∀k,k≠r->w'.heap[k]? =w.heap[k]?
 grows:Jt w w'
 same:w'.tape=w.tape/\w'.os=w.os/\w'.output=w.output
theorem JQ.upd{fl:Nat}{μ:Mu}{h:List AB}{w w':World}(hr:Ns P ρ fl μ h w){b r base:Nat}(hb:μ b=some (r,base))(hab:h[b]? =some ab)(hl:wr ab=true)
 (hw:MJ r w w') (ho:w'.heap[r]? =some o') (hrel:XQ P ρ μ w' base ab' o'):JQ P ρ fl μ h w μ (h.set b ab') w':=by
 have hlt:=(List.getElem?_eq_some_iff.1 hab).1
 refine⟨yZ.refl μ,by simp,fun c x h1 h2=>(by rw[h1]at h2;cases h2),fun c hc hn=> ?_,fun c hc=> ?_,fun c l e hc=> ?_,hw.grows,by rw[hw.size];exact jM _,fun c r' base' h1 h2=>(by rw[h1]at h2;cases h2),fun k hk hno=> ?_,hw.same,?_⟩
 ·rw[vK (fun e=>by rw[e,hn]at hb;cases hb)]
 ·by_cases hcb:b=c
  ·subst hcb;rw[hab]at hc;obtain rfl:=jS hc;cases hl
  ·rw[vK hcb];exact hc
 ·by_cases hcb:b=c
  ·subst hcb;rw[hab]at hc;obtain rfl:=jS hc;cases hl
  ·rw[vK hcb];exact hc
 ·exact hw.other k (fun e=>by subst e;rw[hno b base ab hb hab]at hl;cases hl)
 ·refine⟨by rw[hw.size];exact hr.floor,fun c x hc=>by rw[yI];exact hr.dom c x hc,fun c r' base' ac hc hac=> ?_,fun c c' r' base1 base2 a1 a2 h1 h2 h3 h4 h5 h6=> ?_,hr.pin.more (yZ.refl μ) hw.grows⟩
  ·by_cases hcb:b=c
   ·subst hcb;rw[hb]at hc;simp only[jP,jV]at hc;obtain⟨rfl,rfl⟩:=hc;rw[qK hlt]at hac;obtain rfl:=jS hac;obtain⟨h3,h4,_⟩:=hr.obj b r base ab hb hab;exact⟨fun _=>h3 hl,by rw[hw.size];exact h4,o',ho,hrel⟩
   ·rw[vK hcb]at hac;obtain⟨h3,h4,o,h5,h6⟩:=hr.obj c r' base' ac hc hac;refine⟨h3,by rw[hw.size];exact h4,?_⟩;cases hl2:Pp ac with
    |false=>
     rw[aO hl2];by_cases hk:r'=r
     ·subst hk;exact⟨o',ho,trivial⟩
     ·exact⟨o,by rw[hw.other r' hk];exact h5,trivial⟩
    |true=>
     have hk:r'≠r:=fun e=>hcb (by subst e;exact hr.inj b c r' base base' ab ac hb hc hab hac hl hl2);exact⟨o,by rw[hw.other r' hk];exact h5,h6.mono (yZ.refl μ) hw.grows⟩
  ·have key:∀c a,(h.set b ab')[c]? =some a->Pp a=true->∃a0,h[c]? =some a0/\Pp a0=true:=fun c a hc hla=>by
    by_cases hcb:b=c
    ·subst hcb;exact⟨ab,hab,fP hl⟩
    ·rw[vK hcb]at hc;exact⟨a,hc,hla⟩
   have key2:∀c a,(h.set b ab')[c]? =some a->wr a=true->∃a0,h[c]? =some a0/\wr a0=true:=fun c a hc hla=>by
    by_cases hcb:b=c
    ·subst hcb;exact⟨ab,hab,hl⟩
    ·rw[vK hcb]at hc;exact⟨a,hc,hla⟩
   obtain⟨b1,q1,q2⟩:=key2 c a1 h3 h5
   obtain⟨b2,q3,q4⟩:=key c' a2 h4 h6
   exact hr.inj c c' r' base1 base2 b1 b2 h1 h2 q1 q3 q2 q4
theorem JQ.move{fl:Nat}{μ:Mu}{h:List AB}{w w':World}(hr:Ns P ρ fl μ h w){b r base base':Nat}(hb:μ b=some (r,base))(hab:h[b]? =some ab)(hl:wr ab=true)
 (hw:MJ r w w') (ho:w'.heap[r]? =some o') (hrel:XQ P ρ μ w' base' ab' o'):JQ P ρ fl μ h w (up μ h.length (r,base')) (h.set b .gone++[ab']) w':=by
 have e1:=JQ.upd (ab':= .gone) hr hb hab hl hw ho trivial
 have hlt:=(List.getElem?_eq_some_iff.1 hab).1
 have hls:(h.set b .gone).length=h.length:=yI
 have hn:μ h.length=none:=by
  cases hx:μ h.length with
  |none=>rfl
  |some x=>exact absurd (hr.dom _ _ hx) (by omega)
 have hm:yZ μ (up μ h.length (r,base')):=HI hn
 obtain⟨f1,f2,_⟩:=hr.obj b r base ab hb hab
 refine⟨hm,by simp,fun c x h1 h2=> ?_,fun c hc hx=> ?_,fun c hc=> ?_,fun c l e hc=> ?_,hw.grows,e1.size,fun c r' bs h1 h2=> ?_,e1.rest,hw.same,?_⟩
 ·by_cases hcb:c=h.length
  ·omega
  ·rw[XX hcb,h1]at h2;cases h2
 ·rw[jZ (by omega)];exact e1.keep c hc hx
 ·have:=e1.gone c hc;rw[jZ (List.getElem?_eq_some_iff.1 this).1];exact this
 ·have:=e1.frz c l e hc;rw[jZ (List.getElem?_eq_some_iff.1 this).1];exact this
 ·by_cases hcb:c=h.length
  ·subst hcb;rw[Jb]at h2;simp only[jP,jV]at h2;obtain⟨rfl,rfl⟩:=h2;exact .inr ⟨b,base,ab,hb,hab,hl⟩
  ·rw[XX hcb,h1]at h2;cases h2
 ·refine⟨e1.hr.floor,fun c x hc=> ?_,fun c r' bs ac hc hac=> ?_,fun c c' r' b1 b2 a1 a2 h1 h2 h3 h4 h5 h6=> ?_,e1.hr.pin.more hm (Jt.refl _)⟩
  ·by_cases hcb:c=h.length
   ·simp[hcb]
   ·rw[XX hcb]at hc;have:=hr.dom c x hc;simp;omega
  ·by_cases hcb:c=h.length
   ·subst hcb;rw[Jb]at hc;simp only[jP,jV]at hc;obtain⟨rfl,rfl⟩:=hc;rw[zQ (by omega),hls,Ju]at hac;simp only[xW,jP]at hac;subst hac;exact⟨fun _=>f1 hl,by rw[hw.size];exact f2,o',ho,hrel.mono hm (Jt.refl _)⟩
   ·rw[XX hcb]at hc;rw[jZ (by rw[hls];exact hr.dom c _ hc)]at hac;obtain⟨h3,h4,o,h5,h6⟩:=e1.hr.obj c r' bs ac hc hac;exact⟨h3,h4,o,h5,h6.mono hm (Jt.refl _)⟩
  ·have key:∀d bd ad,d≠h.length->up μ h.length (r,base') d=some (r',bd)->(h.set b .gone++[ab'])[d]? =some ad->Pp ad=true->r'≠r:=fun d bd ad hd q1 q2 q3=>by
    rw[XX hd]at q1
    rw[jZ (by rw[hls];exact hr.dom d _ q1)]at q2
    intro e
    subst e
    by_cases hdb:b=d
    ·subst hdb;rw[qK hlt]at q2;obtain rfl:=jS q2;cases q3
    ·rw[vK hdb]at q2;exact hdb (hr.inj b d r' base bd ab ad hb q1 hab q2 hl q3)
   by_cases hc1:c=h.length
   ·by_cases hc2:c'=h.length
    ·omega
    ·have:=key c' b2 a2 hc2 h2 h4 h6;rw[hc1,Jb]at h1;simp only[jP,jV]at h1;exact absurd h1.1.symm this
   ·by_cases hc2:c'=h.length
    ·have:=key c b1 a1 hc1 h1 h3 (fP h5);rw[hc2,Jb]at h2;simp only[jP,jV]at h2;exact absurd h2.1.symm this
    ·rw[XX hc1]at h1;rw[XX hc2]at h2;rw[jZ (by rw[hls];exact hr.dom c _ h1)]at h3;rw[jZ (by rw[hls];exact hr.dom c' _ h2)]at h4;exact e1.hr.inj c c' r' b1 b2 a1 a2 h1 h2 h3 h4 h5 h6
def AH.L(h:AH):List AB:=vL .gone h
theorem Ic(h:AH):h.L.length=h.n:=bZ _ _
theorem Kn(h:AH)(b:Nat):h.L[b]? =h.at b:=Ot _ _ _
theorem Nt(h:AH)(b:Nat)(x:AB):(h.put b x).L=h.L.set b x:=j0v _ _ _ _
theorem Bo(h:AH)(x:AB):(h.push x).L=h.L++[x]:=j35 _ _ _
theorem kZ(h:AH)(b:Nat)(x:AB):(h.put b x).n=h.n:=by rw[<-Ic,Nt,yI,Ic]
theorem zF(h:AH)(x:AB):(h.push x).n=h.n+1:=rfl
theorem jR{h:AH}{b:Nat}{x:AB}(hx:h.at b=some x):b<h.n:=by rw[<-Kn]at hx;rw[<-Ic];exact(List.getElem?_eq_some_iff.1 hx).1
theorem xE{h:AH}{b:Nat}(x:AB)(hb:b<h.n):(h.push x).at b=h.at b:=by rw[<-Kn,Bo,jZ (by rw[Ic];exact hb),Kn]
theorem zI(h:AH)(x:AB):(h.push x).at h.n=some x:=by rw[<-Kn,Bo,zQ (by rw[Ic];exact jM _),Ic,Ju];rfl
theorem qJ{h:AH}{b:Nat}(x:AB)(hb:b<h.n):(h.put b x).at b=some x:=by rw[<-Kn,Nt,qK (by rw[Ic];exact hb)]
theorem zE{h:AH}{b c:Nat}(x:AB)(hb:b≠c):(h.put b x).at c=h.at c:=by rw[<-Kn,Nt,vK hb,Kn]
theorem j4T(b:Nat):AH.nil.at b=none:=by rw[<-Kn];rfl
def HR(P:Program)(ρ:Nat->Value)(fl:Nat)(μ:Mu)(h:AH)(w:World):Prop:=Ns P ρ fl μ h.L w
def yD(P:Program)(ρ:Nat->Value)(fl:Nat)(μ:Mu)(h:AH)(w:World)(μ':Mu)(h':AH)(w':World):Prop:=JQ P ρ fl μ h.L w μ' h'.L w'
section trees
variable {fl:Nat} {μ μ' μ1 μ2:Mu} {h h' h1 h2:AH} {w w' w1 w2:World}
theorem HR.floor(hr:HR P ρ fl μ h w):fl<=w.heap.size:=Ns.floor hr
theorem HR.dom(hr:HR P ρ fl μ h w)(b:Nat)(x:Nat×Nat)(hb:μ b=some x):b<h.n:=by rw[<-Ic];exact Ns.dom hr b x hb
theorem HR.obj(hr:HR P ρ fl μ h w)(b r base:Nat)(ab:AB)(hb:μ b=some (r,base))(hx:h.at b=some ab):(wr ab=true->fl<=r)/\r<w.heap.size/\∃o,w.heap[r]? =some o/\XQ P ρ μ w base ab o:=
 Ns.obj hr b r base ab hb (by rw[Kn];exact hx)
theorem HR.inj(hr:HR P ρ fl μ h w)(b b' r base base':Nat)(ab ab':AB)(h1:μ b=some (r,base))(h2:μ b'=some (r,base'))(h3:h.at b=some ab)(h4:h.at b'=some ab')(h5:wr ab=true)(h6:Pp ab'=true):b=b':=
 Ns.inj hr b b' r base base' ab ab' h1 h2 (by rw[Kn];exact h3) (by rw[Kn];exact h4) h5 h6
theorem yD.more(e:yD P ρ fl μ h w μ' h' w'):yZ μ μ':=JQ.more e
theorem yD.len(e:yD P ρ fl μ h w μ' h' w'):h.n<=h'.n:=by rw[<-Ic,<-Ic];exact JQ.len e
theorem yD.new(e:yD P ρ fl μ h w μ' h' w')(b:Nat)(x:Nat×Nat)(h1:μ b=none)(h2:μ' b=some x):h.n<=b:=by rw[<-Ic];exact JQ.new e b x h1 h2
theorem yD.keep(e:yD P ρ fl μ h w μ' h' w')(b:Nat)(hb:b<h.n)(hn:μ b=none):h'.at b=h.at b:=by rw[<-Kn,<-Kn];exact JQ.keep e b (by rw[Ic];exact hb) hn
theorem yD.gone(e:yD P ρ fl μ h w μ' h' w')(b:Nat)(hb:h.at b=some .gone):h'.at b=some .gone:=by rw[<-Kn]at hb ⊢;exact JQ.gone e b hb
theorem yD.frz(e:yD P ρ fl μ h w μ' h' w')(b:Nat)(l:List AV)(t:TypeId)(hb:h.at b=some (.frz l t)):h'.at b=some (.frz l t):=by rw[<-Kn]at hb ⊢;exact JQ.frz e b l t hb
theorem yD.grows(e:yD P ρ fl μ h w μ' h' w'):Jt w w':=JQ.grows e
theorem yD.size(e:yD P ρ fl μ h w μ' h' w'):w.heap.size<=w'.heap.size:=JQ.size e
theorem yD.own(e:yD P ρ fl μ h w μ' h' w')(b r base:Nat)(h1:μ b=none)(h2:μ' b=some (r,base)):w.heap.size<=r\/∃(b0 base0:Nat) (ab:AB),μ b0=some (r,base0)/\h.at b0=some ab/\wr ab=true:=by
 rcases JQ.own e b r base h1 h2 with h3|⟨b0,base0,ab,h3,h4,h5⟩
 ·exact .inl h3
 ·exact .inr ⟨b0,base0,ab,h3,by rw[<-Kn];exact h4,h5⟩
theorem yD.rest(e:yD P ρ fl μ h w μ' h' w')(r:Nat)(hr:r<w.heap.size)(hno:∀(b base:Nat) (ab:AB),μ b=some (r,base)->h.at b=some ab->wr ab=false):w'.heap[r]? =w.heap[r]? :=
 JQ.rest e r hr (fun b base ab h1 h2=>hno b base ab h1 (by rw[<-Kn];exact h2))
theorem yD.same(e:yD P ρ fl μ h w μ' h' w'):w'.tape=w.tape/\w'.os=w.os/\w'.output=w.output:=JQ.same e
theorem yD.hr(e:yD P ρ fl μ h w μ' h' w'):HR P ρ fl μ' h' w':=JQ.hr e
theorem yD.refl(hr:HR P ρ fl μ h w):yD P ρ fl μ h w μ h w:=JQ.refl hr
theorem yD.drew(hr:HR P ρ fl μ h w)(n:Nat):yD P ρ fl μ h w μ h (w.drewN n):=JQ.drew hr n
theorem yD.trans(hr:HR P ρ fl μ h w)(a:yD P ρ fl μ h w μ1 h1 w1)(b:yD P ρ fl μ1 h1 w1 μ2 h2 w2):yD P ρ fl μ h w μ2 h2 w2:=JQ.trans hr a b
theorem yD.alloc(hr:HR P ρ fl μ h w)(ho:XQ P ρ μ w 0 ab o):yD P ρ fl μ h w (up μ h.n (w.heap.size,0)) (h.push ab) (w.alloc o):=by unfold yD;rw[Bo,<-Ic];exact JQ.alloc hr ho
theorem yD.upd(hr:HR P ρ fl μ h w){b r base:Nat}(hb:μ b=some (r,base))(hab:h.at b=some ab)(hl:wr ab=true)
 (hw:MJ r w w') (ho:w'.heap[r]? =some o') (hrel:XQ P ρ μ w' base ab' o'):yD P ρ fl μ h w μ (h.put b ab') w':=by
 unfold yD
 rw[Nt]
 exact JQ.upd hr hb (by rw[Kn];exact hab) hl hw ho hrel
theorem yD.move(hr:HR P ρ fl μ h w){b r base base':Nat}(hb:μ b=some (r,base))(hab:h.at b=some ab)(hl:wr ab=true)
 (hw:MJ r w w') (ho:w'.heap[r]? =some o') (hrel:XQ P ρ μ w' base' ab' o'):yD P ρ fl μ h w (up μ h.n (r,base')) ((h.put b .gone).push ab') w':=by
 unfold yD
 rw[Bo,Nt,<-Ic]
 exact JQ.move hr hb (by rw[Kn];exact hab) hl hw ho hrel
theorem yD.alike(e:yD P ρ fl μ h w μ' h' w')(hh:h'.L=h1.L):yD P ρ fl μ h w μ' h1 w':=by unfold yD at e ⊢;rw[<-hh];exact e
end trees
end
variable{o:Oper}{t e:TypeId}{d:TypeDesc}{b:Bool}{r:Result Next}{v:AV}{n:AN}{vs l':List AV}
section
open Go Go.RowKit
structure TT.Sound(P:Program)(T:TT):Prop where
 und:∀t i,T t=some i->P.underlying t=some i.desc
 info:∀t i,T t=some i->∃info z,P.info? t=some info/\info.size=i.size/\(info.bytes<=i.bytes/\(j4h i.zero=true->281474976710656<i.bytes))/\info.zero=some z/\Yx z=some i.zero
 ck:∀t i v,T t=some i->i.ck v=true->∀b,∃a,yS P (Instr.checkKey b 10000 t v)=some (.ok a)
 eq:∀t i a b r,T t=some i->i.eq a b=some r->yS P (Op.equal t a b)=some (.ok r)
theorem NT.all_has{p:Nat->Bool}{t:Nat}:∀{N:NT},N.all p=true->N.has t=true->p t=true
 | .leaf,_,h=>by cases h
 | .node l k r,ha,h=>by
   simp only[NT.all,jW]at ha;simp only[NT.has]at h;cases h1:Nat.beq t k with
   |true=>
    obtain rfl:=jY h1;exact ha.1.1
   |false=>
    rw[h1]at h
    simp only[cond_false]at h
    cases h2:Nat.blt t k with
    |true=>rw[h2]at h;exact NT.all_has ha.1.2 h
    |false=>rw[h2]at h;exact NT.all_has ha.2 h
theorem TR{P:Program}{N:NT}(h:N.all (Py P)=true):TT.Sound P (zH P N):=by
 have key:∀t i,zH P N t=some i->Py P t=true/\i=Mx P t:=fun t i hi=>by
  unfold zH at hi;cases hh:NT.has t N with
  |false=>rw[hh]at hi;cases hi
  |true=>
   rw[hh]at hi;exact⟨NT.all_has h hh,(jS hi).symm⟩
 refine⟨fun t i hi=> ?_,fun t i hi=> ?_,fun t i v hi hc b=> ?_,fun t i a b r hi he=> ?_⟩;rotate_left 2
 ·obtain⟨_,rfl⟩:=key t i hi;simp only[Mx]at hc;split at hc
  ·rename_i x y h1 h2;cases b
   ·exact⟨y,h2⟩
   ·exact⟨x,h1⟩
  ·cases hc
 ·obtain⟨_,rfl⟩:=key t i hi;simp only[Mx]at he;split at he
  ·obtain rfl:=jS he;assumption
  ·cases he
 ·obtain⟨h1,rfl⟩:=key t i hi;simp only[Py,jW]at h1;obtain⟨d,hd⟩:=Option.isSome_iff_exists.1 h1.1;simp[Mx,hd]
 ·obtain⟨h1,rfl⟩:=key t i hi;simp only[Py,jW]at h1;obtain⟨a,ha⟩:=Option.isSome_iff_exists.1 h1.2;cases hq:P.info? t with
  |none=>rw[hq]at ha;cases ha
  |some info=>
   cases hz:info.zero with
   |none=>rw[hq]at ha;simp[hz]at ha
   |some z=>
    rw[hq]at ha;simp only[Kp,hz]at ha;exact⟨info,z,rfl,by simp[Mx,hq],⟨by simp only[Mx,hq,qD,Jn];omega,fun hb=>by simp only[Mx,hq]at hb ⊢;rw[hb];simp only[cond_true];omega⟩,hz,by simp[Mx,hq,hz,ha]⟩
variable {P:Program} {T:TT} {ρ:Nat->Value} {fl:Nat} {μ:Mu} {h:AH} {w:World}
theorem qX(hT:TT.Sound P T)(hd:und T t=some d)(w:World):(underlying t).run P w= .ok d w:=by simp only[und,jT]at hd;obtain⟨i,h1,rfl⟩:=hd;simp[underlying,hT.und t i h1]
theorem Gk(hT:TT.Sound P T)(hd:und T t=some d):P.underlying t=some d:=by simp only[und,jT]at hd;obtain⟨i,h1,rfl⟩:=hd;exact hT.und t i h1
theorem JD(hT:TT.Sound P T){n:Nat}(hd:vQ T t=some n)(w:World):(sizeOf t).run P w= .ok n w:=by simp only[vQ,jT]at hd;obtain⟨i,h1,rfl⟩:=hd;obtain⟨info,z,h2,h3,_⟩:=hT.info t i h1;simp[sizeOf,typeInfo,h2,h3]
theorem j5f(hT:TT.Sound P T){n:Nat}(hd:vQ T t=some n):(P.info? t).map (·.size)=some n:=by simp only[vQ,jT]at hd;obtain⟨i,h1,rfl⟩:=hd;obtain⟨info,z,h2,h3,_⟩:=hT.info t i h1;simp[h2,h3]
theorem QO(hT:TT.Sound P T){z:AV}(hd:Jm T t=some z)(w:World):∃v,(zeroValue t).run P w= .ok v w/\Yx v=some z:=by simp only[Jm,jT]at hd;obtain⟨i,h1,rfl⟩:=hd;obtain⟨info,z,h2,_,_,h3,h4⟩:=hT.info t i h1;exact⟨z,by simp[zeroValue,typeInfo,h2,h3],h4⟩
theorem Oi(hT:TT.Sound P T)(hd:XO T t=some b)(w:World):(isAgg t).run P w= .ok b w:=by
 simp only[XO,jT]at hd;obtain⟨i,h1,rfl⟩:=hd;unfold isAgg;have h2:und T t=some i.desc:=by simp[und,h1]
 rw[xU,qX hT h2];cases i.desc<;>rfl
theorem HP{α:Type}(s:Sem α):∀r,yS P s=some r->∀w,s.run P w=match r with| .ok a=> .ok a w| .pan v=> .halt (.panic v) w:=by
 induction s with
 |pure a=>intro r hr w;simp only[yS,jP]at hr;subst hr;rfl
 |program k ih=>intro r hr w;exact ih P r hr w
 |mark m k ih=>intro r hr w;exact ih r hr w
 |halt x=>
  intro r hr w;cases x<;>simp only[yS,jP,reduceCtorEq]at hr;subst hr;rfl
 |load m a k ih=>intro r hr;cases hr
 |store m a v k ih=>intro r hr;cases hr
 |new o k ih=>intro r hr;cases hr
 |shape r k ih=>intro r hr;cases hr
 |freeze a n k ih=>intro r hr;cases hr
 |frozen a k ih=>intro r hr;cases hr
 |getObj r k ih=>intro r hr;cases hr
 |setObj r o k ih=>intro r hr;cases hr
 |choose q k ih=>intro r hr;cases hr
 |sys c k ih=>intro r hr;cases hr
def ZV(ρ:Nat->Value)(μ:Mu)(w:World)(tmps:TM)(ev:Operand->Value):Prop:=∀x a,xJ tmps x=some a->rel ρ μ w a (ev x)
theorem dU{tmps:TM}{ev:Operand->Value}{l:List Value}(hl:qF ρ μ w tmps.L l)(h1:∀t,ev (.tmp t)=l.getD t undef)(h2:∀v,ev (.const v)=v)(h3:∀f,ev (.func f)= .func (.func f) #[] #[]):ZV ρ μ w tmps ev:=by
 intro x a hx;cases x with
 |tmp t=>
  simp only[xJ,jP]at hx;subst hx;rw[h1,<-YZ,<-jU];exact Fi t hl
 |const v=>rw[h2];exact Ax hx
 |global g=>cases hx
 |func f=>
  simp only[xJ,jP]at hx;subst hx;rw[h3];unfold rel;exact⟨.func f,[],[],rfl,rfl,rels_nil,rels_nil⟩
variable {tmps:TM} {ev:Operand->Value}
theorem JF(he:ZV ρ μ w tmps ev):∀{l:List Operand} {xs:List AV},XS tmps l=some xs->qF ρ μ w xs (l.map ev)
 |[],xs,hh=>by simp only[XS,jP]at hh;subst hh;exact rels_nil
 |x::r,xs,hh=>by
  unfold XS at hh;split at hh
  ·rename_i v vs hv hvs;obtain rfl:=jS hh;exact rels_cons (he x v hv) (JF he hvs)
  ·cases hh
theorem Cu(he:ZV ρ μ w tmps ev):∀{l:List Operand},JK tmps l=true->∀x∈l,ev x=qI tmps x
 |[],_,x,hx=>by cases hx
 |y::r,hh,x,hx=>by
  unfold JK at hh;split at hh
  ·rename_i v hv;simp only[jW]at hh;cases hx with
   |head=>
    obtain⟨u,hu⟩:=Option.isSome_iff_exists.1 hh.1;simp only[qI,hv,hu,Jn];exact nV hu (he _ _ hv)
   |tail _ hm=>exact Cu he hh.2 x hm
  ·cases hh
def TY(P:Program)(ρ:Nat->Value)(fl:Nat)(μ:Mu)(h:AH)(w:World)(r:Result Next)(v:AV)(h':AH):Prop:=
 ∃μ' w' v',(r= .ok (.value v') w'\/(r= .ok .skip w'/\v'=undef))/\yD P ρ fl μ h w μ' h' w'/\rel ρ μ' w' v v'
def ZX(P:Program)(ρ:Nat->Value)(fl:Nat)(μ:Mu)(h:AH)(w:World)(r:Result Next):AN->AH->Prop
 | .val v,h'=>TY P ρ fl μ h w r v h'
 | .enter f args,h'=>h'=h/\∃args',qF ρ μ w args args'/\r=(callFunc f args'.toArray).run P w
 | .round l args,h'=>h'=h/\∃rl args',μ l=some (rl,0)/\qF ρ μ w args args'/\r=(Instr.yield rl args'.toArray).run P w
 | .defer f args,h'=>h'=h/\∃d args',qF ρ μ w args args'/\r= .ok (.defer d) w/\(∃fn c,d.target= .fn fn c)/\∀w',(invoke d.target d.args).run P w'=(callFunc f args'.toArray).run P w'
 | .recover,h'=>h'=h/\r= .ok .recover w
 | .pan v,h'=>h'=h/\∃v',r= .halt (.panic v') w/\rel ρ μ w v v'
theorem xL{v':Value}(hr:HR P ρ fl μ h w)(h1:r= .ok (.value v') w)(h2:rel ρ μ w v v'):TY P ρ fl μ h w r v h:=
 ⟨μ,w,v',.inl h1,yD.refl hr,h2⟩
theorem SM(hr:HR P ρ fl μ h w)(he:ZV ρ μ w tmps ev)(hl:yU P o tmps=some n):ZX P ρ fl μ h w ((execOp ev o).run P w) n h:=by
 unfold yU at hl;split at hl;case isFalse=>cases hl
 rename_i hc;simp only[jW]at hc;have heq:execOp ev o=execOp (qI tmps) o:=execOp_congr o (fun cs b hcs=>by have:=hc.1;rw[hcs]at this;cases this) (fun x hx=>Cu he hc.2 x (by simpa using hx));rw[heq];cases hp:yS P (execOp (qI tmps) o)with
 |none=>rw[hp]at hl;cases hl
 |some r=>
  rw[hp]at hl
  have hrun:=HP _ r hp w
  cases r with
  |ok nx=>
   cases nx with
   |value v=>
    simp only[Na,jT]at hl;obtain⟨a,ha,rfl⟩:=hl;exact xL hr hrun (Ax ha)
   |_=>cases hl
  |pan v=>
   simp only[Na,jT]at hl;obtain⟨a,ha,rfl⟩:=hl;exact⟨rfl,v,hrun,Ax ha⟩
theorem Xl{h':AH}{k:Unit->AR}(hr:HR P ρ fl μ h w)(he:ZV ρ μ w tmps ev)(hl:yR P o tmps h k=some (n,h'))
 (hk:k ()=some (n,h')->ZX P ρ fl μ h w ((execOp ev o).run P w) n h'):ZX P ρ fl μ h w ((execOp ev o).run P w) n h':=by
 unfold yR at hl
 split at hl
 ·rename_i m hm;simp only[jP,jV]at hl;obtain⟨rfl,rfl⟩:=hl;exact SM hr he hm
 ·exact hk hl
theorem Zx{x:Option AV}{h':AH}(hv:val h x=some (n,h')):∃a,x=some a/\n= .val a/\h'=h:=by simp only[val,jT,jV]at hv;obtain⟨a,h1,h2,h3⟩:=hv;exact⟨a,h1,h2.symm,h3.symm⟩
theorem BG{b:Nat}(hg:KL h b=some (l,e)):h.at b=some (.cells l e)/\Zj h b=some l:=by
 unfold KL at hg;split at hg
 ·rename_i l' e' hb;simp only[jP,jV]at hg;obtain⟨rfl,rfl⟩:=hg;exact⟨hb,by simp[Zj,hb]⟩
 ·cases hg
theorem Vb{b r base:Nat}(hr:HR P ρ fl μ h w)(hb:μ b=some (r,base))(hg:Zj h b=some l):
 ∃cur e fz,w.heap[r]? =some (.cells cur e fz)/\QB ρ μ w base l cur:=by
 unfold Zj at hg
 split at hg
 ·rename_i l' e hx;obtain rfl:=jS hg;obtain⟨_,_,o,h1,h2⟩:=hr.obj b r base _ hb hx;obtain⟨cur,rfl,h3,_⟩:=h2;exact⟨cur,_,_,h1,h3⟩
 ·rename_i l' e hx;obtain rfl:=jS hg;obtain⟨_,_,o,h1,h2⟩:=hr.obj b r base _ hb hx;obtain⟨cur,fz,rfl,h3⟩:=h2;exact⟨cur,_,_,h1,h3⟩
 ·cases hg
theorem Xr{b r base:Nat}(hr:HR P ρ fl μ h w)(hb:μ b=some (r,base))(hg:KL h b=some (l,e)):
 ∃cur,w.heap[r]? =some (.cells cur e (0,0))/\QB ρ μ w base l cur/\(WJ P e=true->base=0/\cur.size=l.length):=by
 obtain⟨hx,_⟩:=BG hg
 obtain⟨_,_,o,h1,h2⟩:=hr.obj b r base _ hb hx
 obtain⟨cur,rfl,h3⟩:=h2
 exact⟨cur,h1,h3⟩
theorem RW{cs:List AV}{i n:Nat}(hc:cut l i n=some cs):i+n<=l.length/\cs=(l.drop i).take n:=by
 unfold cut at hc;split at hc
 ·exact⟨by assumption,(jS hc).symm⟩
 ·cases hc
theorem KY{base off n:Nat}{cs:List AV}{cur:Array Value}(hw:QB ρ μ w base l cur)(hc:cut l off n=some cs):
 ∃vs:List Value,qF ρ μ w cs vs/\vs.length=n/\cs.length=n/\base+off+n<=cur.size/\∀(j:Nat) (v:Value),vs[j]? =some v->cur[base+off+j]? =some v:=by
 obtain⟨h1,rfl⟩:=RW hc
 obtain⟨h2,h3⟩:=hw
 have hl:((l.drop off).take n).length=n:=by simp;omega
 have hlv:((cur.toList.drop (base+off)).take n).length=n:=by simp;omega
 refine⟨(cur.toList.drop (base+off)).take n,Un (by rw[hl,hlv]) (fun i x hx=> ?_),hlv,hl,by omega,fun j v hv=> ?_⟩
 ·rw[qH]at hx;split at hx
  ·rename_i hi;rw[yA]at hx;obtain⟨v,h4,h5⟩:=h3 _ _ hx;refine⟨v,?_,h5⟩;rw[qH,if_pos hi,yA,xN,vI];exact h4
  ·cases hx
 ·rw[qH]at hv;split at hv
  ·rw[yA,xN]at hv;exact hv
  ·cases hv
theorem CL{i:Nat}(hp:put l i vs=some l'):i+vs.length<=l.length/\l'=l.take i++vs++l.drop (i+vs.length):=by
 unfold put at hp;split at hp
 ·exact⟨by assumption,(jS hp).symm⟩
 ·cases hp
theorem BQ{i:Nat}(hp:put l i vs=some l'):l'.length=l.length:=by obtain⟨h1,rfl⟩:=CL hp;simp;omega
theorem eT{i:Nat}(hp:put l i vs=some l')(k:Nat):l'[k]? =if i<=k/\k<i+vs.length then vs[k-i]? else l[k]? :=by
 obtain⟨h1,rfl⟩:=CL hp;have hti:(l.take i).length=i:=by simp;omega
 rw[zP];by_cases hk:k<i
 ·rw[jZ (by omega),if_neg (by omega),qH,if_pos hk]
 ·rw[zQ (by omega),hti];by_cases hk2:k<i+vs.length
  ·rw[jZ (by omega),if_pos (by omega)]
  ·rw[zQ (by omega),if_neg (by omega),yA];congr 1;omega
theorem VB{l':List Value}(hl:qF ρ μ w l l')(h1:l.all AV.one=true):∀u∈l',u.oneCell'=true:=by
 induction l generalizing l' with
 |nil=>rw[xM hl];intro u hu;cases hu
 |cons x xs ih=>
  obtain⟨v,vs,rfl,h2,h3⟩:=xB hl
  simp only[Oz,jW]at h1
  intro u hu
  cases hu with
  |head=>exact j2P h2 h1.1
  |tail _ hm=>exact ih h3 h1.2 u hm
theorem Qt{r e:Nat}{cur:Array Value}{fz:Nat×Nat}(hg:w.heap[r]? =some (.cells cur e fz))(o:Nat)(vs:List Value)(hl:o+vs.length<=cur.size):MJ r w (w.setCells r o vs):=by
 refine⟨YM _ _ _ _,fun k hk=>QS _ _ _ _ k hk,fun k cur' e' fz' hk=> ?_,⟨YN _ _ _ _,(KB _ _ _ _).1,(KB _ _ _ _).2⟩⟩;by_cases hkr:k=r
 ·subst hkr;rw[hg]at hk;obtain⟨rfl,rfl,rfl⟩:=Obj.cells.inj (jS hk);obtain⟨c,h1,h2,_⟩:=Zp vs o w _ hg hl;exact⟨c,_,_,h1,h2⟩
 ·exact⟨cur',e',fz',by rw[QS _ _ _ _ k hkr];exact hk,rfl⟩
theorem KG{b r base off:Nat}{rvs:List Value}(hr:HR P ρ fl μ h w)(hb:μ b=some (r,base))(hg:KL h b=some (l,e))(hp:put l off vs=some l')(hv:qF ρ μ w vs rvs):
 yD P ρ fl μ h w μ (h.put b (.cells l' e)) (w.setCells r (base+off) rvs)/\(∀j,j<rvs.length->(w.cell? ⟨r,base+off+j,none⟩).isSome=true)/\(∀j,j<rvs.length->w.frozen? ⟨r,base+off+j,none⟩=false):=by
 obtain⟨cur,h1,h2,hbig⟩:=Xr hr hb hg
 obtain⟨hx,_⟩:=BG hg
 obtain⟨p1,_⟩:=CL hp
 have hlen:=vA hv
 have hfit:base+off+rvs.length<=cur.size:=by have:=h2.1;omega
 refine⟨?_,fun j hj=> ?_,fun j hj=>yC h1⟩
 ·obtain⟨cur',c1,c2,c3⟩:=Zp rvs (base+off) w cur h1 hfit;have hone:=Qt h1 (base+off) rvs hfit;refine yD.upd hr hb hx rfl hone c1 ⟨cur',rfl,⟨by rw[BQ hp,c2];exact h2.1,fun i x hi=> ?_⟩,fun hb=>by rw[BQ hp,c2];exact hbig hb⟩;rw[eT hp]at hi;rw[c3];by_cases hk:off<=i/\i<off+vs.length
  ·rw[if_pos hk]at hi;rw[if_pos (by omega),show base+i-(base+off)=i-off by omega];obtain⟨v,q1,q2⟩:=Zk hv hi;exact⟨v,q1,rel.mono (yZ.refl μ) hone.grows _ _ q2⟩
  ·rw[if_neg hk]at hi;rw[if_neg (by omega)];obtain⟨v,q1,q2⟩:=h2.2 i x hi;exact⟨v,q1,rel.mono (yZ.refl μ) hone.grows _ _ q2⟩
 ·rw[qP h1,Jd (by omega)];rfl
theorem FV{b r base off:Nat}(hT:TT.Sound P T)(hr:HR P ρ fl μ h w)(hb:μ b=some (r,base))(hl:Jr T h t b off=some v):
 ∃v',(loadVar t ⟨r,base+off,none⟩).run P w= .ok v' w/\rel ρ μ w v v':=by
 unfold Jr at hl
 split at hl
 ·rename_i l n hg hA hS;simp only[jT]at hl;obtain⟨cs,hc,rfl⟩:=hl;obtain⟨cur,e,fz,h1,h2⟩:=Vb hr hb hg;obtain⟨vs,h3,h4,h5,h6,h7⟩:=KY h2 hc;simp only[XO,jT]at hA;obtain⟨i,hi,hd⟩:=hA;refine⟨.agg vs.toArray,run_loadVar_mid w r (base+off) t vs i.desc (fun j u hu=> ?_) (hT.und t i hi) hd (by rw[j5f hT hS,h4]),?_⟩
  ·rw[qP h1];exact h7 j u hu
  ·unfold rel;exact⟨vs,rfl,h3⟩
 ·rename_i l n hg hA hS;obtain⟨cur,e,fz,h1,h2⟩:=Vb hr hb hg;obtain⟨v',h3,h4⟩:=h2.2 _ _ hl;refine⟨v',?_,h4⟩;unfold loadVar;have hc:w.cell? ⟨r,base+off,none⟩=some v':=by rw[qP h1,h3]
  simp[xU,Oi hT hA,hc]
 ·cases hl
theorem PY{b r base off:Nat}{x':Value}{h':AH}(hT:TT.Sound P T)(hr:HR P ρ fl μ h w)(hb:μ b=some (r,base))(hx:rel ρ μ w x x')(hl:Mt T h t b off x=some h'):
 ∃w',(storeVar t ⟨r,base+off,none⟩ x').run P w= .ok () w'/\yD P ρ fl μ h w μ h' w':=by
 unfold Mt at hl
 split at hl
 ·rename_i l e n hg hS;split at hl
  ·rename_i hc;simp only[jT]at hl;obtain⟨l',hp,rfl⟩:=hl;simp only[jW,decide_eq_true_eq]at hc;have hcells:qF ρ μ w x.cells x'.cells.toList:=Zb hx;obtain⟨e1,e2,e3⟩:=KG hr hb hg hp hcells;have hone:=VB hcells hc.2;have hst:=run_storeCells_cells (P:=P) r (base+off) x'.cells.toList 0 w (by simpa using e2) (by simpa using e3) hone;have hsz:x'.cells.size=n:=by have:=vA hcells;rw[qU]at this;omega
   refine⟨_,?_,e1⟩;simp only[JH]at hst;unfold storeVar;simp[xU,JD hT hS,hsz,hst]
  ·cases hl
 ·cases hl
end
section
open Go Go.RowKit
variable {P:Program} {T:TT} {ρ:Nat->Value} {fl:Nat} {μ:Mu} {h:AH} {w:World} {tmps:TM} {ev:Operand->Value} {o:Oper} {n:AN} {h':AH}
theorem eL{x:Operand}(hr:HR P ρ fl μ h w)(he:ZV ρ μ w tmps ev)(ho:o.op= .move x\/o.op= .assign x)(ha:val h (xJ tmps x)=some (n,h')):
 ZX P ρ fl μ h w ((execOp ev o).run P w) n h':=by
 obtain⟨a,h1,rfl,rfl⟩:=Zx ha
 rcases ho with ho|ho<;>exact xL hr (by simp[execOp,ho]) (he x a h1)
theorem KE{v:Value}(hh:rel ρ μ w (.lit (.bool b)) v):v= .bool b:=by unfold rel at hh;exact hh.1
theorem j2D{c a b:Operand}(hr:HR P ρ fl μ h w)(he:ZV ρ μ w tmps ev)(ho:o.op= .pick c a b)(ha:FA tmps h c a b=some (n,h')):
 ZX P ρ fl μ h w ((execOp ev o).run P w) n h':=by
 unfold FA at ha
 split at ha
 ·rename_i t hc;have h1:=KE (he c _ hc);obtain⟨x,hx,rfl,rfl⟩:=Zx ha;refine xL hr (v':=if t then ev a else ev b) (by simp[execOp,ho,h1,asBool]) ?_;cases t<;>exact he _ _ hx
 ·cases ha
theorem nZ{cur:Array Value}(hh:qF ρ μ w l cur.toList):QB ρ μ w 0 l cur:=
 ⟨by have:=vA hh;rw[qU]at this;omega,fun i x hx=>by obtain⟨v,h1,h2⟩:=Zk hh hx;exact⟨v,by rw[yG,<-xN];exact h1,h2⟩⟩
theorem VE{cur:Array Value}(hh:qF ρ μ w l cur.toList):QB ρ μ w 0 l cur/\(WJ P e=true->0=0/\cur.size=l.length):=
 ⟨nZ hh,fun _=>⟨rfl,by have:=vA hh;rwa [qU]at this⟩⟩
theorem eU(x:Nat×Nat):rel ρ (up μ h.n (x.1,0)) w (.ptr h.n 0) (.pointer (some ⟨x.1,0,none⟩)):=by unfold rel;exact⟨x.1,0,Jb _ _ _,rfl⟩
theorem uY(hT:TT.Sound P T)(hr:HR P ρ fl μ h w)(ho:o.op= .alloc t)(ha:Dv T h t=some (n,h')):
 ZX P ρ fl μ h w ((execOp ev o).run P w) n h':=by
 simp only[Dv,jT,jV]at ha
 obtain⟨z,h1,rfl,rfl⟩:=ha
 obtain⟨v,h2,h3⟩:=QO hT h1 w
 refine⟨_,_,.pointer (some ⟨w.heap.size,0,none⟩),.inl ?_,yD.alloc hr (o:= .cells v.cells t) ⟨v.cells,rfl,VE (Zb (yV h3))⟩,eU (w.heap.size,0)⟩
 simp[execOp,ho,Instr.alloc,h2,newVar,newRow]
theorem j4Z{x:Operand}(hr:HR P ρ fl μ h w)(he:ZV ρ μ w tmps ev)(ho:o.op= .box t x)(ha:OH tmps h t x=some (n,h')):
 ZX P ρ fl μ h w ((execOp ev o).run P w) n h':=by
 unfold OH at ha
 split at ha
 ·rename_i z hz;split at ha
  ·simp only[jP,jV]at ha;obtain⟨rfl,rfl⟩:=ha;refine⟨_,_,.pointer (some ⟨w.heap.size,0,none⟩),.inl ?_,yD.alloc hr (o:= .cells (ev x).cells t) ⟨_,rfl,VE (Zb (he x z hz))⟩,eU (w.heap.size,0)⟩;simp[execOp,ho,Instr.box,newVar,newRow]
  ·cases ha
 ·cases ha
def LN(ρ:Nat->Value)(μ:Mu)(w:World):List (Nat×AV)->List (Nat×Value)->Prop
 |[],l=>l=[]
 |(i,a)::r,l=>∃v l',l=(i,v)::l'/\rel ρ μ w a v/\LN ρ μ w r l'
theorem QR(he:ZV ρ μ w tmps ev):∀{l:List (Nat×Operand)} {ps:List (Nat×AV)},Jk tmps l=some ps->LN ρ μ w ps (l.map fun p=>(p.1,ev p.2))
 |[],ps,hh=>by simp only[Jk,jP]at hh;subst hh;rfl
 |(i,x)::r,ps,hh=>by
  unfold Jk at hh;split at hh
  ·rename_i v vs hv hvs;obtain rfl:=jS hh;exact⟨ev x,_,rfl,he x v hv,QR he hvs⟩
  ·cases hh
theorem IR(off:Nat):∀(vs:List Value) (k:Nat) (cells:Array Value),off+k+vs.length<=cells.size->
 ((vs.zipIdx k).foldl (fun cs (x:Value×Nat)=>cs.setIfInBounds (off+x.2) x.1) cells).size=cells.size/\
 ∀i,((vs.zipIdx k).foldl (fun cs (x:Value×Nat)=>cs.setIfInBounds (off+x.2) x.1) cells)[i]? =if off+k<=i/\i<off+k+vs.length then vs[i-(off+k)]? else cells[i]?
 |[],k,cells,_=>⟨rfl,fun i=>by simp only[List.zipIdx_nil,List.foldl_nil];rw[if_neg (by simp)]⟩
 |v::r,k,cells,hl=>by
  simp only[xA]at hl;obtain⟨h1,h2⟩:=IR off r (k+1) (cells.setIfInBounds (off+k) v) (by simp;omega);simp only[List.zipIdx_cons,Vp];refine⟨by rw[h1];simp,fun i=> ?_⟩;rw[h2 i];simp only[xA];by_cases hi:i=off+k
  ·subst hi;rw[if_neg (by omega),if_pos (by omega),qZ,if_pos rfl];simp;omega
  ·by_cases hk:off+(k+1)<=i/\i<off+(k+1)+r.length
   ·rw[if_pos hk,if_pos (by omega),show i-(off+k)=(i-(off+(k+1)))+1 by omega,xQ]
   ·rw[if_neg hk,if_neg (by omega),qZ,if_neg (by omega)]
theorem Vt{place:Nat->Option (Nat×Nat)}:∀{ps:List (Nat×AV)} {rps:List (Nat×Value)} {cells res:List AV} {rcells:Array Value},LN ρ μ w ps rps->qF ρ μ w cells rcells.toList->Kw place cells ps=some res->
 ∃rres,Instr.fill place rcells rps=some rres/\qF ρ μ w res rres.toList
 |[],rps,cells,res,rcells,hp,hc,hf=>by obtain rfl:=hp;simp only[Kw,jP]at hf;subst hf;exact⟨rcells,rfl,hc⟩
 |(i,a)::r,rps,cells,res,rcells,hp,hc,hf=>by
  obtain⟨v,l',rfl,h1,h2⟩:=hp;unfold Kw at hf;split at hf
  ·rename_i off size hpl;split at hf
   ·rename_i hsz;split at hf
    ·rename_i c hput
     have hcs:=Zb h1;have hlen:=vA hcs;rw[qU]at hlen;obtain⟨p1,_⟩:=CL hput;have hclen:=vA hc;rw[qU]at hclen;obtain⟨f1,f2⟩:=IR off v.cells.toList 0 rcells (by rw[qU];omega);have hnew:qF ρ μ w c ((v.cells.toList.zipIdx 0).foldl (fun cs (x:Value×Nat)=>cs.setIfInBounds (off+x.2) x.1) rcells).toList:=by
      refine Un (by rw[qU,f1,BQ hput,hclen]) (fun k x hk=> ?_);rw[xN,f2,qU];rw[eT hput]at hk;by_cases hin:off<=k/\k<off+a.cells.length
      ·rw[if_pos hin]at hk;rw[if_pos (by omega),JH];exact Zk hcs hk
      ·rw[if_neg hin]at hk;rw[if_neg (by omega),<-xN];exact Zk hc hk
     obtain⟨rres,q1,q2⟩:=Vt h2 hnew hf;refine⟨rres,?_,q2⟩;have e1:¬(v.cells.size≠size||decide (off+v.cells.size>rcells.size))=true:=by simp;omega
     have e2:v.cells.zipIdx.foldl (fun cs (x:Value×Nat)=>cs.setIfInBounds (off+x.2) x.1) rcells=(v.cells.toList.zipIdx 0).foldl (fun cs (x:Value×Nat)=>cs.setIfInBounds (off+x.2) x.1) rcells:=by rw[<-Array.foldl_toList,Array.toList_zipIdx]
     simp only[Instr.fill,hpl,e1];rw[e2];exact q1
    ·cases hf
   ·cases hf
  ·cases hf
theorem LS(hT:TT.Sound P T)(w:World):∀{fs:List Field} {pl:List (Nat×Nat)},Ff T fs=some pl->(fs.mapM fun f=>Prod.mk f.offset<$> sizeOf f.type).run P w= .ok pl w
 |[],pl,hh=>by simp only[Ff,jP]at hh;subst hh;simp
 |f::r,pl,hh=>by
  unfold Ff at hh;split at hh
  ·rename_i n' l hn hl;obtain rfl:=jS hh;simp[List.mapM_cons,JD hT hn,LS hT w hl]
  ·cases hh
theorem uZ{ps:Array (Nat×Operand)}(hT:TT.Sound P T)(hr:HR P ρ fl μ h w)(he:ZV ρ μ w tmps ev)(ho:o.op= .build t ps)(ha:Gw T tmps h t ps=some (n,h')):
 ZX P ρ fl μ h w ((execOp ev o).run P w) n h':=by
 unfold Gw at ha
 split at ha
 case h_2=>cases ha
 rename_i ps' hps
 obtain⟨a,h1,rfl,rfl⟩:=Zx ha
 have hpr:=QR he hps
 unfold OS at h1
 split at h1
 ·rename_i z fs hz hu;split at h1
  ·rename_i pl hpl;simp only[jT]at h1;obtain⟨res,hf,rfl⟩:=h1;obtain⟨v,hv,hv2⟩:=QO hT hz w;obtain⟨rres,q1,q2⟩:=Vt (ρ:=ρ) hpr (Zb (yV hv2)) hf;refine xL hr (v':= .agg rres) ?_ (by unfold rel;exact⟨rres.toList,by simp,q2⟩);have e1:(fs.mapM fun f=>Prod.mk f.offset<$> sizeOf f.type).run P w= .ok pl.toArray w:=by rw[Array.mapM_eq_mapM_toList];simp[LS hT w hpl]
   simp[execOp,ho,Instr.build,hv,qX hT hu,e1,q1]
  ·cases h1
 ·rename_i z m e hz hu;split at h1
  ·rename_i sz hs;simp only[jT]at h1;obtain⟨res,hf,rfl⟩:=h1;obtain⟨v,hv,hv2⟩:=QO hT hz w;obtain⟨rres,q1,q2⟩:=Vt (ρ:=ρ) hpr (Zb (yV hv2)) hf;refine xL hr (v':= .agg rres) ?_ (by unfold rel;exact⟨rres.toList,by simp,q2⟩);simp[execOp,ho,Instr.build,hv,qX hT hu,JD hT hs,q1]
  ·cases h1
 ·cases h1
theorem YH(z:List AV):∀m,(Mf z m).length=m * z.length
 |0=>by simp[Mf]
 |m+1=>by rw[Mf,jQ,YH z m,Da,Nat.one_mul,Nat.add_comm]
theorem eV(z:List AV):∀(m k:Nat),k<m * z.length->(Mf z m)[k]? =z[k%z.length]?
 |0,k,hk=>by omega
 |m+1,k,hk=>by
  rw[Mf];rw[Da,Nat.one_mul]at hk;by_cases h1:k<z.length
  ·rw[jZ h1,Nat.mod_eq_of_lt h1]
  ·have h2:k%z.length=(k-z.length)%z.length:=Nat.mod_eq_sub_mod (by omega);rw[zQ (by omega),eV z m _ (by omega),h2]
theorem DU{z:List AV}{rz:Array Value}(hz:qF ρ μ w z rz.toList)(m:Nat):qF ρ μ w (Mf z m) ((Array.range (m * z.length)).map (fun i=>rz[i%rz.size]!)).toList:=by
 have hlen:=vA hz;rw[qU]at hlen;refine Un (by simp[YH]) (fun k x hx=> ?_);have hk:k<m * z.length:=by rw[<-YH];exact(List.getElem?_eq_some_iff.1 hx).1
 rw[eV z m k hk]at hx;obtain⟨v,h1,h2⟩:=Zk hz hx;refine⟨v,?_,h2⟩;rw[xN]at h1;simp only[Array.toList_map,vF,Array.toList_range,j0S hk,qD,jP];have hi:k%rz.size=k%z.length:=by rw[hlen]
 rw[hi,getElem!_def,h1]
theorem Mc{len k:Nat}(hk:len<=k)(hm:k<=maxLen)(w':World):rel ρ (up μ h.n (w.heap.size,0)) w' (.sl h.n 0 len (.kn k)) (.slice (some ⟨w.heap.size,0,none⟩) len k):=by unfold rel;exact .inl ⟨w.heap.size,0,0,k,Jb _ _ _,rfl,.inr rfl,rfl,hk,hm⟩
theorem Nb{m:Nat}{ps:Array (Nat×Operand)}(hT:TT.Sound P T)(hr:HR P ρ fl μ h w)(he:ZV ρ μ w tmps ev)(ho:o.op= .buildSlice t m ps)(ha:Zo T tmps h t m ps=some (n,h')):
 ZX P ρ fl μ h w ((execOp ev o).run P w) n h':=by
 unfold Zo at ha
 split at ha
 case h_2=>cases ha
 rename_i e ps' hu hps
 split at ha
 case h_2=>cases ha
 rename_i i hi
 split at ha
 case isFalse=>cases ha
 rename_i hc
 simp only[jW,decide_eq_true_eq]at hc
 simp only[jT,jV]at ha
 obtain⟨l,hf,rfl,rfl⟩:=ha
 obtain⟨z,hz,hz2⟩:=QO hT (show Jm T e=some i.zero by simp[Jm,hi]) w
 have hzr:=Zb (yV (ρ:=ρ) (μ:=μ) (w:=w) hz2)
 have hlen:=vA hzr
 rw[qU]at hlen
 have hs:=JD hT (show vQ T e=some i.size by simp[vQ,hi]) w
 have hrow:qF ρ μ w (Mf i.zero.cells m) ((Array.range (m * i.size)).map (fun k=>(if m * i.size=0 then(#[]:Array Value)else z.cells)[k%(if m * i.size=0 then(#[]:Array Value)else z.cells).size]!)).toList:=by
  by_cases h0:m * i.size=0
  ·have:Mf i.zero.cells m=[]:=zO (by rw[YH,hc.1.1];exact h0);rw[this,h0];simp[rels_nil]
  ·simp only[h0,if_false];have:=DU hzr m;rw[hc.1.1]at this;exact this
 obtain⟨rres,q1,q2⟩:=Vt (QR he hps) hrow hf
 have hmm:m<=maxLen:=by simp only[maxLen];omega
 refine⟨_,_,.slice (some ⟨w.heap.size,0,none⟩) m m,.inl ?_,yD.alloc hr (o:= .cells rres e) ⟨rres,rfl,VE q2⟩,Mc (jM _) hmm _⟩
 have h24:¬(m * i.size>2^24):=by omega
 by_cases h0:m * i.size=0
 ·simp only[h0,if_true]at q1;have e0:Array.range 0= #[]:=rfl;simp only[e0,List.map_toArray,Dp]at q1;simp[execOp,ho,Instr.buildSlice,qX hT hu,hs,h0,e0,q1,newRow]
 ·simp only[h0,if_false]at q1;simp[execOp,ho,Instr.buildSlice,qX hT hu,hs,h0,h24,hz,q1,newRow]
end
variable{f:FuncId}{op:BinOp}
section
open Go Go.RowKit
variable {P:Program} {T:TT} {ρ:Nat->Value} {fl:Nat} {μ:Mu} {h:AH} {w:World} {tmps:TM} {ev:Operand->Value} {o:Oper} {n:AN} {h':AH}
theorem yN{b off:Nat}{v:Value}(hh:rel ρ μ w (.ptr b off) v):∃r base,μ b=some (r,base)/\v= .pointer (some ⟨r,base+off,none⟩):=by unfold rel at hh;exact hh
theorem xF{u v:Value}(hh:rel ρ μ w (.lit u) v):v=u:=by unfold rel at hh;exact hh.1
theorem j2B{x:Operand}(hT:TT.Sound P T)(hr:HR P ρ fl μ h w)(he:ZV ρ μ w tmps ev)(ho:o.op= .load t x)(ha:AP T tmps h t x=some (n,h')):
 ZX P ρ fl μ h w ((execOp ev o).run P w) n h':=by
 unfold AP at ha
 split at ha
 ·rename_i b off hx;obtain⟨a,h1,rfl,rfl⟩:=Zx ha;obtain⟨r,base,hb,hv⟩:=yN (he x _ hx);obtain⟨v',h2,h3⟩:=FV hT hr hb h1;exact xL hr (by simp[execOp,ho,hv,Instr.loadAt,Instr.sureAddr,h2]) h3
 ·cases ha
theorem wH{x y:Operand}(hT:TT.Sound P T)(hr:HR P ρ fl μ h w)(he:ZV ρ μ w tmps ev)(ho:o.op= .store t x y)(ha:Bu T tmps h t x y=some (n,h')):
 ZX P ρ fl μ h w ((execOp ev o).run P w) n h':=by
 unfold Bu at ha
 split at ha
 ·rename_i b off u hx hy;simp only[jT,jV]at ha;obtain⟨h1,h2,rfl,rfl⟩:=ha;obtain⟨r,base,hb,hv⟩:=yN (he x _ hx);obtain⟨w',h3,h4⟩:=PY hT hr hb (he y _ hy) h2;exact⟨μ,w',undef,.inr ⟨by simp[execOp,ho,hv,Instr.storeAt,Instr.sureAddr,h3],rfl⟩,h4,Kg⟩
 ·cases ha
theorem bK{a b:List AV}{v:Value}(hh:rel ρ μ w (.fn (.func f) a b) v):∃x y,v= .func (.func f) x y:=by unfold rel at hh;obtain⟨f',x,y,h1,h2,_⟩:=hh;simp only[IN]at h2;subst h2;exact⟨_,_,h1⟩
theorem Kf{v:Value}(hh:rel ρ μ w (.ifc t a) v):∃u,v= .iface t u/\rel ρ μ w a u:=by unfold rel at hh;exact hh
theorem SZ{x:Operand}(hr:HR P ρ fl μ h w)(he:ZV ρ μ w tmps ev)(ho:o.op= .nilCheck x)(ha:Qo P o tmps h x=some (n,h')):
 ZX P ρ fl μ h w ((execOp ev o).run P w) n h':=by
 unfold Qo at ha
 split at ha
 ·rename_i b off hx;simp only[jP,jV]at ha;obtain⟨rfl,rfl⟩:=ha;have h1:=he x _ hx;obtain⟨r,base,hb,hv⟩:=yN h1;exact xL hr (by simp[execOp,ho,hv]) (hv▸h1)
 ·rename_i g a b hx;simp only[jP,jV]at ha;obtain⟨rfl,rfl⟩:=ha;have h1:=he x _ hx;obtain⟨p,q,hv⟩:=bK h1;exact xL hr (by simp[execOp,ho,hv]) (hv▸h1)
 ·rename_i t u hx;simp only[jP,jV]at ha;obtain⟨rfl,rfl⟩:=ha;have h1:=he x _ hx;obtain⟨q,hv,_⟩:=Kf h1;exact xL hr (by simp[execOp,ho,hv]) (hv▸h1)
 ·exact Xl hr he ha fun hk=>by cases hk
theorem Ue{x y:Operand}{a b:Value}(h1:¬(a= .nilIface/\b= .nilIface))(h2:∀cs,a≠ .agg cs)(w:World):(eqGuard op t x y a b).run P w= .ok () w:=by unfold eqGuard;cases op<;>(try rfl);all_goals (cases a<;>first|rfl|(exact absurd rfl (h2 _))|(cases b<;>first|rfl|exact absurd ⟨rfl,rfl⟩ h1))
theorem WT(t:TypeId)(x y:Value):Op.equal t x y=Op.equalIn (9999+1) t x y:=rfl
theorem He{b:AV}{x y:Value}{r:Bool}(hT:TT.Sound P T)(hr:HR P ρ fl μ h w)(hd:und T t=some d)(ha:rel ρ μ w a x)(hb:rel ρ μ w b y)(hs:CM T d a b=some r):
 (Op.equal t x y).run P w= .ok r w/\¬(x= .nilIface/\y= .nilIface)/\∀cs,x≠ .agg cs:=by
 have hu:=qX hT hd w
 rw[WT]
 generalize 9999=dep
 unfold CM at hs
 split at hs
 case h_1=>
  obtain rfl:=jS hs;obtain⟨r,base,_,rfl⟩:=yN ha;obtain rfl:=xF hb;exact⟨by simp[Op.equalIn,hu],by simp,by simp⟩
 case h_2=>
  obtain rfl:=jS hs;obtain⟨r,base,_,rfl⟩:=yN hb;obtain rfl:=xF ha;exact⟨by simp[Op.equalIn,hu],by simp,by simp⟩
 case h_3=>
  obtain rfl:=jS hs;unfold rel at ha;obtain rfl:=xF hb;rcases ha with⟨r,base,o,c,_,rfl,_⟩|⟨_,_,a,rfl⟩<;>exact⟨by simp[Op.equalIn,hu],by simp,by simp⟩
 case h_4=>
  obtain rfl:=jS hs;unfold rel at hb;obtain rfl:=xF ha;rcases hb with⟨r,base,o,c,_,rfl,_⟩|⟨_,_,a,rfl⟩<;>exact⟨by simp[Op.equalIn,hu],by simp,by simp⟩
 case h_5=>
  obtain rfl:=jS hs;unfold rel at ha;obtain⟨r,_,rfl⟩:=ha;obtain rfl:=xF hb;exact⟨by simp[Op.equalIn,hu],by simp,by simp⟩
 case h_6=>
  obtain rfl:=jS hs;unfold rel at hb;obtain⟨r,_,rfl⟩:=hb;obtain rfl:=xF ha;exact⟨by simp[Op.equalIn,hu],by simp,by simp⟩
 case h_7=>
  obtain rfl:=jS hs;unfold rel at ha;obtain⟨f',p,q,rfl,_⟩:=ha;obtain rfl:=xF hb;exact⟨by simp[Op.equalIn,hu],by simp,by simp⟩
 case h_8=>
  obtain rfl:=jS hs;unfold rel at hb;obtain⟨f',p,q,rfl,_⟩:=hb;obtain rfl:=xF ha;exact⟨by simp[Op.equalIn,hu],by simp,by simp⟩
 case h_9=>
  obtain rfl:=jS hs;obtain⟨u,rfl,_⟩:=Kf ha;obtain rfl:=xF hb;exact⟨by simp[Op.equalIn,hu],by simp,by simp⟩
 case h_10=>
  obtain rfl:=jS hs;obtain⟨u,rfl,_⟩:=Kf hb;obtain rfl:=xF ha;exact⟨by simp[Op.equalIn,hu],by simp,by simp⟩
 case h_11 e b1 i b2 j=>
  obtain⟨r1,base1,m1,rfl⟩:=yN ha
  obtain⟨r2,base2,m2,rfl⟩:=yN hb
  split at hs
  case h_2=>cases hs
  rename_i k hk
  have hsz:=JD hT hk w
  refine⟨?_,by simp,by simp⟩
  cases hbb:Nat.beq b1 b2 with
  |true=>
   rw[hbb]at hs;obtain rfl:=jS hs;obtain rfl:=jY hbb;rw[m1]at m2;obtain⟨rfl,rfl⟩:=Prod.mk.inj (jS m2);have e1:((⟨r1,base1+i,none⟩:Addr)==⟨r1,base1+j,none⟩)=Nat.beq i j:=by rw[Gn];simp
   simp[Op.equalIn,hu,hsz,sameAddr,e1]
  |false=>rw[hbb]at hs;cases hs
 case h_12=>cases hs
def j3z:Value->Value->Bool
 | .pointer _,.pointer _| .slice ..,.slice .. | .map _,.map _| .func ..,.nilFunc| .nilFunc,.func .. | .iface ..,.nilIface| .nilIface,.iface .. =>true
 |_,_=>false
theorem gX{x y:Value}(hl:j3z x y=true):binOp .eql t x y=(do pure (.bool (<-Op.equal t x y)))/\binOp .neq t x y=(do pure (.bool (!(<-Op.equal t x y)))):=by unfold j3z at hl;split at hl<;>first|exact⟨rfl,rfl⟩|cases hl
theorem Ok{b:AV}{x y:Value}{r:Bool}(hd:und T t=some d)(ha:rel ρ μ w a x)(hb:rel ρ μ w b y)(hs:CM T d a b=some r):
 binOp .eql t x y=(do pure (.bool (<-Op.equal t x y)))/\binOp .neq t x y=(do pure (.bool (!(<-Op.equal t x y)))):=by
 refine gX ?_
 unfold CM at hs
 split at hs
 case h_12=>cases hs
 all_goals
  unfold rel at ha hb
  first
   |(obtain⟨_,_,_,rfl⟩:=ha;obtain⟨_,_,_,rfl⟩:=hb;rfl)
   |(obtain⟨_,_,_,rfl⟩:=ha;obtain⟨rfl,_⟩:=hb;rfl)
   |(obtain⟨_,_,_,rfl⟩:=hb;obtain⟨rfl,_⟩:=ha;rfl)
   |(obtain⟨rfl,_⟩:=hb;rcases ha with⟨_,_,_,_,_,rfl,_⟩|⟨_,_,_,rfl⟩<;>rfl)
   |(obtain⟨rfl,_⟩:=ha;rcases hb with⟨_,_,_,_,_,rfl,_⟩|⟨_,_,_,rfl⟩<;>rfl)
   |(obtain⟨_,_,rfl⟩:=ha;obtain⟨rfl,_⟩:=hb;rfl)
   |(obtain⟨_,_,rfl⟩:=hb;obtain⟨rfl,_⟩:=ha;rfl)
   |(obtain⟨_,_,_,rfl,_⟩:=ha;obtain⟨rfl,_⟩:=hb;rfl)
   |(obtain⟨_,_,_,rfl,_⟩:=hb;obtain⟨rfl,_⟩:=ha;rfl)
   |(obtain⟨_,rfl,_⟩:=ha;obtain⟨rfl,_⟩:=hb;rfl)
   |(obtain⟨_,rfl,_⟩:=hb;obtain⟨rfl,_⟩:=ha;rfl)
theorem eM{ty:TypeId}{x y:Operand}(hT:TT.Sound P T)(hr:HR P ρ fl μ h w)(he:ZV ρ μ w tmps ev)(ho:o.op= .binOp op t x y ty)(ha:UP T tmps h op t x y=some (n,h')):
 ZX P ρ fl μ h w ((execOp ev o).run P w) n h':=by
 unfold UP at ha
 split at ha
 case h_2=>cases ha
 rename_i d a b hd hx hy
 split at ha
 ·rename_i r hs;simp only[jP,jV]at ha;obtain⟨rfl,rfl⟩:=ha;obtain⟨h1,h2,h3⟩:=He hT hr hd (he x _ hx) (he y _ hy) hs;refine xL hr (v':= .bool r) ?_ (vN rfl);simp only[execOp,ho,xU,Ue h2 h3,xT];rw[(Ok hd (he x _ hx) (he y _ hy) hs).1];simp[h1]
 ·rename_i r hs;simp only[jP,jV]at ha;obtain⟨rfl,rfl⟩:=ha;obtain⟨h1,h2,h3⟩:=He hT hr hd (he x _ hx) (he y _ hy) hs;refine xL hr (v':= .bool !r) ?_ (vN rfl);simp only[execOp,ho,xU,Ue h2 h3,xT];rw[(Ok hd (he x _ hx) (he y _ hy) hs).2];simp[h1]
 ·cases ha
end
section
open Go Go.RowKit
variable {P:Program} {T:TT} {ρ:Nat->Value} {fl:Nat} {μ:Mu} {h:AH} {w:World} {tmps:TM} {ev:Operand->Value} {o:Oper} {n:AN} {h':AH}
theorem PM{u v:Value}(hh:rel ρ μ w (.lit u) v):CN v=true:=by unfold rel at hh;rw[hh.1];exact hh.2
theorem Lz{s:Sem Value}(hr:HR P ρ fl μ h w)(ha:BM h (yS P s)=some (n,h'))(hrun:r=((s.run P w).andThen fun v w'=> .ok (.value v) w')):ZX P ρ fl μ h w r n h':=by
 cases hp:yS P s with
 |none=>rw[hp]at ha;cases ha
 |some pr=>
  rw[hp]at ha
  have hs:=HP s pr hp w
  cases pr with
  |ok v=>
   simp only[BM,jT,jV]at ha;obtain⟨a,h1,rfl,rfl⟩:=ha;exact xL hr (by rw[hrun,hs];rfl) (BO h1)
  |pan v=>
   simp only[BM,jT,jV]at ha;obtain⟨a,h1,rfl,rfl⟩:=ha;exact⟨rfl,v,by rw[hrun,hs];rfl,Ax h1⟩
theorem WM{a u f:Bool}{c m:Int}{r:Bool}(hc:j4k op b a u f=some r)(hb:b=true->m<c)(ha:a=true->c<m)(hu:u=true->m<=c)(hf:f=true->c<=m):
 (binOp op t (.int .i64 m) (.int .i64 c)).run P w= .ok (.bool r) w:=by
 have key:∀v:Bool,(binOp op t (.int .i64 m) (.int .i64 c))= .pure (.bool v)->v=r->(binOp op t (.int .i64 m) (.int .i64 c)).run P w= .ok (.bool r) w:=fun v e1 e2=>by rw[e1,e2];rfl
 cases op<;>simp only[j4k,reduceCtorEq]at hc
 case eql=>
  refine key (m==c) (by simp[binOp,Op.intCmp];rfl) ?_;cases b<;>cases a<;>simp at hc hb ha ⊢ <;>subst hc<;>simp<;>omega
 case neq=>
  refine key (m !=c) (by simp[binOp,Op.intCmp];rfl) ?_;cases b<;>cases a<;>simp at hc hb ha ⊢ <;>subst hc<;>simp<;>omega
 case lss=>
  refine key (decide (m<c)) (by simp[binOp,Op.intCmp];rfl) ?_;cases b<;>cases f<;>simp at hc hb hf ⊢ <;>subst hc<;>simp<;>omega
 case leq=>
  refine key (decide (m<=c)) (by simp[binOp,Op.intCmp];rfl) ?_;cases u<;>cases a<;>simp at hc hu ha ⊢ <;>subst hc<;>simp<;>omega
 case gtr=>
  refine key (decide (m>c)) (by simp[binOp,Op.intCmp];rfl) ?_;cases u<;>cases a<;>simp at hc hu ha ⊢ <;>subst hc<;>simp<;>omega
 case geq=>
  refine key (decide (m>=c)) (by simp[binOp,Op.intCmp];rfl) ?_;cases b<;>cases f<;>simp at hc hb hf ⊢ <;>subst hc<;>simp<;>omega
theorem WN{lo hi:Option Int}{c m:Int}{r:Bool}(hc:j68 op lo hi c=some r)(hlo:∀a,lo=some a->a<=m)(hhi:∀b,hi=some b->m<=b):
 (binOp op t (.int .i64 m) (.int .i64 c)).run P w= .ok (.bool r) w:=by
 refine WM hc (fun h=> ?_) (fun h=> ?_) (fun h=> ?_) (fun h=> ?_)
 ·cases hi<;>simp[j6R]at h;have:=hhi _ rfl;omega
 ·cases lo<;>simp[j6M]at h;have:=hlo _ rfl;omega
 ·cases hi<;>simp[j6R]at h;have:=hhi _ rfl;omega
 ·cases lo<;>simp[j6M]at h;have:=hlo _ rfl;omega
theorem j4Y{ty:TypeId}{x y:Operand}(hT:TT.Sound P T)(hr:HR P ρ fl μ h w)(he:ZV ρ μ w tmps ev)(ho:o.op= .binOp op t x y ty)(ha:XK P T o tmps h op t x y=some (n,h')):
 ZX P ρ fl μ h w ((execOp ev o).run P w) n h':=by
 unfold XK at ha
 split at ha
 ·exact Xl hr he ha fun hk=>eM hT hr he ho hk
 ·rename_i a b hne hx hy;have h1:=he x _ hx;have h2:=he y _ hy;have e1:=xF h1;have e2:=xF h2;have hs:=PM h1;refine Lz hr ha ?_;rw[<-e1,<-e2];simp only[execOp,ho,xU];rw[Ue (fun hh=>by rw[e1]at hh;exact hne hh.1) (fun cs hcs=>by rw[hcs]at hs;cases hs)];simp only[xT];rfl
 ·rename_i i lo hi c hx hy;have h1:=he x _ hx;have e2:=xF (he y _ hy);unfold rel at h1;obtain⟨_,m,e1,hlo,hhi⟩:=h1;simp only[val,jT,jV]at ha;obtain⟨a,⟨r,hc,rfl⟩,rfl,rfl⟩:=ha;refine xL hr ?_ (vN (v:= .bool r) rfl);simp only[execOp,ho,xU];rw[Ue (fun hh=>by rw[e1]at hh;cases hh.1) (fun cs hcs=>by rw[e1]at hcs;cases hcs)];simp only[xT];rw[e1,e2,WN hc hlo hhi];rfl
 ·exact Xl hr he ha fun hk=>eM hT hr he ho hk
theorem j6z{op:UnOp}{x:Operand}(hr:HR P ρ fl μ h w)(he:ZV ρ μ w tmps ev)(ho:o.op= .unOp op t x)(ha:j3m P tmps h op x=some (n,h')):
 ZX P ρ fl μ h w ((execOp ev o).run P w) n h':=by
 unfold j3m at ha
 split at ha
 ·rename_i a hx;have e1:=xF (he x _ hx);refine Lz hr ha ?_;rw[<-e1];simp only[execOp,ho,xU];rfl
 ·cases ha
theorem yP{b off len:Nat}{v:Value}(hh:rel ρ μ w (.sl b off len cap) v):(∃r base o c,μ b=some (r,base)/\v= .slice (some ⟨r,o,none⟩) len c/\(c=0\/o=base+off)/\Uy w r (base+off) len cap c)\/(len=0/\cap= .kn 0/\∃a,v= .slice (some a) 0 0):=by unfold rel at hh;exact hh
theorem ZI{r o' len c:Nat}(hh:Uy w r o' len cap c):len<=c/\c<=maxLen:=by
 cases cap with
 |kn k=>obtain⟨rfl,h2,h3⟩:=hh;exact⟨h2,h3⟩
 |un z=>exact⟨hh.1,hh.2.1⟩
theorem FD:∀{l:List AV} {bs:List UInt8} {vs:List Value},VJ l=some bs->qF ρ μ w l vs->vs=bs.map bv
 |[],bs,vs,hb,hv=>by simp only[VJ,jP]at hb;subst hb;rw[xM hv];rfl
 |x::r,bs,vs,hb,hv=>by
  unfold VJ at hb;split at hb
  ·rename_i hnil;cases hnil
  ·rename_i k r' heq;obtain⟨rfl,rfl⟩:=UN heq;cases hk:Nat.blt k 256 with
   |false=>rw[hk]at hb;cases hb
   |true=>
    rw[hk]at hb;simp only[cond_true,jT]at hb;obtain⟨bs',h1,rfl⟩:=hb;obtain⟨v,vs',rfl,h2,h3⟩:=xB hv;have hk2:k<256:=Nat.blt_eq.mp hk;rw[xF h2,FD h1 h3,kY];congr 1;unfold bv;congr 1;simp;omega
  ·cases hb
theorem MR{b off len:Nat}{v:Value}{bs:List UInt8}(hr:HR P ρ fl μ h w)(hv:rel ρ μ w (.sl b off len cap) v)(hb:JY h b off len=some bs):
 ∃g,bs.length=len/\Reads w 1 v len (bs.map bv) g/\∀k,g=some k->∃base,μ b=some (k,base):=by
 rcases yP hv with⟨r,base,o',c,h1,rfl,h2,h3⟩|⟨rfl,rfl,ad,rfl⟩
 rotate_left
 ·unfold JY at hb;split at hb;case h_2=>cases hb
  split at hb;case h_2=>cases hb
  rename_i cs hc;unfold cut at hc;split at hc;case isFalse=>cases hc
  obtain rfl:=jS hc;simp only[qA,VJ,jP]at hb;subst hb;exact⟨none,rfl,⟨by simp,.inl ⟨_,0,rfl,rfl⟩⟩,fun k hk=>by cases hk⟩
 obtain⟨h4,h5⟩:=ZI h3
 unfold JY at hb
 split at hb
 case h_2=>cases hb
 rename_i l hg
 split at hb
 case h_2=>cases hb
 rename_i cs hc
 obtain⟨cur,e,fz,k1,k2⟩:=Vb hr h1 hg
 obtain⟨vs,k3,k4,k5,k6,k7⟩:=KY k2 hc
 obtain rfl:=FD hb k3
 have hlen:bs.length=len:=by simpa using k4
 refine⟨some r,hlen,⟨by simp[hlen],?_⟩,fun k hk=>by cases hk;exact⟨base,h1⟩⟩
 by_cases hc0:len=0
 ·exact .inl ⟨_,c,by rw[hc0],hc0⟩
 ·refine .inr ⟨r,o',c,rfl,rfl,h4,h5,fun j hj=> ?_⟩;obtain rfl:o'=base+off:=h2.resolve_left (by omega);rw[qP k1,jO hj];exact k7 j _ (jO hj)
theorem WX{r:Nat}{cur:Array Value}{fz:Nat×Nat}(hg:w.heap[r]? =some (.cells cur e fz))(k m:Nat):MJ r w (w.freeze ⟨r,k,none⟩ m)/\∃fz',(w.freeze ⟨r,k,none⟩ m).heap[r]? =some (.cells cur e fz'):=by
 unfold World.freeze;split
 ·exact⟨⟨rfl,fun _ _=>rfl,Jt.refl w,⟨rfl,rfl,rfl⟩⟩,fz,hg⟩
 ·obtain⟨a,b⟩:=fz
  have key:∀j,j≠r->(w.heap.modify r fun
   | .cells c elem (lo,hi)=> .cells c elem (if lo==hi then(k,k+m)else(min lo k,max hi (k+m)))
   |o=>o)[j]? =w.heap[j]? :=fun j hj=>by rw[ZL,if_neg (Ne.symm hj)]
  refine⟨⟨by simp,key,fun j cur' e' fz' hj=> ?_,⟨rfl,rfl,rfl⟩⟩,(if a==b then(k,k+m)else(min a k,max b (k+m))),by simp[ZL,hg]⟩;by_cases hjr:j=r
  ·subst hjr;rw[hg]at hj;obtain⟨rfl,rfl,rfl⟩:=Obj.cells.inj (jS hj);exact⟨cur,e,_,by simp[ZL,hg];rfl,rfl⟩
  ·exact⟨cur',e',fz',by show(w.heap.modify r _)[j]? =_;rw[ZL,if_neg (Ne.symm hjr)];exact hj,rfl⟩
theorem IB(s:ByteArray)(rest:Array Value):QB ρ μ w 0 (byteCells s) (s.data.map (fun b=>Value.int .u8 b.toNat)++rest):=by
 refine⟨by simp[byteCells],fun i x hx=> ?_⟩;unfold byteCells at hx;rw[vF]at hx;cases hb:s.data.toList[i]? with
 |none=>rw[hb]at hx;cases hx
 |some b=>
  rw[hb]at hx;simp only[qD,jP]at hx;subst hx;rw[xN]at hb;have hlt:=(Array.getElem?_eq_some_iff.1 hb).1;refine⟨.int .u8 b.toNat,?_,vN rfl⟩;rw[yG,HY (by simpa using hlt),Array.getElem?_map,hb];rfl
theorem OI{src dst:TypeId}{x:Value}(hT:TT.Sound P T)(hr:HR P ρ fl μ h w)(hx:rel ρ μ w a x)(ha:Yq T h src dst a=some (n,h'))
 (hrun:r=(((convert src dst x).run P w).andThen fun v w'=> .ok (.value v) w')):ZX P ρ fl μ h w r n h':=by
 unfold Yq at ha
 split at ha
 ·rename_i e b off len cap hs hd;split at ha;case h_2=>cases ha
  rename_i he;obtain⟨y,hy,rfl,rfl⟩:=Zx ha;simp only[jT]at hy;obtain⟨bs,hb,rfl⟩:=hy;obtain⟨g,h2,h3,_⟩:=MR hr hx hb;refine xL hr (v':= .string ⟨bs.toArray⟩) ?_ (vN rfl);rw[hrun,h3.string_run (Gk hT hs) (Gk hT he) (Gk hT hd)];rfl
 ·rename_i e0 e b off len cap hs hd;split at ha;case isFalse=>cases ha
  rename_i hsd;obtain rfl:src=dst:=by simpa using hsd
  split at ha;case h_2=>cases ha
  rename_i l e' he hg;cases hnul:SD len cap with
  |true=>rw[hnul]at ha;cases ha
  |false=>
  rw[hnul]at ha;simp only[cond_false,jP,jV]at ha;obtain⟨rfl,rfl⟩:=ha;rcases yP hx with⟨r1,base,o',c,h1,rfl,h2,h3⟩|⟨rfl,rfl,ad,rfl⟩
  rotate_left
  ·cases hnul
  obtain⟨cur,k1,k2,_⟩:=Xr hr h1 hg;obtain⟨f1,fz',f2⟩:=WX k1 cur.size 1;have heff:=yD.upd hr h1 (BG hg).1 rfl f1 f2 (ab':= .frz l e') ⟨cur,fz',rfl,k2.1,fun i x hi=>by obtain⟨v,q1,q2⟩:=k2.2 i x hi;exact⟨v,q1,rel.mono (yZ.refl μ) f1.grows _ _ q2⟩⟩;refine⟨μ,_,.slice (some ⟨r1,o',none⟩) len c,.inl ?_,heff,rel.mono (yZ.refl μ) f1.grows _ _ hx⟩;have hsh:w.shape? r1=some (e',cur.size):=by simp[World.shape?,k1]
  have hcv:(convert src src (.slice (some ⟨r1,o',none⟩) len c)).run P w= .ok (.slice (some ⟨r1,o',none⟩) len c) (w.freeze ⟨r1,cur.size,none⟩ 1):=by simp[convert,qX hT hd,qX hT he,markStringish,hsh]
  rw[hrun,hcv];rfl
 ·rename_i e s hs hd;split at ha;case h_2=>cases ha
  rename_i he;cases hlb:Nat.ble s.size 16777216 with
  |false=>rw[hlb]at ha;cases ha
  |true=>
  rw[hlb]at ha;simp only[cond_true,jP,jV]at ha;obtain⟨rfl,rfl⟩:=ha;have hlen:s.size<=maxLen:=by have:=Nat.ble_eq.mp hlb;simp only[maxLen];omega
  obtain rfl:=xF hx;have hcv:=run_bytes_of_string (P:=P) w src dst e s (Gk hT hs) (Gk hT hd) (Gk hT he);have e1:yD P ρ fl μ h w μ h w.drew:=yD.drew hr 1;have e2:=yD.alloc e1.hr (ab:= .frz (byteCells s) e) (o:= .cells (bytesRow s (grownCap w s.size 0 e)) e ((bytesRow s (grownCap w s.size 0 e)).size,(bytesRow s (grownCap w s.size 0 e)).size+1)) ⟨_,_,rfl,IB s _⟩;have hge:=grownCap_ge w s.size 0 e;have hsz:(bytesRow s (grownCap w s.size 0 e)).size=grownCap w s.size 0 e:=by have:s.data.size=s.size:=rfl;simp[bytesRow,this];omega
  refine⟨_,_,.slice (some ⟨w.heap.size,0,none⟩) s.size (grownCap w s.size 0 e),.inl ?_,e1.trans hr e2,?_⟩
  ·rw[hrun,hcv];rfl
  ·unfold rel;refine .inl ⟨w.heap.size,0,0,_,Jb _ _ _,rfl,.inr rfl,hge,grownCap_le_maxLen w s.size 0 e hlen,by omega,?_⟩;refine⟨_,_,_,Jp w.drew _,?_⟩;rw[hsz];omega
 ·cases ha
end
section
open Go Go.RowKit
variable {P:Program} {T:TT} {ρ:Nat->Value} {fl:Nat} {μ:Mu} {h:AH} {w:World} {tmps:TM} {ev:Operand->Value} {o:Oper} {n:AN} {h':AH}
theorem aU{src dst:TypeId}{x:Operand}(hT:TT.Sound P T)(hr:HR P ρ fl μ h w)(he:ZV ρ μ w tmps ev)(ho:o.op= .convert src dst x)(ha:JS P T o tmps h src dst x=some (n,h')):
 ZX P ρ fl μ h w ((execOp ev o).run P w) n h':=by
 unfold JS at ha
 split at ha
 ·rename_i k m hx;split at ha
  ·rename_i d0 k' hs hd;simp only[jP,jV]at ha;obtain⟨rfl,rfl⟩:=ha;have h1:=xF (he x _ hx);refine xL hr (v':= .int k' (k'.wrap m)) ?_ (vN rfl);simp[execOp,ho,h1,convert,qX hT hs,qX hT hd,Conv.intToInt]
  ·exact Xl hr he ha fun hk=>by cases hk
 ·rename_i v hx;refine Xl hr he ha fun hk=>OI hT hr (he x _ hx) hk ?_;simp only[execOp,ho,xU];rfl
 ·cases ha
theorem Fc{x:Operand}(hT:TT.Sound P T)(hr:HR P ρ fl μ h w)(he:ZV ρ μ w tmps ev)(ho:o.op= .makeInterface t x)(ha:Xc T tmps h t x=some (n,h')):
 ZX P ρ fl μ h w ((execOp ev o).run P w) n h':=by
 unfold Xc at ha
 split at ha
 ·cases ha
 ·rename_i d y hne hd hx;simp only[jP,jV]at ha;obtain⟨rfl,rfl⟩:=ha;refine xL hr (v':= .iface t (ev x)) ?_ (by unfold rel;exact⟨_,rfl,he x _ hx⟩);have:(Instr.makeInterface t (ev x)).run P w= .ok (.iface t (ev x)) w:=by simp only[Instr.makeInterface,xU,qX hT hd,xT];cases d<;>first|rfl|(exact absurd rfl (hne _))
  simp[execOp,ho,this]
 ·cases ha
theorem Kt(f:Operand->Value)(l:Array Operand):l.map f=(l.toList.map f).toArray:=by cases l;simp
theorem SY{f:Fn}{first caps:Array Operand}(hr:HR P ρ fl μ h w)(he:ZV ρ μ w tmps ev)(ho:o.op= .makeFunc f first caps)(ha:Kc tmps h f first caps=some (n,h')):
 ZX P ρ fl μ h w ((execOp ev o).run P w) n h':=by
 unfold Kc at ha
 split at ha
 ·rename_i a b h1 h2;cases hy:DM f with
  |false=>rw[hy]at ha;cases ha
  |true=>
   rw[hy]at ha;simp only[cond_true,jP,jV]at ha;obtain⟨rfl,rfl⟩:=ha;refine xL hr (v':= .func f (first.map ev) (caps.map ev)) (by simp[execOp,ho,Instr.makeFunc]) ?_;unfold rel;refine⟨f,first.toList.map ev,caps.toList.map ev,by rw[Kt,Kt],?_,JF he h1,JF he h2⟩;cases f<;>first|rfl|cases hy
 ·cases ha
theorem aW(hr:HR P ρ fl μ h w)(ho:o.op= .makeMap t none):ZX P ρ fl μ h w ((execOp ev o).run P w) (.val (.mp h.n)) (h.push (.map [] 0)):=by
 refine⟨_,_,.map (some w.heap.size),.inl ?_,yD.alloc hr (o:= .map #[] 0) ⟨#[],rfl,rfl,rfl⟩,?_⟩
 ·simp[execOp,ho,Instr.makeMap]
 ·unfold rel;exact⟨w.heap.size,Jb _ _ _,rfl⟩
theorem Vy{k:Nat}{u:Value}(hv:Hr v=some k)(hu:rel ρ μ w v u):∃kd i,u= .int kd i/\0<=i/\i.toNat=k:=by
 unfold Hr at hv;split at hv
 ·rename_i i hi;split at hv
  ·unfold j6h at hi;split at hi
   ·rename_i kd i';obtain rfl:=jS hi;exact⟨kd,_,xF hu,by assumption,jS hv⟩
   ·cases hi
  ·cases hv
 ·cases hv
theorem PE{l c:Operand}(hT:TT.Sound P T)(hr:HR P ρ fl μ h w)(he:ZV ρ μ w tmps ev)(ho:o.op= .makeSlice t l c)(ha:Zf T tmps h t l c=some (n,h')):
 ZX P ρ fl μ h w ((execOp ev o).run P w) n h':=by
 unfold Zf at ha
 split at ha
 case h_2=>cases ha
 rename_i e k m hu hl hc
 split at ha
 case h_2=>cases ha
 rename_i i hi
 split at ha
 case isFalse=>cases ha
 rename_i hcond
 simp only[jW,decide_eq_true_eq]at hcond
 obtain⟨⟨⟨c1,c2⟩,c3⟩,c4⟩:=hcond
 simp only[jP,jV]at ha
 obtain⟨rfl,rfl⟩:=ha
 obtain⟨al,al1,al2⟩:=Option.bind_eq_some_iff.1 hl
 obtain⟨ac,ac1,ac2⟩:=Option.bind_eq_some_iff.1 hc
 obtain⟨kl,il,e1,e2,rfl⟩:=Vy al2 (he l _ al1)
 obtain⟨kc,ic,f1,f2,rfl⟩:=Vy ac2 (he c _ ac1)
 obtain⟨info,z,g1,g2,g3,g4,g5⟩:=hT.info e i hi
 have hzr:=Zb (yV (ρ:=ρ) (μ:=μ) (w:=w) g5)
 have hlen:=vA hzr
 rw[qU]at hlen
 have hb:(info.bytes:Int) * ic<=281474976710656:=by
  have h2:((info.bytes * ic.toNat:Nat):Int)<=281474976710656:=by have:=qW ic.toNat g3.1;omega
  rw[Em,j0R f2]at h2;exact h2
 have hrun:=run_make (P:=P) w t e info z (Gk hT hu) g1 g4 kl kc il ic e2 (by omega) hb (by omega)
 have hrow:=DU hzr ic.toNat
 rw[c4]at hrow
 refine⟨_,_,.slice (some ⟨w.heap.size,0,none⟩) il.toNat ic.toNat,.inl ?_,yD.alloc hr (o:= .cells (madeCells z.cells (ic.toNat * info.size)) e) ⟨_,rfl,VE (by rw[g2];exact hrow)⟩,Mc c1 (by simp only[maxLen];omega) _⟩
 simp[execOp,ho,e1,f1,hrun]
def LK:Option Nat->Option Value->Prop
 |none,u=>u=none
 |some k,u=>∃kd i,u=some (.int kd i)/\0<=i/\i.toNat=k
theorem GU(he:ZV ρ μ w tmps ev){x:Option Operand}{k:Option Nat}(hx:Qz tmps x=some k):LK k (x.map ev):=by
 cases x with
 |none=>
  change some none=some k at hx;obtain rfl:=jS hx;rfl
 |some y=>
  change (match xJ tmps y with|some v=>(Hr v).map some|none=>none)=some k at hx;split at hx
  ·rename_i v hv;simp only[jT]at hx;obtain⟨k',h1,rfl⟩:=hx;obtain⟨kd,i,h2,h3,h4⟩:=Vy h1 (he y _ hv);exact⟨kd,i,by simp[h2],h3,h4⟩
  ·cases hx
def BB(m l:Nat):Cap->Option Nat->Cap->Prop
 |cap,none,c'=>c'=(match cap with| .kn k=> .kn (k-l)| .un z=> .un z)
 |_,some _,c'=>c'= .kn (m-l)
theorem Pt{P:Program}{w:World}{lo:Option Nat}{rlo:Option Value}(y:Nat)(code:BoundsCode)(k m:Nat):LK lo rlo->lo.getD 0<=y->(match rlo with
 |some v=>(do let l <-Instr.sliceBound v y code;pure (l,k,m))
 |none=>(do let l <-pure 0;pure (l,k,m)):Sem (Nat×Nat×Nat)).run P w= .ok (lo.getD 0,k,m) w:=fun h1 hy=>by
 cases lo with
 |none=>obtain rfl:=h1;rfl
 |some k=>
  obtain⟨kd,i,rfl,h4,h5⟩:=h1;simp only[Jn]at hy ⊢;rw[xU,run_sliceBound w kd i y code h4 (by omega),h5];rfl
theorem GA{isS:Bool}{len c:Nat}{c':Cap}{lo hi mx:Option Nat}{rlo rhi rmx:Option Value}{l r:Nat}(h1:LK lo rlo)(h2:LK hi rhi)(h3:LK mx rmx)
 (hcap:∀k,AQ cap len k=some true->k<=c) (hb:Ai len cap lo hi mx=some (l,r,c')) (w:World):
 ∃m,(Instr.sliceBounds isS len c rlo rhi rmx).run P w= .ok (l,r,m) w/\l<=r/\r<=m/\m<=c/\(mx=none->m=c)/\BB m l cap mx c':=by
 unfold Ai at hb
 cases mx with
 |some m=>
  obtain⟨km,im,rfl,m1,m2⟩:=h3
  cases hi with
  |none=>simp at hb
  |some k=>
   obtain⟨kh,ih,rfl,g1,g2⟩:=h2;simp only at hb;split at hb
   ·rename_i hc;simp only[jW,decide_eq_true_eq,beq_iff_eq]at hc;simp only[jP,jV]at hb;obtain⟨rfl,rfl,rfl⟩:=hb;have hmc:=hcap m hc.2;refine⟨m,?_,hc.1.1,hc.1.2,hmc,by simp,rfl⟩;simp only[Instr.sliceBounds,xU];rw[run_sliceBound w km im c _ m1 (by omega),m2];simp only[xT];rw[run_sliceBound w kh ih m _ g1 (by omega),g2];simp only[xT];exact Pt k _ _ _ h1 hc.1.1
   ·cases hb
 |none=>
  obtain rfl:=h3;simp only at hb;split at hb
  ·rename_i hc;simp only[jW,decide_eq_true_eq,beq_iff_eq]at hc;simp only[jP,jV]at hb;obtain⟨rfl,rfl,rfl⟩:=hb;have hrc:=hcap _ hc.2;refine⟨c,?_,hc.1,hrc,jM _,fun _=>rfl,rfl⟩;simp only[Instr.sliceBounds,xU,KW,xT];cases hi with
   |none=>
    obtain rfl:=h2;simp only[Option.getD_none,KW,xT,xU]at hc ⊢;exact Pt len _ _ _ h1 hc.1
   |some k=>
    obtain⟨kh,ih,rfl,g1,g2⟩:=h2;simp only[Jn]at hc hrc ⊢;rw[xU,run_sliceBound w kh ih c _ g1 (by omega),g2];simp only[xT];exact Pt k _ _ _ h1 hc.1
  ·cases hb
theorem RQ{r o' len c:Nat}(hh:Uy w r o' len cap c)(k:Nat)(hk:AQ cap len k=some true):k<=c:=by
 cases cap with
 |kn m=>simp only[AQ,jP,decide_eq_true_eq]at hk;obtain⟨rfl,_⟩:=hh;exact hk
 |un z=>
  simp only[AQ]at hk;split at hk
  ·exact zY (by assumption) hh.1
  ·cases hk
theorem j0d{b off len c m l r base r1 o' z:Nat}{c':Cap}{mx:Option Nat}(hb:μ b=some (r1,base))(ho:c=0\/o'=base+off)(hc:Uy w r1 (base+off) len cap c)
 (h1:l<=r) (h2:r<=m) (h3:m<=c) (hm:mx=none->m=c) (hf:BB m l cap mx c') (hz:Uc z c'=true):
 rel ρ μ w (.sl b (off+l * z) (r-l) c') (.slice (if m=l then some ⟨r1,o',none⟩else(some ⟨r1,o',none⟩:Option Addr).map (·.add (l * z))) (r-l) (m-l)):=by
 have hmax:=(ZI hc).2
 have key:∃o2,(if m=l then some ⟨r1,o',none⟩else(some ⟨r1,o',none⟩:Option Addr).map (·.add (l * z)))=some ⟨r1,o2,none⟩/\(m-l=0\/o2=base+(off+l * z)):=by
  by_cases hml:m=l
  ·exact⟨o',by simp[hml],.inl (by omega)⟩
  ·refine⟨o'+l * z,by simp[hml,Xd],.inr ?_⟩;rcases ho with h0|rfl
   ·omega
   ·omega
 obtain⟨o2,e1,e2⟩:=key
 rw[e1]
 unfold rel
 refine .inl ⟨r1,base,o2,m-l,hb,rfl,e2,?_⟩
 cases mx with
 |some k=>
  simp only[BB]at hf;subst hf;exact⟨rfl,by omega,by omega⟩
 |none=>
  have hmc:=hm rfl
  subst hmc
  simp only[BB]at hf
  subst hf
  cases cap with
  |kn k=>
   obtain⟨rfl,_,_⟩:=hc;exact⟨rfl,by omega,by omega⟩
  |un z2=>
   obtain⟨_,_,q1,cur,e,fz,q2,q3⟩:=hc;simp only[Uc]at hz;obtain rfl:=jY hz;refine⟨by omega,by omega,q1,cur,e,fz,q2,?_⟩;have:l * z+(m-l) * z=m * z:=by rw[<-Da];congr 1;omega
   omega
theorem wG{x:Operand}{lo hi mx:Option Operand}(hT:TT.Sound P T)(hr:HR P ρ fl μ h w)(he:ZV ρ μ w tmps ev)(ho:o.op= .slice t x lo hi mx)(ha:Qy P T o tmps h t x lo hi mx=some (n,h')):
 ZX P ρ fl μ h w ((execOp ev o).run P w) n h':=by
 unfold Qy at ha
 refine Xl hr he ha fun hk=> ?_
 split at hk
 case h_2=>cases hk
 rename_i y l0 h0 m0 hx hl hh hm
 have q1:=GU he hl
 have q2:=GU he hh
 have q3:=GU he hm
 have hv:=he x _ hx
 unfold Ua at hk
 split at hk
 ·rename_i e b off len cap hu;split at hk;case h_2=>cases hk
  rename_i z l r c' hz hb;cases hfit:Uc z c' with
  |false=>rw[hfit]at hk;cases hk
  |true=>
   rw[hfit]at hk;simp only[cond_true,jP,jV]at hk;obtain⟨rfl,rfl⟩:=hk;rcases yP hv with⟨r1,base,o',c,h1,h2,h3,h4⟩|⟨rfl,rfl,ad,h2⟩
   rotate_left
   ·obtain⟨m,b1,b2,b3,b4,b5,b6⟩:=GA (P:=P) (isS:=true) (len:=0) (c:=0) q1 q2 q3 (fun k hk=>by simp only[AQ,jP,decide_eq_true_eq]at hk;exact hk) hb w;obtain rfl:m=0:=by omega
    obtain rfl:r=0:=by omega
    obtain rfl:l=0:=by omega
    refine xL hr (v':= .slice (some ad) 0 0) ?_ ?_
    ·simp[execOp,ho,h2,Instr.sliceAt,Instr.slice,qX hT hu,b1,JD hT hz]
    ·unfold rel;refine .inr ⟨rfl,?_,ad,rfl⟩;cases m0 with
     |some k=>simp only[BB]at b6;subst b6;rfl
     |none=>simp only[BB]at b6;subst b6;rfl
   obtain⟨m,b1,b2,b3,b4,b5,b6⟩:=GA (P:=P) (isS:=true) (len:=len) (c:=c) q1 q2 q3 (RQ h4) hb w;refine xL hr ?_ (j0d h1 h3 h4 b2 b3 b4 b5 b6 hfit);simp[execOp,ho,h2,Instr.sliceAt,Instr.slice,qX hT hu,b1,JD hT hz]
 ·rename_i k e b off hu;split at hk;case h_2=>cases hk
  rename_i z l r c' hz hb;cases hfit:Nat.ble k 16777216 with
  |false=>rw[hfit]at hk;cases hk
  |true=>
   rw[hfit]at hk;simp only[cond_true,jP,jV]at hk;obtain⟨rfl,rfl⟩:=hk;have hk2:=Nat.ble_eq.mp hfit;obtain⟨r1,base,h1,h2⟩:=yN hv;have h4:Uy w r1 (base+off) k (.kn k) k:=⟨rfl,jM _,by simp only[maxLen];omega⟩;obtain⟨m,b1,b2,b3,b4,b5,b6⟩:=GA (P:=P) (isS:=false) (len:=k) (c:=k) q1 q2 q3 (RQ h4) hb w;have hcf:Uc z c'=true:=by cases m0<;>simp only[BB]at b6<;>subst b6<;>rfl
   refine xL hr ?_ (j0d h1 (.inr rfl) h4 b2 b3 b4 b5 b6 hcf);simp[execOp,ho,h2,Instr.sliceAt,Instr.sureAddr,qX hT hu,b1,JD hT hz];split<;>rfl
 ·cases hk
end
variable{l':List MapEntry}{ok:Bool}{es:Array MapEntry}
section
open Go Go.RowKit
variable {P:Program} {T:TT} {ρ:Nat->Value} {fl:Nat} {μ:Mu} {h:AH} {w:World} {tmps:TM} {ev:Operand->Value} {o:Oper} {n:AN} {h':AH}
theorem Pz{x:Operand}{i:Nat}(hT:TT.Sound P T)(hr:HR P ρ fl μ h w)(he:ZV ρ μ w tmps ev)(ho:o.op= .fieldAddr t x i)(ha:Xp T tmps h t x i=some (n,h')):
 ZX P ρ fl μ h w ((execOp ev o).run P w) n h':=by
 unfold Xp at ha
 split at ha
 case h_2=>cases ha
 rename_i fs b off hu hx
 split at ha
 case h_2=>cases ha
 rename_i f hf
 split at ha
 case h_2=>cases ha
 rename_i k hk
 simp only[jP,jV]at ha
 obtain⟨rfl,rfl⟩:=ha
 obtain⟨r,base,hb,hv⟩:=yN (he x _ hx)
 refine xL hr (v':= .pointer (some ⟨r,base+(off+f.offset),none⟩)) ?_ (by unfold rel;exact⟨r,base,hb,rfl⟩)
 simp[execOp,ho,hv,Instr.fieldAt,Instr.sureAddr,qX hT hu,hf,fieldPlace,JD hT hk,Xd,vI]
theorem Hb{l':List Value}{off:Nat}(hT:TT.Sound P T)(hl:qF ρ μ w l l')(hp:Tj T t l off=some a)(w':World):
 ∃v,(part t l'.toArray off).run P w'= .ok v w'/\rel ρ μ w a v:=by
 unfold Tj at hp
 split at hp
 case h_2=>cases hp
 rename_i i hi
 have hA:=Oi hT (show XO T t=some (BJ i.desc)by simp[XO,hi]) w'
 have hS:=JD hT (show vQ T t=some i.size by simp[vQ,hi]) w'
 cases hd:BJ i.desc with
 |true=>
  rw[hd]at hp hA;simp only[cond_true,jT]at hp;obtain⟨cs,hc,rfl⟩:=hp;obtain⟨c1,rfl⟩:=RW hc;refine⟨.agg (l'.toArray.extract off (off+i.size)),by simp[part,hA,hS],?_⟩;unfold rel;refine⟨(l'.drop off).take i.size,?_,AC _ (Fh _ hl)⟩;simp[List.extract_eq_take_drop]
 |false=>
  rw[hd]at hp hA;simp only[cond_false]at hp;obtain⟨v,h1,h2⟩:=Zk hl hp;exact⟨v,by simp[part,hA,h1],h2⟩
theorem Hc{v:Value}(hh:rel ρ μ w (.agg l) v):∃l',v= .agg l'.toArray/\qF ρ μ w l l':=by unfold rel at hh;exact hh
theorem Hd{v:Value}(hh:rel ρ μ w (.tup l) v):∃l',v= .tuple l'.toArray/\qF ρ μ w l l':=by unfold rel at hh;exact hh
theorem wC{x:Operand}{i:Nat}(hT:TT.Sound P T)(hr:HR P ρ fl μ h w)(he:ZV ρ μ w tmps ev)(ho:o.op= .field t x i)(ha:Gx T tmps h t x i=some (n,h')):
 ZX P ρ fl μ h w ((execOp ev o).run P w) n h':=by
 unfold Gx at ha
 split at ha
 case h_2=>cases ha
 rename_i fs l hu hx
 split at ha
 case h_2=>cases ha
 rename_i f hf
 obtain⟨a,h1,rfl,rfl⟩:=Zx ha
 obtain⟨l',hv,hl⟩:=Hc (he x _ hx)
 obtain⟨v,h2,h3⟩:=Hb hT hl h1 w
 exact xL hr (by simp[execOp,ho,hv,Instr.field,qX hT hu,hf,asAgg,h2]) h3
theorem PD{x ix:Operand}(hT:TT.Sound P T)(hr:HR P ρ fl μ h w)(he:ZV ρ μ w tmps ev)(ho:o.op= .indexAddr t x ix)(ha:ZQ T tmps h t x ix=some (n,h')):
 ZX P ρ fl μ h w ((execOp ev o).run P w) n h':=by
 unfold ZQ at ha
 split at ha
 ·rename_i e b off len cap i hu hx hix;split at ha;case h_2=>cases ha
  rename_i z hz;split at ha;case isFalse=>cases ha
  rename_i hlt;simp only[jP,jV]at ha;obtain⟨rfl,rfl⟩:=ha;obtain⟨ai,ai1,ai2⟩:=Option.bind_eq_some_iff.1 hix;obtain⟨kd,iv,e1,e2,rfl⟩:=Vy ai2 (he ix _ ai1);rcases yP (he x _ hx)with⟨r,base,o',c,h1,h2,h3,h4⟩|⟨rfl,_⟩
  rotate_left
  ·omega
  have h5:=(ZI h4).1;obtain rfl:o'=base+off:=h3.resolve_left (by omega);have hi2:iv<(len:Int):=by omega
  refine xL hr (v':= .pointer (some ⟨r,base+(off+iv.toNat * z),none⟩)) ?_ (by unfold rel;exact⟨r,base,h1,rfl⟩);by_cases hl1:len<=1
  ·simp[execOp,ho,h2,e1,Instr.indexAt,asIntOf,qX hT hu,e2,hi2,JD hT hz,Xd,vI]
  ·simp[execOp,ho,h2,e1,Instr.indexAt,asIntOf,qX hT hu,e2,hi2,JD hT hz,Xd,vI]
 ·rename_i m e b off i hu hx hix;split at ha;case h_2=>cases ha
  rename_i z hz;split at ha;case isFalse=>cases ha
  rename_i hlt;simp only[jP,jV]at ha;obtain⟨rfl,rfl⟩:=ha;obtain⟨ai,ai1,ai2⟩:=Option.bind_eq_some_iff.1 hix;obtain⟨kd,iv,e1,e2,rfl⟩:=Vy ai2 (he ix _ ai1);obtain⟨r,base,h1,h2⟩:=yN (he x _ hx);have hi2:iv<(m:Int):=by omega
  refine xL hr (v':= .pointer (some ⟨r,base+(off+iv.toNat * z),none⟩)) ?_ (by unfold rel;exact⟨r,base,h1,rfl⟩);by_cases hl1:m<=1
  ·simp[execOp,ho,h2,e1,Instr.indexAt,Instr.sureAddr,asIntOf,qX hT hu,e2,hi2,JD hT hz,Xd,vI]
  ·simp[execOp,ho,h2,e1,Instr.indexAt,Instr.sureAddr,asIntOf,qX hT hu,e2,hi2,JD hT hz,Xd,vI]
 ·cases ha
theorem wD{x ix:Operand}(hT:TT.Sound P T)(hr:HR P ρ fl μ h w)(he:ZV ρ μ w tmps ev)(ho:o.op= .index t x ix)(ha:Yr P T o tmps h t x ix=some (n,h')):
 ZX P ρ fl μ h w ((execOp ev o).run P w) n h':=by
 unfold Yr at ha
 refine Xl hr he ha fun hk=> ?_
 split at hk
 case h_2=>cases hk
 rename_i m e l i hu hx hix
 split at hk
 case h_2=>cases hk
 rename_i z hz
 split at hk
 case isFalse=>cases hk
 rename_i hlt
 obtain⟨a,h1,rfl,rfl⟩:=Zx hk
 obtain⟨ai,ai1,ai2⟩:=Option.bind_eq_some_iff.1 hix
 obtain⟨kd,iv,e1,e2,rfl⟩:=Vy ai2 (he ix _ ai1)
 obtain⟨l',hv,hl⟩:=Hc (he x _ hx)
 obtain⟨v,h2,h3⟩:=Hb hT hl h1 w
 have hi2:iv<(m:Int):=by omega
 exact xL hr (by simp[execOp,ho,hv,e1,Instr.index,asIntOf,qX hT hu,e2,hi2,JD hT hz,h2]) h3
theorem aV{x:Operand}{i:Nat}(hr:HR P ρ fl μ h w)(he:ZV ρ μ w tmps ev)(ho:o.op= .extract x i)(ha:Vr tmps h x i=some (n,h')):
 ZX P ρ fl μ h w ((execOp ev o).run P w) n h':=by
 unfold Vr at ha
 split at ha
 case h_2=>cases ha
 rename_i l hx
 obtain⟨a,h1,rfl,rfl⟩:=Zx ha
 obtain⟨l',hv,hl⟩:=Hd (he x _ hx)
 obtain⟨v,h2,h3⟩:=Zk hl h1
 exact xL hr (by simp[execOp,ho,hv,Instr.extract,h2]) h3
theorem DS{v:Value}(hh:rel ρ μ w a v)(b:Bool):rel ρ μ w (.tup [a,.lit (.bool b)]) (.tuple #[v,.bool b]):=by unfold rel;exact⟨[v,.bool b],rfl,rels_cons hh (rels_cons (vN rfl) rels_nil)⟩
theorem Ma{v:Value}(hh:rel ρ μ w a v)(ok b:Bool):rel ρ μ w (aS ok a b) (if ok then .tuple #[v,.bool b]else v):=by
 cases ok
 ·exact hh
 ·exact DS hh b
theorem mD{x:Operand}{xt:TypeId}(hT:TT.Sound P T)(hr:HR P ρ fl μ h w)(he:ZV ρ μ w tmps ev)(ho:o.op= .typeAssert x xt t ok)(ha:Af P T tmps h x t ok=some (n,h')):
 ZX P ρ fl μ h w ((execOp ev o).run P w) n h':=by
 unfold Af at ha
 split at ha
 ·rename_i d y i hx hi;have hu:=qX hT (show und T t=some i.desc by simp[und,hi]) w;obtain⟨u,hv,hu2⟩:=Kf (he x _ hx);obtain⟨z,hz,hz2⟩:=QO hT (show Jm T t=some i.zero by simp[Jm,hi]) w;split at ha
  ·rename_i want hd;split at ha;case h_2=>cases ha
   rename_i j hj;split at ha;case isFalse=>cases ha
   rename_i hmiss;simp only[jP,jV]at ha;obtain⟨rfl,rfl⟩:=ha;refine xL hr ?_ (Ma (hv▸he x _ hx) ok true);rw[hd]at hu;have hm2:Instr.missingMethod want j.methods=none:=by simpa using hmiss
   simp[execOp,ho,hv,Instr.typeAssert,hu,typeInfo,hj,hm2]
  ·rename_i hni;cases hdt:Nat.beq d t with
   |true=>
    rw[hdt]at ha;simp only[cond_true,jP,jV]at ha;obtain⟨rfl,rfl⟩:=ha;obtain rfl:=jY hdt;refine xL hr ?_ (Ma hu2 ok true);have:(Instr.typeAssert (.iface d u) xt d ok).run P w= .ok (if ok then .tuple #[u,.bool true]else u) w:=by simp only[Instr.typeAssert,xU,hu,xT];cases hd:i.desc<;>first|(exact absurd hd (hni _))|(simp;done)|simp
    simp[execOp,ho,hv,this]
   |false=>
    rw[hdt]at ha
    simp only[cond_false]at ha
    cases ok with
    |false=>cases ha
    |true=>
     simp only[cond_true,jP,jV]at ha;obtain⟨rfl,rfl⟩:=ha;have hne:t≠d:=fun hh=>by subst hh;simp at hdt
     refine xL hr (v':= .tuple #[z,.bool false]) ?_ (DS (yV hz2) false);have:(Instr.typeAssert (.iface d u) xt t true).run P w= .ok (.tuple #[z,.bool false]) w:=by simp only[Instr.typeAssert,xU,hu,xT];cases hd:i.desc<;>first|(exact absurd hd (hni _))|(simp[Ne.symm hne,hz];done)|simp[Ne.symm hne,hz]
     simp[execOp,ho,hv,this]
 ·rename_i i hx hi;have hu:=qX hT (show und T t=some i.desc by simp[und,hi]) w;have hv:=xF (he x _ hx);obtain⟨z,hz,hz2⟩:=QO hT (show Jm T t=some i.zero by simp[Jm,hi]) w;cases ok with
  |false=>cases ha
  |true=>
   simp only[cond_true,jP,jV]at ha;obtain⟨rfl,rfl⟩:=ha;refine xL hr (v':= .tuple #[z,.bool false]) ?_ (DS (yV hz2) false);have:(Instr.typeAssert .nilIface xt t true).run P w= .ok (.tuple #[z,.bool false]) w:=by simp only[Instr.typeAssert,xU,hu,xT];cases hd:i.desc<;>simp[hz]
   simp[execOp,ho,hv,this]
 ·cases ha
theorem wE{x:Operand}(hr:HR P ρ fl μ h w)(he:ZV ρ μ w tmps ev)(ho:o.op= .panic x)(ha:Io tmps h x=some (n,h')):
 ZX P ρ fl μ h w ((execOp ev o).run P w) n h':=by
 unfold Io at ha
 split at ha
 ·rename_i t y hx;simp only[jP,jV]at ha;obtain⟨rfl,rfl⟩:=ha;have h1:=he x _ hx;obtain⟨u,hv,_⟩:=Kf h1;exact⟨rfl,ev x,by simp[execOp,ho,hv,Instr.panic],h1⟩
 ·cases ha
theorem FO{kind:TypeDesc}{k:Value}:∀{es:List AE} {res:List MapEntry} {i:Nat} {f:Option (Nat×AV)},kK ρ μ w es res->Uf kind k es i=some f->
 ∃g,Instr.findNow kind k res i=some g/\(match f with|none=>g=none|some (j,a)=>∃v,g=some (j,v)/\rel ρ μ w a v/\i<=j/\∃e,res[j-i]? =some e/\Instr.sameNow kind k e.key=some true)
 |[],res,i,f,hr,hf=>by simp only[kK]at hr;subst hr;simp only[Uf,jP]at hf;subst hf;exact⟨none,rfl,rfl⟩
 |a::r,res,i,f,hr,hf=>by
  simp only[kK]at hr;obtain⟨e,es,rfl,h1,h2⟩:=hr;obtain⟨k1,k2,k3,k4⟩:=h1;unfold Uf at hf;rw[<-k1]at hf;split at hf
  ·rename_i hs;obtain rfl:=jS hf;exact⟨some (i,e.val),by simp[Instr.findNow,hs],e.val,rfl,k3,jM _,e,by simp,hs⟩
  ·rename_i hs;obtain⟨g,g1,g2⟩:=FO h2 hf;refine⟨g,by simp[Instr.findNow,hs,g1],?_⟩;cases f with
   |none=>exact g2
   |some p=>
    obtain⟨j,b⟩:=p;obtain⟨v,v1,v2,v3,e',v4,v5⟩:=g2;exact⟨v,v1,v2,by omega,e',by rw[show j-i=(j-(i+1))+1 by omega,xQ];exact v4,v5⟩
  ·cases hf
theorem Nf(hT:TT.Sound P T){k:TypeId}(hd:und T k=some d)(hk:Pm d=true)(b:Bool)(v:Value)(w:World):(Instr.checkKey b 10000 k v).run P w= .ok () w:=by rw[show(10000:Nat)=9999+1 from rfl];generalize 9999=m;unfold Instr.checkKey;rw[xU,qX hT hd];simp only[xT];cases d<;>first|rfl|cases hk
theorem FP{eq:Value->Value->Option Bool}{kt:TypeId}{k:Value}(heq:∀b r,eq k b=some r->∀w,(Op.equal kt k b).run P w= .ok r w):∀{es:List AE} {res:List MapEntry} {i:Nat} {f:Option (Nat×AV)},kK ρ μ w es res->So eq k es i=some f->
 ∃g,(∀w',(Instr.findAsking kt k res i).run P w'= .ok g w')/\(match f with|none=>g=none|some (j,a)=>∃v,g=some (j,v)/\rel ρ μ w a v/\i<=j/\∃e,res[j-i]? =some e/\Instr.sameBits 10000 e.key k=true)
 |[],res,i,f,hr,hf=>by simp only[kK]at hr;subst hr;simp only[So,jP]at hf;subst hf;exact⟨none,fun _=>rfl,rfl⟩
 |a::r,res,i,f,hr,hf=>by
  simp only[kK]at hr;obtain⟨e,es,rfl,h1,h2⟩:=hr;obtain⟨k1,k2,k3,k4⟩:=h1;unfold So at hf;rw[<-k1]at hf;split at hf
  ·rename_i hs;cases hb:Instr.sameBits 10000 e.key k with
   |false=>rw[hb]at hf;cases hf
   |true=>
   rw[hb]at hf;obtain rfl:=jS hf;exact⟨some (i,e.val),fun w'=>by simp[Instr.findAsking,heq _ _ hs w'],e.val,rfl,k3,jM _,e,by simp,hb⟩
  ·rename_i hs;obtain⟨g,g1,g2⟩:=FP heq h2 hf;refine⟨g,fun w'=>by simp[Instr.findAsking,heq _ _ hs w',g1 w'],?_⟩;cases f with
   |none=>exact g2
   |some p=>
    obtain⟨j,b⟩:=p;obtain⟨v,v1,v2,v3,e',v4,v5⟩:=g2;exact⟨v,v1,v2,by omega,e',by rw[show j-i=(j-(i+1))+1 by omega,xQ];exact v4,v5⟩
  ·cases hf
theorem j63{a b:ByteArray}(hh:(a==b)=true):a=b:=by
 obtain⟨x⟩:=a;obtain⟨y⟩:=b;have e:x=y:=by simpa using(show(x==y)=true from hh)
 rw[e]
theorem PP{a b:Value}(hs:Instr.sameNow d a b=some true)(m:Nat):Instr.sameBits m b a=true:=by
 unfold Instr.sameNow at hs;split at hs
 ·rename_i k a k' b;split at hs
  ·rename_i hk;subst hk;simp only[jP,beq_iff_eq]at hs;subst hs;simp[Instr.sameBits]
  ·cases hs
 ·simp only[jP]at hs;have:=j63 hs;subst this;simp only[Instr.sameBits];exact hs
 ·simp only[jP,beq_iff_eq]at hs;subst hs;simp[Instr.sameBits]
 ·cases hs
theorem Qh(hT:TT.Sound P T){k:Value}{es:List AE}{res:List MapEntry}{f:Option (Nat×AV)}(hr:kK ρ μ w es res)(hf:FQ T t k es=some f):
 ∃kt e,und T t=some (.map kt e)/\(∀b w',∃a,(Instr.checkKey b 10000 kt k).run P w'= .ok a w')/\∃g,(∀w',(Instr.findKey kt k res).run P w'= .ok g w')/\
  (match f with|none=>g=none|some (j,a)=>∃v,g=some (j,v)/\rel ρ μ w a v/\∃e,res[j]? =some e/\Instr.sameBits 10000 e.key k=true):=by
 unfold FQ at hf
 split at hf
 case h_2=>cases hf
 rename_i kt e hu
 split at hf
 case h_2=>cases hf
 rename_i i hi
 have hd:und T kt=some i.desc:=by simp[und,hi]
 cases hk:Pm i.desc with
 |true=>
  rw[hk]at hf
  simp only[cond_true]at hf
  obtain⟨g,g1,g2⟩:=FO hr hf
  refine⟨kt,e,hu,fun b w'=>⟨(),Nf hT hd hk b k w'⟩,g,fun w'=>by simp[Instr.findKey,qX hT hd,g1],?_⟩
  cases f with
  |none=>exact g2
  |some p=>
   obtain⟨j,a⟩:=p;obtain⟨v,v1,v2,_,e',v4,v5⟩:=g2;exact⟨v,v1,v2,e',v4,PP v5 10000⟩
 |false=>
  rw[hk]at hf
  simp only[cond_false]at hf
  cases hc:(NP i.desc&&i.ck k)with
  |false=>rw[hc]at hf;cases hf
  |true=>
  rw[hc]at hf
  simp only[cond_true]at hf
  simp only[jW]at hc
  obtain⟨g,g1,g2⟩:=FP (P:=P) (kt:=kt) (fun b r hb w'=>by have:=HP _ _ (hT.eq kt i k b r hi hb) w';simpa using this) hr hf
  refine⟨kt,e,hu,fun b w'=> ?_,g,fun w'=> ?_,?_⟩
  ·obtain⟨a,ha⟩:=hT.ck kt i k hi hc.2 b;exact⟨a,by simpa using HP _ _ ha w'⟩
  ·unfold Instr.findKey
   rw[xU,qX hT hd];simp only[xT];have hno:Instr.findNow i.desc k res 0=none\/(Instr.findNow i.desc k res 0=some none/\res=[]):=by
    cases res with
    |nil=>exact .inr ⟨rfl,rfl⟩
    |cons x xs=>
     left;unfold Instr.findNow;have:Instr.sameNow i.desc k x.key=none:=by
      cases hq:i.desc<;>rw[hq]at hc<;>first|(cases hc.1;done)|skip
      unfold Instr.sameNow;rfl
     rw[this]
   rcases hno with h1|⟨h1,h2⟩
   ·rw[h1];exact g1 w'
   ·rw[h1];subst h2;have:=g1 w';simp only[Instr.findAsking,KW,Result.ok.injEq,and_true]at this;rw[<-this];rfl
  ·cases f with
   |none=>exact g2
   |some p=>
    obtain⟨j,a⟩:=p;obtain⟨v,v1,v2,_,e',v4,v5⟩:=g2;exact⟨v,v1,v2,e',v4,v5⟩
theorem Ar{k v:Value}(hk:AW a=some k)(hv:rel ρ μ w a v):v=k/\lH k=true:=by
 unfold AW at hk;split at hk
 ·obtain rfl:=jS hk;unfold rel at hv;refine⟨hv.1,?_⟩;unfold lH;split
  ·simp[CN]at hv
  ·exact hv.2
 ·rename_i l;simp only[jT]at hk;obtain⟨m,hm,rfl⟩:=hk;unfold rel at hv;obtain⟨l',rfl,h2⟩:=hv;obtain rfl:=Uq hm h2;refine⟨rfl,?_⟩;simp only[lH,qG];intro x hx;exact CZ hm h2 x (by simpa using hx)
 ·cases hk
theorem iI(he:ND T t=some e):∃k,und T t=some (.map k e):=by
 unfold ND at he;split at he
 ·obtain rfl:=jS he;exact⟨_,by assumption⟩
 ·cases he
theorem mF{m k:Operand}(hT:TT.Sound P T)(hr:HR P ρ fl μ h w)(he:ZV ρ μ w tmps ev)(ho:o.op= .lookup t m k ok)(ha:Ks T tmps h t m k ok=some (n,h')):
 ZX P ρ fl μ h w ((execOp ev o).run P w) n h':=by
 unfold Ks at ha
 split at ha
 case h_2=>cases ha
 rename_i am ak hm hk
 obtain⟨a,h1,rfl,rfl⟩:=Zx ha
 unfold Vm at h1
 split at h1
 case h_2=>cases h1
 rename_i key es e hkey hes hel
 obtain⟨hkv,_⟩:=Ar hkey (he k _ hk)
 obtain⟨_,hu0⟩:=iI hel
 have key2:∀(res:Array MapEntry),kK ρ μ w es res.toList->(∀(kt:TypeId) (g:Option (Nat×Value)) (z:Value),und T t=some (.map kt e)->(∀b w',∃a,(Instr.checkKey b 10000 kt key).run P w'= .ok a w')->(∀w',(Instr.findKey kt key res.toList).run P w'= .ok g w')->(g=none->(zeroValue e).run P w= .ok z w)->
  (Instr.lookup t (ev m) key ok).run P w= .ok (if ok then .tuple #[(match g with|some (_,v)=>v|none=>z),.bool g.isSome]else(match g with|some (_,v)=>v|none=>z)) w)->
  ZX P ρ fl μ h' w ((execOp ev o).run P w) (.val a) h':=fun res hres hrun=>by
  split at h1
  ·rename_i j v hf;obtain rfl:=jS h1;obtain⟨kt,e2,hu,hck,g,g1,v',rfl,g2,_⟩:=Qh hT hres hf;obtain⟨rfl,rfl⟩:kt=_/\e2=e:=by rw[hu0]at hu;simp at hu;exact⟨hu.1.symm,hu.2.symm⟩
   have h3:=hrun _ _ undef hu hck g1 (fun hh=>by cases hh);refine xL hr (v':=if ok then .tuple #[v',.bool true]else v') (by simp only[execOp,ho,hkv,xU,h3];rfl) ?_;cases ok
   ·exact g2
   ·exact DS g2 true
  ·rename_i z hf hz;obtain rfl:=jS h1;obtain⟨kt,e2,hu,hck,g,g1,rfl⟩:=Qh hT hres hf;obtain⟨rfl,rfl⟩:kt=_/\e2=e:=by rw[hu0]at hu;simp at hu;exact⟨hu.1.symm,hu.2.symm⟩
   obtain⟨zv,z1,z2⟩:=QO hT hz w;have h3:=hrun _ _ zv hu hck g1 (fun _=>z1);refine xL hr (v':=if ok then .tuple #[zv,.bool false]else zv) (by simp only[execOp,ho,hkv,xU,h3];rfl) ?_;cases ok
   ·exact yV z2
   ·exact DS (yV z2) false
  ·cases h1
 unfold Sj at hes
 split at hes
 ·obtain rfl:=jS hes;have hv:=xF (he m _ hm);refine key2 #[] rfl fun kt g z hu hck hg hz=> ?_;obtain⟨a0,hck⟩:=hck true w;have hg:=hg w;simp only[Instr.lookup,hv,xU,qX hT hu,xT,KW];rw[show(#[]:Array MapEntry).isEmpty=true from rfl,hck];simp only[xT,hg];cases g with
  |none=>cases ok<;>simp[hz rfl]
  |some p=>cases ok<;>simp
 ·rename_i b;split at hes;case h_2=>cases hes
  rename_i es' clock hb;obtain rfl:=jS hes;have hv:=he m _ hm;unfold rel at hv;obtain⟨r,hr1,hv⟩:=hv;obtain⟨_,_,ob,o1,o2⟩:=hr.obj b r 0 _ hr1 hb;obtain⟨res,rfl,_,o3⟩:=o2;refine key2 res o3 fun kt g z hu hck hg hz=> ?_;obtain⟨a0,hck⟩:=hck res.isEmpty w;have hgo:(getObj r).run P w= .ok (.map res clock) w:=by simp[getObj,Sem.run,o1]
  simp only[Instr.lookup,hv,xU,qX hT hu,xT,hgo,KW,hck,hg w];cases g with
  |none=>cases ok<;>simp[hz rfl]
  |some p=>cases ok<;>simp
 ·cases hes
theorem DD{l:List AE}(hh:kK ρ μ w l l'):l'.length=l.length:=by
 induction l generalizing l' with
 |nil=>simp only[kK]at hh;rw[hh];rfl
 |cons a r ih=>
  simp only[kK]at hh;obtain⟨e,es,rfl,_,h2⟩:=hh;rw[xA,xA,ih h2]
theorem IL{l m:List AE}{m':List MapEntry}(hh:kK ρ μ w l l')(hk:kK ρ μ w m m'):kK ρ μ w (l++m) (l'++m'):=by
 induction l generalizing l' with
 |nil=>simp only[kK]at hh;rw[hh];exact hk
 |cons a r ih=>
  simp only[kK]at hh;obtain⟨e,es,rfl,h1,h2⟩:=hh;exact⟨e,es++m',rfl,h1,ih h2⟩
theorem IM{f:AE->AE}{g:MapEntry->MapEntry}{l:List AE}(i:Nat)(hh:kK ρ μ w l l')(hfg:∀a e,Pa ρ μ w a e->Pa ρ μ w (f a) (g e)):kK ρ μ w (l.modify i f) (l'.modify i g):=by
 induction l generalizing l' i with
 |nil=>simp only[kK]at hh;subst hh;simp[kK]
 |cons a r ih=>
  simp only[kK]at hh
  obtain⟨e,es,rfl,h1,h2⟩:=hh
  cases i with
  |zero=>exact⟨_,_,rfl,hfg _ _ h1,h2⟩
  |succ i=>exact⟨_,_,by simp[List.modify_succ_cons],h1,ih i h2⟩
theorem MW{l:List AE}(i:Nat)(hh:kK ρ μ w l l'):kK ρ μ w (l.eraseIdx i) (l'.eraseIdx i):=by
 induction l generalizing l' i with
 |nil=>simp only[kK]at hh;subst hh;simp[kK]
 |cons a r ih=>
  simp only[kK]at hh
  obtain⟨e,es,rfl,h1,h2⟩:=hh
  cases i with
  |zero=>exact h2
  |succ i=>exact⟨e,_,rfl,h1,ih i h2⟩
theorem bR{r:Nat}{c:Nat}(hg:w.heap[r]? =some (.map es c))(o':Obj)(hn:True):MJ r w {w with heap:=w.heap.setIfInBounds r o'}/\(w.heap.setIfInBounds r o')[r]? =some o':=by
 have hlt:=VS hg;refine⟨⟨by simp,fun k hk=> ?_,fun k cur e fz hk=> ?_,⟨rfl,rfl,rfl⟩⟩,by simp[hlt]⟩
 ·show(w.heap.setIfInBounds r o')[k]? =_;rw[qZ,if_neg (Ne.symm hk)]
 ·have hne:r≠k:=fun e'=>by subst e';rw[hg]at hk;cases hk
  exact⟨cur,e,fz,by show(w.heap.setIfInBounds r o')[k]? =_;rw[qZ,if_neg hne];exact hk,rfl⟩
theorem KF{r:Nat}{c:Nat}(hg:w.heap[r]? =some (.map es c))(o':Obj):(setObj r o').run P w= .ok () {w with heap:=w.heap.setIfInBounds r o'}:=by simp[setObj,Sem.run,hg]
end
variable{l:List TypeId}{es:List AE}{ty tx:TypeId}{dx:TypeDesc}{i:TI}
section
open Go Go.RowKit
variable {P:Program} {T:TT} {ρ:Nat->Value} {fl:Nat} {μ:Mu} {h:AH} {w:World} {tmps:TM} {ev:Operand->Value} {o:Oper} {n:AN} {h':AH}
theorem HF{b:Nat}{clock:Nat}{v:Value}(hr:HR P ρ fl μ h w)(hv:rel ρ μ w (.mp b) v)(hb:h.at b=some (.map es clock)):
 ∃r res,μ b=some (r,0)/\v= .map (some r)/\w.heap[r]? =some (.map res clock)/\kK ρ μ w es res.toList:=by
 unfold rel at hv
 obtain⟨r,hr1,hv⟩:=hv
 obtain⟨_,_,ob,o1,o2⟩:=hr.obj b r 0 _ hr1 hb
 obtain⟨res,rfl,_,o3⟩:=o2
 exact⟨r,res,hr1,hv,o1,o3⟩
theorem HD{b r clock clock':Nat}{es':List AE}{res res':Array MapEntry}(hr:HR P ρ fl μ h w)(hb:μ b=some (r,0))(hx:h.at b=some (.map es clock))(hg:w.heap[r]? =some (.map res clock))(he:kK ρ μ w es' res'.toList):
 yD P ρ fl μ h w μ (h.put b (.map es' clock')) {w with heap:=w.heap.setIfInBounds r (.map res' clock')}:=by
 obtain⟨h1,h2⟩:=bR hg (.map res' clock') trivial
 exact yD.upd hr hb hx rfl h1 h2 ⟨res',rfl,rfl,kK.mono (yZ.refl μ) h1.grows he⟩
theorem Nk{m k:AV}{rm rk rx:Value}(hT:TT.Sound P T)(hr:HR P ρ fl μ h w)(hm:rel ρ μ w m rm)(hk:rel ρ μ w k rk)(hx:rel ρ μ w x rx)(hu:GY T h t m k x=some h'):
 ∃w',(Instr.mapUpdate t rm rk rx).run P w= .ok () w'/\yD P ρ fl μ h w μ h' w':=by
 unfold GY at hu
 split at hu
 case h_2=>cases hu
 rename_i b key hkey
 split at hu
 case h_2=>cases hu
 rename_i es clock hb
 obtain⟨r,res,m1,rfl,m2,m3⟩:=HF hr hm hb
 obtain⟨hkv,hks⟩:=Ar hkey hk
 subst hkv
 have hgo:(getObj r).run P w= .ok (.map res clock) w:=by simp[getObj,Sem.run,m2]
 split at hu
 ·rename_i i v hf;obtain rfl:=jS hu;obtain⟨kt,e,hu1,hck,g,g1,v',rfl,g2,e',g4,g5⟩:=Qh hT m3 hf;obtain⟨a0,hck⟩:=hck false w;simp only[xN]at g4;refine⟨_,?_,HD hr m1 hb m2 (res':=res.modify i fun e=>{e with key:=rk,val:=rx}) ?_⟩
  ·have hkt:(Instr.keyThatStays e'.key rk).run P w= .ok rk w:=by
    unfold Instr.keyThatStays
    rw[if_pos g5]
    rfl
   simp[Instr.mapUpdate,qX hT hu1,hgo,hck,g1 w,g4,hkt,KF m2]
  ·rw[Array.toList_modify];exact IM i m3 fun a e q=>⟨rfl,hks,hx,q.2.2.2⟩
 ·rename_i hf;obtain rfl:=jS hu;obtain⟨kt,e,hu1,hck,g,g1,rfl⟩:=Qh hT m3 hf;obtain⟨a0,hck⟩:=hck false w;refine⟨_,?_,HD hr m1 hb m2 (res':=res.push {key:=rk,val:=rx,born:=clock}) ?_⟩
  ·simp[Instr.mapUpdate,qX hT hu1,hgo,hck,g1 w,KF m2]
  ·rw[Array.toList_push];exact IL m3 ⟨_,[],rfl,⟨rfl,hks,hx,rfl⟩,rfl⟩
 ·cases hu
theorem Oa{m k x:Operand}(hT:TT.Sound P T)(hr:HR P ρ fl μ h w)(he:ZV ρ μ w tmps ev)(ho:o.op= .mapUpdate t m k x\/o.op= .insert t m k x)(ha:VY T tmps h t m k x=some (n,h')):
 ZX P ρ fl μ h w ((execOp ev o).run P w) n h':=by
 unfold VY at ha
 split at ha
 ·rename_i am ak ax hm hk hx;simp only[jT,jV]at ha;obtain⟨h1,h2,rfl,rfl⟩:=ha;obtain⟨w',q1,q2⟩:=Nk hT hr (he m _ hm) (he k _ hk) (he x _ hx) h2;refine⟨μ,w',undef,.inr ⟨?_,rfl⟩,q2,Kg⟩;rcases ho with ho|ho<;>simp[execOp,ho,q1]
 ·cases ha
theorem j0c{h:List AB}{b:Nat}{x:AB}(hb:h[b]? =some x):h.set b x=h:=by
 apply VO;intro i;by_cases hi:b=i
 ·subst hi;rw[qK (List.getElem?_eq_some_iff.1 hb).1,hb]
 ·rw[vK hi]
theorem MU{m k:AV}{rm rk:Value}(hT:TT.Sound P T)(hr:HR P ρ fl μ h w)(hm:rel ρ μ w m rm)(hk:rel ρ μ w k rk)(hu:OX T h t m k=some h'):
 ∃w',(Builtin.delete_ (t::l).toArray ty #[rm,rk]).run P w= .ok (.tuple #[]) w'/\yD P ρ fl μ h w μ h' w':=by
 unfold OX at hu
 split at hu
 ·rename_i key hkey;split at hu;case h_2=>cases hu
  rename_i g0 hf;obtain rfl:=jS hu;obtain⟨hkv,hks⟩:=Ar hkey hk;subst hkv;obtain⟨kt,e,hu1,hck,_⟩:=Qh (ρ:=ρ) (μ:=μ) (w:=w) (es:=[]) (res:=[]) hT rfl hf;have h1:=xF hm;obtain⟨a0,hck⟩:=hck true w;refine⟨w,?_,yD.refl hr⟩;simp[Builtin.delete_,h1,qX hT hu1,hck]
 ·rename_i b key hkey;split at hu;case h_2=>cases hu
  rename_i es clock hb;obtain⟨r,res,m1,rfl,m2,m3⟩:=HF hr hm hb;obtain⟨hkv,hks⟩:=Ar hkey hk;subst hkv;have hgo:(getObj r).run P w= .ok (.map res clock) w:=by simp[getObj,Sem.run,m2]
  split at hu
  ·rename_i i v hf;obtain rfl:=jS hu;obtain⟨kt,e,hu1,hck,g,g1,v',rfl,g2,e',g4,g5⟩:=Qh hT m3 hf;obtain⟨a0,hck⟩:=hck res.isEmpty w;refine⟨_,?_,HD hr m1 hb m2 (res':=res.eraseIdxIfInBounds i) (clock':=clock) ?_⟩
   ·simp[Builtin.delete_,qX hT hu1,hgo,hck,g1 w,KF m2]
   ·simp only[xN]at g4;have hlt:=(Array.getElem?_eq_some_iff.1 g4).1;have:(res.eraseIdxIfInBounds i).toList=res.toList.eraseIdx i:=by unfold Array.eraseIdxIfInBounds;rw[dif_pos hlt,Array.toList_eraseIdx]
    rw[this];exact MW i m3
  ·rename_i hf;obtain rfl:=jS hu;obtain⟨kt,e,hu1,hck,g,g1,rfl⟩:=Qh hT m3 hf;obtain⟨a0,hck⟩:=hck res.isEmpty w;have:=HD (es':=es) (res':=res) (clock':=clock) hr m1 hb m2 m3;refine⟨_,?_,this.alike (by rw[Nt];exact j0c (by rw[Kn];exact hb))⟩;simp[Builtin.delete_,qX hT hu1,hgo,hck,g1 w,KF m2]
  ·cases hu
 ·cases hu
theorem nL{z:Nat}(hu:P.underlying tx=some dx)(hk:EW z dx=true):((∃e',P.underlying tx=some (.slice e'))\/P.underlying tx=some .string):=by cases dx<;>first|exact .inl ⟨_,hu⟩|exact .inr hu|cases hk
theorem DT(s:ByteArray):qF ρ μ w (byteCells s) (Go.byteCells s):=by
 unfold byteCells Go.byteCells;induction s.data.toList with
 |nil=>exact rels_nil
 |cons b r ih=>exact rels_cons (vN rfl) ih
theorem bV{z m:Nat}{v:Value}{new:List AV}(hT:TT.Sound P T)(hr:HR P ρ fl μ h w)(hd:und T tx=some dx)(hk:EW z dx=true)(hv:rel ρ μ w x v)
 (hl:lenA x=some m) (hs:Dk h z x=some new) (hn:new.length=m * z) (h1:new.all AV.one=true):
 ∃vs,qF ρ μ w new vs/\Src P z tx v m vs w:=by
 have hu:=Gk hT hd
 have hkind:=nL hu hk
 unfold Dk at hs
 split at hs
 ·obtain rfl:=jS hs;obtain rfl:=xF hv;simp only[lenA,jP]at hl;subst hl;exact⟨[],rels_nil,hkind,fun _=>rfl,run_firstCells_none w z 0 0 0,run_firstCells_none w.drew z 0 0 0,by simp,by simp⟩
 ·rename_i s;cases hz1:Nat.beq z 1 with
  |false=>rw[hz1]at hs;cases hs
  |true=>
  rw[hz1]at hs;obtain rfl:=jY hz1;obtain rfl:=jS hs;obtain rfl:=xF hv;simp only[lenA,jP]at hl;subst hl;refine⟨Go.byteCells s,DT s,hkind,fun _=>rfl,firstCells_string s w,firstCells_string s w.drew,by rw[byteCells_length,KP],fun u hu=> ?_⟩;obtain⟨_,_,rfl⟩:=List.mem_map.1 hu;rfl
 ·rename_i b off len cap;split at hs;case h_2=>cases hs
  rename_i l hg;simp only[lenA,jP]at hl;subst hl;rcases yP hv with⟨r,base,o',c,q1,rfl,q2,q3⟩|⟨rfl,rfl,ad,rfl⟩
  rotate_left
  ·unfold cut at hs;split at hs;case isFalse=>cases hs
   obtain rfl:=jS hs;simp only[Dr,qA];exact⟨[],rels_nil,hkind,fun _=>rfl,run_firstCells_some w z 0 ad 0 0 [] (by simp) (fun j u hu=>by simp at hu),run_firstCells_some w.drew z 0 ad 0 0 [] (by simp) (fun j u hu=>by simp at hu),by simp,by simp⟩
  obtain⟨cur,e,fz,k1,k2⟩:=Vb hr q1 hg;obtain⟨vs,k3,k4,k5,k6,k7⟩:=KY k2 hs;have hle:=(ZI q3).1;have hcell:∀j u,vs[j]? =some u->w.cell? ((⟨r,o',none⟩:Addr).add j)=some u:=fun j u hu=>by
   have hj:=(List.getElem?_eq_some_iff.1 hu).1;have:0<len:=by
    rcases j3I len with h0|h0
    ·subst h0;simp only[Dr]at k4;omega
    ·exact h0
   obtain rfl:o'=base+off:=q2.resolve_left (by omega);rw[Xd,qP k1];exact k7 j u hu
  exact⟨vs,k3,hkind,fun _=>rfl,run_firstCells_some w z len _ len c vs k4 hcell,run_firstCells_some w.drew z len _ len c vs k4 (by simpa using hcell),k4,VB k3 h1⟩
 ·cases hs
theorem Nm{l:List AV}{vs:List Value}{rest:Array Value}(hh:qF ρ μ w l vs):QB ρ μ w 0 l (vs.toArray++rest):=by refine⟨by simp;have:=vA hh;omega,fun i x hx=> ?_⟩;obtain⟨v,h1,h2⟩:=Zk hh hx;refine⟨v,?_,h2⟩;rw[yG,HY (by simpa using(List.getElem?_eq_some_iff.1 h1).1)];simpa using h1
theorem Dg(z:Array Value)(k:Nat):(Builtin.zeroCells z k).size=k * z.size:=by simp[Builtin.zeroCells]
theorem dK{n:Nat}(hT:TT.Sound P T)(hi:T e=some i)(hz:i.size<=200)(hby:n * i.bytes<=140737488355328)(hn:1<=n):WJ P e=false:=by
 obtain⟨info,z,g1,g2,g3,g4,g5⟩:=hT.info e i hi;unfold WJ;rw[g1,Bool.or_eq_false_iff];refine⟨?_,?_⟩
 ·rw[Nr];intro hb;have:=Nat.blt_eq.mp hb;simp at this;omega
 ·simp only[Kp,g4,g5,Jn];rw[Nr];intro hb;have h1:=g3.2 hb;have h2:=qW i.bytes hn;omega
theorem Gy{len c m:Nat}{base:Option Addr}{x:Value}{olds news:List AV}{ovs nvs:List Value}(hT:TT.Sound P T)(hr:HR P ρ fl μ h w)(hu:und T t=some (.slice e))(hi:T e=some i)
 (hzl:i.zero.cells.length=i.size) (hz0:0<i.size) (hbg:i.size<=200) (hlen:len+m<=4611686018427387904) (hby:(len+m) * i.bytes<=140737488355328) (hold:(Builtin.firstCells i.size len (.slice base len c)).run P w.drew= .ok ovs.toArray w.drew) (ho:qF ρ μ w olds ovs) (hol:ovs.length=len * i.size)
 (hn:qF ρ μ w news nvs) (hs:Src P i.size tx x m nvs w) (hc:c<len+m):
 TY P ρ fl μ h w (((Builtin.append_ #[t,tx] ty #[.slice base len c,x]).run P w).andThen fun v w'=> .ok (.value v) w') (.sl h.n 0 (len+m) (.un i.size)) (h.push (.cells (olds++news) e)):=by
 obtain⟨info,z,g1,g2,g3,g4,g5⟩:=hT.info e i hi
 have hbg':WJ P e=false:=dK hT hi hbg hby (by omega)
 have hzr:=Zb (yV (ρ:=ρ) (μ:=μ) (w:=w) g5)
 have hzs:=vA hzr
 rw[qU]at hzs
 have hmax:len+m<=maxLen:=by simp only[maxLen];omega
 rw[<-g2]at hold hs
 have hrun:=run_append_grow_src (P:=P) w t tx ty e info z (Gk hT hu) g1 g4 base len c ovs hold x m nvs hs hc (by simp only[maxLen]at hmax;omega) (growslice_fits hc (zY (Nat.mul_le_mul_left _ g3.1) hby))
 have hge:=grownCap_ge w (len+m) c e
 have hcm:=grownCap_le_maxLen w (len+m) c e hmax
 have e1:yD P ρ fl μ h w μ h w.drew:=yD.drew hr 1
 have e2:=yD.alloc e1.hr (ab:= .cells (olds++news) e) (o:= .cells ((ovs++nvs).toArray++Builtin.zeroCells z.cells (grownCap w (len+m) c e-(len+m))) e) ⟨_,rfl,Nm (Xm (qF.mono (yZ.refl μ) e1.grows _ _ ho) (qF.mono (yZ.refl μ) e1.grows _ _ hn)),fun hb=>by rw[hbg']at hb;cases hb⟩
 refine⟨_,_,_,.inl (by rw[hrun];rfl),e1.trans hr e2,?_⟩
 unfold rel
 refine .inl ⟨w.heap.size,0,0,_,Jb _ _ _,rfl,.inr rfl,hge,hcm,hz0,?_⟩
 refine⟨_,_,_,Jp w.drew _,?_⟩
 have hnl:=hs.newsLen
 rw[g2]at hnl
 simp only[Array.size_append,Dq,jQ,Dg,hzs,hzl,hol,hnl]
 rw[<-Da,<-Da,yG]
 exact qW _ (by omega)
theorem MQ{s:AV}{rs rx:Value}(hT:TT.Sound P T)(hr:HR P ρ fl μ h w)(hs:rel ρ μ w s rs)(hx:rel ρ μ w x rx)(ha:vZ T h t tx s x=some (a,h')):
 TY P ρ fl μ h w (((Builtin.append_ #[t,tx] ty #[rs,rx]).run P w).andThen fun v w'=> .ok (.value v) w') a h':=by
 unfold vZ at ha
 split at ha
 case h_2=>cases ha
 rename_i e dx hu hdx
 split at ha
 case h_2=>cases ha
 rename_i i m k hi hm hk
 generalize hc:(EW i.size dx&&Nat.blt 0 i.size&&Nat.ble i.size 200&&Nat.beq i.zero.cells.length i.size&&Nat.ble (k+m) 4611686018427387904&&Nat.ble ((k+m) * i.bytes) 140737488355328)=cb at ha
 cases cb with
 |false=>cases ha
 |true=>
 simp only[jW]at hc
 obtain⟨⟨⟨⟨⟨c1,c2⟩,c6⟩,c3⟩,c4⟩,c5⟩:=hc
 have c6:=Nat.ble_eq.mp c6
 have c2:=Nat.blt_eq.mp c2
 have c3:=jY c3
 have c4:=Nat.ble_eq.mp c4
 have c5:=Nat.ble_eq.mp c5
 simp only[cond_true]at ha
 split at ha
 case h_2=>cases ha
 rename_i new hnew
 generalize hc:(Nat.beq new.length (m * i.size)&&new.all AV.one)=cb at ha
 cases cb with
 |false=>cases ha
 |true=>
 simp only[jW]at hc
 have d1:=jY hc.1
 simp only[cond_true]at ha
 obtain⟨vs,v1,v2⟩:=bV (P:=P) (tx:=tx) hT hr hdx c1 hx hm hnew d1 hc.2
 obtain⟨info,z,g1,g2,g3,g4,g5⟩:=hT.info e i hi
 unfold Qp at ha
 split at ha
 ·obtain rfl:=xF hs;simp only[lenA,jP]at hk;subst hk;cases hm0:Nat.beq m 0 with
  |true=>
   rw[hm0]at ha;simp only[cond_true,jP,jV]at ha;obtain⟨rfl,rfl⟩:=ha;obtain rfl:=jY hm0;refine xL hr ?_ hs;have hs2:=v2;rw[<-g2]at hs2;rcases v2.kind with⟨e',hkk⟩|hkk<;>simp[Builtin.append_,qX hT hu,run_underlying hkk,sizeOf,typeInfo,g1,hs2.len,hs2.cells]
  |false=>
   rw[hm0]at ha;simp only[cond_false,jP,jV]at ha;obtain⟨rfl,rfl⟩:=ha;have hmp:m≠0:=fun hh=>by subst hh;simp at hm0
   have:=Gy (ty:=ty) (c:=0) (base:=none) (olds:=[]) (ovs:=[]) hT hr hu hi c3 c2 c6 c4 c5 (run_firstCells_none w.drew i.size 0 0 0) rels_nil (by simp) v1 v2 (by omega);simpa using this
 ·rename_i b off len cap;rcases yP hs with⟨r,base,o',c,q1,rfl,q2,q3⟩|⟨rfl,rfl,ad,rfl⟩
  rotate_left
  ·simp only[lenA,jP]at hk;subst hk;cases hm0:Nat.beq m 0 with
   |true=>
    rw[hm0]at ha;simp only[cond_true,jP,jV]at ha;obtain⟨rfl,rfl⟩:=ha;obtain rfl:=jY hm0;have hnil:vs=[]:=zO (by rw[vA v1,d1];simp);refine xL hr ?_ hs;have hs2:=v2;rw[<-g2]at hs2;rcases v2.kind with⟨e',hkk⟩|hkk<;>simp[Builtin.append_,qX hT hu,run_underlying hkk,sizeOf,typeInfo,g1,hs2.len,hs2.cells,hnil,storeCells,Addr.add]
   |false=>
    have hmp:m≠0:=fun hh=>by subst hh;simp at hm0
    have hb0:Nat.ble (0+m) 0=false:=Bool.eq_false_iff.mpr fun hh=>by have:=Nat.ble_eq.mp hh;omega
    rw[hm0]at ha;simp only[cond_false,hb0]at ha;split at ha;case h_2=>cases ha
    rename_i l hgR;split at ha;case h_2=>cases ha
    rename_i old hcut;unfold cut at hcut;split at hcut;case isFalse=>cases hcut
    obtain rfl:=jS hcut;simp only[Dr,qA,jP,jV]at ha;obtain⟨rfl,rfl⟩:=ha;exact Gy (ty:=ty) (c:=0) (base:=some ad) (olds:=[]) (ovs:=[]) hT hr hu hi c3 c2 c6 c4 c5 (run_firstCells_some w.drew i.size 0 ad 0 0 [] (by simp) (fun j u hu=>by simp at hu)) rels_nil (by simp) v1 v2 (by omega)
  simp only[lenA,jP]at hk;subst hk;have hle:=ZI q3;cases hm0:Nat.beq m 0 with
  |true=>
   rw[hm0]at ha;simp only[cond_true,jP,jV]at ha;obtain⟨rfl,rfl⟩:=ha;obtain rfl:=jY hm0;have hnil:vs=[]:=zO (by rw[vA v1,d1];simp);subst hnil;have hs2:=v2;rw[<-g2]at hs2;refine xL hr ?_ hs;rw[run_append_room_src (P:=P) w t tx ty e info (Gk hT hu) g1 r o' len c rx 0 [] hs2 (by omega) (fun j hj=>by simp at hj) (fun j hj=>by simp at hj)];rfl
  |false=>
   rw[hm0]at ha
   have hmp:m≠0:=fun hh=>by subst hh;simp at hm0
   simp only[cond_false]at ha
   have hvl:=vA v1
   have oldR:∀l old,Zj h b=some l->cut l off (len * i.size)=some old->∃ovs,qF ρ μ w old ovs/\ovs.length=len * i.size/\(∀j u,ovs[j]? =some u->w.cell? ((⟨r,o',none⟩:Addr).add j)=some u)/\(Builtin.firstCells i.size len (.slice (some ⟨r,o',none⟩) len c)).run P w.drew= .ok ovs.toArray w.drew:=fun l old hgR hcut=>by
    obtain⟨cur,e0,fz0,k1,k2⟩:=Vb hr q1 hgR;obtain⟨ovs,p1,p2,p3,p4,p5⟩:=KY k2 hcut;have hcell:∀j u,ovs[j]? =some u->w.cell? ((⟨r,o',none⟩:Addr).add j)=some u:=fun j u hj=>by
     have hjl:=(List.getElem?_eq_some_iff.1 hj).1;have:0<len:=by
      rcases j3I len with h0|h0
      ·subst h0;simp only[Dr]at p2;omega
      ·exact h0
     obtain rfl:o'=base+off:=q2.resolve_left (by omega);rw[Xd,qP k1];exact p5 j u hj
    exact⟨ovs,p1,p2,hcell,run_firstCells_some (P:=P) w.drew i.size len _ len c ovs p2 (by simpa using hcell)⟩
   cases cap with
   |un z'=>
    simp only at ha
    split at ha
    case h_2=>cases ha
    rename_i l e' hg
    obtain⟨cur,k1,k2,_⟩:=Xr hr q1 hg
    split at ha
    case h_2=>cases ha
    rename_i old hcut
    generalize hcc:(Nat.beq i.size z'&&Nat.beq e e')=cb at ha
    cases cb with
    |false=>cases ha
    |true=>
    simp only[jW]at hcc
    obtain rfl:=jY hcc.1
    obtain rfl:=jY hcc.2
    simp only[cond_true,jP,jV]at ha
    obtain⟨rfl,rfl⟩:=ha
    obtain⟨ovs,p1,p2,p3,p4⟩:=oldR l old (BG hg).2 hcut
    have hx0:=(BG hg).1
    by_cases hroom:len+m<=c
    ·obtain rfl:o'=base+off:=q2.resolve_left (by omega);obtain⟨_,_,z0,cur2,e2,fz2,y1,y2⟩:=q3;rw[k1]at y1;obtain⟨rfl,rfl,rfl⟩:=Obj.cells.inj (jS y1);have hsz:(len+m) * i.size<=c * i.size:=qW _ hroom;rw[Da]at hsz;have hfit:base+off+len * i.size+vs.length<=cur.size:=by omega
     have hone:=Qt k1 (base+off+len * i.size) vs hfit;obtain⟨cur',t1,t2,t3⟩:=Zp vs (base+off+len * i.size) w cur k1 hfit;have hs2:=v2;rw[<-g2]at hs2
     have hrun:=run_append_room_src (P:=P) w t tx ty e info (Gk hT hu) g1 r (base+off) len c rx m vs hs2 hroom
      (by rw[g2];intro j hj;rw[qP k1,Jd (by omega)];rfl) (by intro j hj;exact yC k1)
     rw[g2]at hrun;have heff:=yD.move (base':=base+off) (ab':= .cells (old++new) e) hr q1 hx0 rfl hone t1 ⟨cur',rfl,⟨by
      rw[jQ,d1,<-vA p1,p2,t2];omega,fun j x hj=>by
      rw[t3];have hol:=vA p1;by_cases hjo:j<old.length
      ·rw[jZ hjo]at hj;rw[if_neg (by omega)];obtain⟨v,w1,w2⟩:=Zk p1 hj;refine⟨v,?_,rel.mono (yZ.refl μ) hone.grows _ _ w2⟩;have:=p3 j v w1;rw[Xd,qP k1]at this;exact this
      ·rw[zQ (by omega)]at hj;obtain⟨v,w1,w2⟩:=Zk v1 hj;have hlt:=(List.getElem?_eq_some_iff.1 w1).1;refine⟨v,?_,rel.mono (yZ.refl μ) hone.grows _ _ w2⟩;rw[if_pos (by omega),<-w1];congr 1;omega⟩,fun hb=>by rw[dK hT hi c6 c5 (by omega)]at hb;cases hb⟩
     refine⟨_,_,.slice (some ⟨r,base+off,none⟩) (len+m) c,.inl (by rw[hrun];rfl),heff,?_⟩;unfold rel;exact .inl ⟨r,base+off,base+off,c,Jb _ _ _,rfl,.inr rfl,hroom,by omega,z0,cur',_,_,t1,by omega⟩
    ·have heff:yD P ρ fl μ h w μ (h.put b .gone) w:=yD.upd hr q1 hx0 rfl ⟨rfl,fun _ _=>rfl,Jt.refl w,⟨rfl,rfl,rfl⟩⟩ k1 trivial;have:=Gy (ty:=ty) hT heff.hr hu hi c3 c2 c6 c4 c5 p4 p1 p2 v1 v2 (by omega);rw[kZ]at this;obtain⟨μ',w',v',u1,u2,u3⟩:=this;exact⟨μ',w',v',u1,heff.trans hr u2,u3⟩
   |kn kc=>
    simp only at ha
    obtain⟨rfl,_,_⟩:=q3
    cases hroom:Nat.ble (len+m) c with
    |true=>
     rw[hroom]at ha;simp only[cond_true]at ha;split at ha;case h_2=>cases ha
     rename_i l e' hg;obtain⟨cur,k1,k2,_⟩:=Xr hr q1 hg;simp only[jT,jV]at ha;obtain⟨l',hput,rfl,rfl⟩:=ha;have hroom:=Nat.ble_eq.mp hroom;obtain rfl:o'=base+off:=q2.resolve_left (by omega);obtain⟨f1,f2,f3⟩:=KG hr q1 hg hput v1;have hs2:=v2;rw[<-g2]at hs2;have hrun:=run_append_room_src (P:=P) w t tx ty e info (Gk hT hu) g1 r (base+off) len c rx m vs hs2 hroom (by rw[g2];simpa [vI]using f2) (by rw[g2];simpa [vI]using f3);refine⟨μ,_,.slice (some ⟨r,base+off,none⟩) (len+m) c,.inl (by rw[hrun,g2];simp[vI]),f1,?_⟩;unfold rel;exact .inl ⟨r,base,base+off,c,q1,rfl,.inr rfl,rfl,hroom,by omega⟩
    |false=>
     rw[hroom]at ha;simp only[cond_false]at ha;split at ha;case h_2=>cases ha
     rename_i l hgR;split at ha;case h_2=>cases ha
     rename_i old hcut;simp only[jP,jV]at ha;obtain⟨rfl,rfl⟩:=ha;have hroom:¬(len+m<=c):=fun hh=>by rw[Nat.ble_eq.mpr hh]at hroom;cases hroom
     obtain⟨ovs,p1,p2,p3,p4⟩:=oldR l old hgR hcut;exact Gy (ty:=ty) hT hr hu hi c3 c2 c6 c4 c5 p4 p1 p2 v1 v2 (by omega)
 ·cases ha
end
variable{c:Call}
section
open Go Go.RowKit
variable {P:Program} {T:TT} {ρ:Nat->Value} {fl:Nat} {μ:Mu} {h:AH} {w:World} {tmps:TM} {ev:Operand->Value} {o:Oper} {n:AN} {h':AH}
theorem bU{z m k:Nat}{v:Value}{new:List AV}(hr:HR P ρ fl μ h w)(hv:rel ρ μ w x v)(hl:lenA x=some m)(hs:Dk h z x=some new)(hn:new.length=m * z)(hk:k<=m):
 ∃vs,qF ρ μ w new vs/\(Builtin.lenOf v).run P w= .ok m w/\(Builtin.firstCells z k v).run P w= .ok (vs.take (k * z)).toArray w:=by
 unfold Dk at hs
 split at hs
 ·obtain rfl:=jS hs;obtain rfl:=xF hv;simp only[lenA,jP]at hl;subst hl;obtain rfl:k=0:=by omega
  exact⟨[],rels_nil,rfl,by simpa using run_firstCells_none (P:=P) w z 0 0 0⟩
 ·rename_i s;cases hz1:Nat.beq z 1 with
  |false=>rw[hz1]at hs;cases hs
  |true=>
  rw[hz1]at hs;obtain rfl:=jY hz1;obtain rfl:=jS hs;obtain rfl:=xF hv;simp only[lenA,jP]at hl;subst hl;refine⟨Go.byteCells s,DT s,rfl,?_⟩;simp only[Builtin.firstCells,KW,KP];congr 1;apply Array.ext';simp[Go.byteCells,ByteArray.data_extract]
 ·rename_i b off len cap;split at hs;case h_2=>cases hs
  rename_i l hg;simp only[lenA,jP]at hl;subst hl;rcases yP hv with⟨r,base,o',c,q1,rfl,q2,q3⟩|⟨rfl,rfl,ad,rfl⟩
  rotate_left
  ·unfold cut at hs;split at hs;case isFalse=>cases hs
   obtain rfl:=jS hs;obtain rfl:k=0:=by omega
   simp only[Dr,qA];exact⟨[],rels_nil,rfl,by simpa using run_firstCells_some (P:=P) w z 0 ad 0 0 [] (by simp) (fun j u hu=>by simp at hu)⟩
  obtain⟨cur,e,fz,k1,k2⟩:=Vb hr q1 hg;obtain⟨vs,k3,k4,k5,k6,k7⟩:=KY k2 hs;have hle:=(ZI q3).1;have hcell:∀j u,(vs.take (k * z))[j]? =some u->w.cell? ((⟨r,o',none⟩:Addr).add j)=some u:=fun j u hu=>by
   rw[qH]at hu;split at hu;case isFalse=>cases hu
   have hj:=(List.getElem?_eq_some_iff.1 hu).1;have:0<len:=by
    rcases j3I len with h0|h0
    ·subst h0;simp only[Dr]at k4;omega
    ·exact h0
   obtain rfl:o'=base+off:=q2.resolve_left (by omega);rw[Xd,qP k1];exact k7 j u hu
  have hkz:k * z<=len * z:=qW _ hk;refine⟨vs,k3,rfl,?_⟩;have:=run_firstCells_some (P:=P) w z k (⟨r,o',none⟩:Addr) len c (vs.take (k * z)) (by rw[zV];omega) hcell;exact this
 ·cases hs
theorem RV{d:AV}{rd rx:Value}(hT:TT.Sound P T)(hr:HR P ρ fl μ h w)(hd:rel ρ μ w d rd)(hx:rel ρ μ w x rx)(ha:sP T h t d x=some (a,h')):
 TY P ρ fl μ h w (((Builtin.copy_ (t::l).toArray ty #[rd,rx]).run P w).andThen fun v w'=> .ok (.value v) w') a h':=by
 unfold sP at ha
 split at ha
 case h_2=>cases ha
 rename_i e hu
 split at ha
 case h_2=>cases ha
 rename_i z n m hz hn hm
 split at ha
 case h_2=>cases ha
 rename_i cs hcs
 generalize hc:(Nat.beq cs.length (m * z)&&cs.all AV.one)=cb at ha
 cases cb with
 |false=>cases ha
 |true=>
 simp only[jW]at hc
 have d1:=jY hc.1
 simp only[cond_true]at ha
 obtain⟨vs,v1,v2,v3⟩:=bU (P:=P) (k:=Nat.min m n) hr hx hm hcs d1 (Nat.min_le_left _ _)
 unfold j3r at ha
 split at ha
 ·rename_i b off len cap;simp only[lenA,jP]at hn;subst hn;cases hnul:SD len cap with
  |true=>
   rw[hnul]at ha;simp only[cond_true,jP,jV]at ha;obtain⟨rfl,rfl⟩:=ha;have⟨hl0,ad,hrd⟩:len=0/\∃ad,rd= .slice (some ad) 0 0:=by
    cases cap with
    |un zc=>cases hnul
    |kn kc=>
     simp only[SD,jW]at hnul;have hl0:=jY hnul.1;have hc0:=jY hnul.2;refine⟨hl0,?_⟩;rcases yP hd with⟨r,base,o',c,q1,rfl,q2,q3⟩|⟨_,_,ad,rfl⟩
     ·obtain⟨rfl,_,_⟩:=q3;exact⟨⟨r,o',none⟩,by rw[hl0,hc0]⟩
     ·exact⟨ad,rfl⟩
   subst hl0 hrd;refine xL hr (v':= .int .i64 0) ?_ (vN rfl);have h0:Nat.min m 0=0:=Nat.min_zero m;rw[h0]at v3;simp[Builtin.copy_,qX hT hu,v2,JD hT hz,v3,goInt,storeCells]
  |false=>
  rw[hnul]at ha;simp only[cond_false]at ha;split at ha;case h_2=>cases ha
  rename_i l0 e' hg;simp only[jT,jV]at ha;obtain⟨l',hput,rfl,rfl⟩:=ha;rcases yP hd with⟨r,base,o',c,q1,rfl,q2,q3⟩|⟨rfl,rfl,_⟩
  rotate_left
  ·cases hnul
  have hle:=(ZI q3).1;obtain⟨f1,f2,f3⟩:=KG hr q1 hg hput (AC _ v1);have hst:(storeCells ⟨r,o',none⟩ (vs.take (Nat.min m len * z))).run P w= .ok () (w.setCells r (base+off) (vs.take (Nat.min m len * z))):=by
   rcases q2 with h0|rfl
   ·have:Nat.min m len=0:=by
     have:=Nat.min_le_right m len
     have h2:Nat.min m len<=len:=this
     omega
    rw[this]
    simp[storeCells,World.setCells]
   ·have:=run_storeCells_cells (P:=P) r (base+off) (vs.take (Nat.min m len * z)) 0 w (by simpa using f2) (by simpa using f3) (fun v hv=>VB v1 hc.2 v (ZY hv));simpa using this
  refine⟨μ,_,.int .i64 (Nat.min m len:Nat),.inl ?_,f1,vN rfl⟩;simp[Builtin.copy_,qX hT hu,v2,JD hT hz,v3,hst,goInt]
 ·simp only[lenA,jP]at hn;subst hn;simp only[jP,jV]at ha;obtain⟨rfl,rfl⟩:=ha;obtain rfl:=xF hd;refine xL hr (v':= .int .i64 0) ?_ (vN rfl);have h0:Nat.min m 0=0:=Nat.min_zero m;rw[h0]at v3;simp[Builtin.copy_,qX hT hu,v2,JD hT hz,v3,goInt]
 ·cases ha
theorem OU{rx:Value}(hT:TT.Sound P T)(hr:HR P ρ fl μ h w)(hx:rel ρ μ w x rx)(ha:WL T h t x=some h'):
 ∃w',(Builtin.clear_ (t::l).toArray ty #[rx]).run P w= .ok (.tuple #[]) w'/\yD P ρ fl μ h w μ h' w':=by
 unfold WL at ha
 split at ha
 case h_2=>cases ha
 rename_i e hu
 split at ha
 ·rename_i b off len cap;cases h0:Nat.beq len 0 with
  |true=>
   rw[h0]at ha;cases ha;obtain rfl:=jY h0;refine⟨w,?_,yD.refl hr⟩;rcases yP hx with⟨r,base,o',c,q1,rfl,q2,q3⟩|⟨_,_,ad,rfl⟩<;>simp[Builtin.clear_,qX hT hu]
  |false=>
  rw[h0]at ha;simp only[cond_false]at ha;split at ha;case h_2=>cases ha
  rename_i i l0 e' hi hg;cases ho:(Mf i.zero.cells len).all AV.one with
  |false=>rw[ho]at ha;cases ha
  |true=>
  rw[ho]at ha;simp only[cond_true,jT]at ha;obtain⟨l',hput,rfl⟩:=ha;have hl0:len≠0:=fun hh=>by subst hh;cases h0
  rcases yP hx with⟨r,base,o',c,q1,rfl,q2,q3⟩|⟨hh,_⟩
  rotate_left
  ·exact absurd hh hl0
  have hle:=(ZI q3).1;obtain rfl:o'=base+off:=q2.resolve_left (by omega);obtain⟨z,hz1,hz2⟩:=QO (P:=P) hT (t:=e) (z:=i.zero) (by simp[Jm,hi]) w;have hzr:=Zb (yV (ρ:=ρ) (μ:=μ) (w:=w) hz2);have hlen:=vA hzr;rw[qU]at hlen;have hrow:=DU hzr len;rw[<-hlen]at hrow;obtain⟨f1,f2,f3⟩:=KG hr q1 hg hput hrow;have hst:=run_storeCells_cells (P:=P) r (base+off) _ 0 w (by simpa using f2) (by simpa using f3) (VB hrow ho);refine⟨_,?_,f1⟩;obtain⟨k,rfl⟩:∃k,len=k+1:=⟨len-1,by omega⟩;simp only[JH]at hst;simp only[Builtin.clear_,List.getElem?_toArray,xW,xU,qX hT hu,hz1,Builtin.zeroCells,Result.andThen];rw[hst];rfl
 ·cases ha;obtain rfl:=xF hx;exact⟨w,by simp[Builtin.clear_,qX hT hu],yD.refl hr⟩
 ·cases ha
theorem aR{name:String}(hm:Pv P t name=some f)(v:Value)(k:Nat)(w:World):(method (k+1) t v name).run P w= .ok (f,v) w:=by
 unfold Pv at hm;split at hm;case h_2=>cases hm
 rename_i i hi;split at hm;case h_2=>cases hm
 rename_i m hfind;cases hp:m.path.isEmpty with
 |false=>rw[hp]at hm;cases hm
 |true=>
  rw[hp]at hm;have hpath:m.path.toList=[]:=by simpa [Array.isEmpty_iff]using hp
  simp only[cond_true]at hm;split at hm
  ·rename_i g d hg hd;obtain rfl:=jS hm;simp[method,typeInfo,hi,hfind,hpath,follow,hg,receiverAt,run_underlying hd,Place.get]
  ·cases hm
  ·rename_i g d hnp hg hd;obtain rfl:=jS hm;have hr:∀wr,(receiverAt t (.val v) false wr).run P w= .ok v w:=fun wr=>by unfold receiverAt;rw[xU,run_underlying hd];simp only[xT];cases d<;>first|rfl|(exact absurd rfl (hnp _ _ rfl))
   simp[method,typeInfo,hi,hfind,hpath,follow,hg,hr]
  ·cases hm
def j4j(P:Program)(ρ:Nat->Value)(μ:Mu)(w:World)(d:Deferred):AN->Prop
 | .enter g a=>∃a',qF ρ μ w a a'/\∀w',(invoke d.target d.args).run P w'=(callFunc g a'.toArray).run P w'
 | .round l a=>∃rl a',μ l=some (rl,0)/\qF ρ μ w a a'/\∀w',(invoke d.target d.args).run P w'=(Instr.yield rl a'.toArray).run P w'
 |_=>False
theorem Ub{f:AV}{fv:Value}{ys:List AV}{args:List Value}{an:AN}(hf:rel ρ μ w f fv)(hargs:qF ρ μ w ys args)(hc:UT P f ys=some an):
 ∃d,(∀w',(Deferred.ofValue fv args.toArray).run P w'= .ok d w')/\(∃fn c,d.target= .fn fn c)/\j4j P ρ μ w d an:=by
 unfold UT at hc
 split at hc
 ·obtain rfl:=jS hc;rename_i g first caps
  unfold rel at hf;obtain⟨f',a,b,rfl,h1,h2,h3⟩:=hf;simp only[IN]at h1;subst h1;refine⟨{target:= .fn (.func g) b.toArray,args:=a.toArray++args.toArray},fun w'=>rfl,⟨_,_,rfl⟩,a++args++b,Xm (Xm h2 hargs) h3,fun w'=> ?_⟩;simp[invoke]
 ·obtain rfl:=jS hc;rename_i l;unfold rel at hf;obtain⟨f',a,b,rfl,⟨rl,h0,rfl⟩,h2,h3⟩:=hf;obtain rfl:=xM h2;obtain rfl:=xM h3;exact⟨{target:= .fn (.yield rl) #[],args:= #[]++args.toArray},fun w'=>rfl,⟨_,_,rfl⟩,rl,args,h0,hargs,fun w'=>by simp[invoke]⟩
 ·rename_i name t v;simp only[jT]at hc;obtain⟨g,hm,rfl⟩:=hc;unfold rel at hf;obtain⟨f',a,b,rfl,h1,h2,h3⟩:=hf;simp only[IN]at h1;subst h1;obtain⟨x,xs,rfl,h4,h5⟩:=xB h2;obtain rfl:=xM h5;obtain rfl:=xM h3;obtain⟨u,rfl,hu⟩:=Kf h4;refine⟨{target:= .fn (.method name) #[],args:= #[.iface t u]++args.toArray},fun w'=>rfl,⟨_,_,rfl⟩,u::args,rels_cons hu hargs,fun w'=> ?_⟩;obtain⟨k,hk⟩:∃k,P.types.size+Made.depth=k+1:=⟨P.types.size+99,by simp[Made.depth]⟩;simp[invoke,callMethod,hk,aR hm]
 ·cases hc
theorem SC(r:Value)(name:String)(args:Array Value):(Deferred.ofValue (.func (.method name) #[r] #[]) args)=(pure {target:= .fn (.method name) #[],args:= #[r]++args}:Sem Deferred):=rfl
theorem j2A(hT:TT.Sound P T)(hr:HR P ρ fl μ h w)(he:ZV ρ μ w tmps ev)(ho:o.op= .call c)(ha:Qd P T o tmps h c=some (n,h')):
 ZX P ρ fl μ h w ((execOp ev o).run P w) n h':=by
 unfold Qd at ha
 split at ha
 ·rename_i b hb;obtain⟨cs,hexec⟩:∃cs,∀w',(execOp ev o).run P w'=(builtin b c.argTypes o.type cs (c.args.map ev)).run P w':=⟨_,fun w'=>by simp only[execOp,ho,resolve,hb,invoke,xU,KW,xT];rfl⟩;unfold Zt at ha;split at ha
  ·rename_i s x t tx hargs htypes;simp only[jT,jV]at ha;obtain⟨⟨a,hh⟩,h1,rfl,rfl⟩:=ha;obtain⟨v1,l1,e1,r1,r2⟩:=xB (JF he hargs);obtain⟨v2,l2,rfl,r3,r4⟩:=xB r2;obtain rfl:=xM r4;have hty:c.argTypes= #[t,tx]:=by rw[<-Ym (xs:=c.argTypes),htypes]
   have:=MQ (ty:=o.type) (P:=P) hT hr r1 r3 h1;rw[hexec,Kt,e1,hty];simpa [builtin,ZX]using this
  ·rename_i s x t rest hargs htypes;simp only[jT,jV]at ha;obtain⟨⟨a,hh⟩,h1,rfl,rfl⟩:=ha;obtain⟨v1,l1,e1,r1,r2⟩:=xB (JF he hargs);obtain⟨v2,l2,rfl,r3,r4⟩:=xB r2;obtain rfl:=xM r4;have hty:c.argTypes=(t::rest).toArray:=by rw[<-Ym (xs:=c.argTypes),htypes]
   have:=RV (ty:=o.type) (P:=P) (l:=rest) hT hr r1 r3 h1;rw[hexec,Kt,e1,hty];simpa [builtin,ZX]using this
  ·rename_i m k t rest hargs htypes;simp only[jT,jV]at ha;obtain⟨hh,h1,rfl,rfl⟩:=ha;obtain⟨v1,l1,e1,r1,r2⟩:=xB (JF he hargs);obtain⟨v2,l2,rfl,r3,r4⟩:=xB r2;obtain rfl:=xM r4;have hty:c.argTypes=(t::rest).toArray:=by rw[<-Ym (xs:=c.argTypes),htypes]
   obtain⟨w',q1,q2⟩:=MU (ty:=o.type) (P:=P) (l:=rest) hT hr r1 r3 h1;refine⟨μ,w',.tuple #[],.inl ?_,q2,by unfold rel;exact⟨[],rfl,rels_nil⟩⟩;rw[hexec,Kt,e1,hty];simp only[builtin,xU];rw[q1];rfl
  ·rename_i x t rest hargs htypes;simp only[jT,jV]at ha;obtain⟨hh,h1,rfl,rfl⟩:=ha;obtain⟨v1,l1,e1,r1,r2⟩:=xB (JF he hargs);obtain rfl:=xM r2;have hty:c.argTypes=(t::rest).toArray:=by rw[<-Ym (xs:=c.argTypes),htypes]
   obtain⟨w',q1,q2⟩:=OU (ty:=o.type) (P:=P) (l:=rest) hT hr r1 h1;refine⟨μ,w',.tuple #[],.inl ?_,q2,by unfold rel;exact⟨[],rfl,rels_nil⟩⟩;rw[hexec,Kt,e1,hty];simp only[builtin,xU];rw[q1];rfl
  ·rename_i b1 off len cap t rest hargs htypes;split at ha;case h_2=>cases ha
   rename_i e hu;simp only[jP,jV]at ha;obtain⟨rfl,rfl⟩:=ha;obtain⟨v1,l1,e1,r1,r2⟩:=xB (JF he hargs);obtain rfl:=xM r2;have hty:c.argTypes=(t::rest).toArray:=by rw[<-Ym (xs:=c.argTypes),htypes]
   refine xL hr (v':= .int .i64 len) ?_ (vN rfl);rw[hexec,Kt,e1,hty];rcases yP r1 with⟨r,base,o',cc,_,rfl,_⟩|⟨rfl,_,ad,rfl⟩<;>simp[builtin,Builtin.len_,qX hT hu,goInt]
  ·rename_i b1 t rest hargs htypes;split at ha;case h_2=>cases ha
   rename_i kt et es clock hu hb1;simp only[jP,jV]at ha;obtain⟨rfl,rfl⟩:=ha;obtain⟨v1,l1,e1,r1,r2⟩:=xB (JF he hargs);obtain rfl:=xM r2;obtain⟨r,res,m1,rfl,m2,m3⟩:=HF hr r1 hb1;have hty:c.argTypes=(t::rest).toArray:=by rw[<-Ym (xs:=c.argTypes),htypes]
   have hgo:(getObj r).run P w= .ok (.map res clock) w:=by simp[getObj,Sem.run,m2]
   have hlen:=DD m3;rw[qU]at hlen;refine xL hr (v':= .int .i64 es.length) ?_ (vN rfl);rw[hexec,Kt,e1,hty];simp[builtin,Builtin.len_,qX hT hu,hgo,goInt,hlen]
  ·simp only[jP,jV]at ha;obtain⟨rfl,rfl⟩:=ha;exact⟨rfl,by rw[hexec];rfl⟩
  ·exact Xl hr he ha fun hk=>by cases hk
 ·rename_i f hf;split at ha;case h_2=>cases ha
  rename_i fv ys hfv has;simp only[jT,jV]at ha;obtain⟨an,h1,rfl,rfl⟩:=ha;obtain⟨d,d1,d2,d3⟩:=Ub (he f _ hfv) (JF he has) h1;have hexec:(execOp ev o).run P w=(invoke d.target d.args).run P w:=by have:=d1 w;rw[<-Kt]at this;simp[execOp,ho,resolve,hf,this]
  rw[hexec];cases an with
  |enter g a=>obtain⟨a',a1,a2⟩:=d3;exact⟨rfl,a',a1,a2 w⟩
  |round l a=>obtain⟨rl,a',a0,a1,a2⟩:=d3;exact⟨rfl,rl,a',a0,a1,a2 w⟩
  |_=>exact d3.elim
 ·rename_i r name hf;split at ha;case h_2=>cases ha
  rename_i rv ys hrv has;simp only[jT,jV]at ha;obtain⟨an,h1,rfl,rfl⟩:=ha;have hrel:rel ρ μ w (.fn (.method name) [rv] []) (.func (.method name) #[ev r] #[]):=by unfold rel;exact⟨.method name,[ev r],[],rfl,rfl,rels_cons (he r _ hrv) rels_nil,rels_nil⟩
  obtain⟨d,d1,d2,d3⟩:=Ub hrel (JF he has) h1;have hexec:(execOp ev o).run P w=(invoke d.target d.args).run P w:=by have:=d1 w;rw[<-Kt,SC]at this;simp only[KW,Result.ok.injEq,and_true]at this;subst this;simp[execOp,ho,resolve,hf]
  rw[hexec];cases an with
  |enter g a=>obtain⟨a',a1,a2⟩:=d3;exact⟨rfl,a',a1,a2 w⟩
  |round l a=>obtain⟨rl,a',a0,a1,a2⟩:=d3;exact⟨rfl,rl,a',a0,a1,a2 w⟩
  |_=>exact d3.elim
theorem wA(hr:HR P ρ fl μ h w)(he:ZV ρ μ w tmps ev)(ho:o.op= .defer c)(ha:Il P tmps h c=some (n,h')):
 ZX P ρ fl μ h w ((execOp ev o).run P w) n h':=by
 unfold Il at ha
 split at ha
 case h_2=>cases ha
 rename_i f hf
 split at ha
 case h_2=>cases ha
 rename_i fv ys hfv has
 split at ha
 case h_2=>cases ha
 rename_i g a hc
 simp only[jP,jV]at ha
 obtain⟨rfl,rfl⟩:=ha
 obtain⟨d,d1,d2,a',a1,a2⟩:=Ub (he f _ hfv) (JF he has) hc
 refine⟨rfl,d,a',a1,?_,d2,a2⟩
 have:=d1 w
 rw[<-Kt]at this
 simp[execOp,ho,resolve,hf,this]
theorem wF{x:Operand}(hT:TT.Sound P T)(hr:HR P ρ fl μ h w)(he:ZV ρ μ w tmps ev)(ho:o.op= .range t x)(ha:Ip T tmps h t x=some (n,h')):
 ZX P ρ fl μ h w ((execOp ev o).run P w) n h':=by
 unfold Ip at ha
 split at ha
 ·rename_i kt et hu hx;simp only[jP,jV]at ha;obtain⟨rfl,rfl⟩:=ha;have e1:=xF (he x _ hx);have ef:=yD.alloc hr (ab:= .iter none 0 [] 0) (o:= .mapIter none 0 #[] 0) ⟨rfl,none,rfl,rfl⟩;refine⟨_,_,.pointer (some ⟨w.heap.size,0,none⟩),.inl ?_,ef,by unfold rel;exact⟨w.heap.size,0,Jb _ _ _,rfl⟩⟩;simp[execOp,ho,e1,Instr.range,qX hT hu]
 ·rename_i kt et b hu hx;split at ha;case h_2=>cases ha
  rename_i es clock hb;simp only[jP,jV]at ha;obtain⟨rfl,rfl⟩:=ha;obtain⟨r,res,m1,e1,m2,m3⟩:=HF hr (he x _ hx) hb;have hgo:(getObj r).run P w= .ok (.map res clock) w:=by simp[getObj,Sem.run,m2]
  have ef:=yD.alloc hr (ab:= .iter (some b) clock [] clock) (o:= .mapIter (some r) clock #[] clock) ⟨rfl,some r,rfl,r,m1,rfl⟩;refine⟨_,_,.pointer (some ⟨w.heap.size,0,none⟩),.inl ?_,ef,by unfold rel;exact⟨w.heap.size,0,Jb _ _ _,rfl⟩⟩;simp[execOp,ho,e1,Instr.range,qX hT hu,hgo]
 ·rename_i s hu hx;simp only[jP,jV]at ha;obtain⟨rfl,rfl⟩:=ha;have e1:=xF (he x _ hx);have ef:=yD.alloc hr (ab:= .siter s 0) (o:= .stringIter s 0) ⟨rfl,rfl⟩;refine⟨_,_,.pointer (some ⟨w.heap.size,0,none⟩),.inl ?_,ef,by unfold rel;exact⟨w.heap.size,0,Jb _ _ _,rfl⟩⟩;simp[execOp,ho,e1,Instr.range,qX hT hu]
 ·cases ha
theorem tD{l:List MapEntry}(q:Nat->Bool)(hh:kK ρ μ w es l):l.all (fun e=>q e.born)=es.all (fun e=>q e.born):=by
 induction es generalizing l with
 |nil=>obtain rfl:l=[]:=hh;rfl
 |cons a r ih=>
  obtain⟨e,es',rfl,⟨_,_,_,h4⟩,h5⟩:=hh;rw[Oz,Oz,ih h5,h4]
theorem Sk{l:List MapEntry}(q:Nat->Bool)(hh:kK ρ μ w es l):kK ρ μ w (es.filter fun e=>q e.born) (l.filter fun e=>q e.born):=by
 induction es generalizing l with
 |nil=>obtain rfl:l=[]:=hh;exact rfl
 |cons a r ih=>
  obtain⟨e,es',rfl,⟨h1,h2,h3,h4⟩,h5⟩:=hh
  rw[List.filter_cons,List.filter_cons,h4]
  cases q a.born with
  |true=>exact⟨e,_,rfl,⟨h1,h2,h3,h4⟩,ih h5⟩
  |false=>exact ih h5
theorem j2o(a b:Nat):(a==b)=Nat.beq a b:=by
 cases h:Nat.beq a b with
 |true=>rw[jY h];simp
 |false=>simp;intro e;subst e;simp at h
theorem Oe{k:Value}(hk:lH k=true):rel ρ μ w (dI k) k:=by
 unfold lH at hk;unfold dI;split
 ·rename_i cs;unfold rel;refine⟨cs.toList,by simp,?_⟩;simp only[qG]at hk;revert hk
  generalize cs.toList=l;intro hk;induction l with
  |nil=>exact rels_nil
  |cons a r ih=>exact rels_cons (vN (hk a (by simp))) (ih fun x hx=>hk x (by simp[hx]))
 ·rename_i hn;refine vN ?_;revert hk
  cases k<;>first|exact id|exact absurd rfl (hn _)
theorem wB{x:Operand}(hr:HR P ρ fl μ h w)(he:ZV ρ μ w tmps ev)(ho:o.op= .entry x)(ha:Im tmps h x=some (n,h')):
 ZX P ρ fl μ h w ((execOp ev o).run P w) n h':=by
 unfold Im at ha
 split at ha
 case h_2=>cases ha
 rename_i b hx
 obtain⟨r,base,hb,e1⟩:=yN (he x _ hx)
 split at ha
 case h_2=>cases ha
 rename_i m since seen stepped hi
 obtain⟨_,_,ob,p1,rfl,m',rfl,rm,p2,rfl⟩:=hr.obj b r base _ hb hi
 split at ha
 case h_2=>cases ha
 rename_i es clock stamp hm hst
 obtain⟨_,_,om,p3,res,rfl,_,p4⟩:=hr.obj m rm 0 _ p2 hm
 cases hcl:Nat.beq clock stepped with
 |false=>rw[hcl]at ha;cases ha
 |true=>
 rw[hcl]at ha
 obtain rfl:=jY hcl
 simp only[cond_true]at ha
 split at ha
 case h_2=>cases ha
 rename_i ae hf
 simp only[jP,jV]at ha
 obtain⟨rfl,rfl⟩:=ha
 have hgo:(getObj r).run P w= .ok (.mapIter (some rm) since seen.toArray clock) w:=by simp[getObj,Sem.run,p1]
 have hgm:(getObj rm).run P w= .ok (.map res clock) w:=by simp[getObj,Sem.run,p3]
 have hfind:∀{es:List AE} {l:List MapEntry},kK ρ μ w es l->es.find? (fun e=>Nat.beq e.born stamp)=some ae->∃e,l.find? (fun e=>e.born==stamp)=some e/\Pa ρ μ w ae e:=by
  intro es;induction es with
  |nil=>intro l _ hf;cases hf
  |cons a r ih=>
   intro l hl hf
   obtain⟨e,es',rfl,h4,h5⟩:=hl
   rw[Gp]at hf ⊢
   rw[show(e.born==stamp)=Nat.beq a.born stamp by rw[h4.2.2.2,j2o]]
   cases hq:Nat.beq a.born stamp with
   |true=>rw[hq]at hf;obtain rfl:=jS hf;exact⟨e,rfl,h4⟩
   |false=>rw[hq]at hf;exact ih h5 hf
 obtain⟨e,f1,g1,g2,g3,g4⟩:=hfind p4 hf
 rw[Array.find?_toList]at f1
 refine xL hr (v':= .tuple #[e.key,e.val]) ?_ (by unfold rel;exact⟨[e.key,e.val],rfl,rels_cons (by rw[g1];exact Oe g2) (rels_cons g3 rels_nil)⟩)
 have hb2:seen.toArray.back?=some stamp:=by simp[hst]
 simp[execOp,ho,e1,Instr.entry,hgo,hgm,hb2,f1]
theorem j2C{x:Operand}{s:Bool}(hr:HR P ρ fl μ h w)(he:ZV ρ μ w tmps ev)(ho:o.op= .next x s)(ha:Rz tmps h x s=some (n,h')):
 ZX P ρ fl μ h w ((execOp ev o).run P w) n h':=by
 unfold Rz at ha
 split at ha
 case h_3=>cases ha
 case h_2=>
  rename_i b hx
  obtain⟨r,base,hb,e1⟩:=yN (he x _ hx)
  split at ha
  case h_2=>cases ha
  rename_i s pos hi
  obtain⟨_,_,ob,p1,rfl,rfl⟩:=hr.obj b r base _ hb hi
  have hgo:(getObj r).run P w= .ok (.stringIter s pos) w:=by simp[getObj,Sem.run,p1]
  cases hc:Nat.blt pos s.size with
  |false=>
   rw[hc]at ha;simp only[cond_false,jP,jV]at ha;obtain⟨rfl,rfl⟩:=ha;have hlt:¬pos<s.size:=fun hh=>by rw[Nat.blt_eq.mpr hh]at hc;cases hc
   refine xL hr (v':= .tuple #[.bool false]) ?_ (by unfold rel;exact⟨[.bool false],rfl,rels_cons (vN rfl) rels_nil⟩);simp[execOp,ho,e1,Instr.next,hgo,hlt]
  |true=>
   rw[hc]at ha;simp only[cond_true,jP,jV]at ha;obtain⟨rfl,rfl⟩:=ha;have hlt:pos<s.size:=Nat.blt_eq.mp hc;have hone:MJ r w {w with heap:=w.heap.setIfInBounds r (.stringIter s (pos+(Utf8.decode s pos).2))}:=by
    have hr0:r<w.heap.size:=VS p1;refine⟨by simp,fun k hk=>by simp[Ne.symm hk],fun k cur e' fz hk=> ?_,rfl,rfl,rfl⟩;by_cases hkr:k=r
    ·subst hkr;rw[p1]at hk;cases hk
    ·exact⟨cur,e',fz,by simp only[qZ,if_neg (Ne.symm hkr)];exact hk,rfl⟩
   have hset:(w.heap.setIfInBounds r (.stringIter s (pos+(Utf8.decode s pos).2)))[r]? =some (.stringIter s (pos+(Utf8.decode s pos).2)):=by simp[VS p1]
   have ef:=yD.upd (ab':= .siter s (pos+(Utf8.decode s pos).2)) hr hb hi rfl hone hset ⟨rfl,rfl⟩;refine⟨_,_,.tuple #[.bool true,.int .i64 pos,.int .i32 (Utf8.decode s pos).1],.inl ?_,ef,?_⟩
   ·simp[execOp,ho,e1,Instr.next,hgo,hlt,goInt,setObj,Sem.run,p1]
   ·unfold rel;exact⟨[.bool true,.int .i64 pos,.int .i32 (Utf8.decode s pos).1],rfl,rels_cons (vN rfl) (rels_cons (vN rfl) (rels_cons (vN rfl) rels_nil))⟩
 rename_i b hx
 obtain⟨r,base,hb,e1⟩:=yN (he x _ hx)
 split at ha
 case h_3=>cases ha
 ·rename_i si se la hi;obtain⟨_,_,ob,p1,rfl,m',rfl,rfl⟩:=hr.obj b r base _ hb hi;simp only[jP,jV]at ha;obtain⟨rfl,rfl⟩:=ha;have hgo:(getObj r).run P w= .ok (.mapIter none si se.toArray la) w:=by simp[getObj,Sem.run,p1]
  refine xL hr (v':= .tuple #[.bool false]) ?_ (by unfold rel;exact⟨[.bool false],rfl,rels_cons (vN rfl) rels_nil⟩);simp[execOp,ho,e1,Instr.next,hgo]
 ·rename_i m since seen last hi;obtain⟨_,_,ob,p1,rfl,m',rfl,rm,p2,rfl⟩:=hr.obj b r base _ hb hi;split at ha;case h_2=>cases ha
  rename_i es clock hm;obtain⟨_,_,om,p3,res,rfl,_,p4⟩:=hr.obj m rm 0 _ p2 hm;have hgo:(getObj r).run P w= .ok (.mapIter (some rm) since seen.toArray last) w:=by simp[getObj,Sem.run,p1]
  have hgm:(getObj rm).run P w= .ok (.map res clock) w:=by simp[getObj,Sem.run,p3]
  cases hc:(!seen.isEmpty&& !es.isEmpty&&es.all (fun e=>decide (e.born>=last)))with
  |true=>rw[hc]at ha;cases ha
  |false=>
  rw[hc]at ha;simp only[cond_false]at ha;have hlen:=DD p4;have hemp:res.isEmpty=es.isEmpty:=by
   rw[qU]at hlen;cases es with
   |nil=>simp at hlen;simp[hlen]
   |cons a r=>
    have:res.size≠0:=by rw[hlen];simp
    simp only[List.isEmpty_cons];exact Bool.eq_false_iff.mpr (fun hh=>this (by rw[Array.isEmpty_iff]at hh;rw[hh];rfl))
  have hall:(res.all fun e=>decide (e.born>=last))=es.all (fun e=>decide (e.born>=last)):=by rw[<-tD (fun k=>decide (k>=last)) p4];simp[Array.all_toList]
  have hcond:(!seen.toArray.isEmpty&& !res.isEmpty&&res.all (fun e=>decide (e.born>=last)))=false:=by rw[hemp,hall,<-hc];simp
  obtain⟨left,hleft⟩:∃left,(res.filter fun e=> !seen.toArray.contains e.born)=left:=⟨_,rfl⟩;have hfil:kK ρ μ w (es.filter fun e=> !seen.contains e.born) left.toList:=by
   have h1:=Sk (fun k=> !seen.contains k) p4;have h2:left.toList=res.toList.filter (fun e=> !seen.contains e.born):=by rw[<-hleft,Array.toList_filter];simp
   rw[h2];exact h1
  generalize hl2:(es.filter fun e=> !seen.contains e.born)=lf at ha hfil;have hcond':¬((!seen.toArray.isEmpty&& !res.isEmpty&&res.all (fun e=>decide (e.born>=last)))=true):=by rw[hcond];simp
  split at ha
  ·simp only[jP,jV]at ha;obtain⟨rfl,rfl⟩:=ha;have h0:left.toList=[]:=hfil;obtain rfl:left= #[]:=by apply Array.ext';rw[h0]
   refine xL hr (v':= .tuple #[.bool false]) ?_ (by unfold rel;exact⟨[.bool false],rfl,rels_cons (vN rfl) rels_nil⟩);simp only[execOp,ho,e1,yG,Instr.next,xU,hgo,xT,hgm,if_neg hcond',hleft];simp[Question.forced]
  ·rename_i ae;obtain⟨e,es',h0,⟨g1,g2,g3,g4⟩,h5⟩:=hfil;obtain rfl:es'=[]:=h5;obtain rfl:left= #[e]:=by apply Array.ext';rw[h0]
   cases hbs:Nat.blt ae.born since with
   |false=>rw[hbs]at ha;cases ha
   |true=>
   rw[hbs]at ha;simp only[cond_true,jP,jV]at ha;obtain⟨rfl,rfl⟩:=ha;have hlt:e.born<since:=by rw[g4];exact Nat.blt_eq.mp hbs
   have hone:MJ r w {w with heap:=w.heap.setIfInBounds r (.mapIter (some rm) since (seen.toArray.push e.born) clock)}:=by
    have hr0:r<w.heap.size:=VS p1;refine⟨by simp,fun k hk=>by simp[Ne.symm hk],fun k cur e' fz hk=> ?_,rfl,rfl,rfl⟩;by_cases hkr:k=r
    ·subst hkr;rw[p1]at hk;cases hk
    ·exact⟨cur,e',fz,by simp only[qZ,if_neg (Ne.symm hkr)];exact hk,rfl⟩
   have hset:(w.heap.setIfInBounds r (.mapIter (some rm) since (seen.toArray.push e.born) clock))[r]? =some (.mapIter (some rm) since (seen.toArray.push e.born) clock):=by simp[VS p1]
   have ef:=yD.upd (ab':= .iter (some m) since (seen++[ae.born]) clock) hr hb hi rfl hone hset ⟨rfl,some rm,by rw[g4];simp,rm,p2,rfl⟩;refine⟨_,_,.tuple #[.bool true,e.key,e.val],.inl ?_,ef,?_⟩
   ·simp only[execOp,ho,e1,yG,Instr.next,xU,hgo,xT,hgm,if_neg hcond',hleft];have hold:(#[e].filter fun x=>decide (x.born<since))= #[e]:=by simp[hlt]
    have hnew:(#[e].filter fun x=>decide (x.born>=since))= #[]:=by simp;omega
    simp only[hold,hnew];simp[Question.forced,setObj,Sem.run,p1]
   ·unfold rel;refine⟨[.bool true,e.key,e.val],rfl,rels_cons (vN rfl) (rels_cons ?_ (rels_cons (rel.mono ef.more ef.grows _ _ g3) rels_nil))⟩;rw[g1];exact Oe g2
  ·cases ha
theorem UR(hT:TT.Sound P T)(hr:HR P ρ fl μ h w)(he:ZV ρ μ w tmps ev)(ha:Js P T o tmps h=some (n,h')):ZX P ρ fl μ h w ((execOp ev o).run P w) n h':=by
 unfold Js at ha;split at ha;case h_1 x ho=>exact eL hr he (.inl ho) ha
 case h_2 x ho=>exact eL hr he (.inr ho) ha
 case h_3 c a b ho=>exact j2D hr he ho ha
 case h_4 t ho=>exact uY hT hr ho ha
 case h_5 t x ho=>exact j4Z hr he ho ha
 case h_6 t ps ho=>exact uZ hT hr he ho ha
 case h_7 t m ps ho=>exact Nb hT hr he ho ha
 case h_8 t a ho=>exact j2B hT hr he ho ha
 case h_9 t a x ho=>exact wH hT hr he ho ha
 case h_10 x ho=>exact SZ hr he ho ha
 case h_11 op t x y ty ho=>exact j4Y hT hr he ho ha
 case h_12 src dst x ho=>exact aU hT hr he ho ha
 case h_13 t x ho=>exact Fc hT hr he ho ha
 case h_14 f a b ho=>exact SY hr he ho ha
 case h_15 t ho=>
  simp only[jP,jV]at ha;obtain⟨rfl,rfl⟩:=ha;exact aW hr ho
 case h_16 t l c ho=>exact PE hT hr he ho ha
 case h_17 t x lo hi mx ho=>exact wG hT hr he ho ha
 case h_18 t x i ho=>exact Pz hT hr he ho ha
 case h_19 t x i ho=>exact wC hT hr he ho ha
 case h_20 t x ix ho=>exact PD hT hr he ho ha
 case h_21 t x ix ho=>exact wD hT hr he ho ha
 case h_22 t m k ok ho=>exact mF hT hr he ho ha
 case h_23 t m k x ho=>exact Oa hT hr he (.inl ho) ha
 case h_24 t m k x ho=>exact Oa hT hr he (.inr ho) ha
 case h_25 x i ho=>exact aV hr he ho ha
 case h_26 t x ho=>exact wF hT hr he ho ha
 case h_27 x s ho=>exact j2C hr he ho ha
 case h_28 x ho=>exact wB hr he ho ha
 case h_29 x xt t ok ho=>exact mD hT hr he ho ha
 case h_30 x ho=>exact wE hr he ho ha
 case h_31 c ho=>exact j2A hT hr he ho ha
 case h_32 c ho=>exact wA hr he ho ha
 case h_33 op t x ho=>exact j6z hr he ho ha
 case h_34=>cases ha
end
section
inductive RD where
 |load (t:TypeId) (b off:Nat)
 |look (t:TypeId) (m k:AV) (ok:Bool)
 |str (b off len:Nat)
 |mlen (b:Nat)
def oS(T:TT)(h:AH):RD->Option AV
 | .load t b off=>Jr T h t b off
 | .look t m k ok=>Vm T h t m k ok
 | .str b off len=>(JY h b off len).map fun bs=> .lit (.string ⟨bs.toArray⟩)
 | .mlen b=>match (h.at b)with
   |some (.map es _)=>some (.lit (.int .i64 es.length))
   |_=>none
def BR:Value->Value->Bool
 | .bool a,.bool b=>a==b
 | .int k a,.int k' b=>k==k'&&a==b
 | .string a,.string b=>a.data.toList==b.data.toList
 | .pointer none,.pointer none| .slice none 0 0,.slice none 0 0| .map none,.map none| .nilFunc,.nilFunc| .nilIface,.nilIface=>true
 |_,_=>false
def dM:Cap->Cap->Bool
 | .kn a,.kn b=>a==b
 | .un a,.un b=>a==b
 |_,_=>false
def j4u:Fn->Fn->Bool
 | .func a,.func b=>Nat.beq a b
 | .yield a,.yield b=>Nat.beq a b
 |_,_=>false
def AV.same:Nat->AV->AV->Bool
 |_,.lit a,.lit b=>BR a b
 |_,.ptr a i,.ptr b j=>a==b&&i==j
 |_,.sl a i n c,.sl b j m d=>a==b&&i==j&&n==m&&dM c d
 |_,.mp a,.mp b=>a==b
 |_,.ext a,.ext b=>a==b
 |n+1,.agg l,.agg m=>l.length==m.length&&(l.zip m).all fun(x,y)=>AV.same n x y
 |n+1,.tup l,.tup m=>l.length==m.length&&(l.zip m).all fun(x,y)=>AV.same n x y
 |n+1,.ifc t v,.ifc u w=>t==u&&AV.same n v w
 |n+1,.fn f a b,.fn g c d=>j4u f g&&((a.length==c.length&&(a.zip c).all fun(x,y)=>AV.same n x y)&&(b.length==d.length&&(b.zip d).all fun(x,y)=>AV.same n x y))
 |_,.rng a l h,.rng b l' h'=>(a==b&&l==l')&&h==h'
 |_,_,_=>false
inductive AI where
 |code (c:Code)
 |blk (id:Nat)
 |lp (body:Code)
 |sc (body:Code)
 |reg (ops:Array Oper) (todo:List Nat)
 |regD (ops:Array Oper) (todo:List Nat) (reads:List (Nat×RD×AV))
 |endRF (l:Nat)
 |beginRound
inductive ADI where
 |call (f:FuncId) (args:List AV)
 |coll (b:Nat)
abbrev AL:=List (AV×Bool)
inductive Mode where
 |ret
 |pan (chain:AL)
structure QC where
 fn:FuncId
 tmps:TM
 todo:List AI
 defers:List ADI
 cm:Option Mode
 roundOf:Option Nat
inductive End where
 |ret (v:AV)
 |pan (chain:AL)
inductive Task where
 |call (f:FuncId) (args:List AV) (cm:Option Mode)
 |body (fr:QC)
 |unwind (fr:QC) (m:Mode)
 |round (l:Nat) (args:List AV)
inductive Out where
 |ended (e:End) (cm:Option Mode)
 |left (jump:Option Code) (fr:QC)
 |raised (chain:AL) (fr:QC)
def Kv(id:Nat):List AI->Option (List AI)
 | .blk id'::k=>if id'=id then some k else Kv id k
 |_::k=>Kv id k
 |[]=>none
def AT(l:Nat):List AI->Option (List AI)
 | .sc body::k=>match findLabel body l with
   |some rest=>some (.code rest:: .sc body::k)
   |none=>AT l k
 |_::k=>AT l k
 |[]=>none
def PV:Mode->Mode
 | .pan ((_,true)::_)=> .ret
 |m=>m
def PL(m:Mode)(c:AL):Mode:=match m with
 | .pan old=> .pan (c++old)
 | .ret=> .pan c
def JL:Option Mode->AV×Option Mode
 |some (.pan ((v,false)::r))=>(v,some (.pan ((v,true)::r)))
 |m=>(.lit .nilIface,m)
def vC(tmps:TM)(d:Option Tmp)(v:AV):TM:=match d with
 |some t=>tmps.set t v
 |none=>tmps
def yQ(ops:Array Oper)(tmps:TM)(o:Oper):Option Bool:=match o.guard with
 |none=>some true
 |some (j,want)=>match (ops[j]?).bind (·.dst)with
  |some d=>match tmps.at d with
   |some (.lit (.bool b))=>some (b==want)
   |some (.tup [])=>some false
   |_=>none
  |none=>none
def ZN(T:TT)(h:AH)(tmps:TM):List ResultVar->Option (List AV)
 |[]=>some []
 | .tmp t::r=>(ZN T h tmps r).map ((tmps.at t).getD kV:: ·)
 | .cell a t::r=>match (tmps.at a).getD kV,ZN T h tmps r with
   | .ptr b off,some l=>(Jr T h t b off).map (·::l)
   |_,_=>none
def DN:List AV->AV
 |[v]=>v
 |l=> .tup l
def Qu(tmps:TM):List Tmp->List AV->TM
 |t::ts,v::vs=>Qu (tmps.set t v) ts vs
 |_,_=>tmps
inductive Kind where
 |still
 |alloc
 |reads
 |acts
def vB(T:TT)(o:Oper):Kind:=match o.op with
 | .move _| .assign _| .pick .. | .build .. | .nilCheck _| .binOp .. | .unOp .. | .makeInterface .. | .makeFunc .. | .slice .. | .fieldAddr .. | .field .. | .indexAddr .. | .index .. | .typeAssert .. | .extract .. => .still
 | .alloc _| .box .. | .buildSlice .. | .makeSlice .. | .makeMap .. => .alloc
 | .load .. | .lookup .. => .reads
 | .convert src dst _=>match und T src,und T dst with
   |some (.slice _),some .string=> .reads
   |some .string,some (.slice _)|some (.slice _),some (.slice _)=> .acts
   |_,_=> .still
 | .call c=>match c.callee with
   | .builtin .len=>match (c.argTypes[0]?).bind (und T)with
     |some (.map _ _)=> .reads
     |_=> .still
   | .builtin .min| .builtin .max=> .still
   |_=> .acts
 |_=> .acts
def eW(n M:Nat):List Edge->Nat->Nat
 |[],acc=>acc
 |e::r,acc=>eW n M r (bif Region.binds .any e then acc ||| (1 <<< e.on) ||| ((M >>> (n * e.on)) &&& (2^n-1))else acc)
def eH(n:Nat):List Oper->Nat->Nat->Nat
 |[],_,M=>M
 |o::r,i,M=>eH n r (i+1) (M ||| (eW n M o.after.toList 0 <<< (n * i)))
def j0L(ops:Array Oper):Nat:=eH ops.size ops.toList 0 0
def waits(n M i k:Nat):Bool:=Nat.beq ((M >>> (n * i+k))%2) 1
def Uh(T:TT)(ops:Array Oper)(i:Nat):Bool:=match ops[i]? with
 |some o=>match vB T o with
  | .acts=>true
  |_=>false
 |none=>false
def OL(T:TT):List Oper->Nat->List Nat
 |[],_=>[]
 |o::r,i=>match vB T o with
  | .acts=>i::OL T r (i+1)
  |_=>OL T r (i+1)
def bN(T:TT):List Oper->Nat->List Nat
 |[],_=>[]
 |o::r,i=>match vB T o with
  | .acts=>bN T r (i+1)
  |_=>i::bN T r (i+1)
def PX(n M:Nat)(i:Nat):List Nat->Nat
 |[]=>0
 |e::r=>bif waits n M i e then PX n M i r+1 else PX n M i r
def Kz(ops:Array Oper)(o:Oper):List Tmp:=o.dst.toList++(o.op.operands.toList.filterMap fun| .tmp t=>some t|_=>none)++(match o.guard with
 |some (j,_)=>((ops[j]?).bind (·.dst)).toList
 |none=>[])
def TS(n M i:Nat)(ts:List Tmp):List Oper->Nat->Bool
 |[],_=>true
 |o::r,j=>(match o.dst with
  |some d=> !ts.contains d||Nat.beq i j||waits n M i j||waits n M j i
  |none=>true)&&TS n M i ts r (j+1)
def Rb(n M:Nat)(ops:Array Oper):List Oper->Nat->Bool
 |[],_=>true
 |o::r,i=>TS n M i (Kz ops o) ops.toList 0&&Rb n M ops r (i+1)
def Hv(n M:Nat)(acts:List Nat)(j:Nat):List Nat->List Nat
 |[]=>[]
 |i::r=>bif Nat.beq (PX n M i acts) j then i::Hv n M acts j r else Hv n M acts j r
def j3p(n M:Nat)(acts rest:List Nat):Nat->List Nat->List Nat
 |j,[]=>Hv n M acts j rest
 |j,e::r=>Hv n M acts j rest++e::j3p n M acts rest (j+1) r
def GV(T:TT)(ops:Array Oper):List Nat:=j3p ops.size (j0L ops) (OL T ops.toList 0) (bN T ops.toList 0) 0 (OL T ops.toList 0)
def Ge:List Edge->Nat->Nat
 |[],acc=>acc
 |e::r,acc=>Ge r (bif Region.binds .any e then acc ||| (1 <<< e.on)else acc)
def Ll(T:TT)(ops:Array Oper)(n M:Nat):List Nat->Nat->Option Nat->Bool
 |[],done,_=>Nat.beq done (2^n-1)
 |i::r,done,last=>match ops[i]? with
  |some o=>Nat.beq (Ge o.after.toList 0 &&& done) (Ge o.after.toList 0)&&Nat.beq ((done >>> i)%2) 0&&(match last with|some a=>waits n M i a|none=>true)&&
    Ll T ops n M r (done ||| (1 <<< i)) (bif Uh T ops i then some i else last)
  |none=>false
def j4U(T:TT)(ops:Array Oper):Bool:=Ll T ops ops.size (j0L ops) (GV T ops) 0 none&&Rb ops.size (j0L ops) ops ops.toList 0
def Gi(o:Oper)(tmps:TM):Option RD:=match o.op with
 | .load t a=>match xJ tmps a with
   |some (.ptr b off)=>some (.load t b off)
   |_=>none
 | .lookup t m k ok=>match xJ tmps m,xJ tmps k with
   |some m,some k=>some (.look t m k ok)
   |_,_=>none
 | .convert _ _ x=>match xJ tmps x with
   |some (.sl b off len _)=>some (.str b off len)
   |_=>none
 | .call c=>match XS tmps c.args.toList with
   |some [.mp b]=>some (.mlen b)
   |_=>none
 |_=>none
def hold(T:TT)(h:AH)(reads:List (Nat×RD×AV)):Bool:=reads.all fun(_,r,v)=>match oS T h r with
 |some u=>AV.same 8 u v
 |none=>false
abbrev Qb:=FuncId->Option (List AV->AH->Option (AV×AH))
abbrev Ij:=Task->AH->Option (Out×AH)
section
variable (P:Program) (T:TT) (S:Qb) (rec:Ij)
def Yt(fr:QC)(k:List AI)(h:AH):Option (Out×AH):=rec (.body {fr with todo:=k}) h
def MC(cm:Option Mode):Option (Out×AH)->Option (Out×AH)
 |some (.left none fr,h)|some (.left (some .ret) fr,h)=>rec (.unwind fr .ret) h
 |some (.raised c fr,h)=>rec (.unwind fr (.pan c)) h
 |_=>none
def Bi(f:FuncId)(args:List AV)(cm:Option Mode)(h:AH):Option (Out×AH):=match P.funcs[f]? with
 |some fn=>match fn.body with
  |some c=>match S f,cm with
   |some g,none=>(g args h).map fun(v,h')=>(.ended (.ret v) none,h')
   |some _,some _=>none
   |none,_=>MC rec cm (rec (.body {fn:=f,tmps:=TM.ofL args (fn.ntmps-args.length),todo:=[.code c],defers:=[],cm,roundOf:=none}) h)
  |none=>none
 |none=>none
def Ef(fr:QC)(ds:List ADI):Option (Out×AH)->Option (Out×AH)
 |some (.ended (.ret _) (some m),h)=>rec (.unwind {fr with defers:=ds} (PV m)) h
 |some (.ended (.pan c) (some m),h)=>rec (.unwind {fr with defers:=ds} (PL m c)) h
 |_=>none
def ME(fr:QC)(h:AH):Option (Out×AH):=match P.funcs[fr.fn]? with
 |some fn=>(ZN T h fr.tmps fn.results.toList).map fun l=>(.ended (.ret (DN l)) fr.cm,h)
 |none=>none
def Vo(fr:QC)(m:Mode)(h:AH):Option (Out×AH):=match fr.defers with
 |[]=>match m with
  | .ret=>ME P T fr h
  | .pan c=>match P.funcs[fr.fn]? with
    |some _=>some (.ended (.pan c) fr.cm,h)
    |none=>none
 | .coll b::ds=>match (h.at b)with
   |some .defd=>rec (.unwind {fr with defers:=ds} m) (h.put b .gone)
   |_=>none
 | .call f args::ds=>Ef rec fr ds (rec (.call f args (some m)) h)
def Rg(l:Nat):Option (Out×AH)->Option (Out×AH)
 |some (.left jump _,h)=>match (h.at l)with
  |some (.loop lo)=>some (.ended (.ret (.lit (.bool jump.isNone))) none,h.put l (.loop {lo with state:=if jump.isNone then .ready else .done,pending:=jump}))
  |_=>none
 |some (.raised c fr,h)=>if fr.defers.isEmpty&&(P.funcs[fr.fn]?).isSome then some (.ended (.pan c) none,h)else none
 |_=>none
def Fw(l:Nat)(args:List AV)(h:AH):Option (Out×AH):=match (h.at l)with
 |some (.loop lo)=>if args.length=lo.params.length then
   Rg P l (rec (.body {fn:=lo.fn,tmps:=Qu lo.tmps lo.params args,todo:=[.code lo.assign,.beginRound,.code lo.body],defers:=[],cm:=none,roundOf:=some l}) h)
  else none
 |_=>none
def AG(fr:QC)(k:List AI)(d l:Nat):Option (Out×AH)->Option (Out×AH)
 |some (.ended (.ret _) _,h)=>rec (.body {fr with todo:= .endRF l::k,defers:= .coll d::fr.defers}) h
 |some (.ended (.pan c) _,h)=>some (.raised c {fr with defers:= .coll d::fr.defers},h)
 |_=>none
def Fv(fr:QC)(k:List AI)(h:AH)(f:Operand)(params:Array Tmp)(assign body:Code):Option (Out×AH):=match fr.roundOf,xJ fr.tmps f with
 |none,some fv=>match UT P fv [.fn (.yield (h.n+1)) [] []]with
  |some (.enter g args)=>AG rec fr k h.n (h.n+1) (rec (.call g args none) ((h.push .defd).push (.loop {state:= .ready,pending:=none,fn:=fr.fn,tmps:=fr.tmps,params:=params.toList,assign,body})))
  |_=>none
 |_,_=>none
def Ft(fr:QC)(k:List AI)(h:AH):Option (Out×AH):=match fr.roundOf with
 |some l=>match (h.at l)with
  |some (.loop lo)=>match lo.state with
   | .ready=>Yt rec fr k (h.put l (.loop {lo with state:= .busy}))
   |_=>none
  |_=>none
 |none=>none
def oD(fr:QC)(l:Nat)(k:List AI)(h:AH):Option (Out×AH):=match (h.at l)with
 |some (.loop lo)=>match lo.state with
  | .busy=>none
  |_=>Yt rec fr ((lo.pending.map AI.code).toList++k) (h.put l (.loop {lo with state:= .exhausted}))
 |_=>none
def fin(fr:QC)(o:Oper)(it:AI)(k:List AI)(v:AV)(h:AH):Option (Out×AH):=
 rec (.body {fr with tmps:=vC fr.tmps o.dst v,todo:=it::k}) h
def XY(fr:QC)(o:Oper)(it:AI)(k:List AI):Option (Out×AH)->Option (Out×AH)
 |some (.ended (.ret v) _,h)=>fin rec fr o it k v h
 |some (.ended (.pan c) _,h)=>some (.raised c fr,h)
 |_=>none
def oG(fr:QC)(o:Oper)(it:AI)(k:List AI):AR->Option (Out×AH)
 |some (.val v,h)=>fin rec fr o it k v h
 |some (.enter f args,h)=>XY rec fr o it k (rec (.call f args none) h)
 |some (.round l args,h)=>XY rec fr o it k (rec (.round l args) h)
 |some (.defer f args,h)=>if fr.roundOf.isSome then none else fin rec {fr with defers:= .call f args::fr.defers} o it k kV h
 |some (.recover,h)=>if fr.roundOf.isSome then none else fin rec {fr with cm:=(JL fr.cm).2} o it k (JL fr.cm).1 h
 |some (.pan v,h)=>some (.raised [(v,false)] fr,h)
 |none=>none
def Nn(fr:QC)(ops:Array Oper)(i:Nat)(r:List Nat)(k:List AI)(h:AH):Option (Out×AH):=match ops[i]? with
 |some o=>match yQ ops fr.tmps o with
  |some true=>oG rec fr o (.reg ops r) k (Js P T o fr.tmps h)
  |some false=>fin rec fr o (.reg ops r) k kV h
  |none=>none
 |none=>none
def VF(fr:QC)(o:Oper)(it:AI)(k:List AI):Option (Out×AH)->Option (Out×AH)
 |some (.ended (.ret v) _,h)=>fin rec fr o it k v h
 |_=>none
def Fu(fr:QC)(ops:Array Oper)(i:Nat)(o:Oper)(r:List Nat)(reads:List (Nat×RD×AV))(k:List AI)(x:AR):Option (Out×AH):=match vB T o with
 | .acts=>match x with
   |some (.val v,h)=>fin rec fr o (.regD ops r reads) k v h
   |some (.enter f args,h)=>VF rec fr o (.regD ops r reads) k (rec (.call f args none) h)
   |some (.round l args,h)=>VF rec fr o (.regD ops r reads) k (rec (.round l args) h)
   |_=>none
 | .reads=>match x with
   |some (.val v,h)=>match Gi o fr.tmps with
    |some rd=>fin rec fr o (.regD ops r ((i,rd,v)::reads)) k v h
    |none=>bif (yU P o fr.tmps).isSome then fin rec fr o (.regD ops r reads) k v h else none
   |_=>none
 |_=>match x with
  |some (.val v,h)=>fin rec fr o (.regD ops r reads) k v h
  |_=>none
def UM(fr:QC)(ops:Array Oper)(i:Nat)(o:Oper)(r:List Nat)(reads:List (Nat×RD×AV))(k:List AI)(h:AH):Option (Out×AH):=
 match yQ ops fr.tmps o with
 |some true=>Fu P T rec fr ops i o r reads k (Js P T o fr.tmps h)
 |some false=>fin rec fr o (.regD ops r reads) k kV h
 |none=>none
def MD(fr:QC)(ops:Array Oper)(i:Nat)(r:List Nat)(reads:List (Nat×RD×AV))(k:List AI)(h:AH):Option (Out×AH):=match ops[i]? with
 |some o=>if Uh T ops i then(if hold T h reads then UM P T rec fr ops i o r (reads.filter fun(j,_,_)=> !waits ops.size (j0L ops) i j) k h else none)else UM P T rec fr ops i o r reads k h
 |none=>none
def Wf(fr:QC)(c:Operand)(t e:Code)(k:List AI)(h:AH):Option (Out×AH):=match xJ fr.tmps c with
 |some (.lit (.bool b))=>Yt rec fr (.code (bif b then t else e)::k) h
 |_=>none
def Wg(fr:QC)(id:Nat)(k:List AI)(h:AH):Option (Out×AH):=match Kv id k with
 |some k'=>Yt rec fr k' h
 |none=>some (.left (some (.exit id)) fr,h)
def fQ(fr:QC)(l:Nat)(k:List AI)(h:AH):Option (Out×AH):=match AT l k with
 |some k'=>Yt rec fr k' h
 |none=>none
def HX(fr:QC)(ops:Array Oper)(draw:Bool)(k:List AI)(h:AH):Option (Out×AH):=
 bif draw then(bif j4U T ops then Yt rec fr (.regD ops (GV T ops) []::k) h else none)else Yt rec fr (.reg ops (List.range ops.size)::k) h
def KJ(fr:QC)(k:List AI)(h:AH):Code->Option (Out×AH)
 | .ret=>some (.left (some .ret) fr,h)
 | .skip| .label _=>Yt rec fr k h
 | .seq a b=>Yt rec fr (.code a:: .code b::k) h
 | .cond c t e=>Wf rec fr c t e k h
 | .block id c=>Yt rec fr (.code c:: .blk id::k) h
 | .loop c=>Yt rec fr (.code c:: .lp c::k) h
 | .scope c=>Yt rec fr (.code c:: .sc c::k) h
 | .exit id=>Wg rec fr id k h
 | .rangeFunc f params assign body=>Fv P rec fr k h f params assign body
 | .region _ ops draw=>HX T rec fr ops draw k h
 | .goto l=>fQ rec fr l k h
 | .refuse _=>none
def KU(fr:QC)(k:List AI)(h:AH):AI->Option (Out×AH)
 | .code c=>KJ P T rec fr k h c
 | .blk _| .sc _=>Yt rec fr k h
 | .lp c=>Yt rec fr (.code c:: .lp c::k) h
 | .reg _ []=>Yt rec fr k h
 | .reg ops (i::r)=>Nn P T rec fr ops i r k h
 | .regD _ [] reads=>if hold T h reads then Yt rec fr k h else none
 | .regD ops (i::r) reads=>MD P T rec fr ops i r reads k h
 | .beginRound=>Ft rec fr k h
 | .endRF l=>oD rec fr l k h
def JW(fr:QC)(h:AH):Option (Out×AH):=match fr.todo with
 |[]=>some (.left none fr,h)
 |it::k=>KU P T rec fr k h it
def Hi:Ij
 | .call f args cm,h=>Bi P S rec f args cm h
 | .body fr,h=>JW P T rec fr h
 | .unwind fr m,h=>Vo P T rec fr m h
 | .round l args,h=>Fw P rec l args h
end
def ex(P:Program)(T:TT)(S:Qb)(n:Nat):Ij:=Nat.rec (motive:=fun _=>Ij) (fun _ _=>none) (fun _ r=>Hi P T S r) n
end
variable{f:Frame}{m:Mode}{d:Deferred}{cs:List Frame}{fr:QC}{cm:Option Mode}{out:Out}
section
open Go Go.RowKit
variable {P:Program} {T:TT} {S:Qb} {ρ:Nat->Value} {fl:Nat} {μ μ':Mu} {h:AH} {w w':World}
def Ku(ρ:Nat->Value)(μ:Mu)(w:World):AL->List PanicEntry->Prop
 |[],l=>l=[]
 |(a,b)::r,l=>∃v l',l={v,recovered:=b,goexit:=false}::l'/\rel ρ μ w a v/\Ku ρ μ w r l'
def Uk(ρ:Nat->Value)(μ:Mu)(w:World):Mode->FrameMode->Prop
 | .ret,m=>m= .returning
 | .pan c,m=>∃c',m= .panicking c'/\Ku ρ μ w c c'
def Yv(μ:Mu):AI->Item->Prop
 | .code c,i=>i= .code c
 | .blk id,i=>i= .inBlock id
 | .lp c,i=>i= .inLoop c
 | .sc c,i=>i= .inScope c
 | .reg ops l,i=>i= .inRegion ops l
 | .regD ..,_=>False
 | .endRF l,i=>∃r,μ l=some (r,0)/\i= .endRangeFunc r
 | .beginRound,i=>i= .beginRound
def XP(μ:Mu):List AI->List Item->Prop
 |[],l=>l=[]
 |a::r,l=>∃i l',l=i::l'/\Yv μ a i/\XP μ r l'
def sS(P:Program)(ρ:Nat->Value)(μ:Mu)(w:World):ADI->Deferred->Prop
 | .call f args,d=>(∃fn c,d.target= .fn fn c)/\∃args',qF ρ μ w args args'/\∀w',(invoke d.target d.args).run P w'=(callFunc f args'.toArray).run P w'
 | .coll b,d=>∃r,μ b=some (r,0)/\d={target:= .collected r,args:= #[]}
def IH(P:Program)(ρ:Nat->Value)(μ:Mu)(w:World):List ADI->List Deferred->Prop
 |[],l=>l=[]
 |a::r,l=>∃d l',l=d::l'/\sS P ρ μ w a d/\IH P ρ μ w r l'
def Mi(μ:Mu):Option Nat->Option Nat->Prop
 |none,r=>r=none
 |some l,r=>∃k,μ l=some (k,0)/\r=some k
def Ui:Option Mode->CallKind
 |none=> .normal
 |some _=> .deferred
structure Rm(P:Program)(ρ:Nat->Value)(μ:Mu)(w:World)(fr:QC)(f:Frame):Prop where
 fn:f.fn=fr.fn
 tmps:qF ρ μ w fr.tmps.L f.tmps.toList
 defers:IH P ρ μ w fr.defers f.defers
 kind:f.kind=Ui fr.cm
 round:Mi μ fr.roundOf f.roundOf
 rc:fr.roundOf.isSome=true->fr.cm=none
structure El(P:Program)(ρ:Nat->Value)(μ:Mu)(w:World)(fr:QC)(f:Frame):Prop where
 u:Rm P ρ μ w fr f
 todo:XP μ fr.todo f.todo
 mode:f.mode= .run
def cmR(ρ:Nat->Value)(μ:Mu)(w:World):Option Mode->List Frame->Prop
 |none,_=>True
 |some m,cs=>∃c r,cs=c::r/\Uk ρ μ w m c.mode
def Qf(ρ:Nat->Value)(μ:Mu)(w:World):Option Mode->List Frame->List Frame->Prop
 |none,cs,cs'=>cs'=cs
 |some m,cs,cs'=>∃c r mo,cs=c::r/\cs'={c with mode:=mo}::r/\Uk ρ μ w m mo
theorem Ku.mono(hm:yZ μ μ')(hg:Jt w w'):∀{c:AL} {l:List PanicEntry},Ku ρ μ w c l->Ku ρ μ' w' c l
 |[],l,hh=>hh
 |(a,b)::r,l,hh=>by obtain⟨v,l',h1,h2,h3⟩:=hh;exact⟨v,l',h1,rel.mono hm hg _ _ h2,h3.mono hm hg⟩
theorem Uk.mono(hm:yZ μ μ')(hg:Jt w w'){x:FrameMode}(hh:Uk ρ μ w m x):Uk ρ μ' w' m x:=by
 cases m with
 |ret=>exact hh
 |pan c=>obtain⟨c',h1,h2⟩:=hh;exact⟨c',h1,h2.mono hm hg⟩
theorem Yv.mono(hm:yZ μ μ'){a:AI}{i:Item}(hh:Yv μ a i):Yv μ' a i:=by cases a<;>first|exact hh|(obtain⟨r,h1,h2⟩:=hh;exact⟨r,hm _ _ h1,h2⟩)
theorem XP.mono(hm:yZ μ μ'):∀{l:List AI} {l':List Item},XP μ l l'->XP μ' l l'
 |[],l',hh=>hh
 |a::r,l',hh=>by obtain⟨i,l2,h1,h2,h3⟩:=hh;exact⟨i,l2,h1,h2.mono hm,h3.mono hm⟩
theorem sS.mono(hm:yZ μ μ')(hg:Jt w w'){a:ADI}(hh:sS P ρ μ w a d):sS P ρ μ' w' a d:=by
 cases a with
 |call f args=>obtain⟨h1,args',h2,h3⟩:=hh;exact⟨h1,args',qF.mono hm hg _ _ h2,h3⟩
 |coll b=>obtain⟨r,h1,h2⟩:=hh;exact⟨r,hm _ _ h1,h2⟩
theorem IH.mono(hm:yZ μ μ')(hg:Jt w w'):∀{l:List ADI} {l':List Deferred},IH P ρ μ w l l'->IH P ρ μ' w' l l'
 |[],l',hh=>hh
 |a::r,l',hh=>by obtain⟨d,l2,h1,h2,h3⟩:=hh;exact⟨d,l2,h1,h2.mono hm hg,h3.mono hm hg⟩
theorem Mi.mono(hm:yZ μ μ'){a r:Option Nat}(hh:Mi μ a r):Mi μ' a r:=by
 cases a with
 |none=>exact hh
 |some l=>obtain⟨k,h1,h2⟩:=hh;exact⟨k,hm _ _ h1,h2⟩
theorem Rm.mono(hm:yZ μ μ')(hg:Jt w w')(hh:Rm P ρ μ w fr f):Rm P ρ μ' w' fr f:=
 ⟨hh.fn,qF.mono hm hg _ _ hh.tmps,hh.defers.mono hm hg,hh.kind,hh.round.mono hm,hh.rc⟩
theorem El.mono(hm:yZ μ μ')(hg:Jt w w')(hh:El P ρ μ w fr f):El P ρ μ' w' fr f:=
 ⟨hh.u.mono hm hg,hh.todo.mono hm,hh.mode⟩
theorem cmR.mono(hm:yZ μ μ')(hg:Jt w w')(hh:cmR ρ μ w cm cs):cmR ρ μ' w' cm cs:=by
 cases cm with
 |none=>trivial
 |some m=>obtain⟨c,r,h1,h2⟩:=hh;exact⟨c,r,h1,h2.mono hm hg⟩
theorem Qf.mono(hm:yZ μ μ')(hg:Jt w w'){cs':List Frame}(hh:Qf ρ μ w cm cs cs'):Qf ρ μ' w' cm cs cs':=by
 cases cm with
 |none=>exact hh
 |some m=>obtain⟨c,r,mo,h1,h2,h3⟩:=hh;exact⟨c,r,mo,h1,h2,h3.mono hm hg⟩
theorem Qf.refl(hh:cmR ρ μ w cm cs):Qf ρ μ w cm cs cs:=by
 cases cm with
 |none=>rfl
 |some m=>obtain⟨c,r,h1,h2⟩:=hh;exact⟨c,r,c.mode,h1,h1,h2⟩
theorem Qf.cmR{cs':List Frame}(hh:Qf ρ μ w cm cs cs'):cmR ρ μ w cm cs':=by
 cases cm with
 |none=>trivial
 |some m=>obtain⟨c,r,mo,h1,h2,h3⟩:=hh;exact⟨_,r,h2,h3⟩
theorem Qf.trans{cm':Option Mode}{cs1 cs2:List Frame}(ha:Qf ρ μ w cm cs cs1)(hb:Qf ρ μ' w' cm' cs1 cs2)(hs:cm'.isSome=cm.isSome):Qf ρ μ' w' cm' cs cs2:=by
 cases cm with
 |none=>
  cases cm' with
  |none=>
   have h1:cs1=cs:=ha;rw[<-h1];exact hb
  |some m=>cases hs
 |some m0=>
  cases cm' with
  |none=>cases hs
  |some m=>
   obtain⟨c,r,mo,rfl,rfl,h3⟩:=ha;obtain⟨c',r',mo',h4,rfl,h6⟩:=hb;obtain⟨rfl,rfl⟩:=UN h4;exact⟨c,r,mo',rfl,rfl,h6⟩
def Hn(fr fr':QC):Prop:=fr'.fn=fr.fn/\fr'.roundOf=fr.roundOf/\fr'.cm.isSome=fr.cm.isSome
theorem Hn.refl(fr:QC):Hn fr fr:=⟨rfl,rfl,rfl⟩
theorem Hn.trans{a b c:QC}(h1:Hn a b)(h2:Hn b c):Hn a c:=⟨h2.1.trans h1.1,h2.2.1.trans h1.2.1,h2.2.2.trans h1.2.2⟩
def tZ:Option Code->List Item->Prop
 |none,l=>l=[]
 |some .ret,l=>∃k,l= .code .ret::k
 |some (.exit id),l=>∃k,l= .code (.exit id)::k/\exitTo id k=none
 |_,_=>False
def sY(P:Program)(ρ:Nat->Value)(μ:Mu)(w:World)(g:FuncId)(kind:CallKind)(f:Frame):End->Prop
 | .ret v=>f.fn=g/\f.defers=[]/\f.kind=kind/\f.mode= .returning/\∃fn v',P.funcs[g]? =some fn/\(results fn f.tmps).run P w= .ok v' w/\rel ρ μ w v v'
 | .pan c=>f.fn=g/\f.defers=[]/\f.kind=kind/\∃c' fn,f.mode= .panicking c'/\P.funcs[g]? =some fn/\Ku ρ μ w c c'
def YI(P:Program)(ρ:Nat->Value)(μ:Mu)(w:World)(m:Machine)(c:Frame)(cs:List Frame):End->Prop
 | .ret v=>∃v',rel ρ μ w v v'/\Steps P m (lone (c.finish v') cs w)
 | .pan ch=>∃ch',Ku ρ μ w ch ch'/\Steps P m (lone (c.raise ch') cs w)
def QW(P:Program)(ρ:Nat->Value)(fl:Nat)(fr:QC)(h:AH)(h':AH)(out:Out):Prop:=∀μ w f cs,HR P ρ fl μ h w->El P ρ μ w fr f->cmR ρ μ w fr.cm cs->match out with
 | .left j fr'=>Hn fr fr'/\∃μ' w' f' cs',yD P ρ fl μ h w μ' h' w'/\Steps P (lone f cs w) (lone f' cs' w')/\Rm P ρ μ' w' fr' f'/\f'.mode= .run/\tZ j f'.todo/\Qf ρ μ' w' fr'.cm cs cs'
 | .raised c fr'=>Hn fr fr'/\∃μ' w' f' cs' c',yD P ρ fl μ h w μ' h' w'/\Steps P (lone f cs w) (lone f' cs' w')/\Rm P ρ μ' w' fr' f'/\f'.mode= .panicking c'/\Ku ρ μ' w' c c'/\Qf ρ μ' w' fr'.cm cs cs'
 | .ended .. =>False
def Es(P:Program)(ρ:Nat->Value)(fl:Nat):Task->AH->Out->AH->Prop
 | .body fr,h,out,h'=>QW P ρ fl fr h h' out
 | .call g args cm,h,.ended e cm',h'=>(∃fn c,P.funcs[g]? =some fn/\fn.body=some c)/\∀μ w cs args',HR P ρ fl μ h w->qF ρ μ w args args'->cmR ρ μ w cm cs->cm'.isSome=cm.isSome/\
    ∃μ' w' f' cs',yD P ρ fl μ h w μ' h' w'/\Steps P (lone (Frame.enter P g args'.toArray (Ui cm)) cs w) (lone f' cs' w')/\sY P ρ μ' w' g (Ui cm) f' e/\Qf ρ μ' w' cm' cs cs'
 | .call ..,_,_,_=>False
 | .unwind fr m,h,.ended e cm',h'=>fr.roundOf=none->∀μ w f cs,HR P ρ fl μ h w->Rm P ρ μ w fr f->Uk ρ μ w m f.mode->cmR ρ μ w fr.cm cs->cm'.isSome=fr.cm.isSome/\
    ∃μ' w' f' cs',yD P ρ fl μ h w μ' h' w'/\Steps P (lone f cs w) (lone f' cs' w')/\sY P ρ μ' w' fr.fn (Ui fr.cm) f' e/\Qf ρ μ' w' cm' cs cs'
 | .unwind ..,_,_,_=>False
 | .round l args,h,.ended e cm',h'=>cm'=none/\∀μ w c cs args' rl,HR P ρ fl μ h w->μ l=some (rl,0)->qF ρ μ w args args'->
    ∃g tmps asg body,(Instr.yield rl args'.toArray).run P w= .ok (.round rl g tmps asg body) w/\
    ∃μ' w',yD P ρ fl μ h w μ' h' w'/\YI P ρ μ' w' (lone (Frame.round rl g tmps asg body .normal) (c::cs) w) c cs e
 | .round ..,_,_,_=>False
def KQ(P:Program)(ρ:Nat->Value)(fl:Nat)(rec:Ij):Prop:=∀t h out h',rec t h=some (out,h')->Es P ρ fl t h out h'
theorem QW.pre{fr1:QC}{h1 h':AH}(hs:Hn fr fr1)
 (hstep:∀μ w f cs,HR P ρ fl μ h w->El P ρ μ w fr f->cmR ρ μ w fr.cm cs->∃μ1 w1 f1 cs1,yD P ρ fl μ h w μ1 h1 w1/\Steps P (lone f cs w) (lone f1 cs1 w1)/\El P ρ μ1 w1 fr1 f1/\Qf ρ μ1 w1 fr1.cm cs cs1)
 (ho:QW P ρ fl fr1 h1 h' out):QW P ρ fl fr h h' out:=by
 intro μ w f cs hr hf hc
 obtain⟨μ1,w1,f1,cs1,e1,st1,b1,c1⟩:=hstep μ w f cs hr hf hc
 have ho:=ho μ1 w1 f1 cs1 e1.hr b1 c1.cmR
 cases out with
 |ended e cm=>exact ho
 |left j fr'=>
  obtain⟨s1,μ2,w2,f2,cs2,e2,st2,b2,m2,l2,c2⟩:=ho;exact⟨hs.trans s1,μ2,w2,f2,cs2,e1.trans hr e2,st1.trans st2,b2,m2,l2,c1.trans c2 s1.2.2⟩
 |raised c fr'=>
  obtain⟨s1,μ2,w2,f2,cs2,c',e2,st2,b2,m2,l2,c2⟩:=ho;exact⟨hs.trans s1,μ2,w2,f2,cs2,c',e1.trans hr e2,st1.trans st2,b2,m2,l2,c1.trans c2 s1.2.2⟩
theorem Rm.todo(hu:Rm P ρ μ w fr f)(a:List AI)(b:List Item):Rm P ρ μ w {fr with todo:=a} {f with todo:=b}:=
 ⟨hu.fn,hu.tmps,hu.defers,hu.kind,hu.round,hu.rc⟩
theorem QW.go{k:List AI}{h':AH}
 (hstep:∀μ w f cs,HR P ρ fl μ h w->El P ρ μ w fr f->∃b,XP μ k b/\step P (lone f cs w)= .next (lone {f with todo:=b} cs w))
 (ho:QW P ρ fl {fr with todo:=k} h h' out):QW P ρ fl fr h h' out:=
 QW.pre (fr1:={fr with todo:=k}) ⟨rfl,rfl,rfl⟩ (fun μ w f cs hr hf hc=>by obtain⟨b,h1,h2⟩:=hstep μ w f cs hr hf;exact⟨μ,w,_,cs,yD.refl hr,.one h2,⟨hf.u.todo k b,h1,hf.mode⟩,Qf.refl hc⟩) ho
theorem GI{id:Nat}:∀{k k':List AI} {l:List Item},XP μ k l->Kv id k=some k'->∃l',exitTo id l=some l'/\XP μ k' l'
 |[],k',l,hl,he=>by cases he
 |a::r,k',l,hl,he=>by
  obtain⟨i,l',rfl,h1,h2⟩:=hl
  cases a<;>simp only[Yv]at h1<;>first
   |(subst h1;simp only[Kv]at he;simp only[exitTo];first
      |(split at he
        ·rename_i hid;obtain rfl:=jS he;exact⟨l',by simp[hid],h2⟩
        ·rename_i hid;obtain⟨l2,e1,e2⟩:=GI h2 he;exact⟨l2,by simp[hid,e1],e2⟩)
      |exact GI h2 he)
   |exact h1.elim
   |(obtain⟨r',_,rfl⟩:=h1;simp only[Kv]at he;simp only[exitTo];exact GI h2 he)
theorem GM{n:Nat}:∀{k k':List AI} {l:List Item},XP μ k l->AT n k=some k'->∃l',gotoIn n l=some l'/\XP μ k' l'
 |[],k',l,hl,he=>by cases he
 |a::r,k',l,hl,he=>by
  obtain⟨i,l',rfl,h1,h2⟩:=hl
  cases a<;>simp only[Yv]at h1<;>first
   |(subst h1;simp only[AT]at he;simp only[gotoIn];first
      |(split at he
        ·rename_i rest hid;obtain rfl:=jS he;rw[hid];exact⟨_,rfl,_,_,rfl,rfl,_,_,rfl,rfl,h2⟩
        ·rename_i hid;obtain⟨l2,e1,e2⟩:=GM h2 he;exact⟨l2,by simp[hid,e1],e2⟩)
      |exact GM h2 he)
   |exact h1.elim
   |(obtain⟨r',_,rfl⟩:=h1;simp only[AT]at he;simp only[gotoIn];exact GM h2 he)
theorem GH{id:Nat}:∀{k:List AI} {l:List Item},XP μ k l->Kv id k=none->exitTo id l=none
 |[],l,hl,he=>by obtain rfl:l=[]:=hl;rfl
 |a::r,l,hl,he=>by
  obtain⟨i,l',rfl,h1,h2⟩:=hl
  cases a<;>simp only[Yv]at h1<;>first
   |(subst h1;simp only[Kv]at he;simp only[exitTo];first
      |(split at he
        ·cases he
        ·rename_i hid;simp[hid,GH h2 he])
      |exact GH h2 he)
   |exact h1.elim
   |(obtain⟨r',_,rfl⟩:=h1;simp only[Kv]at he;simp only[exitTo];exact GH h2 he)
end
variable{g:FuncId}{ch:AL}
section
open Go Go.RowKit
variable {P:Program} {T:TT} {S:Qb} {ρ:Nat->Value} {fl:Nat} {μ μ':Mu} {h:AH} {w w':World}
theorem EL{f:Frame}(hu:Rm P ρ μ w fr f):ZV ρ μ w fr.tmps f.eval:=
 dU hu.tmps (fun t=>by simp[Frame.eval]) (fun _=>rfl) (fun _=>rfl)
theorem UK{ops:Array Oper}{tmps:TM}{rt:Array Value}{o:Oper}(ht:qF ρ μ w tmps.L rt.toList)(hw:yQ ops tmps o=some b):Region.wanted o (yielded ops rt)=b:=by
 unfold yQ at hw;unfold Region.wanted;cases hg:o.guard with
 |none=>rw[hg]at hw;exact jS hw
 |some p=>
  obtain⟨j,want⟩:=p;rw[hg]at hw;simp only at hw ⊢;split at hw;case h_2=>cases hw
  rename_i d hd;split at hw
  ·rename_i c hc;obtain rfl:=jS hw;obtain⟨v,h1,h2⟩:=Zk ht ((YZ _ _).trans hc);obtain rfl:=KE h2;rw[xN]at h1;simp[yielded,hd,h1]
  ·rename_i hc;obtain rfl:=jS hw;obtain⟨v,h1,h2⟩:=Zk ht ((YZ _ _).trans hc);obtain⟨l',rfl,_⟩:=Hd h2;rw[xN]at h1;simp[yielded,hd,h1]
  ·cases hw
section steps
variable {f:Frame} {cs:List Frame} {ops:Array Oper} {i:Nat} {r:List Nat} {l:List Item} {o:Oper}
theorem QY(hm:f.mode= .run)(ht:f.todo= .inRegion ops (i::r)::l)(ho:ops[i]? =some o)(hw:Region.wanted o (yielded ops f.tmps)=true)(hd:f.roundOf=none\/∀c,o.op≠ .defer c):
 stepG P true {frame:=f,callers:=cs,status:= .running,dying:=none} w=stepG.apply P true f cs none (execOp f.eval o) w:=by
 rcases hd with hd|hd
 ·simp[stepG,stepG.exec,stepG.oper,Frame.oper?,hm,ht,ho,hw,hd]
 ·cases hro:f.roundOf with
  |none=>simp[stepG,stepG.exec,stepG.oper,Frame.oper?,hm,ht,ho,hw,hro]
  |some rl=>
   simp only[stepG,hm,stepG.exec,ht,ho,qD,hw,Jn,if_true,stepG.oper,Frame.oper?,hro];split<;>first|rfl|(rename_i heq1 heq2;exact absurd heq2 (hd _))|(rename_i heq;exact absurd heq (hd _))
variable (hm:f.mode= .run) (ht:f.todo= .inRegion ops (i::r)::l) (ho:ops[i]? =some o) (hw:Region.wanted o (yielded ops f.tmps)=true) (hd:f.roundOf=none\/∀c,o.op≠ .defer c)
include hm ht ho hw hd
theorem GX{v:Value}(hr:(execOp f.eval o).run P w= .ok (.value v) w'\/((execOp f.eval o).run P w= .ok .skip w'/\v=undef)):step P (lone f cs w)= .next (lone (f.finish v) cs w'):=by rcases hr with hr|⟨hr,rfl⟩<;>exact step_lone_go (by rw[QY hm ht ho hw hd];simp[stepG.apply,hr])
theorem Mr{args:Array Value}(hr:(execOp f.eval o).run P w= .ok (.enter g args) w'):step P (lone f cs w)= .next (lone (Frame.enter P g args .normal) (f::cs) w'):=
 step_lone_go (by rw[QY hm ht ho hw hd];simp[stepG.apply,hr,ht])
theorem Ms{rl:Nat}{tmps:Array Value}{a b:Code}(hr:(execOp f.eval o).run P w= .ok (.round rl g tmps a b) w'):step P (lone f cs w)= .next (lone (Frame.round rl g tmps a b .normal) (f::cs) w'):=
 step_lone_go (by rw[QY hm ht ho hw hd];simp[stepG.apply,hr])
theorem Ng(hr:(execOp f.eval o).run P w= .ok (.defer d) w'):step P (lone f cs w)= .next (lone ({f with defers:=d::f.defers}.finish undef) cs w'):=
 step_lone_go (by rw[QY hm ht ho hw hd];simp[stepG.apply,hr])
theorem bX{v:Value}(hr:(execOp f.eval o).run P w= .halt (.panic v) w'):step P (lone f cs w)= .next (lone (f.raise [{v,recovered:=false}]) cs w'):=
 step_lone_go (by rw[QY hm ht ho hw hd];simp[stepG.apply,hr])
theorem CV{v:Value}{cs':List Frame}(hro:f.roundOf=none)(hr:(execOp f.eval o).run P w= .ok .recover w')(htr:tryRecover f cs=some (v,cs')):step P (lone f cs w)= .next (lone (f.finish v) cs' w'):=
 step_lone_go (by rw[QY hm ht ho hw hd];simp[stepG.apply,hr,hro,htr])
theorem CU(hro:f.roundOf=none)(hr:(execOp f.eval o).run P w= .ok .recover w')(htr:tryRecover f cs=none):step P (lone f cs w)= .next (lone (f.finish .nilIface) cs w'):=
 step_lone_go (by rw[QY hm ht ho hw hd];simp[stepG.apply,hr,hro,htr])
end steps
theorem UH{f:Frame}{cs:List Frame}{ops:Array Oper}{i:Nat}{r:List Nat}{l:List Item}{o:Oper}(hm:f.mode= .run)(ht:f.todo= .inRegion ops (i::r)::l)(ho:ops[i]? =some o)(hw:Region.wanted o (yielded ops f.tmps)=false):
 step P (lone f cs w)= .next (lone (f.finish undef) cs w):=
 step_lone_go (by simp[stepG,stepG.exec,hm,ht,ho,hw])
theorem QL{f:Frame}{ops:Array Oper}{i:Nat}{r:List Nat}{l:List Item}{o:Oper}(ht:f.todo= .inRegion ops (i::r)::l)(ho:ops[i]? =some o)(v:Value):
 f.finish v={f with tmps:=(match o.dst with|some d=>f.tmps.setIfInBounds d v|none=>f.tmps),todo:= .inRegion ops r::l}:=by
 simp only[Frame.finish,ht,ho,Kp]
 cases o.dst<;>rfl
theorem TL{tmps:TM}{rt:Array Value}{d:Option Tmp}{v:Value}(ht:qF ρ μ w tmps.L rt.toList)(hv:rel ρ μ w a v):qF ρ μ w (vC tmps d a).L (match d with|some d=>rt.setIfInBounds d v|none=>rt).toList:=by
 cases d with
 |none=>exact ht
 |some d=>simp only[vC,Array.toList_setIfInBounds,Gv];exact Me d ht hv
theorem Rm.fin{f:Frame}{ops:Array Oper}{i:Nat}{r:List Nat}{l:List Item}{o:Oper}{v:Value}(hu:Rm P ρ μ w fr f)(ht:f.todo= .inRegion ops (i::r)::l)(ho:ops[i]? =some o)(hv:rel ρ μ w a v)(k:List AI):
 Rm P ρ μ w {fr with tmps:=vC fr.tmps o.dst a,todo:=k} (f.finish v):=by
 rw[QL ht ho]
 exact⟨hu.fn,TL hu.tmps hv,hu.defers,hu.kind,hu.round,hu.rc⟩
theorem El.fin{f:Frame}{ops:Array Oper}{i:Nat}{r:List Nat}{l:List Item}{k:List AI}{o:Oper}{v:Value}(hu:Rm P ρ μ w fr f)(hm:f.mode= .run)(ht:f.todo= .inRegion ops (i::r)::l)(hk:XP μ k l)(ho:ops[i]? =some o)(hv:rel ρ μ w a v):
 El P ρ μ w {fr with tmps:=vC fr.tmps o.dst a,todo:= .reg ops r::k} (f.finish v):=by
 refine⟨hu.fin ht ho hv _,?_,?_⟩
 ·rw[QL ht ho];exact⟨_,l,rfl,rfl,hk⟩
 ·rw[QL ht ho];exact hm
theorem SJ{f c:Frame}{cs:List Frame}(he:sY P ρ μ w g .normal f (.ret v)):∃v',rel ρ μ w v v'/\step P (lone f (c::cs) w)= .next (lone (c.finish v') cs w):=by obtain⟨h1,h2,h3,h4,fn,v',h5,h6,h7⟩:=he;subst h1;exact⟨v',h7,step_lone_go (by simp[stepG,unwind,doReturn,h2,h3,h4,h5,h6])⟩
theorem Co:∀{c:AL} {l:List PanicEntry},Ku ρ μ w c l->l.dropWhile (!·.goexit)=[]
 |[],l,hh=>by obtain rfl:l=[]:=hh;rfl
 |(a,b)::r,l,hh=>by obtain⟨v,l',rfl,_,h3⟩:=hh;rw[List.dropWhile_cons_of_pos (by simp)];exact Co h3
theorem SI{f c:Frame}{cs:List Frame}(he:sY P ρ μ w g .deferred f (.ret v))(hm:Uk ρ μ w m c.mode):
 ∃mo,Uk ρ μ w (PV m) mo/\step P (lone f (c::cs) w)= .next (lone {c with mode:=mo} cs w):=by
 obtain⟨h1,h2,h3,h4,fn,v',h5,h6,h7⟩:=he
 subst h1
 obtain⟨cfn,ctmps,ctodo,cdefers,cmode,ckind,cround⟩:=c
 simp only at hm
 cases m with
 |ret=>
  have hm:cmode= .returning:=hm;subst hm;exact⟨.returning,rfl,step_lone_go (by simp[stepG,unwind,doReturn,h2,h3,h4,h5,h6])⟩
 |pan ch=>
  obtain⟨c',e1,e2⟩:=hm
  subst e1
  cases ch with
  |nil=>
   obtain rfl:c'=[]:=e2;exact⟨.panicking [],⟨[],rfl,rfl⟩,step_lone_go (by simp[stepG,unwind,doReturn,h2,h3,h4,h5,h6])⟩
  |cons p r=>
   obtain⟨a,b⟩:=p
   obtain⟨u,l',rfl,e3,e4⟩:=e2
   cases b with
   |true=>
    have:=Co e4;exact⟨.returning,rfl,step_lone_go (by simp[stepG,unwind,doReturn,h2,h3,h4,h5,h6,this])⟩
   |false=>
    exact⟨_,⟨_,rfl,u,l',rfl,e3,e4⟩,step_lone_go (by simp[stepG,unwind,doReturn,h2,h3,h4,h5,h6])⟩
theorem NQ{k:CallKind}{f c:Frame}{cs:List Frame}(he:sY P ρ μ w g k f (.pan ch)):∃ch',Ku ρ μ w ch ch'/\step P (lone f (c::cs) w)= .next (lone (c.raise ch') cs w):=by obtain⟨h1,h2,h3,c',fn,h4,h5,h6⟩:=he;subst h1;exact⟨c',h6,step_lone_go (by simp[stepG,unwind,Frame.catches,h2,h4,h5])⟩
theorem MS{a b:AL}{l m:List PanicEntry}(h1:Ku ρ μ w a l)(h2:Ku ρ μ w b m):Ku ρ μ w (a++b) (l++m):=by
 induction a generalizing l with
 |nil=>obtain rfl:l=[]:=h1;exact h2
 |cons p r ih=>
  obtain⟨x,y⟩:=p;obtain⟨v,l',rfl,h3,h4⟩:=h1;exact⟨v,l'++m,rfl,h3,ih h4⟩
theorem bJ{c:Frame}{ch':List PanicEntry}(hm:Uk ρ μ w m c.mode)(hc:Ku ρ μ w ch ch'):∃mo,c.raise ch'={c with mode:=mo}/\Uk ρ μ w (PL m ch) mo:=by
 cases m with
 |ret=>
  have hm:c.mode= .returning:=hm;exact⟨.panicking ch',by simp[Frame.raise,hm],ch',rfl,hc⟩
 |pan old=>
  obtain⟨c',e1,e2⟩:=hm;exact⟨.panicking (ch'++c'),by simp[Frame.raise,e1],_,rfl,MS hc e2⟩
theorem Fg{c:Frame}{ch':List PanicEntry}(hm:c.mode= .run):c.raise ch'={c with mode:= .panicking ch'}:=by simp[Frame.raise,hm]
def AJ(P:Program):Prop:=∀(f:FuncId) (fn:Func),P.funcs[f]? =some fn->(fn.name=="runtime.NumGoroutine")=false
theorem Cn(hNG:AJ P){fn:Func}{c:Code}(hf:P.funcs[g]? =some fn)(hb:fn.body=some c)(args:Array Value)(w:World):(callFunc g args).run P w= .ok (.enter g args) w:=by
 have:¬fn.name="runtime.NumGoroutine":=by simpa using hNG g fn hf
 simp[callFunc,hf,hb,this]
end
variable{e:End}{tmps:TM}
section
open Go Go.RowKit
variable {P:Program} {T:TT} {S:Qb} {ρ:Nat->Value} {fl:Nat} {μ μ':Mu} {h:AH} {w w':World} {rec:Ij}
theorem YI.of_steps{m m1:Machine}{c:Frame}{cs:List Frame}(hs:Steps P m m1)(hh:YI P ρ μ w m1 c cs e):YI P ρ μ w m c cs e:=by
 cases e with
 |ret v=>obtain⟨v',h1,h2⟩:=hh;exact⟨v',h1,hs.trans h2⟩
 |pan ch=>obtain⟨ch',h1,h2⟩:=hh;exact⟨ch',h1,hs.trans h2⟩
theorem Ew(hNG:AJ P)(hrec:KQ P ρ fl rec){args:List AV}{h1:AH}(hc:rec (.call g args none) h=some (.ended e cm,h1))
 {μ:Mu} {w:World} (hr:HR P ρ fl μ h w) {args':List Value} (ha:qF ρ μ w args args') (c:Frame) (cs:List Frame):
 (callFunc g args'.toArray).run P w= .ok (.enter g args'.toArray) w/\∃μ1 w1,yD P ρ fl μ h w μ1 h1 w1/\YI P ρ μ1 w1 (lone (Frame.enter P g args'.toArray .normal) (c::cs) w) c cs e:=by
 obtain⟨⟨fn,b,h3,h4⟩,h5⟩:=hrec _ _ _ _ hc
 refine⟨Cn hNG h3 h4 _ w,?_⟩
 obtain⟨h2,μ1,w1,f1,cs1,q1,q2,q3,q4⟩:=h5 μ w (c::cs) args' hr ha trivial
 cases cm with
 |some m=>cases h2
 |none=>
  have q4:cs1=c::cs:=q4
  subst q4
  refine⟨μ1,w1,q1,?_⟩
  cases e with
  |ret v=>
   obtain⟨v',s1,s2⟩:=SJ q3 (c:=c) (cs:=cs);exact⟨v',s1,q2.trans (.one s2)⟩
  |pan ch=>
   obtain⟨ch',s1,s2⟩:=NQ q3 (c:=c) (cs:=cs);exact⟨ch',s1,q2.trans (.one s2)⟩
section op
variable {fr:QC} {ops:Array Oper} {i:Nat} {r:List Nat} {k:List AI} {o:Oper} {out:Out} {h':AH}
theorem VD(hfr:fr.todo= .reg ops (i::r)::k)(hf:El P ρ μ w fr f):∃l,f.todo= .inRegion ops (i::r)::l/\XP μ k l:=by have:=hf.todo;rw[hfr]at this;obtain⟨it,l,h1,h2,h3⟩:=this;simp only[Yv]at h2;subst h2;exact⟨l,h1,h3⟩
theorem NA(hrec:KQ P ρ fl rec)(hfr:fr.todo= .reg ops (i::r)::k)(ho:ops[i]? =some o){h2:AH}(hx:XY rec fr o (.reg ops r) k (some (.ended e cm,h2))=some (out,h'))
 (hgo:∀μ w f cs,HR P ρ fl μ h w->El P ρ μ w fr f->∃μ1 w1,yD P ρ fl μ h w μ1 h2 w1/\YI P ρ μ1 w1 (lone f cs w) f cs e):QW P ρ fl fr h h' out:=by
 cases e with
 |ret v=>
  simp only[XY,fin]at hx;refine QW.pre (fr1:={fr with tmps:=vC fr.tmps o.dst v,todo:= .reg ops r::k}) ⟨rfl,rfl,rfl⟩ (fun μ w f cs hr hf hc=> ?_) (hrec _ _ _ _ hx);obtain⟨μ1,w1,q1,v',q2,q3⟩:=hgo μ w f cs hr hf;obtain⟨l,t1,t2⟩:=VD hfr hf;exact⟨μ1,w1,_,cs,q1,q3,El.fin (hf.u.mono q1.more q1.grows) hf.mode t1 (t2.mono q1.more) ho q2,Qf.refl (hc.mono q1.more q1.grows)⟩
 |pan c=>
  simp only[XY,jP,jV]at hx;obtain⟨rfl,rfl⟩:=hx;refine fun μ w f cs hr hf hc=>⟨Hn.refl fr,?_⟩;obtain⟨μ1,w1,q1,ch',q2,q3⟩:=hgo μ w f cs hr hf;rw[Fg hf.mode]at q3;have hu:=hf.u.mono q1.more q1.grows;exact⟨μ1,w1,_,cs,ch',q1,q3,⟨hu.fn,hu.tmps,hu.defers,hu.kind,hu.round,hu.rc⟩,rfl,q2,Qf.refl (hc.mono q1.more q1.grows)⟩
theorem gR{c:Call}(ho:o.op= .defer c)(ha:Js P T o tmps h=some (n,h')):∃g a,n= .defer g a:=by
 unfold Js at ha;rw[ho]at ha;simp only at ha;unfold Il at ha;split at ha;case h_2=>cases ha
 split at ha;case h_2=>cases ha
 split at ha;case h_2=>cases ha
 simp only[jP,jV]at ha;exact⟨_,_,ha.1.symm⟩
theorem Qs(ha:Js P T o tmps h=some (n,h'))(hn:∀g a,n≠ .defer g a):∀c,o.op≠ .defer c:=fun c hc=>by obtain⟨g,a,rfl⟩:=gR hc ha;exact hn g a rfl
theorem Nj{cs:List Frame}(hk:f.kind=Ui cm)(hc:cmR ρ μ w cm cs):
 (tryRecover f cs=none/\JL cm=(.lit .nilIface,cm))\/∃v cs',tryRecover f cs=some (v,cs')/\rel ρ μ w (JL cm).1 v/\Qf ρ μ w (JL cm).2 cs cs':=by
 cases cm with
 |none=>exact .inl ⟨by simp only[Ui]at hk;simp[tryRecover,hk],rfl⟩
 |some m=>
  obtain⟨c,r,rfl,hm⟩:=hc
  simp only[Ui]at hk
  cases m with
  |ret=>
   have hm:c.mode= .returning:=hm;exact .inl ⟨by simp[tryRecover,hk,hm],rfl⟩
  |pan ch=>
   obtain⟨c',e1,e2⟩:=hm
   cases ch with
   |nil=>
    obtain rfl:c'=[]:=e2;exact .inl ⟨by simp[tryRecover,hk,e1],rfl⟩
   |cons p rest=>
    obtain⟨a,b⟩:=p
    obtain⟨u,l',rfl,e3,e4⟩:=e2
    cases b with
    |true=>exact .inl ⟨by simp[tryRecover,hk,e1],rfl⟩
    |false=>exact .inr ⟨u,_,by simp[tryRecover,hk,e1],e3,c,r,_,rfl,rfl,_,rfl,u,l',rfl,e3,e4⟩
theorem Bc(cm:Option Mode):(JL cm).2.isSome=cm.isSome:=by unfold JL;split<;>rfl
theorem j5s(hT:TT.Sound P T)(hNG:AJ P)(hrec:KQ P ρ fl rec)(hfr:fr.todo= .reg ops (i::r)::k)(ho:ops[i]? =some o)(hwant:yQ ops fr.tmps o=some true)
 (hx:oG rec fr o (.reg ops r) k (Js P T o fr.tmps h)=some (out,h')):QW P ρ fl fr h h' out:=by
 have hopsound:∀{n:AN} {h1:AH},Js P T o fr.tmps h=some (n,h1)->∀{μ w f},HR P ρ fl μ h w->El P ρ μ w fr f->ZX P ρ fl μ h w ((execOp f.eval o).run P w) n h1:=by intro n h1 ha μ w f hr hf;exact UR hT hr (EL hf.u) ha
 have hwt:∀{μ w f},El P ρ μ w fr f->Region.wanted o (yielded ops f.tmps)=true:=by intro μ w f hf;exact UK hf.u.tmps hwant
 cases har:Js P T o fr.tmps h with
 |none=>rw[har]at hx;cases hx
 |some p=>
  obtain⟨n,h1⟩:=p
  rw[har]at hx
  cases n with
  |val a=>
   simp only[oG,fin]at hx;refine QW.pre (fr1:={fr with tmps:=vC fr.tmps o.dst a,todo:= .reg ops r::k}) ⟨rfl,rfl,rfl⟩ (fun μ w f cs hr hf hc=> ?_) (hrec _ _ _ _ hx);obtain⟨l,t1,t2⟩:=VD hfr hf;obtain⟨μ1,w1,v',q1,q2,q3⟩:=hopsound har hr hf;exact⟨μ1,w1,_,cs,q2,.one (GX hf.mode t1 ho (hwt hf) (.inr (Qs har (fun _ _=>by simp))) q1),El.fin (hf.u.mono q2.more q2.grows) hf.mode t1 (t2.mono q2.more) ho q3,Qf.refl (hc.mono q2.more q2.grows)⟩
  |enter g args=>
   simp only[oG]at hx
   cases hcall:rec (.call g args none) h1 with
   |none=>rw[hcall]at hx;cases hx
   |some p=>
    obtain⟨out1,h2⟩:=p
    cases out1 with
    |left j fr'=>have:=hrec _ _ _ _ hcall;exact this.elim
    |raised c fr'=>have:=hrec _ _ _ _ hcall;exact this.elim
    |ended e cm=>
     rw[hcall]at hx;refine NA hrec hfr ho hx (fun μ w f cs hr hf=> ?_);obtain⟨l,t1,t2⟩:=VD hfr hf;obtain⟨rfl,args',q1,q2⟩:=hopsound har hr hf;obtain⟨s1,μ1,w1,s2,s3⟩:=Ew hNG hrec hcall hr q1 f cs;rw[s1]at q2;exact⟨μ1,w1,s2,s3.of_steps (.one (Mr hf.mode t1 ho (hwt hf) (.inr (Qs har (fun _ _=>by simp))) q2))⟩
  |round l0 args=>
   simp only[oG]at hx
   cases hcall:rec (.round l0 args) h1 with
   |none=>rw[hcall]at hx;cases hx
   |some p=>
    obtain⟨out1,h2⟩:=p
    cases out1 with
    |left j fr'=>have:=hrec _ _ _ _ hcall;exact this.elim
    |raised c fr'=>have:=hrec _ _ _ _ hcall;exact this.elim
    |ended e cm=>
     rw[hcall]at hx;refine NA hrec hfr ho hx (fun μ w f cs hr hf=> ?_);obtain⟨l,t1,t2⟩:=VD hfr hf;obtain⟨rfl,rl,args',q0,q1,q2⟩:=hopsound har hr hf;obtain⟨_,s0⟩:=hrec _ _ _ _ hcall;obtain⟨g,tm,asg,body,s1,μ1,w1,s2,s3⟩:=s0 μ w f cs args' rl hr q0 q1;rw[s1]at q2;exact⟨μ1,w1,s2,s3.of_steps (.one (Ms hf.mode t1 ho (hwt hf) (.inr (Qs har (fun _ _=>by simp))) q2))⟩
  |defer g args=>
   simp only[oG,fin]at hx;split at hx
   ·cases hx
   ·rename_i hro
    refine QW.pre (fr1:={fr with defers:= .call g args::fr.defers,tmps:=vC fr.tmps o.dst kV,todo:= .reg ops r::k}) ⟨rfl,rfl,rfl⟩ (fun μ w f cs hr hf hc=> ?_) (hrec _ _ _ _ hx);obtain⟨l,t1,t2⟩:=VD hfr hf;obtain⟨rfl,d,args',q1,q2,q3,q4⟩:=hopsound har hr hf;have hron:f.roundOf=none:=by
     have:=hf.u.round;cases hq:fr.roundOf with
     |none=>rw[hq]at this;exact this
     |some x=>rw[hq]at hro;exact absurd rfl hro
    refine⟨μ,w,_,cs,yD.refl hr,.one (Ng hf.mode t1 ho (hwt hf) (.inl hron) q2),?_,Qf.refl hc⟩;exact El.fin (fr:={fr with defers:= .call g args::fr.defers}) (f:={f with defers:=d::f.defers}) ⟨hf.u.fn,hf.u.tmps,⟨d,_,rfl,⟨q3,args',q1,q4⟩,hf.u.defers⟩,hf.u.kind,hf.u.round,hf.u.rc⟩ hf.mode t1 t2 ho Kg
  |recover=>
   simp only[oG,fin]at hx;split at hx
   ·cases hx
   ·rename_i hro
    refine QW.pre (fr1:={fr with cm:=(JL fr.cm).2,tmps:=vC fr.tmps o.dst (JL fr.cm).1,todo:= .reg ops r::k}) ⟨rfl,rfl,Bc fr.cm⟩ (fun μ w f cs hr hf hc=> ?_) (hrec _ _ _ _ hx);obtain⟨l,t1,t2⟩:=VD hfr hf;obtain⟨rfl,q2⟩:=hopsound har hr hf;have hrn:fr.roundOf=none:=by
     cases hq:fr.roundOf with
     |none=>rfl
     |some x=>rw[hq]at hro;exact absurd rfl hro
    have hron:f.roundOf=none:=by have:=hf.u.round;rw[hrn]at this;exact this
    have hkind:f.kind=Ui (JL fr.cm).2:=by have h1:=Bc fr.cm;rw[hf.u.kind];cases hq:fr.cm<;>cases hq2:(JL fr.cm).2<;>simp_all [Ui]
    have fin2:∀v,rel ρ μ w (JL fr.cm).1 v->El P ρ μ w {fr with cm:=(JL fr.cm).2,tmps:=vC fr.tmps o.dst (JL fr.cm).1,todo:= .reg ops r::k} (f.finish v):=fun v hv=>
     El.fin (fr:={fr with cm:=(JL fr.cm).2}) ⟨hf.u.fn,hf.u.tmps,hf.u.defers,hkind,hf.u.round,fun hh=>by have hh:fr.roundOf.isSome=true:=hh;rw[hrn]at hh;cases hh⟩ hf.mode t1 t2 ho hv
    rcases Nj hf.u.kind hc with⟨e1,e2⟩|⟨v,cs',e1,e2,e3⟩
    ·have e3:(JL fr.cm).1= .lit .nilIface:=by rw[e2]
     have e4:(JL fr.cm).2=fr.cm:=by rw[e2]
     refine⟨μ,w,_,cs,yD.refl hr,.one (CU hf.mode t1 ho (hwt hf) (.inl hron) hron q2 e1),fin2 .nilIface (by rw[e3];exact vN rfl),?_⟩;show Qf ρ μ w (JL fr.cm).2 cs cs;rw[e4];exact Qf.refl hc
    ·exact⟨μ,w,_,cs',yD.refl hr,.one (CV hf.mode t1 ho (hwt hf) (.inl hron) hron q2 e1),fin2 v e2,e3⟩
  |pan v=>
   simp only[oG,jP,jV]at hx;obtain⟨rfl,rfl⟩:=hx;refine fun μ w f cs hr hf hc=>⟨Hn.refl fr,?_⟩;obtain⟨l,t1,t2⟩:=VD hfr hf;obtain⟨rfl,v',q1,q2⟩:=hopsound har hr hf;have hst:=bX (cs:=cs) hf.mode t1 ho (hwt hf) (.inr (Qs har (fun _ _=>by simp))) q1;rw[Fg hf.mode]at hst;have hu:=hf.u;exact⟨μ,w,_,cs,[{v:=v',recovered:=false}],yD.refl hr,.one hst,⟨hu.fn,hu.tmps,hu.defers,hu.kind,hu.round,hu.rc⟩,rfl,⟨v',[],rfl,q2,rfl⟩,Qf.refl hc⟩
theorem j39(hT:TT.Sound P T)(hNG:AJ P)(hrec:KQ P ρ fl rec)(hfr:fr.todo= .reg ops (i::r)::k)(hx:Nn P T rec fr ops i r k h=some (out,h')):QW P ρ fl fr h h' out:=by
 unfold Nn at hx;split at hx;case h_2=>cases hx
 rename_i o ho;split at hx
 ·rename_i hwant;exact j5s hT hNG hrec hfr ho hwant hx
 ·rename_i hwant;simp only[fin]at hx;refine QW.pre (fr1:={fr with tmps:=vC fr.tmps o.dst kV,todo:= .reg ops r::k}) ⟨rfl,rfl,rfl⟩ (fun μ w f cs hr hf hc=> ?_) (hrec _ _ _ _ hx);obtain⟨l,t1,t2⟩:=VD hfr hf;exact⟨μ,w,_,cs,yD.refl hr,.one (UH hf.mode t1 ho (UK hf.u.tmps hwant)),El.fin hf.u hf.mode t1 t2 ho Kg,Qf.refl hc⟩
 ·cases hx
end op
end
variable{x:Loop}
section
open Go Go.RowKit
variable {P:Program} {T:TT} {S:Qb} {ρ:Nat->Value} {fl:Nat} {μ μ':Mu} {h:AH} {w w':World} {rec:Ij}
theorem iN(f:Frame)(a:List Item)(b:List Deferred):Frame.eval {f with todo:=a,defers:=b}=f.eval:=by funext x;cases x<;>rfl
theorem WU(f:Frame)(v:Value):f.eval (.const v)=v:=rfl
theorem RI{F:Frame}{cs:List Frame}{s:Sem Next}{W W':World}{args:Array Value}(hr:s.run P W= .ok (.enter g args) W')(hk:∀d b c e k,F.todo≠ .call d b c e::k):
 (stepG.apply P true F cs none s W).bare= .go {frame:=Frame.enter P g args .normal,callers:=F::cs,status:= .running,dying:=none} W':=by
 simp[stepG.apply,hr]
 split
 ·rename_i heq;exact absurd heq (hk _ _ _ _ _)
 ·rfl
section code
variable {fr:QC} {k:List AI} {out:Out} {h':AH}
theorem Zd{c:Code}(hfr:fr.todo= .code c::k)(hf:El P ρ μ w fr f):∃l,f.todo= .code c::l/\XP μ k l:=by have:=hf.todo;rw[hfr]at this;obtain⟨it,l,h1,h2,h3⟩:=this;simp only[Yv]at h2;subst h2;exact⟨l,h1,h3⟩
theorem XU(hrec:KQ P ρ fl rec){k1:List AI}(hx:Yt rec fr k1 h=some (out,h'))
 (hstep:∀μ w f cs,HR P ρ fl μ h w->El P ρ μ w fr f->∃b,XP μ k1 b/\step P (lone f cs w)= .next (lone {f with todo:=b} cs w)):QW P ρ fl fr h h' out:=
 QW.go hstep (hrec _ _ _ _ hx)
theorem Pn{j:Option Code}(hl:∀μ w f,HR P ρ fl μ h w->El P ρ μ w fr f->tZ j f.todo):QW P ρ fl fr h h (.left j fr):=
 fun μ w f cs hr hf hc=>⟨Hn.refl fr,μ,w,f,cs,yD.refl hr,.refl P _,hf.u,hf.mode,hl μ w f hr hf,Qf.refl hc⟩
theorem oI(hT:TT.Sound P T)(hNG:AJ P)(hrec:KQ P ρ fl rec){f0:Operand}{params:Array Tmp}{asg body:Code}(hfr:fr.todo= .code (.rangeFunc f0 params asg body)::k)
 (hx:Fv P rec fr k h f0 params asg body=some (out,h')):QW P ρ fl fr h h' out:=by
 unfold Fv at hx
 split at hx
 case h_2=>cases hx
 rename_i fv hro hfv
 split at hx
 case h_2=>cases hx
 rename_i g args hca
 generalize hA:(h.push AB.defd).push (AB.loop {state:= .ready,pending:=none,fn:=fr.fn,tmps:=fr.tmps,params:=params.toList,assign:=asg,body})=hh at hx
 cases hcall:rec (.call g args none) hh with
 |none=>rw[hcall]at hx;cases hx
 |some p=>
  obtain⟨out1,h2⟩:=p
  cases out1 with
  |left j fr'=>have:=hrec _ _ _ _ hcall;exact this.elim
  |raised c fr'=>have:=hrec _ _ _ _ hcall;exact this.elim
  |ended e cm=>
   rw[hcall]at hx
   have key:∀μ w f cs,HR P ρ fl μ h w->El P ρ μ w fr f->∃(μ1:Mu) (w1:World) (l:List Item) (rl:Nat) (rd:Deferred),yD P ρ fl μ h w μ1 h2 w1/\XP μ1 k l/\μ1 (h.n+1)=some (rl,0)/\sS P ρ μ1 w1 (.coll h.n) rd/\
    YI P ρ μ1 w1 (lone f cs w) {f with todo:= .inRangeFunc rl::l,defers:=rd::f.defers} cs e:=fun μ w f cs hr hf=>by
    obtain⟨l,t1,t2⟩:=Zd hfr hf
    have e1:=yD.alloc hr (ab:= .defd) (o:= .deferred (some [])) ⟨rfl,rfl⟩
    have e2:=yD.alloc e1.hr (ab:= .loop {state:= .ready,pending:=none,fn:=fr.fn,tmps:=fr.tmps,params:=params.toList,assign:=asg,body}) (o:= .loop {state:= .ready,pending:=none,fn:=f.fn,tmps:=f.tmps,params,assign:=asg,body,defers:=w.heap.size})
     ⟨_,rfl,rfl,rfl,rfl,hf.u.fn,qF.mono e1.more e1.grows _ _ hf.u.tmps,rfl,rfl,rfl⟩
    have e3:=e1.trans hr e2
    have hlen:(h.push AB.defd).n=h.n+1:=rfl
    rw[hA]at e3
    have hsz:(w.alloc (.deferred (some []))).heap.size=w.heap.size+1:=by simp
    rw[hlen,hsz]at e3
    have hml:(up (up μ h.n (w.heap.size,0)) (h.n+1) (w.heap.size+1,0)) (h.n+1)=some (w.heap.size+1,0):=Jb _ _ _
    have hmd:(up (up μ h.n (w.heap.size,0)) (h.n+1) (w.heap.size+1,0)) h.n=some (w.heap.size,0):=by rw[XX (by omega),Jb]
    obtain⟨d,d1,d2,args',d3,d4⟩:=Ub (rel.mono e3.more e3.grows _ _ (EL hf.u f0 _ hfv))
     (rels_cons (show rel ρ (up (up μ h.n (w.heap.size,0)) (h.n+1) (w.heap.size+1,0)) _ (.fn (.yield (h.n+1)) [] []) (.func (.yield (w.heap.size+1)) #[] #[])by unfold rel;exact⟨.yield (w.heap.size+1),[],[],rfl,⟨_,hml,rfl⟩,rels_nil,rels_nil⟩) rels_nil) hca
    obtain⟨s1,μ1,w1,s2,s3⟩:=Ew hNG hrec hcall e3.hr d3 {f with todo:= .inRangeFunc (w.heap.size+1)::l,defers:={target:= .collected w.heap.size,args:= #[]}::f.defers} cs
    refine⟨μ1,w1,l,w.heap.size+1,{target:= .collected w.heap.size,args:= #[]},e3.trans hr s2,t2.mono (e3.more.trans s2.more),s2.more _ _ hml,⟨w.heap.size,s2.more _ _ hmd,rfl⟩,s3.of_steps (.one (step_lone_go ?_))⟩
    have hron:f.roundOf=none:=by have:=hf.u.round;rw[hro]at this;exact this
    have hin:=d4 ((w.alloc (.deferred (some []))).alloc (.loop {state:= .ready,pending:=none,fn:=f.fn,tmps:=f.tmps,params,assign:=asg,body,defers:=w.heap.size}))
    rw[s1]at hin
    have hof:=d1 ((w.alloc (.deferred (some []))).alloc (.loop {state:= .ready,pending:=none,fn:=f.fn,tmps:=f.tmps,params,assign:=asg,body,defers:=w.heap.size}))
    have hst:(stepG P true {frame:=f,callers:=cs,status:= .running,dying:=none} w).bare=(stepG.apply P true {f with todo:= .inRangeFunc (w.heap.size+1)::l,defers:={target:= .collected w.heap.size,args:= #[]}::f.defers} cs none
     (do let d <-resolve (Frame.eval {f with todo:= .inRangeFunc (w.heap.size+1)::l,defers:={target:= .collected w.heap.size,args:= #[]}::f.defers}) {callee:= .value f0,args:= #[.const (.func (.yield (w.heap.size+1)) #[] #[])],argTypes:= #[]} 0;invoke d.target d.args)
     ((w.alloc (.deferred (some []))).alloc (.loop {state:= .ready,pending:=none,fn:=f.fn,tmps:=f.tmps,params,assign:=asg,body,defers:=w.heap.size}))).bare:=by
     simp[stepG,stepG.exec,hf.mode,t1,Instr.enterLoop,hron]
    rw[hst]
    refine RI ?_ (by simp)
    rw[iN]
    simp[resolve,WU,hof,hin]
   cases e with
   |ret v=>
    simp only[AG]at hx;refine QW.pre (fr1:={fr with todo:= .endRF (h.n+1)::k,defers:= .coll h.n::fr.defers}) ⟨rfl,rfl,rfl⟩ (fun μ w f cs hr hf hc=> ?_) (hrec _ _ _ _ hx);obtain⟨μ1,w1,l,rl,rd,q1,q2,q3,q4,v',q5,q6⟩:=key μ w f cs hr hf;have hu:=hf.u.mono q1.more q1.grows;refine⟨μ1,w1,_,cs,q1,q6,⟨⟨hu.fn,hu.tmps,⟨rd,_,rfl,q4,hu.defers⟩,hu.kind,hu.round,hu.rc⟩,⟨_,l,rfl,⟨rl,q3,rfl⟩,q2⟩,hf.mode⟩,Qf.refl (hc.mono q1.more q1.grows)⟩
   |pan c=>
    simp only[AG,jP,jV]at hx;obtain⟨rfl,rfl⟩:=hx;refine fun μ w f cs hr hf hc=>⟨⟨rfl,rfl,rfl⟩,?_⟩;obtain⟨μ1,w1,l,rl,rd,q1,q2,q3,q4,ch',q5,q6⟩:=key μ w f cs hr hf;have q7:=Fg (c:={f with todo:= .inRangeFunc rl::l,defers:=rd::f.defers}) (ch':=ch') hf.mode;rw[q7]at q6;have hu:=hf.u.mono q1.more q1.grows;exact⟨μ1,w1,_,cs,ch',q1,q6,⟨hu.fn,hu.tmps,⟨rd,_,rfl,q4,hu.defers⟩,hu.kind,hu.round,hu.rc⟩,rfl,q5,Qf.refl (hc.mono q1.more q1.grows)⟩
theorem Vh{a:AI}(hfr:fr.todo=a::k)(hf:El P ρ μ w fr f):∃i l,f.todo=i::l/\Yv μ a i/\XP μ k l:=by have:=hf.todo;rw[hfr]at this;exact this
theorem Cw{l rl:Nat}{lo:cM}(hr:HR P ρ fl μ h w)(hm:μ l=some (rl,0))(hl:h.at l=some (.loop lo)):∃x,w.heap[rl]? =some (.loop x)/\Ps ρ μ w lo x:=by obtain⟨_,_,o,h1,h2⟩:=hr.obj l rl 0 _ hm hl;obtain⟨x,rfl,_,h3⟩:=h2;exact⟨x,h1,h3⟩
theorem Uo{rl:Nat}(hg:w.heap[rl]? =some (.loop x))(o':Obj):MJ rl w {w with heap:=w.heap.setIfInBounds rl o'}/\(w.heap.setIfInBounds rl o')[rl]? =some o'/\(setObj rl o').run P w= .ok () {w with heap:=w.heap.setIfInBounds rl o'}:=by
 have hlt:=VS hg;refine⟨⟨by simp,fun k hk=> ?_,fun k cur e fz hk=> ?_,⟨rfl,rfl,rfl⟩⟩,by simp[hlt],by simp[setObj,Sem.run,hg]⟩
 ·show(w.heap.setIfInBounds rl o')[k]? =_;rw[qZ,if_neg (Ne.symm hk)]
 ·have hne:rl≠k:=fun e'=>by subst e';rw[hg]at hk;cases hk
  exact⟨cur,e,fz,by show(w.heap.setIfInBounds rl o')[k]? =_;rw[qZ,if_neg hne];exact hk,rfl⟩
theorem Cv{rl:Nat}(hg:w.heap[rl]? =some (.loop x)):(Instr.getLoop rl).run P w= .ok x w:=by simp[Instr.getLoop,getObj,Sem.run,hg]
theorem Ls{l rl:Nat}{lo lo':cM}{x':Loop}(hr:HR P ρ fl μ h w)(hm:μ l=some (rl,0))(hl:h.at l=some (.loop lo))(hg:w.heap[rl]? =some (.loop x))(hx:Ps ρ μ w lo' x'):
 yD P ρ fl μ h w μ (h.put l (.loop lo')) {w with heap:=w.heap.setIfInBounds rl (.loop x')}:=by
 obtain⟨h1,h2,_⟩:=Uo (P:=default) hg (.loop x')
 obtain⟨g1,g2,g3,g4,g5,g6,g7⟩:=hx
 exact yD.upd hr hm hl rfl h1 h2 ⟨x',rfl,rfl,g1,g2,g3,qF.mono (yZ.refl μ) h1.grows _ _ g4,g5,g6,g7⟩
theorem oB(hrec:KQ P ρ fl rec)(hfr:fr.todo= .beginRound::k)(hx:Ft rec fr k h=some (out,h')):QW P ρ fl fr h h' out:=by
 unfold Ft at hx;split at hx;case h_2=>cases hx
 rename_i l hro;split at hx;case h_2=>cases hx
 rename_i lo hl;split at hx;case h_2=>cases hx
 rename_i hst;refine QW.pre (fr1:={fr with todo:=k}) ⟨rfl,rfl,rfl⟩ (fun μ w f cs hr hf hc=> ?_) (hrec _ _ _ _ hx);obtain⟨i,l2,t1,t2,t3⟩:=Vh hfr hf;simp only[Yv]at t2;subst t2;have hrd:=hf.u.round;rw[hro]at hrd;obtain⟨rl,hm,hron⟩:=hrd;obtain⟨x,g1,g2⟩:=Cw hr hm hl;obtain⟨g3,g4,g5,g6,g7,g8,g9⟩:=g2;have he:=Ls (lo':={lo with state:= .busy}) (x':={x with state:= .busy}) hr hm hl g1 ⟨rfl,g4,g5,g6,g7,g8,g9⟩;have hu:=hf.u.mono he.more he.grows;have hxs:x.state= .ready:=g3.trans hst;refine⟨μ,_,{f with todo:=l2},cs,he,.one (step_lone_go ?_),⟨⟨hu.fn,hu.tmps,hu.defers,hu.kind,hu.round,hu.rc⟩,t3,hf.mode⟩,Qf.refl (hc.mono he.more he.grows)⟩;simp[stepG,stepG.exec,hf.mode,t1,hron,stepG.apply,Instr.beginRound,Cv g1,(Uo (P:=P) g1 _).2.2,hxs,Frame.finish]
theorem j38(hrec:KQ P ρ fl rec){l:Nat}(hfr:fr.todo= .endRF l::k)(hx:oD rec fr l k h=some (out,h')):QW P ρ fl fr h h' out:=by
 unfold oD at hx;split at hx;case h_2=>cases hx
 rename_i lo hl;split at hx;case h_1=>cases hx
 rename_i hst;refine QW.pre (fr1:={fr with todo:=(lo.pending.map AI.code).toList++k}) ⟨rfl,rfl,rfl⟩ (fun μ w f cs hr hf hc=> ?_) (hrec _ _ _ _ hx);obtain⟨i,l2,t1,⟨rl,hm,t2⟩,t3⟩:=Vh hfr hf;subst t2;obtain⟨x,g1,g2⟩:=Cw hr hm hl;obtain⟨g3,g4,g5,g6,g7,g8,g9⟩:=g2;have he:=Ls (lo':={lo with state:= .exhausted}) (x':={x with state:= .exhausted}) hr hm hl g1 ⟨rfl,g4,g5,g6,g7,g8,g9⟩;have hu:=hf.u.mono he.more he.grows;have hxs:(x.state==LoopState.busy)=false:=by rw[g3];cases hq:lo.state<;>first|rfl|(exact absurd hq (by intro hh;exact hst (by first|exact hh|rfl)))
 refine⟨μ,_,{f with todo:=(x.pending.map Item.code).toList++l2},cs,he,.one (step_lone_go ?_),⟨⟨hu.fn,hu.tmps,hu.defers,hu.kind,hu.round,hu.rc⟩,?_,hf.mode⟩,Qf.refl (hc.mono he.more he.grows)⟩
 ·have hend:(Instr.endLoop rl).run P w= .ok x.pending {w with heap:=w.heap.setIfInBounds rl (.loop {x with state:= .exhausted})}:=by
   unfold Instr.endLoop
   rw[xU,Cv g1]
   simp only[xT,hxs]
   rw[if_neg (by simp),xU]
   simp[(Uo (P:=P) g1 _).2.2]
  simp[stepG,stepG.exec,hf.mode,t1,hend]
 ·show XP μ ((lo.pending.map AI.code).toList++k) _;rw[g4];cases lo.pending with
  |none=>exact t3
  |some c=>exact⟨_,l2,rfl,rfl,t3⟩
end code
end
end Go.Proofs.YtcieggahhkoeeaaGreat.Ex
