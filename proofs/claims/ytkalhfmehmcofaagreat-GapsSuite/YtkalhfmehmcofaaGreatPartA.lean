/- -/
import Derived.WalkKit
import Derived.RangeFuncWrites
import Derived.RangeFuncCalls
import Derived.OrdersIn
import Derived.TacticsIn
set_option linter.unusedVariables false
set_option linter.defProp false
set_option linter.unusedSimpArgs false
theorem ω{P:Prop}(h:P:=by omega):P:=h
theorem κ{P:Prop}(h:P:=by kernel_rfl):P:=h
theorem ς{P:Prop}(h:P:=by simp):P:=h
theorem θ{P:Prop}(h:P:=by decide):P:=h
theorem ξ{P Q:Prop}(h:Q)(k:Q->P:=by intro h;simpa using h):P:=k h
namespace Go
abbrev pB:=@List.getElem?_eq_getElem
abbrev pC:=@List.getElem?_eq_some_iff
abbrev pD:=@List.mem_append
abbrev pE:=@Int.toNat_natCast
abbrev pF:=@Nat.le_refl
abbrev pG:=@List.mem_cons
abbrev pH:=@List.getElem?_append_right
abbrev pI:=@List.getElem?_append_left
abbrev pJ:=@Nat.le_trans
abbrev pK:=@List.mem_singleton
abbrev pL:=@List.getElem?_eq_none
abbrev pM:=@Nat.lt_or_ge
abbrev pN:=@Bool.and_eq_true
abbrev pO:=@List.getElem_mem
abbrev pP:=@List.append_assoc
abbrev pQ:=@Nat.zero_le
abbrev pR:=@Array.getElem?_eq_some_iff
abbrev pT:=@List.mem_of_getElem?
abbrev pU:=@List.nodup_append
abbrev pV:=@Nat.mul_le_mul_right
abbrev pW:=@List.length_append
abbrev pX:=@Option.getD_some
abbrev pY:=@List.mem_map
abbrev pZ:=@Option.map_eq_some_iff
abbrev hU:=@List.length_take
abbrev gA:=@List.nodup_cons
abbrev gB:=@List.getElem?_take
abbrev gC:=@List.append_nil
abbrev gD:=@List.length_map
abbrev gE:=@Classical.byContradiction
abbrev gF:=@List.not_mem_nil
abbrev gG:=@List.getElem?_map
abbrev gH:=@Nat.lt_succ_self
abbrev gI:=@List.take_add_one
abbrev gJ:=@List.mem_of_mem_take
abbrev gK:=@Option.map_some
abbrev gL:=@Array.getD_eq_getD_getElem?
abbrev gM:=@List.all_eq_true
abbrev gN:=@List.mem_range
abbrev gO:=@List.map_cons
abbrev gP:=@Bool.false_eq_true
abbrev gQ:=@List.length_cons
abbrev gR:=@List.getElem?_replicate
abbrev gS:=@List.getElem?_set_ne
abbrev gT:=@List.mem_iff_getElem?
abbrev gU:=@List.map_append
abbrev gV:=@Int.natCast_mul
abbrev gW:=@List.ext_getElem?
abbrev gX:=@List.cons_append
abbrev gY:=@Nat.mul_le_mul
abbrev gZ:=@Nat.add_mul
abbrev mA:=@List.nil_append
abbrev mB:=@Array.getElem?_eq_getElem
abbrev mC:=@Nat.zero_add
abbrev mD:=@List.getElem?_set_self
abbrev mE:=@List.take_append_drop
abbrev mF:=@List.drop_drop
abbrev mG:=@List.take_length
abbrev mH:=@Bool.not_true
abbrev mI:=@List.drop_eq_nil_of_le
abbrev mJ:=@Array.getElem?_push
abbrev mK:=@List.mem_filter
abbrev mL:=@List.pairwise_iff_getElem
abbrev mM:=@Nat.min_eq_left
abbrev mN:=@Bool.or_eq_true
abbrev mO:=@List.length_eq_one_iff
abbrev mP:=@List.map_map
abbrev mQ:=@Array.getElem?_toList
abbrev mR:=@List.length_replicate
abbrev mS:=@Int.natCast_nonneg
abbrev mT:=@List.length_reverse
abbrev mU:=@List.getElem?_drop
abbrev mV:=@Nat.add_zero
abbrev mW:=@List.drop_eq_getElem_cons
abbrev mX:=@List.mem_flatMap
abbrev mY:=@List.mem_cons_of_mem
abbrev mZ:=@List.eq_of_mem_replicate
abbrev nA:=@List.length_filter_le
abbrev nB:=@List.replicate_succ
abbrev nC:=@List.map_congr_left
abbrev nD:=@Nat.add_sub_cancel_left
abbrev nE:=@Nat.lt_trichotomy
abbrev nF:=@List.eq_nil_of_length_eq_zero
abbrev nG:=@Array.ext_getElem?
abbrev nH:=@List.pairwise_cons
abbrev nI:=@Nat.mul_comm
abbrev nJ:=@Int.toNat_of_nonneg
abbrev nK:=@Array.getElem?_modify
abbrev nL:=@Nat.le_succ_of_le
abbrev nM:=@Bool.not_false
abbrev nN:=@Int.tmod_eq_emod_of_nonneg
abbrev nO:=@Nat.sub_self
abbrev nP:=@List.take_of_length_le
abbrev nQ:=@Option.bind_some
abbrev nR:=@Nat.sub_zero
abbrev nT:=@Array.getElem?_append_left
abbrev nU:=@Nat.one_mul
abbrev nV:=@List.length_pos_iff
abbrev nW:=@List.getElem?_range
abbrev nX:=@List.set_cons_zero
abbrev nY:=@Nat.mod_eq_of_lt
abbrev nZ:=@Array.empty_append
abbrev re:=@List.mem_cons_self
abbrev rf:=@List.mem_append_left
abbrev rh:=@List.pairwise_append
abbrev ri:=@List.length_eq_zero_iff
abbrev rj:=@Int.eq_ofNat_of_zero_le
abbrev rl:=@List.reverse_cons
abbrev rA:=@Ne.symm
abbrev rB:=@List.map_nil
abbrev rC:=@Nat.pow_succ
abbrev rD:=@Bool.false_or
abbrev rE:=@Prod.ext
abbrev rF:=@Bool.cond_eq_ite
abbrev rG:=@Nat.eq_zero_or_pos
abbrev rH:=@List.eq_nil_or_concat
abbrev rI:=@List.headD_cons
abbrev rJ:=@Option.isSome_iff_exists
abbrev rK:=@List.mem_of_mem_drop
abbrev rN:=@List.getElem?_of_mem
abbrev rO:=@List.range_succ
abbrev rP:=@List.Pairwise.imp_of_mem
abbrev rQ:=@List.flatMap_cons
abbrev rR:=@List.getElem?_cons_succ
abbrev rS:=@Array.getElem?_setIfInBounds
abbrev rT:=@List.map_fst_zip
abbrev rU:=@List.take_take
abbrev rV:=@Array.getElem?_eq_none
abbrev rW:=@List.getElem?_toArray
abbrev rX:=@List.foldl_cons
abbrev rY:=@List.mem_append_right
abbrev rZ:=@List.Pairwise.sublist
abbrev s5:=@Int.lt_irrefl
abbrev s6:=@List.size_toArray
abbrev s7:=@List.getElem?_set
abbrev s8:=@Bool.not_eq_true'
abbrev s9:=@List.pairwise_map
abbrev sd:=@List.length_erase_of_mem
abbrev so:=@List.any_eq_true
abbrev sA:=@List.take_succ_cons
abbrev sB:=@List.mem_singleton_self
abbrev sC:=@Nat.lt_irrefl
abbrev sD:=@Bool.and_true
abbrev sE:=@List.set_cons_succ
abbrev sF:=@Nat.mod_lt
abbrev sG:=@List.nodup_nil
abbrev sH:=@List.contains_iff_mem
abbrev sI:=@Nat.succ_mul
abbrev sJ:=@List.countP_le_length
abbrev sK:=@List.set_append_right
abbrev sL:=@List.countP_cons
abbrev sO:=@Bool.and_self
abbrev sP:=@Nat.add_assoc
abbrev sQ:=@List.getD_eq_getElem?_getD
abbrev sR:=@Bool.true_and
abbrev sS:=@Int.tdiv_eq_ediv_of_nonneg
abbrev sT:=@Array.length_toList
abbrev sU:=@List.length_set
abbrev sV:=@List.set_append
abbrev sW:=@Int.tmod_nonneg
abbrev sX:=@Nat.add_comm
abbrev sY:=@Int.tmod_lt_of_pos
end Go
namespace Go.Own
abbrev TA:=List (List Int)
abbrev TB:=List Int
abbrev TC:=List Nat
abbrev TD:=Option Nat
abbrev TE:=List Value
inductive Vq where
 |deref
 |fld (i:Nat)
 |idx (i:Nat)
 deriving DecidableEq
abbrev zf:=Nat->Nat->Option Value
structure Opq where
 holds:zf->Array Obj->Value->TC->Prop
 multi:Bool:=false
 one:∀{S:zf} {h:Array Obj} {v:Value} {F:TC},holds S h v F->v.oneCell'=true\/multi=true/\∃vs,v=.tuple vs
 frame:∀{S S':zf} {h h':Array Obj} {v:Value} {F:TC},(∀b o u,S b o=some u->S' b o=some u)->(∀k∈F,h'[k]?=h[k]?/\∀o,S' k o=none)->holds S h v F->holds S' h' v F
 own:∀{S:zf} {h:Array Obj} {v:Value} {F:TC},holds S h v F->∀k∈F,k<h.size/\∀o,S k o=none
 idx:Nat
structure Qv where
 holds:zf->Array Obj->Value->TC->Prop
 one:∀{S:zf} {h:Array Obj} {v:Value} {F:TC},holds S h v F->v.oneCell'=true
 frame:∀{S S':zf} {h h':Array Obj} {v:Value} {F:TC},(∀b o u,S b o=some u->S' b o=some u)->(∀k∈F,h'[k]?=h[k]?/\∀o,S' k o=none)->holds S h v F->holds S' h' v F
 own:∀{S:zf} {h:Array Obj} {v:Value} {F:TC},holds S h v F->∀k∈F,k<h.size/\∀o,S k o=none
 idx:Nat
def Qv.q (o:Qv):Opq:=⟨o.holds,false,λh=>.inl (o.one h),o.frame,o.own,o.idx⟩
def Opq.single (o:Opq)(h:o.multi=false):Qv:=⟨o.holds,λq=>(o.one q).resolve_right (λk=>by rw[h]at k;simp at k),o.frame,o.own,o.idx⟩
structure Dpq where
 holds:zf->Value->Prop
 one:∀{S:zf} {v:Value},holds S v->v.oneCell'=true
 mono:∀{S S':zf} {v:Value},(∀b o u,S b o=some u->S' b o=some u)->holds S v->holds S' v
inductive A where
 |atom (v:Value)
 |fn (f:Nat) (caps:List A)
 |agg (fs:List A)
 |tup (fs:List A)
 |sl (sz:Nat) (t:Bool) (xs:List A)
 |sptr (x:A)
 |osl (sz:Nat) (t:Bool) (es:List A)
 |box (x:A)
 |dead (n:Nat)
 |opq (o:Opq)
 |dop (o:Dpq)
mutual
def A.size:A->Nat
 |.agg fs=>A.sizes fs
 |.dead n=>n
 |.tup _=>0
 |_=>1
def A.sizes:List A->Nat
 |[]=>0
 |a::as_=>a.size+A.sizes as_
end
mutual
def A.isD:A->Bool
 |.agg fs=>A.areD fs
 |.atom _|.fn _ _|.sl _ _ _|.sptr _|.dop _=>true
 |_=>false
def A.areD:List A->Bool
 |[]=>true
 |a::as_=>a.isD&&A.areD as_
end
mutual
def A.plain:A->Bool
 |.agg fs=>A.plains fs
 |.opq o=>!o.multi
 |_=>true
def A.plains:List A->Bool
 |[]=>true
 |a::as_=>a.plain&&A.plains as_
end
def zh4:Value->Bool
 |.agg _=>false
 |_=>true
variable {v:Value}
def J0 (h:v.oneCell'=true):zh4 v=true:=by cases v<;>first|rfl|(simp[Value.oneCell']at h)
mutual
def A.live:A->Bool
 |.agg fs=>A.lives fs
 |.osl _ _ es=>A.lives es
 |.box x=>x.live
 |.dead _=>false
 |.opq _=>false
 |.tup _=>false
 |_=>true
def A.lives:List A->Bool
 |[]=>true
 |a::as_=>a.live&&A.lives as_
end
mutual
def A.shut:A->A
 |.agg fs=>.agg (A.shuts fs)
 |.osl sz t es=>.sl sz t (A.shuts es)
 |.box x=>.sptr x.shut
 |x=>x
def A.shuts:List A->List A
 |[]=>[]
 |a::as_=>a.shut::A.shuts as_
end
mutual
def A.loose:A->A
 |.agg fs=>.agg (A.looses fs)
 |.tup fs=>.tup (A.looses fs)
 |.sl sz _ xs=>.sl sz false (A.looses xs)
 |.osl sz _ es=>.osl sz false (A.looses es)
 |.sptr x=>.sptr x.loose
 |.box x=>.box x.loose
 |.fn f caps=>.fn f (A.looses caps)
 |.atom v=>.atom v
 |.dead n=>.dead n
 |.opq o=>.opq o
 |.dop o=>.dop o
def A.looses:List A->List A
 |[]=>[]
 |a::as_=>a.loose::A.looses as_
end
def zU (h:Array Obj)(b o:Nat):Option Value :=
 match h[b]? with
 |some (.cells c _ _)=>c[o]?
 |_=>none
def z4h (S:zf)(b o:Nat)(l:TE):Prop:=∀j v,l[j]?=some v->S b (o+j)=some v
mutual
def Rep (S:zf):A->TE->Prop
 |.atom v,cs=>cs=[v]/\v.oneCell'=true
 |.fn f caps,cs=>∃vs,zX S caps vs/\(∀c∈caps,c.size=1/\∀fs,c≠.agg fs)/\cs=[.func (.func f) #[] vs.toArray]
 |.agg fs,cs=>zX S fs cs
 | .sl sz t xs,cs=>∃p c,cs=[.slice p xs.length c]/\(t=true->c=xs.length)/\xs.length<=c/\(∀x∈xs,x.size=sz) /\
   (xs=[]\/∃b o l,p=some ⟨b,o,none⟩/\zX S xs l/\z4h S b o l)
 |.sptr x,cs=>∃b o l,cs=[.pointer (some ⟨b,o,none⟩)]/\Rep S x l/\z4h S b o l
 |.dop q,cs=>∃v,cs=[v]/\q.holds S v
 |_,_=>False
def zX (S:zf):List A->TE->Prop
 |[],cs=>cs=[]
 |a::as_,cs=>∃c1 c2,cs=c1++c2/\Rep S a c1/\zX S as_ c2
end
mutual
def zD (S:zf)(h:Array Obj):A->TE->TC->Prop
  |.osl sz t es,cs,F=>∃p c,cs=[.slice p es.length c]/\(t=true->c=es.length)/\es.length<=c/\c<=maxLen/\(∀x∈es,x.size=sz) /\
      ((es=[]/\c=0/\p=none/\F=[]) \/
       ∃b arr ty l F',p=some ⟨b,0,none⟩/\h[b]?=some (.cells arr ty (0,0))/\c*sz<=arr.size/\arr.toList.take (es.length*sz)=l/\zH S h es l F'/\F=b::F'/\∀o,S b o=none)
  |.box x,cs,F=>∃b ty l F',cs=[.pointer (some ⟨b,0,none⟩)]/\h[b]?=some (.cells l.toArray ty (0,0))/\zD S h x l F'/\F=b::F'/\∀o,S b o=none
  |.agg fs,cs,F=>zH S h fs cs F
  |.dead n,cs,F=>cs.length=n/\(∀u∈cs,u.oneCell'=true)/\F=[]
  |.opq o,cs,F=>∃v,cs=[v]/\o.holds S h v F
  |.atom v,cs,F=>Rep S (.atom v) cs/\F=[]
  |.fn f caps,cs,F=>Rep S (.fn f caps) cs/\F=[]
  |.sl sz t xs,cs,F=>Rep S (.sl sz t xs) cs/\F=[]
  |.sptr x,cs,F=>Rep S (.sptr x) cs/\F=[]
  |.dop q,cs,F=>Rep S (.dop q) cs/\F=[]
  |.tup _,_,_=>False
def zH (S:zf)(h:Array Obj):List A->TE->TC->Prop
 |[],cs,F=>cs=[]/\F=[]
 |a::as_,cs,F=>∃c1 c2 F1 F2,cs=c1++c2/\F=F1++F2/\zD S h a c1 F1/\zH S h as_ c2 F2
end
variable {l:TE}
def z4h.mono {S S':zf}(h:∀b o v,S b o=some v->S' b o=some v){b o:Nat}  (hl:z4h S b o l):z4h S' b o l :=
 λj v hj=>h _ _ _ (hl j v hj)
mutual
theorem Rep.mono {S S':zf}(h:∀b o v,S b o=some v->S' b o=some v):∀{a:A} {cs:TE},Rep S a cs->Rep S' a cs
 |.atom _,_,r=>by simpa only[Rep] using r
 |.fn _ caps,_,r=>by simp[Rep]at r⊢;have ⟨vs,h1,h2,h3⟩:=r;exact⟨vs,zX.mono h h1,h2,h3⟩
 |.agg fs,_,r=>by simp[Rep]at r⊢;exact zX.mono h r
 |.sl _ _ xs,_,r=>by simp[Rep]at r⊢;have ⟨p,c,h1,h2,h3,h4,h5⟩:=r;refine⟨p,c,h1,h2,h3,h4,h5.imp id ?_⟩;rintro⟨b,o,l,e,g,k⟩;exact⟨b,o,l,e,zX.mono h g,k.mono h⟩
 |.sptr x,_,r=>by simp[Rep]at r⊢;have ⟨b,o,l,e,g,k⟩:=r;exact⟨b,o,l,e,Rep.mono h g,k.mono h⟩
 |.dop q,_,r=>by simp[Rep]at r⊢;have ⟨v,e,g⟩:=r;exact⟨v,e,q.mono h g⟩
 |.tup _,_,r=>by simp[Rep]at r
 |.osl _ _ _,_,r=>by simp[Rep]at r
 |.box _,_,r=>by simp[Rep]at r
 |.dead _,_,r=>by simp[Rep]at r
 |.opq _,_,r=>by simp[Rep]at r
theorem zX.mono {S S':zf}(h:∀b o v,S b o=some v->S' b o=some v):∀{as_:List A} {cs:TE},zX S as_ cs->zX S' as_ cs
 |[],_,r=>by simpa only[zX] using r
 |a::as_,_,r=>by simp[zX]at r⊢;have ⟨c1,c2,e,r1,r2⟩:=r;exact⟨c1,c2,e,Rep.mono h r1,zX.mono h r2⟩
end
variable {S:zf}
mutual
def Rep.len:∀{a:A} {cs:TE},Rep S a cs->cs.length=a.size
 |.atom _,_,r=>by simp only[Rep]at r;simp[r.1,A.size]
 |.fn _ caps,_,r=>by simp only[Rep]at r;have ⟨vs,h1,h2,h3⟩:=r;simp[h3,A.size]
 |.agg fs,_,r=>by simp only[Rep]at r;simp only[A.size];exact zX.len r
 |.sl _ _ xs,_,r=>by simp only[Rep]at r;have ⟨p,c,h1,_⟩:=r;simp[h1,A.size]
 |.sptr x,_,r=>by simp only[Rep]at r;have ⟨b,o,l,e,_⟩:=r;simp[e,A.size]
 |.dop _,_,r=>by simp only[Rep]at r;obtain⟨v,rfl,_⟩:=r;rfl
 |.tup _,_,r=>by simp only[Rep]at r
 |.osl _ _ _,_,r=>by simp only[Rep]at r
 |.box _,_,r=>by simp only[Rep]at r
 |.dead _,_,r=>by simp only[Rep]at r
 |.opq _,_,r=>by simp only[Rep]at r
def zX.len:∀{as_:List A} {cs:TE},zX S as_ cs->cs.length=A.sizes as_
 |[],_,r=>by simp only[zX]at r;simp[r,A.sizes]
 |a::as_,_,r=>by simp only[zX]at r;have ⟨c1,c2,e,r1,r2⟩:=r;simp[e,A.sizes,Rep.len r1,zX.len r2]
end
mutual
def Rep.one:∀{a:A} {cs:TE},Rep S a cs->∀u∈cs,u.oneCell'=true
 |.atom _,_,r=>by simp only[Rep]at r;obtain⟨rfl,h⟩:=r;simpa using h
 |.fn _ caps,_,r=>by simp only[Rep]at r;obtain⟨vs,h1,h2,rfl⟩:=r;simp[Value.oneCell']
 |.agg fs,_,r=>by simp only[Rep]at r;exact zX.one r
 |.sl _ _ xs,_,r=>by simp only[Rep]at r;obtain⟨p,c,rfl,_⟩:=r;simp[Value.oneCell']
 |.sptr x,_,r=>by simp only[Rep]at r;obtain⟨b,o,l,rfl,_⟩:=r;simp[Value.oneCell']
 |.dop q,_,r=>by simp only[Rep]at r;obtain⟨v,rfl,g⟩:=r;intro u hu;rw[pK.1 hu];exact q.one g
 |.tup _,_,r=>by simp only[Rep]at r
 |.osl _ _ _,_,r=>by simp only[Rep]at r
 |.box _,_,r=>by simp only[Rep]at r
 |.dead _,_,r=>by simp only[Rep]at r
 |.opq _,_,r=>by simp only[Rep]at r
def zX.one:∀{as_:List A} {cs:TE},zX S as_ cs->∀u∈cs,u.oneCell'=true
 |[],_,r=>by simp only[zX]at r;simp[r]
 |a::as_,_,r=>by
  simp only[zX]at r;obtain⟨c1,c2,rfl,r1,r2⟩:=r;intro u hu;rcases pD.1 hu with h|h
  ·exact Rep.one r1 u h
  exact zX.one r2 u h
end
variable {h:Array Obj}
mutual
def zD.len:∀{a:A} {cs:TE} {F:TC},zD S h a cs F->cs.length=a.size
 |.osl _ _ _,_,_,r=>by simp only[zD]at r;have ⟨p,c,e,_⟩:=r;simp[e,A.size]
 |.box _,_,_,r=>by simp only[zD]at r;have ⟨b,ty,l,F',e,_⟩:=r;simp[e,A.size]
 |.agg fs,_,_,r=>by simp only[zD]at r;simp only[A.size];exact zH.len r
 |.dead _,_,_,r=>by simp only[zD]at r;simp[r.1,A.size]
 |.opq _,_,_,r=>by simp only[zD]at r;obtain⟨v,rfl,_⟩:=r;rfl
 |.atom _,_,_,r=>by simp only[zD]at r;exact r.1.len
 |.fn _ _,_,_,r=>by simp only[zD]at r;exact r.1.len
 |.sl _ _ _,_,_,r=>by simp only[zD]at r;exact r.1.len
 |.sptr _,_,_,r=>by simp only[zD]at r;exact r.1.len
 |.dop _,_,_,r=>by simp only[zD]at r;exact r.1.len
 |.tup _,_,_,r=>by simp only[zD]at r
def zH.len:∀{as_:List A} {cs:TE} {F:TC},zH S h as_ cs F->cs.length=A.sizes as_
 |[],_,_,r=>by simp only[zH]at r;simp[r.1,A.sizes]
 |a::as_,_,_,r=>by simp only[zH]at r;have ⟨c1,c2,F1,F2,e,_,r1,r2⟩:=r;simp[e,A.sizes,zD.len r1,zH.len r2]
end
mutual
def Rep.plain:∀{a:A} {cs:TE},Rep S a cs->a.plain=true
 |.atom _,_,_=>rfl
 |.fn _ _,_,_=>rfl
 |.agg fs,_,r=>by simp[Rep]at r;simp[A.plain];exact zX.plain r
 |.sl _ _ _,_,_=>rfl
 |.sptr _,_,_=>rfl
 |.dop _,_,_=>rfl
 |.tup _,_,_=>rfl
 |.osl _ _ _,_,_=>rfl
 |.box _,_,_=>rfl
 |.dead _,_,_=>rfl
 |.opq _,_,r=>by simp[Rep]at r
def zX.plain:∀{as_:List A} {cs:TE},zX S as_ cs->A.plains as_=true
 |[],_,_=>rfl
 |a::as_,_,r=>by simp[zX]at r;have ⟨c1,c2,_,r1,r2⟩:=r;simp[A.plains,Rep.plain r1,zX.plain r2,sO]
end
mutual
def zD.one:∀{a:A} {cs:TE} {F:TC},zD S h a cs F->∀u∈cs,zh4 u=true/\(a.plain=true->u.oneCell'=true)
 |.osl _ _ _,_,_,r=>by simp only[zD]at r;obtain⟨p,c,rfl,_⟩:=r;simp[Value.oneCell',zh4]
 |.box _,_,_,r=>by simp only[zD]at r;obtain⟨b,ty,l,F',rfl,_⟩:=r;simp[Value.oneCell',zh4]
 |.agg fs,_,_,r=>by simp only[zD]at r;simp only[A.plain];exact zH.one r
 |.dead _,_,_,r=>by simp only[zD]at r;exact λu hu=>⟨J0 (r.2.1 u hu),λ_=>r.2.1 u hu⟩
 |.opq o,_,_,r=>by
  simp only[zD]at r;obtain⟨v,rfl,q⟩:=r;intro u hu;simp only[pG,gF,or_false]at hu;subst hu;rcases o.one q with g|⟨g,vs,rfl⟩
  ·exact⟨J0 g,λ_=>g⟩
  exact⟨rfl,λk=>by simp[A.plain,g]at k⟩
 |.atom _,_,_,r=>by simp only[zD]at r;exact λu hu=>⟨J0 (r.1.one u hu),λ_=>r.1.one u hu⟩
 |.fn _ _,_,_,r=>by simp only[zD]at r;exact λu hu=>⟨J0 (r.1.one u hu),λ_=>r.1.one u hu⟩
 |.sl _ _ _,_,_,r=>by simp only[zD]at r;exact λu hu=>⟨J0 (r.1.one u hu),λ_=>r.1.one u hu⟩
 |.sptr _,_,_,r=>by simp only[zD]at r;exact λu hu=>⟨J0 (r.1.one u hu),λ_=>r.1.one u hu⟩
 |.dop _,_,_,r=>by simp only[zD]at r;exact λu hu=>⟨J0 (r.1.one u hu),λ_=>r.1.one u hu⟩
 |.tup _,_,_,r=>by simp only[zD]at r
def zH.one:∀{as_:List A} {cs:TE} {F:TC},zH S h as_ cs F->∀u∈cs,zh4 u=true/\(A.plains as_=true->u.oneCell'=true)
 |[],_,_,r=>by simp only[zH]at r;simp[r.1]
 |a::as_,_,_,r=>by
  simp only[zH]at r;obtain⟨c1,c2,F1,F2,rfl,_,r1,r2⟩:=r;intro u hu;simp only[A.plains,pN];rcases pD.1 hu with h|h
  ·exact⟨(zD.one r1 u h).1,λk=>(zD.one r1 u h).2 k.1⟩
  exact⟨(zH.one r2 u h).1,λk=>(zH.one r2 u h).2 k.2⟩
end
variable {cs:TE}{F:TC}
def zD.na {a:A}   (r:zD S h a cs F):∀u∈cs,zh4 u=true:=λu hu=>(r.one u hu).1
def zD.one1 {a:A}   (r:zD S h a cs F)(hp:a.plain=true):∀u∈cs,u.oneCell'=true:=λu hu=>(r.one u hu).2 hp
mutual
theorem zD.frame {S S':zf}{h h':Array Obj}(hS:∀b o v,S b o=some v->S' b o=some v):∀{a:A} {cs:TE} {F:TC},zD S h a cs F ->
  (∀k∈F,h'[k]?=h[k]?/\∀o,S' k o=none)->zD S' h' a cs F
 |.osl _ _ _,_,_,r,hF=>by simp only[zD]at r⊢;have ⟨p,c,e,h1,h2,h3,h4,h5⟩:=r;refine⟨p,c,e,h1,h2,h3,h4,h5.imp id ?_⟩;rintro⟨b,arr,ty,l,F',e1,e2,e3,e4,e5,rfl,e7⟩;exact⟨b,arr,ty,l,F',e1,by rw[(hF b ς).1];exact e2,e3,e4,zH.frame hS e5 (λk hk=>hF k (by simp[hk])),rfl,(hF b ς).2⟩
 |.box _,_,_,r,hF=>by simp only[zD]at r⊢;obtain⟨b,ty,l,F',e,e1,e2,rfl,e4⟩:=r;exact⟨b,ty,l,F',e,by rw[(hF b ς).1];exact e1,zD.frame hS e2 (λk hk=>hF k (by simp[hk])),rfl,(hF b ς).2⟩
 |.agg fs,_,_,r,hF=>by simp only[zD]at r⊢;exact zH.frame hS r hF
 |.dead _,_,_,r,_=>by simpa only[zD] using r
 |.opq o,_,_,r,hF=>by simp only[zD]at r⊢;have ⟨v,e,q⟩:=r;exact⟨v,e,o.frame hS hF q⟩
 |.atom _,_,_,r,_=>by simp only[zD]at r⊢;exact⟨r.1.mono hS,r.2⟩
 |.fn _ _,_,_,r,_=>by simp only[zD]at r⊢;exact⟨r.1.mono hS,r.2⟩
 |.sl _ _ _,_,_,r,_=>by simp only[zD]at r⊢;exact⟨r.1.mono hS,r.2⟩
 |.sptr _,_,_,r,_=>by simp only[zD]at r⊢;exact⟨r.1.mono hS,r.2⟩
 |.dop _,_,_,r,_=>by simp only[zD]at r⊢;exact⟨r.1.mono hS,r.2⟩
 |.tup _,_,_,r,_=>by simp only[zD]at r
theorem zH.frame {S S':zf}{h h':Array Obj}(hS:∀b o v,S b o=some v->S' b o=some v):∀{as_:List A} {cs:TE} {F:TC},zH S h as_ cs F ->
  (∀k∈F,h'[k]?=h[k]?/\∀o,S' k o=none)->zH S' h' as_ cs F
 |[],_,_,r,_=>by simpa only[zH] using r
 |a::as_,_,_,r,hF=>by simp only[zH]at r⊢;obtain⟨c1,c2,F1,F2,rfl,rfl,r1,r2⟩:=r;exact⟨c1,c2,F1,F2,rfl,rfl,zD.frame hS r1 (λk hk=>hF k (by simp[hk])),zH.frame hS r2 (λk hk=>hF k (by simp[hk]))⟩
end
mutual
def zD.own:∀{a:A} {cs:TE} {F:TC},zD S h a cs F->∀k∈F,k<h.size/\(∀o,S k o=none)/\True
 |.osl _ _ _,_,_,r=>by
  simp only[zD]at r;have ⟨p,c,e,h1,h2,h3,h4,h5⟩:=r;rcases h5 with⟨_,_,_,rfl⟩|⟨b,arr,ty,l,F',e1,e2,e3,e4,e5,rfl,e7⟩
  ·simp
  intro k hk;rcases pG.1 hk with rfl|hk
  ·exact⟨(pR.1 e2).1,e7,trivial⟩
  exact zH.own e5 k hk
 |.box _,_,_,r=>by
  simp only[zD]at r;obtain⟨b,ty,l,F',e,e1,e2,rfl,e4⟩:=r;intro k hk;rcases pG.1 hk with rfl|hk
  ·exact⟨(pR.1 e1).1,e4,trivial⟩
  exact zD.own e2 k hk
 |.agg fs,_,_,r=>by simp only[zD]at r;exact zH.own r
 |.dead _,_,_,r=>by simp only[zD]at r;simp[r.2.2]
 |.opq o,_,_,r=>by simp only[zD]at r;obtain⟨v,rfl,q⟩:=r;intro k hk;exact⟨(o.own q k hk).1,(o.own q k hk).2,trivial⟩
 |.atom _,_,_,r=>by simp only[zD]at r;simp[r.2]
 |.fn _ _,_,_,r=>by simp only[zD]at r;simp[r.2]
 |.sl _ _ _,_,_,r=>by simp only[zD]at r;simp[r.2]
 |.sptr _,_,_,r=>by simp only[zD]at r;simp[r.2]
 |.dop _,_,_,r=>by simp only[zD]at r;simp[r.2]
 |.tup _,_,_,r=>by simp only[zD]at r
def zH.own:∀{as_:List A} {cs:TE} {F:TC},zH S h as_ cs F->∀k∈F,k<h.size/\(∀o,S k o=none)/\True
 |[],_,_,r=>by simp only[zH]at r;simp[r.2]
 |a::as_,_,_,r=>by
  simp only[zH]at r;obtain⟨c1,c2,F1,F2,rfl,rfl,r1,r2⟩:=r;intro k hk;rcases pD.1 hk with h|h
  ·exact zD.own r1 k h
  exact zH.own r2 k h
end
mutual
def zD.isD:∀{a:A} {cs:TE} {F:TC},a.isD=true->zD S h a cs F->Rep S a cs/\F=[]
 |.agg fs,_,_,d,r=>by simp only[A.isD]at d;simp only[zD]at r;simp only[Rep];exact zH.areD d r
 |.atom _,_,_,_,r=>by simpa only[zD] using r
 |.fn _ _,_,_,_,r=>by simpa only[zD] using r
 |.sl _ _ _,_,_,_,r=>by simpa only[zD] using r
 |.sptr _,_,_,_,r=>by simpa only[zD] using r
 |.dop _,_,_,_,r=>by simpa only[zD] using r
 |.tup _,_,_,d,_=>by simp[A.isD]at d
 |.osl _ _ _,_,_,d,_=>by simp[A.isD]at d
 |.box _,_,_,d,_=>by simp[A.isD]at d
 |.dead _,_,_,d,_=>by simp[A.isD]at d
 |.opq _,_,_,d,_=>by simp[A.isD]at d
def zH.areD:∀{as_:List A} {cs:TE} {F:TC},A.areD as_=true->zH S h as_ cs F->zX S as_ cs/\F=[]
 |[],_,_,_,r=>by simpa only[zH,zX] using r
 |a::as_,_,_,d,r=>by simp only[A.areD,pN]at d;simp only[zH]at r;obtain⟨c1,c2,F1,F2,rfl,rfl,r1,r2⟩:=r;obtain⟨q1,rfl⟩:=zD.isD d.1 r1;obtain⟨q2,rfl⟩:=zH.areD d.2 r2;exact⟨by simp only[zX];exact⟨c1,c2,rfl,q1,q2⟩,rfl⟩
end
mutual
def Rep.conc (h:Array Obj):∀{a:A} {cs:TE},Rep S a cs->zD S h a cs []
 |.agg fs,_,r=>by simp only[Rep]at r;simp only[zD];exact zX.concs h r
 |.atom _,_,r=>by simp only[zD];exact⟨r,trivial⟩
 |.fn _ _,_,r=>by simp only[zD];exact⟨r,trivial⟩
 |.sl _ _ _,_,r=>by simp only[zD];exact⟨r,trivial⟩
 |.sptr _,_,r=>by simp only[zD];exact⟨r,trivial⟩
 |.dop _,_,r=>by simp only[zD];exact⟨r,trivial⟩
 |.tup _,_,r=>by simp only[Rep]at r
 |.osl _ _ _,_,r=>by simp only[Rep]at r
 |.box _,_,r=>by simp only[Rep]at r
 |.dead _,_,r=>by simp only[Rep]at r
 |.opq _,_,r=>by simp only[Rep]at r
def zX.concs (h:Array Obj):∀{as_:List A} {cs:TE},zX S as_ cs->zH S h as_ cs []
 |[],_,r=>by simp only[zX]at r;simp only[zH];exact⟨r,trivial⟩
 |a::as_,_,r=>by simp only[zX]at r;obtain⟨c1,c2,rfl,r1,r2⟩:=r;simp only[zH];exact⟨c1,c2,[],[],rfl,rfl,Rep.conc h r1,zX.concs h r2⟩
end
def A.shuts_eq (as_:List A):A.shuts as_=as_.map A.shut:=by
 induction as_ with
 |nil=>rfl
 |cons a as_ ih=>simp[A.shuts,ih]
def A.sizes_eq (as_:List A):A.sizes as_=(as_.map A.size).sum:=by
 induction as_ with
 |nil=>rfl
 |cons a as_ ih=>simp[A.sizes,ih]
variable {sz:Nat}
def A.sizes_const {as_:List A}  (h:∀x∈as_,x.size=sz):A.sizes as_=as_.length*sz:=by
 induction as_ with
 |nil=>simp[A.sizes]
 |cons a as_ ih=>simp[A.sizes,h a ς,ih (λx hx=>h x (by simp[hx])),gQ,gZ,nU];omega
mutual
def A.size_shut:∀(a:A),a.shut.size=a.size
 |.agg fs=>by simp[A.shut,A.size];exact A.sizes_shuts fs
 |.osl _ _ _=>rfl
 |.box _=>rfl
 |.atom _=>rfl
 |.fn _ _=>rfl
 |.sl _ _ _=>rfl
 |.sptr _=>rfl
 |.dop _=>rfl
 |.tup _=>rfl
 |.dead _=>rfl
 |.opq _=>rfl
def A.sizes_shuts:∀(as_:List A),A.sizes (A.shuts as_)=A.sizes as_
 |[]=>rfl
 |a::as_=>by simp[A.shuts,A.sizes,A.size_shut a,A.sizes_shuts as_]
end
mutual
def zD.shut {S S':zf}  (hS:∀b o v,S b o=some v->S' b o=some v):∀{a:A} {cs:TE} {F:TC},zD S h a cs F->a.live=true ->
  (∀k∈F,∀o,S' k o=zU h k o)->Rep S' a.shut cs
 |.osl sz t es,_,_,r,l,hF=>by
  simp only[zD]at r;simp only[A.live]at l;have ⟨p,c,e,h1,h2,h3,h4,h5⟩:=r;simp only[A.shut,Rep];have hlen:(A.shuts es).length=es.length:=by simp[A.shuts_eq]
  rw[hlen];refine⟨p,c,e,h1,h2,?_,?_⟩
  ·intro x hx;rw[A.shuts_eq]at hx;obtain⟨y,hy,rfl⟩:=pY.1 hx;rw[A.size_shut];exact h4 y hy
  rcases h5 with⟨rfl,_⟩|⟨b,arr,ty,l',F',e1,e2,e3,e4,e5,rfl,e7⟩
  ·exact .inl rfl
  refine .inr ⟨b,0,l',e1,zH.shut hS e5 l (λk hk=>hF k (by simp[hk])),?_⟩;intro j v hj;rw[hF b ς,zU,e2];simp only[mC];rw[<-e4,gB]at hj;split at hj
  ·simpa using hj
  cases hj
 |.box x,_,_,r,l,hF=>by simp only[zD]at r;simp only[A.live]at l;obtain⟨b,ty,l',F',e,e1,e2,rfl,e4⟩:=r;simp only[A.shut,Rep];refine⟨b,0,l',e,zD.shut hS e2 l (λk hk=>hF k (by simp[hk])),?_⟩;intro j v hj;rw[hF b ς,zU,e1];simpa using hj
 |.agg fs,_,_,r,l,hF=>by simp only[zD]at r;simp only[A.live]at l;simp only[A.shut,Rep];exact zH.shut hS r l hF
 |.dead _,_,_,_,l,_=>by simp[A.live]at l
 |.opq _,_,_,_,l,_=>by simp[A.live]at l
 |.atom _,_,_,r,_,_=>by simp only[zD]at r;exact r.1.mono hS
 |.fn _ _,_,_,r,_,_=>by simp only[zD]at r;exact r.1.mono hS
 |.sl _ _ _,_,_,r,_,_=>by simp only[zD]at r;exact r.1.mono hS
 |.sptr _,_,_,r,_,_=>by simp only[zD]at r;exact r.1.mono hS
 |.dop _,_,_,r,_,_=>by simp only[zD]at r;exact r.1.mono hS
 |.tup _,_,_,r,_,_=>by simp only[zD]at r
def zH.shut {S S':zf}  (hS:∀b o v,S b o=some v->S' b o=some v):∀{as_:List A} {cs:TE} {F:TC},zH S h as_ cs F->A.lives as_=true ->
  (∀k∈F,∀o,S' k o=zU h k o)->zX S' (A.shuts as_) cs
 |[],_,_,r,_,_=>by simp only[zH]at r;simp only[A.shuts,zX];exact r.1
 |a::as_,_,_,r,l,hF=>by simp only[zH]at r;simp only[A.lives,pN]at l;obtain⟨c1,c2,F1,F2,rfl,rfl,r1,r2⟩:=r;simp only[A.shuts,zX];exact⟨c1,c2,rfl,zD.shut hS r1 l.1 (λk hk=>hF k (by simp[hk])),zH.shut hS r2 l.2 (λk hk=>hF k (by simp[hk]))⟩
end
def zfY (_:Nat):Option A:=none
def wR:List Vq->A->Option A
 |[],x=>some x
 |.deref::p,.box x=>wR p x
 |.fld i::p,.agg fs=>match fs[i]? with|some y=>wR p y|none=>none
 |.idx i::p,.osl _ _ es=>match es[i]? with|some y=>wR p y|none=>none
 |_,_=>none
def z05:List Vq->A->A->A
 |[],_,z=>z
 |.deref::p,.box x,z=>.box (z05 p x z)
 |.fld i::p,.agg fs,z=>.agg (match fs[i]? with|some y=>fs.set i (z05 p y z)|none=>fs)
 |.idx i::p,.osl sz t es,z=>.osl sz t (match es[i]? with|some y=>es.set i (z05 p y z)|none=>es)
 |_,x,_=>x
def z1e (h:Array Obj):List Vq->A->Nat->Nat->Option (Nat×Nat)
 |[],_,b,o=>some (b,o)
 |.fld i::p,.agg fs,b,o=>match fs[i]? with|some y=>z1e h p y b (o+A.sizes (fs.take i))|none=>none
 |.deref::p,.box x,b,o=>match zU h b o with|some (.pointer (some a))=>z1e h p x a.block 0|_=>none
 |.idx i::p,.osl sz _ es,b,o=>match es[i]?,zU h b o with|some y,some (.slice (some a) _ _)=>z1e h p y a.block (i*sz)|_,_=>none
 |_,_,_,_=>none
def z3G (arr:Array Value)(o:Nat)(l:TE):Prop:=∀j v,l[j]?=some v->arr[o+j]?=some v
def Ur (arr:Array Value)(o:Nat)(l:TE):Array Value:=arr.mapIdx λk v=>(if o<=k then l[k-o]? else none).getD v
def qS (arr:Array Value)(o:Nat)(l:TE)(k:Nat):(Ur arr o l)[k]?=arr[k]?.map λv=>(if o<=k then l[k-o]? else none).getD v:=by simp[Ur,Array.getElem?_mapIdx]
@[simp] def zlN (arr:Array Value)(o:Nat)(l:TE):(Ur arr o l).size=arr.size:=by simp [Ur]
variable {arr:Array Value}
def VD {o:Nat}  (hs:z3G arr o l):Ur arr o l=arr:=by
 apply nG;intro k;rw[qS];cases ha:arr[k]? with
 |none=>rfl
 |some v=>
  simp[gK];by_cases hk:o<=k
  ·simp[hk];cases hl:l[k - o]? with
   |none=>rfl
   |some u=>have:=hs _ _ hl;rw[show o+(k-o)=k from by omega,ha]at this;simpa using this.symm
  simp[hk]
variable {c1 ci c2:TE}
def z3G.mid {o:Nat}  (hs:z3G arr o (c1++ci++c2)):z3G arr (o+c1.length) ci:=by intro j v hj;have hlt:=(pC.1 hj).1;have:=hs (c1.length+j) v (by rw[pP,pH ω,nD,pI hlt];exact hj);rwa[<-sP]at this
def z2d {o:Nat}{c1 ci ci' c2:TE}(hs:z3G arr o (c1++ci++c2))(hl:ci'.length=ci.length) :
  Ur arr o (c1++ci' ++ c2)=Ur arr (o+c1.length) ci':=by
 apply nG;intro k;rw[qS,qS];cases ha:arr[k]? with
 |none=>rfl
 |some v=>
  simp only[gK,Option.some.injEq];by_cases h1:o<=k
  ·simp only[h1,if_true];by_cases h2:k - o<c1.length
   ·rw[if_neg ω,pP,pI h2];have:=hs (k-o) c1[k-o] (by rw[pP,pI h2];exact pB h2);rw[show o+(k-o)=k from by omega,ha]at this;rw[pB h2];simpa using this.symm
   rw[if_pos ω,pP,pH ω];by_cases h3:k-o-c1.length<ci'.length
   ·rw[pI h3,show k-(o+c1.length)=k-o-c1.length from by omega]
   rw[pH ω,pL (l:=ci') (i:=k-(o+c1.length)) ω];simp only[Option.getD_none];cases h4:c2[k-o-c1.length-ci'.length]? with
   |none=>rfl
   |some u=>have:=hs (k-o) u (by rw[pP,pH ω,pH ω,<-hl];exact h4);rw[show o+(k-o)=k from by omega,ha]at this;simpa using this.symm
  rw[if_neg h1,if_neg ω]
def zH.split:∀{as_:List A} {cs:TE} {F:TC} {i:Nat} {x:A},zH S h as_ cs F->as_[i]?=some x ->
  ∃c1 ci c2 F1 Fi F2,cs=c1++ci++c2/\F=F1++Fi++F2/\c1.length=A.sizes (as_.take i)/\zD S h x ci Fi /\
   ∀(S':zf) (h':Array Obj) (z:A) (ci':TE) (Fi':TC),(∀b o v,S b o=some v->S' b o=some v)->(∀k,k∈F1\/k∈F2->h'[k]?=h[k]?/\∀o,S' k o=none) ->
    zD S' h' z ci' Fi'->zH S' h' (as_.set i z) (c1++ci' ++ c2) (F1++Fi' ++ F2)
 |[],_,_,_,_,_,e=>by simp at e
 |a::as_,cs,F,0,x,r,e=>by simp at e;subst e;simp only[zH]at r;obtain⟨c1,c2,F1,F2,rfl,rfl,r1,r2⟩:=r;refine⟨[],c1,c2,[],F1,F2,rfl,rfl,rfl,r1,?_⟩;intro S' h' z ci' Fi' hS hk hz;simp only[nX,mA,zH];exact⟨ci',c2,Fi',F2,rfl,rfl,hz,zH.frame hS r2 (λk hk'=>hk k (.inr hk'))⟩
 |a::as_,cs,F,i+1,x,r,e=>by
  simp at e;simp only[zH]at r;obtain⟨c1,c2,F1,F2,rfl,rfl,r1,r2⟩:=r;obtain⟨d1,di,d2,G1,Gi,G2,rfl,rfl,hl,hx,hup⟩:=zH.split r2 e;refine⟨c1++d1,di,d2,F1++G1,Gi,G2,ς,ς,by simp[A.sizes,hl,r1.len],hx,?_⟩;intro S' h' z ci' Fi' hS hk hz;simp only[sE,zH];refine⟨c1,d1++ci' ++ d2,F1,G1++Fi' ++ G2,ς,ς,zD.frame hS r1 (λk hk'=>hk k (.inl (by simp[hk']))),hup S' h' z ci' Fi' hS (λk hk'=>hk k ?_) hz⟩;rcases hk' with h|h
  ·exact .inl (by simp[h])
  exact .inr h
theorem zcP {S:zf}{h:Array Obj}:∀(p:List Vq) {x0:A} {cs0:TE} {F0:TC} {b0 o0:Nat} {arr0:Array Value} {ty0:TypeId},
  zD S h x0 cs0 F0->F0.Nodup->b0∉F0->h[b0]?=some (.cells arr0 ty0 (0,0))->z3G arr0 o0 cs0->∀{y:A},wR p x0=some y ->
  ∃b o arr ty csy Fy,z1e h p x0 b0 o0=some (b,o)/\h[b]?=some (.cells arr ty (0,0))/\z3G arr o csy/\zD S h y csy Fy/\b∉Fy/\(b=b0\/b∈F0)/\(∀k∈Fy,k∈F0)/\Fy.Nodup /\
   ∀(S':zf) (h':Array Obj) (z:A) (csz:TE) (Fz:TC),(∀b o v,S b o=some v->S' b o=some v)->csz.length=csy.length->zD S' h' z csz Fz->Fz.Nodup ->
    (∀k∈F0,k∉Fy->∀o,S' k o=none)->(∀k,k=b0\/k∈F0->k∉Fy->k≠b->h'[k]?=h[k]?)->h'[b]?=some (.cells (Ur arr o csz) ty (0,0)) ->
    (∀k∈Fz,k∈F0->k∈Fy) ->
    ∃cs0' F0',zD S' h' (z05 p x0 z) cs0' F0'/\cs0'.length=cs0.length/\F0'.Nodup/\(∀k,k∈F0'↔(k∈F0/\k∉Fy)\/k∈Fz)/\h'[b0]?=some (.cells (Ur arr0 o0 cs0') ty0 (0,0))
 |[],x0,cs0,F0,b0,o0,arr0,ty0,hx,hn,hb,hh,hs,y,e=>by simp only[wR,Option.some.injEq]at e;subst e;refine⟨b0,o0,arr0,ty0,cs0,F0,rfl,hh,hs,hx,hb,.inl rfl,λ_ h=>h,hn,?_⟩;intro S' h' z csz Fz _ hl hz hnz _ _ hb' _;exact⟨csz,Fz,by simpa only[z05] using hz,hl,hnz,λk=>⟨λh=>.inr h,λh=>h.elim (λh=>absurd h.1 h.2) id⟩,hb'⟩
 |.fld i::p,.agg fs,cs0,F0,b0,o0,arr0,ty0,hx,hn,hb,hh,hs,y,e=>by
  simp only[wR]at e;cases hf:fs[i]? with
  |none=>simp[hf]at e
  |some x1=>
   simp only[hf]at e;simp only[zD]at hx;obtain⟨c1,ci,c2,F1,Fi,F2,rfl,rfl,hl1,hxi,hup⟩:=zH.split hx hf;have hn':=hn;rw[pP,pU]at hn';have ⟨n1,n2,n3⟩:=hn';rw[pU]at n2;have ⟨n4,n5,n6⟩:=n2;have hbi:b0∉Fi:=λh=>hb (by simp[h]);have ⟨b,o,arr,ty,csy,Fy,g1,g2,g3,g4,g5,g6,g7,g8,g9⟩:=zcP p hxi n4 hbi hh hs.mid e;refine⟨b,o,arr,ty,csy,Fy,?_,g2,g3,g4,g5,g6.imp id (λh=>by simp[h]),λk hk=>by simp[g7 k hk],g8,?_⟩
   ·simp only[z1e,hf];rw[<-hl1];exact g1
   intro S' h' z csz Fz hS hl hz hnz hfree hh' hb' hsep;have hsub:∀k∈Fi,k∈F1++Fi++F2:=λk hk=>by simp[hk]
   have ⟨ci',Fi',q1,q2,q3,q4,q5⟩:=g9 S' h' z csz Fz hS hl hz hnz (λk hk=>hfree k (hsub k hk)) (λk hk=>hh' k (hk.imp id (hsub k))) hb' (λk hk hk'=>hsep k hk (hsub k hk'));have hoth:∀k,k∈F1\/k∈F2->k∉Fy/\k≠b/\k∈F1++Fi++F2:=by
    intro k hk;have hki:k∉Fi:=by
     rcases hk with hk|hk
     ·exact λh=>n3 k hk k (by simp[h]) rfl
     exact λh=>n6 k h k hk rfl
    refine⟨λh=>hki (g7 k h),?_,by rcases hk with hk|hk<;>simp[hk]⟩;rintro rfl;rcases g6 with rfl|g6
    ·exact hb (by rcases hk with hk|hk<;>simp[hk])
    exact hki g6
   refine⟨c1++ci' ++ c2,F1++Fi' ++ F2,?_,by simp[q2],?_,?_,?_⟩
   ·simp only[z05,hf,zD];exact hup S' h' _ ci' Fi' hS (λk hk=>⟨hh' k (.inr (hoth k hk).2.2) (hoth k hk).1 (hoth k hk).2.1,hfree k (hoth k hk).2.2 (hoth k hk).1⟩) q1
   ·rw[pP,pU];refine⟨n1,?_,?_⟩
    ·rw[pU];refine⟨q3,n5,?_⟩;rintro a ha b' hb'' rfl;rcases(q4 a).1 ha with h|h
     ·exact n6 a h.1 a hb'' rfl
     exact(hoth a (.inr hb'')).1 (hsep a h (hoth a (.inr hb'')).2.2)
    rintro a ha b' hb'' rfl;rcases pD.1 hb'' with h|h
    ·rcases(q4 a).1 h with h|h
     ·exact n3 a ha a (by simp[h.1]) rfl
     exact(hoth a (.inl ha)).1 (hsep a h (hoth a (.inl ha)).2.2)
    exact n3 a ha a (by simp[h]) rfl
   ·intro k;simp only[pD,q4 k];constructor
    ·rintro((h|h)|h)
     ·exact .inl ⟨.inl (.inl h),(hoth k (.inl h)).1⟩
     ·rcases h with h|h
      ·exact .inl ⟨.inl (.inr h.1),h.2⟩
      exact .inr h
     exact .inl ⟨.inr h,(hoth k (.inr h)).1⟩
    rintro(⟨(h|h)|h,h'⟩|h)
    ·exact .inl (.inl h)
    ·exact .inl (.inr (.inl ⟨h,h'⟩))
    ·exact .inr h
    exact .inl (.inr (.inr h))
   rw[z2d hs q2];exact q5
 |.deref::p,.box x,cs0,F0,b0,o0,arr0,ty0,hx,hn,hb,hh,hs,y,e=>by
  simp only[wR]at e;simp only[zD]at hx;obtain⟨b1,ty1,l,F',rfl,e1,e2,rfl,e4⟩:=hx;have hn':=gA.1 hn;have hsl:z3G l.toArray 0 l:=λj v hj=>ξ hj
  have ⟨b,o,arr,ty,csy,Fy,g1,g2,g3,g4,g5,g6,g7,g8,g9⟩:=zcP p e2 hn'.2 hn'.1 e1 hsl e;have hcell:zU h b0 o0=some (.pointer (some ⟨b1,0,none⟩)):=by have:=hs 0 _ rfl;simpa[zU,hh] using this
  have hb1:b∈b1::F':=by rcases g6 with rfl|g6<;>simp[*]
  refine⟨b,o,arr,ty,csy,Fy,by simp only[z1e,hcell];exact g1,g2,g3,g4,g5,.inr hb1,λk hk=>by simp[g7 k hk],g8,?_⟩;intro S' h' z csz Fz hS hl hz hnz hfree hh' hb' hsep;have ⟨cs',F0',q1,q2,q3,q4,q5⟩:=g9 S' h' z csz Fz hS hl hz hnz (λk hk=>hfree k (by simp[hk])) (λk hk=>hh' k (.inr (ξ hk))) hb' (λk hk hk'=>hsep k hk (by simp[hk']));have hb1y:b1∉Fy:=λh=>hn'.1 (g7 _ h);have hov:Ur l.toArray 0 cs'=cs'.toArray:=by
   apply nG;intro k;rw[qS];simp only[pQ,if_true,nR,rW];by_cases hk:k<l.length
   ·rw[pB hk,pB ω];simp
   rw[pL ω,pL ω];rfl
  refine⟨[.pointer (some ⟨b1,0,none⟩)],b1::F0',?_,rfl,?_,?_,?_⟩
  ·simp only[z05,zD];exact⟨b1,ty1,cs',F0',rfl,by rw[q5,hov],q1,rfl,hfree b1 ς hb1y⟩
  ·refine gA.2 ⟨λh=>?_,q3⟩;rcases(q4 b1).1 h with h|h
   ·exact hn'.1 h.1
   exact hb1y (hsep b1 h ς)
  ·intro k;simp only[pG,q4 k];constructor
   ·rintro(rfl|h|h)
    ·exact .inl ⟨.inl rfl,hb1y⟩
    ·exact .inl ⟨.inr h.1,h.2⟩
    exact .inr h
   rintro(⟨rfl|h,h'⟩|h)
   ·exact .inl rfl
   ·exact .inr (.inl ⟨h,h'⟩)
   exact .inr (.inr h)
  rw[VD hs,hh' b0 (.inl rfl) (λh=>hb (by simp[g7 _ h])) (λh=>hb (h▸hb1)),hh]
 |.idx i::p,.osl sz t es,cs0,F0,b0,o0,arr0,ty0,hx,hn,hb,hh,hs,y,e=>by
  simp only[wR]at e;cases hf:es[i]? with
  |none=>simp[hf]at e
  |some x1=>
   simp only[hf]at e;simp only[zD]at hx;obtain⟨pp,c,rfl,t1,t2,t3,t4,t5⟩:=hx;rcases t5 with⟨rfl,_⟩|⟨b1,arr1,ty1,l,F',rfl,e1,e2,e3,e4,rfl,e6⟩
   ·simp at hf
   have hn':=gA.1 hn;obtain⟨c1,ci,c2,F1,Fi,F2,hl0,rfl,hl1,hxi,hup⟩:=zH.split e4 hf;have hsl:z3G arr1 0 l:=by
    intro j v hj;rw[<-e3,gB]at hj;split at hj
    ·simpa using hj
    cases hj
   have hit:c1.length=i*sz:=by rw[hl1,A.sizes_const (sz:=sz) (λx hx=>t4 x (gJ hx)),hU];have:=(pC.1 hf).1;rw[mM ω]
   have hn2:=hn'.2;rw[pP,pU]at hn2;have ⟨n1,n2,n3⟩:=hn2;rw[pU]at n2;have ⟨n4,n5,n6⟩:=n2;have hbi:b1∉Fi:=λh=>hn'.1 (by simp[h]);have hsm:z3G arr1 (i*sz) ci:=by have:=(hl0▸hsl:z3G arr1 0 (c1++ci++c2)).mid;rwa[mC,hit]at this
   have ⟨b,o,arr,ty,csy,Fy,g1,g2,g3,g4,g5,g6,g7,g8,g9⟩:=zcP p hxi n4 hbi e1 hsm e;have hcell:zU h b0 o0=some (.slice (some ⟨b1,0,none⟩) es.length c):=by have:=hs 0 _ rfl;simpa[zU,hh] using this
   have hb1:b∈b1::(F1++Fi++F2):=by rcases g6 with rfl|g6<;>simp[*]
   refine⟨b,o,arr,ty,csy,Fy,by simp only[z1e,hf,hcell];exact g1,g2,g3,g4,g5,.inr hb1,λk hk=>by simp[g7 k hk],g8,?_⟩;intro S' h' z csz Fz hS hl hz hnz hfree hh' hb' hsep;have hsub:∀k∈Fi,k∈b1::(F1++Fi++F2):=λk hk=>by simp[hk]
   have hsub1:∀k,k=b1\/k∈Fi->k∈b1::(F1++Fi++F2):=λk hk=>by rcases hk with rfl|hk<;>simp[*]
   have ⟨ci',Fi',q1,q2,q3,q4,q5⟩:=g9 S' h' z csz Fz hS hl hz hnz (λk hk=>hfree k (hsub k hk)) (λk hk=>hh' k (.inr (hsub1 k hk))) hb' (λk hk hk'=>hsep k hk (hsub k hk'));have hoth:∀k,k∈F1\/k∈F2->k∉Fy/\k≠b/\k∈b1::(F1++Fi++F2):=by
    intro k hk;have hki:k∉Fi:=by
     rcases hk with hk|hk
     ·exact λh=>n3 k hk k (by simp[h]) rfl
     exact λh=>n6 k h k hk rfl
    refine⟨λh=>hki (g7 k h),?_,by rcases hk with hk|hk<;>simp[hk]⟩;rintro rfl;rcases g6 with rfl|g6
    ·exact hn'.1 (by rcases hk with hk|hk<;>simp[hk])
    exact hki g6
   have hb1y:b1∉Fy:=λh=>hbi (g7 _ h);have hes:(es.set i (z05 p x1 z)).length=es.length:=ς
   have hsz1:(z05 p x1 z).size=sz:=by rw[<-q1.len,q2,hxi.len];exact t4 x1 (pT hf)
   have hlen:l.length=es.length*sz:=by rw[e4.len,A.sizes_const t4]
   refine⟨[.slice (some ⟨b1,0,none⟩) es.length c],b1::(F1++Fi' ++ F2),?_,rfl,?_,?_,?_⟩
   ·simp only[z05,hf,zD,hes];refine⟨_,c,rfl,t1,t2,t3,?_,.inr ⟨b1,Ur arr1 (i*sz) ci',ty1,c1++ci' ++ c2,F1++Fi' ++ F2,rfl,q5,by simp[e2],?_,?_,rfl,hfree b1 ς hb1y⟩⟩
    ·intro x hx;rcases List.mem_or_eq_of_mem_set hx with h|rfl
     ·exact t4 x h
     exact hsz1
    ·have hov:Ur arr1 0 (c1++ci' ++ c2)=Ur arr1 (i*sz) ci':=by have:=z2d (arr:=arr1) (o:=0) (c1:=c1) (ci:=ci) (ci':=ci') (c2:=c2) (hl0 ▸ hsl) q2;rwa[mC,hit]at this
     rw[<-hov];have hle:es.length*sz<=arr1.size:=pJ (pV _ t2) e2;apply gW;intro k;rw[gB];have hll:(c1++ci' ++ c2).length=es.length*sz:=by rw[<-hlen,hl0];simp[q2]
     split
     ·rename_i hk;have hk2:k<(c1++ci' ++ c2).length:=ω
      rw[mQ,qS,mB (by omega:k<arr1.size),if_pos (pQ _),nR,pB hk2];simp
     rw[pL ω]
    exact hup S' h' _ ci' Fi' hS (λk hk=>⟨hh' k (.inr (hoth k hk).2.2) (hoth k hk).1 (hoth k hk).2.1,hfree k (hoth k hk).2.2 (hoth k hk).1⟩) q1
   ·refine gA.2 ⟨?_,?_⟩
    ·intro h;simp only[pD]at h;rcases h with(h|h)|h
     ·exact hn'.1 (by simp[h])
     ·rcases(q4 b1).1 h with h|h
      ·exact hbi h.1
      exact hb1y (hsep b1 h ς)
     exact hn'.1 (by simp[h])
    rw[pP,pU];refine⟨n1,?_,?_⟩
    ·rw[pU];refine⟨q3,n5,?_⟩;rintro a ha b' hb'' rfl;rcases(q4 a).1 ha with h|h
     ·exact n6 a h.1 a hb'' rfl
     exact(hoth a (.inr hb'')).1 (hsep a h (hoth a (.inr hb'')).2.2)
    rintro a ha b' hb'' rfl;rcases pD.1 hb'' with h|h
    ·rcases(q4 a).1 h with h|h
     ·exact n3 a ha a (by simp[h.1]) rfl
     exact(hoth a (.inl ha)).1 (hsep a h (hoth a (.inl ha)).2.2)
    exact n3 a ha a (by simp[h]) rfl
   ·intro k;simp only[pG,pD,q4 k];constructor
    ·rintro(rfl|(h|h)|h)
     ·exact .inl ⟨.inl rfl,hb1y⟩
     ·exact .inl ⟨.inr (.inl (.inl h)),(hoth k (.inl h)).1⟩
     ·rcases h with h|h
      ·exact .inl ⟨.inr (.inl (.inr h.1)),h.2⟩
      exact .inr h
     exact .inl ⟨.inr (.inr h),(hoth k (.inr h)).1⟩
    rintro(⟨rfl|(h|h)|h,h'⟩|h)
    ·exact .inl rfl
    ·exact .inr (.inl (.inl h))
    ·exact .inr (.inl (.inr (.inl ⟨h,h'⟩)))
    ·exact .inr (.inr h)
    exact .inr (.inl (.inr (.inr h)))
   rw[VD hs,hh' b0 (.inl rfl) (λh=>hb (by simp[g7 _ h])) (λh=>hb (h▸hb1)),hh]
 |.deref::_,.atom _,_,_,_,_,_,_,_,_,_,_,_,_,e=>by simp[wR]at e
 |.deref::_,.fn _ _,_,_,_,_,_,_,_,_,_,_,_,_,e=>by simp[wR]at e
 |.deref::_,.agg _,_,_,_,_,_,_,_,_,_,_,_,_,e=>by simp[wR]at e
 |.deref::_,.tup _,_,_,_,_,_,_,_,_,_,_,_,_,e=>by simp[wR]at e
 |.deref::_,.sl _ _ _,_,_,_,_,_,_,_,_,_,_,_,_,e=>by simp[wR]at e
 |.deref::_,.sptr _,_,_,_,_,_,_,_,_,_,_,_,_,e=>by simp[wR]at e
 |.deref::_,.dop _,_,_,_,_,_,_,_,_,_,_,_,_,e=>by simp[wR]at e
 |.deref::_,.osl _ _ _,_,_,_,_,_,_,_,_,_,_,_,_,e=>by simp[wR]at e
 |.deref::_,.dead _,_,_,_,_,_,_,_,_,_,_,_,_,e=>by simp[wR]at e
 |.deref::_,.opq _,_,_,_,_,_,_,_,_,_,_,_,_,e=>by simp[wR]at e
 |.fld _::_,.atom _,_,_,_,_,_,_,_,_,_,_,_,_,e=>by simp[wR]at e
 |.fld _::_,.fn _ _,_,_,_,_,_,_,_,_,_,_,_,_,e=>by simp[wR]at e
 |.fld _::_,.tup _,_,_,_,_,_,_,_,_,_,_,_,_,e=>by simp[wR]at e
 |.fld _::_,.sl _ _ _,_,_,_,_,_,_,_,_,_,_,_,_,e=>by simp[wR]at e
 |.fld _::_,.sptr _,_,_,_,_,_,_,_,_,_,_,_,_,e=>by simp[wR]at e
 |.fld _::_,.dop _,_,_,_,_,_,_,_,_,_,_,_,_,e=>by simp[wR]at e
 |.fld _::_,.osl _ _ _,_,_,_,_,_,_,_,_,_,_,_,_,e=>by simp[wR]at e
 |.fld _::_,.box _,_,_,_,_,_,_,_,_,_,_,_,_,e=>by simp[wR]at e
 |.fld _::_,.dead _,_,_,_,_,_,_,_,_,_,_,_,_,e=>by simp[wR]at e
 |.fld _::_,.opq _,_,_,_,_,_,_,_,_,_,_,_,_,e=>by simp[wR]at e
 |.idx _::_,.atom _,_,_,_,_,_,_,_,_,_,_,_,_,e=>by simp[wR]at e
 |.idx _::_,.fn _ _,_,_,_,_,_,_,_,_,_,_,_,_,e=>by simp[wR]at e
 |.idx _::_,.agg _,_,_,_,_,_,_,_,_,_,_,_,_,e=>by simp[wR]at e
 |.idx _::_,.tup _,_,_,_,_,_,_,_,_,_,_,_,_,e=>by simp[wR]at e
 |.idx _::_,.sl _ _ _,_,_,_,_,_,_,_,_,_,_,_,_,e=>by simp[wR]at e
 |.idx _::_,.sptr _,_,_,_,_,_,_,_,_,_,_,_,_,e=>by simp[wR]at e
 |.idx _::_,.dop _,_,_,_,_,_,_,_,_,_,_,_,_,e=>by simp[wR]at e
 |.idx _::_,.box _,_,_,_,_,_,_,_,_,_,_,_,_,e=>by simp[wR]at e
 |.idx _::_,.dead _,_,_,_,_,_,_,_,_,_,_,_,_,e=>by simp[wR]at e
 |.idx _::_,.opq _,_,_,_,_,_,_,_,_,_,_,_,_,e=>by simp[wR]at e
def zL:A->TE->Value
 |.agg _,cs=>.agg cs.toArray
 |_,cs=>cs.headD undef
def wg (h:Array Obj):List Vq->A->Value->Option (Nat×Nat)
 |.deref::p,.box x,.pointer (some a)=>z1e h p x a.block 0
 |.idx i::p,.osl sz _ es,.slice (some a) _ _=>match es[i]? with|some y=>z1e h p y a.block (i*sz)|none=>none
 |_,_,_=>none
def Wv {S:zf}{h:Array Obj}:∀(p:List Vq) {x0:A} {cs0:TE} {F0:TC},
  zD S h x0 cs0 F0->F0.Nodup->∀{y:A},p≠[]->(∀i q,p≠.fld i::q)->wR p x0=some y ->
  ∃b o arr ty csy Fy,wg h p x0 (zL x0 cs0)=some (b,o)/\h[b]?=some (.cells arr ty (0,0))/\z3G arr o csy/\zD S h y csy Fy/\b∉Fy/\b∈F0/\(∀k∈Fy,k∈F0)/\Fy.Nodup /\
   ∀(S':zf) (h':Array Obj) (z:A) (csz:TE) (Fz:TC),(∀b o v,S b o=some v->S' b o=some v)->csz.length=csy.length->zD S' h' z csz Fz->Fz.Nodup ->
    (∀k∈F0,k∉Fy->∀o,S' k o=none)->(∀k,k∈F0->k∉Fy->k≠b->h'[k]?=h[k]?)->h'[b]?=some (.cells (Ur arr o csz) ty (0,0)) ->
    (∀k∈Fz,k∈F0->k∈Fy) ->
    ∃F0',zD S' h' (z05 p x0 z) cs0 F0'/\F0'.Nodup/\(∀k,k∈F0'↔(k∈F0/\k∉Fy)\/k∈Fz)
 |[],_,_,_,_,_,_,np,_,_=>absurd rfl np
 |.fld i::q,_,_,_,_,_,_,_,nf,_=>absurd rfl (nf i q)
 |.deref::p,.box x,cs0,F0,hx,hn,y,_,_,e=>by
  simp only[wR]at e;simp only[zD]at hx;obtain⟨b1,ty1,l,F',rfl,e1,e2,rfl,e4⟩:=hx;have hn':=gA.1 hn;have hsl:z3G l.toArray 0 l:=λj v hj=>ξ hj
  have ⟨b,o,arr,ty,csy,Fy,g1,g2,g3,g4,g5,g6,g7,g8,g9⟩:=zcP p e2 hn'.2 hn'.1 e1 hsl e;have hb1:b∈b1::F':=by rcases g6 with rfl|g6<;>simp[*]
  refine⟨b,o,arr,ty,csy,Fy,by simp only[zL,rI,wg];exact g1,g2,g3,g4,g5,hb1,λk hk=>by simp[g7 k hk],g8,?_⟩;intro S' h' z csz Fz hS hl hz hnz hfree hh' hb' hsep;have ⟨cs',F0',q1,q2,q3,q4,q5⟩:=g9 S' h' z csz Fz hS hl hz hnz (λk hk=>hfree k (by simp[hk])) (λk hk=>hh' k (ξ hk)) hb' (λk hk hk'=>hsep k hk (by simp[hk']));have hb1y:b1∉Fy:=λh=>hn'.1 (g7 _ h);have hov:Ur l.toArray 0 cs'=cs'.toArray:=by
   apply nG;intro k;rw[qS];simp only[pQ,if_true,nR,rW];by_cases hk:k<l.length
   ·rw[pB hk,pB ω];simp
   rw[pL ω,pL ω];rfl
  refine⟨b1::F0',?_,?_,?_⟩
  ·simp only[z05,zD];exact⟨b1,ty1,cs',F0',rfl,by rw[q5,hov],q1,rfl,hfree b1 ς hb1y⟩
  ·refine gA.2 ⟨λh=>?_,q3⟩;rcases(q4 b1).1 h with h|h
   ·exact hn'.1 h.1
   exact hb1y (hsep b1 h ς)
  intro k;simp only[pG,q4 k];constructor
  ·rintro(rfl|h|h)
   ·exact .inl ⟨.inl rfl,hb1y⟩
   ·exact .inl ⟨.inr h.1,h.2⟩
   exact .inr h
  rintro(⟨rfl|h,h'⟩|h)
  ·exact .inl rfl
  ·exact .inr (.inl ⟨h,h'⟩)
  exact .inr (.inr h)
 |.idx i::p,.osl sz t es,cs0,F0,hx,hn,y,_,_,e=>by
  simp only[wR]at e;cases hf:es[i]? with
  |none=>simp[hf]at e
  |some x1=>
   simp only[hf]at e;simp only[zD]at hx;obtain⟨pp,c,rfl,t1,t2,t3,t4,t5⟩:=hx;rcases t5 with⟨rfl,_⟩|⟨b1,arr1,ty1,l,F',rfl,e1,e2,e3,e4,rfl,e6⟩
   ·simp at hf
   have hn':=gA.1 hn;obtain⟨c1,ci,c2,F1,Fi,F2,hl0,rfl,hl1,hxi,hup⟩:=zH.split e4 hf;have hsl:z3G arr1 0 l:=by
    intro j v hj;rw[<-e3,gB]at hj;split at hj
    ·simpa using hj
    cases hj
   have hit:c1.length=i*sz:=by rw[hl1,A.sizes_const (sz:=sz) (λx hx=>t4 x (gJ hx)),hU];have:=(pC.1 hf).1;rw[mM ω]
   have hn2:=hn'.2;rw[pP,pU]at hn2;have ⟨n1,n2,n3⟩:=hn2;rw[pU]at n2;have ⟨n4,n5,n6⟩:=n2;have hbi:b1∉Fi:=λh=>hn'.1 (by simp[h]);have hsm:z3G arr1 (i*sz) ci:=by have:=(hl0▸hsl:z3G arr1 0 (c1++ci++c2)).mid;rwa[mC,hit]at this
   have ⟨b,o,arr,ty,csy,Fy,g1,g2,g3,g4,g5,g6,g7,g8,g9⟩:=zcP p hxi n4 hbi e1 hsm e;have hb1:b∈b1::(F1++Fi++F2):=by rcases g6 with rfl|g6<;>simp[*]
   refine⟨b,o,arr,ty,csy,Fy,by simp only[zL,rI,wg,hf];exact g1,g2,g3,g4,g5,hb1,λk hk=>by simp[g7 k hk],g8,?_⟩;intro S' h' z csz Fz hS hl hz hnz hfree hh' hb' hsep;have hsub:∀k∈Fi,k∈b1::(F1++Fi++F2):=λk hk=>by simp[hk]
   have hsub1:∀k,k=b1\/k∈Fi->k∈b1::(F1++Fi++F2):=λk hk=>by rcases hk with rfl|hk<;>simp[*]
   have ⟨ci',Fi',q1,q2,q3,q4,q5⟩:=g9 S' h' z csz Fz hS hl hz hnz (λk hk=>hfree k (hsub k hk)) (λk hk=>hh' k (hsub1 k hk)) hb' (λk hk hk'=>hsep k hk (hsub k hk'));have hoth:∀k,k∈F1\/k∈F2->k∉Fy/\k≠b/\k∈b1::(F1++Fi++F2):=by
    intro k hk;have hki:k∉Fi:=by
     rcases hk with hk|hk
     ·exact λh=>n3 k hk k (by simp[h]) rfl
     exact λh=>n6 k h k hk rfl
    refine⟨λh=>hki (g7 k h),?_,by rcases hk with hk|hk<;>simp[hk]⟩;rintro rfl;rcases g6 with rfl|g6
    ·exact hn'.1 (by rcases hk with hk|hk<;>simp[hk])
    exact hki g6
   have hb1y:b1∉Fy:=λh=>hbi (g7 _ h);have hes:(es.set i (z05 p x1 z)).length=es.length:=ς
   have hsz1:(z05 p x1 z).size=sz:=by rw[<-q1.len,q2,hxi.len];exact t4 x1 (pT hf)
   have hlen:l.length=es.length*sz:=by rw[e4.len,A.sizes_const t4]
   refine⟨b1::(F1++Fi' ++ F2),?_,?_,?_⟩
   ·simp only[z05,hf,zD,hes];refine⟨_,c,rfl,t1,t2,t3,?_,.inr ⟨b1,Ur arr1 (i*sz) ci',ty1,c1++ci' ++ c2,F1++Fi' ++ F2,rfl,q5,by simp[e2],?_,?_,rfl,hfree b1 ς hb1y⟩⟩
    ·intro x hx;rcases List.mem_or_eq_of_mem_set hx with h|rfl
     ·exact t4 x h
     exact hsz1
    ·have hov:Ur arr1 0 (c1++ci' ++ c2)=Ur arr1 (i*sz) ci':=by have:=z2d (arr:=arr1) (o:=0) (c1:=c1) (ci:=ci) (ci':=ci') (c2:=c2) (hl0 ▸ hsl) q2;rwa[mC,hit]at this
     rw[<-hov];have hle:es.length*sz<=arr1.size:=pJ (pV _ t2) e2;apply gW;intro k;rw[gB];have hll:(c1++ci' ++ c2).length=es.length*sz:=by rw[<-hlen,hl0];simp[q2]
     split
     ·rename_i hk;have hk2:k<(c1++ci' ++ c2).length:=ω
      rw[mQ,qS,mB (by omega:k<arr1.size),if_pos (pQ _),nR,pB hk2];simp
     rw[pL ω]
    exact hup S' h' _ ci' Fi' hS (λk hk=>⟨hh' k (hoth k hk).2.2 (hoth k hk).1 (hoth k hk).2.1,hfree k (hoth k hk).2.2 (hoth k hk).1⟩) q1
   ·refine gA.2 ⟨?_,?_⟩
    ·intro h;simp only[pD]at h;rcases h with(h|h)|h
     ·exact hn'.1 (by simp[h])
     ·rcases(q4 b1).1 h with h|h
      ·exact hbi h.1
      exact hb1y (hsep b1 h ς)
     exact hn'.1 (by simp[h])
    rw[pP,pU];refine⟨n1,?_,?_⟩
    ·rw[pU];refine⟨q3,n5,?_⟩;rintro a ha b' hb'' rfl;rcases(q4 a).1 ha with h|h
     ·exact n6 a h.1 a hb'' rfl
     exact(hoth a (.inr hb'')).1 (hsep a h (hoth a (.inr hb'')).2.2)
    rintro a ha b' hb'' rfl;rcases pD.1 hb'' with h|h
    ·rcases(q4 a).1 h with h|h
     ·exact n3 a ha a (by simp[h.1]) rfl
     exact(hoth a (.inl ha)).1 (hsep a h (hoth a (.inl ha)).2.2)
    exact n3 a ha a (by simp[h]) rfl
   intro k;simp only[pG,pD,q4 k];constructor
   ·rintro(rfl|(h|h)|h)
    ·exact .inl ⟨.inl rfl,hb1y⟩
    ·exact .inl ⟨.inr (.inl (.inl h)),(hoth k (.inl h)).1⟩
    ·rcases h with h|h
     ·exact .inl ⟨.inr (.inl (.inr h.1)),h.2⟩
     exact .inr h
    exact .inl ⟨.inr (.inr h),(hoth k (.inr h)).1⟩
   rintro(⟨rfl|(h|h)|h,h'⟩|h)
   ·exact .inl rfl
   ·exact .inr (.inl (.inl h))
   ·exact .inr (.inl (.inr (.inl ⟨h,h'⟩)))
   ·exact .inr (.inr h)
   exact .inr (.inl (.inr (.inr h)))
 |.deref::_,.atom _,_,_,_,_,_,_,_,e=>by simp[wR]at e
 |.deref::_,.fn _ _,_,_,_,_,_,_,_,e=>by simp[wR]at e
 |.deref::_,.agg _,_,_,_,_,_,_,_,e=>by simp[wR]at e
 |.deref::_,.tup _,_,_,_,_,_,_,_,e=>by simp[wR]at e
 |.deref::_,.sl _ _ _,_,_,_,_,_,_,_,e=>by simp[wR]at e
 |.deref::_,.sptr _,_,_,_,_,_,_,_,e=>by simp[wR]at e
 |.deref::_,.dop _,_,_,_,_,_,_,_,e=>by simp[wR]at e
 |.deref::_,.osl _ _ _,_,_,_,_,_,_,_,e=>by simp[wR]at e
 |.deref::_,.dead _,_,_,_,_,_,_,_,e=>by simp[wR]at e
 |.deref::_,.opq _,_,_,_,_,_,_,_,e=>by simp[wR]at e
 |.idx _::_,.atom _,_,_,_,_,_,_,_,e=>by simp[wR]at e
 |.idx _::_,.fn _ _,_,_,_,_,_,_,_,e=>by simp[wR]at e
 |.idx _::_,.agg _,_,_,_,_,_,_,_,e=>by simp[wR]at e
 |.idx _::_,.tup _,_,_,_,_,_,_,_,e=>by simp[wR]at e
 |.idx _::_,.sl _ _ _,_,_,_,_,_,_,_,e=>by simp[wR]at e
 |.idx _::_,.sptr _,_,_,_,_,_,_,_,e=>by simp[wR]at e
 |.idx _::_,.dop _,_,_,_,_,_,_,_,e=>by simp[wR]at e
 |.idx _::_,.box _,_,_,_,_,_,_,_,e=>by simp[wR]at e
 |.idx _::_,.dead _,_,_,_,_,_,_,_,e=>by simp[wR]at e
 |.idx _::_,.opq _,_,_,_,_,_,_,_,e=>by simp[wR]at e
def w9 {h h':Array Obj}{b o:Nat}(e:h'[b]?=h[b]?):zU h' b o=zU h b o:=by simp[zU,e]
def VI {h h':Array Obj}:∀(p:List Vq) {x:A} {cs:TE} {F:TC} {b o:Nat},zD S h x cs F->(∀j v,cs[j]?=some v->zU h b (o+j)=some v/\zU h' b (o+j)=some v) ->
  (∀k∈F,h'[k]?=h[k]?)->z1e h' p x b o=z1e h p x b o
 |[],_,_,_,_,_,_,_,_=>rfl
 |.fld i::p,.agg fs,cs,F,b,o,hx,hc,hF=>by
  simp only[z1e];cases hf:fs[i]? with
  |none=>rfl
  |some y=>
   simp only[zD]at hx;obtain⟨c1,ci,c2,F1,Fi,F2,rfl,rfl,hl1,hxi,_⟩:=zH.split hx hf;dsimp only
   rw[<-hl1];refine VI p hxi (λj v hj=>?_) (λk hk=>hF k (by simp[hk]));have hlt:=(pC.1 hj).1;rw[sP];exact hc (c1.length+j) v (by rw[pP,pH ω,nD,pI hlt];exact hj)
 |.deref::p,.box x,cs,F,b,o,hx,hc,hF=>by simp only[zD]at hx;obtain⟨b1,ty1,l,F',rfl,e1,e2,rfl,e4⟩:=hx;have h0:=hc 0 _ rfl;simp only[mV]at h0;simp only[z1e,h0.1,h0.2];refine VI p e2 (λj v hj=>?_) (λk hk=>hF k (by simp[hk]));rw[w9 (h:=h) (h':=h') (hF b1 ς)];simp[zU,e1,hj]
 |.idx i::p,.osl sz t es,cs,F,b,o,hx,hc,hF=>by
  simp only[z1e];cases hf:es[i]? with
  |none=>rfl
  |some y=>
   simp only[zD]at hx;obtain⟨pp,c,rfl,t1,t2,t3,t4,t5⟩:=hx;rcases t5 with⟨rfl,_⟩|⟨b1,arr1,ty1,l,F',rfl,e1,e2,e3,e4,rfl,e6⟩
   ·simp at hf
   have h0:=hc 0 _ rfl;simp only[mV]at h0;simp only[h0.1,h0.2];obtain⟨c1,ci,c2,F1,Fi,F2,rfl,rfl,hl1,hxi,_⟩:=zH.split e4 hf;have hit:c1.length=i*sz:=by rw[hl1,A.sizes_const (sz:=sz) (λx hx=>t4 x (gJ hx)),hU];have:=(pC.1 hf).1;rw[mM ω]
   refine VI p hxi (λj v hj=>?_) (λk hk=>hF k (by simp[hk]));rw[w9 (h:=h) (h':=h') (hF b1 ς)];have hlt:=(pC.1 hj).1;have:(c1++ci++c2)[i*sz+j]?=some v:=by rw[<-hit,pP,pH ω,nD,pI hlt];exact hj
   rw[<-e3,gB]at this;split at this
   ·simp only[zU,e1];simpa using this
   cases this
 |.deref::_,.atom _,_,_,_,_,_,_,_=>rfl
 |.deref::_,.fn _ _,_,_,_,_,_,_,_=>rfl
 |.deref::_,.agg _,_,_,_,_,_,_,_=>rfl
 |.deref::_,.tup _,_,_,_,_,_,_,_=>rfl
 |.deref::_,.sl _ _ _,_,_,_,_,_,_,_=>rfl
 |.deref::_,.sptr _,_,_,_,_,_,_,_=>rfl
 |.deref::_,.dop _,_,_,_,_,_,_,_=>rfl
 |.deref::_,.osl _ _ _,_,_,_,_,_,_,_=>rfl
 |.deref::_,.dead _,_,_,_,_,_,_,_=>rfl
 |.deref::_,.opq _,_,_,_,_,_,_,_=>rfl
 |.fld _::_,.atom _,_,_,_,_,_,_,_=>rfl
 |.fld _::_,.fn _ _,_,_,_,_,_,_,_=>rfl
 |.fld _::_,.tup _,_,_,_,_,_,_,_=>rfl
 |.fld _::_,.sl _ _ _,_,_,_,_,_,_,_=>rfl
 |.fld _::_,.sptr _,_,_,_,_,_,_,_=>rfl
 |.fld _::_,.dop _,_,_,_,_,_,_,_=>rfl
 |.fld _::_,.osl _ _ _,_,_,_,_,_,_,_=>rfl
 |.fld _::_,.box _,_,_,_,_,_,_,_=>rfl
 |.fld _::_,.dead _,_,_,_,_,_,_,_=>rfl
 |.fld _::_,.opq _,_,_,_,_,_,_,_=>rfl
 |.idx _::_,.atom _,_,_,_,_,_,_,_=>rfl
 |.idx _::_,.fn _ _,_,_,_,_,_,_,_=>rfl
 |.idx _::_,.agg _,_,_,_,_,_,_,_=>rfl
 |.idx _::_,.tup _,_,_,_,_,_,_,_=>rfl
 |.idx _::_,.sl _ _ _,_,_,_,_,_,_,_=>rfl
 |.idx _::_,.sptr _,_,_,_,_,_,_,_=>rfl
 |.idx _::_,.dop _,_,_,_,_,_,_,_=>rfl
 |.idx _::_,.box _,_,_,_,_,_,_,_=>rfl
 |.idx _::_,.dead _,_,_,_,_,_,_,_=>rfl
 |.idx _::_,.opq _,_,_,_,_,_,_,_=>rfl
def z0l {h h':Array Obj}(p:List Vq){x:A}   (hx:zD S h x cs F)(hF:∀k∈F,h'[k]?=h[k]?):wg h' p x (zL x cs)=wg h p x (zL x cs):=by
 match p,x,hx with
 |[],x,_=>cases x<;>simp[wg]
 |.fld _::_,x,_=>cases x<;>simp[wg]
 |.deref::p,.box x,hx=>simp only[zD]at hx;obtain⟨b1,ty1,l,F',rfl,e1,e2,rfl,e4⟩:=hx;simp only[zL,rI,wg];refine VI p e2 (λj v hj=>?_) (λk hk=>hF k (by simp[hk]));rw[w9 (h:=h) (h':=h') (hF b1 ς)];simp[zU,e1,hj]
 |.idx i::p,.osl sz t es,hx=>
  simp only[zD]at hx;obtain⟨pp,c,rfl,t1,t2,t3,t4,t5⟩:=hx;rcases t5 with⟨rfl,_,rfl,_⟩|⟨b1,arr1,ty1,l,F',rfl,e1,e2,e3,e4,rfl,e6⟩
  ·simp[zL,wg]
  simp only[zL,rI,wg];cases hf:es[i]? with
  |none=>rfl
  |some y=>
   obtain⟨c1,ci,c2,F1,Fi,F2,rfl,rfl,hl1,hxi,_⟩:=zH.split e4 hf;have hit:c1.length=i*sz:=by rw[hl1,A.sizes_const (sz:=sz) (λx hx=>t4 x (gJ hx)),hU];have:=(pC.1 hf).1;rw[mM ω]
   refine VI p hxi (λj v hj=>?_) (λk hk=>hF k (by simp[hk]));rw[w9 (h:=h) (h':=h') (hF b1 ς)];have hlt:=(pC.1 hj).1;have:(c1++ci++c2)[i*sz+j]?=some v:=by rw[<-hit,pP,pH ω,nD,pI hlt];exact hj
   rw[<-e3,gB]at this;split at this
   ·simp only[zU,e1];simpa using this
   cases this
 |.deref::_,.atom _,_=>rfl
 |.deref::_,.fn _ _,_=>rfl
 |.deref::_,.agg _,_=>rfl
 |.deref::_,.tup _,_=>rfl
 |.deref::_,.sl _ _ _,_=>rfl
 |.deref::_,.sptr _,_=>rfl
 |.deref::_,.dop _,_=>rfl
 |.deref::_,.osl _ _ _,_=>rfl
 |.deref::_,.dead _,_=>rfl
 |.deref::_,.opq _,_=>rfl
 |.idx _::_,.atom _,_=>rfl
 |.idx _::_,.fn _ _,_=>rfl
 |.idx _::_,.agg _,_=>rfl
 |.idx _::_,.tup _,_=>rfl
 |.idx _::_,.sl _ _ _,_=>rfl
 |.idx _::_,.sptr _,_=>rfl
 |.idx _::_,.dop _,_=>rfl
 |.idx _::_,.box _,_=>rfl
 |.idx _::_,.dead _,_=>rfl
 |.idx _::_,.opq _,_=>rfl
inductive T where
 |gone
 |d (a:A)
 |own (a:A)
 |als (r:Nat) (p:List Vq) (er ec:Nat)
 |ptr (r:Nat) (p:List Vq) (er ec:Nat)
structure Ent where
 t:T
 er:Nat
 ec:Nat
abbrev St:=Nat->Ent
def upd (st:St)(k:Nat)(e:Ent):St:=λt=>if t=k then e else st t
def xV (st:St)(k:Nat)(e:Ent):upd st k e k=e:=by simp[upd]
def YA (st:St){k t:Nat}(e:Ent)(h:t≠k):upd st k e t=st t:=by simp[upd,h]
def zh:List (Nat×Ent)->St->St
 |[],st=>st
 |u::us,st=>zh us (upd st u.1 u.2)
inductive H where
 |a (x:A)
 |l (xs:List A)
 |b (x:Bool)
 |g (gs:List Bool)
 |cut (n:Nat)
 |n (m:Nat) (ks:TC)
 |v (m:Nat) (ks:TC)
 |u (m:Nat)
 |f
 |op (m:Nat)
 |stp (m:Nat)
def z7U:List Prop->Prop
 |[]=>True
 |p::ps=>p/\z7U ps
def jF:∀{l m:List Prop},z7U (l++m)->z7U l/\z7U m
 |[],_,h=>⟨trivial,h⟩
 |_::_,_,h=>⟨⟨h.1,(jF h.2).1⟩,(jF h.2).2⟩
def zp (us vs:List (Nat×Ent))(st:St):zh (us++vs) st=zh vs (zh us st):=by
 induction us generalizing st with
 |nil=>rfl
 |cons u us ih=>simp[zh,ih]
variable {k:Nat}
def z1K (us:List (Nat×Ent)){st st':St}  (h:st' k=st k):zh us st' k=zh us st k:=by
 induction us generalizing st st' with
 |nil=>exact h
 |cons u us ih=>exact ih (by unfold upd;split<;>first|rfl|exact h)
structure SM (α:Type) where
 p:St->Option (α×TC×List (Nat×Ent))
 h:St->List H->Option (α×TC×List (Nat×Ent)×List H×List Prop)
 s:∀{st hs a R U hs' ob},h st hs=some (a,R,U,hs',ob)->z7U ob->p st=some (a,R,U)
 l:∀{st st' a R U},p st=some (a,R,U)->(∀k∈R,st' k=st k)->p st'=some (a,R,U)
instance {α:Type}:CoeFun (SM α) λ_=>St->Option (α×TC×List (Nat×Ent)):=⟨SM.p⟩
variable {U:List (Nat×Ent)}{R:TC}{st:St}
section
variable {α β:Type}
structure Pr (x:Option α) where
 g:List H->Option (α×List H×List Prop)
 s:∀{hs a hs' ob},g hs=some (a,hs',ob)->z7U ob->x=some a
def pr (x:Option α)(g:Pr x):SM α:={
 p _:=x.map λa=>(a,[],[])
 h _ hs:=match g.g hs with|some (a,hs',ob)=>some (a,[],[],hs',ob)|none=>none
 s e o:=by
  split at e
  ·rename_i q;cases e;simp only[g.s q o,gK]
  cases e
 l e _:=e }
def z8p (m:SM α)(f:α->SM β)(st:St):Option (β×TC×List (Nat×Ent)) :=
 match m st with
 |none=>none
 |some (a,R,U)=>match f a (zh U st) with
  |none=>none
  |some (b,R',U')=>some (b,R++R',U++U')
def zgY {m:SM α}{f:α->SM β}  {b:β}   (h:z8p m f st=some (b,R,U)) :
  ∃a R1 U1 R2 U2,m st=some (a,R1,U1)/\f a (zh U1 st)=some (b,R2,U2)/\R=R1++R2/\U=U1++U2:=by
 unfold z8p at h;split at h
 ·cases h
 split at h
 ·cases h
 rename_i h1 _ _ _ _ h2;cases h;exact⟨_,_,_,_,_,h1,h2,rfl,rfl⟩
instance:Monad SM:={
 pure a:=pr (some a) ⟨λhs=>some (a,hs,[]),λe _=>by cases e;rfl⟩
 bind m f:={
  p:=z8p m f
  h:=λst hs=>match m.h st hs with
   |none=>none
   |some (a,R,U,hs',ob)=>match (f a).h (zh U st) hs' with
    |none=>none
    |some (b,R',U',hs'',ob')=>some (b,R++R',U++U',hs'',ob++ob')
  s:=λe o=>by
   split at e
   ·cases e
   split at e
   ·cases e
   rename_i e1 _ _ _ _ _ _ e2;cases e;have ⟨o1,o2⟩:=jF o;simp only[z8p,m.s e1 o1,(f _).s e2 o2]
  l:=λe hR=>by obtain⟨a,R1,U1,R2,U2,q1,q2,rfl,rfl⟩:=zgY e;simp only[z8p,m.l q1 λk hk=>hR k (by simp[hk]),(f a).l q2 λk hk=>z1K U1 (hR k (by simp[hk]))] } }
def ofO (x:Option α):SM α:=pr x ⟨λhs=>match x with|some a=>some (a,hs,[])|none=>none,λe _=>by split at e<;>cases e;rfl⟩
def zF:SM α:=pr none ⟨λ_=>none,λe=>by cases e⟩
def rdE (k:Nat):SM Ent:={
 p st:=some (st k,[k],[])
 h st hs:=some (st k,[k],[],hs,[])
 s e _:=by cases e;rfl
 l e h:=by cases e;rw[h k ς] }
def wrE (k:Nat)(e:Ent):SM Unit:={
 p _:=some ((),[],[(k,e)])
 h _ hs:=some ((),[],[(k,e)],hs,[])
 s e _:=by cases e;rfl
 l e _:=e }
def H.a?:H->Option A
 |.a y=>some y
 |_=>none
def H.l?:H->Option (List A)
 |.l y=>some y
 |_=>none
def H.b?:H->Option Bool
 |.b y=>some y
 |_=>none
def H.g?:H->Option (List Bool)
 |.g y=>some y
 |_=>none
def ask (k:H->Option α)(x:Option α)(q:α->Prop)(hq:∀{y},q y->x=some y):SM α:=pr x ⟨λhs=>match hs with
 |t::hs=>match k t with
  |some y=>some (y,hs,[q y])
  |none=>none
 |[]=>none,λe o=>by
 split at e
 ·split at e<;>cases e;exact hq o.1
 cases e⟩
def zjG (x:Option A):SM A:=ask H.a? x (x=some ·) id
def eqv (k:H->Option α)(x:α):SM α:=ask k (some x) (x=·) (congrArg some)
def eqA (x:A):=eqv H.a? x
def eqL (x:List A):=eqv H.l? x
def zoZ (x:Bool):=eqv H.b? x
def zqP (x:Option A):SM A:=pr x ⟨λhs=>match hs with
 |.f :: .a y::hs=>some (y,hs,[x=some y])
 |hs=>match x with|some a=>some (a,hs,[])|none=>none,λe o=>by
 split at e
 ·cases e;exact o.1
 split at e<;>cases e;rfl⟩
def Kt (q:Prop)[Decidable q](m:SM α):SM α:={
 p st:=if q then m st else none
 h st hs:=match m.h st hs with|some (a,R,U,hs',ob)=>some (a,R,U,hs',q::ob)|none=>none
 s e o:=by
  split at e
  ·rename_i e1;cases e;rw[if_pos o.1];exact m.s e1 o.2
  cases e
 l e hR:=by
  split at e
  ·rename_i hq;rw[if_pos hq];exact m.l e hR
  cases e }
noncomputable abbrev kR (q:Prop)(m:SM α):SM α:=@Kt α q (Classical.propDecidable q) m
def zmd (m:SM α):SM α:={
 p st:=match m st with|some (a,R,_)=>some (a,R,[])|none=>none
 h st hs:=match m.h st hs with|some (a,R,_,hs',ob)=>some (a,R,[],hs',ob)|none=>none
 s e o:=by
  split at e
  ·rename_i e1;cases e;rw[m.s e1 o]
  cases e
 l e hR:=by
  split at e
  ·rename_i e1;cases e;rw[m.l e1 hR]
  cases e }
variable {m:SM α}{f:α->SM β}{x:Option α}{P:α->Prop}{c:Prop}{st:St}{a:α}{b:β}{R:TC}{U:List (Nat×Ent)}
def bind_some (h:(m>>=f) st=some (b,R,U)):∃a R1 U1 R2 U2,m st=some (a,R1,U1)/\f a (zh U1 st)=some (b,R2,U2)/\R=R1++R2/\U=U1++U2:=zgY h
def z21 {R':TC}{U':List (Nat×Ent)}(h1:m st=some (a,R,U))(h2:f a (zh U st)=some (b,R',U')):(m>>=f) st=some (b,R++R',U++U'):=by show z8p m f st=_;simp only[z8p,h1,h2]
def z8o {g}(h:(pr x g) st=some (a,R,U)):x=some a/\R=[]/\U=[]:=by cases x<;>cases h;exact⟨rfl,rfl,rfl⟩
def bR (hm:∀{a R U},m st=some (a,R,U)->U=[]/\P a)(h:(m>>=f) st=some (b,R,U)):∃a R2,P a/\f a st=some (b,R2,U):=by obtain⟨a,_,_,R2,_,h1,h2,rfl,rfl⟩:=bind_some h;obtain⟨rfl,p⟩:=hm h1;exact⟨a,R2,p,h2⟩
def bD {f:Ent->SM β}  (h:(rdE k>>=f) st=some (b,R,U)):∃R2,f (st k) st=some (b,R2,U):=by obtain⟨_,R2,rfl,h⟩:=bR (P:=(·=st k)) (λh=>by cases h;exact⟨rfl,rfl⟩) h;exact⟨R2,h⟩
def bO {g}(h:(pr x g>>=f) st=some (b,R,U)):∃a R2,x=some a/\f a st=some (b,R2,U):=bR (λh=>(z8o h).elim λh1 h2=>⟨h2.2,h1⟩) h
def bV {z:α}{g}(h:(pr (some z) g>>=f) st=some (b,R,U)):∃R2,f z st=some (b,R2,U):=by obtain⟨_,R2,h1,h⟩:=bO h;cases h1;exact⟨R2,h⟩
def bM {d:Decidable c}(h:(Kt c m) st=some (a,R,U)):c/\m st=some (a,R,U):=by
 simp only[Kt]at h;split at h
 ·exact⟨‹_›,h⟩
 cases h
def bI [Decidable c](h:(if c then m else zF) st=some (a,R,U)):c/\m st=some (a,R,U):=by
 split at h
 ·exact⟨‹_›,h⟩
 cases h
end
variable {α β:Type}
def Xg (R:α->β->Prop):List α->List β->Prop
 |[],[]=>True
 |a::as_,b::bs=>R a b/\Xg R as_ bs
 |_,_=>False
def wX (S:zf)(a:A)(v:Value):Prop:=∃cs,Rep S a cs/\v=zL a cs
def xg (S:zf):A->Value->Prop
 |.tup fs,v=>∃vs,v=.tuple vs.toArray/\Xg (wX S) fs vs
 |a,v=>wX S a v
def Xg.mono {R R':α->β->Prop}(h:∀a b,R a b->R' a b):∀{as_:List α} {bs:List β},Xg R as_ bs->Xg R' as_ bs
 |[],[],_=>trivial
 |_::_,_::_,r=>⟨h _ _ r.1,Xg.mono h r.2⟩
 |[],_::_,r=>r.elim
 |_::_,[],r=>r.elim
def wX.mono {S S':zf}(h:∀b o v,S b o=some v->S' b o=some v){a:A}  (r:wX S a v):wX S' a v :=
 let ⟨cs,r1,r2⟩:=r;⟨cs,r1.mono h,r2⟩
def xg.mono {S S':zf}(h:∀b o v,S b o=some v->S' b o=some v){a:A}  (r:xg S a v):xg S' a v:=by cases a<;>simp[xg]at r⊢<;>first|exact r.mono h|(have ⟨vs,e,r⟩:=r;exact⟨vs,e,r.mono λ_ _ q=>q.mono h⟩)
def wX.repV {a:A}  (r:wX S a v):xg S a v:=by cases a<;>simp[xg]<;>first|exact r|(have ⟨cs,h,_⟩:=r;simp[Rep]at h)
def xg.rep1 {a:A}  (h:a.isD=true)(r:xg S a v):wX S a v:=by cases a<;>simp[xg]at r<;>first|exact r|simp[A.isD]at h
def K0:List Vq->Bool
 |.deref::_|.idx _::_=>true
 |_=>false
def zdD (h:Array Obj)(b o:Nat)(cs:TE):Prop:=∀j u,cs[j]?=some u->zU h b (o+j)=some u
def jS (h:Array Obj)(st:St)(tv:Nat->Value)(r:Nat)(p:List Vq)(er ec:Nat)(v:Value):Prop :=
 er<=(st r).er/\ec<=(st r).ec /\
 match (st r).t with
 |.own x=>(st r).er=er->(p=[]\/(st r).ec=ec)->(p=[]/\v=tv r)\/(K0 p=true/\∃y b o cs,wR p x=some y/\wg h p x (tv r)=some (b,o)/\cs.length=y.size/\zdD h b o cs/\v=zL y cs)
 |.d _=>(st r).er=er->p=[]->v=tv r
 |_=>True
def jR (h:Array Obj)(st:St)(tv:Nat->Value)(r:Nat)(p:List Vq)(er ec:Nat)(v:Value):Prop :=
 er<=(st r).er/\ec<=(st r).ec /\
 match (st r).t with
 |.own x=>(st r).er=er->(st r).ec=ec->K0 p=true/\∃y b o,wR p x=some y/\wg h p x (tv r)=some (b,o)/\v=.pointer (some ⟨b,o,none⟩)
 |_=>True
def yO (S:zf)(h:Array Obj)(st:St)(tv:Nat->Value)(F:TC)(e:Ent)(v:Value):Prop :=
 match e.t with
 |.gone=>F=[]
 |.d a=>xg S a v/\F=[]
 |.own a=>∃cs,zD S h a cs F/\F.Nodup/\v=zL a cs
 |.als r p er ec=>F=[]/\jS h st tv r p er ec v
 |.ptr r p er ec=>F=[]/\jR h st tv r p er ec v
def pinned:List (Nat×Value)->Nat->Bool
 |[],_=>false
 |p::ps,k=>p.1==k || pinned ps k
def z1a:∀{ps:List (Nat×Value)} {k:Nat} {v:Value},(k,v)∈ps->pinned ps k=true
 |p::ps,k,v,h=>by
  simp[pinned,mN,beq_iff_eq];rcases pG.1 h with rfl|h
  ·exact .inl rfl
  exact .inr (z1a h)
structure Fr where
 size:Nat
 pin:List (Nat×Value)
def Fr.ok (n:Fr)(k:Nat):Bool:=decide (k<n.size) && !pinned n.pin k
variable {n:Fr}
def Fr.lt (h:n.ok k=true):k<n.size:=by simp[Fr.ok]at h;exact h.1
def Fr.free (h:n.ok k=true):pinned n.pin k=false:=by simp[Fr.ok]at h;exact h.2
def ziO (D:Nat):Deferred:={ target:=.collected D,args:=#[] }
structure Ctx where
 n:Fr
 df:TC
 w0:World
 S0:zf
 M:Nat->Prop
structure YT (M:Nat->Prop)(w w':World):Prop where
 os:w'.os=w.os
 tape:w'.tape=w.tape
 output:w'.output=w.output
 drawn:w.drawn<=w'.drawn
 size:w.heap.size<=w'.heap.size
 block:∀k,¬M k->w'.heap[k]?=w.heap[k]?
def YT.refl (M:Nat->Prop)(w:World):YT M w w:=⟨rfl,rfl,rfl,pF _,pF _,λ_ _=>rfl⟩
variable {M:Nat->Prop}
def YT.trans {a b c:World}(h:YT M a b)(k:YT M b c):YT M a c :=
 ⟨k.os.trans h.os,k.tape.trans h.tape,k.output.trans h.output,pJ h.drawn k.drawn,pJ h.size k.size,λi hi=>(k.block i hi).trans (h.block i hi)⟩
def YT.mono {M M':Nat->Prop}{w w':World}(h:YT M w w')(hM:∀k,M k->M' k):YT M' w w':=⟨h.os,h.tape,h.output,h.drawn,h.size,λk hk=>h.block k λq=>hk (hM k q)⟩
def YT.drew {a w:World}(h:YT M a w):YT M a w.drew:=⟨h.os,h.tape,h.output,nL h.drawn,h.size,h.block⟩
def YT.alloc {a w:World}(h:YT M a w)(hM:M w.heap.size)(o:Obj):YT M a (w.alloc o) :=
 h.trans ⟨rfl,rfl,rfl,pF _,ς,λk hk=>by show(w.heap.push o)[k]?=_;rw[mJ,if_neg (by rintro rfl;exact hk hM)]⟩
def Act.tv (a:Act)(t:Nat):Value:=a.tmps.getD t undef
def Gok (S:zf):Prop:=∀g x,zfY g=some x->∃l,Rep S x l/\z4h S g 0 l
def Gok.mono {S S':zf}(h:∀b o v,S b o=some v->S' b o=some v)(k:Gok S):Gok S':=λg x e=>let ⟨l,r,q⟩:=k g x e;⟨l,r.mono h,q.mono h⟩
def Gbk (S:zf)(w:World):Prop:=∀g x,zfY g=some x->(∃c ty fr,w.heap[g]?=some (.cells c ty fr)/\c.size=x.size)/\∃v,S g 0=some v
def Gbk.of {S S':zf}{w w':World}(h:Gbk S w)(hS:∀b o v,S b o=some v->S' b o=some v)(hb:∀g x,zfY g=some x->w'.heap[g]?=w.heap[g]?):Gbk S' w':=λg x e=>by have ⟨⟨c,ty,fr,h1,h2⟩,v,h3⟩:=h g x e;exact⟨⟨c,ty,fr,(hb g x e).trans h1,h2⟩,v,hS _ _ _ h3⟩
variable {w:World}
def Gbk.ne (h:Gbk S w){b:Nat}(hb:S b 0=none):∀x,zfY b≠some x:=λx e=>by have ⟨_,v,h3⟩:=h b x e;rw[hb]at h3;cases h3
def Gbk.lt (h:Gbk S w){g:Nat}{x:A}(e:zfY g=some x):g<w.heap.size:=by have ⟨⟨c,ty,fr,h1,_⟩,_⟩:=h g x e;exact(pR.1 h1).1
structure zp9 (M:Nat->Prop)(w:World):Prop where
 new:∀k,w.heap.size<=k->M k
 far:∀g x,zfY g=some x->¬M g
instance {M:Nat->Prop}{w:World}:CoeFun (zp9 M w) λ_=>∀k,w.heap.size<=k->M k:=⟨zp9.new⟩
structure yo (S:zf)(w:World):Prop where
 cell:∀b o v,S b o=some v->zU w.heap b o=some v
 gok:Gok S
 blk:Gbk S w
instance {S:zf}{w:World}:CoeFun (yo S w) λ_=>∀b o v,S b o=some v->zU w.heap b o=some v:=⟨yo.cell⟩
structure Sim (C:Ctx)(S:zf)(Fp:Nat->TC)(X:TC)(st:St)(a:Act)(w:World):Prop where
 size:a.tmps.size=C.n.size
 pin:∀i v,(i,v)∈C.n.pin->Act.tv a i=v
 defers:a.defers=C.df.map ziO
 below:YT C.M C.w0 w
 mine:zp9 C.M C.w0
 still:yo S w
 sinc:∀b o v,C.S0 b o=some v->S b o=some v
 sbase:∀b o,¬C.M b->S b o=C.S0 b o
 ent:∀t,yO S w.heap st (Act.tv a) (Fp t) (st t) (Act.tv a t)
 disj:∀t u k,k∈Fp t->k∈Fp u->t=u
 base:∀t k,k∈Fp t->C.M k
 xn:X.Nodup
 xd:∀t k,k∈X->k∉Fp t
 xb:∀k,k∈X->C.M k
def VT (Fp:Nat->TC)(k:Nat)(F:TC):Nat->TC:=λt=>if t=k then F else Fp t
variable {p:List Vq}{er ec:Nat}{r:Nat}
def jS.frame {h h':Array Obj}  {tv:Nat->Value}  {p:List Vq}{er ec:Nat}{v:Value}  (hr:yO S h st tv F (st r) (tv r))(hF:∀k∈F,h'[k]?=h[k]?)
  (q:jS h st tv r p er ec v):jS h' st tv r p er ec v:=by
 have ⟨q1,q2,q3⟩:=q;refine⟨q1,q2,?_⟩;unfold yO at hr;cases ht:(st r).t with
 |own x=>
  simp only[ht]at q3 hr⊢;intro e1 e2;rcases q3 e1 e2 with q|⟨q4,y,b,o,cs,g1,g2,g3,g4,g5⟩
  ·exact .inl q
  refine .inr ⟨q4,y,b,o,cs,g1,?_,g3,?_,g5⟩
  ·have ⟨cs',c1,c2,c3⟩:=hr;rw[c3]at g2⊢;rw[z0l p c1 hF];exact g2
  have ⟨cs',c1,c2,c3⟩:=hr;have ⟨b',o',arr,ty,csy,Fy,f1,f2,f3,f4,f5,f6,_⟩:=Wv p c1 c2 (by rintro rfl;simp[K0]at q4) (by rintro i q rfl;simp[K0]at q4) g1;rw[c3,f1]at g2;cases g2;intro j u hj;rw[w9 (hF _ f6)];exact g4 j u hj
 |d x=>simpa only[ht] using q3
 |_=>trivial
def jR.frame {h h':Array Obj}  {tv:Nat->Value}  {p:List Vq}{er ec:Nat}{v:Value}  (hr:yO S h st tv F (st r) (tv r))(hF:∀k∈F,h'[k]?=h[k]?)
  (q:jR h st tv r p er ec v):jR h' st tv r p er ec v:=by
 have ⟨q1,q2,q3⟩:=q;refine⟨q1,q2,?_⟩;unfold yO at hr;cases ht:(st r).t with
 |own x=>simp only[ht]at q3 hr⊢;intro e1 e2;have ⟨q4,y,b,o,g1,g2,g3⟩:=q3 e1 e2;refine⟨q4,y,b,o,g1,?_,g3⟩;have ⟨cs',c1,c2,c3⟩:=hr;rw[c3]at g2⊢;rw[z0l p c1 hF];exact g2
 |_=>trivial
variable {Fp:Nat->TC}{C:Ctx}{a:Act}
def Sim.mem {S S':zf}  {X X':TC}   {w w':World}(h:Sim C S Fp X st a w)(hb:YT C.M C.w0 w')(hS:∀b o v,S b o=some v->S' b o=some v)
  (hst:∀b o v,S' b o=some v->zU w'.heap b o=some v) (hsb:∀b o,¬C.M b->S' b o=C.S0 b o) (hF:∀t k,k∈Fp t->w'.heap[k]?=w.heap[k]?/\∀o,S' k o=none)
  (xn:X'.Nodup) (xd:∀t k,k∈X'->k∉Fp t) (xb:∀k,k∈X'->C.M k):Sim C S' Fp X' st a w':={
 size:=h.size
 pin:=h.pin
 defers:=h.defers
 below:=hb
 mine:=h.mine
 still:=⟨hst,Gok.mono hS h.still.gok,h.still.blk.of hS λg x e=>(hb.block g (h.mine.far g x e)).trans (h.below.block g (h.mine.far g x e)).symm⟩
 sinc:=λb o v q=>hS _ _ _ (h.sinc _ _ _ q)
 sbase:=hsb
 ent:=λt=>by
  have q:=h.ent t;unfold yO at q⊢;cases ht:(st t).t with
  |gone=>simpa only[ht] using q
  |d x=>simp[ht]at q⊢;exact⟨q.1.mono hS,q.2⟩
  |own x=>simp[ht]at q⊢;have ⟨cs,q1,q2,q3⟩:=q;exact⟨cs,q1.frame hS (λk hk=>hF t k hk),q2,q3⟩
  |als r p er ec=>simp[ht]at q⊢;exact⟨q.1,q.2.frame (h.ent r) (λk hk=>(hF r k hk).1)⟩
  |ptr r p er ec=>simp[ht]at q⊢;exact⟨q.1,q.2.frame (h.ent r) (λk hk=>(hF r k hk).1)⟩
 disj:=h.disj
 base:=h.base
 xn:=xn
 xd:=xd
 xb:=xb }
theorem Sim.change {S S':zf}  {X X':TC}   {w w':World}(h:Sim C S Fp X st a w)(r:Nat)(T':T)(er' ec':Nat)(F':TC)
  (hb:YT C.M C.w0 w') (hS:∀b o v,S b o=some v->S' b o=some v)
  (hst:∀b o v,S' b o=some v->zU w'.heap b o=some v) (hsb:∀b o,¬C.M b->S' b o=C.S0 b o) (hF:∀t k,t≠r->k∈Fp t->w'.heap[k]?=w.heap[k]?/\∀o,S' k o=none)
  (hT:match T' with
   |.gone=>F'=[]
   |.d x=>xg S' x (Act.tv a r)/\F'=[]
   |.own x=>(∃cs,zD S' w'.heap x cs F'/\F'.Nodup/\Act.tv a r=zL x cs)/\∃y,(st r).t=.own y
   |_=>False)
  (ht0:(∃y,(st r).t=.own y)\/∃y,(st r).t=.d y)
  (her:(st r).er<=er') (hec:(st r).ec<ec')
  (fd:∀t k,t≠r->k∈F'->k∉Fp t) (fb:∀k,k∈F'->C.M k)
  (xn:X'.Nodup) (xd:∀t k,t≠r->k∈X'->k∉Fp t) (xf:∀k,k∈X'->k∉F') (xb:∀k,k∈X'->C.M k) :
  Sim C S' (VT Fp r F') X' (upd st r ⟨T',er',ec'⟩) a w':={
 size:=h.size
 pin:=h.pin
 defers:=h.defers
 below:=hb
 mine:=h.mine
 still:=⟨hst,Gok.mono hS h.still.gok,h.still.blk.of hS λg x e=>(hb.block g (h.mine.far g x e)).trans (h.below.block g (h.mine.far g x e)).symm⟩
 sinc:=λb o v q=>hS _ _ _ (h.sinc _ _ _ q)
 sbase:=hsb
 ent:=λt=>by
  by_cases htr:t=r
  ·subst htr;rw[xV];simp[VT,yO];cases T' with
   |gone=>exact hT
   |d x=>exact hT
   |own x=>exact hT.1
   |_=>exact hT.elim
  rw[YA _ _ htr];simp[VT,htr];have q:=h.ent t;unfold yO at q⊢;cases ht:(st t).t with
  |gone=>simpa only[ht] using q
  |d x=>simp[ht]at q⊢;exact⟨q.1.mono hS,q.2⟩
  |own x=>simp[ht]at q⊢;have ⟨cs,q1,q2,q3⟩:=q;exact⟨cs,q1.frame hS (λk hk=>hF t k htr hk),q2,q3⟩
  |als u p er ec=>
   simp[ht]at q⊢;refine⟨q.1,?_⟩;by_cases hu:u=r
   ·subst hu;have ⟨q1,q2,q3⟩:=q.2;unfold jS;rw[xV];refine⟨pJ q1 her,pJ q2 (Nat.le_of_lt hec),?_⟩;cases T' with
    |d x=>
     dsimp only
     intro e1 e2;rcases ht0 with⟨y,hy⟩|⟨y,hy⟩
     ·simp[hy]at q3;rcases q3 ω (.inl e2) with q|q
      ·exact q.2
      simp[e2,K0]at q
     simp[hy]at q3;exact q3 ω e2
    |own x=>
     dsimp only
     intro e1 e2;have ⟨_,y,hy⟩:=hT;simp[hy]at q3;have hp:p=[]:=e2.resolve_right ω;rcases q3 ω (.inl hp) with q|q
     ·exact .inl q
     simp[hp,K0]at q
    |_=>trivial
   have:=jS.frame (h':=w'.heap) (h.ent u) (λk hk=>(hF u k hu hk).1) q.2;unfold jS at this⊢;rw[YA _ _ hu];exact this
  |ptr u p er ec=>
   simp[ht]at q⊢;refine⟨q.1,?_⟩;by_cases hu:u=r
   ·subst hu;have ⟨q1,q2,q3⟩:=q.2;unfold jR;rw[xV];refine⟨pJ q1 her,pJ q2 (Nat.le_of_lt hec),?_⟩;cases T' with
    |own x=>
     dsimp only
     intro e1 e2;omega
    |_=>trivial
   have:=jR.frame (h':=w'.heap) (h.ent u) (λk hk=>(hF u k hu hk).1) q.2;unfold jR at this⊢;rw[YA _ _ hu];exact this
 disj:=λt u k ht hu=>by
  simp[VT]at ht hu;split at ht<;>split at hu
  ·simp_all
  ·exact absurd hu (fd u k ‹_› ht)
  ·exact absurd ht (fd t k ‹_› hu)
  exact h.disj t u k ht hu
 base:=λt k ht=>by
  simp[VT]at ht;split at ht
  ·exact fb k ht
  exact h.base t k ht
 xn:=xn
 xd:=λt k hk=>by
  simp[VT];split
  ·exact xf k hk
  exact xd t k ‹_› hk
 xb:=xb }
def Act.tv_put (a:Act)(k:Nat)(v:Value)(hk:k<a.tmps.size)(t:Nat):Act.tv (a.put (some k) v) t=if t=k then v else Act.tv a t:=by
 simp[Act.tv,Go.Act.put,gL,rS];by_cases h:t=k
 ·subst h;simp[hk]
 simp[h,rA h]
variable {e:Ent}
def jS.put {h:Array Obj}  {tv tv':Nat->Value}   (her:(st k).er<e.er)(hec:(st k).ec<e.ec)(htv:∀t,t≠k->tv' t=tv t){r:Nat}{p:List Vq}{er ec:Nat}{v:Value}
  (q:jS h st tv r p er ec v):jS h (upd st k e) tv' r p er ec v:=by
 unfold jS at q⊢;have ⟨q1,q2,q3⟩:=q;by_cases hr:r=k
 ·subst hr;rw[xV];refine⟨ω,ω,?_⟩;cases e.t with
  |gone=>trivial
  |als _ _ _ _=>trivial
  |ptr _ _ _ _=>trivial
  |_=>dsimp only;intro e1;omega
 rw[YA _ _ hr,htv r hr];exact⟨q1,q2,q3⟩
def jR.put {h:Array Obj}  {tv tv':Nat->Value}   (her:(st k).er<e.er)(hec:(st k).ec<e.ec)(htv:∀t,t≠k->tv' t=tv t){r:Nat}{p:List Vq}{er ec:Nat}{v:Value}
  (q:jR h st tv r p er ec v):jR h (upd st k e) tv' r p er ec v:=by
 unfold jR at q⊢;have ⟨q1,q2,q3⟩:=q;by_cases hr:r=k
 ·subst hr;rw[xV];refine⟨ω,ω,?_⟩;cases e.t with
  |own x=>dsimp only;intro e1;omega
  |_=>trivial
 rw[YA _ _ hr,htv r hr];exact⟨q1,q2,q3⟩
def Sim.put {X X':TC}    (h:Sim C S Fp X st a w)  (hk:C.n.ok k=true)(T':T)(F:TC)(v:Value)
  (hT:yO S w.heap (upd st k ⟨T',(st k).er+1,(st k).ec+1⟩) (λt=>if t=k then v else Act.tv a t) F ⟨T',(st k).er+1,(st k).ec+1⟩ v)
  (fd:∀t m,t≠k->m∈F->m∉Fp t) (fb:∀m,m∈F->C.M m)
  (xn:X'.Nodup) (xd:∀t m,t≠k->m∈X'->m∉Fp t) (xf:∀m,m∈X'->m∉F) (xb:∀m,m∈X'->C.M m) :
  Sim C S (VT Fp k F) X' (upd st k ⟨T',(st k).er+1,(st k).ec+1⟩) (a.put (some k) v) w:=by
 have hk':k<a.tmps.size:=h.size▸Fr.lt hk;have htv:Act.tv (a.put (some k) v)=λt=>if t=k then v else Act.tv a t:=funext (Act.tv_put a k v hk');exact {
  size:=by simp[Go.Act.put,h.size]
  pin:=λi u hi=>by
   rw[htv];have hne:i≠k:=by rintro rfl;have h1:=z1a hi;rw[Fr.free hk]at h1;cases h1
   simp[if_neg hne];exact h.pin i u hi
  defers:=h.defers
  below:=h.below
  mine:=h.mine
  still:=h.still
  sinc:=h.sinc
  sbase:=h.sbase
  ent:=λt=>by
   rw[htv];by_cases ht:t=k
   ·subst ht;rw[xV];simpa only[VT,if_true] using hT
   rw[YA _ _ ht];simp[VT,ht];have q:=h.ent t;unfold yO at q⊢;cases htt:(st t).t with
   |gone=>simpa only[htt] using q
   |d x=>simpa only[htt] using q
   |own x=>simpa only[htt] using q
   |_=>simp[htt]at q⊢;exact⟨q.1,q.2.put (gH _) (gH _) (λt ht=>by simp[ht])⟩
  disj:=λt u m ht hu=>by
   simp[VT]at ht hu;split at ht<;>split at hu
   ·simp_all
   ·exact absurd hu (fd u m ‹_› ht)
   ·exact absurd ht (fd t m ‹_› hu)
   exact h.disj t u m ht hu
  base:=λt m ht=>by
   simp[VT]at ht;split at ht
   ·exact fb m ht
   exact h.base t m ht
  xn:=xn
  xd:=λt m hm=>by
   simp[VT];split
   ·exact xf m hm
   exact xd t m ‹_› hm
  xb:=xb }
inductive TK where
 |int (k:IntKind)
 |bool
 |str
 |slice (e:Nat)
 |ptr (e:Nat)
 |struct (fs:List (Nat×Nat))
 |array (n e:Nat)
 |other
structure TI where
 kind:TK
 size:Nat
 bytes:Nat
 zero:Option A
 eqn:Bool
abbrev TT:=Nat->Option TI
structure Ctr where
 run:Nat->List A->Option A
 gives:Nat->List Bool
 raw:Nat->Bool:=λ_=>false
 ext:Fr->Oper->Option (SM Unit):=λ_ _=>none
@[reducible] def Ctr.withE (c:Ctr)(e:Fr->Oper->Option (SM Unit)):Ctr:={ c with ext:=e }
def Ctr.norm (ctr:Ctr)(k:Nat)(l:List A):List A:=if ctr.raw k=true then l else l.map A.loose
def wP:Operand->SM T
 |.tmp t=>do
  let e<-rdE t;match e.t with
  |.own _=>pure (.als t [] e.er e.ec)
  |.gone=>zF
  |T=>pure T
 |.const v=>if v.oneCell'=true then pure (.d (.atom v)) else zF
 |.func f=>pure (.d (.fn f []))
 |.global g=>match zfY g with|some x=>pure (.d (.sptr x))|none=>zF
def zhd:List Vq->A->SM A
 |[],x=>pure x
 |.deref::p,.box x=>zhd p x
 |.fld i::p,.agg fs=>zqP fs[i]? >>= λy=>zhd p y
 |.idx i::p,.osl _ _ es=>zjG es[i]? >>= λy=>zhd p y
 |_,_=>zF
def zie:List Vq->A->A->List H->Option (A×List H×List Prop)
 |[],_,z,hs=>some (z,hs,[])
 |.deref::p,.box x,z,hs=>match zie p x z hs with
  |some (w,hs,ob)=>some (.box w,hs,ob)
  |none=>none
 |.fld i::p,.agg fs,z,hs=>match hs with
  |.f :: .a y::hs=>match zie p y z hs with
   |some (w,.l es::hs,ob)=>some (.agg es,hs,(fs[i]?=some y)::(ob++[fs.set i w=es]))
   |_=>none
  |hs=>match fs[i]? with
   |some y=>match zie p y z hs with
    |some (w,hs,ob)=>some (.agg (fs.set i w),hs,ob)
    |none=>none
   |none=>none
 |.idx i::p,.osl sz t es,z,.a y::hs=>match zie p y z hs with
  |some (w,.l xs::hs,ob)=>some (.osl sz t xs,hs,(es[i]?=some y)::(ob++[es.set i w=xs]))
  |_=>none
 |_,_,_,_=>none
def zid:∀(p:List Vq) {x z:A} {hs:List H} {a:A} {hs':List H} {ob:List Prop},zie p x z hs=some (a,hs',ob)->z7U ob->z05 p x z=a:=by
 intro p x z hs
 fun_induction zie p x z hs<;>intro a hs' ob e o<;>cases e<;>rename_i ih
 ·rfl
 ·rename_i h;rw[z05,ih h o]
 all_goals rename_i h
 ·have ⟨o1,o2⟩:=jF o.2;simp only[z05,o.1,ih h o1,o2.1]
 ·rename_i hy _ _ _;simp only[z05,hy,ih h o]
 have ⟨o1,o2⟩:=jF o.2;simp only[z05,o.1,ih h o1,o2.1]
def znD (p:List Vq)(x z:A):SM A:=pr (some (z05 p x z)) ⟨zie p x z,λe o=>congrArg some (zid p e o)⟩
def eqS (es:List A):SM (List A):=ask H.l? (if A.lives es=true then some (A.shuts es) else none) (λys=>A.lives es=true/\A.shuts es=ys) λh=>by rw[if_pos h.1,h.2]
def zbB:A->SM A
 |.osl sz t es=>eqS es>>=λxs=>pure (.sl sz t xs)
 |.agg fs=>shutsM fs>>=λgs=>pure (.agg gs)
 |.box x=>zbB x>>=λy=>pure (.sptr y)
 |.dead _|.opq _|.tup _=>zF
 |x=>pure x
where shutsM:List A->SM (List A)
 |[]=>pure []
 |x::xs=>zbB x>>=λy=>shutsM xs>>=λys=>pure (y::ys)
def zh8 (r:Nat)(p:List Vq)(er ec:Nat):SM A:=rdE r>>=λe=>
 match e.t with
 |.own x=>if e.er=er/\(p=[]\/e.ec=ec) then zhd p x else zF
 |.d x=>if e.er=er/\p=[] then pure x else zF
 |_=>zF
def zaQ (r:Nat)(p:List Vq)(er ec:Nat):SM A:=rdE r>>=λe=>
 match e.t with
 |.own x=>if e.er=er/\e.ec=ec then zhd p x else zF
 |_=>zF
def val:T->SM A
 |.d a=>pure a
 |.als r p er ec=>zh8 r p er ec>>=λy=>if y.isD=true then pure y else zF
 |_=>zF
def UV (tt:TT)(t:Nat):A->A
 |.atom (.slice none 0 0)=>
  match tt t with
  |some ⟨.slice e,_,_,_,_⟩=>
   match tt e with
   |some i=>.osl i.size true []
   |none=>.atom (.slice none 0 0)
  |_=>.atom (.slice none 0 0)
 |a=>a
def take:T->SM A
 |.d a=>pure a
 |.als r p er ec=>zh8 r p er ec>>=λy=>
  if y.isD=true then pure y else if y.plain=true then rdE r>>=λe=>
   match e.t with
   |.own x=>
    if p=[] then wrE r ⟨.gone,e.er+1,e.ec+1⟩>>=λ_=>pure y
    else znD p x (.dead y.size)>>=λz=>wrE r ⟨.own z,e.er,e.ec+1⟩>>=λ_=>pure y
   |_=>zF
  else zF
 |_=>zF
def KW (tt:TT)(t:Nat)(x:T):SM A:=take x>>=λy=>pure (UV tt t y)
def mkT:A->T
 |.tup fs=>.d (.tup fs)
 |a=>if a.isD=true then .d a else .own a
def wrT (n:Fr)(dst:TD)(x:T):SM Unit :=
 match dst with
 |none=>pure ()
 | some k=>if n.ok k=true then do
   let e<-rdE k
   wrE k ⟨x,e.er+1,e.ec+1⟩
  else zF
def zcH (op:BinOp)(k:IntKind)(a b:Int):Option A :=
 match op with
 |.add=>some (.atom (.int k (k.wrap (a+b))))
 |.sub=>some (.atom (.int k (k.wrap (a-b))))
 |.mul=>some (.atom (.int k (k.wrap (a*b))))
 |.quo=>if b=0 then none else some (.atom (.int k (k.wrap (a.tdiv b))))
 |.rem=>if b=0 then none else some (.atom (.int k (a.tmod b)))
 |.eql=>some (.atom (.bool (a==b)))
 |.neq=>some (.atom (.bool (a !=b)))
 |.lss=>some (.atom (.bool (decide (a<b))))
 |.leq=>some (.atom (.bool (decide (a<=b))))
 |.gtr=>some (.atom (.bool (decide (a>b))))
 |.geq=>some (.atom (.bool (decide (a>=b))))
 |_=>none
def vU:List A->List A->Option Bool
 |[],[]=>some true
 |.atom (.int k a)::as_,.atom (.int k' b)::bs=>if k=k' then(vU as_ bs).map λr=>(a==b)&&r else none
 |_,_=>none
def zk5 (tt:TT)(op:BinOp)(xt:Nat):A->A->Option A
 |.atom (.int k a),.atom (.int k' b)=>if k=k' then zcH op k a b else none
 |.atom (.bool a),.atom (.bool b)=>
  match tt xt with
  |some ⟨.bool,_,_,_,_⟩=>
   match op with
   |.eql=>some (.atom (.bool (a==b)))
   |.neq=>some (.atom (.bool (!(a==b))))
   |_=>none
  |_=>none
 |.agg as_,.agg bs=>
  match tt xt with
  | some i=>if i.eqn=true/\as_.length=i.size/\bs.length=i.size then
    match op with
    |.eql=>(vU as_ bs).map λr=>.atom (.bool r)
    |.neq=>(vU as_ bs).map λr=>.atom (.bool (!r))
    |_=>none
   else none
  |none=>none
 |_,_=>none
def unA (op:UnOp):A->Option A
 |.atom (.bool b)=>match op with|.not=>some (.atom (.bool (!b)))|_=>none
 |.atom (.int k a)=>match op with|.neg=>some (.atom (.int k (k.wrap (0-a))))|_=>none
 |_=>none
def z72:T->SM (A⊕(Nat×List Vq×Nat×Nat))
 |.d (.sptr y)=>pure (.inl y)
 |.ptr r p er ec=>pure (.inr (r,p,er,ec))
 |.als r p er ec=>rdE r>>=λe=>zh8 r p er ec>>=λy=>
  match y with
  |.box _=>pure (.inr (r,p++[.deref],e.er,e.ec))
  |.sptr z=>pure (.inl z)
  |_=>zF
 |_=>zF
def A.isAgg:A->Bool
 |.agg _=>true
 |_=>false
def TK.isAgg:TK->Bool
 |.struct _|.array _ _=>true
 |_=>false
def WJ (tt:TT)(t:Nat)(y:A):Bool :=
 match tt t with
 |some i=>i.kind.isAgg==y.isAgg&&i.size==y.size&&(i.kind.isAgg || i.size==1)
 |none=>false
def ziX (tt:TT)(n:Fr)(dst:TD)(t:Nat)(x:T):SM Unit:=z72 x>>=λq=>
 match q with
 |.inl y=>if WJ tt t y=true/\y.isD=true then(wrT n dst (.d y)) else zF
 |.inr (r,p,er,ec)=>zaQ r p er ec>>=λy=>
  if WJ tt t y=true then
   (if y.isD=true then(wrT n dst (.d y)) else(wrT n dst (.als r p er ec)))
  else zF
def zlr (tt:TT)(t:Nat)(x v:T):SM Unit:=z72 x>>=λq=>
 match q with
 |.inl _=>zF
 |.inr (r,p,er,ec)=>KW tt t v>>=λy=>rdE r>>=λe=>
  match e.t with
  |.own x0=>
   if e.er=er/\e.ec=ec then zhd p x0>>=λy0=>if y.size=y0.size/\WJ tt t y=true then znD p x0 y>>=λz=>(wrE r ⟨.own z,e.er,e.ec+1⟩) else zF
   else zF
  |_=>zF
def z60 (tt:TT)(t i:Nat)(fs:List A):Bool :=
 match tt t with
 |some ⟨.struct offs,_,_,_,_⟩=>
  match offs[i]? with
  |some (off,sz)=>off==A.sizes (fs.take i)&&sz !=0
  |none=>false
 |_=>false
def z4G (tt:TT)(n:Fr)(dst:TD)(t i:Nat)(x:T):SM Unit:=z72 x>>=λq=>
 match q with
 |.inl (.agg fs)=>ofO fs[i]? >>= λy=>if z60 tt t i fs=true then wrT n dst (.d (.sptr y)) else zF
 |.inl _=>zF
 |.inr (r,p,er,ec)=>zaQ r p er ec>>=λy=>
  match y with
  |.agg fs=>if z60 tt t i fs=true/\i<fs.length then(wrT n dst (.ptr r (p++[.fld i]) er ec)) else zF
  |_=>zF
def slc (tt:TT)(t:Nat):Option (Nat×TI) :=
 match tt t with
 |some ⟨.slice e,_,_,_,_⟩=>(tt e).map λi=>(e,i)
 |_=>none
def jB (tt:TT)(t:Nat):TD:=(slc tt t).map (·.2.size)
def zj7 (tt:TT)(n:Fr)(dst:TD)(t:Nat)(sz:Nat)(xs:List A)(j:Int):SM Unit :=
 if jB tt t=some sz then Kt (0<=j) (zjG xs[j.toNat]? >>= λy=>(wrT n dst (.d (.sptr y)))) else zF
def z4C (tt:TT)(n:Fr)(dst:TD)(t:Nat)(x:T)(i:A):SM Unit :=
 match i with
 |.atom (.int _ j)=>
  match x with
  |.d (.sl sz _ xs)=>zj7 tt n dst t sz xs j
  |.als r p er ec=>rdE r>>=λe=>zh8 r p er ec>>=λy=>
   match y with
   |.osl sz _ es=>if jB tt t=some sz then Kt (0<=j/\j.toNat<es.length) (wrT n dst (.ptr r (p++[.idx j.toNat]) e.er e.ec)) else zF
   |.sl sz _ xs=>zj7 tt n dst t sz xs j
   |_=>zF
  |_=>zF
 |_=>zF
def lenOf:A->TD
 |.sl _ _ xs=>some xs.length
 |.osl _ _ es=>some es.length
 |.atom (.slice none 0 0)=>some 0
 |_=>none
def zjx:A->TD
 |.sl _ true xs=>some xs.length
 |.osl _ true es=>some es.length
 |.atom (.slice none 0 0)=>some 0
 |_=>none
def jY (tt:TT)(t:Nat):Bool :=
 match tt t with
 |some ⟨.slice _,_,_,_,_⟩=>true
 |_=>false
def zb5:T->SM A
 |.d a=>pure a
 |.als r p er ec=>zh8 r p er ec
 |_=>zF
def lim:Nat:=4294967296
def zf6:A->Option (Nat×List A)
 |.sl sz _ ys|.osl sz _ ys=>some (sz,ys)
 |_=>none
def wrL (n:Fr)(dst:TD)(sz:Nat)(zs:List A):SM Unit:=eqL zs>>=λzs=>wrT n dst (.own (.osl sz false zs))
def z8S (tt:TT)(n:Fr)(dst:TD)(t:Nat)(s x:T):SM Unit:=ofO (slc tt t)>>=λq=>zb5 x>>=λy=>ofO (zf6 y)>>=λr=>
 if r.1=q.2.size/\q.2.bytes<=4096/\0<q.2.size/\q.2.zero.isSome=true then Kt (A.areD r.2=true) (KW tt t s>>=λz=>
  match z with
  |.osl sz _ es=>if sz=q.2.size then Kt (es.length+r.2.length<=lim) (wrL n dst sz (es++r.2)) else zF
  |.sl sz tg es=>if sz=q.2.size/\tg=true then Kt (es.length+r.2.length<=lim/\r.2≠[]/\A.areD es=true) (wrL n dst sz (es++r.2)) else zF
  |_=>zF)
 else zF
def z4M (tt:TT)(n:Fr)(dst:TD)(t:Nat)(s x:Operand):SM Unit:=ofO (slc tt t)>>=λq=>
 if q.2.bytes<=4096/\0<q.2.size/\q.2.zero.isSome=true then wP x>>=λtx=>take tx>>=λy=>wP s>>=λts=>KW tt t ts>>=λz=>
  match y,z with
  |.osl sz _ ys,.osl sz' _ es=>if sz=q.2.size/\sz'=q.2.size/\A.plains ys=true then Kt (es.length+ys.length<=lim) (wrL n dst sz' (es++ys)) else zF
  |_,_=>zF
 else zF
mutual
def A.flat:A->Bool
 |.atom (.slice _ _ _)=>false
 |.atom _=>true
 |.agg fs|.tup fs=>A.flats fs
 |_=>false
def A.flats:List A->Bool
 |[]=>true
 |a::as_=>a.flat&&A.flats as_
end
def z04 (tt:TT)(t:Nat):T->SM A
 |.d (.tup _)=>zF
 |.d a=>pure (UV tt t a).shut
 |.als r p er ec=>zh8 r p er ec>>=λy=>
  if y.isD=true then pure y else zbB y>>=λys=>rdE r>>=λe=>
    match e.t with
    |.own x=>
     if p=[] then wrE r ⟨.d ys,e.er,e.ec+1⟩>>=λ_=>pure ys
     else znD p x ys>>=λz=>wrE r ⟨.own z,e.er,e.ec+1⟩>>=λ_=>pure ys
    |_=>zF
 |_=>zF
def xP (tt:TT):List (Operand×Nat)->SM (List A)
 |[]=>pure []
 |(x,t)::as_=>wP x>>=λy=>z04 tt t y>>=λa=>xP tt as_>>=λbs=>pure (a::bs)
def z2c (tt:TT):List (Bool×Operand×Nat)->SM (List A)
 |[]=>pure []
 |(g,x,t)::as_=>wP x>>=λy=>(if g=true then KW tt t y else z04 tt t y)>>=λa=>z2c tt as_>>=λbs=>pure (a::bs)
def z7a (y:A):Bool:=match y with|.osl _ _ _=>true|.box _=>true|.opq o=>!o.multi|_=>false
def zmw (tt:TT)(ctr:Ctr)(n:Fr)(dst:TD)(f:A)(as_:List (Operand×Nat)):SM Unit :=
 match f with
 |.fn k caps=>eqv H.g? (ctr.gives k)>>=λgs=>
  if gs.isEmpty=true then zmd (xP tt as_)>>=λxs=>zjG (ctr.run k (ctr.norm k (xs++caps)))>>=λr=>
    if r.flat=true then wrT n dst (.d r)
    else xP tt as_>>=λ_=>wrT n dst (mkT r)
  else if gs.length=as_.length then z2c tt (gs.zip as_)>>=λxs=>zjG (ctr.run k (ctr.norm k (xs++caps)))>>=λr=>wrT n dst (mkT r)
  else zF
 |_=>zF
def z8d:List (Operand×Nat)->TT->SM (List A)
 |[],_=>pure []
 |(x,t)::ps,tt=>wP x>>=λy=>KW tt t y>>=λa=>z8d ps tt>>=λbs=>pure (a::bs)
def z2N:List A->List (Nat×A)->List A
 |fs,[]=>fs
 |fs,(i,a)::ps=>z2N (fs.set i a) ps
variable {u:Unit}
section
variable {α:Type}{st:St}{a b:α}{k:Nat}{R:TC}{U:List (Nat×Ent)}
def qJ (h:(pure a:SM α) st=some (b,R,U)):b=a/\R=[]/\U=[]:=by cases h;exact⟨rfl,rfl,rfl⟩
def z2b (h:rdE k st=some (e,R,U)):e=st k/\R=[k]/\U=[]:=by cases h;exact⟨rfl,rfl,rfl⟩
def z4X (h:wrE k e st=some (u,R,U)):R=[]/\U=[(k,e)]:=by cases h;exact⟨rfl,rfl⟩
def Vy (h:(zF:SM α) st=some (a,R,U)):False:=by cases h
end
def z3k:∀{p:List Vq} {x y:A} {st:St} {R:TC} {U:List (Nat×Ent)},zhd p x st=some (y,R,U)->U=[]/\wR p x=some y:=by
 intro p x
 fun_induction zhd p x<;>intro y st R U e
 ·cases e;exact⟨rfl,rfl⟩
 ·rename_i ih;exact ih e
 ·rename_i ih;have ⟨z,_,h1,h2⟩:=bO e;have ⟨h3,h4⟩:=ih z h2;exact⟨h3,by simp only[wR,h1,h4]⟩
 ·rename_i ih;have ⟨z,_,h1,h2⟩:=bO e;have ⟨h3,h4⟩:=ih z h2;exact⟨h3,by simp only[wR,h1,h4]⟩
 cases e
variable {X:TC}
def Sim.free (h:Sim C S Fp X st a w)(t k:Nat)(hk:k∈Fp t) :
  k<w.heap.size/\(∀o,S k o=none)/\True:=by
 have q:=h.ent t;unfold yO at q;cases htt:(st t).t with
 |own z=>simp[htt]at q;have ⟨cs,g1,_⟩:=q;exact g1.own k hk
 |gone=>simp[htt]at q;simp[q]at hk
 |d z=>simp[htt]at q;simp[q.2]at hk
 |_=>simp[htt]at q;simp[q.1]at hk
def TOk (S:zf)(h:Array Obj)(st:St)(tv:Nat->Value)(x:T)(v:Value):Prop :=
 match x with
 |.d y=>xg S y v
 |.als r p er ec=>jS h st tv r p er ec v
 |.ptr r p er ec=>jR h st tv r p er ec v
 |_=>False
def yI {v u:Value}:wX S (.atom v) u↔u=v/\v.oneCell'=true:=by
 constructor
 ·rintro⟨cs,h,rfl⟩;simp[Rep]at h;obtain⟨rfl,h⟩:=h;exact⟨rfl,h⟩
 rintro⟨rfl,h⟩;exact⟨[u],by simp[Rep,h],rfl⟩
def zo {v u:Value}:xg S (.atom v) u↔u=v/\v.oneCell'=true:=by simp[xg];exact yI
variable {x:Operand}
def zy (h:Sim C S Fp X st a w)  {y:T}   (e:wP x st=some (y,R,U)) :
  U=[]/\TOk S w.heap st (Act.tv a) y (a.eval x):=by
 cases x with
 |tmp t=>
  simp only[wP]at e;obtain⟨en,R1,U1,R2,U2,h1,h2,rfl,rfl⟩:=bind_some e;obtain⟨rfl,rfl,rfl⟩:=z2b h1;simp only[zh]at h2;have q:=h.ent t;unfold yO at q;cases ht:(st t).t with
  |gone=>simp only[ht]at h2;cases h2
  |d z=>simp only[ht]at h2 q;cases h2;exact⟨rfl,q.1⟩
  |own z=>simp only[ht]at h2 q;cases h2;refine⟨rfl,pF _,pF _,?_⟩;simp only[ht];exact λ_ _=>.inl ⟨trivial,rfl⟩
  |als r p er ec=>simp only[ht]at h2 q;cases h2;exact⟨rfl,q.2⟩
  |ptr r p er ec=>simp only[ht]at h2 q;cases h2;exact⟨rfl,q.2⟩
 |const v=>
  simp only[wP]at e;split at e
  ·cases e;exact⟨rfl,zo.2 ⟨rfl,‹_›⟩⟩
  cases e
 |func f=>simp only[wP]at e;cases e;refine⟨rfl,?_⟩;simp only[TOk,xg];exact⟨[.func (.func f) #[] #[]],by simp[Rep,zX],rfl⟩
 |global g=>
  simp only[wP]at e;cases hg:zfY g with
  |none=>simp only[hg]at e;cases e
  |some z=>simp only[hg]at e;cases e;have ⟨l,r1,r2⟩:=h.still.gok g z hg;refine⟨rfl,?_⟩;simp only[TOk,xg];exact⟨[.pointer (some ⟨g,0,none⟩)],by simp only[Rep];exact⟨g,0,l,rfl,r1,r2⟩,rfl⟩
variable {y:A}
def z7i (e:zh8 r p er ec st=some (y,R,U)) :
  U=[]/\((∃x,(st r).t=.own x/\(st r).er=er/\(p=[]\/(st r).ec=ec)/\wR p x=some y)\/((st r).t=.d y/\(st r).er=er/\p=[])):=by
 have ⟨_,h2⟩:=bD e;split at h2
 ·rename_i x ht;have ⟨hc,h3⟩:=bI h2;have ⟨h4,g⟩:=z3k h3;exact⟨h4,.inl ⟨x,ht,hc.1,hc.2,g⟩⟩
 ·rename_i ht;have ⟨hc,h3⟩:=bI h2;cases h3;exact⟨rfl,.inr ⟨ht,hc.1,hc.2⟩⟩
 cases h2
variable {ty:TypeId}
def Vt {cs cs':TE}  {b o:Nat}   (hy:zD S h y cs F)(hb:h[b]?=some (.cells arr ty (0,0)))(hs:z3G arr o cs)(hl:cs'.length=y.size)(hs':zdD h b o cs'):cs'=cs:=by
 apply gW;intro j;by_cases hj:j<y.size
 ·have h1:=hs' j cs'[j] (pB ω);have hlen:=hy.len;have h2:=hs j cs[j] (pB ω);simp[zU,hb]at h1;rw[h2]at h1;rw[pB ω,pB ω];exact h1.symm
 have hlen:=hy.len;rw[pL ω,pL ω]
def z1c (h:Sim C S Fp X st a w)     (ha:jS w.heap st (Act.tv a) r p er ec v)
    {y:A} {R:TC} {U:List (Nat×Ent)} (e:zh8 r p er ec st=some (y,R,U)) :
    U=[]/\((∃x cs F,(st r).t=.own x/\(st r).er=er/\(p=[]\/(st r).ec=ec)/\wR p x=some y/\zD S w.heap y cs F/\v=zL y cs/\(∀k∈F,k∈Fp r)/\F.Nodup)\/((st r).t=.d y/\(st r).er=er/\p=[]/\v=Act.tv a r/\xg S y v)):=by
  obtain⟨rfl,q⟩:=z7i e;refine⟨rfl,?_⟩;have hr:=h.ent r;unfold yO at hr;have ⟨_,_,a3⟩:=ha;rcases q with⟨x,ht,e1,e2,e3⟩|⟨ht,e1,e2⟩
  · left;simp only[ht]at hr a3;have ⟨cs,c1,c2,c3⟩:=hr;rcases a3 e1 e2 with⟨rfl,rfl⟩|⟨o1,y',b,o,cs',g1,g2,g3,g4,g5⟩
    · simp only[wR,Option.some.injEq]at e3;subst e3;exact⟨x,cs,Fp r,ht,e1,e2,rfl,c1,c3,λ_ h=>h,c2⟩
    rw[e3]at g1;cases g1;have ⟨b',o',arr,ty,csy,Fy,f1,f2,f3,f4,f5,f6,f7,f8,_⟩:=Wv p c1 c2 (by rintro rfl;simp[K0]at o1) (by rintro i q rfl;simp[K0]at o1) e3;rw[c3,f1]at g2;cases g2;have:=Vt f4 f2 f3 g3 g4;subst this;exact⟨x,cs',Fy,ht,e1,e2,e3,f4,g5,f7,f8⟩
  right;simp only[ht]at hr a3;subst e2;have:=a3 e1 rfl;subst this;exact⟨ht,e1,rfl,rfl,hr.1⟩
def wz (h:Sim C S Fp X st a w){x:T}  (hx:TOk S w.heap st (Act.tv a) x v)    (e:val x st=some (y,R,U)) :
  U=[]/\xg S y v:=by
 cases x with
 |d z=>simp[val]at e;cases e;exact⟨rfl,hx⟩
 |als r p er ec=>
  simp[val]at e;have ⟨z,_,q,h2⟩:=bR (z1c h hx) e;split at h2
  ·rename_i hd;cases h2;refine⟨rfl,?_⟩;rcases q with⟨x,cs,F,_,_,_,_,q5,q6,_⟩|⟨_,_,_,_,q5⟩
   ·exact wX.repV ⟨cs,(q5.isD hd).1,q6⟩
   exact q5
  cases h2
 |_=>simp[val]at e;cases e
def xg.conc (h:Array Obj)(hr:xg S y v)(hy:∀fs,y≠.tup fs):∃cs,zD S h y cs []/\v=zL y cs:=by
 have:wX S y v:=by cases y<;>simp[xg]at hr<;>first|exact hr|exact absurd rfl (hy _)
 have ⟨cs,h1,h2⟩:=this;exact⟨cs,h1.conc h,h2⟩
def z14 (h:Sim C S Fp X st a w){x:T}  (hx:TOk S w.heap st (Act.tv a) x v)    (e:take x st=some (y,R,U)) :
  ∃Fp' F,Sim C S Fp' (F++X) (zh U st) a w/\((xg S y v/\F=[])\/∃cs,zD S w.heap y cs F/\F.Nodup/\v=zL y cs):=by
 cases x with
 |d z=>simp only[take]at e;cases e;exact⟨Fp,[],h,.inl ⟨hx,rfl⟩⟩
 |als r p er ec=>
  simp only[take]at e;obtain⟨z,R1,U1,R2,U2,h1,h2,rfl,rfl⟩:=bind_some e;obtain⟨rfl,q⟩:=z1c h hx h1;simp only[zh]at h2;simp only[mA];by_cases hd:z.isD=true
  ·rw[if_pos hd]at h2;cases h2;refine⟨Fp,[],h,.inl ⟨?_,rfl⟩⟩;rcases q with⟨x,cs,F,_,_,_,_,q5,q6,_⟩|⟨_,_,_,_,q5⟩
   ·exact wX.repV ⟨cs,(q5.isD hd).1,q6⟩
   exact q5
  rw[if_neg hd]at h2;by_cases hpl:z.plain=true
  case neg=>rw[if_neg hpl]at h2;cases h2
  rw[if_pos hpl]at h2;obtain⟨en,R3,U3,R4,U4,h3,h4,rfl,rfl⟩:=bind_some h2;obtain⟨rfl,rfl,rfl⟩:=z2b h3;simp only[zh]at h4;rcases q with⟨x,cs,F,q1,q2,q3,q4,q5,q6,q7,q8⟩|⟨q1,_⟩
  ·simp only[q1]at h4;have hr:=h.ent r;unfold yO at hr;simp only[q1]at hr;by_cases hp:p=[]
   ·rw[if_pos hp]at h4;obtain⟨u5,R5,U5,R6,U6,h5,h6,rfl,rfl⟩:=bind_some h4;cases h5;cases h6;subst hp;simp only[wR,Option.some.injEq]at q4;subst q4;have ⟨cs',c1,c2,c3⟩:=hr;have hv:v=Act.tv a r:=by
     have:=hx.2.2;simp only[q1]at this;rcases this q2 (.inl trivial) with⟨_,hv⟩|⟨ho,_⟩
     ·exact hv
     simp[K0]at ho
    refine⟨VT Fp r [],Fp r,?_,.inr ⟨cs',c1,c2,by rw[hv,c3]⟩⟩;simp only[mA,gC,zh];refine h.change r .gone _ _ [] h.below (λ_ _ _ h=>h) h.still.cell h.sbase (λt k _ hk=>⟨rfl,(h.free t k hk).2.1⟩) rfl (.inl ⟨x,q1⟩) (Nat.le_succ _) (gH _) ς ς ?_ ?_ ς ?_
    ·rw[pU];refine⟨c2,h.xn,?_⟩;rintro m hm m' hm' rfl;exact h.xd r m hm' hm
    ·intro t k ht hk;rcases pD.1 hk with hk|hk
     ·exact λhk'=>ht (h.disj t r k hk' hk)
     exact h.xd t k hk
    intro k hk;rcases pD.1 hk with hk|hk
    ·exact h.base r k hk
    exact h.xb k hk
   rw[if_neg hp]at h4;obtain⟨u5,R5,U5,R6,U6,h5,h6,rfl,rfl⟩:=bind_some h4;cases h5;cases h6;have ⟨cs',c1,c2,c3⟩:=hr;have ho:K0 p=true:=by
    have:=hx.2.2;simp only[q1]at this;rcases this q2 q3 with⟨hp',_⟩|⟨ho,_⟩
    ·exact absurd hp' hp
    exact ho
   have hx3:=hx.2.2;simp only[q1]at hx3;rcases hx3 q2 q3 with⟨hp',_⟩|⟨_,y',b,o,csa,g1,g2,g3,g4,g5⟩
   ·exact absurd hp' hp
   rw[q4]at g1;cases g1;have ⟨b',o',arr,ty,csy,Fy,f1,f2,f3,f4,f5,f6,f7,f8,f9⟩:=Wv p c1 c2 hp (by rintro i q rfl;simp[K0]at ho) q4;rw[c3,f1]at g2;cases g2;have hcs:=Vt f4 f2 f3 g3 g4;subst hcs;have ⟨F0',d1,d2,d3⟩:=f9 S w.heap (.dead y.size) csa [] (λ_ _ _ h=>h) rfl (by simp only[zD];exact⟨f4.len,f4.one1 hpl,trivial⟩) ς (λk hk _=>(c1.own k hk).2.1) (λ_ _ _ _=>rfl) (by rw[VD f3];exact f2) ς;have hval:zL (z05 p x (.dead y.size)) cs'=zL x cs':=by
    cases p with
    |nil=>exact absurd rfl hp
    |cons s p'=>
     cases s with
     |fld _=>simp[K0]at ho
     |_=>cases x<;>simp[z05,zL]
   refine⟨VT Fp r F0',Fy,?_,.inr ⟨csa,f4,f8,g5⟩⟩;simp only[mA,gC,zh];refine h.change r (.own (z05 p x (.dead y.size))) _ _ F0' h.below (λ_ _ _ h=>h) h.still.cell h.sbase (λt k _ hk=>⟨rfl,(h.free t k hk).2.1⟩) ⟨⟨cs',d1,d2,by rw[hval];exact c3⟩,x,q1⟩ (.inl ⟨x,q1⟩) (pF _) (gH _) ?_ ?_ ?_ ?_ ?_ ?_
   ·intro t k ht hk hk';rcases(d3 k).1 hk with hk|hk
    ·exact ht (h.disj t r k hk' hk.1)
    simp at hk
   ·intro k hk;rcases(d3 k).1 hk with hk|hk
    ·exact h.base r k hk.1
    simp at hk
   ·rw[pU];refine⟨f8,h.xn,?_⟩;rintro m hm m' hm' rfl;exact h.xd r m hm' (f7 m hm)
   ·intro t k ht hk;rcases pD.1 hk with hk|hk
    ·exact λhk'=>ht (h.disj t r k hk' (f7 k hk))
    exact h.xd t k hk
   ·intro k hk hk';rcases(d3 k).1 hk' with hk'|hk'
    ·rcases pD.1 hk with hk|hk
     ·exact hk'.2 hk
     exact h.xd r k hk hk'.1
    simp at hk'
   intro k hk;rcases pD.1 hk with hk|hk
   ·exact h.base r k (f7 k hk)
   exact h.xb k hk
  simp only[q1]at h4;cases h4
 |_=>simp only[take]at e;cases e
def Has (S:zf)(h:Array Obj)(y:A)(v:Value)(F:TC):Prop:=(xg S y v/\F=[])\/∃cs,zD S h y cs F/\F.Nodup/\v=zL y cs
mutual
def Rep.isD:∀{a:A} {cs:TE},Rep S a cs->a.isD=true
 |.agg fs,_,r=>by simp[Rep]at r;simp[A.isD];exact zX.areD r
 |.atom _,_,_=>rfl
 |.fn _ _,_,_=>rfl
 |.sl _ _ _,_,_=>rfl
 |.sptr _,_,_=>rfl
 |.dop _,_,_=>rfl
 |.tup _,_,r=>by simp[Rep]at r
 |.osl _ _ _,_,r=>by simp[Rep]at r
 |.box _,_,r=>by simp[Rep]at r
 |.dead _,_,r=>by simp[Rep]at r
 |.opq _,_,r=>by simp[Rep]at r
def zX.areD:∀{as_:List A} {cs:TE},zX S as_ cs->A.areD as_=true
 |[],_,_=>rfl
 |a::as_,_,r=>by simp[zX]at r;have ⟨c1,c2,_,r1,r2⟩:=r;simp[A.areD,Rep.isD r1,zX.areD r2,sO]
end
def z3C (P:Program)(t:Nat):TK->Prop
 |.int k=>P.underlying t=some (.int k)
 |.bool=>P.underlying t=some .bool
 |.str=>P.underlying t=some .string
 |.slice e=>P.underlying t=some (.slice e)
 |.ptr e=>P.underlying t=some (.pointer e)
 |.struct fs=>∃fields,P.underlying t=some (.struct fields)/\fields.toList.map (λf=>(f.offset,P.cellsOf f.type))=fs/\∀f∈fields.toList,∃i,P.info? f.type=some i
 |.array n e=>P.underlying t=some (.array n e)
 |.other=>∃d,P.underlying t=some d/\(match d with|.struct _|.array _ _=>false|_=>true)=true
def yV:TE->TE->Option Bool
 |[],[]=>some true
 |.int k a::as_,.int k' b::bs=>if k=k' then(yV as_ bs).map λr=>(a==b)&&r else none
 |_,_=>none
structure zdR (P:Program)(t n:Nat):Prop where
 guard:P.eqGuardType P.depth t=false
 run:∀(vs us:TE) (r:Bool) (w:World),vs.length=n->us.length=n->yV vs us=some r->(Op.equal t (.agg vs.toArray) (.agg us.toArray)).run P w=.ok r w
def zmE (z:A)(v:Value)(n:Nat):Prop:=z.size=n/\∀S h,zD S h z v.cells.toList []
structure wD (P:Program)(t:Nat)(i:TI):Prop where
 info:∃f,P.info? t=some f/\f.size=i.size/\f.bytes=i.bytes/\∀z,i.zero=some z->∃v,f.zero=some v/\zmE z v i.size
 kind:z3C P t i.kind
 eqn:i.eqn=true->zdR P t i.size
def xH (P:Program)(tt:TT):Prop:=∀t i,tt t=some i->wD P t i
def fen (r:TD):Fence:={ Fence.wide with round:=r }
variable {P:Program}
def z0A {f:FuncId}{vs:Array Value}  {R:Ending->World->Prop}(h:Calls P f vs w R)(r:TD)(m:Nat):CallsIn (fen r) m P f vs w R:=by
 have h0:CallsIn Fence.wide m P f vs w R:=callsIn_wide.2 h;cases r with
 |none=>exact h0
 |some l=>exact h0.inRound l
def vd (P:Program)(C:Ctx)(o:Oper)(a:Act)(w:World)(st':St):Prop :=
 ∀(r:TD) (m:Nat) (K:Act->World->Prop) (Q:Exit->Act->World->Prop),(∀S Fp a' w',Sim C S Fp [] st' a' w'->K a' w')->o.wpIn (fen r) m P a w K Q
variable {o:Oper}
def Vz {ρ:Operand->Value}{w w':World}{x:Next}(h:(execOp ρ o).run P w=.ok x w')(hx:∀d,x≠.defer d)(r:TD):(o.semAt r ρ).run P w=.ok x w':=by
 rw[Oper.semAt_eq r ρ o ?_]
 ·exact h
 intro c hc;simp[execOp,hc]at h;cases hr:(resolve ρ c o.type).run P w with
 |ok d w2=>simp[hr,Result.andThen_ok,Result.ok.injEq]at h;exact hx _ h.1.symm
 |halt e w2=>simp[hr]at h
def zm {w w':World}{st':St}    (h:(execOp a.eval o).run P w=.ok (.value v) w')(hs:Sim C S Fp [] st' (a.put o.dst v) w'):vd P C o a w st':=by intro r m K Q hK;refine⟨λ_ _=>trivial,?_⟩;rw[Vz h ς];exact hK _ _ _ _ hs
def z7z {w w':World}{st':St}   (h:(execOp a.eval o).run P w=.ok .skip w')(hd:o.dst=none)(hs:Sim C S Fp [] st' a w'):vd P C o a w st':=by intro r m K Q hK;refine⟨λ_ _=>trivial,?_⟩;rw[Vz h ς,Oper.uponIn_skip,hd];exact hK _ _ _ _ hs
variable {dst:TD}
def z4W {x:T}     (e:wrT n dst x st=some (u,R,U)) :
  (dst=none/\U=[])\/∃k,dst=some k/\n.ok k=true/\U=[(k,⟨x,(st k).er+1,(st k).ec+1⟩)]:=by
 unfold wrT at e;cases dst with
 |none=>obtain⟨_,_,rfl⟩:=qJ e;exact .inl ⟨rfl,rfl⟩
 |some k=>
  right;simp only at e;split at e
  ·rename_i hk;have ⟨_,h4⟩:=bD e;cases h4;exact⟨k,rfl,hk,ς⟩
  cases e
variable {tt:TT}{t:Nat}{fs:List A}{xt:Nat}{op:BinOp}
section
variable {C:Ctx}{S:zf}{Fp:Nat->TC}{X:TC}{st:St}{a:Act}{w:World}
def Sim.dropX (h:Sim C S Fp X st a w):Sim C S Fp [] st a w :=
 h.mem h.below (λ_ _ _ h=>h) h.still.cell h.sbase (λt k hk=>⟨rfl,(h.free t k hk).2.1⟩) ς ς ς
def xw (h:Sim C S Fp X st a w)  {x:T}    (e:wrT C.n dst x st=some (u,R,U))  (hx:TOk S w.heap st (Act.tv a) x v) :
  ∃Fp',Sim C S Fp' [] (zh U st) (a.put dst v) w:=by
 rcases z4W e with⟨rfl,rfl⟩|⟨k,rfl,hk,rfl⟩
 ·exact⟨Fp,h.dropX⟩
 refine⟨_,h.put hk x [] v ?_ ς ς ς ς ς ς⟩;unfold yO;cases x with
 |gone=>exact hx.elim
 |own _=>exact hx.elim
 |d y=>exact⟨hx,rfl⟩
 |als r p er ec=>exact⟨rfl,jS.put (gH _) (gH _) (λt ht=>by simp[ht]) hx⟩
 |ptr r p er ec=>exact⟨rfl,jR.put (gH _) (gH _) (λt ht=>by simp[ht]) hx⟩
def WN (h:Sim C S Fp (F++X) st a w)      (e:wrT C.n dst (.own y) st=some (u,R,U))  (hc:zD S w.heap y cs F)(hn:F.Nodup) :
  ∃Fp',Sim C S Fp' [] (zh U st) (a.put dst (zL y cs)) w:=by
 rcases z4W e with⟨rfl,rfl⟩|⟨k,rfl,hk,rfl⟩
 ·exact⟨Fp,h.dropX⟩
 exact⟨_,h.put hk (.own y) F _ ⟨cs,hc,hn,rfl⟩ (λt m _ hm=>h.xd t m (by simp[hm])) (λm hm=>h.xb m (by simp[hm])) ς ς ς ς⟩
def Has.mkT (q:Has S h y v F):(mkT y=.d y/\xg S y v/\F=[])\/(mkT y=.own y/\∃cs,zD S h y cs F/\F.Nodup/\v=zL y cs):=by
 rcases q with⟨q,rfl⟩|⟨cs,q1,q2,q3⟩
 ·left;refine⟨?_,q,rfl⟩;unfold Go.Own.mkT;cases y <;> try rfl
  all_goals
   simp[xg]at q;have ⟨cs,q,_⟩:=q;simp[q.isD]
 by_cases hd:y.isD=true
 ·left;obtain⟨q4,rfl⟩:=q1.isD hd;refine⟨?_,wX.repV ⟨cs,q4,q3⟩,rfl⟩;unfold Go.Own.mkT;cases y<;>simp_all
 right;refine⟨?_,cs,q1,q2,q3⟩;unfold Go.Own.mkT;cases y<;>first|(simp[zD]at q1;done)|simp_all
def z4k (h:Sim C S Fp (F++X) st a w)      (e:wrT C.n dst (mkT y) st=some (u,R,U))  (hc:Has S w.heap y v F) :
  ∃Fp',Sim C S Fp' [] (zh U st) (a.put dst v) w:=by
 rcases hc.mkT with⟨e1,q,rfl⟩|⟨e1,cs,q1,q2,rfl⟩
 ·rw[e1]at e;exact xw h e q
 rw[e1]at e;exact WN h e q1 q2
def zcc (q:Has S h y v F):Has S h (UV tt t y) v F:=by
 unfold UV;split
 ·split
  ·split
   ·rename_i i _;right;have hv:v=.slice none 0 0/\F=[]:=by
     rcases q with⟨q,rfl⟩|⟨cs,q1,_,q3⟩
     ·exact⟨(zo.1 q).1,rfl⟩
     simp only[zD,Rep]at q1;obtain⟨⟨rfl,_⟩,rfl⟩:=q1;exact⟨q3,rfl⟩
    obtain⟨rfl,rfl⟩:=hv;refine⟨[.slice none 0 0],?_,ς,rfl⟩;simp only[zD];exact⟨none,0,rfl,(λ_=>rfl),pF _,pQ _,ς,.inl ς⟩
   exact q
  exact q
 exact q
def Ub (h:Sim C S Fp X st a w)   {x:T}  (hx:TOk S w.heap st (Act.tv a) x v)    (e:KW tt t x st=some (y,R,U)) :
  ∃Fp' F,Sim C S Fp' (F++X) (zh U st) a w/\Has S w.heap y v F:=by
 unfold KW at e;obtain⟨z,R1,U1,R2,U2,h1,h2,rfl,rfl⟩:=bind_some e;cases h2;have ⟨Fp',F,g1,g2⟩:=z14 h hx h1;exact⟨Fp',F,ξ g1,zcc g2⟩
def xg.plain (h:xg S y v):y.plain=true:=by
 by_cases ht:∃fs,y=.tup fs
 ·obtain⟨fs,rfl⟩:=ht;rfl
 have q1:wX S y v:=by cases y<;>simp[xg]at h<;>first|exact h|exact absurd ⟨_,rfl⟩ ht
 have ⟨cs,c1,_⟩:=q1;exact c1.plain
def z7t:∀{y:A},y.isD=true->y.plain=true
 |.agg fs,h=>by simp[A.isD]at h;simp[A.plain];exact areD_plains h
 |.opq _,h=>by simp[A.isD]at h
 |.atom _,_=>rfl
 |.fn _ _,_=>rfl
 |.sl _ _ _,_=>rfl
 |.sptr _,_=>rfl
 |.dop _,_=>rfl
 |.tup _,_=>rfl
 |.osl _ _ _,_=>rfl
 |.box _,_=>rfl
 |.dead _,_=>rfl
where areD_plains:∀{ys:List A},A.areD ys=true->A.plains ys=true
 |[],_=>rfl
 |y::ys,h=>by simp[A.areD,pN]at h;simp[A.plains,z7t h.1,areD_plains h.2,sO]
def zax {x:T}  (hx:TOk S w.heap st (Act.tv a) x v)    (e:take x st=some (y,R,U)):y.plain=true:=by
 cases x with
 |d z=>simp[take]at e;cases e;exact xg.plain hx
 |als r p er ec=>
  simp[take]at e;obtain⟨z,R1,U1,R2,U2,h1,h2,rfl,rfl⟩:=bind_some e;by_cases hd:z.isD=true
  ·rw[if_pos hd]at h2;cases h2;exact z7t hd
  rw[if_neg hd]at h2;by_cases hpl:z.plain=true
  case neg=>rw[if_neg hpl]at h2;cases h2
  rw[if_pos hpl]at h2;obtain⟨en,R3,U3,R4,U4,h3,h4,rfl,rfl⟩:=bind_some h2;cases ht:en.t with
  |own x=>
   simp[ht]at h4;by_cases hp:p=[]
   ·rw[if_pos hp]at h4;obtain⟨u5,R5,U5,R6,U6,h5,h6,rfl,rfl⟩:=bind_some h4;cases h6;exact hpl
   rw[if_neg hp]at h4;obtain⟨u5,R5,U5,R6,U6,h5,h6,rfl,rfl⟩:=bind_some h4;cases h6;exact hpl
  |_=>simp[ht]at h4;cases h4
 |own z=>exact hx.elim
 |gone=>exact hx.elim
 |ptr r p er ec=>simp[take]at e;cases e
def z7d (h:y.plain=true):(UV tt t y).plain=true:=by
 unfold UV;split
 ·split
  ·split<;>rfl
  rfl
 exact h
def z8e {x:T}  (hx:TOk S w.heap st (Act.tv a) x v)    (e:KW tt t x st=some (y,R,U)):y.plain=true:=by unfold KW at e;obtain⟨z,R1,U1,R2,U2,h1,h2,rfl,rfl⟩:=bind_some e;cases h2;exact z7d (zax hx h1)
def ziJ (n:Fr)(dst:TD)(x:Operand):SM Unit:=do
 let t<-wP x
 wrT n dst t
def ziI (h:Sim C S Fp [] st a w)   (ho:o.op=.move x)    (e:ziJ C.n o.dst x st=some (u,R,U)):vd P C o a w (zh U st):=by unfold ziJ at e;have ⟨y,_,hx,h2⟩:=bR (zy h) e;have ⟨Fp',hs⟩:=xw h h2 hx;exact zm (v:=a.eval x) (by simp[execOp,ho]) hs
def z8Q (tt:TT)(n:Fr)(dst:TD)(t:Nat)(x:Operand):SM Unit:=do
 let y<-wP x;match y with
 |.ptr r p er ec=>wrT n dst (.ptr r p er ec)
 |y=>do
  let z<-KW tt t y
  wrT n dst (mkT z)
def zdn (h:Sim C S Fp [] st a w)    (ho:o.op=.assign x)    (e:z8Q tt C.n o.dst o.type x st=some (u,R,U)):vd P C o a w (zh U st):=by
 unfold z8Q at e;have ⟨y,_,hx,h2⟩:=bR (zy h) e;have gen:∀(R2:TC) (U2:List (Nat×Ent)),(do let z<-KW tt o.type y;wrT C.n o.dst (mkT z):SM Unit) st=some (u,R2,U2)->vd P C o a w (zh U2 st):=by intro R2 U2 h2;obtain⟨z,R3,U3,R4,U4,h3,h4,rfl,rfl⟩:=bind_some h2;have ⟨Fp',F,g1,g2⟩:=Ub h hx h3;have ⟨Fp'',hs⟩:=z4k g1 h4 g2;rw[zp];exact zm (v:=a.eval x) (by simp[execOp,ho]) hs
 cases y with
 |ptr r p er ec=>have ⟨Fp',hs⟩:=xw h h2 hx;exact zm (v:=a.eval x) (by simp[execOp,ho]) hs
 |gone=>exact hx.elim
 |own _=>exact hx.elim
 |_=>exact gen _ _ h2
def zqO (tt:TT)(op:BinOp)(xt:Nat)(x y:A):SM A:=pr (zk5 tt op xt x y) ⟨λhs=>match op,x,y with
 |.quo,.atom (.int k a),.atom (.int k' b)=>if k=k' then some (.atom (.int k (k.wrap (a.tdiv b))),hs,[b≠0]) else none
 |.rem,.atom (.int k a),.atom (.int k' b)=>if k=k' then some (.atom (.int k (a.tmod b)),hs,[b≠0]) else none
 |_,_,_=>match zk5 tt op xt x y with|some a=>some (a,hs,[])|none=>none,λe o=>by
 split at e<;>split at e<;>cases e
 ·simp only[zk5,zcH,if_pos ‹_=_›,if_neg o.1]
 ·simp only[zk5,zcH,if_pos ‹_=_›,if_neg o.1]
 assumption⟩
def zdh (tt:TT)(n:Fr)(dst:TD)(op:BinOp)(xt:Nat)(x y:Operand):SM Unit:=do
 let tx<-wP x;let vx<-val tx;let ty<-wP y;let vy<-val ty;let r<-zqO tt op xt vx vy
 wrT n dst (.d r)
def z9q (h:xg S (.agg fs) v):∃cs,v=.agg cs.toArray/\zX S fs cs:=by simp[xg]at h;have ⟨cs,h1,h2⟩:=h;simp[Rep]at h1;exact⟨cs,h2,h1⟩
def V3:∀{as_ bs:List A} {r:Bool} {cs ds:TE},vU as_ bs=some r->zX S as_ cs->zX S bs ds->yV cs ds=some r
 |[],[],r,cs,ds,h,h1,h2=>by simp only[zX]at h1 h2;subst h1;subst h2;simpa[vU,yV] using h
 |.atom (.int k a)::as_,.atom (.int k' b)::bs,r,cs,ds,h,h1,h2=>by
  simp only[zX]at h1 h2;obtain⟨c1,c2,rfl,q1,q2⟩:=h1;obtain⟨d1,d2,rfl,p1,p2⟩:=h2;simp only[Rep]at q1 p1;obtain⟨rfl,_⟩:=q1;obtain⟨rfl,_⟩:=p1;simp only[vU]at h;split at h
  ·rename_i hk;subst hk;cases he:vU as_ bs with
   |none=>simp[he]at h
   |some r'=>simp only[he,gK,Option.some.injEq]at h;simp[yV,V3 he q2 p2,h]
  cases h
 |[],_::_,_,_,_,h,_,_=>by simp[vU]at h
 |_::_,[],_,_,_,h,_,_=>by unfold vU at h;split at h<;>simp_all
 |a::as_,b::bs,r,cs,ds,h,h1,h2=>by
  unfold vU at h;split at h
  ·simp_all
  ·rename_i k x xs k' y ys e1 e2;simp only[List.cons.injEq]at e1 e2;obtain⟨rfl,rfl⟩:=e1;obtain⟨rfl,rfl⟩:=e2;simp only[zX]at h1 h2;obtain⟨c1,c2,rfl,q1,q2⟩:=h1;obtain⟨d1,d2,rfl,p1,p2⟩:=h2;simp only[Rep]at q1 p1;obtain⟨rfl,_⟩:=q1;obtain⟨rfl,_⟩:=p1;split at h
   ·rename_i hk;subst hk;cases he:vU as_ bs with
    |none=>simp[he]at h
    |some r'=>simp only[he,gK,Option.some.injEq]at h;simp[yV,V3 he q2 p2,h]
   cases h
  cases h
def zbF {P:Program}  {k:IntKind}{x y:Int}{r:A}(e:zcH op k x y=some r)(xt:Nat)(p q:Operand)(w:World) :
    ∃v,xg S r v/\(do eqGuard op xt p q (.int k x) (.int k y);Go.binOp op xt (.int k x) (.int k y)).run P w=.ok v w:=by
  cases op<;>simp only[zcH]at e
  all_goals first
    | (cases e
       refine⟨_,zo.2 ⟨rfl,rfl⟩,?_⟩;simp[eqGuard,Go.binOp,Op.intArith,Op.intCmp];done)
    | (split at e
       · cases e
       · rename_i h0;cases e;refine⟨_,zo.2 ⟨rfl,rfl⟩,?_⟩;simp[eqGuard,Go.binOp,Op.intDiv,h0])
    |(cases e;done)
def Kb (hb:P.underlying xt=some .bool)(x y:Bool)(w:World):(Op.equal xt (.bool x) (.bool y)).run P w=.ok (x==y) w:=by
 have:∀d,(Op.equalIn (d+1) xt (.bool x) (.bool y)).run P w=.ok (x==y) w:=by intro d;simp[Op.equalIn,run_underlying hb]
 exact this 9999
def z1z (hb:P.underlying xt=some .bool)(x y:Bool)(p q:Operand)(w:World) :
  (do eqGuard .eql xt p q (.bool x) (.bool y);Go.binOp .eql xt (.bool x) (.bool y)).run P w=.ok (.bool (x==y)) w /\
  (do eqGuard .neq xt p q (.bool x) (.bool y);Go.binOp .neq xt (.bool x) (.bool y)).run P w=.ok (.bool (!(x==y))) w:=by
 constructor
 ·show(do (pure ():Sem Unit);(do pure (Value.bool (<-Op.equal xt (.bool x) (.bool y))))).run P w=_;simp[Result.andThen_ok,Kb hb]
 show(do (pure ():Sem Unit);(do pure (Value.bool (!(<-Op.equal xt (.bool x) (.bool y)))))).run P w=_;simp[Result.andThen_ok,Kb hb]
def z2P {x y:Array Value}{r:Bool}  (hg:P.eqGuardType P.depth xt=false)(hr:(Op.equal xt (.agg x) (.agg y)).run P w=.ok r w)(p q:Operand) :
  (do eqGuard .eql xt p q (.agg x) (.agg y);Go.binOp .eql xt (.agg x) (.agg y)).run P w=.ok (.bool r) w /\
  (do eqGuard .neq xt p q (.agg x) (.agg y);Go.binOp .neq xt (.agg x) (.agg y)).run P w=.ok (.bool (!r)) w:=by
 have h1:(eqGuard .eql xt p q (.agg x) (.agg y)).run P w=.ok () w:=by show(do if !(<-program).eqGuardType (<-program).depth xt then pure () else _:Sem Unit).run P w=_;simp[program,Sem.run,hg]
 have h2:(eqGuard .neq xt p q (.agg x) (.agg y)).run P w=.ok () w:=by show(do if !(<-program).eqGuardType (<-program).depth xt then pure () else _:Sem Unit).run P w=_;simp[program,Sem.run,hg]
 constructor
 ·show(do eqGuard .eql xt p q (.agg x) (.agg y);(do pure (Value.bool (<-Op.equal xt (.agg x) (.agg y))))).run P w=_;simp[Sem.run_bind,Result.andThen_ok,h1,hr]
 show(do eqGuard .neq xt p q (.agg x) (.agg y);(do pure (Value.bool (!(<-Op.equal xt (.agg x) (.agg y)))))).run P w=_;simp[Sem.run_bind,Result.andThen_ok,h2,hr]
def zjA {P:Program}  (hT:xH P tt){S:zf}   {x y:Operand}{vx vy r:A}{ux uy:Value}(qx:xg S vx ux)(qy:xg S vy uy)(hr:zk5 tt op xt vx vy=some r)(w:World) :
  ∃v,xg S r v/\(do eqGuard op xt x y ux uy;Go.binOp op xt ux uy).run P w=.ok v w:=by
 have fin:∀v,xg S r v->(do eqGuard op xt x y ux uy;Go.binOp op xt ux uy).run P w=.ok v w->∃v,xg S r v/\(do eqGuard op xt x y ux uy;Go.binOp op xt ux uy).run P w=.ok v w:=λv h1 h2=>⟨v,h1,h2⟩;unfold zk5 at hr;split at hr
 ·
  have ⟨ex,_⟩:=zo.1 qx;have ⟨ey,_⟩:=zo.1 qy;split at hr
  ·rename_i hk;subst hk;have ⟨v,hv,hrun⟩:=zbF (S:=S) (P:=P) hr xt x y w;exact fin v hv (by rw[ex,ey];exact hrun)
  cases hr
 ·
  have ⟨ex,_⟩:=zo.1 qx;have ⟨ey,_⟩:=zo.1 qy;split at hr
  ·rename_i htt;have hb:P.underlying xt=some .bool:=(hT _ _ htt).kind;split at hr
   ·cases hr;refine fin _ (zo.2 ⟨rfl,rfl⟩) ?_;rw[ex,ey];exact(z1z hb _ _ x y w).1
   ·cases hr;refine fin _ (zo.2 ⟨rfl,rfl⟩) ?_;rw[ex,ey];exact(z1z hb _ _ x y w).2
   cases hr
  cases hr
 ·
  have ⟨cs,ex,rx⟩:=z9q qx;have ⟨ds,ey,ry⟩:=z9q qy;split at hr
  ·rename_i i htt;split at hr
   ·rename_i hc;have ⟨c1,c2,c3⟩:=hc;have heq:=(hT _ _ htt).eqn c1;have len:∀{as_ bs:List A} {r:Bool} {cs:TE},vU as_ bs=some r->zX S as_ cs->cs.length=as_.length:=by
     intro as_;induction as_ with
     |nil=>intro bs r cs _ q;simp[zX]at q;simp[q]
     |cons a as_ ih=>
      intro bs r cs he q;cases bs with
      |nil=>unfold vU at he;split at he<;>simp_all
      |cons b bs=>
       unfold vU at he;split at he
       ·simp_all
       ·rename_i k x xs k' y ys e1 e2;simp[List.cons.injEq]at e1 e2;obtain⟨rfl,rfl⟩:=e1;obtain⟨rfl,rfl⟩:=e2;simp[zX]at q;obtain⟨d1,d2,rfl,p1,p2⟩:=q;simp[Rep]at p1;obtain⟨rfl,_⟩:=p1;split at he
        ·cases he':vU as_ bs with
         |none=>simp[he']at he
         |some r'=>simp[ih he' p2]
        cases he
       cases he
    have len':∀{as_ bs:List A} {r:Bool} {cs ds:TE},vU as_ bs=some r->zX S as_ cs->zX S bs ds->bs.length=as_.length/\ds.length=bs.length:=by
     intro as_;induction as_ with
     |nil=>intro bs r cs ds he q q';cases bs with|nil=>simp[zX]at q';simp[q']|cons b bs=>simp[vU]at he
     |cons a as_ ih=>
      intro bs r cs ds he q q';cases bs with
      |nil=>unfold vU at he;split at he<;>simp_all
      |cons b bs=>
       unfold vU at he;split at he
       ·simp_all
       ·rename_i k x xs k' y ys e1 e2;simp[List.cons.injEq]at e1 e2;obtain⟨rfl,rfl⟩:=e1;obtain⟨rfl,rfl⟩:=e2;simp[zX]at q q';obtain⟨d1,d2,rfl,p1,p2⟩:=q;obtain⟨d3,d4,rfl,p3,p4⟩:=q';simp[Rep]at p3;obtain⟨rfl,_⟩:=p3;split at he
        ·cases he':vU as_ bs with
         |none=>simp[he']at he
         |some r'=>have:=ih he' p2 p4;simp[this]
        cases he
       cases he
    split at hr
    ·obtain⟨b,he,rfl⟩:=pZ.1 hr
     ·refine fin _ (zo.2 ⟨rfl,rfl⟩) ?_;rw[ex,ey];have:=heq.run cs ds b w (by rw[len he rx,c2]) (by rw[(len' he rx ry).2,c3]) (V3 he rx ry);exact(z2P heq.guard this x y).1
    ·obtain⟨b,he,rfl⟩:=pZ.1 hr
     ·refine fin _ (zo.2 ⟨rfl,rfl⟩) ?_;rw[ex,ey];have:=heq.run cs ds b w (by rw[len he rx,c2]) (by rw[(len' he rx ry).2,c3]) (V3 he rx ry);exact(z2P heq.guard this x y).2
    cases hr
   cases hr
  cases hr
 cases hr
def zgo (hT:xH P tt)(h:Sim C S Fp [] st a w)   {xt yt:Nat}{x y:Operand}(ho:o.op=.binOp op xt x y yt){u:Unit}{R:TC}{U:List (Nat×Ent)}
  (e:zdh tt C.n o.dst op xt x y st=some (u,R,U)):vd P C o a w (zh U st):=by
 unfold zdh at e;have ⟨tx,_,hx,e1⟩:=bR (zy h) e;have ⟨vx,_,qx,e2⟩:=bR (wz h hx) e1;have ⟨ty,_,hy,e3⟩:=bR (zy h) e2;have ⟨vy,_,qy,e4⟩:=bR (wz h hy) e3;have ⟨r,_,hr,e5⟩:=bO e4;have ⟨v,hv,hrun⟩:=zjA (x:=x) (y:=y) hT qx qy hr w;have ⟨Fp',hs⟩:=xw h e5 (x:=.d r) hv;refine zm (v:=v) ?_ hs;simp only[execOp,ho,Sem.run_bind,Sem.run_pure]at hrun⊢;rw[hrun];rfl
end
def Yg:∀(p q:List Vq) (x:A),wR (p++q) x=(wR p x).bind (wR q)
 |[],q,x=>by simp[wR]
 |s::p,q,x=>by
  cases s<;>cases x<;>simp[gX,wR,Option.bind_none]
  ·exact Yg p q _
  ·split<;>simp[Yg p q]
  split<;>simp[Yg p q]
def Wi (h:Array Obj):∀(p q:List Vq) (x:A) (b o:Nat) {b' o':Nat} {y:A},z1e h p x b o=some (b',o')->wR p x=some y->z1e h (p++q) x b o=z1e h q y b' o'
 |[],q,x,b,o,b',o',y,h1,h2=>by simp[z1e,Option.some.injEq,Prod.mk.injEq]at h1;simp[wR,Option.some.injEq]at h2;obtain⟨rfl,rfl⟩:=h1;subst h2;rfl
 |s::p,q,x,b,o,b',o',y,h1,h2=>by
  cases s<;>cases x<;>simp[gX,z1e,wR]at h1 h2⊢<;>first|(cases h2;done)|skip
  ·split at h1
   ·exact Wi h p q _ _ _ h1 h2
   cases h1
  ·split at h1
   ·rename_i hf;simp[hf]at h2⊢;exact Wi h p q _ _ _ h1 h2
   cases h1
  rename_i i sz tg es;cases hf:es[i]? with
  |none=>simp[hf]at h2
  |some z=>
   simp[hf]at h1 h2⊢;cases hc:zU h b o with
   |none=>simp[hc]at h1
   |some u=>
    simp[hc]at h1⊢;cases u<;>first|(simp at h1;done)|skip
    rename_i a _ _;cases a with
    |none=>simp at h1
    |some a=>exact Wi h p q _ _ _ h1 h2
def Vg (h:Array Obj)(p q:List Vq)(x:A)(v:Value){b' o':Nat}  (h1:wg h p x v=some (b',o'))(h2:wR p x=some y):wg h (p++q) x v=z1e h q y b' o':=by
 cases p with
 |nil=>cases x<;>simp[wg]at h1
 |cons s p=>
  cases s<;>cases x<;>cases v<;>first|(simp[wg]at h1;done)|skip
  ·rename_i a;cases a with
   |none=>simp[wg]at h1
   |some a=>simp[gX,wg,wR]at h1 h2⊢;exact Wi h p q _ _ _ h1 h2
  rename_i a _ _;cases a with
  |none=>simp[wg]at h1
  |some a=>
   simp[gX,wg,wR]at h1 h2⊢;split at h1
   ·rename_i hf;simp[hf]at h2⊢;exact Wi h p q _ _ _ h1 h2
   cases h1
def Kr {p q:List Vq}(h:K0 p=true):K0 (p++q)=true:=by
 cases p with
 |nil=>simp[K0]at h
 |cons s p=>cases s<;>simp_all [K0]
def UI (w:World)(b o:Nat):w.cell? ⟨b,o,none⟩=zU w.heap b o:=by simp[World.cell?,zU];split<;>simp_all
def QJ {k:TK}(h:z3C P t k)(w:World):(Go.isAgg t).run P w=.ok k.isAgg w:=by
 cases k with
 |struct fs=>have ⟨f,h,_⟩:=h;simp[Go.isAgg,run_underlying h,TK.isAgg]
 |other=>have ⟨d,h,hd⟩:=h;cases d<;>first|(simp at hd;done)|simp[Go.isAgg,run_underlying h,TK.isAgg]
 |_=>simp[z3C]at h;simp[Go.isAgg,run_underlying h,TK.isAgg]
def qP (hT:xH P tt)  {i:TI}(h:tt t=some i)(w:World):(Go.sizeOf t).run P w=.ok i.size w:=by have ⟨f,h1,h2,_⟩:=(hT t i h).info;simp[Go.sizeOf,typeInfo,h1,h2]
def Y7 {P:Program}  (hT:xH P tt)   (hf:WJ tt t y=true)  {b o:Nat}  (hl:cs.length=y.size)(hs:zdD w.heap b o cs) :
  (loadVar t ⟨b,o,none⟩).run P w=.ok (zL y cs) w:=by
 unfold WJ at hf;split at hf
 ·rename_i i hi;simp only[pN,beq_iff_eq,mN]at hf;have ⟨⟨h1,h2⟩,h3⟩:=hf;have hk:=QJ (hT t i hi).kind w;unfold loadVar;simp only[Sem.run_bind,hk,Result.andThen_ok,Sem.run_ite];by_cases ha:i.kind.isAgg=true
  ·rw[if_pos ha];have hc:=run_loadCells_list (P:=P) w ⟨b,o,none⟩ cs (λj v hj=>by rw[Addr.add_lit,UI];exact hs j v hj);rw[h1]at ha;cases y<;>simp[A.isAgg]at ha;simp only[qP hT hi,Result.andThen_ok,h2,<-hl,hc,Sem.run_pure,zL]
  rw[if_neg ha];have h4:i.size=1:=by simpa[ha] using h3
  have hlen:cs.length=1:=ω
  obtain⟨c,rfl⟩:=mO.1 hlen;have:=hs 0 c rfl;simp only[mV]at this;rw[run_load,UI,this];rw[h1]at ha;cases y<;>simp_all [A.isAgg,zL]
 cases hf
variable {es:List A}
section
variable {C:Ctx}{S:zf}{Fp:Nat->TC}{X:TC}{st:St}{a:Act}{w:World}
def zhw (n:Fr)(dst:TD)(op:UnOp)(x:Operand):SM Unit:=do
 let t<-wP x;let y<-val t;let r<-ofO (unA op y)
 wrT n dst (.d r)
def zhv (h:Sim C S Fp [] st a w)  {op:UnOp}  {x:Operand}(ho:o.op=.unOp op xt x)    (e:zhw C.n o.dst op x st=some (u,R,U)):vd P C o a w (zh U st):=by
 unfold zhw at e;have ⟨t,_,hx,e1⟩:=bR (zy h) e;have ⟨y,_,qx,e2⟩:=bR (wz h hx) e1;have ⟨r,_,hr,e5⟩:=bO e2;unfold unA at hr;split at hr
 ·have ⟨ex,_⟩:=zo.1 qx;split at hr
  ·cases hr;have ⟨Fp',hs⟩:=xw h e5 (x:=.d _) (zo.2 ⟨rfl,rfl⟩);exact zm (by simp[execOp,ho,ex,Op.unary]) hs
  cases hr
 ·have ⟨ex,_⟩:=zo.1 qx;split at hr
  ·cases hr;have ⟨Fp',hs⟩:=xw h e5 (x:=.d _) (zo.2 ⟨rfl,rfl⟩);exact zm (by simp[execOp,ho,ex,Op.unary,Op.intArith]) hs
  cases hr
 cases hr
def zjp (tt:TT)(n:Fr)(dst:TD)(s t:Nat)(x:Operand):SM Unit:=do
 let y<-wP x;let v<-val y;match v with
 |.atom (.int _ m)=>
  match tt s with
  |some _=>
   match tt t with
   |some ⟨.int k,_,_,_,_⟩=>wrT n dst (.d (.atom (.int k (k.wrap m))))
   |_=>zF
  |none=>zF
 |_=>zF
def zcu {k:TK}(h:z3C P t k):∃d,P.underlying t=some d:=by cases k<;>simp[z3C]at h<;>first|exact⟨_,h⟩|(have ⟨_,h,_⟩:=h;exact⟨_,h⟩)
def zjo (hT:xH P tt)(h:Sim C S Fp [] st a w)  {s t:Nat}{x:Operand}(ho:o.op=.convert s t x)    (e:zjp tt C.n o.dst s t x st=some (u,R,U)):vd P C o a w (zh U st):=by
 unfold zjp at e;have ⟨y,_,hx,e1⟩:=bR (zy h) e;have ⟨v,_,qx,e2⟩:=bR (wz h hx) e1;split at e2
 ·have ⟨ex,_⟩:=zo.1 qx;cases hs:tt s with
  |none=>simp[hs]at e2;cases e2
  |some i=>
   simp[hs]at e2;have ⟨d,hd⟩:=zcu (hT _ _ hs).kind;cases ht:tt t with
   |none=>simp[ht]at e2;cases e2
   |some j=>
    have ⟨kd,sz,by',z,eq⟩:=j;cases kd with
    |int k=>simp[ht]at e2;have hk:P.underlying t=some (.int k):=(hT _ _ ht).kind;have ⟨Fp',hs⟩:=xw h e2 (x:=.d _) (zo.2 ⟨rfl,rfl⟩);exact zm (by simp[execOp,ho,ex,convert,run_underlying hd,run_underlying hk,Conv.intToInt]) hs
    |_=>simp[ht]at e2;cases e2
 cases e2
def ziC (n:Fr)(dst:TD)(c x y:Operand):SM Unit:=do
 let tc<-wP c;let vc<-val tc;match vc with
 |.atom (.bool b)=>do
  let b<-zoZ b;let t<-wP (match b with|true=>x|false=>y)
  wrT n dst t
 |_=>zF
def ziB (h:Sim C S Fp [] st a w)  {c x y:Operand}(ho:o.op=.pick c x y)    (e:ziC C.n o.dst c x y st=some (u,R,U)):vd P C o a w (zh U st):=by
 unfold ziC at e;have ⟨tc,_,hx,e1⟩:=bR (zy h) e;have ⟨vc,_,qx,e2⟩:=bR (wz h hx) e1;split at e2
 ·have ⟨ex,_⟩:=zo.1 qx;have ⟨_,e3⟩:=bV e2;have ⟨t,_,hx,e6⟩:=bR (zy h) e3;have ⟨Fp',hs⟩:=xw h e6 hx;refine zm ?_ hs;cases ‹Bool›<;>simp[execOp,ho,ex,asBool]
 cases e2
def z61 (n:Fr)(dst:TD)(x:Operand)(i:Nat):SM Unit:=do
 let t<-wP x;match t with
 |.d (.tup fs)=>match fs[i]? with|some y=>wrT n dst (.d y)|none=>zF
 |_=>zF
def Xg.get {R:α->β->Prop}:∀{as_:List α} {bs:List β} {i:Nat} {x:α},Xg R as_ bs->as_[i]?=some x->∃y,bs[i]?=some y/\R x y
 |[],_,i,x,_,e=>by simp at e
 |a::as_,[],i,x,r,_=>r.elim
 |a::as_,b::bs,0,x,r,e=>by simp at e;subst e;exact⟨b,rfl,r.1⟩
 |a::as_,b::bs,i+1,x,r,e=>by simp at e;have ⟨y,h1,h2⟩:=r.2.get e;exact⟨y,ξ h1,h2⟩
def zaU (h:Sim C S Fp [] st a w)  {x:Operand}{i:Nat}(ho:o.op=.extract x i)    (e:z61 C.n o.dst x i st=some (u,R,U)):vd P C o a w (zh U st):=by
 unfold z61 at e;have ⟨t,_,hx,e1⟩:=bR (zy h) e;split at e1
 ·rename_i fs;cases hy:fs[i]? with
  |none=>simp[hy]at e1;cases e1
  |some y=>simp[hy]at e1;simp[TOk,xg]at hx;have ⟨vs,ev,r⟩:=hx;have ⟨v,hv,rv⟩:=r.get hy;have ⟨Fp',hs⟩:=xw h e1 (x:=.d y) rv.repV;exact zm (v:=v) (by simp[execOp,ho,ev,Instr.extract,hv]) hs
 cases e1
def zdu (h:Sim C S Fp X st a w)     (ha:jS w.heap st (Act.tv a) r p er ec v){x y:A}(hr:(st r).t=.own x)(e1:(st r).er=er)(e2:p=[]\/(st r).ec=ec)(hg:wR p x=some (.box y)) :
  jR w.heap st (Act.tv a) r (p++[.deref]) (st r).er (st r).ec v:=by
 refine⟨pF _,pF _,?_⟩;simp only[hr];intro _ _;have hq:=h.ent r;unfold yO at hq;simp only[hr]at hq;have ⟨cs,c1,c2,c3⟩:=hq;have a3:=ha.2.2;simp only[hr]at a3;rcases a3 e1 e2 with⟨rfl,rfl⟩|⟨o1,y',b,o,cs',g1,g2,g3,g4,g5⟩
 ·simp only[wR,Option.some.injEq]at hg;subst hg;simp only[zD]at c1;obtain⟨b,ty,l,F',rfl,k1,k2,k3,k4⟩:=c1;refine⟨rfl,y,b,0,rfl,?_,by rw[c3];rfl⟩;rw[c3];rfl
 rw[hg]at g1;cases g1;have ⟨b',o',arr,ty,csy,Fy,f1,f2,f3,f4,f5,f6,f7,f8,_⟩:=Wv p c1 c2 (by rintro rfl;simp[K0]at o1) (by rintro i q rfl;simp[K0]at o1) hg;rw[c3,f1]at g2;cases g2;have hcs:=Vt f4 f2 f3 g3 g4;subst hcs;simp only[zD]at f4;obtain⟨b1,ty1,l,F',rfl,k1,k2,k3,k4⟩:=f4;refine⟨Kr o1,y,b1,0,by simp[Yg,hg,wR],?_,g5⟩;have hc:=g4 0 _ rfl;simp only[mV]at hc;rw[c3,Vg w.heap p _ x _ f1 hg];simp only[z1e,hc]
def z8T (h:Sim C S Fp X st a w)     (ha:jS w.heap st (Act.tv a) r p er ec v){x:A}  {t:Bool}  (hr:(st r).t=.own x)(e1:(st r).er=er)(e2:p=[]\/(st r).ec=ec)(hg:wR p x=some (.osl sz t es)){i:Nat}(hi:i<es.length) :
  ∃b c,v=.slice (some ⟨b,0,none⟩) es.length c/\jR w.heap st (Act.tv a) r (p++[.idx i]) (st r).er (st r).ec (.pointer (some ⟨b,i*sz,none⟩)):=by
 have hq:=h.ent r;unfold yO at hq;simp only[hr]at hq;have ⟨cs,c1,c2,c3⟩:=hq;have a3:=ha.2.2;simp only[hr]at a3;have hei:es[i]?=some es[i]:=pB hi;rcases a3 e1 e2 with⟨rfl,rfl⟩|⟨o1,y',b,o,cs',g1,g2,g3,g4,g5⟩
 ·simp only[wR,Option.some.injEq]at hg;subst hg;simp only[zD]at c1;obtain⟨pp,c,rfl,t1,t2,t3,t4,t5⟩:=c1;rcases t5 with⟨rfl,_⟩|⟨b1,arr1,ty1,l,F',rfl,k1,k2,k3,k4,_,k6⟩
  ·simp at hi
  refine⟨b1,c,by rw[c3];rfl,pF _,pF _,?_⟩;simp only[hr];intro _ _;refine⟨rfl,es[i],b1,i*sz,by simp[wR,hei],?_,rfl⟩;rw[c3];simp[zL,wg,hei,z1e]
 rw[hg]at g1;cases g1;have ⟨b',o',arr,ty,csy,Fy,f1,f2,f3,f4,f5,f6,f7,f8,_⟩:=Wv p c1 c2 (by rintro rfl;simp[K0]at o1) (by rintro i q rfl;simp[K0]at o1) hg;rw[c3,f1]at g2;cases g2;have hcs:=Vt f4 f2 f3 g3 g4;subst hcs;simp only[zD]at f4;obtain⟨pp,c,rfl,t1,t2,t3,t4,t5⟩:=f4;rcases t5 with⟨rfl,_⟩|⟨b1,arr1,ty1,l,F',rfl,k1,k2,k3,k4,_,k6⟩
 ·simp at hi
 refine⟨b1,c,g5,pF _,pF _,?_⟩;simp only[hr];intro _ _;refine⟨Kr o1,es[i],b1,i*sz,by simp[Yg,hg,wR,hei],?_,rfl⟩;have hc:=g4 0 _ rfl;simp only[mV]at hc;rw[c3,Vg w.heap p _ x _ f1 hg];simp only[z1e,hc,hei]
def zbX (hp:jR w.heap st (Act.tv a) r p er ec v){x:A}  (hr:(st r).t=.own x)(e1:(st r).er=er)(e2:(st r).ec=ec)(hg:wR p x=some (.agg fs)){i:Nat}(hi:i<fs.length) :
  ∃b o,v=.pointer (some ⟨b,o,none⟩)/\jR w.heap st (Act.tv a) r (p++[.fld i]) (st r).er (st r).ec (.pointer (some ⟨b,o+A.sizes (fs.take i),none⟩)):=by
 have a3:=hp.2.2;simp only[hr]at a3;have ⟨o1,y',b,o,g1,g2,g3⟩:=a3 e1 e2;rw[hg]at g1;cases g1;have hei:fs[i]?=some fs[i]:=pB hi;refine⟨b,o,g3,pF _,pF _,?_⟩;simp only[hr];intro _ _;refine⟨Kr o1,fs[i],b,o+A.sizes (fs.take i),by simp[Yg,hg,wR,hei],?_,rfl⟩;rw[Vg w.heap p _ x _ g2 hg];simp only[z1e,hei]
def QOk (S:zf)(h:Array Obj)(st:St)(tv:Nat->Value)(q:A⊕(Nat×List Vq×Nat×Nat))(v:Value):Prop :=
 match q with
 |.inl y=>∃b o l,v=.pointer (some ⟨b,o,none⟩)/\Rep S y l/\z4h S b o l
 |.inr (r,p,er,ec)=>jR h st tv r p er ec v
def JF (h:Sim C S Fp X st a w){x:T}  (hx:TOk S w.heap st (Act.tv a) x v){q:A⊕(Nat×List Vq×Nat×Nat)}   (e:z72 x st=some (q,R,U)) :
  U=[]/\QOk S w.heap st (Act.tv a) q v:=by
 unfold z72 at e;split at e
 ·cases e;refine⟨rfl,?_⟩;simp only[TOk,xg]at hx;have ⟨cs,h1,h2⟩:=hx;simp only[Rep]at h1;obtain⟨b,o,l,rfl,h3,h4⟩:=h1;exact⟨b,o,l,h2,h3,h4⟩
 ·cases e;exact⟨rfl,hx⟩
 ·rename_i r p er ec;have ⟨_,e1⟩:=bD e;have ⟨y,_,q,e2⟩:=bR (z1c h hx) e1;split at e2
  ·rename_i z;cases e2;refine⟨rfl,?_⟩;rcases q with⟨x,cs,F,q1,q2,q3,q4,q5,q6,_⟩|⟨q1,q2,q3,q4,q5⟩
   ·exact zdu h hx q1 q2 q3 q4
   simp only[xg]at q5;have ⟨cs,q5,_⟩:=q5;simp[Rep]at q5
  ·rename_i z;cases e2;refine⟨rfl,?_⟩;have hv:∃cs,Rep S (.sptr z) cs/\v=zL (.sptr z) cs:=by
    rcases q with⟨x,cs,F,q1,q2,q3,q4,q5,q6,_⟩|⟨q1,q2,q3,q4,q5⟩
    ·exact⟨cs,(q5.isD rfl).1,q6⟩
    exact q5
   have ⟨cs,h1,h2⟩:=hv;simp only[Rep]at h1;obtain⟨b,o,l,rfl,h3,h4⟩:=h1;exact⟨b,o,l,h2,h3,h4⟩
  cases e2
 cases e
def z2Y (h:Sim C S Fp X st a w)     (hp:jR w.heap st (Act.tv a) r p er ec v){x:A}(hr:(st r).t=.own x)(e1:(st r).er=er)(e2:(st r).ec=ec)  (hg:wR p x=some y) :
  ∃b o arr ty csy Fy cs,v=.pointer (some ⟨b,o,none⟩)/\K0 p=true/\w.heap[b]?=some (.cells arr ty (0,0))/\z3G arr o csy/\zD S w.heap y csy Fy/\b∉Fy/\b∈Fp r/\(∀k∈Fy,k∈Fp r)/\Fy.Nodup/\zD S w.heap x cs (Fp r)/\Act.tv a r=zL x cs /\
   wg w.heap p x (Act.tv a r)=some (b,o) /\
   ∀(S':zf) (h':Array Obj) (z:A) (csz:TE) (Fz:TC),(∀b o v,S b o=some v->S' b o=some v)->csz.length=csy.length->zD S' h' z csz Fz->Fz.Nodup ->
    (∀k∈Fp r,k∉Fy->∀o,S' k o=none)->(∀k,k∈Fp r->k∉Fy->k≠b->h'[k]?=w.heap[k]?)->h'[b]?=some (.cells (Ur arr o csz) ty (0,0)) ->
    (∀k∈Fz,k∈Fp r->k∈Fy) ->
    ∃F0',zD S' h' (z05 p x z) cs F0'/\F0'.Nodup/\(∀k,k∈F0'↔(k∈Fp r/\k∉Fy)\/k∈Fz):=by
 have a3:=hp.2.2;simp only[hr]at a3;have ⟨o1,y',b,o,g1,g2,g3⟩:=a3 e1 e2;have hq:=h.ent r;unfold yO at hq;simp only[hr]at hq;have ⟨cs,c1,c2,c3⟩:=hq;have ⟨b',o',arr,ty,csy,Fy,f1,f2,f3,f4,f5,f6,f7,f8,f9⟩:=Wv p c1 c2 (by rintro rfl;simp[K0]at o1) (by rintro i q rfl;simp[K0]at o1) hg;have g2':=g2;rw[c3,f1]at g2;simp only[Option.some.injEq,Prod.mk.injEq]at g2;obtain⟨rfl,rfl⟩:=g2;exact⟨b',o',arr,ty,csy,Fy,cs,g3,o1,f2,f3,f4,f5,f6,f7,f8,c1,c3,g2',f9⟩
def z5v {b o:Nat}    (hb:h[b]?=some (.cells arr ty (0,0)))(hs:z3G arr o cs):zdD h b o cs:=by intro j u hj;simp[zU,hb];exact hs j u hj
def VH (e:zaQ r p er ec st=some (y,R,U)) :
  U=[]/\∃x,(st r).t=.own x/\(st r).er=er/\(st r).ec=ec/\wR p x=some y:=by
 have ⟨_,h2⟩:=bD e;split at h2
 ·rename_i x ht;have ⟨hc,h3⟩:=bI h2;have ⟨h4,g⟩:=z3k h3;exact⟨h4,x,ht,hc.1,hc.2,g⟩
 cases h2
def ziW (tt:TT)(n:Fr)(dst:TD)(t:Nat)(x:Operand):SM Unit:=do
 let y<-wP x
 ziX tt n dst t y
def zcn (hT:xH P tt)(h:Sim C S Fp [] st a w){o:Oper}  {x:Operand}(ho:o.op=.load t x)    (e:ziW tt C.n o.dst t x st=some (u,R,U)):vd P C o a w (zh U st):=by
 unfold ziW ziX at e;have ⟨y,_,hx,e1⟩:=bR (zy h) e;have ⟨q,_,hq,e2⟩:=bR (JF h hx) e1;have fin:∀(b' o':Nat) (z:A) (v:Value),a.eval x=.pointer (some ⟨b',o',none⟩)->(loadVar t ⟨b',o',none⟩).run P w=.ok v w->(execOp a.eval o).run P w=.ok (.value v) w:=by intro b' o' z v ev hrun;simp[execOp,ho,ev,Instr.loadAt,Instr.sureAddr,hrun]
 split at e2
 ·rename_i z;have ⟨hf,e3⟩:=bI e2;have ⟨b,o',l,ev,r1,r2⟩:=hq;have hld:=Y7 hT hf.1 (w:=w) (b:=b) (o:=o') r1.len (λj u hj=>h.still _ _ _ (r2 j u hj));have ⟨Fp',hs⟩:=xw h e3 (x:=.d z) (v:=zL z l) (wX.repV ⟨l,r1,rfl⟩);exact zm (fin b o' z _ ev hld) hs
 rename_i r p er ec;have ⟨z,_,⟨x0,k1,k2,k3,k4⟩,e3⟩:=bR VH e2;have ⟨hf,e4⟩:=bI e3
 ·have ⟨b,o',arr,ty,csy,Fy,cs,ev,o1,f2,f3,f4,f5,f6,f7,f8,f9,f10,f11,_⟩:=z2Y h hq k1 k2 k3 k4;have hld:=Y7 hT hf (w:=w) (b:=b) (o:=o') f4.len (z5v f2 f3);split at e4
  ·rename_i hd;have ⟨Fp',hs⟩:=xw h e4 (x:=.d z) (v:=zL z csy) (wX.repV ⟨csy,(f4.isD hd).1,rfl⟩);exact zm (fin b o' z _ ev hld) hs
  have ⟨Fp',hs⟩:=xw h e4 (x:=.als r p er ec) (v:=zL z csy) ⟨ω,ω,by simp only[k1];exact λ_ _=>.inr ⟨o1,z,b,o',csy,k4,f11,f4.len,z5v f2 f3,rfl⟩⟩
  exact zm (fin b o' z _ ev hld) hs
end
def UH (h1:∀u∈cs,zh4 u=true)(h2:y.isAgg=true\/cs.length=1):(zL y cs).cells=cs.toArray:=by
 cases y<;>simp only[zL,A.isAgg]at h2⊢<;>first|rfl|skip
 all_goals
  obtain⟨c,rfl⟩:=mO.1 (h2.resolve_left ς);have:=h1 c ς;cases c<;>first|rfl|(simp[zh4]at this)
def Has.cells (q:Has S h y v F)(hy:∀fs,y≠.tup fs):∃cs,zD S h y cs F/\F.Nodup/\v=zL y cs:=by
 rcases q with⟨q,rfl⟩|q
 ·have ⟨cs,h1,h2⟩:=q.conc h hy;exact⟨cs,h1,ς,h2⟩
 exact q
def uv {o:Nat}  (h:o+cs.length<=arr.size):(arr.toList.take o++cs++arr.toList.drop (o+cs.length)).toArray=Ur arr o cs:=by
 apply nG;intro k;rw[qS,rW];by_cases h1:k<o
 ·rw[pP,pI (by simp;omega),gB,if_pos h1,if_neg ω];rw[mQ];cases arr[k]?<;>rfl
 by_cases h2:k<o+cs.length
 ·rw[pP,pH (by simp;omega),if_pos ω];have:(arr.toList.take o).length=o:=by simp;omega
  rw[this,pI ω,pB ω,mB ω];simp
 rw[pH (by simp;omega),if_pos ω];have:(arr.toList.take o++cs).length=o+cs.length:=by simp;omega
 rw[this,mU,pL (l:=cs) ω,show o+cs.length+(k-(o+cs.length))=k from by omega,mQ];cases arr[k]?<;>simp
variable {j:Int}{z:A}{xs:List A}
section
variable {C:Ctx}{S:zf}{Fp:Nat->TC}{X:TC}{st:St}{a:Act}{w:World}
def hao (w:World)(o:Obj)(k:Nat)(h:k<w.heap.size):(w.alloc o).heap[k]?=w.heap[k]?:=Go.RowKit.Below.heap_alloc w o k h
def Sim.still_lt (h:Sim C S Fp X st a w){b o:Nat}  (hs:S b o=some v):b<w.heap.size:=by
 have:=h.still b o v hs;unfold zU at this;split at this
 ·rename_i hb;exact(pR.1 hb).1
 cases this
def Sim.free_new (h:Sim C S Fp X st a w){b:Nat}(hb:w.heap.size<=b)(o:Nat):S b o=none:=by
 cases hs:S b o with
 |none=>rfl
 |some v=>have:=h.still_lt hs;omega
def Sim.base_le (h:Sim C S Fp X st a w):C.w0.heap.size<=w.heap.size:=h.below.size
def Sim.alloc (h:Sim C S Fp X st a w)(hX:∀k∈X,k<w.heap.size)(o:Obj):Sim C S Fp (w.heap.size::X) st a (w.alloc o):=by
 refine h.mem (h.below.alloc (h.mine _ h.base_le) o) (λ_ _ _ h=>h) ?_ h.sbase (λt k hk=>⟨hao w o k (h.free t k hk).1,(h.free t k hk).2.1⟩) ?_ ?_ ?_
 ·intro b o' v hs;rw[w9 (h:=w.heap) (h':=(w.alloc o).heap) (hao w o b (h.still_lt hs))];exact h.still b o' v hs
 ·exact gA.2 ⟨λhm=>sC _ (hX _ hm),h.xn⟩
 ·intro t k hk;rcases pG.1 hk with rfl|hk
  ·exact λhk=>sC _ (h.free t _ hk).1
  exact h.xd t k hk
 intro k hk;rcases pG.1 hk with rfl|hk
 ·exact h.mine _ h.base_le
 exact h.xb k hk
def Sim.drew (h:Sim C S Fp X st a w):Sim C S Fp X st a w.drew :=
 h.mem h.below.drew (λ_ _ _ h=>h) h.still.cell h.sbase (λt k hk=>⟨rfl,(h.free t k hk).2.1⟩) h.xn h.xd h.xb
def zde (h:Sim C S Fp (F++[]) st a w)   (hc:zD S w.heap y cs F)(hn:F.Nodup)(ty:TypeId) :
  Sim C S Fp ((w.heap.size::F)++[]) st a (w.alloc (.cells cs.toArray ty))/\zD S (w.alloc (.cells cs.toArray ty)).heap (.box y) [.pointer (some ⟨w.heap.size,0,none⟩)] (w.heap.size::F)/\(w.heap.size::F).Nodup:=by
 have hlt:∀k∈F,k<w.heap.size:=λk hk=>(hc.own k hk).1;refine⟨by simpa using h.alloc (ξ hlt) _,?_,gA.2 ⟨λhm=>sC _ (hlt _ hm),hn⟩⟩;simp only[zD];refine⟨w.heap.size,ty,cs,F,rfl,heap_alloc_new w _,hc.frame (λ_ _ _ h=>h) (λk hk=>⟨hao w _ k (hlt k hk),(hc.own k hk).2.1⟩),rfl,λo=>h.free_new (pF _) o⟩
def zoX (tt:TT)(n:Fr)(dst:TD)(t:Nat)(x:Operand):SM Unit:=do
 let y<-wP x;let z<-KW tt t y;match z with
 |.tup _=>zF
 |z=>if z.isAgg=true\/z.size=1 then wrT n dst (.own (.box z)) else zF
theorem zmx (h:Sim C S Fp [] st a w)    (ho:o.op=.box t x)    (e:zoX tt C.n o.dst t x st=some (u,R,U)):vd P C o a w (zh U st):=by
 unfold zoX at e;have ⟨y,_,hx,e1⟩:=bR (zy h) e;obtain⟨z,R3,U3,R4,U4,h3,e2,rfl,rfl⟩:=bind_some e1;have ⟨Fp',F,g1,g2⟩:=Ub h hx h3;rw[zp];by_cases hz:∃fs,z=.tup fs
 ·obtain⟨fs,rfl⟩:=hz;cases e2
 have hz':∀fs,z≠.tup fs:=λfs he=>hz ⟨fs,he⟩;have e3:(if z.isAgg=true\/z.size=1 then wrT C.n o.dst (.own (.box z)) else zF:SM Unit) (zh U3 st)=some (u,R4,U4):=by cases z<;>first|exact e2|exact absurd rfl (hz' _)
 split at e3
 ·rename_i hs1;have ⟨cs,c1,c2,c3⟩:=g2.cells hz';have ⟨k1,k2,k3⟩:=zde g1 c1 c2 t;have ⟨Fp'',hs⟩:=WN k1 e3 k2 k3;refine zm (v:=.pointer (some ⟨w.heap.size,0,none⟩)) ?_ hs;have hcl:=UH (y:=z) c1.na (hs1.imp id (λh=>by rw[c1.len];exact h));simp[execOp,ho,Instr.box,newVar,newRow,c3,hcl]
 cases e3
def zdv (tt:TT)(n:Fr)(dst:TD)(t:Nat):SM Unit:=do
 let i<-ofO (tt t);let z<-ofO i.zero
 wrT n dst (.own (.box z))
def zgx (hT:xH P tt)(h:Sim C S Fp [] st a w)   (ho:o.op=.alloc t)    (e:zdv tt C.n o.dst t st=some (u,R,U)):vd P C o a w (zh U st):=by unfold zdv at e;obtain⟨i,_,hi,e1⟩:=bO e;obtain⟨z,_,hz,e2⟩:=bO e1;obtain⟨f,f1,f2,f3,f4⟩:=(hT t i hi).info;obtain⟨v,v1,v2,v3⟩:=f4 z hz;obtain⟨k1,k2,k3⟩:=zde (F:=[]) (ξ h) (v3 S w.heap) ς t;obtain⟨Fp'',hs⟩:=WN k1 e2 k2 k3;refine zm (v:=.pointer (some ⟨w.heap.size,0,none⟩)) ?_ hs;simp[execOp,ho,Instr.alloc,newVar,newRow,zeroValue,typeInfo,f1,v1]
def z2O (hT:xH P tt){t i:Nat}  (hf:z60 tt t i fs=true)(b o:Nat)(w:World) :
  (Instr.fieldAt t (.pointer (some ⟨b,o,none⟩)) i).run P w=.ok (.pointer (some ⟨b,o+A.sizes (fs.take i),none⟩)) w:=by
 unfold z60 at hf;split at hf
 ·rename_i offs sz by' z eq ht;split at hf
  ·rename_i off sz' ho;simp[pN,beq_iff_eq,bne_iff_ne,ne_eq]at hf;have ⟨fields,g1,g2,g3⟩:=(hT _ _ ht).kind;rw[<-g2,gG]at ho;cases hfi:fields.toList[i]? with
   |none=>simp[hfi]at ho
   |some f=>
    simp[hfi,gK,Option.some.injEq,Prod.mk.injEq]at ho;obtain⟨rfl,rfl⟩:=ho;have ⟨inf,hinf⟩:=g3 f (pT hfi);have hfi':fields[i]?=some f:=ξ hfi
    have hsz:inf.size≠0:=by simpa[Program.cellsOf,hinf] using hf.2
    simp[Instr.fieldAt,run_underlying g1,hfi',Instr.sureAddr,fieldPlace,Go.sizeOf,typeInfo,hinf,hsz,Addr.add_lit,hf.1]
  cases hf
 cases hf
def z1g (tt:TT)(n:Fr)(dst:TD)(t i:Nat)(x:Operand):SM Unit:=do
 let y<-wP x
 z4G tt n dst t i y
def Ug:∀{as_:List A} {cs:TE} {i:Nat} {x:A},zX S as_ cs->as_[i]?=some x->∃c1 ci c2,cs=c1++ci++c2/\c1.length=A.sizes (as_.take i)/\Rep S x ci
 |[],_,_,_,_,e=>by simp at e
 |a::as_,cs,0,x,r,e=>by simp at e;subst e;simp[zX]at r;obtain⟨c1,c2,rfl,r1,r2⟩:=r;exact⟨[],c1,c2,rfl,rfl,r1⟩
 |a::as_,cs,i+1,x,r,e=>by simp at e;simp[zX]at r;obtain⟨c1,c2,rfl,r1,r2⟩:=r;obtain⟨d1,di,d2,rfl,hl,hx⟩:=Ug r2 e;exact⟨c1++d1,di,d2,ς,by simp[A.sizes,hl,r1.len],hx⟩
def z4h.mid {b o:Nat}  (h:z4h S b o (c1++ci++c2)):z4h S b (o+c1.length) ci:=by intro j v hj;have hlt:=(pC.1 hj).1;have:=h (c1.length+j) v (by rw[pP,pH ω,nD,pI hlt];exact hj);rwa[<-sP]at this
def z2U {b o:Nat}  (h1:Rep S y l)(h2:z4h S b o l):xg S (.sptr y) (.pointer (some ⟨b,o,none⟩)):=by simp only[xg];exact⟨[.pointer (some ⟨b,o,none⟩)],by simp only[Rep];exact⟨b,o,l,rfl,h1,h2⟩,rfl⟩
def z7F (hT:xH P tt)(h:Sim C S Fp [] st a w)  {t i:Nat}{x:Operand}(ho:o.op=.fieldAddr t x i)    (e:z1g tt C.n o.dst t i x st=some (u,R,U)):vd P C o a w (zh U st):=by
 unfold z1g z4G at e;have ⟨y,_,hx,e1⟩:=bR (zy h) e;have ⟨q,_,hq,e2⟩:=bR (JF h hx) e1;split at e2
 ·have ⟨y,_,hy,e3⟩:=bO e2;have ⟨hf,e4⟩:=bI e3;have ⟨b,o',l,ev,r1,r2⟩:=hq;simp[Rep]at r1;obtain⟨c1,ci,c2,rfl,hl,hr⟩:=Ug r1 hy;have ⟨Fp',hs⟩:=xw h e4 (x:=.d (.sptr y)) (z2U hr r2.mid);refine zm ?_ hs;rw[hl];simp[execOp,ho,ev,z2O hT hf]
 ·cases e2
 rename_i r p er ec;have ⟨z,_,⟨x0,k1,k2,k3,k4⟩,e3⟩:=bR VH e2;split at e3
 ·have ⟨hf,e4⟩:=bI e3;have ⟨b,o',ev,hp⟩:=zbX hq k1 k2 k3 k4 hf.2;rw[k2,k3]at hp;have ⟨Fp',hs⟩:=xw h e4 (x:=.ptr r _ er ec) hp;exact zm (by simp[execOp,ho,ev,z2O hT hf.1]) hs
 cases e3
def z1y (hT:xH P tt){t e:Nat}{i:TI}(h:slc tt t=some (e,i)):P.underlying t=some (.slice e)/\tt e=some i:=by
 unfold slc at h;split at h
 ·rename_i ht;obtain⟨_,hi,hh⟩:=pZ.1 h;cases hh;exact⟨(hT _ _ ht).kind,hi⟩
 cases h
def xE (hT:xH P tt){t sz:Nat}(h:jB tt t=some sz)(w:World):∃e,P.underlying t=some (.slice e)/\(Go.sizeOf e).run P w=.ok sz w:=by obtain⟨⟨e,i⟩,h1,rfl⟩:=pZ.1 h;have ⟨h2,h3⟩:=z1y hT h1;exact⟨e,h2,qP hT h3 w⟩
def zap (hT:xH P tt){e:Nat}{i:TI}  (hi:tt e=some i)(hz:i.zero=some z) :
  ∃f zv,P.info? e=some f/\f.size=i.size/\f.bytes=i.bytes/\f.zero=some zv/\zv.cells.size=f.size/\z.size=i.size/\∀S h,zD S h z zv.cells.toList []:=by
 have ⟨f,f1,f2,f3,f4⟩:=(hT _ _ hi).info;have ⟨zv,v1,v2,v3⟩:=f4 z hz;refine⟨f,zv,f1,f2,f3,v1,?_,v2,v3⟩;have:=(v3 (λ_ _=>none) #[]).len;rw[v2,<-f2]at this;simpa using this
def XY {t e sz:Nat}  (h1:P.underlying t=some (.slice e))(h2:(Go.sizeOf e).run P w=.ok sz w){b o n c:Nat}{k:IntKind}  (h0:0<=j)(hj:j.toNat<n) :
  (Instr.indexAt t (.slice (some ⟨b,o,none⟩) n c) (.int k j)).run P w=.ok (.pointer (some ⟨b,o+j.toNat*sz,none⟩)) w:=by
 have:j<(n:Int):=ω
 simp[Instr.indexAt,asIntOf,run_underlying h1,h0,this,h2,Addr.add_lit]
def zdp (tt:TT)(t:Nat):Option (Nat×Nat) :=
 match tt t with
 |some ⟨.array n e,_,_,_,_⟩=>(tt e).map λi=>(n,i.size)
 |_=>none
def YR (tt:TT)(t:Nat)(fs:List A)(j:Int):Bool :=
 match zdp tt t with
 |some (n,sz)=>fs.length==n&&decide (0<=j)&&fs.all λx=>x.size==sz
 |none=>false
def z0p (tt:TT)(n:Fr)(dst:TD)(t:Nat)(x:T)(i:A):SM Unit :=
 match i with
 |.atom (.int _ j)=>z72 x>>=λq=>
  match q with
  |.inl (.agg fs)=>zjG fs[j.toNat]? >>= λy=>Kt (YR tt t fs j=true) (wrT n dst (.d (.sptr y)))
  |.inr (r,p,er,ec)=>zaQ r p er ec>>=λy=>
   match y with
   |.agg fs=>Kt (YR tt t fs j=true/\j.toNat<fs.length) (wrT n dst (.ptr r (p++[.fld j.toNat]) er ec))
   |_=>zF
  |_=>zF
 |_=>zF
def QK (hT:xH P tt)    (hf:YR tt t fs j=true)(hj:j.toNat<fs.length)(k:IntKind)(b o:Nat)(w:World) :
  (Instr.indexAt t (.pointer (some ⟨b,o,none⟩)) (.int k j)).run P w=.ok (.pointer (some ⟨b,o+A.sizes (fs.take j.toNat),none⟩)) w:=by
 unfold YR at hf;split at hf
 ·rename_i n sz ha;unfold zdp at ha;split at ha
  ·rename_i n' e s' b' z' q' ht;have ⟨i,hi,he⟩:=pZ.1 ha;simp[Prod.mk.injEq]at he;obtain⟨rfl,rfl⟩:=he;simp[pN,beq_iff_eq,decide_eq_true_eq,gM]at hf;have ⟨⟨h1,h0⟩,h2⟩:=hf;have hu:=(hT _ _ ht).kind;have hsz:=qP hT hi w;have hlt:j<(n':Int):=ω
   have hs:A.sizes (fs.take j.toNat)=j.toNat*i.size:=by rw[A.sizes_const (sz:=i.size) (λx hx=>h2 x (gJ hx)),hU,mM ω]
   rw[hs];simp[z3C]at hu;simp[Instr.indexAt,asIntOf,run_underlying hu,h0,hlt,hsz,Instr.sureAddr,Addr.add_lit]
  cases ha
 cases hf
def z1f (tt:TT)(n:Fr)(dst:TD)(t:Nat)(x i:Operand):SM Unit:=do
 let y<-wP x;let ti<-wP i;let vi<-val ti
 if(zdp tt t).isSome=true then z0p tt n dst t y vi else z4C tt n dst t y vi
def zfa (hT:xH P tt){t sz:Nat}{tg:Bool}   (hr:xg S (.sl sz tg xs) v)(hs:jB tt t=some sz){k:IntKind}  (h0:0<=j)  (hy:xs[j.toNat]?=some y)(w:World) :
  ∃u,xg S (.sptr y) u/\(Instr.indexAt t v (.int k j)).run P w=.ok u w:=by
 simp only[xg]at hr;obtain⟨cs,r1,rfl⟩:=hr;simp only[Rep]at r1;obtain⟨p,c,rfl,_,_,h4,h5⟩:=r1;rcases h5 with rfl|⟨b,o,l,rfl,r2,r3⟩
 ·simp at hy
 have ⟨e,he,hsz⟩:=xE hT hs w;obtain⟨c1,ci,c2,rfl,hl,hx⟩:=Ug r2 hy;have hlt:=(pC.1 hy).1;have hc1:c1.length=j.toNat*sz:=by rw[hl,A.sizes_const (sz:=sz) (λx hx=>h4 x (gJ hx)),hU,mM ω]
 refine⟨_,z2U hx r3.mid,?_⟩;rw[hc1];exact XY he hsz h0 hlt
def z3i (hT:xH P tt)(h:Sim C S Fp [] st a w)   {x i:Operand}(ho:o.op=.indexAddr t x i){y:T}(hx:TOk S w.heap st (Act.tv a) y (a.eval x)){vi:A}(qi:xg S vi (a.eval i))
  {u:Unit} {R:TC} {U:List (Nat×Ent)} (e:z0p tt C.n o.dst t y vi st=some (u,R,U)):vd P C o a w (zh U st):=by
 unfold z0p at e;split at e
 ·rename_i k j;have ⟨ei,_⟩:=zo.1 qi;have ⟨q,_,hq,e2⟩:=bR (JF h hx) e;split at e2
  ·rename_i fs;have ⟨y,_,hy,e3⟩:=bO e2;have ⟨hf,e4⟩:=bM e3;have ⟨b,o',l,ev,r1,r2⟩:=hq;simp[Rep]at r1;obtain⟨c1,ci,c2,rfl,hl,hr⟩:=Ug r1 hy;have ⟨Fp',hs⟩:=xw h e4 (x:=.d (.sptr y)) (z2U hr r2.mid);refine zm ?_ hs;rw[hl];simp[execOp,ho,ev,ei,QK hT hf (pC.1 hy).1]
  ·rename_i r p er ec;have ⟨z,_,⟨x0,k1,k2,k3,k4⟩,e4⟩:=bR VH e2;split at e4
   ·rename_i fs;have ⟨hf,e5⟩:=bM e4;have ⟨b,o',ev,hp⟩:=zbX hq k1 k2 k3 k4 hf.2;rw[k2,k3]at hp;have ⟨Fp',hs⟩:=xw h e5 (x:=.ptr r _ er ec) hp;exact zm (by simp[execOp,ho,ev,ei,QK hT hf.1 hf.2]) hs
   cases e4
  cases e2
 cases e
def z5T (hT:xH P tt)(h:Sim C S Fp [] st a w)   {x i:Operand}(ho:o.op=.indexAddr t x i){k:IntKind}  (ei:a.eval i=.int k j)  (tg:Bool)  (hx:xg S (.sl sz tg xs) (a.eval x)){u:Unit}{R:TC}{U:List (Nat×Ent)}
  (e:zj7 tt C.n o.dst t sz xs j st=some (u,R,U)):vd P C o a w (zh U st):=by
 have ⟨h1,e⟩:=bI e;have ⟨h2,e⟩:=bM e;have ⟨y,_,hy,e⟩:=bO e;have ⟨v,rv,hrun⟩:=zfa hT hx h1 (k:=k) h2 hy w;have ⟨Fp',hs⟩:=xw h e (x:=.d (.sptr y)) rv;exact zm (by simp[execOp,ho,ei,hrun]) hs
def z7u (hT:xH P tt)(h:Sim C S Fp [] st a w)   {x i:Operand}(ho:o.op=.indexAddr t x i)    (e:z1f tt C.n o.dst t x i st=some (u,R,U)):vd P C o a w (zh U st):=by
 unfold z1f at e;have ⟨y,_,hx,e1⟩:=bR (zy h) e;have ⟨ti,_,hi,e2⟩:=bR (zy h) e1;have ⟨vi,_,qi,e3⟩:=bR (wz h hi) e2;split at e3
 ·exact z3i hT h ho hx qi e3
 unfold z4C at e3;split at e3
 ·rename_i k j;have ⟨ei,_⟩:=zo.1 qi;split at e3
  ·exact z5T hT h ho ei _ hx e3
  ·rename_i r p er ec;have ⟨_,e4⟩:=bD e3;have ⟨z,_,q,e5⟩:=bR (z1c h hx) e4;split at e5
   ·rename_i sz tg es;have ⟨h1,e6⟩:=bI e5;have ⟨hc,e7⟩:=bM e6;rcases q with⟨x0,cs,F,q1,q2,q3,q4,q5,q6,_⟩|⟨q1,q2,q3,q4,q5⟩
    ·have ⟨b,c,ev,hp⟩:=z8T h hx q1 q2 q3 q4 hc.2;have ⟨e',he,hsz⟩:=xE hT h1 w;have ⟨Fp',hs⟩:=xw h e7 (x:=.ptr r _ (st r).er (st r).ec) hp;exact zm (by simp[execOp,ho,ei,ev,XY he hsz hc.1 hc.2]) hs
    simp[xg]at q5;have ⟨cs,q5,_⟩:=q5;simp[Rep]at q5
   ·rcases q with⟨x0,cs,F,q1,q2,q3,q4,q5,q6,_⟩|⟨q1,q2,q3,q4,q5⟩
    ·exact z5T hT h ho ei _ (wX.repV ⟨cs,(q5.isD rfl).1,q6⟩) e5
    exact z5T hT h ho ei _ q5 e5
   cases e5
  cases e3
 cases e3
def zeQ {x:T}     (e:take x st=some (y,R,U)):U=[]\/∃r e',U=[(r,e')]/\(st r).ec<e'.ec:=by
 cases x with
 |d z=>simp[take]at e;obtain⟨_,_,rfl⟩:=qJ e;exact .inl rfl
 |als r p er ec=>
  simp[take]at e;have ⟨z,_,_,h2⟩:=bR (z7i) e;split at h2
  ·obtain⟨_,_,rfl⟩:=qJ h2;exact .inl rfl
  by_cases hpl:z.plain=true
  case neg=>rw[if_neg hpl]at h2;cases h2
  rw[if_pos hpl]at h2;have ⟨_,h4⟩:=bD h2;cases ht:(st r).t with
  |own x=>
   simp[ht]at h4;split at h4
   ·obtain⟨u5,R5,U5,R6,U6,h5,h6,rfl,rfl⟩:=bind_some h4;cases h5;cases h6;exact .inr ⟨r,_,rfl,gH _⟩
   obtain⟨u5,R5,U5,R6,U6,h5,h6,rfl,rfl⟩:=bind_some h4;cases h5;cases h6;exact .inr ⟨r,_,rfl,gH _⟩
  |_=>simp[ht]at h4;cases h4
 |_=>simp[take]at e;cases e
def zbi {x:T}     (e:KW tt t x st=some (y,R,U)):U=[]\/∃r e',U=[(r,e')]/\(st r).ec<e'.ec:=by unfold KW at e;obtain⟨z,R1,U1,R2,U2,h1,h2,rfl,rfl⟩:=bind_some e;obtain⟨_,_,rfl⟩:=qJ h2;simpa using zeQ h1
def zbo (tt:TT)(dst:TD)(t:Nat)(x v:Operand):SM Unit:=do
 if dst=none then
  let y<-wP x;let z<-wP v
  zlr tt t y z
 else zF
def z5X (h:WJ tt t y=true):y.isAgg=true\/y.size=1:=by
 unfold WJ at h;split at h
 ·simp[pN,beq_iff_eq,mN]at h;rcases h.2 with h2|h2
  ·exact .inl (by rw[<-h.1.1];exact h2)
  exact .inr (by rw[<-h.1.2];exact h2)
 cases h
theorem z6S (hT:xH P tt)  {y:A}(hf:WJ tt t y=true){w:World}{b o:Nat}{arr:Array Value}{ty:TypeId}  (hl:cs.length=y.size)(h1:∀u∈cs,u.oneCell'=true)
  (hb:w.heap[b]?=some (.cells arr ty (0,0))) (hfit:o+cs.length<=arr.size) :
  (storeVar t ⟨b,o,none⟩ (zL y cs)).run P w=.ok () (w.setRow b (Ur arr o cs)):=by
 have hcl:=UH (y:=y) (λu hu=>J0 (h1 u hu)) ((z5X hf).imp id (λh=>by rw[hl];exact h));unfold WJ at hf;split at hf
 ·rename_i i hi;simp only[pN,beq_iff_eq,mN]at hf;have hst:=run_storeCells_at P b o ty cs 0 arr w hb (ξ hfit) h1;simp only[mV]at hst;rw[uv hfit]at hst;unfold storeVar;simp only[Sem.run_bind,hcl,s6,qP hT hi,Result.andThen_ok];simp[hf.1.2,hl,hst]
 cases hf
def z3G.le {o:Nat}  (h:z3G arr o l)(hl:0<l.length):o+l.length<=arr.size:=by have:=h (l.length-1) _ (pB ω);have:=(pR.1 this).1;omega
def z4o (h:K0 p=true)(x z:A)(cs:TE):zL (z05 p x z) cs=zL x cs:=by
 cases p with
 |nil=>simp[K0]at h
 |cons s p'=>
  cases s with
  |fld _=>simp[K0]at h
  |_=>cases x<;>simp[z05,zL]
def zeU (hT:xH P tt)(h:Sim C S Fp [] st a w)   {x v:Operand}(ho:o.op=.store t x v)    (e:zbo tt o.dst t x v st=some (u,R,U)):vd P C o a w (zh U st):=by
 unfold zbo at e;split at e
 ·rename_i hd;have ⟨y,_,hx,e1⟩:=bR (zy h) e;have ⟨z,_,hz,e2⟩:=bR (zy h) e1;have ⟨q,_,hq,e3⟩:=bR (JF h hx) e2;split at e3
  ·cases e3
  rename_i r p er ec;obtain⟨s,R7,U7,R8,U8,h7,e4,rfl,rfl⟩:=bind_some e3;have ⟨Fp',F,g1,g2⟩:=Ub h hz h7;have ⟨_,e5⟩:=bD e4;rw[zp];split at e5
  case h_2=>cases e5
  rename_i x0 ht;have ⟨hc,e6⟩:=bI e5;obtain⟨y0,R9,U9,R10,U10,h9,e7,rfl,rfl⟩:=bind_some e6;obtain⟨rfl,hg⟩:=z3k h9;have ⟨hc2,e8⟩:=bI e7;have ⟨_,e9⟩:=bV e8;cases e9;have hsame:zh U7 st r=st r:=by
   rcases zbi h7 with rfl|⟨r',e',rfl,hlt⟩
   ·rfl
   by_cases hr:r=r'
   ·subst hr;simp[zh,xV]at hc;have hec:=hq.2.1;omega
   simp[zh,YA _ _ hr]
  have hq':jR w.heap (zh U7 st) (Act.tv a) r p er ec (a.eval x):=by have hq1:jR w.heap st (Act.tv a) r p er ec (a.eval x):=hq;unfold jR at hq1⊢;rw[hsame];exact hq1
  ·  ·have ⟨b,o',arr,ty,csy,Fy,cs,ev,o1,f2,f3,f4,f5,f6,f7,f8,f9,f10,f11,f12⟩:=z2Y g1 hq' ht hc.1 hc.2 hg;have hst:∀fs,s≠.tup fs:=by
       rintro fs rfl;rcases z5X hc2.2 with h|h
       ·simp[A.isAgg]at h
       simp[A.size]at h
      have ⟨csz,c1,c2,c3⟩:=g2.cells hst;have hlen:csz.length=csy.length:=by rw[c1.len,f4.len,hc2.1]
      have hFd:∀k∈F,∀t,k∉Fp' t:=λk hk t=>g1.xd t k (by simp[hk]);have hbF:b∉F:=λhb=>hFd b hb r f6;let w':=w.setRow b (Ur arr o' csz);have hheap:∀k,k≠b->w'.heap[k]?=w.heap[k]?:=λk hk=>setRow_other w b k _ hk;have hheapb:w'.heap[b]?=some (.cells (Ur arr o' csz) ty (0,0)):=setRow_heap w b arr _ ty (0,0) f2;have hbase:C.M b:=g1.base r b f6;have hSb:∀o,S b o=none:=(g1.free r b f6).2.1;have ⟨F0',d1,d2,d3⟩:=f12 S w'.heap s csz F (λ_ _ _ h=>h) hlen (c1.frame (λ_ _ _ h=>h) (λk hk=>⟨hheap k (λe=>hbF (e▸hk)),(c1.own k hk).2.1⟩)) c2 (λk hk _=>(g1.free r k hk).2.1) (λk _ _ hk=>hheap k hk) hheapb (λk hk hk'=>absurd hk' (hFd k hk r));refine z7z (w':=w') ?_ hd (S:=S) (Fp:=VT Fp' r F0') ?_
      ·have hrun:(storeVar t ⟨b,o',none⟩ (zL s csz)).run P w=.ok () w':=by
        by_cases hz0:csz.length=0
        ·
         have hnil:csz=[]:=nF hz0;subst hnil;have hov:w'=w:=by show w.setRow b (Ur arr o' [])=w;rw[VD (by intro j v hj;simp at hj)];exact setRow_self w b arr ty (0,0) f2
         rw[hov];have hsz:s.size=0:=by rw[<-c1.len];rfl
         have hag:=(z5X hc2.2).resolve_right ω;have hcl:=UH (y:=s) c1.na (.inl hag);have hf:=hc2.2;unfold WJ at hf;split at hf
         ·rename_i i hi;simp[pN,beq_iff_eq,mN]at hf;unfold storeVar;simp[Sem.run_bind,hcl,s6,qP hT hi,Result.andThen_ok];simp[hf.1.2,hsz,storeCells]
         cases hf
        exact z6S hT hc2.2 c1.len (c1.one1 (z8e hz h7)) f2 (by rw[hlen];exact f3.le ω)
       simp[execOp,ho,ev,c3,Instr.storeAt,Instr.sureAddr,hrun]
      simp[zh];refine g1.change r (.own (z05 p x0 s)) _ _ F0' ?_ (λ_ _ _ h=>h) ?_ g1.sbase ?_ ⟨⟨cs,d1,d2,by rw[z4o o1];exact f10⟩,x0,ht⟩ (.inl ⟨x0,ht⟩) (pF _) (gH _) ?_ ?_ ς ς ς ς
      ·exact g1.below.trans ⟨rfl,rfl,rfl,pF _,by simp[w'],λk hk=>hheap k (λe=>hk (e▸hbase))⟩
      ·intro b' o'' v hs;rw[w9 (h:=w.heap) (h':=w'.heap) (hheap b' (by rintro rfl;rw[hSb]at hs;cases hs))];exact g1.still b' o'' v hs
      ·intro t' k htr hk;exact⟨hheap k (by rintro rfl;exact htr (g1.disj t' r k hk f6)),(g1.free t' k hk).2.1⟩
      ·intro t' k htr hk hk';rcases(d3 k).1 hk with h|h
       ·exact htr (g1.disj t' r k hk' h.1)
       exact hFd k h t' hk'
      intro k hk;rcases(d3 k).1 hk with h|h
      ·exact g1.base r k h.1
      exact g1.xb k (by simp[h])
 cases e
end
variable {f:TypeInfo}{zv:Value}{i:TypeInfo}{as_ bs:List A}
section
variable {C:Ctx}{S:zf}{Fp:Nat->TC}{X:TC}{st:St}{a:Act}{w:World}
def QY (h:Sim C S Fp X st a w){x:T}  (hx:TOk S w.heap st (Act.tv a) x v)    (e:zb5 x st=some (y,R,U)) :
  U=[]/\(xg S y v\/∃cs F,zD S w.heap y cs F/\v=zL y cs):=by
 cases x with
 |d z=>simp[zb5]at e;cases e;exact⟨rfl,.inl hx⟩
 |als r p er ec=>
  simp[zb5]at e;obtain⟨rfl,q⟩:=z1c h hx e;refine⟨rfl,?_⟩;rcases q with⟨x,cs,F,_,_,_,_,q5,q6,_⟩|⟨_,_,_,_,q5⟩
  ·exact .inr ⟨cs,F,q5,q6⟩
  exact .inl q5
 |_=>simp[zb5]at e;cases e
def zo6 (f:A->TD)(tt:TT)(n:Fr)(dst:TD)(t:Nat)(x:Operand):SM Unit:=do
 let y<-wP x;let z<-zb5 y;let m<-ofO (f z)
 if jY tt t=true then do
  let r<-eqA (.atom (.int .i64 m))
  wrT n dst (.d r)
 else zF
def zfT {m:Nat}(hm:lenOf z=some m)  (q:xg S z v\/∃cs F,zD S w.heap z cs F/\v=zL z cs):∃p c,v=.slice p m c:=by
 unfold lenOf at hm;split at hm
 ·cases hm;rename_i sz tg xs;have:∃cs,Rep S (.sl sz tg xs) cs/\v=zL (.sl sz tg xs) cs:=by
   rcases q with q|⟨cs,F,q1,q2⟩
   ·exact q
   exact⟨cs,(q1.isD rfl).1,q2⟩
  obtain⟨cs,r1,rfl⟩:=this;simp[Rep]at r1;obtain⟨p,c,rfl,_⟩:=r1;exact⟨p,c,rfl⟩
 ·cases hm;rcases q with⟨cs,q,_⟩|⟨cs,F,q1,rfl⟩
  ·simp[Rep]at q
  simp[zD]at q1;obtain⟨p,c,rfl,_⟩:=q1;exact⟨p,c,rfl⟩
 ·cases hm;rcases q with q|⟨cs,F,q1,q2⟩
  ·exact⟨none,0,(zo.1 q).1⟩
  exact⟨none,0,(yI.1 ⟨cs,(q1.isD rfl).1,q2⟩).1⟩
 cases hm
def zgi {m:Nat}(hm:zjx z=some m)  (q:xg S z v\/∃cs F,zD S w.heap z cs F/\v=zL z cs):∃p c,v=.slice p c m:=by
 unfold zjx at hm;split at hm
 ·cases hm;rename_i sz xs;have:∃cs,Rep S (.sl sz true xs) cs/\v=zL (.sl sz true xs) cs:=by
   rcases q with q|⟨cs,F,q1,q2⟩
   ·exact q
   exact⟨cs,(q1.isD rfl).1,q2⟩
  obtain⟨cs,r1,rfl⟩:=this;simp only[Rep]at r1;obtain⟨p,c,rfl,hc,_⟩:=r1;exact⟨p,_,by rw[hc trivial];rfl⟩
 ·cases hm;rcases q with⟨cs,q,_⟩|⟨cs,F,q1,rfl⟩
  ·simp[Rep]at q
  simp only[zD]at q1;obtain⟨p,c,rfl,hc,_⟩:=q1;exact⟨p,_,by rw[hc trivial];rfl⟩
 ·cases hm;rcases q with q|⟨cs,F,q1,q2⟩
  ·exact⟨none,0,(zo.1 q).1⟩
  exact⟨none,0,(yI.1 ⟨cs,(q1.isD rfl).1,q2⟩).1⟩
 cases hm
def Wp (hT:xH P tt)  (h:jY tt t=true):∃e,P.underlying t=some (.slice e):=by
 unfold jY at h;split at h
 ·rename_i e _ _ _ _ ht;exact⟨e,(hT _ _ ht).kind⟩
 cases h
def zha (hT:xH P tt)(h:Sim C S Fp [] st a w)   {x:Operand}{f:A->TD}    (e:zo6 f tt C.n o.dst t x st=some (u,R,U))
  (hf:∀{el z m},P.underlying t=some (.slice el)->f z=some m->(xg S z (a.eval x)\/∃cs F,zD S w.heap z cs F/\a.eval x=zL z cs)->(execOp a.eval o).run P w=.ok (.value (.int .i64 m)) w):vd P C o a w (zh U st):=by
 have ⟨y,_,hx,e1⟩:=bR (zy h) e;have ⟨z,_,q,e2⟩:=bR (QY h hx) e1;have ⟨m,_,hm,e3⟩:=bO e2;have ⟨ht,e4⟩:=bI e3;have ⟨_,e5⟩:=bV e4;have ⟨el,hel⟩:=Wp hT ht;have ⟨Fp',hs⟩:=xw h e5 (x:=.d (.atom (.int .i64 m))) (zo.2 ⟨rfl,rfl⟩);exact zm (hf hel hm q) hs
def z34 (n:Fr)(dst:TD)(x:Operand):SM Unit:=do
 let y<-wP x;match y with
 |.d (.fn f cs)=>wrT n dst (.d (.fn f cs))
 |y=>do
  let q<-z72 y;match q with
  |.inl _=>wrT n dst y
  |.inr (r,p,er,ec)=>do
   let _<-zaQ r p er ec
   wrT n dst y
def zbY (hp:jR w.heap st (Act.tv a) r p er ec v){x:A}(hr:(st r).t=.own x)(e1:(st r).er=er)(e2:(st r).ec=ec):∃b o,v=.pointer (some ⟨b,o,none⟩):=by have:=hp.2.2;simp only[hr]at this;have ⟨_,y,b,o,_,_,g3⟩:=this e1 e2;exact⟨b,o,g3⟩
def z8u (h:Sim C S Fp [] st a w)   (ho:o.op=.nilCheck x)    (e:z34 C.n o.dst x st=some (u,R,U)):vd P C o a w (zh U st):=by
 unfold z34 at e;have ⟨y,_,hx,e1⟩:=bR (zy h) e;have ptr:∀{b o':Nat} {U:List (Nat×Ent)} {R:TC},a.eval x=.pointer (some ⟨b,o',none⟩)->wrT C.n o.dst y st=some (u,R,U)->vd P C o a w (zh U st):=by intro b o' U R ev hw;have ⟨Fp',hs⟩:=xw h hw hx;exact zm (v:=a.eval x) (by simp[execOp,ho,ev]) hs
 split at e1
 ·rename_i f cs;have ⟨Fp',hs⟩:=xw h e1 hx;have hx':xg S (.fn f cs) (a.eval x):=hx;simp[xg]at hx';have ⟨c,q1,q2⟩:=hx';simp[Rep]at q1;obtain⟨vs,_,_,rfl⟩:=q1;exact zm (v:=a.eval x) (by simp[execOp,ho,show a.eval x=.func (.func f) #[] vs.toArray from q2]) hs
 have ⟨q,_,hq,e3⟩:=bR (JF h hx) e1;split at e3
 ·have ⟨b,o',l,ev,_⟩:=hq;exact ptr ev e3
 have ⟨z,_,⟨x0,k1,k2,k3,k4⟩,e5⟩:=bR VH e3;have ⟨b,o',ev⟩:=zbY hq k1 k2 k3;exact ptr ev e5
def z5W {α:Type}(l:List α):∀(n k:Nat),(List.replicate n l).flatten[k]?=if k<n*l.length then l[k%l.length]? else none
 |0,k=>ς
 |n+1,k=>by
  rw[nB,List.flatten_cons];by_cases hk:k<l.length
  ·rw[pI hk,if_pos (by rw[gZ];omega),nY hk]
  rw[pH ω,z5W l n];have hm:(k-l.length)%l.length=k%l.length:=(Nat.mod_eq_sub_mod ω).symm;rw[hm];by_cases h2:k-l.length<n*l.length
  ·rw[if_pos h2,if_pos (by rw[gZ];omega)]
  rw[if_neg h2,if_neg (by rw[gZ];omega)]
def Ke (z:Array Value)(l c:Nat)(h:l<=c):(madeCells z (c*z.size)).toList.take (l*z.size)=(List.replicate l z.toList).flatten:=by
 apply gW;intro k;rw[z5W,gB,sT];have hle:l*z.size<=c*z.size:=pV _ h;split
 ·rename_i hk;have hz:0<z.size:=by
   rcases rG z.size with h0|h0
   ·rw[h0]at hk;simp at hk
   exact h0
  have hmod:k%z.size<z.size:=sF _ hz;simp[madeCells,Array.toList_map,Array.toList_range,gG,mQ];rw[pB (by simp;omega)];simp[List.getElem_range,gK];rw[mB hmod,getElem!_pos z _ hmod]
 rfl
def Wz (hz:zD S h z cs []):∀n,zH S h (List.replicate n z) (List.replicate n cs).flatten []
 |0=>by simp[zH]
 |n+1=>by simp only[nB,List.flatten_cons,zH];exact⟨cs,_,[],[],rfl,rfl,hz,Wz hz n⟩
def z8r (h:Sim C S Fp (F++[]) st a w)  {arr:Array Value}  (hc:zH S w.heap es l F)(hn:F.Nodup)(ty:TypeId){sz c:Nat}{t:Bool}(ht:t=true->c=es.length)(hlc:es.length<=c)(hm:c<=maxLen)
  (hsz:∀x∈es,x.size=sz) (hs0:arr.size=c*sz) (htk:arr.toList.take (es.length*sz)=l) (w':World) (hw:w'=w.alloc (.cells arr ty)) :
  Sim C S Fp ((w.heap.size::F)++[]) st a w'/\zD S w'.heap (.osl sz t es) [.slice (some ⟨w.heap.size,0,none⟩) es.length c] (w.heap.size::F)/\(w.heap.size::F).Nodup:=by
 subst hw;have hlt:∀k∈F,k<w.heap.size:=λk hk=>(hc.own k hk).1;refine⟨by simpa using h.alloc (ξ hlt) _,?_,gA.2 ⟨λhm=>sC _ (hlt _ hm),hn⟩⟩;simp only[zD];exact⟨_,c,rfl,ht,hlc,hm,hsz,.inr ⟨w.heap.size,arr,ty,l,F,rfl,heap_alloc_new w _,Nat.le_of_eq hs0.symm,htk,hc.frame (λ_ _ _ h=>h) (λk hk=>⟨hao w _ k (hlt k hk),(hc.own k hk).2.1⟩),rfl,λo=>h.free_new (pF _) o⟩⟩
def JL (tt:TT)(n:Fr)(dst:TD)(t:Nat)(l c:Operand):SM Unit:=wP l>>=λtl=>val tl>>=λvl=>wP c>>=λtc=>val tc>>=λvc=>
 match vl,vc with
 |.atom (.int _ x),.atom (.int _ y)=>ofO (slc tt t)>>=λq=>ofO q.2.zero>>=λz=>if q.2.bytes<=4096 then Kt (0<=x/\x<=y/\y<=lim) (eqA (.osl q.2.size (decide (x=y)) (List.replicate x.toNat z))>>=λr=>wrT n dst (.own r)) else zF
 |_,_=>zF
def z1B {P:Program}  (hT:xH P tt)(h:Sim C S Fp [] st a w)  {t:Nat}{l c:Operand}(ho:o.op=.makeSlice t l c)    (e:JL tt C.n o.dst t l c st=some (u,R,U)):vd P C o a w (zh U st):=by
 unfold JL at e;obtain⟨tl,_,hl,e1⟩:=bR (zy h) e;obtain⟨vl,_,ql,e2⟩:=bR (wz h hl) e1;obtain⟨tc,_,hc,e3⟩:=bR (zy h) e2;obtain⟨vc,_,qc,e4⟩:=bR (wz h hc) e3;split at e4
 ·rename_i k1 x k2 y;obtain⟨ex,_⟩:=zo.1 ql;obtain⟨ey,_⟩:=zo.1 qc;have ⟨⟨el,i⟩,_,hq,e5⟩:=bO e4;have ⟨hel,hi⟩:=z1y hT hq;have ⟨z,_,hz,e6⟩:=bO e5;have ⟨c4,e7⟩:=bI e6;have ⟨⟨c1,c2,c3⟩,e8⟩:=bM e7;have ⟨_,e9⟩:=bV e8;obtain⟨f,zv,f1,f2,f3,v1,hzs,v2,v3⟩:=zap hT hi hz;have hlim:y<=4294967296:=by simpa[lim] using c3
  have hbytes:(f.bytes:Int)*y<=281474976710656:=by
   rw[f3];have h1:(i.bytes:Int)<=4096:=by simp only at c4;omega
   have h2:(i.bytes:Int)*y<=4096*4294967296:=Int.mul_le_mul h1 hlim ω ω;omega
  have hrun:=run_make (P:=P) w t el f zv hel f1 v1 k1 k2 x y c1 c2 hbytes ω;rw[<-hzs]at hrun f2;have hxy:x.toNat<=y.toNat:=ω
  obtain⟨k1',k2',k3'⟩:=z8r (F:=[]) (es:=List.replicate x.toNat z) (arr:=madeCells zv.cells (y.toNat*zv.cells.size)) (l:=(List.replicate x.toNat zv.cells.toList).flatten) (ξ h)
   (Wz (v3 S w.heap) _) ς el (sz:=i.size) (c:=y.toNat) (t:=decide (x=y)) (by intro hd;simp[decide_eq_true_eq]at hd;simp[hd]) (ξ hxy) (by unfold maxLen;omega)
   (by intro q hq;rw[mZ hq];exact v2) (by rw[size_madeCells,f2]) (by rw[mR,<-f2];exact Ke _ _ _ hxy) _ rfl
  obtain⟨Fp'',hs⟩:=WN k1' e9 k2' k3';refine zm ?_ hs;simp[execOp,ho,ex,ey,hrun,Result.andThen_ok];simp[zL]
 cases e4
def XZ {t ty e:TypeId}  (ht:P.underlying t=some (.slice e))(hi:P.info? e=some i)(p q:Option Addr)(n c m:Nat)(hn:n<=c)(w:World) :
  (Builtin.append_ #[t,t] ty #[.slice p n c,.slice q 0 m]).run P w=.ok (.slice p n c) w:=by
 cases p<;>cases q<;>simp[Builtin.append_,run_underlying ht,Go.sizeOf,typeInfo,hi,Builtin.lenOf,hn,Builtin.firstCells,loadCells,loadCellsFrom,storeCells]
def z1Y {P:Program}{t ty e bty:TypeId}  (ht:P.underlying t=some (.slice e))(hi:P.info? e=some i)(w:World)
  (g n c:Nat) (cur:Array Value) (hg:w.heap[g]?=some (.cells cur bty (0,0)))
  (a:Addr) (m d:Nat) (news:TE) (hl:news.length=m*i.size) (hnews:∀j u,news[j]?=some u->w.cell? (a.add j)=some u) (h1:∀u∈news,u.oneCell'=true)
  (hroom:n+m<=c) (hfit:n*i.size+news.length<=cur.size) :
  (Builtin.append_ #[t,t] ty #[.slice (some ⟨g,0,none⟩) n c,.slice (some a) m d]).run P w=.ok (.slice (some ⟨g,0,none⟩) (n+m) c) (w.setRow g (Ur cur (n*i.size) news)):=by
 have hf:=run_firstCells_some (P:=P) w i.size m a m d news hl hnews;have hst:=run_storeCells_at P g (n*i.size) bty news 0 cur w hg (ξ hfit) h1;simp only[mV]at hst;rw[uv hfit]at hst;simp[Builtin.append_,run_underlying ht,Go.sizeOf,typeInfo,hi,Builtin.lenOf,hroom,hf,Addr.add_lit,hst]
def zX.append {c1 c2:TE}(h1:zX S as_ c1)(h2:zX S bs c2):zX S (as_++bs) (c1++c2):=by
 induction as_ generalizing c1 with
 |nil=>simp[zX]at h1;subst h1;simpa using h2
 |cons a as_ ih=>simp[zX]at h1;obtain⟨d1,d2,rfl,r1,r2⟩:=h1;simp[gX,zX];exact⟨d1,d2++c2,ς,r1,ih r2⟩
def zH.append {c1 c2:TE}{F1 F2:TC}(h1:zH S h as_ c1 F1)(h2:zH S h bs c2 F2):zH S h (as_++bs) (c1++c2) (F1++F2):=by
 induction as_ generalizing c1 F1 with
 |nil=>simp only[zH]at h1;obtain⟨rfl,rfl⟩:=h1;simpa using h2
 |cons a as_ ih=>simp only[zH]at h1;obtain⟨d1,d2,G1,G2,rfl,rfl,r1,r2⟩:=h1;simp only[gX,zH];exact⟨d1,d2++c2,G1,G2++F2,ς,ς,r1,ih r2⟩
def Yh {P:Program}{t ty e:TypeId}   (ht:P.underlying t=some (.slice e))(hi:P.info? e=some f)(hz:f.zero=some zv)(hzs:zv.cells.size=f.size)
    {F G:TC} (h:Sim C S Fp (F++G) st a w) {es ys:List A} {olds news:TE} (hes:zH S w.heap es olds F) (hFn:(F++G).Nodup) (hys:zH S w.heap ys news G) (hsz1:∀x∈es,x.size=f.size) (hsz2:∀x∈ys,x.size=f.size)
    {p:Option Addr} {c:Nat} (hp:(p=none/\es=[]/\c=0)\/∃b,p=some b/\∀j v,olds[j]?=some v->w.cell? (b.add j)=some v)
    {ad:Addr} {d:Nat} (hnews:∀j v,news[j]?=some v->w.cell? (ad.add j)=some v) (hg:c<es.length+ys.length) (hlim:es.length+ys.length<=lim) (hb:f.bytes<=4096) (hy0:0<ys.length) :
    ∃v w',(Builtin.append_ #[t,t] ty #[.slice p es.length c,.slice (some ad) ys.length d]).run P w=.ok v w'/\∃F',Sim C S Fp (F' ++ []) st a w'/\F'.Nodup/\∃cs,zD S w'.heap (.osl f.size false (es++ys)) cs F'/\v=zL (.osl f.size false (es++ys)) cs:=by
  have hl1:olds.length=es.length*f.size:=by rw[hes.len,A.sizes_const hsz1]
  have hl2:news.length=ys.length*f.size:=by rw[hys.len,A.sizes_const hsz2]
  have hlim':es.length+ys.length<=4294967296:=hlim;have hbytes:(es.length+ys.length)*f.bytes<=140737488355328:=by have:(es.length+ys.length)*f.bytes<=4294967296*4096:=gY hlim' hb;omega
  have new:∀cap,es.length+ys.length<=cap->cap<=maxLen ->
      Sim C S Fp ((w.heap.size::(F++G))++[]) st a (w.drew.alloc (.cells (olds.toArray++news.toArray++Builtin.zeroCells zv.cells (cap-(es.length+ys.length))) e)) /\
      zD S (w.drew.alloc (.cells (olds.toArray++news.toArray++Builtin.zeroCells zv.cells (cap-(es.length+ys.length))) e)).heap (.osl f.size false (es++ys)) [.slice (some ⟨w.heap.size,0,none⟩) (es++ys).length cap] (w.heap.size::(F++G))/\(w.heap.size::(F++G)).Nodup:=by
    intro cap hc1 hc2;have:=z8r (w:=w.drew) (F:=F++G) (by rw[gC];exact h.drew) (es:=es++ys) (l:=olds++news) (arr:=olds.toArray++news.toArray++Builtin.zeroCells zv.cells (cap-(es.length+ys.length))) (hes.append hys) hFn e (sz:=f.size) (c:=cap) (t:=false) ς (ξ hc1) hc2
      (by intro x hx;rcases pD.1 hx with h|h;exact hsz1 x h;exact hsz2 x h)
      (by simp only[Array.size_append,s6,size_zeroCells,hzs,hl1,hl2,<-gZ];congr 1;omega)
      (by simp only[Array.toList_append,pW];rw[show(es.length+ys.length)*f.size=(olds++news).length from by rw[pW,hl1,hl2,gZ]];exact List.take_left) _ rfl
    exact this
  rcases hp with⟨rfl,rfl,rfl⟩|⟨b,rfl,hb⟩
  · simp only[zH]at hes;obtain⟨rfl,rfl⟩:=hes;have hr:=run_append_nil (P:=P) w t ty e f zv ht hi hz ad ys.length d news hl2 hnews (ξ hg) (by simp at hlim';omega) (by simp only[List.length_nil,mC]at hbytes;omega);have hge:=grownCap_ge w ys.length 0 e;have ⟨q1,q2,q3⟩:=new (grownCap w ys.length 0 e) (ξ hge) (grownCap_le_maxLen w _ 0 e (by unfold maxLen;simp at hlim';omega));simp only[mA,List.length_nil,mC,nZ]at q1 q2 q3 hr⊢;exact⟨_,_,hr,_,q1,q3,_,q2,rfl⟩
  have hr:=run_append_grow (P:=P) w t ty e f zv ht hi hz b es.length c olds hl1 hb ad ys.length d news hl2 hnews hg ω (growslice_fits hg hbytes);have hge:=grownCap_ge w (es.length+ys.length) c e;have ⟨q1,q2,q3⟩:=new (grownCap w (es.length+ys.length) c e) hge (grownCap_le_maxLen w _ c e (by unfold maxLen;omega));refine⟨_,_,hr,_,q1,q3,_,q2,?_⟩;simp[zL]
def z2T {b o:Nat}  (h:Sim C S Fp X st a w)(hl:z4h S b o l):∀j v,l[j]?=some v->w.cell? ((⟨b,o,none⟩:Addr).add j)=some v:=by intro j v hj;rw[Addr.add_lit,UI];exact h.still _ _ _ (hl j v hj)
def z02 (h:Sim C S Fp X st a w)   {ys:List A}(hy:zf6 y=some (sz,ys))(hD:A.areD ys=true)  (q:xg S y v\/∃cs F,zD S w.heap y cs F/\v=zL y cs) :
  ∃p d news,v=.slice p ys.length d/\zX S ys news/\(∀x∈ys,x.size=sz)/\((ys=[]/\news=[])\/∃ad,p=some ad/\∀j u,news[j]?=some u->w.cell? (ad.add j)=some u):=by
 unfold zf6 at hy;split at hy<;>cases hy
 ·rename_i t;have:∃cs,Rep S (.sl sz t ys) cs/\v=zL (.sl sz t ys) cs:=by
   rcases q with q|⟨cs,F,q1,q2⟩
   ·exact q
   exact⟨cs,(q1.isD rfl).1,q2⟩
  obtain⟨cs,r1,rfl⟩:=this;simp only[Rep]at r1;obtain⟨p,c,rfl,_,_,h4,h5⟩:=r1;rcases h5 with rfl|⟨b,o,l,rfl,r2,r3⟩
  ·exact⟨p,c,[],rfl,by simp[zX],ς,.inl ⟨rfl,rfl⟩⟩
  exact⟨_,c,l,rfl,r2,h4,.inr ⟨_,rfl,z2T h r3⟩⟩
 rcases q with⟨cs,q,_⟩|⟨cs,F,q1,rfl⟩
 ·simp[Rep]at q
 simp only[zD]at q1;obtain⟨p,c,rfl,_,_,_,h4,h5⟩:=q1;rcases h5 with⟨rfl,_,rfl,_⟩|⟨b,arr,ty,l,F',rfl,k1,k2,k3,k4,_,_⟩
 ·exact⟨none,c,[],rfl,by simp[zX],ς,.inl ⟨rfl,rfl⟩⟩
 refine⟨_,c,l,rfl,(k4.areD hD).1,h4,.inr ⟨_,rfl,?_⟩⟩;intro j u hj;rw[Addr.add_lit,UI];simp only[zU,k1];rw[<-k3,gB]at hj;split at hj
 ·simpa using hj
 cases hj
def z4L {P:Program}{t ty e:TypeId}   (ht:P.underlying t=some (.slice e))(hi:P.info? e=some f)(hz:f.zero=some zv)(hzs:zv.cells.size=f.size)
    {F G:TC} (h:Sim C S Fp (F++G) st a w) {tg:Bool} {es ys:List A} {cs:TE} (hc:zD S w.heap (.osl f.size tg es) cs F) (hFn:(F++G).Nodup)
    {p:Option Addr} {d:Nat} {news:TE} (hr:zH S w.heap ys news G) (hsz2:∀x∈ys,x.size=f.size) (hsrc:(ys=[]/\news=[])\/∃ad,p=some ad/\∀j u,news[j]?=some u->w.cell? (ad.add j)=some u)
    (hlim:es.length+ys.length<=lim) (hb:f.bytes<=4096) (hpl:A.plains ys=true) :
    ∃v w',(Builtin.append_ #[t,t] ty #[zL (.osl f.size tg es) cs,.slice p ys.length d]).run P w=.ok v w'/\∃F',Sim C S Fp (F' ++ []) st a w'/\F'.Nodup/\∃cs',zD S w'.heap (.osl f.size false (es++ys)) cs' F'/\v=zL (.osl f.size false (es++ys)) cs':=by
  have hc0:=hc;simp only[zD]at hc;obtain⟨q,c,rfl,t1,t2,t3,t4,t5⟩:=hc;by_cases hy0:ys=[]
  · subst hy0;simp only[zH]at hr;obtain⟨rfl,rfl⟩:=hr;refine⟨_,w,XZ ht hi q p es.length c d t2 w,F,h,ξ hFn,[.slice q es.length c],?_,?_⟩
    · simp only[zD]at hc0⊢;have ⟨q',c',h1,_,h3⟩:=hc0;exact⟨q',c',ξ h1,ς,ξ h3⟩
    simp[zL]
  have hpos:0<ys.length:=nV.2 hy0;rcases hsrc with⟨hy,_⟩|⟨ad,rfl,hnews⟩
  · exact absurd hy hy0
  have hl2:news.length=ys.length*f.size:=by rw[hr.len,A.sizes_const hsz2]
  have hysc:=hr;rcases t5 with⟨rfl,rfl,rfl,rfl⟩|⟨b,arr,bty,l,F',rfl,k1,k2,k3,k4,rfl,k6⟩
  · exact Yh ht hi hz hzs h (es:=[]) (olds:=[]) (by simp[zH]) hFn hysc ς hsz2 (.inl ⟨rfl,rfl,rfl⟩) hnews (ξ hpos) hlim hb hpos
  have hl1:l.length=es.length*f.size:=by rw[k4.len,A.sizes_const t4]
  have hF':=gA.1 (show(b::(F' ++ G)).Nodup from hFn);by_cases hroom:es.length+ys.length<=c
  · have hfit:es.length*f.size+news.length<=arr.size:=pJ (by rw[hl2,<-gZ];exact pV _ hroom) k2;have hrun:=z1Y (P:=P) (ty:=ty) ht hi w b es.length c arr k1 ad ys.length d news hl2 hnews (λu hu=>(hr.one u hu).2 hpl) hroom hfit;let w':=w.setRow b (Ur arr (es.length*f.size) news);have hheap:∀k,k≠b->w'.heap[k]?=w.heap[k]?:=λk hk=>setRow_other w b k _ hk;have hheapb:w'.heap[b]?=some (.cells (Ur arr (es.length*f.size) news) bty (0,0)):=setRow_heap w b arr _ bty (0,0) k1;have hbF:∀t',b∉Fp t':=λt'=>h.xd t' b ς;have hbase:C.M b:=h.xb b ς;refine⟨_,w',hrun,b::(F' ++ G),?_,hFn,[.slice (some ⟨b,0,none⟩) (es.length+ys.length) c],?_,rfl⟩
    · refine h.mem (h.below.trans ⟨rfl,rfl,rfl,pF _,by simp[w'],λk hk=>hheap k (λe=>hk (e▸hbase))⟩) (λ_ _ _ h=>h) ?_ h.sbase (λt' k hk=>⟨hheap k (by rintro rfl;exact hbF t' hk),(h.free t' k hk).2.1⟩) (ξ hFn) (ξ h.xd) (ξ h.xb);intro b' o' v hs;rw[w9 (h:=w.heap) (h':=w'.heap) (hheap b' (by rintro rfl;rw[k6]at hs;cases hs))];exact h.still b' o' v hs
    simp only[zD,pW];refine⟨_,c,rfl,ς,hroom,t3,?_,.inr ⟨b,Ur arr (es.length*f.size) news,bty,l++news,F' ++ G,rfl,hheapb,by simp[k2],?_,?_,rfl,k6⟩⟩
    · intro x hx;rcases pD.1 hx with h|h
      · exact t4 x h
      exact hsz2 x h
    · apply gW;intro k;have hle:es.length*f.size<=arr.size:=ω
      rw[gB,mQ,qS,gZ];by_cases hk:k<es.length*f.size
      · rw[if_pos ω,if_neg ω,pI ω,<-k3,gB,if_pos hk,mQ];cases arr[k]?<;>rfl
      by_cases hk2:k<es.length*f.size+ys.length*f.size
      · rw[if_pos hk2,if_pos ω,pH ω,hl1,mB ω,pB ω];rfl
      rw[if_neg hk2,pL (by rw[pW];omega)]
    exact zH.append (k4.frame (S':=S) (h':=w'.heap) (λ_ _ _ h=>h) (λk hk=>⟨hheap k (by rintro rfl;exact hF'.1 (by simp[hk])),(k4.own k hk).2.1⟩))
      (hr.frame (S':=S) (h':=w'.heap) (λ_ _ _ h=>h) (λk hk=>⟨hheap k (by rintro rfl;exact hF'.1 (by simp[hk])),(hr.own k hk).2.1⟩))
  have hold:∀j v,l[j]?=some v->w.cell? ((⟨b,0,none⟩:Addr).add j)=some v:=by
    intro j u hj;rw[Addr.add_lit,UI];simp only[zU,k1];rw[<-k3,gB]at hj;split at hj
    · simpa using hj
    cases hj
  have hsub:Sim C S Fp (F' ++ G) st a w:=h.mem h.below (λ_ _ _ h=>h) h.still.cell h.sbase (λt' k hk=>⟨rfl,(h.free t' k hk).2.1⟩) hF'.2 (λt' k hk=>h.xd t' k (by simp at hk⊢;exact .inr hk)) (λk hk=>h.xb k (by simp at hk⊢;exact .inr hk));exact Yh ht hi hz hzs hsub k4 hF'.2 hysc t4 hsz2 (.inr ⟨_,rfl,hold⟩) hnews ω hlim hb hpos
def z8R (tt:TT)(n:Fr)(dst:TD)(t:Nat)(s x:Operand):SM Unit:=do
 let ts<-wP s;let tx<-wP x;let y<-zb5 tx;match y with
 |.osl _ _ ys=>zoZ (A.areD ys)>>=λb=>match b with
  |true=>z8S tt n dst t ts tx
  |false=>z4M tt n dst t s x
 |_=>z8S tt n dst t ts tx
def z4N (hT:xH P tt)(h:Sim C S Fp [] st a w)  {t:Nat}{s x:Operand}(ho:o.op=.call { callee:=.builtin .append,args:=#[s,x],argTypes:=#[t,t] }){ts tx:T}(hs:TOk S w.heap st (Act.tv a) ts (a.eval s))(hx:TOk S w.heap st (Act.tv a) tx (a.eval x))
    {u:Unit} {R:TC} {U:List (Nat×Ent)} (e:z8S tt C.n o.dst t ts tx st=some (u,R,U)):vd P C o a w (zh U st):=by
 have ⟨⟨el,i⟩,_,hq,e⟩:=bO e;have ⟨hel,hi⟩:=z1y hT hq;have ⟨y,_,q,e⟩:=bR (QY h hx) e;have ⟨⟨sz,ys⟩,_,hy,e⟩:=bO e;obtain⟨⟨rfl,c3,c4,c5⟩,e⟩:=bI e;have ⟨c2,e⟩:=bM e;have ⟨z0,hz0⟩:=rJ.1 c5;have ⟨f,zv,f1,f2,f3,v1,hzs,v2,v3⟩:=zap hT hi hz0;have ⟨p,d,news,ev,r1,r2,r3⟩:=z02 h hy c2 q;obtain⟨z,R3,U3,R4,U4,h3,e4,rfl,rfl⟩:=bind_some e;have ⟨Fp',F,g1,g2⟩:=Ub h hs h3;rw[zp];have fin:∀v w',(Builtin.append_ #[t,t] o.type #[a.eval s,a.eval x]).run P w=.ok v w'->(execOp a.eval o).run P w=.ok (.value v) w':=by intro v w' hrun;simp[execOp,ho,resolve,invoke,builtin,hrun]
 split at e4
 ·obtain⟨rfl,e5⟩:=bI e4;have ⟨hlim,e6⟩:=bM e5;have ⟨_,e4⟩:=bV e6;have ⟨cs,k1,k2,k3⟩:=g2.cells ς;dsimp only at *;rw[<-f2]at k1 k3 r2 e4;obtain⟨v,w',hrun,F',m1,m2,cs',m3,rfl⟩:=z4L (ty:=o.type) hel f1 v1 hzs g1 k1 (ξ k2) (p:=p) (d:=d) (r1.concs w.heap) r2 r3 hlim ω r1.plain;have ⟨Fp'',hs'⟩:=WN m1 e4 m3 m2;exact zm (fin _ _ (by rw[k3,ev];exact hrun)) hs'
 ·rename_i es;obtain⟨⟨rfl,rfl⟩,e5⟩:=bI e4;have ⟨⟨hlim,hne,hD⟩,e6⟩:=bM e5;have ⟨_,e4⟩:=bV e6;have hrep:∃cs,Rep S (.sl i.size true es) cs/\a.eval s=zL (.sl i.size true es) cs/\F=[]:=by
   rcases g2 with⟨q,rfl⟩|⟨cs,q1,q2,q3⟩
   ·simp only[xg]at q;have ⟨cs,q1,q2⟩:=q;exact⟨cs,q1,q2,rfl⟩
   exact⟨cs,(q1.isD rfl).1,q3,(q1.isD rfl).2⟩
  obtain⟨cs,q1,q2,rfl⟩:=hrep;simp only[Rep]at q1;obtain⟨pp,c,rfl,t1,t2,t3,t4⟩:=q1;have hcl:=t1 trivial;subst hcl;have hpos:0<ys.length:=nV.2 hne;rcases r3 with⟨hy,_⟩|⟨ad,rfl,hnews⟩
  ·exact absurd hy hne
  dsimp only at *;rw[<-f2]at t3 r2 e4;have hold:∃olds,zX S es olds/\((pp=none/\es=[]/\es.length=0)\/∃b,pp=some b/\∀j v,olds[j]?=some v->w.cell? (b.add j)=some v):=by
   rcases t4 with rfl|⟨b,o',l,rfl,k1,k2⟩
   ·cases pp with
    |none=>exact⟨[],by simp[zX],.inl ⟨rfl,rfl,rfl⟩⟩
    |some b=>exact⟨[],by simp[zX],.inr ⟨b,rfl,ς⟩⟩
   exact⟨l,k1,.inr ⟨_,rfl,z2T h k2⟩⟩
  have ⟨olds,n1,n2⟩:=hold;obtain⟨v,w',hrun,F',m1,m2,cs',m3,rfl⟩:=Yh (ty:=o.type) hel f1 v1 hzs g1 (n1.concs w.heap) ς (r1.concs w.heap) t3 r2 n2 (d:=d) hnews ω hlim ω hpos;have ⟨Fp'',hs'⟩:=WN m1 e4 m3 m2;exact zm (fin _ _ (by rw[q2,ev];exact hrun)) hs'
 cases e4
theorem z68 (hT:xH P tt)(h:Sim C S Fp [] st a w)  {t:Nat}{s x:Operand}(ho:o.op=.call { callee:=.builtin .append,args:=#[s,x],argTypes:=#[t,t] })
    {u:Unit} {R:TC} {U:List (Nat×Ent)} (e:z4M tt C.n o.dst t s x st=some (u,R,U)):vd P C o a w (zh U st):=by
 have ⟨⟨el,i⟩,_,hq,e⟩:=bO e;have ⟨hel,hi⟩:=z1y hT hq;have ⟨⟨c3,c4,c5⟩,e⟩:=bI e;have ⟨z0,hz0⟩:=rJ.1 c5;have ⟨f,zv,f1,f2,f3,v1,hzs,v2,v3⟩:=zap hT hi hz0;have ⟨tx,_,hx,e1⟩:=bR (zy h) e;obtain⟨y,R3,U3,R4,U4,h3,e2,rfl,rfl⟩:=bind_some e1;have ⟨Fp1,G,g1,g2⟩:=z14 h hx h3;have ⟨ts,_,hs,e3⟩:=bR (zy g1) e2;obtain⟨z,R7,U7,R8,U8,h7,e4,rfl,rfl⟩:=bind_some e3;have ⟨Fp2,F,k1,k2⟩:=Ub g1 hs h7;rw[zp,zp];split at e4
 ·rename_i sz tgy ys sz' tg es;obtain⟨⟨rfl,rfl,hpl⟩,e5⟩:=bI e4;have ⟨hlim,e6⟩:=bM e5;have ⟨_,e4⟩:=bV e6;have ⟨cs,m1,m2,m3⟩:=k2.cells ς;have ⟨ds,n1,n2,n3⟩:=Has.cells g2 ς;dsimp only at *;rw[<-f2]at m1 m3 e4 n1;simp only[zD]at n1;obtain⟨p,d,rfl,_,_,_,t4,t5⟩:=n1;have hxn:=k1.xn;rw[gC]at hxn;have fin2:∀(G':TC) (news:TE),zH S w.heap ys news G'->(∀k∈G',k∈G)->G'.Nodup->((ys=[]/\news=[])\/∃ad,p=some ad/\∀j u,news[j]?=some u->w.cell? (ad.add j)=some u)->vd P C o a w (zh U8 (zh U7 (zh U3 st))):=by
   intro G' news q1 q2 q3 q4;have hsub:Sim C S Fp2 (F++G') (zh U7 (zh U3 st)) a w:=k1.mem k1.below (λ_ _ _ h=>h) k1.still.cell k1.sbase (λt' k hk=>⟨rfl,(k1.free t' k hk).2.1⟩)
    (by rw[pU]at hxn⊢;exact⟨hxn.1,q3,λk hk k' hk'=>hxn.2.2 k hk k' (q2 k' hk')⟩)
    (λt' k hk=>k1.xd t' k (by simp at hk⊢;exact hk.imp id (q2 k))) (λk hk=>k1.xb k (by simp at hk⊢;exact hk.imp id (q2 k)))
   obtain⟨v,w',hrun,F',r1,r2,cs',r3,rfl⟩:=z4L (ty:=o.type) hel f1 v1 hzs hsub m1 hsub.xn (p:=p) (d:=d) q1 t4 q4 hlim ω hpl;have ⟨Fp'',hs'⟩:=WN r1 e4 r3 r2;refine zm ?_ hs';rw[<-m3,<-show a.eval x=.slice p ys.length d from n3]at hrun;simp[execOp,ho,resolve,invoke,builtin,hrun]
  rcases t5 with⟨rfl,rfl,rfl,rfl⟩|⟨b,arr,bty,l,G',rfl,q1,q2,q3,q4,rfl,q6⟩
  ·exact fin2 [] [] (by simp[zH]) ς ς (.inl ⟨rfl,rfl⟩)
  refine fin2 G' l q4 (λk hk=>by simp[hk]) (gA.1 n2).2 (.inr ⟨_,rfl,?_⟩);intro j u hj;rw[Addr.add_lit,UI];simp only[zU,q1];rw[<-q3,gB]at hj;split at hj
  ·simpa using hj
  cases hj
 cases e4
def zdq (hT:xH P tt)(h:Sim C S Fp [] st a w)  {t:Nat}{s x:Operand}(ho:o.op=.call { callee:=.builtin .append,args:=#[s,x],argTypes:=#[t,t] })
    {u:Unit} {R:TC} {U:List (Nat×Ent)} (e:z8R tt C.n o.dst t s x st=some (u,R,U)):vd P C o a w (zh U st):=by
  unfold z8R at e;have ⟨ts,_,hs,e1⟩:=bR (zy h) e;have ⟨tx,_,hx,e2⟩:=bR (zy h) e1;have ⟨y,_,_,e3⟩:=bR (QY h hx) e2;split at e3
  ·have ⟨_,e4⟩:=bV e3;split at e4
   ·exact z4N hT h ho hs hx e4
   exact z68 hT h ho e4
  exact z4N hT h ho hs hx e3
end
variable {parts:Array (Nat×Value)}{ps:Array (Nat×Operand)}
section
variable {C:Ctx}{S:zf}{Fp:Nat->TC}{X:TC}{st:St}{a:Act}{w:World}
def XI (S:zf)(h:Array Obj):List A->TE->TC->Prop
 |[],[],F=>F=[]
 |y::ys,v::vs,F=>∃F1 F2,F=F2++F1/\Has S h y v F1/\XI S h ys vs F2
 |_,_,_=>False
def z5p:∀{ps:List (Operand×Nat)} {Fp:Nat->TC} {X:TC} {st:St},Sim C S Fp X st a w->∀{xs:List A} {R:TC} {U:List (Nat×Ent)},z8d ps tt st=some (xs,R,U) ->
  ∃Fp' G,Sim C S Fp' (G++X) (zh U st) a w/\XI S w.heap xs (ps.map λp=>a.eval p.1) G
 |[],Fp,X,st,h,xs,R,U,e=>by cases e;exact⟨Fp,[],h,rfl⟩
 |(x,t)::ps,Fp,X,st,h,xs,R,U,e=>by simp[z8d]at e;have ⟨y,_,hx,e1⟩:=bR (zy h) e;obtain⟨z,R3,U3,R4,U4,h3,e2,rfl,rfl⟩:=bind_some e1;have ⟨Fp1,F,g1,g2⟩:=Ub h hx h3;obtain⟨bs,R5,U5,R6,U6,h5,e3,rfl,rfl⟩:=bind_some e2;have ⟨Fp2,G,k1,k2⟩:=z5p g1 h5;cases e3;refine⟨Fp2,G++F,?_,F,G,rfl,g2,k2⟩;rw[gC,zp,pP];exact k1
def z7C (off:Nat):∀(l:TE) (k:Nat) (arr:Array Value),(l.zipIdx k).foldl (λcs x=>cs.setIfInBounds (off+x.2) x.1) arr=Ur arr (off+k) l
 |[],k,arr=>by simp[List.zipIdx_nil,List.foldl_nil];rw[VD (by intro j v hj;simp at hj)]
 |v::l,k,arr=>by
  rw[List.zipIdx_cons,rX,z7C off l];apply nG;intro j;rw[qS,qS,rS];by_cases hj:off+k=j
  ·subst hj;rw[if_pos rfl,if_pos (pF _),if_neg ω];cases ha:arr[off+k]? with
   |none=>rw[if_neg (by intro hlt;rw[mB hlt]at ha;cases ha)];simp
   |some u=>rw[if_pos (pR.1 ha).1];simp
  rw[if_neg hj];by_cases h1:off+k<=j
  ·rw[if_pos ω,if_pos h1,show j-(off+k)=(j-(off+(k+1)))+1 from by omega,rR]
  rw[if_neg h1,if_neg ω]
def zc2 (c1 ci c2 cz:TE)(h:cz.length=ci.length):Ur (c1++ci++c2).toArray c1.length cz=(c1++cz++c2).toArray:=by
 have hs:z3G (c1++ci++c2).toArray 0 (c1++ci++c2):=λj v hj=>ξ hj
 have:=z2d hs h;rw[mC]at this;rw[<-this];apply nG;intro k;rw[qS];simp only[pQ,if_true,nR,rW];by_cases hk:k<(c1++cz++c2).length
 ·have hk':k<(c1++ci++c2).length:=by simp at hk ⊢;omega
  rw[pB hk',pB hk];rfl
 have hk':¬k<(c1++ci++c2).length:=by simp at hk⊢;omega
 rw[pL ω,pL ω];rfl
theorem z8K {h:Array Obj}{place:Nat->Option (Nat×Nat)}:∀{ps:List (Nat×A)} {vs:TE} {es:List A} {l:TE} {F G:TC},
  zH S h es l F->(G++F).Nodup->XI S h (ps.map (·.2)) vs G ->
  (∀p∈ps,∃y,es[p.1]?=some y/\p.2.size=y.size/\(p.2.isAgg=true\/p.2.size=1)/\(∀fs,p.2≠.tup fs)) ->
  (∀i y,es[i]?=some y->(∃p∈ps,p.1=i)->place i=some (A.sizes (es.take i),y.size)) ->
  ∃l' F',Instr.fill place l.toArray ((ps.map (·.1)).zip vs)=some l'.toArray/\zH S h (z2N es ps) l' F'/\F'.Nodup/\∀k∈F',k∈G++F
 |[],[],es,l,F,G,hc,hn,hh,_,_=>by simp only[rB,XI]at hh;subst hh;exact⟨l,F,rfl,hc,ξ hn,λk hk=>ξ hk⟩
 |[],_::_,_,_,_,_,_,_,hh,_,_=>by simp[XI]at hh
 |p::ps,[],_,_,_,_,_,_,hh,_,_=>by simp[XI]at hh
 |(i,z)::ps,v::vs,es,l,F,G,hc,hn,hh,hp,hpl=>by
  simp only[gO,XI]at hh;obtain⟨F1,F2,rfl,q1,q2⟩:=hh;have ⟨y,hy,hsz,hag,hnt⟩:=hp (i,z) ς;have ⟨cz,z1,z2,z3⟩:=q1.cells hnt;obtain⟨c1,ci,c2,G1,Gi,G2,rfl,rfl,hl1,hxi,hup⟩:=zH.split hc hy;have hlen:cz.length=ci.length:=by rw[z1.len,hxi.len];exact hsz
  have hcl:v.cells=cz.toArray:=by rw[z3];exact UH z1.na (hag.imp id (λh=>by rw[z1.len];exact h))
  have hpi:=hpl i y hy ⟨(i,z),ς,rfl⟩;have hown:=hc.own;have hset:=hup S h z cz F1 (λ_ _ _ h=>h) (λk hk=>⟨rfl,(hown k (by rcases hk with hk|hk<;>simp[hk])).2.1⟩) z1;rw[pP,pU]at hn;have ⟨n1,n2,n3⟩:=hn;rw[pU]at n2;have ⟨n4,n5,n6⟩:=n2;rw[pP,pU]at n5;have ⟨m1,m2,m3⟩:=n5;rw[pU]at m2;have ⟨m4,m5,m6⟩:=m2;have hnod:(F2++(G1++F1++G2)).Nodup:=by
   rw[pU];refine⟨n1,?_,?_⟩
   ·rw[pP,pU];refine⟨m1,?_,?_⟩
    ·rw[pU];exact⟨n4,m5,λk hk k' hk'=>n6 k hk k' (by simp[hk'])⟩
    rintro k hk k' hk' rfl;rcases pD.1 hk' with hk'|hk'
    ·exact n6 k hk' k (by simp[hk]) rfl
    exact m3 k hk k (by simp[hk']) rfl
   rintro k hk k' hk' rfl;refine n3 k hk k ?_ rfl;simp only[pD]at hk' ⊢;rcases hk' with(hk'|hk')|hk'
   ·exact .inr (.inl (.inl hk'))
   ·exact .inl hk'
   exact .inr (.inr hk')
  have hsizes:∀j,A.sizes ((es.set i z).take j)=A.sizes (es.take j):=by
   intro j;rw[A.sizes_eq,A.sizes_eq];congr 1;apply gW;intro k;simp only[gG,gB,s7];split
   ·split
    ·rename_i hik;subst hik;split
     ·rw[hy];simp[hsz]
     rename_i hlt;exact absurd (pC.1 hy).1 hlt
    rfl
   rfl
  have hgetset:∀(j:Nat) (u:A),(es.set i z)[j]?=some u->∃u':A,es[j]?=some u'/\u.size=u'.size:=by
   intro j u hj;rw[s7]at hj;split at hj
   ·rename_i hij;subst hij;split at hj
    ·cases hj;exact⟨y,hy,hsz⟩
    cases hj
   exact⟨u,hj,rfl⟩
  have ih:=z8K (place:=place) (ps:=ps) (vs:=vs) (es:=es.set i z) (l:=c1++cz++c2) (F:=G1++F1++G2) (G:=F2) hset hnod q2
   (λp hp'=>by
    have ⟨y',hy',h1,h2,h3⟩:=hp p (by simp[hp']);by_cases hij:i=p.1
    ·refine⟨z,?_,?_,h2,h3⟩
     ·rw[<-hij,mD (pC.1 hy).1]
     rw[h1,hsz];rw[<-hij,hy]at hy';simp only[Option.some.injEq]at hy';rw[<-hy']
    exact⟨y',by rw[gS hij];exact hy',h1,h2,h3⟩)
   (λj u hj hex=>by have ⟨u',hu',hus⟩:=hgetset j u hj;rw[hsizes,hus];refine hpl j u' hu' ?_;have ⟨p,hp1,hp2⟩:=hex;exact⟨p,by simp[hp1],hp2⟩)
  have ⟨l',F',r1,r2,r3,r4⟩:=ih;refine⟨l',F',?_,by simpa only[z2N] using r2,r3,?_⟩
  ·simp only[gO,List.zip_cons_cons,Instr.fill,hpi,hcl,s6];have hcond:(decide (cz.length≠y.size) || decide (A.sizes (es.take i)+cz.length>(c1++ci++c2).length))=false:=by
    have h1:cz.length=y.size:=by rw[z1.len];exact hsz
    have h2:A.sizes (es.take i)+cz.length<=(c1++ci++c2).length:=by rw[<-hl1,hlen];simp
    simp[h1];rw[<-h1];simpa using h2
   rw[hcond];simp only[gP,if_false];have hfold:Array.foldl (λcs x=>cs.setIfInBounds (A.sizes (List.take i es)+x.2) x.1) (c1++ci++c2).toArray cz.toArray.zipIdx=(c1++cz++c2).toArray:=by rw[<-Array.foldl_toList];simp only[Array.toList_zipIdx];rw[z7C (A.sizes (List.take i es)) cz 0,mV,<-hl1];exact zc2 c1 ci c2 cz hlen
   rw[hfold];exact r1
  intro k hk;have:=r4 k hk;simp only[pD]at this⊢;rcases this with h|(h|h)|h
  ·exact .inl (.inl h)
  ·exact .inr (.inl (.inl h))
  ·exact .inl (.inr h)
  exact .inr (.inr h)
def z8t (es:List A)(ps:List (Nat×A)):Bool :=
 ps.all λp=>match es[p.1]? with|some y=>p.2.size==y.size&&(p.2.isAgg || p.2.size==1) && !(match p.2 with|.tup _=>true|_=>false)|none=>false
def z4u {ps:List (Nat×A)}(h:z8t es ps=true):∀p∈ps,∃y,es[p.1]?=some y/\p.2.size=y.size/\(p.2.isAgg=true\/p.2.size=1)/\(∀fs,p.2≠.tup fs):=by
 intro p hp;have:=gM.1 h p hp;split at this
 ·rename_i y hy;simp[pN,beq_iff_eq,mN]at this;refine⟨y,hy,this.1.1,this.1.2,?_⟩;intro fs hf;rw[hf]at this;simp at this
 cases this
def UK (tt:TT)(n:Fr)(dst:TD)(t len:Nat)(ps:List (Nat×Operand)):SM Unit:=ofO (slc tt t)>>=λq=>ofO q.2.zero>>=λz=>z8d (ps.map λp=>(p.2,q.1)) tt>>=λxs=>
 if z8t (List.replicate len z) ((ps.map (·.1)).zip xs)=true/\len*q.2.size<=16777216/\len<=lim then
  wrT n dst (.own (.osl q.2.size true (z2N (List.replicate len z) ((ps.map (·.1)).zip xs))))
 else zF
def QI:∀(ps:List (Nat×A)) (es:List A),(z2N es ps).length=es.length
 |[],_=>rfl
 |(i,a)::ps,es=>by simp[z2N,QI ps]
def z2H:∀{ps:List (Operand×Nat)} {st:St} {xs:List A} {R:TC} {U:List (Nat×Ent)},z8d ps tt st=some (xs,R,U)->xs.length=ps.length
 |[],st,xs,R,U,e=>by obtain⟨rfl,_,_⟩:=qJ e;rfl
 |(x,t)::ps,st,xs,R,U,e=>by simp[z8d]at e;obtain⟨y,R1,U1,R2,U2,h1,e1,rfl,rfl⟩:=bind_some e;obtain⟨z,R3,U3,R4,U4,h3,e2,rfl,rfl⟩:=bind_some e1;obtain⟨bs,R5,U5,R6,U6,h5,e3,rfl,rfl⟩:=bind_some e2;obtain⟨rfl,_,_⟩:=qJ e3;simp[z2H h5]
def JZ {sz len i:Nat}(hz:z.size=sz)(hi:i<=len):A.sizes ((List.replicate len z).take i)=i*sz:=by rw[List.take_replicate,mM hi,A.sizes_const (sz:=sz) (λx hx=>by rw[mZ hx];exact hz),mR]
def z48 {t len e:Nat}   (ht:P.underlying t=some (.slice e))(hi:P.info? e=some f)(hz:f.zero=some zv)(hlim:len*f.size<=16777216){parts:Array (Nat×Value)}{arr:Array Value}
  (hf:Instr.fill (λi=>some (i*f.size,f.size)) (madeCells zv.cells (len*f.size)) parts.toList=some arr) (w:World) :
  (Instr.buildSlice t len parts).run P w=.ok (.slice (some ⟨w.heap.size,0,none⟩) len len) (w.alloc (.cells arr e)):=by
 have hlim':¬(16777216<len*f.size):=ω
 by_cases h0:len*f.size=0
 ·have hm:madeCells zv.cells (len*f.size)=#[]:=by rw[h0];simp[madeCells]
  rw[hm]at hf;simp[Instr.buildSlice,run_underlying ht,Go.sizeOf,typeInfo,hi,h0,Array.range_zero',hf,newRow]
 unfold madeCells at hf;simp[Instr.buildSlice,run_underlying ht,Go.sizeOf,typeInfo,hi,hlim',h0,zeroValue,hz,hf,newRow]
def UJ {P:Program}  (hT:xH P tt)(h:Sim C S Fp [] st a w)  {t len:Nat}  (ho:o.op=.buildSlice t len ps){u:Unit}{R:TC}{U:List (Nat×Ent)}
  (e:UK tt C.n o.dst t len ps.toList st=some (u,R,U)):vd P C o a w (zh U st):=by
 have ⟨⟨el,i⟩,_,hq,e⟩:=bO e;have ⟨hel,hi⟩:=z1y hT hq;have ⟨z,_,hz,e⟩:=bO e;have ⟨f,zv,f1,f2,f3,v1,hzs,v2,v3⟩:=zap hT hi hz;obtain⟨xs,R1,U1,R2,U2,h1,e1,rfl,rfl⟩:=bind_some e;have hxl:=z2H h1;obtain⟨Fp',G,g1,g2⟩:=z5p h h1;rw[zp];have ⟨⟨hok,hlim,hlen0⟩,e2⟩:=bI e1;have hps:=z4u hok;have hmap2:((ps.toList.map (·.1)).zip xs).map (·.2)=xs:=List.map_snd_zip (by rw[hxl];simp);have hmap1:((ps.toList.map (·.1)).zip xs).map (·.1)=ps.toList.map (·.1):=rT (by rw[hxl];simp);have hc0:=Wz (v3 S w.heap) len;have hGn:=g1.xn;rw[gC]at hGn;obtain⟨l',F',r1,r2,r3,r4⟩:=z8K (h:=w.heap) (place:=λi=>some (i*f.size,f.size)) hc0 (ξ hGn) (by rw[hmap2];exact g2) hps (by intro j y hj _;have hj':=pC.1 hj;obtain⟨hjl,hjz⟩:=hj';simp[mR]at hjl;simp[List.getElem_replicate]at hjz;subst hjz;rw[JZ (sz:=f.size) (by rw[v2,f2]) ω,v2,f2])
 have hszs:∀x∈z2N (List.replicate len z) ((ps.toList.map (·.1)).zip xs),x.size=i.size:=by
  have gen:∀(qs:List (Nat×A)) (es:List A),(∀x∈es,x.size=i.size)->(∀q∈qs,q.2.size=i.size)->∀x∈z2N es qs,x.size=i.size:=by
   intro qs;induction qs with
   |nil=>intro es h1 _ x hx;exact h1 x hx
   |cons q qs ih=>
    intro es h1 h2;simp[z2N];refine ih _ (λx hx=>?_) (λq' hq'=>h2 q' (by simp[hq']));rcases List.mem_or_eq_of_mem_set hx with hx|rfl
    ·exact h1 x hx
    exact h2 _ ς
  refine gen _ _ (λx hx=>by rw[mZ hx];exact v2) (λq hq=>?_);obtain⟨y,hy,hs,_⟩:=hps q hq;rw[hs];have:=pT hy;rw[mZ this];exact v2
 have hlen':l'.length=len*i.size:=by rw[r2.len,A.sizes_const hszs,QI,mR]
 have hsub:Sim C S Fp' (F' ++ []) (zh U1 st) a w:=g1.mem g1.below (λ_ _ _ h=>h) g1.still.cell g1.sbase (λt' k hk=>⟨rfl,(g1.free t' k hk).2.1⟩) (ξ r3)
  (λt' k hk=>g1.xd t' k (by have:=r4 k (ξ hk);simpa using this)) (λk hk=>g1.xb k (by have:=r4 k (ξ hk);simpa using this))
 have hsl:(z2N (List.replicate len z) ((ps.toList.map (·.1)).zip xs)).length=len:=by rw[QI,mR]
 have hmx:len<=maxLen:=by unfold maxLen;have:len<=4294967296:=hlen0;omega
 obtain⟨k1,k2,k3⟩:=z8r hsub r2 r3 el (sz:=i.size) (c:=len) (t:=true) (λ_=>hsl.symm) ω hmx hszs (arr:=l'.toArray) (by simp[hlen']) (by rw[hsl,<-hlen'];simp) _ rfl;obtain⟨Fp'',hs⟩:=WN k1 e2 k2 k3;refine zm ?_ hs;have hfill:Instr.fill (λi=>some (i*f.size,f.size)) (madeCells zv.cells (len*f.size)) (ps.toList.map λx=>(x.1,a.eval x.2))=some l'.toArray:=by
  rw[hmap1]at r1;have e1:(ps.toList.map (·.1)).zip ((ps.toList.map λp=>(p.2,el)).map λp=>a.eval p.1)=ps.toList.map λx=>(x.1,a.eval x.2):=by rw[mP,List.zip_map'];rfl
  rw[e1]at r1;have e2:madeCells zv.cells (len*f.size)=(List.replicate len zv.cells.toList).flatten.toArray:=by have:=Ke zv.cells len len (pF _);rw[hzs,nP (by simp[madeCells])]at this;rw[<-this]
  rw[e2];exact r1
 have hpl:(ps.map λx=>match x with|(i,x)=>(i,a.eval x)).toList=ps.toList.map λx=>(x.1,a.eval x.2):=ς
 have hrun:=z48 (P:=P) hel f1 v1 (by rw[f2];exact hlim) (parts:=ps.map λx=>match x with|(i,x)=>(i,a.eval x)) (by rw[hpl];exact hfill) w;simp[execOp,ho,hrun,Result.andThen_ok];simp[zL,hsl]
def Ve (tt:TT)(t:Nat)(i:Nat):Option (Nat×Nat) :=
 match tt t with
 |some ⟨.struct offs,_,_,_,_⟩=>offs[i]?
 |some ⟨.array _ e,_,_,_,_⟩=>(tt e).map λj=>(i*j.size,j.size)
 |_=>none
def zfs (tt:TT)(t:Nat)(zs:List A)(ps:List (Nat×A)):Bool :=
 ps.all λp=>match zs[p.1]? with|some y=>Ve tt t p.1==some (A.sizes (zs.take p.1),y.size)|none=>false
def z7s:TK->Bool
 |.struct _=>true
 |_=>false
def zdd (tt:TT)(n:Fr)(dst:TD)(t:Nat)(ps:List (Nat×Operand)):SM Unit :=
 match tt t with
 |some i=>
  match i.zero with
  |some (.agg zs)=>do
   let xs<-z8d (ps.map λp=>(p.2,0)) tt
   if z8t zs ((ps.map (·.1)).zip xs)=true/\zfs tt t zs ((ps.map (·.1)).zip xs)=true/\i.kind.isAgg=true/\((Ve tt t 0).isSome=true\/z7s i.kind=true) then
    wrT n dst (mkT (.agg (z2N zs ((ps.map (·.1)).zip xs))))
   else zF
  |_=>zF
 |none=>zF
def z9g {g:α->Sem β}{q:α->β}:∀(l:List α),(∀x∈l,∀w,(g x).run P w=.ok (q x) w)->∀w,(l.mapM g).run P w=.ok (l.map q) w
 |[],_,w=>ς
 |x::l,h,w=>by have ih:=z9g l (λx hx=>h x (by simp[hx])) w;rw[List.mapM_cons,Sem.run_bind,h x ς w];simp[Result.andThen_ok,ih,gO]
def zbD {f:Field}  (h:P.info? f.type=some i)(w:World):(do pure (f.offset,<-Go.sizeOf f.type):Sem (Nat×Nat)).run P w=.ok (f.offset,P.cellsOf f.type) w:=by simp[Go.sizeOf,typeInfo,h,Program.cellsOf]
def zbH (hT:xH P tt)  {i:TI}(ht:tt t=some i)(hag:i.kind.isAgg=true)   (hi:P.info? t=some f)(hz:f.zero=some zv){parts:Array (Nat×Value)}{arr:Array Value}
  (hf:Instr.fill (Ve tt t) zv.cells parts.toList=some arr) (hne:(Ve tt t 0).isSome=true\/∃offs,i.kind=.struct offs) (w:World) :
  (Instr.build t parts).run P w=.ok (.agg arr) w:=by
 have hk:=(hT _ _ ht).kind;cases hkd:i.kind with
 |struct offs=>
  rw[hkd]at hk;have ⟨fields,g1,g2,g3⟩:=hk;have hpl:Ve tt t=λj=>(fields.map λf=>(f.offset,P.cellsOf f.type))[j]?:=by funext j;unfold Ve;have ⟨kd,a1,a2,a3,a4⟩:=i;simp only at hkd;subst hkd;simp only[ht];rw[<-g2];simp
  have hm:∀w,(fields.mapM (λf=>do pure (f.offset,<-Go.sizeOf f.type):Field->Sem (Nat×Nat))).run P w=.ok (fields.map λf=>(f.offset,P.cellsOf f.type)) w:=by intro w;rw[Array.mapM_eq_mapM_toList,Sem.run_map,z9g fields.toList (λf hf w=>zbD (g3 f hf).choose_spec w)];simp only[Result.andThen_ok];congr 1;apply Array.ext';simp
  rw[hpl]at hf;have hzv:∀w,(zeroValue t).run P w=.ok zv w:=λw=>by simp[zeroValue,typeInfo,hi,hz]
  unfold Instr.build;rw[Sem.run_bind,hzv];simp only[Result.andThen_ok];rw[Sem.run_bind,run_underlying g1];simp only[Result.andThen_ok];rw[Sem.run_bind,hm];simp only[Result.andThen_ok,hf];rfl
 |array m e=>
  rw[hkd]at hk;have g1:P.underlying t=some (.array m e):=hk;have ⟨kd,a1,a2,a3,a4⟩:=i;simp only at hkd;subst hkd;cases he:tt e with
  |none=>
   rcases hne with h|⟨_,h⟩
   ·simp[Ve,ht,he]at h
   cases h
  |some j=>
   have hpl:Ve tt t=λk=>some (k*j.size,j.size):=by funext k;simp[Ve,ht,he]
   rw[hpl]at hf;have hzv:∀w,(zeroValue t).run P w=.ok zv w:=λw=>by simp[zeroValue,typeInfo,hi,hz]
   unfold Instr.build;rw[Sem.run_bind,hzv];simp only[Result.andThen_ok];rw[Sem.run_bind,run_underlying g1];simp only[Result.andThen_ok];rw[Sem.run_bind,qP hT he];simp only[Result.andThen_ok,hf];rfl
 |_=>rw[hkd]at hag;simp[TK.isAgg]at hag
theorem zgl {P:Program}  (hT:xH P tt)(h:Sim C S Fp [] st a w)    (ho:o.op=.build t ps){u:Unit}{R:TC}{U:List (Nat×Ent)}
  (e:zdd tt C.n o.dst t ps.toList st=some (u,R,U)):vd P C o a w (zh U st):=by
 unfold zdd at e;cases ht:tt t with
 |none=>simp[ht]at e;cases e
 |some i=>
  simp[ht]at e;cases hz:i.zero with
  |none=>simp[hz]at e;cases e
  |some z=>
   cases z with
   |agg zs=>
    simp[hz]at e;obtain⟨f,f1,f2,f3,f4⟩:=(hT _ _ ht).info;obtain⟨zv,v1,v2,v3⟩:=f4 _ hz;obtain⟨xs,R1,U1,R2,U2,h1,e1,rfl,rfl⟩:=bind_some e;have hxl:=z2H h1;obtain⟨Fp',G,g1,g2⟩:=z5p h h1;rw[zp];split at e1
    ·rename_i hcond;obtain⟨hok,hpl,hag,hne⟩:=hcond;have hps:=z4u hok;have hmap2:((ps.toList.map (·.1)).zip xs).map (·.2)=xs:=List.map_snd_zip (by rw[hxl];simp);have hmap1:((ps.toList.map (·.1)).zip xs).map (·.1)=ps.toList.map (·.1):=rT (by rw[hxl];simp);have hc0:zH S w.heap zs zv.cells.toList []:=by have:=v3 S w.heap;simpa only[zD] using this
     have hGn:=g1.xn;rw[gC]at hGn;obtain⟨l',F',r1,r2,r3,r4⟩:=z8K (h:=w.heap) (place:=Ve tt t) hc0 (ξ hGn) (by rw[hmap2];exact g2) hps (by intro j y hj hex;obtain⟨p,hp1,hp2⟩:=hex;have:=gM.1 hpl p hp1;rw[hp2,hj]at this;simpa using this)
     have hsub:Sim C S Fp' (F' ++ []) (zh U1 st) a w:=g1.mem g1.below (λ_ _ _ h=>h) g1.still.cell g1.sbase (λt' k hk=>⟨rfl,(g1.free t' k hk).2.1⟩) (ξ r3)
      (λt' k hk=>g1.xd t' k (by have:=r4 k (ξ hk);simpa using this)) (λk hk=>g1.xb k (by have:=r4 k (ξ hk);simpa using this))
     obtain⟨Fp'',hs⟩:=z4k hsub e1 (v:=.agg l'.toArray) (.inr ⟨l',by simp[zD];exact r2,r3,rfl⟩);refine zm ?_ hs;have e2:(ps.toList.map (·.1)).zip ((ps.toList.map λp=>(p.2,0)).map λp=>a.eval p.1)=ps.toList.map λx=>(x.1,a.eval x.2):=by rw[mP,List.zip_map'];rfl
     rw[hmap1,e2]at r1;have hpl2:(ps.map λx=>match x with|(i,x)=>(i,a.eval x)).toList=ps.toList.map λx=>(x.1,a.eval x.2):=ς
     have hrun:=zbH (P:=P) hT ht hag f1 v1 (parts:=ps.map λx=>match x with|(i,x)=>(i,a.eval x)) (by rw[hpl2];exact r1) (hne.imp id (λh=>by
      unfold z7s at h;split at h
      ·rename_i offs hk;exact⟨offs,hk⟩
      cases h)) w
     simp[execOp,ho,hrun,Result.andThen_ok]
    cases e1
   |_=>simp[hz]at e;cases e
end
end Go.Own
