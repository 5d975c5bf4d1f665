/- -/
import Derived.WalkKit
import Derived.RangeFuncWrites
import Derived.RangeFuncCalls
import Derived.OrdersIn
import Derived.TacticsIn
set_option linter.unusedVariables false
set_option linter.unusedSimpArgs false
namespace Go
abbrev p7:=@List.getElem?_eq_getElem
abbrev p8:=@List.getElem?_eq_some_iff
abbrev p9:=@List.nil_append
abbrev pA:=@List.mem_append
abbrev pB:=@Int.toNat_natCast
abbrev pC:=@Nat.le_refl
abbrev pD:=@List.mem_cons
abbrev pE:=@Nat.le_trans
abbrev pF:=@List.getElem?_append_right
abbrev pG:=@List.getElem?_append_left
abbrev pH:=@Nat.lt_or_ge
abbrev pI:=@List.getElem_mem
abbrev pJ:=@Bool.and_eq_true
abbrev pK:=@Array.getElem?_eq_some_iff
abbrev pL:=@List.append_assoc
abbrev pM:=@List.nodup_append
abbrev pN:=@List.length_append
abbrev pO:=@List.mem_of_getElem?
abbrev pQ:=@List.getElem?_eq_none
abbrev pR:=@List.mem_singleton
abbrev pT:=@Nat.zero_le
abbrev pU:=@List.length_take
abbrev pV:=@List.getElem?_take
abbrev pW:=@List.mem_map
abbrev pX:=@List.not_mem_nil
abbrev pY:=@List.nodup_cons
abbrev pZ:=@Option.map_eq_some_iff
abbrev hU:=@List.append_nil
abbrev hZ:=@List.take_add_one
abbrev gA:=@Option.getD_some
abbrev gB:=@Nat.lt_succ_self
abbrev gC:=@List.mem_of_mem_take
abbrev gD:=@List.length_map
abbrev gE:=@Array.getD_eq_getD_getElem?
abbrev gF:=@Nat.mul_le_mul_right
abbrev gG:=@Bool.false_eq_true
abbrev gH:=@Option.map_some
abbrev gI:=@List.length_cons
abbrev gJ:=@List.all_eq_true
abbrev gK:=@List.getElem?_set_ne
abbrev gL:=@List.mem_iff_getElem?
abbrev gM:=@List.map_cons
abbrev gN:=@Nat.zero_add
abbrev gO:=@Classical.byContradiction
abbrev gP:=@Bool.not_true
abbrev gQ:=@List.cons_append
abbrev gR:=@Nat.le_of_ble_eq_true
abbrev gS:=@Array.getElem?_eq_getElem
abbrev gT:=@List.getElem?_map
abbrev gU:=@List.mem_range
abbrev gV:=@List.take_length
abbrev gW:=@List.getElem?_set_self
abbrev gX:=@List.ext_getElem?
abbrev gY:=@List.mem_flatMap
abbrev gZ:=@List.getElem?_replicate
abbrev mn:=@Nat.add_mul
abbrev mA:=@Array.getElem?_push
abbrev mB:=@List.drop_eq_getElem_cons
abbrev mC:=@List.pairwise_iff_getElem
abbrev mD:=@List.take_append_drop
abbrev mE:=@List.mem_filter
abbrev mF:=@List.map_append
abbrev mG:=@List.length_eq_one_iff
abbrev mH:=@Nat.min_eq_left
abbrev mI:=@Bool.or_eq_true
abbrev mJ:=@Array.getElem?_toList
abbrev mK:=@List.length_reverse
abbrev mL:=@List.drop_eq_nil_of_le
abbrev mM:=@Bool.not_false
abbrev mN:=@List.length_replicate
abbrev mO:=@List.map_map
abbrev mP:=@Nat.mul_le_mul
abbrev mQ:=@List.getElem?_drop
abbrev mR:=@List.eq_of_mem_replicate
abbrev mS:=@List.length_filter_le
abbrev mT:=@Nat.add_sub_cancel_left
abbrev mU:=@List.eq_nil_of_length_eq_zero
abbrev mV:=@Array.ext_getElem?
abbrev mW:=@List.pairwise_cons
abbrev mX:=@List.drop_drop
abbrev mY:=@Nat.add_zero
abbrev mZ:=@Bool.cond_eq_ite
abbrev nA:=@Int.toNat_of_nonneg
abbrev nB:=@Array.getElem?_modify
abbrev nC:=@Nat.le_succ_of_le
abbrev nD:=@Nat.lt_trichotomy
abbrev nE:=@Int.natCast_mul
abbrev nF:=@List.mem_cons_of_mem
abbrev nG:=@Nat.sub_zero
abbrev nH:=@List.take_of_length_le
abbrev nI:=@List.replicate_succ
abbrev nJ:=@List.length_pos_iff
abbrev nK:=@List.map_congr_left
abbrev nL:=@Array.empty_append
abbrev nM:=@Int.natCast_nonneg
abbrev nN:=@List.pairwise_append
abbrev nO:=@Int.eq_ofNat_of_zero_le
abbrev nP:=@List.map_nil
abbrev nQ:=@Bool.false_or
abbrev nR:=@Array.getElem?_append_left
abbrev nT:=@List.set_cons_zero
abbrev nU:=@List.contains_iff_mem
abbrev nV:=@List.headD_cons
abbrev nW:=@Nat.sub_self
abbrev nX:=@Ne.symm
abbrev nY:=@List.flatMap_cons
abbrev nZ:=@List.reverse_cons
abbrev r7:=@Array.getElem?_setIfInBounds
abbrev r8:=@List.take_take
abbrev r9:=@Array.getElem?_eq_none
abbrev ra:=@Nat.eq_zero_or_pos
abbrev rb:=@List.getElem?_toArray
abbrev rc:=@List.foldl_cons
abbrev re:=@List.range_succ
abbrev rf:=@List.Pairwise.sublist
abbrev rg:=@List.size_toArray
abbrev rh:=@List.getElem?_eq_none_iff
abbrev ri:=@List.mem_append_left
abbrev rj:=@List.getElem?_of_mem
abbrev rm:=@Nat.one_mul
abbrev rn:=@Nat.mod_eq_of_lt
abbrev ro:=@Option.isSome_iff_exists
abbrev rp:=@List.map_fst_zip
abbrev rq:=@Nat.succ_mul
abbrev rr:=@List.any_eq_true
abbrev rt:=@List.Pairwise.imp_of_mem
abbrev ru:=@List.take_succ_cons
abbrev rz:=@List.getElem?_cons_succ
abbrev rA:=@List.getElem?_cons_zero
abbrev rB:=@List.mem_singleton_self
abbrev rC:=@Bool.and_self
abbrev rD:=@Bool.true_and
abbrev rE:=@Bool.and_true
abbrev rF:=@List.mem_cons_self
abbrev rG:=@List.getElem?_set
abbrev rH:=@Bool.not_eq_true'
abbrev rI:=@List.pairwise_map
abbrev rJ:=@List.mem_append_right
abbrev rK:=@List.countP_le_length
abbrev rN:=@Nat.mul_comm
abbrev rO:=@List.eq_nil_or_concat
abbrev rP:=@List.set_append_right
abbrev rQ:=@List.countP_cons
abbrev rR:=@Nat.lt_irrefl
abbrev rS:=@List.getD_eq_getElem?_getD
abbrev rT:=@Int.tdiv_eq_ediv_of_nonneg
abbrev rU:=@Array.length_toList
abbrev rV:=@List.getElem?_range
abbrev rW:=@List.length_nil
abbrev rX:=@List.length_set
abbrev rY:=@Int.tmod_nonneg
abbrev rZ:=@List.set_cons_succ
abbrev s5:=@Nat.add_comm
abbrev s6:=@Int.tmod_lt_of_pos
abbrev s7:=@Nat.pow_succ
end Go
namespace Go.Own
inductive Q5 where
 | deref
 | fld (i:Nat)
 | idx (i:Nat)
 deriving DecidableEq
abbrev zo:=Nat->Nat->Option Value
structure Opq where
 holds:zo->Array Obj->Value->List Nat->Prop
 multi:Bool:=false
 one:∀{S:zo} {h:Array Obj} {v:Value} {F:List Nat},holds S h v F->v.oneCell'=true\/multi=true/\∃vs,v=.tuple vs
 frame:∀{S S':zo} {h h':Array Obj} {v:Value} {F:List Nat},(∀b o u,S b o=some u->S' b o=some u)->(∀k∈F,h'[k]?=h[k]?/\∀o,S' k o=none)->holds S h v F->holds S' h' v F
 own:∀{S:zo} {h:Array Obj} {v:Value} {F:List Nat},holds S h v F->∀k∈F,k<h.size/\∀o,S k o=none
 idx:Nat
structure z8W where
 holds:zo->Array Obj->Value->List Nat->Prop
 one:∀{S:zo} {h:Array Obj} {v:Value} {F:List Nat},holds S h v F->v.oneCell'=true
 frame:∀{S S':zo} {h h':Array Obj} {v:Value} {F:List Nat},(∀b o u,S b o=some u->S' b o=some u)->(∀k∈F,h'[k]?=h[k]?/\∀o,S' k o=none)->holds S h v F->holds S' h' v F
 own:∀{S:zo} {h:Array Obj} {v:Value} {F:List Nat},holds S h v F->∀k∈F,k<h.size/\∀o,S k o=none
 idx:Nat
def z8W.q (o:z8W):Opq:=⟨o.holds,false,λh=>.inl (o.one h),o.frame,o.own,o.idx⟩
def Opq.single (o:Opq)(h:o.multi=false):z8W:=⟨o.holds,λq=>(o.one q).resolve_right (λk=>by rw[h]at k;simp at k),o.frame,o.own,o.idx⟩
structure Dpq where
 holds:zo->Value->Prop
 one:∀{S:zo} {v:Value},holds S v->v.oneCell'=true
 mono:∀{S S':zo} {v:Value},(∀b o u,S b o=some u->S' b o=some u)->holds S v->holds S' v
inductive A where
 | atom (v:Value)
 | fn (f:Nat) (caps:List A)
 | agg (fs:List A)
 | tup (fs:List A)
 | sl (sz:Nat) (t:Bool) (xs:List A)
 | sptr (x:A)
 | osl (sz:Nat) (t:Bool) (es:List A)
 | box (x:A)
 | dead (n:Nat)
 | opq (o:Opq)
 | dop (o:Dpq)
mutual
def A.size:A->Nat
 | .agg fs=>A.sizes fs
 | .dead n=>n
 | .tup _=>0
 | _=>1
def A.sizes:List A->Nat
 | []=>0
 | a::as_=>a.size+A.sizes as_
end
mutual
def A.isD:A->Bool
 | .agg fs=>A.areD fs
 | .atom _|.fn _ _|.sl _ _ _|.sptr _|.dop _=>true
 | _=>false
def A.areD:List A->Bool
 | []=>true
 | a::as_=>a.isD&&A.areD as_
end
mutual
def A.plain:A->Bool
 | .agg fs=>A.plains fs
 | .opq o=>!o.multi
 | _=>true
def A.plains:List A->Bool
 | []=>true
 | a::as_=>a.plain&&A.plains as_
end
def zqc:Value->Bool
 | .agg _=>false
 | _=>true
variable {v:Value}
theorem z2E (h:v.oneCell'=true):zqc v=true:=by cases v <;> first|rfl|(simp[Value.oneCell']at h)
mutual
def A.live:A->Bool
 | .agg fs=>A.lives fs
 | .osl _ _ es=>A.lives es
 | .box x=>x.live
 | .dead _=>false
 | .opq _=>false
 | .tup _=>false
 | _=>true
def A.lives:List A->Bool
 | []=>true
 | a::as_=>a.live&&A.lives as_
end
mutual
def A.shut:A->A
 | .agg fs=>.agg (A.shuts fs)
 | .osl sz t es=>.sl sz t (A.shuts es)
 | .box x=>.sptr x.shut
 | x=>x
def A.shuts:List A->List A
 | []=>[]
 | a::as_=>a.shut::A.shuts as_
end
mutual
def A.loose:A->A
 | .agg fs=>.agg (A.looses fs)
 | .tup fs=>.tup (A.looses fs)
 | .sl sz _ xs=>.sl sz false (A.looses xs)
 | .osl sz _ es=>.osl sz false (A.looses es)
 | .sptr x=>.sptr x.loose
 | .box x=>.box x.loose
 | .fn f caps=>.fn f (A.looses caps)
 | .atom v=>.atom v
 | .dead n=>.dead n
 | .opq o=>.opq o
 | .dop o=>.dop o
def A.looses:List A->List A
 | []=>[]
 | a::as_=>a.loose::A.looses as_
end
def yj (h:Array Obj)(b o:Nat):Option Value :=
 match h[b]? with
 | some (.cells c _ _)=>c[o]?
 | _=>none
def zbH (S:zo)(b o:Nat)(l:List Value):Prop:=∀j v,l[j]?=some v->S b (o+j)=some v
mutual
def Rep (S:zo):A->List Value->Prop
 | .atom v,cs=>cs=[v]/\v.oneCell'=true
 | .fn f caps,cs=>∃vs,yK S caps vs/\(∀c∈caps,c.size=1/\∀fs,c≠.agg fs)/\cs=[.func (.func f) #[] vs.toArray]
 | .agg fs,cs=>yK S fs cs
 | .sl sz t xs,cs=>∃p c,cs=[.slice p xs.length c]/\(t=true->c=xs.length)/\xs.length<=c/\(∀x∈xs,x.size=sz) /\
   (xs=[]\/∃b o l,p=some ⟨b,o,none⟩/\yK S xs l/\zbH S b o l)
 | .sptr x,cs=>∃b o l,cs=[.pointer (some ⟨b,o,none⟩)]/\Rep S x l/\zbH S b o l
 | .dop q,cs=>∃v,cs=[v]/\q.holds S v
 | _,_=>False
def yK (S:zo):List A->List Value->Prop
 | [],cs=>cs=[]
 | a::as_,cs=>∃c1 c2,cs=c1++c2/\Rep S a c1/\yK S as_ c2
end
mutual
def zU (S:zo)(h:Array Obj):A->List Value->List Nat->Prop
  | .osl sz t es,cs,F=>∃p c,cs=[.slice p es.length c]/\(t=true->c=es.length)/\es.length<=c/\c<=maxLen/\(∀x∈es,x.size=sz) /\
      ((es=[]/\c=0/\p=none/\F=[]) \/
       ∃b arr ty l F',p=some ⟨b,0,none⟩/\h[b]?=some (.cells arr ty (0,0))/\c*sz<=arr.size/\arr.toList.take (es.length*sz)=l/\zZ S h es l F'/\F=b::F'/\∀o,S b o=none)
  | .box x,cs,F=>∃b ty l F',cs=[.pointer (some ⟨b,0,none⟩)]/\h[b]?=some (.cells l.toArray ty (0,0))/\zU S h x l F'/\F=b::F'/\∀o,S b o=none
  | .agg fs,cs,F=>zZ S h fs cs F
  | .dead n,cs,F=>cs.length=n/\(∀u∈cs,u.oneCell'=true)/\F=[]
  | .opq o,cs,F=>∃v,cs=[v]/\o.holds S h v F
  | .atom v,cs,F=>Rep S (.atom v) cs/\F=[]
  | .fn f caps,cs,F=>Rep S (.fn f caps) cs/\F=[]
  | .sl sz t xs,cs,F=>Rep S (.sl sz t xs) cs/\F=[]
  | .sptr x,cs,F=>Rep S (.sptr x) cs/\F=[]
  | .dop q,cs,F=>Rep S (.dop q) cs/\F=[]
  | .tup _,_,_=>False
def zZ (S:zo)(h:Array Obj):List A->List Value->List Nat->Prop
 | [],cs,F=>cs=[]/\F=[]
 | a::as_,cs,F=>∃c1 c2 F1 F2,cs=c1++c2/\F=F1++F2/\zU S h a c1 F1/\zZ S h as_ c2 F2
end
variable {l:List Value}
theorem zbH.mono {S S':zo}(h:∀b o v,S b o=some v->S' b o=some v){b o:Nat}  (hl:zbH S b o l):zbH S' b o l :=
 λj v hj=>h _ _ _ (hl j v hj)
mutual
theorem Rep.mono {S S':zo}(h:∀b o v,S b o=some v->S' b o=some v):∀{a:A} {cs:List Value},Rep S a cs->Rep S' a cs
 | .atom _,_,r=>by simpa only[Rep] using r
 | .fn _ caps,_,r=>by simp only[Rep]at r ⊢;obtain⟨vs,h1,h2,h3⟩:=r;exact⟨vs,yK.mono h h1,h2,h3⟩
 | .agg fs,_,r=>by simp only[Rep]at r ⊢;exact yK.mono h r
 | .sl _ _ xs,_,r=>by simp only[Rep]at r ⊢;obtain⟨p,c,h1,h2,h3,h4,h5⟩:=r;refine⟨p,c,h1,h2,h3,h4,h5.imp id ?_⟩;rintro⟨b,o,l,e,g,k⟩;exact⟨b,o,l,e,yK.mono h g,k.mono h⟩
 | .sptr x,_,r=>by simp only[Rep]at r ⊢;obtain⟨b,o,l,e,g,k⟩:=r;exact⟨b,o,l,e,Rep.mono h g,k.mono h⟩
 | .dop q,_,r=>by simp only[Rep]at r ⊢;obtain⟨v,e,g⟩:=r;exact⟨v,e,q.mono h g⟩
 | .tup _,_,r=>by simp only[Rep]at r
 | .osl _ _ _,_,r=>by simp only[Rep]at r
 | .box _,_,r=>by simp only[Rep]at r
 | .dead _,_,r=>by simp only[Rep]at r
 | .opq _,_,r=>by simp only[Rep]at r
theorem yK.mono {S S':zo}(h:∀b o v,S b o=some v->S' b o=some v):∀{as_:List A} {cs:List Value},yK S as_ cs->yK S' as_ cs
 | [],_,r=>by simpa only[yK] using r
 | a::as_,_,r=>by simp only[yK]at r ⊢;obtain⟨c1,c2,e,r1,r2⟩:=r;exact⟨c1,c2,e,Rep.mono h r1,yK.mono h r2⟩
end
variable {S:zo}
mutual
theorem Rep.len:∀{a:A} {cs:List Value},Rep S a cs->cs.length=a.size
 | .atom _,_,r=>by simp only[Rep]at r;simp[r.1,A.size]
 | .fn _ caps,_,r=>by simp only[Rep]at r;obtain⟨vs,h1,h2,h3⟩:=r;simp[h3,A.size]
 | .agg fs,_,r=>by simp only[Rep]at r;simp only[A.size];exact yK.len r
 | .sl _ _ xs,_,r=>by simp only[Rep]at r;obtain⟨p,c,h1,_⟩:=r;simp[h1,A.size]
 | .sptr x,_,r=>by simp only[Rep]at r;obtain⟨b,o,l,e,_⟩:=r;simp[e,A.size]
 | .dop _,_,r=>by simp only[Rep]at r;obtain⟨v,rfl,_⟩:=r;rfl
 | .tup _,_,r=>by simp only[Rep]at r
 | .osl _ _ _,_,r=>by simp only[Rep]at r
 | .box _,_,r=>by simp only[Rep]at r
 | .dead _,_,r=>by simp only[Rep]at r
 | .opq _,_,r=>by simp only[Rep]at r
theorem yK.len:∀{as_:List A} {cs:List Value},yK S as_ cs->cs.length=A.sizes as_
 | [],_,r=>by simp only[yK]at r;simp[r,A.sizes]
 | a::as_,_,r=>by simp only[yK]at r;obtain⟨c1,c2,e,r1,r2⟩:=r;simp[e,A.sizes,Rep.len r1,yK.len r2]
end
mutual
theorem Rep.one:∀{a:A} {cs:List Value},Rep S a cs->∀u∈cs,u.oneCell'=true
 | .atom _,_,r=>by simp only[Rep]at r;obtain⟨rfl,h⟩:=r;simpa using h
 | .fn _ caps,_,r=>by simp only[Rep]at r;obtain⟨vs,h1,h2,rfl⟩:=r;simp[Value.oneCell']
 | .agg fs,_,r=>by simp only[Rep]at r;exact yK.one r
 | .sl _ _ xs,_,r=>by simp only[Rep]at r;obtain⟨p,c,rfl,_⟩:=r;simp[Value.oneCell']
 | .sptr x,_,r=>by simp only[Rep]at r;obtain⟨b,o,l,rfl,_⟩:=r;simp[Value.oneCell']
 | .dop q,_,r=>by simp only[Rep]at r;obtain⟨v,rfl,g⟩:=r;intro u hu;rw[pR.1 hu];exact q.one g
 | .tup _,_,r=>by simp only[Rep]at r
 | .osl _ _ _,_,r=>by simp only[Rep]at r
 | .box _,_,r=>by simp only[Rep]at r
 | .dead _,_,r=>by simp only[Rep]at r
 | .opq _,_,r=>by simp only[Rep]at r
theorem yK.one:∀{as_:List A} {cs:List Value},yK S as_ cs->∀u∈cs,u.oneCell'=true
 | [],_,r=>by simp only[yK]at r;simp[r]
 | a::as_,_,r=>by
  simp only[yK]at r;obtain⟨c1,c2,rfl,r1,r2⟩:=r;intro u hu;rcases pA.1 hu with h|h
  ·exact Rep.one r1 u h
  ·exact yK.one r2 u h
end
variable {h:Array Obj}
mutual
theorem zU.len:∀{a:A} {cs:List Value} {F:List Nat},zU S h a cs F->cs.length=a.size
 | .osl _ _ _,_,_,r=>by simp only[zU]at r;obtain⟨p,c,e,_⟩:=r;simp[e,A.size]
 | .box _,_,_,r=>by simp only[zU]at r;obtain⟨b,ty,l,F',e,_⟩:=r;simp[e,A.size]
 | .agg fs,_,_,r=>by simp only[zU]at r;simp only[A.size];exact zZ.len r
 | .dead _,_,_,r=>by simp only[zU]at r;simp[r.1,A.size]
 | .opq _,_,_,r=>by simp only[zU]at r;obtain⟨v,rfl,_⟩:=r;rfl
 | .atom _,_,_,r=>by simp only[zU]at r;exact r.1.len
 | .fn _ _,_,_,r=>by simp only[zU]at r;exact r.1.len
 | .sl _ _ _,_,_,r=>by simp only[zU]at r;exact r.1.len
 | .sptr _,_,_,r=>by simp only[zU]at r;exact r.1.len
 | .dop _,_,_,r=>by simp only[zU]at r;exact r.1.len
 | .tup _,_,_,r=>by simp only[zU]at r
theorem zZ.len:∀{as_:List A} {cs:List Value} {F:List Nat},zZ S h as_ cs F->cs.length=A.sizes as_
 | [],_,_,r=>by simp only[zZ]at r;simp[r.1,A.sizes]
 | a::as_,_,_,r=>by simp only[zZ]at r;obtain⟨c1,c2,F1,F2,e,_,r1,r2⟩:=r;simp[e,A.sizes,zU.len r1,zZ.len r2]
end
mutual
theorem Rep.plain:∀{a:A} {cs:List Value},Rep S a cs->a.plain=true
 | .atom _,_,_=>rfl
 | .fn _ _,_,_=>rfl
 | .agg fs,_,r=>by simp only[Rep]at r;simp only[A.plain];exact yK.plain r
 | .sl _ _ _,_,_=>rfl
 | .sptr _,_,_=>rfl
 | .dop _,_,_=>rfl
 | .tup _,_,_=>rfl
 | .osl _ _ _,_,_=>rfl
 | .box _,_,_=>rfl
 | .dead _,_,_=>rfl
 | .opq _,_,r=>by simp only[Rep]at r
theorem yK.plain:∀{as_:List A} {cs:List Value},yK S as_ cs->A.plains as_=true
 | [],_,_=>rfl
 | a::as_,_,r=>by simp only[yK]at r;obtain⟨c1,c2,_,r1,r2⟩:=r;simp only[A.plains,Rep.plain r1,yK.plain r2,rC]
end
mutual
theorem zU.one:∀{a:A} {cs:List Value} {F:List Nat},zU S h a cs F->∀u∈cs,zqc u=true/\(a.plain=true->u.oneCell'=true)
 | .osl _ _ _,_,_,r=>by simp only[zU]at r;obtain⟨p,c,rfl,_⟩:=r;simp[Value.oneCell',zqc]
 | .box _,_,_,r=>by simp only[zU]at r;obtain⟨b,ty,l,F',rfl,_⟩:=r;simp[Value.oneCell',zqc]
 | .agg fs,_,_,r=>by simp only[zU]at r;simp only[A.plain];exact zZ.one r
 | .dead _,_,_,r=>by simp only[zU]at r;exact λu hu=>⟨z2E (r.2.1 u hu),λ_=>r.2.1 u hu⟩
 | .opq o,_,_,r=>by
  simp only[zU]at r;obtain⟨v,rfl,q⟩:=r;intro u hu;simp only[pD,pX,or_false]at hu;subst hu;rcases o.one q with g|⟨g,vs,rfl⟩
  ·exact⟨z2E g,λ_=>g⟩
  ·exact⟨rfl,λk=>by simp[A.plain,g]at k⟩
 | .atom _,_,_,r=>by simp only[zU]at r;exact λu hu=>⟨z2E (r.1.one u hu),λ_=>r.1.one u hu⟩
 | .fn _ _,_,_,r=>by simp only[zU]at r;exact λu hu=>⟨z2E (r.1.one u hu),λ_=>r.1.one u hu⟩
 | .sl _ _ _,_,_,r=>by simp only[zU]at r;exact λu hu=>⟨z2E (r.1.one u hu),λ_=>r.1.one u hu⟩
 | .sptr _,_,_,r=>by simp only[zU]at r;exact λu hu=>⟨z2E (r.1.one u hu),λ_=>r.1.one u hu⟩
 | .dop _,_,_,r=>by simp only[zU]at r;exact λu hu=>⟨z2E (r.1.one u hu),λ_=>r.1.one u hu⟩
 | .tup _,_,_,r=>by simp only[zU]at r
theorem zZ.one:∀{as_:List A} {cs:List Value} {F:List Nat},zZ S h as_ cs F->∀u∈cs,zqc u=true/\(A.plains as_=true->u.oneCell'=true)
 | [],_,_,r=>by simp only[zZ]at r;simp[r.1]
 | a::as_,_,_,r=>by
  simp only[zZ]at r;obtain⟨c1,c2,F1,F2,rfl,_,r1,r2⟩:=r;intro u hu;simp only[A.plains,pJ];rcases pA.1 hu with h|h
  ·exact⟨(zU.one r1 u h).1,λk=>(zU.one r1 u h).2 k.1⟩
  ·exact⟨(zZ.one r2 u h).1,λk=>(zZ.one r2 u h).2 k.2⟩
end
variable {cs:List Value}{F:List Nat}
theorem zU.na {a:A}   (r:zU S h a cs F):∀u∈cs,zqc u=true:=λu hu=>(r.one u hu).1
theorem zU.one1 {a:A}   (r:zU S h a cs F)(hp:a.plain=true):∀u∈cs,u.oneCell'=true:=λu hu=>(r.one u hu).2 hp
mutual
theorem zU.frame {S S':zo}{h h':Array Obj}(hS:∀b o v,S b o=some v->S' b o=some v):∀{a:A} {cs:List Value} {F:List Nat},zU S h a cs F ->
  (∀k∈F,h'[k]?=h[k]?/\∀o,S' k o=none)->zU S' h' a cs F
 | .osl _ _ _,_,_,r,hF=>by simp only[zU]at r ⊢;obtain⟨p,c,e,h1,h2,h3,h4,h5⟩:=r;refine⟨p,c,e,h1,h2,h3,h4,h5.imp id ?_⟩;rintro⟨b,arr,ty,l,F',e1,e2,e3,e4,e5,rfl,e7⟩;exact⟨b,arr,ty,l,F',e1,by rw[(hF b (by simp)).1];exact e2,e3,e4,zZ.frame hS e5 (λk hk=>hF k (by simp[hk])),rfl,(hF b (by simp)).2⟩
 | .box _,_,_,r,hF=>by simp only[zU]at r ⊢;obtain⟨b,ty,l,F',e,e1,e2,rfl,e4⟩:=r;exact⟨b,ty,l,F',e,by rw[(hF b (by simp)).1];exact e1,zU.frame hS e2 (λk hk=>hF k (by simp[hk])),rfl,(hF b (by simp)).2⟩
 | .agg fs,_,_,r,hF=>by simp only[zU]at r ⊢;exact zZ.frame hS r hF
 | .dead _,_,_,r,_=>by simpa only[zU] using r
 | .opq o,_,_,r,hF=>by simp only[zU]at r ⊢;obtain⟨v,e,q⟩:=r;exact⟨v,e,o.frame hS hF q⟩
 | .atom _,_,_,r,_=>by simp only[zU]at r ⊢;exact⟨r.1.mono hS,r.2⟩
 | .fn _ _,_,_,r,_=>by simp only[zU]at r ⊢;exact⟨r.1.mono hS,r.2⟩
 | .sl _ _ _,_,_,r,_=>by simp only[zU]at r ⊢;exact⟨r.1.mono hS,r.2⟩
 | .sptr _,_,_,r,_=>by simp only[zU]at r ⊢;exact⟨r.1.mono hS,r.2⟩
 | .dop _,_,_,r,_=>by simp only[zU]at r ⊢;exact⟨r.1.mono hS,r.2⟩
 | .tup _,_,_,r,_=>by simp only[zU]at r
theorem zZ.frame {S S':zo}{h h':Array Obj}(hS:∀b o v,S b o=some v->S' b o=some v):∀{as_:List A} {cs:List Value} {F:List Nat},zZ S h as_ cs F ->
  (∀k∈F,h'[k]?=h[k]?/\∀o,S' k o=none)->zZ S' h' as_ cs F
 | [],_,_,r,_=>by simpa only[zZ] using r
 | a::as_,_,_,r,hF=>by simp only[zZ]at r ⊢;obtain⟨c1,c2,F1,F2,rfl,rfl,r1,r2⟩:=r;exact⟨c1,c2,F1,F2,rfl,rfl,zU.frame hS r1 (λk hk=>hF k (by simp[hk])),zZ.frame hS r2 (λk hk=>hF k (by simp[hk]))⟩
end
mutual
theorem zU.own:∀{a:A} {cs:List Value} {F:List Nat},zU S h a cs F->∀k∈F,k<h.size/\(∀o,S k o=none)/\True
 | .osl _ _ _,_,_,r=>by
  simp only[zU]at r;obtain⟨p,c,e,h1,h2,h3,h4,h5⟩:=r;rcases h5 with⟨_,_,_,rfl⟩|⟨b,arr,ty,l,F',e1,e2,e3,e4,e5,rfl,e7⟩
  ·simp
  ·intro k hk;rcases pD.1 hk with rfl|hk
   ·exact⟨(pK.1 e2).1,e7,trivial⟩
   ·exact zZ.own e5 k hk
 | .box _,_,_,r=>by
  simp only[zU]at r;obtain⟨b,ty,l,F',e,e1,e2,rfl,e4⟩:=r;intro k hk;rcases pD.1 hk with rfl|hk
  ·exact⟨(pK.1 e1).1,e4,trivial⟩
  ·exact zU.own e2 k hk
 | .agg fs,_,_,r=>by simp only[zU]at r;exact zZ.own r
 | .dead _,_,_,r=>by simp only[zU]at r;simp[r.2.2]
 | .opq o,_,_,r=>by simp only[zU]at r;obtain⟨v,rfl,q⟩:=r;intro k hk;exact⟨(o.own q k hk).1,(o.own q k hk).2,trivial⟩
 | .atom _,_,_,r=>by simp only[zU]at r;simp[r.2]
 | .fn _ _,_,_,r=>by simp only[zU]at r;simp[r.2]
 | .sl _ _ _,_,_,r=>by simp only[zU]at r;simp[r.2]
 | .sptr _,_,_,r=>by simp only[zU]at r;simp[r.2]
 | .dop _,_,_,r=>by simp only[zU]at r;simp[r.2]
 | .tup _,_,_,r=>by simp only[zU]at r
theorem zZ.own:∀{as_:List A} {cs:List Value} {F:List Nat},zZ S h as_ cs F->∀k∈F,k<h.size/\(∀o,S k o=none)/\True
 | [],_,_,r=>by simp only[zZ]at r;simp[r.2]
 | a::as_,_,_,r=>by
  simp only[zZ]at r;obtain⟨c1,c2,F1,F2,rfl,rfl,r1,r2⟩:=r;intro k hk;rcases pA.1 hk with h|h
  ·exact zU.own r1 k h
  ·exact zZ.own r2 k h
end
mutual
theorem zU.isD:∀{a:A} {cs:List Value} {F:List Nat},a.isD=true->zU S h a cs F->Rep S a cs/\F=[]
 | .agg fs,_,_,d,r=>by simp only[A.isD]at d;simp only[zU]at r;simp only[Rep];exact zZ.areD d r
 | .atom _,_,_,_,r=>by simpa only[zU] using r
 | .fn _ _,_,_,_,r=>by simpa only[zU] using r
 | .sl _ _ _,_,_,_,r=>by simpa only[zU] using r
 | .sptr _,_,_,_,r=>by simpa only[zU] using r
 | .dop _,_,_,_,r=>by simpa only[zU] using r
 | .tup _,_,_,d,_=>by simp[A.isD]at d
 | .osl _ _ _,_,_,d,_=>by simp[A.isD]at d
 | .box _,_,_,d,_=>by simp[A.isD]at d
 | .dead _,_,_,d,_=>by simp[A.isD]at d
 | .opq _,_,_,d,_=>by simp[A.isD]at d
theorem zZ.areD:∀{as_:List A} {cs:List Value} {F:List Nat},A.areD as_=true->zZ S h as_ cs F->yK S as_ cs/\F=[]
 | [],_,_,_,r=>by simpa only[zZ,yK] using r
 | a::as_,_,_,d,r=>by simp only[A.areD,pJ]at d;simp only[zZ]at r;obtain⟨c1,c2,F1,F2,rfl,rfl,r1,r2⟩:=r;obtain⟨q1,rfl⟩:=zU.isD d.1 r1;obtain⟨q2,rfl⟩:=zZ.areD d.2 r2;exact⟨by simp only[yK];exact⟨c1,c2,rfl,q1,q2⟩,rfl⟩
end
mutual
theorem Rep.conc (h:Array Obj):∀{a:A} {cs:List Value},Rep S a cs->zU S h a cs []
 | .agg fs,_,r=>by simp only[Rep]at r;simp only[zU];exact yK.concs h r
 | .atom _,_,r=>by simp only[zU];exact⟨r,trivial⟩
 | .fn _ _,_,r=>by simp only[zU];exact⟨r,trivial⟩
 | .sl _ _ _,_,r=>by simp only[zU];exact⟨r,trivial⟩
 | .sptr _,_,r=>by simp only[zU];exact⟨r,trivial⟩
 | .dop _,_,r=>by simp only[zU];exact⟨r,trivial⟩
 | .tup _,_,r=>by simp only[Rep]at r
 | .osl _ _ _,_,r=>by simp only[Rep]at r
 | .box _,_,r=>by simp only[Rep]at r
 | .dead _,_,r=>by simp only[Rep]at r
 | .opq _,_,r=>by simp only[Rep]at r
theorem yK.concs (h:Array Obj):∀{as_:List A} {cs:List Value},yK S as_ cs->zZ S h as_ cs []
 | [],_,r=>by simp only[yK]at r;simp only[zZ];exact⟨r,trivial⟩
 | a::as_,_,r=>by simp only[yK]at r;obtain⟨c1,c2,rfl,r1,r2⟩:=r;simp only[zZ];exact⟨c1,c2,[],[],rfl,rfl,Rep.conc h r1,yK.concs h r2⟩
end
theorem A.shuts_eq (as_:List A):A.shuts as_=as_.map A.shut:=by
 induction as_ with
 | nil=>rfl
 | cons a as_ ih=>simp[A.shuts,ih]
theorem A.sizes_eq (as_:List A):A.sizes as_=(as_.map A.size).sum:=by
 induction as_ with
 | nil=>rfl
 | cons a as_ ih=>simp[A.sizes,ih]
variable {sz:Nat}
theorem A.sizes_const {as_:List A}  (h:∀x∈as_,x.size=sz):A.sizes as_=as_.length*sz:=by
 induction as_ with
 | nil=>simp[A.sizes]
 | cons a as_ ih=>simp only[A.sizes,h a (by simp),ih (λx hx=>h x (by simp[hx])),gI,mn,rm];omega
mutual
theorem A.size_shut:∀(a:A),a.shut.size=a.size
 | .agg fs=>by simp only[A.shut,A.size];exact A.sizes_shuts fs
 | .osl _ _ _=>rfl
 | .box _=>rfl
 | .atom _=>rfl
 | .fn _ _=>rfl
 | .sl _ _ _=>rfl
 | .sptr _=>rfl
 | .dop _=>rfl
 | .tup _=>rfl
 | .dead _=>rfl
 | .opq _=>rfl
theorem A.sizes_shuts:∀(as_:List A),A.sizes (A.shuts as_)=A.sizes as_
 | []=>rfl
 | a::as_=>by simp only[A.shuts,A.sizes,A.size_shut a,A.sizes_shuts as_]
end
mutual
theorem zU.shut {S S':zo}  (hS:∀b o v,S b o=some v->S' b o=some v):∀{a:A} {cs:List Value} {F:List Nat},zU S h a cs F->a.live=true ->
  (∀k∈F,∀o,S' k o=yj h k o)->Rep S' a.shut cs
 | .osl sz t es,_,_,r,l,hF=>by
  simp only[zU]at r;simp only[A.live]at l;obtain⟨p,c,e,h1,h2,h3,h4,h5⟩:=r;simp only[A.shut,Rep];have hlen:(A.shuts es).length=es.length:=by simp[A.shuts_eq]
  rw[hlen];refine⟨p,c,e,h1,h2,?_,?_⟩
  ·intro x hx;rw[A.shuts_eq]at hx;obtain⟨y,hy,rfl⟩:=pW.1 hx;rw[A.size_shut];exact h4 y hy
  ·rcases h5 with⟨rfl,_⟩|⟨b,arr,ty,l',F',e1,e2,e3,e4,e5,rfl,e7⟩
   ·exact .inl rfl
   ·refine .inr ⟨b,0,l',e1,zZ.shut hS e5 l (λk hk=>hF k (by simp[hk])),?_⟩;intro j v hj;rw[hF b (by simp),yj,e2];simp only[gN];rw[<-e4,pV]at hj;split at hj
    ·simpa using hj
    ·cases hj
 | .box x,_,_,r,l,hF=>by simp only[zU]at r;simp only[A.live]at l;obtain⟨b,ty,l',F',e,e1,e2,rfl,e4⟩:=r;simp only[A.shut,Rep];refine⟨b,0,l',e,zU.shut hS e2 l (λk hk=>hF k (by simp[hk])),?_⟩;intro j v hj;rw[hF b (by simp),yj,e1];simpa using hj
 | .agg fs,_,_,r,l,hF=>by simp only[zU]at r;simp only[A.live]at l;simp only[A.shut,Rep];exact zZ.shut hS r l hF
 | .dead _,_,_,_,l,_=>by simp[A.live]at l
 | .opq _,_,_,_,l,_=>by simp[A.live]at l
 | .atom _,_,_,r,_,_=>by simp only[zU]at r;exact r.1.mono hS
 | .fn _ _,_,_,r,_,_=>by simp only[zU]at r;exact r.1.mono hS
 | .sl _ _ _,_,_,r,_,_=>by simp only[zU]at r;exact r.1.mono hS
 | .sptr _,_,_,r,_,_=>by simp only[zU]at r;exact r.1.mono hS
 | .dop _,_,_,r,_,_=>by simp only[zU]at r;exact r.1.mono hS
 | .tup _,_,_,r,_,_=>by simp only[zU]at r
theorem zZ.shut {S S':zo}  (hS:∀b o v,S b o=some v->S' b o=some v):∀{as_:List A} {cs:List Value} {F:List Nat},zZ S h as_ cs F->A.lives as_=true ->
  (∀k∈F,∀o,S' k o=yj h k o)->yK S' (A.shuts as_) cs
 | [],_,_,r,_,_=>by simp only[zZ]at r;simp only[A.shuts,yK];exact r.1
 | a::as_,_,_,r,l,hF=>by simp only[zZ]at r;simp only[A.lives,pJ]at l;obtain⟨c1,c2,F1,F2,rfl,rfl,r1,r2⟩:=r;simp only[A.shuts,yK];exact⟨c1,c2,rfl,zU.shut hS r1 l.1 (λk hk=>hF k (by simp[hk])),zZ.shut hS r2 l.2 (λk hk=>hF k (by simp[hk]))⟩
end
def zp6 (_:Nat):Option A:=none
def vQ:List Q5->A->Option A
 | [],x=>some x
 | .deref::p,.box x=>vQ p x
 | .fld i::p,.agg fs=>match fs[i]? with|some y=>vQ p y|none=>none
 | .idx i::p,.osl _ _ es=>match es[i]? with|some y=>vQ p y|none=>none
 | _,_=>none
def JN:List Q5->A->A->A
 | [],_,z=>z
 | .deref::p,.box x,z=>.box (JN p x z)
 | .fld i::p,.agg fs,z=>.agg (match fs[i]? with|some y=>fs.set i (JN p y z)|none=>fs)
 | .idx i::p,.osl sz t es,z=>.osl sz t (match es[i]? with|some y=>es.set i (JN p y z)|none=>es)
 | _,x,_=>x
def z7O (h:Array Obj):List Q5->A->Nat->Nat->Option (Nat×Nat)
 | [],_,b,o=>some (b,o)
 | .fld i::p,.agg fs,b,o=>match fs[i]? with|some y=>z7O h p y b (o+A.sizes (fs.take i))|none=>none
 | .deref::p,.box x,b,o=>match yj h b o with|some (.pointer (some a))=>z7O h p x a.block 0|_=>none
 | .idx i::p,.osl sz _ es,b,o=>match es[i]?,yj h b o with|some y,some (.slice (some a) _ _)=>z7O h p y a.block (i*sz)|_,_=>none
 | _,_,_,_=>none
def zaW (arr:Array Value)(o:Nat)(l:List Value):Prop:=∀j v,l[j]?=some v->arr[o+j]?=some v
def z1a (arr:Array Value)(o:Nat)(l:List Value):Array Value:=arr.mapIdx λk v=>(if o<=k then l[k - o]? else none).getD v
theorem YO (arr:Array Value)(o:Nat)(l:List Value)(k:Nat):(z1a arr o l)[k]?=arr[k]?.map λv=>(if o<=k then l[k - o]? else none).getD v:=by simp[z1a,Array.getElem?_mapIdx]
@[simp] theorem zvn (arr:Array Value)(o:Nat)(l:List Value):(z1a arr o l).size=arr.size:=by simp [z1a]
variable {arr:Array Value}
theorem Jo {o:Nat}  (hs:zaW arr o l):z1a arr o l=arr:=by
 apply mV;intro k;rw[YO];cases ha:arr[k]? with
 | none=>rfl
 | some v=>
  simp only[gH];by_cases hk:o<=k
  ·simp only[hk,if_true];cases hl:l[k - o]? with
   | none=>rfl
   | some u=>have:=hs _ _ hl;rw[show o+(k - o)=k from by omega,ha]at this;simpa using this.symm
  ·simp[hk]
variable {c1 ci c2:List Value}
theorem zaW.mid {o:Nat}  (hs:zaW arr o (c1++ci++c2)):zaW arr (o+c1.length) ci:=by intro j v hj;have hlt:=(p8.1 hj).1;have:=hs (c1.length+j) v (by rw[pL,pF (by omega),mT,pG hlt];exact hj);rwa[<-Nat.add_assoc]at this
theorem z8O {o:Nat}{c1 ci ci' c2:List Value}(hs:zaW arr o (c1++ci++c2))(hl:ci'.length=ci.length) :
  z1a arr o (c1++ci' ++ c2)=z1a arr (o+c1.length) ci':=by
 apply mV;intro k;rw[YO,YO];cases ha:arr[k]? with
 | none=>rfl
 | some v=>
  simp only[gH,Option.some.injEq];by_cases h1:o<=k
  ·simp only[h1,if_true];by_cases h2:k - o<c1.length
   ·rw[if_neg (by omega),pL,pG h2];have:=hs (k - o) c1[k - o] (by rw[pL,pG h2];exact p7 h2);rw[show o+(k - o)=k from by omega,ha]at this;rw[p7 h2];simpa using this.symm
   ·rw[if_pos (by omega),pL,pF (by omega)];by_cases h3:k - o - c1.length<ci'.length
    ·rw[pG h3,show k - (o+c1.length)=k - o - c1.length from by omega]
    ·rw[pF (by omega),pQ (l:=ci') (i:=k - (o+c1.length)) (by omega)];simp only[Option.getD_none];cases h4:c2[k - o - c1.length - ci'.length]? with
     | none=>rfl
     | some u=>have:=hs (k - o) u (by rw[pL,pF (by omega),pF (by omega),<-hl];exact h4);rw[show o+(k - o)=k from by omega,ha]at this;simpa using this.symm
  ·rw[if_neg h1,if_neg (by omega)]
theorem zZ.split:∀{as_:List A} {cs:List Value} {F:List Nat} {i:Nat} {x:A},zZ S h as_ cs F->as_[i]?=some x ->
  ∃c1 ci c2 F1 Fi F2,cs=c1++ci++c2/\F=F1++Fi++F2/\c1.length=A.sizes (as_.take i)/\zU S h x ci Fi /\
   ∀(S':zo) (h':Array Obj) (z:A) (ci':List Value) (Fi':List Nat),(∀b o v,S b o=some v->S' b o=some v)->(∀k,k∈F1\/k∈F2->h'[k]?=h[k]?/\∀o,S' k o=none) ->
    zU S' h' z ci' Fi'->zZ S' h' (as_.set i z) (c1++ci' ++ c2) (F1++Fi' ++ F2)
 | [],_,_,_,_,_,e=>by simp at e
 | a::as_,cs,F,0,x,r,e=>by simp at e;subst e;simp only[zZ]at r;obtain⟨c1,c2,F1,F2,rfl,rfl,r1,r2⟩:=r;refine⟨[],c1,c2,[],F1,F2,rfl,rfl,rfl,r1,?_⟩;intro S' h' z ci' Fi' hS hk hz;simp only[nT,p9,zZ];exact⟨ci',c2,Fi',F2,rfl,rfl,hz,zZ.frame hS r2 (λk hk'=>hk k (.inr hk'))⟩
 | a::as_,cs,F,i+1,x,r,e=>by
  simp at e;simp only[zZ]at r;obtain⟨c1,c2,F1,F2,rfl,rfl,r1,r2⟩:=r;obtain⟨d1,di,d2,G1,Gi,G2,rfl,rfl,hl,hx,hup⟩:=zZ.split r2 e;refine⟨c1++d1,di,d2,F1++G1,Gi,G2,by simp,by simp,by simp[A.sizes,hl,r1.len],hx,?_⟩;intro S' h' z ci' Fi' hS hk hz;simp only[rZ,zZ];refine⟨c1,d1++ci' ++ d2,F1,G1++Fi' ++ G2,by simp,by simp,zU.frame hS r1 (λk hk'=>hk k (.inl (by simp[hk']))),hup S' h' z ci' Fi' hS (λk hk'=>hk k ?_) hz⟩;rcases hk' with h|h
  ·exact .inl (by simp[h])
  ·exact .inr h
theorem zlw {S:zo}{h:Array Obj}:∀(p:List Q5) {x0:A} {cs0:List Value} {F0:List Nat} {b0 o0:Nat} {arr0:Array Value} {ty0:TypeId},
  zU S h x0 cs0 F0->F0.Nodup->b0∉F0->h[b0]?=some (.cells arr0 ty0 (0,0))->zaW arr0 o0 cs0->∀{y:A},vQ p x0=some y ->
  ∃b o arr ty csy Fy,z7O h p x0 b0 o0=some (b,o)/\h[b]?=some (.cells arr ty (0,0))/\zaW arr o csy/\zU S h y csy Fy/\b∉Fy/\(b=b0\/b∈F0)/\(∀k∈Fy,k∈F0)/\Fy.Nodup /\
   ∀(S':zo) (h':Array Obj) (z:A) (csz:List Value) (Fz:List Nat),(∀b o v,S b o=some v->S' b o=some v)->csz.length=csy.length->zU S' h' z csz Fz->Fz.Nodup ->
    (∀k∈F0,k∉Fy->∀o,S' k o=none)->(∀k,k=b0\/k∈F0->k∉Fy->k≠b->h'[k]?=h[k]?)->h'[b]?=some (.cells (z1a arr o csz) ty (0,0)) ->
    (∀k∈Fz,k∈F0->k∈Fy) ->
    ∃cs0' F0',zU S' h' (JN p x0 z) cs0' F0'/\cs0'.length=cs0.length/\F0'.Nodup/\(∀k,k∈F0'↔(k∈F0/\k∉Fy)\/k∈Fz)/\h'[b0]?=some (.cells (z1a arr0 o0 cs0') ty0 (0,0))
 | [],x0,cs0,F0,b0,o0,arr0,ty0,hx,hn,hb,hh,hs,y,e=>by simp only[vQ,Option.some.injEq]at e;subst e;refine⟨b0,o0,arr0,ty0,cs0,F0,rfl,hh,hs,hx,hb,.inl rfl,λ_ h=>h,hn,?_⟩;intro S' h' z csz Fz _ hl hz hnz _ _ hb' _;exact⟨csz,Fz,by simpa only[JN] using hz,hl,hnz,λk=>⟨λh=>.inr h,λh=>h.elim (λh=>absurd h.1 h.2) id⟩,hb'⟩
 | .fld i::p,.agg fs,cs0,F0,b0,o0,arr0,ty0,hx,hn,hb,hh,hs,y,e=>by
  simp only[vQ]at e;cases hf:fs[i]? with
  | none=>simp[hf]at e
  | some x1=>
   simp only[hf]at e;simp only[zU]at hx;obtain⟨c1,ci,c2,F1,Fi,F2,rfl,rfl,hl1,hxi,hup⟩:=zZ.split hx hf;have hn':=hn;rw[pL,pM]at hn';obtain⟨n1,n2,n3⟩:=hn';rw[pM]at n2;obtain⟨n4,n5,n6⟩:=n2;have hbi:b0∉Fi:=λh=>hb (by simp[h]);obtain⟨b,o,arr,ty,csy,Fy,g1,g2,g3,g4,g5,g6,g7,g8,g9⟩:=zlw p hxi n4 hbi hh hs.mid e;refine⟨b,o,arr,ty,csy,Fy,?_,g2,g3,g4,g5,g6.imp id (λh=>by simp[h]),λk hk=>by simp[g7 k hk],g8,?_⟩
   ·simp only[z7O,hf];rw[<-hl1];exact g1
   ·intro S' h' z csz Fz hS hl hz hnz hfree hh' hb' hsep;have hsub:∀k∈Fi,k∈F1++Fi++F2:=λk hk=>by simp[hk]
    obtain⟨ci',Fi',q1,q2,q3,q4,q5⟩:=g9 S' h' z csz Fz hS hl hz hnz (λk hk=>hfree k (hsub k hk)) (λk hk=>hh' k (hk.imp id (hsub k))) hb' (λk hk hk'=>hsep k hk (hsub k hk'));have hoth:∀k,k∈F1\/k∈F2->k∉Fy/\k≠b/\k∈F1++Fi++F2:=by
     intro k hk;have hki:k∉Fi:=by
      rcases hk with hk|hk
      ·exact λh=>n3 k hk k (by simp[h]) rfl
      ·exact λh=>n6 k h k hk rfl
     refine⟨λh=>hki (g7 k h),?_,by rcases hk with hk|hk <;> simp[hk]⟩;rintro rfl;rcases g6 with rfl|g6
     ·exact hb (by rcases hk with hk|hk <;> simp[hk])
     ·exact hki g6
    refine⟨c1++ci' ++ c2,F1++Fi' ++ F2,?_,by simp[q2],?_,?_,?_⟩
    ·simp only[JN,hf,zU];exact hup S' h' _ ci' Fi' hS (λk hk=>⟨hh' k (.inr (hoth k hk).2.2) (hoth k hk).1 (hoth k hk).2.1,hfree k (hoth k hk).2.2 (hoth k hk).1⟩) q1
    ·rw[pL,pM];refine⟨n1,?_,?_⟩
     ·rw[pM];refine⟨q3,n5,?_⟩;rintro a ha b' hb'' rfl;rcases(q4 a).1 ha with h|h
      ·exact n6 a h.1 a hb'' rfl
      ·exact(hoth a (.inr hb'')).1 (hsep a h (hoth a (.inr hb'')).2.2)
     ·rintro a ha b' hb'' rfl;rcases pA.1 hb'' with h|h
      ·rcases(q4 a).1 h with h|h
       ·exact n3 a ha a (by simp[h.1]) rfl
       ·exact(hoth a (.inl ha)).1 (hsep a h (hoth a (.inl ha)).2.2)
      ·exact n3 a ha a (by simp[h]) rfl
    ·intro k;simp only[pA,q4 k];constructor
     ·rintro((h|h)|h)
      ·exact .inl ⟨.inl (.inl h),(hoth k (.inl h)).1⟩
      ·rcases h with h|h
       ·exact .inl ⟨.inl (.inr h.1),h.2⟩
       ·exact .inr h
      ·exact .inl ⟨.inr h,(hoth k (.inr h)).1⟩
     ·rintro(⟨(h|h)|h,h'⟩|h)
      ·exact .inl (.inl h)
      ·exact .inl (.inr (.inl ⟨h,h'⟩))
      ·exact .inr h
      ·exact .inl (.inr (.inr h))
    ·rw[z8O hs q2];exact q5
 | .deref::p,.box x,cs0,F0,b0,o0,arr0,ty0,hx,hn,hb,hh,hs,y,e=>by
  simp only[vQ]at e;simp only[zU]at hx;obtain⟨b1,ty1,l,F',rfl,e1,e2,rfl,e4⟩:=hx;have hn':=pY.1 hn;have hsl:zaW l.toArray 0 l:=λj v hj=>by simpa using hj
  obtain⟨b,o,arr,ty,csy,Fy,g1,g2,g3,g4,g5,g6,g7,g8,g9⟩:=zlw p e2 hn'.2 hn'.1 e1 hsl e;have hcell:yj h b0 o0=some (.pointer (some ⟨b1,0,none⟩)):=by have:=hs 0 _ rfl;simpa[yj,hh] using this
  have hb1:b∈b1::F':=by rcases g6 with rfl|g6 <;> simp[*]
  refine⟨b,o,arr,ty,csy,Fy,by simp only[z7O,hcell];exact g1,g2,g3,g4,g5,.inr hb1,λk hk=>by simp[g7 k hk],g8,?_⟩;intro S' h' z csz Fz hS hl hz hnz hfree hh' hb' hsep;obtain⟨cs',F0',q1,q2,q3,q4,q5⟩:=g9 S' h' z csz Fz hS hl hz hnz (λk hk=>hfree k (by simp[hk])) (λk hk=>hh' k (.inr (by simpa using hk))) hb' (λk hk hk'=>hsep k hk (by simp[hk']));have hb1y:b1∉Fy:=λh=>hn'.1 (g7 _ h);have hov:z1a l.toArray 0 cs'=cs'.toArray:=by
   apply mV;intro k;rw[YO];simp only[pT,if_true,nG,rb];by_cases hk:k<l.length
   ·rw[p7 hk,p7 (by omega)];simp
   ·rw[pQ (by omega),pQ (by omega)];rfl
  refine⟨[.pointer (some ⟨b1,0,none⟩)],b1::F0',?_,rfl,?_,?_,?_⟩
  ·simp only[JN,zU];exact⟨b1,ty1,cs',F0',rfl,by rw[q5,hov],q1,rfl,hfree b1 (by simp) hb1y⟩
  ·refine pY.2 ⟨λh=>?_,q3⟩;rcases(q4 b1).1 h with h|h
   ·exact hn'.1 h.1
   ·exact hb1y (hsep b1 h (by simp))
  ·intro k;simp only[pD,q4 k];constructor
   ·rintro(rfl|h|h)
    ·exact .inl ⟨.inl rfl,hb1y⟩
    ·exact .inl ⟨.inr h.1,h.2⟩
    ·exact .inr h
   ·rintro(⟨rfl|h,h'⟩|h)
    ·exact .inl rfl
    ·exact .inr (.inl ⟨h,h'⟩)
    ·exact .inr (.inr h)
  ·rw[Jo hs,hh' b0 (.inl rfl) (λh=>hb (by simp[g7 _ h])) (λh=>hb (h ▸ hb1)),hh]
 | .idx i::p,.osl sz t es,cs0,F0,b0,o0,arr0,ty0,hx,hn,hb,hh,hs,y,e=>by
  simp only[vQ]at e;cases hf:es[i]? with
  | none=>simp[hf]at e
  | some x1=>
   simp only[hf]at e;simp only[zU]at hx;obtain⟨pp,c,rfl,t1,t2,t3,t4,t5⟩:=hx;rcases t5 with⟨rfl,_⟩|⟨b1,arr1,ty1,l,F',rfl,e1,e2,e3,e4,rfl,e6⟩
   ·simp at hf
   have hn':=pY.1 hn;obtain⟨c1,ci,c2,F1,Fi,F2,hl0,rfl,hl1,hxi,hup⟩:=zZ.split e4 hf;have hsl:zaW arr1 0 l:=by
    intro j v hj;rw[<-e3,pV]at hj;split at hj
    ·simpa using hj
    ·cases hj
   have hit:c1.length=i*sz:=by rw[hl1,A.sizes_const (sz:=sz) (λx hx=>t4 x (gC hx)),pU];have:=(p8.1 hf).1;rw[mH (by omega)]
   have hn2:=hn'.2;rw[pL,pM]at hn2;obtain⟨n1,n2,n3⟩:=hn2;rw[pM]at n2;obtain⟨n4,n5,n6⟩:=n2;have hbi:b1∉Fi:=λh=>hn'.1 (by simp[h]);have hsm:zaW arr1 (i*sz) ci:=by have:=(hl0 ▸ hsl:zaW arr1 0 (c1++ci++c2)).mid;rwa[gN,hit]at this
   obtain⟨b,o,arr,ty,csy,Fy,g1,g2,g3,g4,g5,g6,g7,g8,g9⟩:=zlw p hxi n4 hbi e1 hsm e;have hcell:yj h b0 o0=some (.slice (some ⟨b1,0,none⟩) es.length c):=by have:=hs 0 _ rfl;simpa[yj,hh] using this
   have hb1:b∈b1::(F1++Fi++F2):=by rcases g6 with rfl|g6 <;> simp[*]
   refine⟨b,o,arr,ty,csy,Fy,by simp only[z7O,hf,hcell];exact g1,g2,g3,g4,g5,.inr hb1,λk hk=>by simp[g7 k hk],g8,?_⟩;intro S' h' z csz Fz hS hl hz hnz hfree hh' hb' hsep;have hsub:∀k∈Fi,k∈b1::(F1++Fi++F2):=λk hk=>by simp[hk]
   have hsub1:∀k,k=b1\/k∈Fi->k∈b1::(F1++Fi++F2):=λk hk=>by rcases hk with rfl|hk <;> simp[*]
   obtain⟨ci',Fi',q1,q2,q3,q4,q5⟩:=g9 S' h' z csz Fz hS hl hz hnz (λk hk=>hfree k (hsub k hk)) (λk hk=>hh' k (.inr (hsub1 k hk))) hb' (λk hk hk'=>hsep k hk (hsub k hk'));have hoth:∀k,k∈F1\/k∈F2->k∉Fy/\k≠b/\k∈b1::(F1++Fi++F2):=by
    intro k hk;have hki:k∉Fi:=by
     rcases hk with hk|hk
     ·exact λh=>n3 k hk k (by simp[h]) rfl
     ·exact λh=>n6 k h k hk rfl
    refine⟨λh=>hki (g7 k h),?_,by rcases hk with hk|hk <;> simp[hk]⟩;rintro rfl;rcases g6 with rfl|g6
    ·exact hn'.1 (by rcases hk with hk|hk <;> simp[hk])
    ·exact hki g6
   have hb1y:b1∉Fy:=λh=>hbi (g7 _ h);have hes:(es.set i (JN p x1 z)).length=es.length:=by simp
   have hsz1:(JN p x1 z).size=sz:=by rw[<-q1.len,q2,hxi.len];exact t4 x1 (pO hf)
   have hlen:l.length=es.length*sz:=by rw[e4.len,A.sizes_const t4]
   refine⟨[.slice (some ⟨b1,0,none⟩) es.length c],b1::(F1++Fi' ++ F2),?_,rfl,?_,?_,?_⟩
   ·simp only[JN,hf,zU,hes];refine⟨_,c,rfl,t1,t2,t3,?_,.inr ⟨b1,z1a arr1 (i*sz) ci',ty1,c1++ci' ++ c2,F1++Fi' ++ F2,rfl,q5,by simp[e2],?_,?_,rfl,hfree b1 (by simp) hb1y⟩⟩
    ·intro x hx;rcases List.mem_or_eq_of_mem_set hx with h|rfl
     ·exact t4 x h
     ·exact hsz1
    ·have hov:z1a arr1 0 (c1++ci' ++ c2)=z1a arr1 (i*sz) ci':=by have:=z8O (arr:=arr1) (o:=0) (c1:=c1) (ci:=ci) (ci':=ci') (c2:=c2) (hl0 ▸ hsl) q2;rwa[gN,hit]at this
     rw[<-hov];have hle:es.length*sz<=arr1.size:=pE (gF _ t2) e2;apply gX;intro k;rw[pV];have hll:(c1++ci' ++ c2).length=es.length*sz:=by rw[<-hlen,hl0];simp[q2]
     split
     ·rename_i hk;have hk2:k<(c1++ci' ++ c2).length:=by omega
      rw[mJ,YO,gS (by omega:k<arr1.size),if_pos (pT _),nG,p7 hk2];simp
     ·rw[pQ (by omega)]
    ·exact hup S' h' _ ci' Fi' hS (λk hk=>⟨hh' k (.inr (hoth k hk).2.2) (hoth k hk).1 (hoth k hk).2.1,hfree k (hoth k hk).2.2 (hoth k hk).1⟩) q1
   ·refine pY.2 ⟨?_,?_⟩
    ·intro h;simp only[pA]at h;rcases h with(h|h)|h
     ·exact hn'.1 (by simp[h])
     ·rcases(q4 b1).1 h with h|h
      ·exact hbi h.1
      ·exact hb1y (hsep b1 h (by simp))
     ·exact hn'.1 (by simp[h])
    ·rw[pL,pM];refine⟨n1,?_,?_⟩
     ·rw[pM];refine⟨q3,n5,?_⟩;rintro a ha b' hb'' rfl;rcases(q4 a).1 ha with h|h
      ·exact n6 a h.1 a hb'' rfl
      ·exact(hoth a (.inr hb'')).1 (hsep a h (hoth a (.inr hb'')).2.2)
     ·rintro a ha b' hb'' rfl;rcases pA.1 hb'' with h|h
      ·rcases(q4 a).1 h with h|h
       ·exact n3 a ha a (by simp[h.1]) rfl
       ·exact(hoth a (.inl ha)).1 (hsep a h (hoth a (.inl ha)).2.2)
      ·exact n3 a ha a (by simp[h]) rfl
   ·intro k;simp only[pD,pA,q4 k];constructor
    ·rintro(rfl|(h|h)|h)
     ·exact .inl ⟨.inl rfl,hb1y⟩
     ·exact .inl ⟨.inr (.inl (.inl h)),(hoth k (.inl h)).1⟩
     ·rcases h with h|h
      ·exact .inl ⟨.inr (.inl (.inr h.1)),h.2⟩
      ·exact .inr h
     ·exact .inl ⟨.inr (.inr h),(hoth k (.inr h)).1⟩
    ·rintro(⟨rfl|(h|h)|h,h'⟩|h)
     ·exact .inl rfl
     ·exact .inr (.inl (.inl h))
     ·exact .inr (.inl (.inr (.inl ⟨h,h'⟩)))
     ·exact .inr (.inr h)
     ·exact .inr (.inl (.inr (.inr h)))
   ·rw[Jo hs,hh' b0 (.inl rfl) (λh=>hb (by simp[g7 _ h])) (λh=>hb (h ▸ hb1)),hh]
 | .deref::_,.atom _,_,_,_,_,_,_,_,_,_,_,_,_,e=>by simp[vQ]at e
 | .deref::_,.fn _ _,_,_,_,_,_,_,_,_,_,_,_,_,e=>by simp[vQ]at e
 | .deref::_,.agg _,_,_,_,_,_,_,_,_,_,_,_,_,e=>by simp[vQ]at e
 | .deref::_,.tup _,_,_,_,_,_,_,_,_,_,_,_,_,e=>by simp[vQ]at e
 | .deref::_,.sl _ _ _,_,_,_,_,_,_,_,_,_,_,_,_,e=>by simp[vQ]at e
 | .deref::_,.sptr _,_,_,_,_,_,_,_,_,_,_,_,_,e=>by simp[vQ]at e
 | .deref::_,.dop _,_,_,_,_,_,_,_,_,_,_,_,_,e=>by simp[vQ]at e
 | .deref::_,.osl _ _ _,_,_,_,_,_,_,_,_,_,_,_,_,e=>by simp[vQ]at e
 | .deref::_,.dead _,_,_,_,_,_,_,_,_,_,_,_,_,e=>by simp[vQ]at e
 | .deref::_,.opq _,_,_,_,_,_,_,_,_,_,_,_,_,e=>by simp[vQ]at e
 | .fld _::_,.atom _,_,_,_,_,_,_,_,_,_,_,_,_,e=>by simp[vQ]at e
 | .fld _::_,.fn _ _,_,_,_,_,_,_,_,_,_,_,_,_,e=>by simp[vQ]at e
 | .fld _::_,.tup _,_,_,_,_,_,_,_,_,_,_,_,_,e=>by simp[vQ]at e
 | .fld _::_,.sl _ _ _,_,_,_,_,_,_,_,_,_,_,_,_,e=>by simp[vQ]at e
 | .fld _::_,.sptr _,_,_,_,_,_,_,_,_,_,_,_,_,e=>by simp[vQ]at e
 | .fld _::_,.dop _,_,_,_,_,_,_,_,_,_,_,_,_,e=>by simp[vQ]at e
 | .fld _::_,.osl _ _ _,_,_,_,_,_,_,_,_,_,_,_,_,e=>by simp[vQ]at e
 | .fld _::_,.box _,_,_,_,_,_,_,_,_,_,_,_,_,e=>by simp[vQ]at e
 | .fld _::_,.dead _,_,_,_,_,_,_,_,_,_,_,_,_,e=>by simp[vQ]at e
 | .fld _::_,.opq _,_,_,_,_,_,_,_,_,_,_,_,_,e=>by simp[vQ]at e
 | .idx _::_,.atom _,_,_,_,_,_,_,_,_,_,_,_,_,e=>by simp[vQ]at e
 | .idx _::_,.fn _ _,_,_,_,_,_,_,_,_,_,_,_,_,e=>by simp[vQ]at e
 | .idx _::_,.agg _,_,_,_,_,_,_,_,_,_,_,_,_,e=>by simp[vQ]at e
 | .idx _::_,.tup _,_,_,_,_,_,_,_,_,_,_,_,_,e=>by simp[vQ]at e
 | .idx _::_,.sl _ _ _,_,_,_,_,_,_,_,_,_,_,_,_,e=>by simp[vQ]at e
 | .idx _::_,.sptr _,_,_,_,_,_,_,_,_,_,_,_,_,e=>by simp[vQ]at e
 | .idx _::_,.dop _,_,_,_,_,_,_,_,_,_,_,_,_,e=>by simp[vQ]at e
 | .idx _::_,.box _,_,_,_,_,_,_,_,_,_,_,_,_,e=>by simp[vQ]at e
 | .idx _::_,.dead _,_,_,_,_,_,_,_,_,_,_,_,_,e=>by simp[vQ]at e
 | .idx _::_,.opq _,_,_,_,_,_,_,_,_,_,_,_,_,e=>by simp[vQ]at e
def y8:A->List Value->Value
 | .agg _,cs=>.agg cs.toArray
 | _,cs=>cs.headD undef
def uj (h:Array Obj):List Q5->A->Value->Option (Nat×Nat)
 | .deref::p,.box x,.pointer (some a)=>z7O h p x a.block 0
 | .idx i::p,.osl sz _ es,.slice (some a) _ _=>match es[i]? with|some y=>z7O h p y a.block (i*sz)|none=>none
 | _,_,_=>none
theorem UI {S:zo}{h:Array Obj}:∀(p:List Q5) {x0:A} {cs0:List Value} {F0:List Nat},
  zU S h x0 cs0 F0->F0.Nodup->∀{y:A},p≠[]->(∀i q,p≠.fld i::q)->vQ p x0=some y ->
  ∃b o arr ty csy Fy,uj h p x0 (y8 x0 cs0)=some (b,o)/\h[b]?=some (.cells arr ty (0,0))/\zaW arr o csy/\zU S h y csy Fy/\b∉Fy/\b∈F0/\(∀k∈Fy,k∈F0)/\Fy.Nodup /\
   ∀(S':zo) (h':Array Obj) (z:A) (csz:List Value) (Fz:List Nat),(∀b o v,S b o=some v->S' b o=some v)->csz.length=csy.length->zU S' h' z csz Fz->Fz.Nodup ->
    (∀k∈F0,k∉Fy->∀o,S' k o=none)->(∀k,k∈F0->k∉Fy->k≠b->h'[k]?=h[k]?)->h'[b]?=some (.cells (z1a arr o csz) ty (0,0)) ->
    (∀k∈Fz,k∈F0->k∈Fy) ->
    ∃F0',zU S' h' (JN p x0 z) cs0 F0'/\F0'.Nodup/\(∀k,k∈F0'↔(k∈F0/\k∉Fy)\/k∈Fz)
 | [],_,_,_,_,_,_,np,_,_=>absurd rfl np
 | .fld i::q,_,_,_,_,_,_,_,nf,_=>absurd rfl (nf i q)
 | .deref::p,.box x,cs0,F0,hx,hn,y,_,_,e=>by
  simp only[vQ]at e;simp only[zU]at hx;obtain⟨b1,ty1,l,F',rfl,e1,e2,rfl,e4⟩:=hx;have hn':=pY.1 hn;have hsl:zaW l.toArray 0 l:=λj v hj=>by simpa using hj
  obtain⟨b,o,arr,ty,csy,Fy,g1,g2,g3,g4,g5,g6,g7,g8,g9⟩:=zlw p e2 hn'.2 hn'.1 e1 hsl e;have hb1:b∈b1::F':=by rcases g6 with rfl|g6 <;> simp[*]
  refine⟨b,o,arr,ty,csy,Fy,by simp only[y8,nV,uj];exact g1,g2,g3,g4,g5,hb1,λk hk=>by simp[g7 k hk],g8,?_⟩;intro S' h' z csz Fz hS hl hz hnz hfree hh' hb' hsep;obtain⟨cs',F0',q1,q2,q3,q4,q5⟩:=g9 S' h' z csz Fz hS hl hz hnz (λk hk=>hfree k (by simp[hk])) (λk hk=>hh' k (by simpa using hk)) hb' (λk hk hk'=>hsep k hk (by simp[hk']));have hb1y:b1∉Fy:=λh=>hn'.1 (g7 _ h);have hov:z1a l.toArray 0 cs'=cs'.toArray:=by
   apply mV;intro k;rw[YO];simp only[pT,if_true,nG,rb];by_cases hk:k<l.length
   ·rw[p7 hk,p7 (by omega)];simp
   ·rw[pQ (by omega),pQ (by omega)];rfl
  refine⟨b1::F0',?_,?_,?_⟩
  ·simp only[JN,zU];exact⟨b1,ty1,cs',F0',rfl,by rw[q5,hov],q1,rfl,hfree b1 (by simp) hb1y⟩
  ·refine pY.2 ⟨λh=>?_,q3⟩;rcases(q4 b1).1 h with h|h
   ·exact hn'.1 h.1
   ·exact hb1y (hsep b1 h (by simp))
  ·intro k;simp only[pD,q4 k];constructor
   ·rintro(rfl|h|h)
    ·exact .inl ⟨.inl rfl,hb1y⟩
    ·exact .inl ⟨.inr h.1,h.2⟩
    ·exact .inr h
   ·rintro(⟨rfl|h,h'⟩|h)
    ·exact .inl rfl
    ·exact .inr (.inl ⟨h,h'⟩)
    ·exact .inr (.inr h)
 | .idx i::p,.osl sz t es,cs0,F0,hx,hn,y,_,_,e=>by
  simp only[vQ]at e;cases hf:es[i]? with
  | none=>simp[hf]at e
  | some x1=>
   simp only[hf]at e;simp only[zU]at hx;obtain⟨pp,c,rfl,t1,t2,t3,t4,t5⟩:=hx;rcases t5 with⟨rfl,_⟩|⟨b1,arr1,ty1,l,F',rfl,e1,e2,e3,e4,rfl,e6⟩
   ·simp at hf
   have hn':=pY.1 hn;obtain⟨c1,ci,c2,F1,Fi,F2,hl0,rfl,hl1,hxi,hup⟩:=zZ.split e4 hf;have hsl:zaW arr1 0 l:=by
    intro j v hj;rw[<-e3,pV]at hj;split at hj
    ·simpa using hj
    ·cases hj
   have hit:c1.length=i*sz:=by rw[hl1,A.sizes_const (sz:=sz) (λx hx=>t4 x (gC hx)),pU];have:=(p8.1 hf).1;rw[mH (by omega)]
   have hn2:=hn'.2;rw[pL,pM]at hn2;obtain⟨n1,n2,n3⟩:=hn2;rw[pM]at n2;obtain⟨n4,n5,n6⟩:=n2;have hbi:b1∉Fi:=λh=>hn'.1 (by simp[h]);have hsm:zaW arr1 (i*sz) ci:=by have:=(hl0 ▸ hsl:zaW arr1 0 (c1++ci++c2)).mid;rwa[gN,hit]at this
   obtain⟨b,o,arr,ty,csy,Fy,g1,g2,g3,g4,g5,g6,g7,g8,g9⟩:=zlw p hxi n4 hbi e1 hsm e;have hb1:b∈b1::(F1++Fi++F2):=by rcases g6 with rfl|g6 <;> simp[*]
   refine⟨b,o,arr,ty,csy,Fy,by simp only[y8,nV,uj,hf];exact g1,g2,g3,g4,g5,hb1,λk hk=>by simp[g7 k hk],g8,?_⟩;intro S' h' z csz Fz hS hl hz hnz hfree hh' hb' hsep;have hsub:∀k∈Fi,k∈b1::(F1++Fi++F2):=λk hk=>by simp[hk]
   have hsub1:∀k,k=b1\/k∈Fi->k∈b1::(F1++Fi++F2):=λk hk=>by rcases hk with rfl|hk <;> simp[*]
   obtain⟨ci',Fi',q1,q2,q3,q4,q5⟩:=g9 S' h' z csz Fz hS hl hz hnz (λk hk=>hfree k (hsub k hk)) (λk hk=>hh' k (hsub1 k hk)) hb' (λk hk hk'=>hsep k hk (hsub k hk'));have hoth:∀k,k∈F1\/k∈F2->k∉Fy/\k≠b/\k∈b1::(F1++Fi++F2):=by
    intro k hk;have hki:k∉Fi:=by
     rcases hk with hk|hk
     ·exact λh=>n3 k hk k (by simp[h]) rfl
     ·exact λh=>n6 k h k hk rfl
    refine⟨λh=>hki (g7 k h),?_,by rcases hk with hk|hk <;> simp[hk]⟩;rintro rfl;rcases g6 with rfl|g6
    ·exact hn'.1 (by rcases hk with hk|hk <;> simp[hk])
    ·exact hki g6
   have hb1y:b1∉Fy:=λh=>hbi (g7 _ h);have hes:(es.set i (JN p x1 z)).length=es.length:=by simp
   have hsz1:(JN p x1 z).size=sz:=by rw[<-q1.len,q2,hxi.len];exact t4 x1 (pO hf)
   have hlen:l.length=es.length*sz:=by rw[e4.len,A.sizes_const t4]
   refine⟨b1::(F1++Fi' ++ F2),?_,?_,?_⟩
   ·simp only[JN,hf,zU,hes];refine⟨_,c,rfl,t1,t2,t3,?_,.inr ⟨b1,z1a arr1 (i*sz) ci',ty1,c1++ci' ++ c2,F1++Fi' ++ F2,rfl,q5,by simp[e2],?_,?_,rfl,hfree b1 (by simp) hb1y⟩⟩
    ·intro x hx;rcases List.mem_or_eq_of_mem_set hx with h|rfl
     ·exact t4 x h
     ·exact hsz1
    ·have hov:z1a arr1 0 (c1++ci' ++ c2)=z1a arr1 (i*sz) ci':=by have:=z8O (arr:=arr1) (o:=0) (c1:=c1) (ci:=ci) (ci':=ci') (c2:=c2) (hl0 ▸ hsl) q2;rwa[gN,hit]at this
     rw[<-hov];have hle:es.length*sz<=arr1.size:=pE (gF _ t2) e2;apply gX;intro k;rw[pV];have hll:(c1++ci' ++ c2).length=es.length*sz:=by rw[<-hlen,hl0];simp[q2]
     split
     ·rename_i hk;have hk2:k<(c1++ci' ++ c2).length:=by omega
      rw[mJ,YO,gS (by omega:k<arr1.size),if_pos (pT _),nG,p7 hk2];simp
     ·rw[pQ (by omega)]
    ·exact hup S' h' _ ci' Fi' hS (λk hk=>⟨hh' k (hoth k hk).2.2 (hoth k hk).1 (hoth k hk).2.1,hfree k (hoth k hk).2.2 (hoth k hk).1⟩) q1
   ·refine pY.2 ⟨?_,?_⟩
    ·intro h;simp only[pA]at h;rcases h with(h|h)|h
     ·exact hn'.1 (by simp[h])
     ·rcases(q4 b1).1 h with h|h
      ·exact hbi h.1
      ·exact hb1y (hsep b1 h (by simp))
     ·exact hn'.1 (by simp[h])
    ·rw[pL,pM];refine⟨n1,?_,?_⟩
     ·rw[pM];refine⟨q3,n5,?_⟩;rintro a ha b' hb'' rfl;rcases(q4 a).1 ha with h|h
      ·exact n6 a h.1 a hb'' rfl
      ·exact(hoth a (.inr hb'')).1 (hsep a h (hoth a (.inr hb'')).2.2)
     ·rintro a ha b' hb'' rfl;rcases pA.1 hb'' with h|h
      ·rcases(q4 a).1 h with h|h
       ·exact n3 a ha a (by simp[h.1]) rfl
       ·exact(hoth a (.inl ha)).1 (hsep a h (hoth a (.inl ha)).2.2)
      ·exact n3 a ha a (by simp[h]) rfl
   ·intro k;simp only[pD,pA,q4 k];constructor
    ·rintro(rfl|(h|h)|h)
     ·exact .inl ⟨.inl rfl,hb1y⟩
     ·exact .inl ⟨.inr (.inl (.inl h)),(hoth k (.inl h)).1⟩
     ·rcases h with h|h
      ·exact .inl ⟨.inr (.inl (.inr h.1)),h.2⟩
      ·exact .inr h
     ·exact .inl ⟨.inr (.inr h),(hoth k (.inr h)).1⟩
    ·rintro(⟨rfl|(h|h)|h,h'⟩|h)
     ·exact .inl rfl
     ·exact .inr (.inl (.inl h))
     ·exact .inr (.inl (.inr (.inl ⟨h,h'⟩)))
     ·exact .inr (.inr h)
     ·exact .inr (.inl (.inr (.inr h)))
 | .deref::_,.atom _,_,_,_,_,_,_,_,e=>by simp[vQ]at e
 | .deref::_,.fn _ _,_,_,_,_,_,_,_,e=>by simp[vQ]at e
 | .deref::_,.agg _,_,_,_,_,_,_,_,e=>by simp[vQ]at e
 | .deref::_,.tup _,_,_,_,_,_,_,_,e=>by simp[vQ]at e
 | .deref::_,.sl _ _ _,_,_,_,_,_,_,_,e=>by simp[vQ]at e
 | .deref::_,.sptr _,_,_,_,_,_,_,_,e=>by simp[vQ]at e
 | .deref::_,.dop _,_,_,_,_,_,_,_,e=>by simp[vQ]at e
 | .deref::_,.osl _ _ _,_,_,_,_,_,_,_,e=>by simp[vQ]at e
 | .deref::_,.dead _,_,_,_,_,_,_,_,e=>by simp[vQ]at e
 | .deref::_,.opq _,_,_,_,_,_,_,_,e=>by simp[vQ]at e
 | .idx _::_,.atom _,_,_,_,_,_,_,_,e=>by simp[vQ]at e
 | .idx _::_,.fn _ _,_,_,_,_,_,_,_,e=>by simp[vQ]at e
 | .idx _::_,.agg _,_,_,_,_,_,_,_,e=>by simp[vQ]at e
 | .idx _::_,.tup _,_,_,_,_,_,_,_,e=>by simp[vQ]at e
 | .idx _::_,.sl _ _ _,_,_,_,_,_,_,_,e=>by simp[vQ]at e
 | .idx _::_,.sptr _,_,_,_,_,_,_,_,e=>by simp[vQ]at e
 | .idx _::_,.dop _,_,_,_,_,_,_,_,e=>by simp[vQ]at e
 | .idx _::_,.box _,_,_,_,_,_,_,_,e=>by simp[vQ]at e
 | .idx _::_,.dead _,_,_,_,_,_,_,_,e=>by simp[vQ]at e
 | .idx _::_,.opq _,_,_,_,_,_,_,_,e=>by simp[vQ]at e
theorem vD {h h':Array Obj}{b o:Nat}(e:h'[b]?=h[b]?):yj h' b o=yj h b o:=by simp[yj,e]
theorem z0n {h h':Array Obj}:∀(p:List Q5) {x:A} {cs:List Value} {F:List Nat} {b o:Nat},zU S h x cs F->(∀j v,cs[j]?=some v->yj h b (o+j)=some v/\yj h' b (o+j)=some v) ->
  (∀k∈F,h'[k]?=h[k]?)->z7O h' p x b o=z7O h p x b o
 | [],_,_,_,_,_,_,_,_=>rfl
 | .fld i::p,.agg fs,cs,F,b,o,hx,hc,hF=>by
  simp only[z7O];cases hf:fs[i]? with
  | none=>rfl
  | some y=>
   simp only[zU]at hx;obtain⟨c1,ci,c2,F1,Fi,F2,rfl,rfl,hl1,hxi,_⟩:=zZ.split hx hf;dsimp only
   rw[<-hl1];refine z0n p hxi (λj v hj=>?_) (λk hk=>hF k (by simp[hk]));have hlt:=(p8.1 hj).1;rw[Nat.add_assoc];exact hc (c1.length+j) v (by rw[pL,pF (by omega),mT,pG hlt];exact hj)
 | .deref::p,.box x,cs,F,b,o,hx,hc,hF=>by simp only[zU]at hx;obtain⟨b1,ty1,l,F',rfl,e1,e2,rfl,e4⟩:=hx;have h0:=hc 0 _ rfl;simp only[mY]at h0;simp only[z7O,h0.1,h0.2];refine z0n p e2 (λj v hj=>?_) (λk hk=>hF k (by simp[hk]));rw[vD (h:=h) (h':=h') (hF b1 (by simp))];simp[yj,e1,hj]
 | .idx i::p,.osl sz t es,cs,F,b,o,hx,hc,hF=>by
  simp only[z7O];cases hf:es[i]? with
  | none=>rfl
  | some y=>
   simp only[zU]at hx;obtain⟨pp,c,rfl,t1,t2,t3,t4,t5⟩:=hx;rcases t5 with⟨rfl,_⟩|⟨b1,arr1,ty1,l,F',rfl,e1,e2,e3,e4,rfl,e6⟩
   ·simp at hf
   have h0:=hc 0 _ rfl;simp only[mY]at h0;simp only[h0.1,h0.2];obtain⟨c1,ci,c2,F1,Fi,F2,rfl,rfl,hl1,hxi,_⟩:=zZ.split e4 hf;have hit:c1.length=i*sz:=by rw[hl1,A.sizes_const (sz:=sz) (λx hx=>t4 x (gC hx)),pU];have:=(p8.1 hf).1;rw[mH (by omega)]
   refine z0n p hxi (λj v hj=>?_) (λk hk=>hF k (by simp[hk]));rw[vD (h:=h) (h':=h') (hF b1 (by simp))];have hlt:=(p8.1 hj).1;have:(c1++ci++c2)[i*sz+j]?=some v:=by rw[<-hit,pL,pF (by omega),mT,pG hlt];exact hj
   rw[<-e3,pV]at this;split at this
   ·simp only[yj,e1];simpa using this
   ·cases this
 | .deref::_,.atom _,_,_,_,_,_,_,_=>rfl
 | .deref::_,.fn _ _,_,_,_,_,_,_,_=>rfl
 | .deref::_,.agg _,_,_,_,_,_,_,_=>rfl
 | .deref::_,.tup _,_,_,_,_,_,_,_=>rfl
 | .deref::_,.sl _ _ _,_,_,_,_,_,_,_=>rfl
 | .deref::_,.sptr _,_,_,_,_,_,_,_=>rfl
 | .deref::_,.dop _,_,_,_,_,_,_,_=>rfl
 | .deref::_,.osl _ _ _,_,_,_,_,_,_,_=>rfl
 | .deref::_,.dead _,_,_,_,_,_,_,_=>rfl
 | .deref::_,.opq _,_,_,_,_,_,_,_=>rfl
 | .fld _::_,.atom _,_,_,_,_,_,_,_=>rfl
 | .fld _::_,.fn _ _,_,_,_,_,_,_,_=>rfl
 | .fld _::_,.tup _,_,_,_,_,_,_,_=>rfl
 | .fld _::_,.sl _ _ _,_,_,_,_,_,_,_=>rfl
 | .fld _::_,.sptr _,_,_,_,_,_,_,_=>rfl
 | .fld _::_,.dop _,_,_,_,_,_,_,_=>rfl
 | .fld _::_,.osl _ _ _,_,_,_,_,_,_,_=>rfl
 | .fld _::_,.box _,_,_,_,_,_,_,_=>rfl
 | .fld _::_,.dead _,_,_,_,_,_,_,_=>rfl
 | .fld _::_,.opq _,_,_,_,_,_,_,_=>rfl
 | .idx _::_,.atom _,_,_,_,_,_,_,_=>rfl
 | .idx _::_,.fn _ _,_,_,_,_,_,_,_=>rfl
 | .idx _::_,.agg _,_,_,_,_,_,_,_=>rfl
 | .idx _::_,.tup _,_,_,_,_,_,_,_=>rfl
 | .idx _::_,.sl _ _ _,_,_,_,_,_,_,_=>rfl
 | .idx _::_,.sptr _,_,_,_,_,_,_,_=>rfl
 | .idx _::_,.dop _,_,_,_,_,_,_,_=>rfl
 | .idx _::_,.box _,_,_,_,_,_,_,_=>rfl
 | .idx _::_,.dead _,_,_,_,_,_,_,_=>rfl
 | .idx _::_,.opq _,_,_,_,_,_,_,_=>rfl
theorem z5s {h h':Array Obj}(p:List Q5){x:A}   (hx:zU S h x cs F)(hF:∀k∈F,h'[k]?=h[k]?):uj h' p x (y8 x cs)=uj h p x (y8 x cs):=by
 match p,x,hx with
 | [],x,_=>cases x <;> simp[uj]
 | .fld _::_,x,_=>cases x <;> simp[uj]
 | .deref::p,.box x,hx=>simp only[zU]at hx;obtain⟨b1,ty1,l,F',rfl,e1,e2,rfl,e4⟩:=hx;simp only[y8,nV,uj];refine z0n p e2 (λj v hj=>?_) (λk hk=>hF k (by simp[hk]));rw[vD (h:=h) (h':=h') (hF b1 (by simp))];simp[yj,e1,hj]
 | .idx i::p,.osl sz t es,hx=>
  simp only[zU]at hx;obtain⟨pp,c,rfl,t1,t2,t3,t4,t5⟩:=hx;rcases t5 with⟨rfl,_,rfl,_⟩|⟨b1,arr1,ty1,l,F',rfl,e1,e2,e3,e4,rfl,e6⟩
  ·simp[y8,uj]
  simp only[y8,nV,uj];cases hf:es[i]? with
  | none=>rfl
  | some y=>
   obtain⟨c1,ci,c2,F1,Fi,F2,rfl,rfl,hl1,hxi,_⟩:=zZ.split e4 hf;have hit:c1.length=i*sz:=by rw[hl1,A.sizes_const (sz:=sz) (λx hx=>t4 x (gC hx)),pU];have:=(p8.1 hf).1;rw[mH (by omega)]
   refine z0n p hxi (λj v hj=>?_) (λk hk=>hF k (by simp[hk]));rw[vD (h:=h) (h':=h') (hF b1 (by simp))];have hlt:=(p8.1 hj).1;have:(c1++ci++c2)[i*sz+j]?=some v:=by rw[<-hit,pL,pF (by omega),mT,pG hlt];exact hj
   rw[<-e3,pV]at this;split at this
   ·simp only[yj,e1];simpa using this
   ·cases this
 | .deref::_,.atom _,_=>rfl
 | .deref::_,.fn _ _,_=>rfl
 | .deref::_,.agg _,_=>rfl
 | .deref::_,.tup _,_=>rfl
 | .deref::_,.sl _ _ _,_=>rfl
 | .deref::_,.sptr _,_=>rfl
 | .deref::_,.dop _,_=>rfl
 | .deref::_,.osl _ _ _,_=>rfl
 | .deref::_,.dead _,_=>rfl
 | .deref::_,.opq _,_=>rfl
 | .idx _::_,.atom _,_=>rfl
 | .idx _::_,.fn _ _,_=>rfl
 | .idx _::_,.agg _,_=>rfl
 | .idx _::_,.tup _,_=>rfl
 | .idx _::_,.sl _ _ _,_=>rfl
 | .idx _::_,.sptr _,_=>rfl
 | .idx _::_,.dop _,_=>rfl
 | .idx _::_,.box _,_=>rfl
 | .idx _::_,.dead _,_=>rfl
 | .idx _::_,.opq _,_=>rfl
inductive T where
 | gone
 | d (a:A)
 | own (a:A)
 | als (r:Nat) (p:List Q5) (er ec:Nat)
 | ptr (r:Nat) (p:List Q5) (er ec:Nat)
structure Ent where
 t:T
 er:Nat
 ec:Nat
abbrev St:=Nat->Ent
def upd (st:St)(k:Nat)(e:Ent):St:=λt=>if t=k then e else st t
theorem uT (st:St)(k:Nat)(e:Ent):upd st k e k=e:=by simp[upd]
theorem Q6 (st:St){k t:Nat}(e:Ent)(h:t≠k):upd st k e t=st t:=by simp[upd,h]
def zh:List (Nat×Ent)->St->St
 | [],st=>st
 | u::us,st=>zh us (upd st u.1 u.2)
def SM (α:Type):=St->Option (α×List Nat×List (Nat×Ent))
def SM.bind {α β:Type}(m:SM α)(f:α->SM β):SM β:=λst=>
 match m st with
 | none=>none
 | some (a,R,U)=>
  match f a (zh U st) with
  | none=>none
  | some (b,R',U')=>some (b,R++R',U++U')
variable {α:Type}
def SM.pure (a:α):SM α:=λ_=>some (a,[],[])
instance:Monad SM:={ pure:=SM.pure,bind:=SM.bind }
def zu:SM α:=λ_=>none
def rdE (k:Nat):SM Ent:=λst=>some (st k,[k],[])
def wrE (k:Nat)(e:Ent):SM Unit:=λ_=>some ((),[],[(k,e)])
def ofO (x:Option α):SM α:=λ_=>match x with|some a=>some (a,[],[])|none=>none
def UR {α β:Type}(R:α->β->Prop):List α->List β->Prop
 | [],[]=>True
 | a::as_,b::bs=>R a b/\UR R as_ bs
 | _,_=>False
def qa (S:zo)(a:A)(v:Value):Prop:=∃cs,Rep S a cs/\v=y8 a cs
def wh (S:zo):A->Value->Prop
 | .tup fs,v=>∃vs,v=.tuple vs.toArray/\UR (qa S) fs vs
 | a,v=>qa S a v
theorem UR.mono {α β:Type}{R R':α->β->Prop}(h:∀a b,R a b->R' a b):∀{as_:List α} {bs:List β},UR R as_ bs->UR R' as_ bs
 | [],[],_=>trivial
 | _::_,_::_,r=>⟨h _ _ r.1,UR.mono h r.2⟩
 | [],_::_,r=>r.elim
 | _::_,[],r=>r.elim
theorem qa.mono {S S':zo}(h:∀b o v,S b o=some v->S' b o=some v){a:A}  (r:qa S a v):qa S' a v :=
 let ⟨cs,r1,r2⟩:=r;⟨cs,r1.mono h,r2⟩
theorem wh.mono {S S':zo}(h:∀b o v,S b o=some v->S' b o=some v){a:A}  (r:wh S a v):wh S' a v:=by cases a <;> simp only[wh]at r ⊢ <;> first|exact r.mono h|(obtain⟨vs,e,r⟩:=r;exact⟨vs,e,r.mono λ_ _ q=>q.mono h⟩)
theorem qa.repV {a:A}  (r:qa S a v):wh S a v:=by cases a <;> simp only[wh] <;> first|exact r|(obtain⟨cs,h,_⟩:=r;simp[Rep]at h)
theorem wh.rep1 {a:A}  (h:a.isD=true)(r:wh S a v):qa S a v:=by cases a <;> simp only[wh]at r <;> first|exact r|simp[A.isD]at h
def z2C:List Q5->Bool
 | .deref::_|.idx _::_=>true
 | _=>false
def zmn (h:Array Obj)(b o:Nat)(cs:List Value):Prop:=∀j u,cs[j]?=some u->yj h b (o+j)=some u
def XJ (h:Array Obj)(st:St)(tv:Nat->Value)(r:Nat)(p:List Q5)(er ec:Nat)(v:Value):Prop :=
 er<=(st r).er/\ec<=(st r).ec /\
 match (st r).t with
 | .own x=>(st r).er=er->(p=[]\/(st r).ec=ec)->(p=[]/\v=tv r)\/(z2C p=true/\∃y b o cs,vQ p x=some y/\uj h p x (tv r)=some (b,o)/\cs.length=y.size/\zmn h b o cs/\v=y8 y cs)
 | .d _=>(st r).er=er->p=[]->v=tv r
 | _=>True
def Xj (h:Array Obj)(st:St)(tv:Nat->Value)(r:Nat)(p:List Q5)(er ec:Nat)(v:Value):Prop :=
 er<=(st r).er/\ec<=(st r).ec /\
 match (st r).t with
 | .own x=>(st r).er=er->(st r).ec=ec->z2C p=true/\∃y b o,vQ p x=some y/\uj h p x (tv r)=some (b,o)/\v=.pointer (some ⟨b,o,none⟩)
 | _=>True
def wv (S:zo)(h:Array Obj)(st:St)(tv:Nat->Value)(F:List Nat)(e:Ent)(v:Value):Prop :=
 match e.t with
 | .gone=>F=[]
 | .d a=>wh S a v/\F=[]
 | .own a=>∃cs,zU S h a cs F/\F.Nodup/\v=y8 a cs
 | .als r p er ec=>F=[]/\XJ h st tv r p er ec v
 | .ptr r p er ec=>F=[]/\Xj h st tv r p er ec v
def pinned:List (Nat×Value)->Nat->Bool
 | [],_=>false
 | p::ps,k=>p.1==k || pinned ps k
theorem z6G:∀{ps:List (Nat×Value)} {k:Nat} {v:Value},(k,v)∈ps->pinned ps k=true
 | p::ps,k,v,h=>by
  simp only[pinned,mI,beq_iff_eq];rcases pD.1 h with rfl|h
  ·exact .inl rfl
  ·exact .inr (z6G h)
structure Fr where
 size:Nat
 pin:List (Nat×Value)
def Fr.ok (n:Fr)(k:Nat):Bool:=decide (k<n.size) && !pinned n.pin k
variable {k:Nat}{n:Fr}
theorem Fr.lt (h:n.ok k=true):k<n.size:=by simp[Fr.ok]at h;exact h.1
theorem Fr.free (h:n.ok k=true):pinned n.pin k=false:=by simp[Fr.ok]at h;exact h.2
def zs6 (D:Nat):Deferred:={ target:=.collected D,args:=#[] }
structure Ctx where
 n:Fr
 df:List Nat
 w0:World
 S0:zo
 M:Nat->Prop
structure UQ (M:Nat->Prop)(w w':World):Prop where
 os:w'.os=w.os
 tape:w'.tape=w.tape
 output:w'.output=w.output
 drawn:w.drawn<=w'.drawn
 size:w.heap.size<=w'.heap.size
 block:∀k,¬M k->w'.heap[k]?=w.heap[k]?
theorem UQ.refl (M:Nat->Prop)(w:World):UQ M w w:=⟨rfl,rfl,rfl,pC _,pC _,λ_ _=>rfl⟩
variable {M:Nat->Prop}
theorem UQ.trans {a b c:World}(h:UQ M a b)(k:UQ M b c):UQ M a c :=
 ⟨k.os.trans h.os,k.tape.trans h.tape,k.output.trans h.output,pE h.drawn k.drawn,pE h.size k.size,λi hi=>(k.block i hi).trans (h.block i hi)⟩
theorem UQ.mono {M M':Nat->Prop}{w w':World}(h:UQ M w w')(hM:∀k,M k->M' k):UQ M' w w':=⟨h.os,h.tape,h.output,h.drawn,h.size,λk hk=>h.block k λq=>hk (hM k q)⟩
theorem UQ.drew {a w:World}(h:UQ M a w):UQ M a w.drew:=⟨h.os,h.tape,h.output,nC h.drawn,h.size,h.block⟩
theorem UQ.alloc {a w:World}(h:UQ M a w)(hM:M w.heap.size)(o:Obj):UQ M a (w.alloc o) :=
 h.trans ⟨rfl,rfl,rfl,pC _,by simp,λk hk=>by show(w.heap.push o)[k]?=_;rw[mA,if_neg (by rintro rfl;exact hk hM)]⟩
def Act.tv (a:Act)(t:Nat):Value:=a.tmps.getD t undef
def Gok (S:zo):Prop:=∀g x,zp6 g=some x->∃l,Rep S x l/\zbH S g 0 l
theorem Gok.mono {S S':zo}(h:∀b o v,S b o=some v->S' b o=some v)(k:Gok S):Gok S':=λg x e=>let ⟨l,r,q⟩:=k g x e;⟨l,r.mono h,q.mono h⟩
def Gbk (S:zo)(w:World):Prop:=∀g x,zp6 g=some x->(∃c ty fr,w.heap[g]?=some (.cells c ty fr)/\c.size=x.size)/\∃v,S g 0=some v
theorem Gbk.of {S S':zo}{w w':World}(h:Gbk S w)(hS:∀b o v,S b o=some v->S' b o=some v)(hb:∀g x,zp6 g=some x->w'.heap[g]?=w.heap[g]?):Gbk S' w':=λg x e=>by obtain⟨⟨c,ty,fr,h1,h2⟩,v,h3⟩:=h g x e;exact⟨⟨c,ty,fr,(hb g x e).trans h1,h2⟩,v,hS _ _ _ h3⟩
variable {w:World}
theorem Gbk.ne (h:Gbk S w){b:Nat}(hb:S b 0=none):∀x,zp6 b≠some x:=λx e=>by obtain⟨_,v,h3⟩:=h b x e;rw[hb]at h3;cases h3
theorem Gbk.lt (h:Gbk S w){g:Nat}{x:A}(e:zp6 g=some x):g<w.heap.size:=by obtain⟨⟨c,ty,fr,h1,_⟩,_⟩:=h g x e;exact(pK.1 h1).1
structure zAm (M:Nat->Prop)(w:World):Prop where
 new:∀k,w.heap.size<=k->M k
 far:∀g x,zp6 g=some x->¬M g
instance {M:Nat->Prop}{w:World}:CoeFun (zAm M w) λ_=>∀k,w.heap.size<=k->M k:=⟨zAm.new⟩
structure xu (S:zo)(w:World):Prop where
 cell:∀b o v,S b o=some v->yj w.heap b o=some v
 gok:Gok S
 blk:Gbk S w
instance {S:zo}{w:World}:CoeFun (xu S w) λ_=>∀b o v,S b o=some v->yj w.heap b o=some v:=⟨xu.cell⟩
structure Sim (C:Ctx)(S:zo)(Fp:Nat->List Nat)(X:List Nat)(st:St)(a:Act)(w:World):Prop where
 size:a.tmps.size=C.n.size
 pin:∀i v,(i,v)∈C.n.pin->Act.tv a i=v
 defers:a.defers=C.df.map zs6
 below:UQ C.M C.w0 w
 mine:zAm C.M C.w0
 still:xu S w
 sinc:∀b o v,C.S0 b o=some v->S b o=some v
 sbase:∀b o,¬C.M b->S b o=C.S0 b o
 ent:∀t,wv S w.heap st (Act.tv a) (Fp t) (st t) (Act.tv a t)
 disj:∀t u k,k∈Fp t->k∈Fp u->t=u
 base:∀t k,k∈Fp t->C.M k
 xn:X.Nodup
 xd:∀t k,k∈X->k∉Fp t
 xb:∀k,k∈X->C.M k
def z2j (Fp:Nat->List Nat)(k:Nat)(F:List Nat):Nat->List Nat:=λt=>if t=k then F else Fp t
variable {st:St}{p:List Q5}{er ec:Nat}{r:Nat}
theorem XJ.frame {h h':Array Obj}  {tv:Nat->Value}  {p:List Q5}{er ec:Nat}{v:Value}  (hr:wv S h st tv F (st r) (tv r))(hF:∀k∈F,h'[k]?=h[k]?)
  (q:XJ h st tv r p er ec v):XJ h' st tv r p er ec v:=by
 obtain⟨q1,q2,q3⟩:=q;refine⟨q1,q2,?_⟩;unfold wv at hr;cases ht:(st r).t with
 | own x=>
  simp only[ht]at q3 hr ⊢;intro e1 e2;rcases q3 e1 e2 with q|⟨q4,y,b,o,cs,g1,g2,g3,g4,g5⟩
  ·exact .inl q
  ·refine .inr ⟨q4,y,b,o,cs,g1,?_,g3,?_,g5⟩
   ·obtain⟨cs',c1,c2,c3⟩:=hr;rw[c3]at g2 ⊢;rw[z5s p c1 hF];exact g2
   ·obtain⟨cs',c1,c2,c3⟩:=hr;obtain⟨b',o',arr,ty,csy,Fy,f1,f2,f3,f4,f5,f6,_⟩:=UI p c1 c2 (by rintro rfl;simp[z2C]at q4) (by rintro i q rfl;simp[z2C]at q4) g1;rw[c3,f1]at g2;simp only[Option.some.injEq,Prod.mk.injEq]at g2;obtain⟨rfl,rfl⟩:=g2;intro j u hj;rw[vD (hF _ f6)];exact g4 j u hj
 | gone=>trivial
 | d x=>simpa only[ht] using q3
 | als _ _ _ _=>trivial
 | ptr _ _ _ _=>trivial
theorem Xj.frame {h h':Array Obj}  {tv:Nat->Value}  {p:List Q5}{er ec:Nat}{v:Value}  (hr:wv S h st tv F (st r) (tv r))(hF:∀k∈F,h'[k]?=h[k]?)
  (q:Xj h st tv r p er ec v):Xj h' st tv r p er ec v:=by
 obtain⟨q1,q2,q3⟩:=q;refine⟨q1,q2,?_⟩;unfold wv at hr;cases ht:(st r).t with
 | own x=>simp only[ht]at q3 hr ⊢;intro e1 e2;obtain⟨q4,y,b,o,g1,g2,g3⟩:=q3 e1 e2;refine⟨q4,y,b,o,g1,?_,g3⟩;obtain⟨cs',c1,c2,c3⟩:=hr;rw[c3]at g2 ⊢;rw[z5s p c1 hF];exact g2
 | gone=>trivial
 | d x=>trivial
 | als _ _ _ _=>trivial
 | ptr _ _ _ _=>trivial
variable {Fp:Nat->List Nat}{C:Ctx}{a:Act}
theorem Sim.mem {S S':zo}  {X X':List Nat}   {w w':World}(h:Sim C S Fp X st a w)(hb:UQ C.M C.w0 w')(hS:∀b o v,S b o=some v->S' b o=some v)
  (hst:∀b o v,S' b o=some v->yj w'.heap b o=some v) (hsb:∀b o,¬C.M b->S' b o=C.S0 b o) (hF:∀t k,k∈Fp t->w'.heap[k]?=w.heap[k]?/\∀o,S' k o=none)
  (xn:X'.Nodup) (xd:∀t k,k∈X'->k∉Fp t) (xb:∀k,k∈X'->C.M k):Sim C S' Fp X' st a w':={
 size:=h.size
 pin:=h.pin
 defers:=h.defers
 below:=hb
 mine:=h.mine
 still:=⟨hst,Gok.mono hS h.still.gok,h.still.blk.of hS λg x e=>(hb.block g (h.mine.far g x e)).trans (h.below.block g (h.mine.far g x e)).symm⟩
 sinc:=λb o v q=>hS _ _ _ (h.sinc _ _ _ q)
 sbase:=hsb
 ent:=λt=>by
  have q:=h.ent t;unfold wv at q ⊢;cases ht:(st t).t with
  | gone=>simpa only[ht] using q
  | d x=>simp only[ht]at q ⊢;exact⟨q.1.mono hS,q.2⟩
  | own x=>simp only[ht]at q ⊢;obtain⟨cs,q1,q2,q3⟩:=q;exact⟨cs,q1.frame hS (λk hk=>hF t k hk),q2,q3⟩
  | als r p er ec=>simp only[ht]at q ⊢;exact⟨q.1,q.2.frame (h.ent r) (λk hk=>(hF r k hk).1)⟩
  | ptr r p er ec=>simp only[ht]at q ⊢;exact⟨q.1,q.2.frame (h.ent r) (λk hk=>(hF r k hk).1)⟩
 disj:=h.disj
 base:=h.base
 xn:=xn
 xd:=xd
 xb:=xb }
theorem Sim.change {S S':zo}  {X X':List Nat}   {w w':World}(h:Sim C S Fp X st a w)(r:Nat)(T':T)(er' ec':Nat)(F':List Nat)
  (hb:UQ C.M C.w0 w') (hS:∀b o v,S b o=some v->S' b o=some v)
  (hst:∀b o v,S' b o=some v->yj w'.heap b o=some v) (hsb:∀b o,¬C.M b->S' b o=C.S0 b o) (hF:∀t k,t≠r->k∈Fp t->w'.heap[k]?=w.heap[k]?/\∀o,S' k o=none)
  (hT:match T' with
   | .gone=>F'=[]
   | .d x=>wh S' x (Act.tv a r)/\F'=[]
   | .own x=>(∃cs,zU S' w'.heap x cs F'/\F'.Nodup/\Act.tv a r=y8 x cs)/\∃y,(st r).t=.own y
   | _=>False)
  (ht0:(∃y,(st r).t=.own y)\/∃y,(st r).t=.d y)
  (her:(st r).er<=er') (hec:(st r).ec<ec')
  (fd:∀t k,t≠r->k∈F'->k∉Fp t) (fb:∀k,k∈F'->C.M k)
  (xn:X'.Nodup) (xd:∀t k,t≠r->k∈X'->k∉Fp t) (xf:∀k,k∈X'->k∉F') (xb:∀k,k∈X'->C.M k) :
  Sim C S' (z2j Fp r F') X' (upd st r ⟨T',er',ec'⟩) a w':={
 size:=h.size
 pin:=h.pin
 defers:=h.defers
 below:=hb
 mine:=h.mine
 still:=⟨hst,Gok.mono hS h.still.gok,h.still.blk.of hS λg x e=>(hb.block g (h.mine.far g x e)).trans (h.below.block g (h.mine.far g x e)).symm⟩
 sinc:=λb o v q=>hS _ _ _ (h.sinc _ _ _ q)
 sbase:=hsb
 ent:=λt=>by
  by_cases htr:t=r
  ·subst htr;rw[uT];simp only[z2j,if_true,wv];cases T' with
   | gone=>exact hT
   | d x=>exact hT
   | own x=>exact hT.1
   | als _ _ _ _=>exact hT.elim
   | ptr _ _ _ _=>exact hT.elim
  ·rw[Q6 _ _ htr];simp only[z2j,htr,if_false];have q:=h.ent t;unfold wv at q ⊢;cases ht:(st t).t with
   | gone=>simpa only[ht] using q
   | d x=>simp only[ht]at q ⊢;exact⟨q.1.mono hS,q.2⟩
   | own x=>simp only[ht]at q ⊢;obtain⟨cs,q1,q2,q3⟩:=q;exact⟨cs,q1.frame hS (λk hk=>hF t k htr hk),q2,q3⟩
   | als u p er ec=>
    simp only[ht]at q ⊢;refine⟨q.1,?_⟩;by_cases hu:u=r
    ·subst hu;obtain⟨q1,q2,q3⟩:=q.2;unfold XJ;rw[uT];refine⟨pE q1 her,pE q2 (Nat.le_of_lt hec),?_⟩;cases T' with
     | gone=>trivial
     | d x=>
      dsimp only
      intro e1 e2;rcases ht0 with⟨y,hy⟩|⟨y,hy⟩
      ·simp only[hy]at q3;rcases q3 (by omega) (.inl e2) with q|q
       ·exact q.2
       ·simp[e2,z2C]at q
      ·simp only[hy]at q3;exact q3 (by omega) e2
     | own x=>
      dsimp only
      intro e1 e2;obtain⟨_,y,hy⟩:=hT;simp only[hy]at q3;have hp:p=[]:=e2.resolve_right (by omega);rcases q3 (by omega) (.inl hp) with q|q
      ·exact .inl q
      ·simp[hp,z2C]at q
     | als _ _ _ _=>trivial
     | ptr _ _ _ _=>trivial
    ·have:=XJ.frame (h':=w'.heap) (h.ent u) (λk hk=>(hF u k hu hk).1) q.2;unfold XJ at this ⊢;rw[Q6 _ _ hu];exact this
   | ptr u p er ec=>
    simp only[ht]at q ⊢;refine⟨q.1,?_⟩;by_cases hu:u=r
    ·subst hu;obtain⟨q1,q2,q3⟩:=q.2;unfold Xj;rw[uT];refine⟨pE q1 her,pE q2 (Nat.le_of_lt hec),?_⟩;cases T' with
     | gone=>trivial
     | d x=>trivial
     | own x=>
      dsimp only
      intro e1 e2;omega
     | als _ _ _ _=>trivial
     | ptr _ _ _ _=>trivial
    ·have:=Xj.frame (h':=w'.heap) (h.ent u) (λk hk=>(hF u k hu hk).1) q.2;unfold Xj at this ⊢;rw[Q6 _ _ hu];exact this
 disj:=λt u k ht hu=>by
  simp only[z2j]at ht hu;split at ht <;> split at hu
  ·simp_all
  ·exact absurd hu (fd u k ‹_› ht)
  ·exact absurd ht (fd t k ‹_› hu)
  ·exact h.disj t u k ht hu
 base:=λt k ht=>by
  simp only[z2j]at ht;split at ht
  ·exact fb k ht
  ·exact h.base t k ht
 xn:=xn
 xd:=λt k hk=>by
  simp only[z2j];split
  ·exact xf k hk
  ·exact xd t k ‹_› hk
 xb:=xb }
theorem Act.tv_put (a:Act)(k:Nat)(v:Value)(hk:k<a.tmps.size)(t:Nat):Act.tv (a.put (some k) v) t=if t=k then v else Act.tv a t:=by
 simp only[Act.tv,Go.Act.put,gE,r7];by_cases h:t=k
 ·subst h;simp[hk]
 ·simp[h,nX h]
variable {e:Ent}
theorem XJ.put {h:Array Obj}  {tv tv':Nat->Value}   (her:(st k).er<e.er)(hec:(st k).ec<e.ec)(htv:∀t,t≠k->tv' t=tv t){r:Nat}{p:List Q5}{er ec:Nat}{v:Value}
  (q:XJ h st tv r p er ec v):XJ h (upd st k e) tv' r p er ec v:=by
 unfold XJ at q ⊢;obtain⟨q1,q2,q3⟩:=q;by_cases hr:r=k
 ·subst hr;rw[uT];refine⟨by omega,by omega,?_⟩;cases e.t with
  | own x=>dsimp only;intro e1;omega
  | d x=>dsimp only;intro e1;omega
  | gone=>trivial
  | als _ _ _ _=>trivial
  | ptr _ _ _ _=>trivial
 ·rw[Q6 _ _ hr,htv r hr];exact⟨q1,q2,q3⟩
theorem Xj.put {h:Array Obj}  {tv tv':Nat->Value}   (her:(st k).er<e.er)(hec:(st k).ec<e.ec)(htv:∀t,t≠k->tv' t=tv t){r:Nat}{p:List Q5}{er ec:Nat}{v:Value}
  (q:Xj h st tv r p er ec v):Xj h (upd st k e) tv' r p er ec v:=by
 unfold Xj at q ⊢;obtain⟨q1,q2,q3⟩:=q;by_cases hr:r=k
 ·subst hr;rw[uT];refine⟨by omega,by omega,?_⟩;cases e.t with
  | own x=>dsimp only;intro e1;omega
  | d x=>trivial
  | gone=>trivial
  | als _ _ _ _=>trivial
  | ptr _ _ _ _=>trivial
 ·rw[Q6 _ _ hr,htv r hr];exact⟨q1,q2,q3⟩
theorem Sim.put {X X':List Nat}    (h:Sim C S Fp X st a w)  (hk:C.n.ok k=true)(T':T)(F:List Nat)(v:Value)
  (hT:wv S w.heap (upd st k ⟨T',(st k).er+1,(st k).ec+1⟩) (λt=>if t=k then v else Act.tv a t) F ⟨T',(st k).er+1,(st k).ec+1⟩ v)
  (fd:∀t m,t≠k->m∈F->m∉Fp t) (fb:∀m,m∈F->C.M m)
  (xn:X'.Nodup) (xd:∀t m,t≠k->m∈X'->m∉Fp t) (xf:∀m,m∈X'->m∉F) (xb:∀m,m∈X'->C.M m) :
  Sim C S (z2j Fp k F) X' (upd st k ⟨T',(st k).er+1,(st k).ec+1⟩) (a.put (some k) v) w:=by
 have hk':k<a.tmps.size:=h.size ▸ Fr.lt hk;have htv:Act.tv (a.put (some k) v)=λt=>if t=k then v else Act.tv a t:=funext (Act.tv_put a k v hk');exact {
  size:=by simp[Go.Act.put,h.size]
  pin:=λi u hi=>by
   rw[htv];have hne:i≠k:=by rintro rfl;have h1:=z6G hi;rw[Fr.free hk]at h1;cases h1
   simp only[if_neg hne];exact h.pin i u hi
  defers:=h.defers
  below:=h.below
  mine:=h.mine
  still:=h.still
  sinc:=h.sinc
  sbase:=h.sbase
  ent:=λt=>by
   rw[htv];by_cases ht:t=k
   ·subst ht;rw[uT];simpa only[z2j,if_true] using hT
   ·rw[Q6 _ _ ht];simp only[z2j,ht,if_false];have q:=h.ent t;unfold wv at q ⊢;cases htt:(st t).t with
    | gone=>simpa only[htt] using q
    | d x=>simpa only[htt] using q
    | own x=>simpa only[htt] using q
    | als r p er ec=>simp only[htt]at q ⊢;exact⟨q.1,q.2.put (gB _) (gB _) (λt ht=>by simp[ht])⟩
    | ptr r p er ec=>simp only[htt]at q ⊢;exact⟨q.1,q.2.put (gB _) (gB _) (λt ht=>by simp[ht])⟩
  disj:=λt u m ht hu=>by
   simp only[z2j]at ht hu;split at ht <;> split at hu
   ·simp_all
   ·exact absurd hu (fd u m ‹_› ht)
   ·exact absurd ht (fd t m ‹_› hu)
   ·exact h.disj t u m ht hu
  base:=λt m ht=>by
   simp only[z2j]at ht;split at ht
   ·exact fb m ht
   ·exact h.base t m ht
  xn:=xn
  xd:=λt m hm=>by
   simp only[z2j];split
   ·exact xf m hm
   ·exact xd t m ‹_› hm
  xb:=xb }
inductive TK where
 | int (k:IntKind)
 | bool
 | str
 | slice (e:Nat)
 | ptr (e:Nat)
 | struct (fs:List (Nat×Nat))
 | array (n e:Nat)
 | other
structure TI where
 kind:TK
 size:Nat
 bytes:Nat
 zero:Option A
 eqn:Bool
abbrev TT:=Nat->Option TI
structure Ctr where
 run:Nat->List A->Option A
 gives:Nat->List Bool
 raw:Nat->Bool:=λ_=>false
 lend:Nat->Option Nat:=λ_=>none
 runL:Nat->List A->Option (A×A):=λ_ _=>none
 ext:Fr->Oper->Option (SM Unit):=λ_ _=>none
@[reducible] def Ctr.plain (c:Ctr):Ctr:={ c with ext:=fun _ _=>none }
@[reducible] def Ctr.withE (c:Ctr)(e:Fr->Oper->Option (SM Unit)):Ctr:={ c with ext:=e }
def Ctr.norm (ctr:Ctr)(k:Nat)(l:List A):List A:=if ctr.raw k=true then l else l.map A.loose
def opnd:Operand->SM T
 | .tmp t=>do
  let e <-rdE t;match e.t with
  | .own _=>pure (.als t [] e.er e.ec)
  | .gone=>zu
  | T=>pure T
 | .const v=>if v.oneCell'=true then pure (.d (.atom v)) else zu
 | .func f=>pure (.d (.fn f []))
 | .global g=>match zp6 g with|some x=>pure (.d (.sptr x))|none=>zu
def look (r:Nat)(p:List Q5)(er ec:Nat):SM A:=do
 let e <-rdE r;match e.t with
 | .own x=>if e.er=er/\(p=[]\/e.ec=ec) then ofO (vQ p x) else zu
 | .d x=>if e.er=er/\p=[] then pure x else zu
 | _=>zu
def lookP (r:Nat)(p:List Q5)(er ec:Nat):SM A:=do
 let e <-rdE r;match e.t with
 | .own x=>if e.er=er/\e.ec=ec then ofO (vQ p x) else zu
 | _=>zu
def val:T->SM A
 | .d a=>pure a
 | .als r p er ec=>do
  let y <-look r p er ec
  if y.isD=true then pure y else zu
 | _=>zu
def Jq (tt:TT)(t:Nat):A->A
 | .atom (.slice none 0 0)=>
  match tt t with
  | some ⟨.slice e,_,_,_,_⟩=>
   match tt e with
   | some i=>.osl i.size true []
   | none=>.atom (.slice none 0 0)
  | _=>.atom (.slice none 0 0)
 | a=>a
def take:T->SM A
 | .d a=>pure a
 | .als r p er ec=>do
  let y <-look r p er ec
  if y.isD=true then pure y else if y.plain=true then do
   let e <-rdE r;match e.t with
   | .own x=>
    if p=[] then do
     wrE r ⟨.gone,e.er+1,e.ec+1⟩
     pure y
    else do
     wrE r ⟨.own (JN p x (.dead y.size)),e.er,e.ec+1⟩
     pure y
   | _=>zu
  else zu
 | _=>zu
def takeC (tt:TT)(t:Nat)(x:T):SM A:=do
 let y <-take x
 pure (Jq tt t y)
def mkT:A->T
 | .tup fs=>.d (.tup fs)
 | a=>if a.isD=true then .d a else .own a
def wrT (n:Fr)(dst:Option Nat)(x:T):SM Unit :=
 match dst with
 | none=>pure ()
 | some k=>if n.ok k=true then do
   let e <-rdE k
   wrE k ⟨x,e.er+1,e.ec+1⟩
  else zu
def zll (op:BinOp)(k:IntKind)(a b:Int):Option A :=
 match op with
 | .add=>some (.atom (.int k (k.wrap (a+b))))
 | .sub=>some (.atom (.int k (k.wrap (a - b))))
 | .mul=>some (.atom (.int k (k.wrap (a*b))))
 | .quo=>if b=0 then none else some (.atom (.int k (k.wrap (a.tdiv b))))
 | .rem=>if b=0 then none else some (.atom (.int k (a.tmod b)))
 | .eql=>some (.atom (.bool (a==b)))
 | .neq=>some (.atom (.bool (a != b)))
 | .lss=>some (.atom (.bool (decide (a<b))))
 | .leq=>some (.atom (.bool (decide (a<=b))))
 | .gtr=>some (.atom (.bool (decide (a > b))))
 | .geq=>some (.atom (.bool (decide (a>=b))))
 | _=>none
def qY:List A->List A->Option Bool
 | [],[]=>some true
 | .atom (.int k a)::as_,.atom (.int k' b)::bs=>if k=k' then(qY as_ bs).map λr=>(a==b)&&r else none
 | _,_=>none
def zqx (tt:TT)(op:BinOp)(xt:Nat):A->A->Option A
 | .atom (.int k a),.atom (.int k' b)=>if k=k' then zll op k a b else none
 | .atom (.bool a),.atom (.bool b)=>
  match tt xt with
  | some ⟨.bool,_,_,_,_⟩=>
   match op with
   | .eql=>some (.atom (.bool (a==b)))
   | .neq=>some (.atom (.bool (!(a==b))))
   | _=>none
  | _=>none
 | .agg as_,.agg bs=>
  match tt xt with
  | some i=>if i.eqn=true/\as_.length=i.size/\bs.length=i.size then
    match op with
    | .eql=>(qY as_ bs).map λr=>.atom (.bool r)
    | .neq=>(qY as_ bs).map λr=>.atom (.bool (!r))
    | _=>none
   else none
  | none=>none
 | _,_=>none
def unA (op:UnOp):A->Option A
 | .atom (.bool b)=>match op with|.not=>some (.atom (.bool (!b)))|_=>none
 | .atom (.int k a)=>match op with|.neg=>some (.atom (.int k (k.wrap (0 - a))))|_=>none
 | _=>none
def ptrOf:T->SM (A⊕(Nat×List Q5×Nat×Nat))
 | .d (.sptr y)=>pure (.inl y)
 | .ptr r p er ec=>pure (.inr (r,p,er,ec))
 | .als r p er ec=>do
  let e <-rdE r;let y <-look r p er ec;match y with
  | .box _=>pure (.inr (r,p++[.deref],e.er,e.ec))
  | .sptr z=>pure (.inl z)
  | _=>zu
 | _=>zu
def A.isAgg:A->Bool
 | .agg _=>true
 | _=>false
def TK.isAgg:TK->Bool
 | .struct _|.array _ _=>true
 | _=>false
def Ym (tt:TT)(t:Nat)(y:A):Bool :=
 match tt t with
 | some i=>i.kind.isAgg==y.isAgg&&i.size==y.size&&(i.kind.isAgg || i.size==1)
 | none=>false
def loadA (tt:TT)(n:Fr)(dst:Option Nat)(t:Nat)(x:T):SM Unit:=do
 let q <-ptrOf x;match q with
 | .inl y=>if Ym tt t y=true/\y.isD=true then wrT n dst (.d y) else zu
 | .inr (r,p,er,ec)=>do
  let y <-lookP r p er ec
  if Ym tt t y=true then
   (if y.isD=true then wrT n dst (.d y) else wrT n dst (.als r p er ec))
  else zu
def storeA (tt:TT)(t:Nat)(x v:T):SM Unit:=do
 let q <-ptrOf x;match q with
 | .inl _=>zu
 | .inr (r,p,er,ec)=>do
  let y <-takeC tt t v;let e <-rdE r;match e.t with
  | .own x0=>
   if e.er=er/\e.ec=ec then
    match vQ p x0 with
    | some y0=>if y.size=y0.size/\Ym tt t y=true then wrE r ⟨.own (JN p x0 y),e.er,e.ec+1⟩ else zu
    | none=>zu
   else zu
  | _=>zu
def z4u (tt:TT)(t i:Nat)(fs:List A):Bool :=
 match tt t with
 | some ⟨.struct offs,_,_,_,_⟩=>
  match offs[i]? with
  | some (off,sz)=>off==A.sizes (fs.take i)&&sz != 0
  | none=>false
 | _=>false
def fieldAddrA (tt:TT)(n:Fr)(dst:Option Nat)(t i:Nat)(x:T):SM Unit:=do
 let q <-ptrOf x;match q with
 | .inl (.agg fs)=>
  match fs[i]? with
  | some y=>if z4u tt t i fs=true then wrT n dst (.d (.sptr y)) else zu
  | none=>zu
 | .inl _=>zu
 | .inr (r,p,er,ec)=>do
  let y <-lookP r p er ec;match y with
  | .agg fs=>if z4u tt t i fs=true/\i<fs.length then wrT n dst (.ptr r (p++[.fld i]) er ec) else zu
  | _=>zu
def wx (tt:TT)(t:Nat):Option Nat :=
 match tt t with
 | some ⟨.slice e,_,_,_,_⟩=>(tt e).map (·.size)
 | _=>none
def indexAddrA (tt:TT)(n:Fr)(dst:Option Nat)(t:Nat)(x:T)(i:A):SM Unit :=
 match i with
 | .atom (.int _ j)=>
  match x with
  | .d (.sl sz _ xs)=>
   if wx tt t=some sz/\0<=j then
    match xs[j.toNat]? with
    | some y=>wrT n dst (.d (.sptr y))
    | none=>zu
   else zu
  | .als r p er ec=>do
   let e <-rdE r;let y <-look r p er ec;match y with
   | .osl sz _ es=>if wx tt t=some sz/\0<=j/\j.toNat<es.length then wrT n dst (.ptr r (p++[.idx j.toNat]) e.er e.ec) else zu
   | .sl sz _ xs=>
    if wx tt t=some sz/\0<=j then
     match xs[j.toNat]? with
     | some y=>wrT n dst (.d (.sptr y))
     | none=>zu
    else zu
   | _=>zu
  | _=>zu
 | _=>zu
def lenOf:A->Option Nat
 | .sl _ _ xs=>some xs.length
 | .osl _ _ es=>some es.length
 | .atom (.slice none 0 0)=>some 0
 | _=>none
def zlU:A->Option Nat
 | .sl _ true xs=>some xs.length
 | .osl _ true es=>some es.length
 | .atom (.slice none 0 0)=>some 0
 | _=>none
def jF (tt:TT)(t:Nat):Bool :=
 match tt t with
 | some ⟨.slice _,_,_,_,_⟩=>true
 | _=>false
def peek:T->SM A
 | .d a=>pure a
 | .als r p er ec=>look r p er ec
 | _=>zu
def lim:Nat:=4294967296
def appendA (tt:TT)(n:Fr)(dst:Option Nat)(t:Nat)(s x:T):SM Unit :=
 match tt t with
 | some ⟨.slice e,_,_,_,_⟩=>
  match tt e with
  | some i=>do
   let y <-peek x;match y with
   | .sl sz _ ys|.osl sz _ ys=>
    if sz=i.size/\A.areD ys=true/\i.bytes<=4096/\0<i.size/\i.zero.isSome=true then
     let z <-takeC tt t s;match z with
     | .osl sz' tg es=>if sz'=i.size/\es.length+ys.length<=lim then wrT n dst (.own (.osl sz' false (es++ys))) else zu
     | .sl sz' tg es=>if sz'=i.size/\es.length+ys.length<=lim/\tg=true/\ys≠[]/\A.areD es=true then wrT n dst (.own (.osl sz' false (es++ys))) else zu
     | _=>zu
    else zu
   | _=>zu
  | none=>zu
 | _=>zu
def appendOwnA (tt:TT)(n:Fr)(dst:Option Nat)(t:Nat)(s x:Operand):SM Unit :=
 match tt t with
 | some ⟨.slice e,_,_,_,_⟩=>
  match tt e with
  | some i=>
   if i.bytes<=4096/\0<i.size/\i.zero.isSome=true then do
    let tx <-opnd x;let y <-take tx;let ts <-opnd s;let z <-takeC tt t ts;match y,z with
    | .osl sz _ ys,.osl sz' tg es=>if sz=i.size/\sz'=i.size/\A.plains ys=true/\es.length+ys.length<=lim then wrT n dst (.own (.osl sz' false (es++ys))) else zu
    | _,_=>zu
   else zu
  | none=>zu
 | _=>zu
mutual
def A.flat:A->Bool
 | .atom (.slice _ _ _)=>false
 | .atom _=>true
 | .agg fs|.tup fs=>A.flats fs
 | _=>false
def A.flats:List A->Bool
 | []=>true
 | a::as_=>a.flat&&A.flats as_
end
def shutT (tt:TT)(t:Nat):T->SM A
 | .d (.tup _)=>zu
 | .d a=>pure (Jq tt t a).shut
 | .als r p er ec=>do
  let y <-look r p er ec
  if y.isD=true then pure y else
   if y.live=true then do
    let e <-rdE r;match e.t with
    | .own x=>
     if p=[] then do
      wrE r ⟨.d y.shut,e.er,e.ec+1⟩
      pure y.shut
     else do
      wrE r ⟨.own (JN p x y.shut),e.er,e.ec+1⟩
      pure y.shut
    | _=>zu
   else zu
 | _=>zu
def shutArgs (tt:TT):List (Operand×Nat)->SM (List A)
 | []=>pure []
 |(x,t)::as_=>do
  let y <-opnd x;let a <-shutT tt t y;let bs <-shutArgs tt as_
  pure (a::bs)
def ghost (m:SM α):SM α:=λst=>match m st with|some (a,R,_)=>some (a,R,[])|none=>none
def passArgs (tt:TT):List (Bool×Operand×Nat)->SM (List A)
 | []=>pure []
 |(g,x,t)::as_=>do
  let y <-opnd x;let a <-(if g=true then takeC tt t y else shutT tt t y);let bs <-passArgs tt as_
  pure (a::bs)
def z8P (y:A):Bool:=match y with|.osl _ _ _=>true|.box _=>true|.opq o=>!o.multi|_=>false
def lendA (tt:TT)(ctr:Ctr)(n:Fr)(dst:Option Nat)(k i:Nat)(caps:List A)(ops:List (Operand×Nat)):SM Unit :=
 match ops[i]? with
 | some (x,_)=>do
  let xs <-shutArgs tt (ops.take i);let zs <-shutArgs tt (ops.drop (i+1));let tx <-opnd x;match tx with
  | .als r p er ec=>do
   let y <-look r p er ec;let e <-rdE r;match e.t with
   | .own x0=>
    if z8P y=true then
     match ctr.runL k (ctr.norm k (xs++y::zs++caps)) with
     | some (res,y')=>
      if z8P y'=true then do
       wrE r ⟨.own (JN p x0 y'),e.er,e.ec+1⟩
       wrT n dst (mkT res)
      else zu
     | none=>zu
    else zu
   | _=>zu
  | _=>zu
 | none=>zu
def callA (tt:TT)(ctr:Ctr)(n:Fr)(dst:Option Nat)(f:A)(as_:List (Operand×Nat)):SM Unit :=
 match f with
 | .fn k caps=>
  match ctr.lend k with
  | some i=>lendA tt ctr n dst k i caps as_
  | none=>
  if(ctr.gives k).isEmpty=true then do
   let xs <-ghost (shutArgs tt as_);match ctr.run k (ctr.norm k (xs++caps)) with
   | some r=>
    if r.flat=true then wrT n dst (.d r)
    else do
     let _ <-shutArgs tt as_
     wrT n dst (mkT r)
   | none=>zu
  else if(ctr.gives k).length=as_.length then do
   let xs <-passArgs tt ((ctr.gives k).zip as_);match ctr.run k (ctr.norm k (xs++caps)) with
   | some r=>wrT n dst (mkT r)
   | none=>zu
  else zu
 | _=>zu
def takes:List (Operand×Nat)->TT->SM (List A)
 | [],_=>pure []
 |(x,t)::ps,tt=>do
  let y <-opnd x;let a <-takeC tt t y;let bs <-takes ps tt
  pure (a::bs)
def z5i:List A->List (Nat×A)->List A
 | fs,[]=>fs
 | fs,(i,a)::ps=>z5i (fs.set i a) ps
theorem zB (us vs:List (Nat×Ent))(st:St):zh (us++vs) st=zh vs (zh us st):=by
 induction us generalizing st with
 | nil=>rfl
 | cons u us ih=>simp[zh,ih]
variable {U:List (Nat×Ent)}{R:List Nat}
theorem bind_some {α β:Type}{m:SM α}{f:α->SM β}  {b:β}   (h:(m >>= f) st=some (b,R,U)) :
  ∃a R1 U1 R2 U2,m st=some (a,R1,U1)/\f a (zh U1 st)=some (b,R2,U2)/\R=R1++R2/\U=U1++U2:=by
 change SM.bind m f st=_ at h;unfold SM.bind at h;split at h
 ·cases h
 ·rename_i a R1 U1 h1;split at h
  ·cases h
  ·rename_i b' R2 U2 h2;simp only[Option.some.injEq,Prod.mk.injEq]at h;obtain⟨rfl,rfl,rfl⟩:=h;exact⟨a,R1,U1,R2,U2,h1,h2,rfl,rfl⟩
theorem zy {a b:α}    (h:(pure a:SM α) st=some (b,R,U)):b=a/\R=[]/\U=[]:=by change SM.pure a st=_ at h;simp only[SM.pure,Option.some.injEq,Prod.mk.injEq]at h;exact⟨h.1.symm,h.2.1.symm,h.2.2.symm⟩
theorem yl (h:rdE k st=some (e,R,U)):e=st k/\R=[k]/\U=[]:=by simp only[rdE,Option.some.injEq,Prod.mk.injEq]at h;exact⟨h.1.symm,h.2.1.symm,h.2.2.symm⟩
variable {u:Unit}
theorem wO (h:wrE k e st=some (u,R,U)):R=[]/\U=[(k,e)]:=by simp only[wrE,Option.some.injEq,Prod.mk.injEq]at h;exact⟨h.2.1.symm,h.2.2.symm⟩
theorem kQ {x:Option α}{a:α}    (h:ofO x st=some (a,R,U)):x=some a/\R=[]/\U=[]:=by
 unfold ofO at h;split at h
 ·simp only[Option.some.injEq,Prod.mk.injEq]at h;exact⟨by simp[*],h.2.1.symm,h.2.2.symm⟩
 ·cases h
theorem z7 {a:α}    (h:(zu:SM α) st=some (a,R,U)):False:=by simp[zu]at h
variable {X:List Nat}
theorem Sim.free (h:Sim C S Fp X st a w)(t k:Nat)(hk:k∈Fp t) :
  k<w.heap.size/\(∀o,S k o=none)/\True:=by
 have q:=h.ent t;unfold wv at q;cases htt:(st t).t with
 | own z=>simp only[htt]at q;obtain⟨cs,g1,_⟩:=q;exact g1.own k hk
 | gone=>simp only[htt]at q;simp[q]at hk
 | d z=>simp only[htt]at q;simp[q.2]at hk
 | als _ _ _ _=>simp only[htt]at q;simp[q.1]at hk
 | ptr _ _ _ _=>simp only[htt]at q;simp[q.1]at hk
def TOk (S:zo)(h:Array Obj)(st:St)(tv:Nat->Value)(x:T)(v:Value):Prop :=
 match x with
 | .d y=>wh S y v
 | .als r p er ec=>XJ h st tv r p er ec v
 | .ptr r p er ec=>Xj h st tv r p er ec v
 | _=>False
theorem xY {v u:Value}:qa S (.atom v) u↔u=v/\v.oneCell'=true:=by
 constructor
 ·rintro⟨cs,h,rfl⟩;simp only[Rep]at h;obtain⟨rfl,h⟩:=h;exact⟨rfl,h⟩
 ·rintro⟨rfl,h⟩;exact⟨[u],by simp[Rep,h],rfl⟩
theorem zD {v u:Value}:wh S (.atom v) u↔u=v/\v.oneCell'=true:=by simp only[wh];exact xY
variable {x:Operand}
theorem zK (h:Sim C S Fp X st a w)  {y:T}   (e:opnd x st=some (y,R,U)) :
  U=[]/\TOk S w.heap st (Act.tv a) y (a.eval x):=by
 cases x with
 | tmp t=>
  simp only[opnd]at e;obtain⟨en,R1,U1,R2,U2,h1,h2,rfl,rfl⟩:=bind_some e;obtain⟨rfl,rfl,rfl⟩:=yl h1;simp only[zh]at h2;have q:=h.ent t;unfold wv at q;cases ht:(st t).t with
  | gone=>simp only[ht]at h2;exact(z7 h2).elim
  | d z=>simp only[ht]at h2 q;obtain⟨rfl,rfl,rfl⟩:=zy h2;exact⟨rfl,q.1⟩
  | own z=>simp only[ht]at h2 q;obtain⟨rfl,rfl,rfl⟩:=zy h2;refine⟨rfl,pC _,pC _,?_⟩;simp only[ht];exact λ_ _=>.inl ⟨trivial,rfl⟩
  | als r p er ec=>simp only[ht]at h2 q;obtain⟨rfl,rfl,rfl⟩:=zy h2;exact⟨rfl,q.2⟩
  | ptr r p er ec=>simp only[ht]at h2 q;obtain⟨rfl,rfl,rfl⟩:=zy h2;exact⟨rfl,q.2⟩
 | const v=>
  simp only[opnd]at e;split at e
  ·obtain⟨rfl,rfl,rfl⟩:=zy e;exact⟨rfl,zD.2 ⟨rfl,‹_›⟩⟩
  ·exact(z7 e).elim
 | func f=>simp only[opnd]at e;obtain⟨rfl,rfl,rfl⟩:=zy e;refine⟨rfl,?_⟩;simp only[TOk,wh];exact⟨[.func (.func f) #[] #[]],by simp[Rep,yK],rfl⟩
 | global g=>
  simp only[opnd]at e;cases hg:zp6 g with
  | none=>simp only[hg]at e;exact(z7 e).elim
  | some z=>simp only[hg]at e;obtain⟨rfl,rfl,rfl⟩:=zy e;obtain⟨l,r1,r2⟩:=h.still.gok g z hg;refine⟨rfl,?_⟩;simp only[TOk,wh];exact⟨[.pointer (some ⟨g,0,none⟩)],by simp only[Rep];exact⟨g,0,l,rfl,r1,r2⟩,rfl⟩
variable {y:A}
theorem zeT (e:look r p er ec st=some (y,R,U)) :
  U=[]/\((∃x,(st r).t=.own x/\(st r).er=er/\(p=[]\/(st r).ec=ec)/\vQ p x=some y)\/((st r).t=.d y/\(st r).er=er/\p=[])):=by
 simp only[look]at e;obtain⟨en,R1,U1,R2,U2,h1,h2,rfl,rfl⟩:=bind_some e;obtain⟨rfl,rfl,rfl⟩:=yl h1;simp only[zh]at h2;cases ht:(st r).t with
 | own x=>
  simp only[ht]at h2;split at h2
  ·rename_i hc;obtain⟨g,rfl,rfl⟩:=kQ h2;exact⟨rfl,.inl ⟨x,rfl,hc.1,hc.2,g⟩⟩
  ·exact(z7 h2).elim
 | d x=>
  simp only[ht]at h2;split at h2
  ·rename_i hc;obtain⟨rfl,rfl,rfl⟩:=zy h2;exact⟨rfl,.inr ⟨rfl,hc.1,hc.2⟩⟩
  ·exact(z7 h2).elim
 | gone=>simp only[ht]at h2;exact(z7 h2).elim
 | als _ _ _ _=>simp only[ht]at h2;exact(z7 h2).elim
 | ptr _ _ _ _=>simp only[ht]at h2;exact(z7 h2).elim
variable {ty:TypeId}
theorem QB {cs cs':List Value}  {b o:Nat}   (hy:zU S h y cs F)(hb:h[b]?=some (.cells arr ty (0,0)))(hs:zaW arr o cs)(hl:cs'.length=y.size)(hs':zmn h b o cs'):cs'=cs:=by
 apply gX;intro j;by_cases hj:j<y.size
 ·have h1:=hs' j cs'[j] (p7 (by omega));have hlen:=hy.len;have h2:=hs j cs[j] (p7 (by omega));simp only[yj,hb]at h1;rw[h2]at h1;rw[p7 (by omega),p7 (by omega)];exact h1.symm
 ·have hlen:=hy.len;rw[pQ (by omega),pQ (by omega)]
theorem z2H (h:Sim C S Fp X st a w)     (ha:XJ w.heap st (Act.tv a) r p er ec v)
    {y:A} {R:List Nat} {U:List (Nat×Ent)} (e:look r p er ec st=some (y,R,U)) :
    U=[]/\((∃x cs F,(st r).t=.own x/\(st r).er=er/\(p=[]\/(st r).ec=ec)/\vQ p x=some y/\zU S w.heap y cs F/\v=y8 y cs/\(∀k∈F,k∈Fp r)/\F.Nodup)\/((st r).t=.d y/\(st r).er=er/\p=[]/\v=Act.tv a r/\wh S y v)):=by
  obtain⟨rfl,q⟩:=zeT e;refine⟨rfl,?_⟩;have hr:=h.ent r;unfold wv at hr;obtain⟨_,_,a3⟩:=ha;rcases q with⟨x,ht,e1,e2,e3⟩|⟨ht,e1,e2⟩
  · left;simp only[ht]at hr a3;obtain⟨cs,c1,c2,c3⟩:=hr;rcases a3 e1 e2 with⟨rfl,rfl⟩|⟨o1,y',b,o,cs',g1,g2,g3,g4,g5⟩
    · simp only[vQ,Option.some.injEq]at e3;subst e3;exact⟨x,cs,Fp r,ht,e1,e2,rfl,c1,c3,λ_ h=>h,c2⟩
    · rw[e3]at g1;simp only[Option.some.injEq]at g1;subst g1;obtain⟨b',o',arr,ty,csy,Fy,f1,f2,f3,f4,f5,f6,f7,f8,_⟩:=UI p c1 c2 (by rintro rfl;simp[z2C]at o1) (by rintro i q rfl;simp[z2C]at o1) e3;rw[c3,f1]at g2;simp only[Option.some.injEq,Prod.mk.injEq]at g2;obtain⟨rfl,rfl⟩:=g2;have:=QB f4 f2 f3 g3 g4;subst this;exact⟨x,cs',Fy,ht,e1,e2,e3,f4,g5,f7,f8⟩
  · right;simp only[ht]at hr a3;subst e2;have:=a3 e1 rfl;subst this;exact⟨ht,e1,rfl,rfl,hr.1⟩
theorem jD (h:Sim C S Fp X st a w){x:T}  (hx:TOk S w.heap st (Act.tv a) x v)    (e:val x st=some (y,R,U)) :
  U=[]/\wh S y v:=by
 cases x with
 | d z=>simp only[val]at e;obtain⟨rfl,rfl,rfl⟩:=zy e;exact⟨rfl,hx⟩
 | als r p er ec=>
  simp only[val]at e;obtain⟨z,R1,U1,R2,U2,h1,h2,rfl,rfl⟩:=bind_some e;obtain⟨rfl,q⟩:=z2H h hx h1;split at h2
  ·rename_i hd;obtain⟨rfl,rfl,rfl⟩:=zy h2;refine⟨rfl,?_⟩;rcases q with⟨x,cs,F,_,_,_,_,q5,q6,_⟩|⟨_,_,_,_,q5⟩
   ·exact qa.repV ⟨cs,(q5.isD hd).1,q6⟩
   ·exact q5
  ·exact(z7 h2).elim
 | gone=>simp only[val]at e;exact(z7 e).elim
 | own _=>simp only[val]at e;exact(z7 e).elim
 | ptr _ _ _ _=>simp only[val]at e;exact(z7 e).elim
theorem wh.conc (h:Array Obj)(hr:wh S y v)(hy:∀fs,y≠.tup fs):∃cs,zU S h y cs []/\v=y8 y cs:=by
 have:qa S y v:=by cases y <;> simp only[wh]at hr <;> first|exact hr|exact absurd rfl (hy _)
 obtain⟨cs,h1,h2⟩:=this;exact⟨cs,h1.conc h,h2⟩
theorem z6z (h:Sim C S Fp X st a w){x:T}  (hx:TOk S w.heap st (Act.tv a) x v)    (e:take x st=some (y,R,U)) :
  ∃Fp' F,Sim C S Fp' (F++X) (zh U st) a w/\((wh S y v/\F=[])\/∃cs,zU S w.heap y cs F/\F.Nodup/\v=y8 y cs):=by
 cases x with
 | d z=>simp only[take]at e;obtain⟨rfl,rfl,rfl⟩:=zy e;exact⟨Fp,[],h,.inl ⟨hx,rfl⟩⟩
 | als r p er ec=>
  simp only[take]at e;obtain⟨z,R1,U1,R2,U2,h1,h2,rfl,rfl⟩:=bind_some e;obtain⟨rfl,q⟩:=z2H h hx h1;simp only[zh]at h2;simp only[p9];by_cases hd:z.isD=true
  ·rw[if_pos hd]at h2;obtain⟨rfl,rfl,rfl⟩:=zy h2;refine⟨Fp,[],h,.inl ⟨?_,rfl⟩⟩;rcases q with⟨x,cs,F,_,_,_,_,q5,q6,_⟩|⟨_,_,_,_,q5⟩
   ·exact qa.repV ⟨cs,(q5.isD hd).1,q6⟩
   ·exact q5
  ·rw[if_neg hd]at h2;by_cases hpl:z.plain=true
   case neg=>rw[if_neg hpl]at h2;exact(z7 h2).elim
   rw[if_pos hpl]at h2;obtain⟨en,R3,U3,R4,U4,h3,h4,rfl,rfl⟩:=bind_some h2;obtain⟨rfl,rfl,rfl⟩:=yl h3;simp only[zh]at h4;rcases q with⟨x,cs,F,q1,q2,q3,q4,q5,q6,q7,q8⟩|⟨q1,_⟩
   ·simp only[q1]at h4;have hr:=h.ent r;unfold wv at hr;simp only[q1]at hr;by_cases hp:p=[]
    ·rw[if_pos hp]at h4;obtain⟨u5,R5,U5,R6,U6,h5,h6,rfl,rfl⟩:=bind_some h4;obtain⟨rfl,rfl⟩:=wO h5;obtain⟨rfl,rfl,rfl⟩:=zy h6;subst hp;simp only[vQ,Option.some.injEq]at q4;subst q4;obtain⟨cs',c1,c2,c3⟩:=hr;have hv:v=Act.tv a r:=by
      have:=hx.2.2;simp only[q1]at this;rcases this q2 (.inl trivial) with⟨_,hv⟩|⟨ho,_⟩
      ·exact hv
      ·simp[z2C]at ho
     refine⟨z2j Fp r [],Fp r,?_,.inr ⟨cs',c1,c2,by rw[hv,c3]⟩⟩;simp only[p9,hU,zh];refine h.change r .gone _ _ [] h.below (λ_ _ _ h=>h) h.still.cell h.sbase (λt k _ hk=>⟨rfl,(h.free t k hk).2.1⟩) rfl (.inl ⟨x,q1⟩) (Nat.le_succ _) (gB _) (by simp) (by simp) ?_ ?_ (by simp) ?_
     ·rw[pM];refine⟨c2,h.xn,?_⟩;rintro m hm m' hm' rfl;exact h.xd r m hm' hm
     ·intro t k ht hk;rcases pA.1 hk with hk|hk
      ·exact λhk'=>ht (h.disj t r k hk' hk)
      ·exact h.xd t k hk
     ·intro k hk;rcases pA.1 hk with hk|hk
      ·exact h.base r k hk
      ·exact h.xb k hk
    ·rw[if_neg hp]at h4;obtain⟨u5,R5,U5,R6,U6,h5,h6,rfl,rfl⟩:=bind_some h4;obtain⟨rfl,rfl⟩:=wO h5;obtain⟨rfl,rfl,rfl⟩:=zy h6;obtain⟨cs',c1,c2,c3⟩:=hr;have ho:z2C p=true:=by
      have:=hx.2.2;simp only[q1]at this;rcases this q2 q3 with⟨hp',_⟩|⟨ho,_⟩
      ·exact absurd hp' hp
      ·exact ho
     have hx3:=hx.2.2;simp only[q1]at hx3;rcases hx3 q2 q3 with⟨hp',_⟩|⟨_,y',b,o,csa,g1,g2,g3,g4,g5⟩
     ·exact absurd hp' hp
     rw[q4]at g1;simp only[Option.some.injEq]at g1;subst g1;obtain⟨b',o',arr,ty,csy,Fy,f1,f2,f3,f4,f5,f6,f7,f8,f9⟩:=UI p c1 c2 hp (by rintro i q rfl;simp[z2C]at ho) q4;rw[c3,f1]at g2;simp only[Option.some.injEq,Prod.mk.injEq]at g2;obtain⟨rfl,rfl⟩:=g2;have hcs:=QB f4 f2 f3 g3 g4;subst hcs;obtain⟨F0',d1,d2,d3⟩:=f9 S w.heap (.dead y.size) csa [] (λ_ _ _ h=>h) rfl (by simp only[zU];exact⟨f4.len,f4.one1 hpl,trivial⟩) (by simp) (λk hk _=>(c1.own k hk).2.1) (λ_ _ _ _=>rfl) (by rw[Jo f3];exact f2) (by simp);have hval:y8 (JN p x (.dead y.size)) cs'=y8 x cs':=by
      cases p with
      | nil=>exact absurd rfl hp
      | cons s p'=>
       cases s with
       | fld _=>simp[z2C]at ho
       | deref=>cases x <;> simp[JN,y8]
       | idx _=>cases x <;> simp[JN,y8]
     refine⟨z2j Fp r F0',Fy,?_,.inr ⟨csa,f4,f8,g5⟩⟩;simp only[p9,hU,zh];refine h.change r (.own (JN p x (.dead y.size))) _ _ F0' h.below (λ_ _ _ h=>h) h.still.cell h.sbase (λt k _ hk=>⟨rfl,(h.free t k hk).2.1⟩) ⟨⟨cs',d1,d2,by rw[hval];exact c3⟩,x,q1⟩ (.inl ⟨x,q1⟩) (pC _) (gB _) ?_ ?_ ?_ ?_ ?_ ?_
     ·intro t k ht hk hk';rcases(d3 k).1 hk with hk|hk
      ·exact ht (h.disj t r k hk' hk.1)
      ·simp at hk
     ·intro k hk;rcases(d3 k).1 hk with hk|hk
      ·exact h.base r k hk.1
      ·simp at hk
     ·rw[pM];refine⟨f8,h.xn,?_⟩;rintro m hm m' hm' rfl;exact h.xd r m hm' (f7 m hm)
     ·intro t k ht hk;rcases pA.1 hk with hk|hk
      ·exact λhk'=>ht (h.disj t r k hk' (f7 k hk))
      ·exact h.xd t k hk
     ·intro k hk hk';rcases(d3 k).1 hk' with hk'|hk'
      ·rcases pA.1 hk with hk|hk
       ·exact hk'.2 hk
       ·exact h.xd r k hk hk'.1
      ·simp at hk'
     ·intro k hk;rcases pA.1 hk with hk|hk
      ·exact h.base r k (f7 k hk)
      ·exact h.xb k hk
   ·simp only[q1]at h4;exact(z7 h4).elim
 | gone=>simp only[take]at e;exact(z7 e).elim
 | own _=>simp only[take]at e;exact(z7 e).elim
 | ptr _ _ _ _=>simp only[take]at e;exact(z7 e).elim
def Has (S:zo)(h:Array Obj)(y:A)(v:Value)(F:List Nat):Prop:=(wh S y v/\F=[])\/∃cs,zU S h y cs F/\F.Nodup/\v=y8 y cs
mutual
theorem Rep.isD:∀{a:A} {cs:List Value},Rep S a cs->a.isD=true
 | .agg fs,_,r=>by simp only[Rep]at r;simp only[A.isD];exact yK.areD r
 | .atom _,_,_=>rfl
 | .fn _ _,_,_=>rfl
 | .sl _ _ _,_,_=>rfl
 | .sptr _,_,_=>rfl
 | .dop _,_,_=>rfl
 | .tup _,_,r=>by simp only[Rep]at r
 | .osl _ _ _,_,r=>by simp only[Rep]at r
 | .box _,_,r=>by simp only[Rep]at r
 | .dead _,_,r=>by simp only[Rep]at r
 | .opq _,_,r=>by simp only[Rep]at r
theorem yK.areD:∀{as_:List A} {cs:List Value},yK S as_ cs->A.areD as_=true
 | [],_,_=>rfl
 | a::as_,_,r=>by simp only[yK]at r;obtain⟨c1,c2,_,r1,r2⟩:=r;simp only[A.areD,Rep.isD r1,yK.areD r2,rC]
end
def zcl (P:Program)(t:Nat):TK->Prop
 | .int k=>P.underlying t=some (.int k)
 | .bool=>P.underlying t=some .bool
 | .str=>P.underlying t=some .string
 | .slice e=>P.underlying t=some (.slice e)
 | .ptr e=>P.underlying t=some (.pointer e)
 | .struct fs=>∃fields,P.underlying t=some (.struct fields)/\fields.toList.map (λf=>(f.offset,P.cellsOf f.type))=fs/\∀f∈fields.toList,∃i,P.info? f.type=some i
 | .array n e=>P.underlying t=some (.array n e)
 | .other=>∃d,P.underlying t=some d/\(match d with|.struct _|.array _ _=>false|_=>true)=true
def w7:List Value->List Value->Option Bool
 | [],[]=>some true
 | .int k a::as_,.int k' b::bs=>if k=k' then(w7 as_ bs).map λr=>(a==b)&&r else none
 | _,_=>none
structure zqF (P:Program)(t n:Nat):Prop where
 guard:P.eqGuardType P.depth t=false
 run:∀(vs us:List Value) (r:Bool) (w:World),vs.length=n->us.length=n->w7 vs us=some r->(Op.equal t (.agg vs.toArray) (.agg us.toArray)).run P w=.ok r w
def zwj (z:A)(v:Value)(n:Nat):Prop:=z.size=n/\∀S h,zU S h z v.cells.toList []
structure jC (P:Program)(t:Nat)(i:TI):Prop where
 info:∃f,P.info? t=some f/\f.size=i.size/\f.bytes=i.bytes/\∀z,i.zero=some z->∃v,f.zero=some v/\zwj z v i.size
 kind:zcl P t i.kind
 eqn:i.eqn=true->zqF P t i.size
def wy (P:Program)(tt:TT):Prop:=∀t i,tt t=some i->jC P t i
def fen (r:Option Nat):Fence:={ Fence.wide with round:=r }
variable {P:Program}
theorem z0x {f:FuncId}{vs:Array Value}  {R:Ending->World->Prop}(h:Calls P f vs w R)(r:Option Nat)(m:Nat):CallsIn (fen r) m P f vs w R:=by
 have h0:CallsIn Fence.wide m P f vs w R:=callsIn_wide.2 h;cases r with
 | none=>exact h0
 | some l=>exact h0.inRound l
def qO (P:Program)(C:Ctx)(o:Oper)(a:Act)(w:World)(st':St):Prop :=
 ∀(r:Option Nat) (m:Nat) (K:Act->World->Prop) (Q:Exit->Act->World->Prop),(∀S Fp a' w',Sim C S Fp [] st' a' w'->K a' w')->o.wpIn (fen r) m P a w K Q
variable {o:Oper}
theorem Uw {ρ:Operand->Value}{w w':World}{x:Next}(h:(execOp ρ o).run P w=.ok x w')(hx:∀d,x≠.defer d)(r:Option Nat):(o.semAt r ρ).run P w=.ok x w':=by
 rw[Oper.semAt_eq r ρ o ?_]
 ·exact h
 ·intro c hc;simp only[execOp,hc,Sem.run_bind]at h;cases hr:(resolve ρ c o.type).run P w with
  | ok d w2=>simp only[hr,Result.andThen_ok,Sem.run_pure,Result.ok.injEq]at h;exact hx _ h.1.symm
  | halt e w2=>simp[hr]at h
theorem zr {w w':World}{st':St}    (h:(execOp a.eval o).run P w=.ok (.value v) w')(hs:Sim C S Fp [] st' (a.put o.dst v) w'):qO P C o a w st':=by intro r m K Q hK;refine⟨λ_ _=>trivial,?_⟩;rw[Uw h (by simp)];exact hK _ _ _ _ hs
theorem zf9 {w w':World}{st':St}   (h:(execOp a.eval o).run P w=.ok .skip w')(hd:o.dst=none)(hs:Sim C S Fp [] st' a w'):qO P C o a w st':=by intro r m K Q hK;refine⟨λ_ _=>trivial,?_⟩;rw[Uw h (by simp),Oper.uponIn_skip,hd];exact hK _ _ _ _ hs
variable {dst:Option Nat}
theorem zcn {x:T}     (e:wrT n dst x st=some (u,R,U)) :
  (dst=none/\U=[])\/∃k,dst=some k/\n.ok k=true/\U=[(k,⟨x,(st k).er+1,(st k).ec+1⟩)]:=by
 unfold wrT at e;cases dst with
 | none=>obtain⟨_,_,rfl⟩:=zy e;exact .inl ⟨rfl,rfl⟩
 | some k=>
  right;simp only at e;split at e
  ·rename_i hk;obtain⟨en,R3,U3,R4,U4,h3,h4,rfl,rfl⟩:=bind_some e;obtain⟨rfl,rfl,rfl⟩:=yl h3;obtain⟨rfl,rfl⟩:=wO h4;exact⟨k,rfl,hk,by simp⟩
  ·exact(z7 e).elim
variable {tt:TT}{t:Nat}{fs:List A}{xt:Nat}{op:BinOp}
section
variable {C:Ctx}{S:zo}{Fp:Nat->List Nat}{X:List Nat}{st:St}{a:Act}{w:World}
theorem Sim.dropX (h:Sim C S Fp X st a w):Sim C S Fp [] st a w :=
 h.mem h.below (λ_ _ _ h=>h) h.still.cell h.sbase (λt k hk=>⟨rfl,(h.free t k hk).2.1⟩) (by simp) (by simp) (by simp)
theorem wP (h:Sim C S Fp X st a w)  {x:T}    (e:wrT C.n dst x st=some (u,R,U))  (hx:TOk S w.heap st (Act.tv a) x v) :
  ∃Fp',Sim C S Fp' [] (zh U st) (a.put dst v) w:=by
 rcases zcn e with⟨rfl,rfl⟩|⟨k,rfl,hk,rfl⟩
 ·exact⟨Fp,h.dropX⟩
 ·refine⟨_,h.put hk x [] v ?_ (by simp) (by simp) (by simp) (by simp) (by simp) (by simp)⟩;unfold wv;cases x with
  | gone=>exact hx.elim
  | own _=>exact hx.elim
  | d y=>exact⟨hx,rfl⟩
  | als r p er ec=>exact⟨rfl,XJ.put (gB _) (gB _) (λt ht=>by simp[ht]) hx⟩
  | ptr r p er ec=>exact⟨rfl,Xj.put (gB _) (gB _) (λt ht=>by simp[ht]) hx⟩
theorem Kc (h:Sim C S Fp (F++X) st a w)      (e:wrT C.n dst (.own y) st=some (u,R,U))  (hc:zU S w.heap y cs F)(hn:F.Nodup) :
  ∃Fp',Sim C S Fp' [] (zh U st) (a.put dst (y8 y cs)) w:=by
 rcases zcn e with⟨rfl,rfl⟩|⟨k,rfl,hk,rfl⟩
 ·exact⟨Fp,h.dropX⟩
 ·exact⟨_,h.put hk (.own y) F _ ⟨cs,hc,hn,rfl⟩ (λt m _ hm=>h.xd t m (by simp[hm])) (λm hm=>h.xb m (by simp[hm])) (by simp) (by simp) (by simp) (by simp)⟩
theorem Has.mkT (q:Has S h y v F):(mkT y=.d y/\wh S y v/\F=[])\/(mkT y=.own y/\∃cs,zU S h y cs F/\F.Nodup/\v=y8 y cs):=by
 rcases q with⟨q,rfl⟩|⟨cs,q1,q2,q3⟩
 ·left;refine⟨?_,q,rfl⟩;unfold Go.Own.mkT;cases y <;> try rfl
  all_goals
   simp only[wh]at q;obtain⟨cs,q,_⟩:=q;simp[q.isD]
 ·by_cases hd:y.isD=true
  ·left;obtain⟨q4,rfl⟩:=q1.isD hd;refine⟨?_,qa.repV ⟨cs,q4,q3⟩,rfl⟩;unfold Go.Own.mkT;cases y <;> simp_all
  ·right;refine⟨?_,cs,q1,q2,q3⟩;unfold Go.Own.mkT;cases y <;> first|(simp[zU]at q1;done)|simp_all
theorem z8Y (h:Sim C S Fp (F++X) st a w)      (e:wrT C.n dst (mkT y) st=some (u,R,U))  (hc:Has S w.heap y v F) :
  ∃Fp',Sim C S Fp' [] (zh U st) (a.put dst v) w:=by
 rcases hc.mkT with⟨e1,q,rfl⟩|⟨e1,cs,q1,q2,rfl⟩
 ·rw[e1]at e;exact wP h e q
 ·rw[e1]at e;exact Kc h e q1 q2
theorem zkI (q:Has S h y v F):Has S h (Jq tt t y) v F:=by
 unfold Jq;split
 ·split
  ·split
   ·rename_i i _;right;have hv:v=.slice none 0 0/\F=[]:=by
     rcases q with⟨q,rfl⟩|⟨cs,q1,_,q3⟩
     ·exact⟨(zD.1 q).1,rfl⟩
     ·simp only[zU,Rep]at q1;obtain⟨⟨rfl,_⟩,rfl⟩:=q1;exact⟨q3,rfl⟩
    obtain⟨rfl,rfl⟩:=hv;refine⟨[.slice none 0 0],?_,by simp,rfl⟩;simp only[zU];exact⟨none,0,rfl,(λ_=>rfl),pC _,pT _,by simp,.inl (by simp)⟩
   ·exact q
  ·exact q
 ·exact q
theorem z0N (h:Sim C S Fp X st a w)   {x:T}  (hx:TOk S w.heap st (Act.tv a) x v)    (e:takeC tt t x st=some (y,R,U)) :
  ∃Fp' F,Sim C S Fp' (F++X) (zh U st) a w/\Has S w.heap y v F:=by
 unfold takeC at e;obtain⟨z,R1,U1,R2,U2,h1,h2,rfl,rfl⟩:=bind_some e;obtain⟨rfl,rfl,rfl⟩:=zy h2;obtain⟨Fp',F,g1,g2⟩:=z6z h hx h1;exact⟨Fp',F,by simpa using g1,zkI g2⟩
theorem wh.plain (h:wh S y v):y.plain=true:=by
 by_cases ht:∃fs,y=.tup fs
 ·obtain⟨fs,rfl⟩:=ht;rfl
 ·have q1:qa S y v:=by cases y <;> simp only[wh]at h <;> first|exact h|exact absurd ⟨_,rfl⟩ ht
  obtain⟨cs,c1,_⟩:=q1;exact c1.plain
theorem zf3:∀{y:A},y.isD=true->y.plain=true
 | .agg fs,h=>by simp only[A.isD]at h;simp only[A.plain];exact areD_plains h
 | .opq _,h=>by simp[A.isD]at h
 | .atom _,_=>rfl
 | .fn _ _,_=>rfl
 | .sl _ _ _,_=>rfl
 | .sptr _,_=>rfl
 | .dop _,_=>rfl
 | .tup _,_=>rfl
 | .osl _ _ _,_=>rfl
 | .box _,_=>rfl
 | .dead _,_=>rfl
where areD_plains:∀{ys:List A},A.areD ys=true->A.plains ys=true
 | [],_=>rfl
 | y::ys,h=>by simp only[A.areD,pJ]at h;simp only[A.plains,zf3 h.1,areD_plains h.2,rC]
theorem zif {x:T}  (hx:TOk S w.heap st (Act.tv a) x v)    (e:take x st=some (y,R,U)):y.plain=true:=by
 cases x with
 | d z=>simp only[take]at e;obtain⟨rfl,rfl,rfl⟩:=zy e;exact wh.plain hx
 | als r p er ec=>
  simp only[take]at e;obtain⟨z,R1,U1,R2,U2,h1,h2,rfl,rfl⟩:=bind_some e;by_cases hd:z.isD=true
  ·rw[if_pos hd]at h2;obtain⟨rfl,rfl,rfl⟩:=zy h2;exact zf3 hd
  ·rw[if_neg hd]at h2;by_cases hpl:z.plain=true
   case neg=>rw[if_neg hpl]at h2;exact(z7 h2).elim
   rw[if_pos hpl]at h2;obtain⟨en,R3,U3,R4,U4,h3,h4,rfl,rfl⟩:=bind_some h2;cases ht:en.t with
   | own x=>
    simp only[ht]at h4;by_cases hp:p=[]
    ·rw[if_pos hp]at h4;obtain⟨u5,R5,U5,R6,U6,h5,h6,rfl,rfl⟩:=bind_some h4;obtain⟨rfl,rfl,rfl⟩:=zy h6;exact hpl
    ·rw[if_neg hp]at h4;obtain⟨u5,R5,U5,R6,U6,h5,h6,rfl,rfl⟩:=bind_some h4;obtain⟨rfl,rfl,rfl⟩:=zy h6;exact hpl
   | d _=>simp only[ht]at h4;exact(z7 h4).elim
   | gone=>simp only[ht]at h4;exact(z7 h4).elim
   | als _ _ _ _=>simp only[ht]at h4;exact(z7 h4).elim
   | ptr _ _ _ _=>simp only[ht]at h4;exact(z7 h4).elim
 | own z=>exact hx.elim
 | gone=>exact hx.elim
 | ptr r p er ec=>simp only[take]at e;exact(z7 e).elim
theorem zeM (h:y.plain=true):(Jq tt t y).plain=true:=by
 unfold Jq;split
 ·split
  ·split <;> rfl
  ·rfl
 ·exact h
theorem zfR {x:T}  (hx:TOk S w.heap st (Act.tv a) x v)    (e:takeC tt t x st=some (y,R,U)):y.plain=true:=by unfold takeC at e;obtain⟨z,R1,U1,R2,U2,h1,h2,rfl,rfl⟩:=bind_some e;obtain⟨rfl,rfl,rfl⟩:=zy h2;exact zeM (zif hx h1)
def zkL (n:Fr)(dst:Option Nat)(x:Operand):SM Unit:=do
 let t <-opnd x
 wrT n dst t
theorem zrY (h:Sim C S Fp [] st a w)   (ho:o.op=.move x)    (e:zkL C.n o.dst x st=some (u,R,U)):qO P C o a w (zh U st):=by unfold zkL at e;obtain⟨y,R1,U1,R2,U2,h1,h2,rfl,rfl⟩:=bind_some e;obtain⟨rfl,hx⟩:=zK h h1;obtain⟨Fp',hs⟩:=wP h h2 hx;exact zr (v:=a.eval x) (by simp[execOp,ho]) hs
def z6W (tt:TT)(n:Fr)(dst:Option Nat)(t:Nat)(x:Operand):SM Unit:=do
 let y <-opnd x;match y with
 | .ptr r p er ec=>wrT n dst (.ptr r p er ec)
 | y=>do
  let z <-takeC tt t y
  wrT n dst (mkT z)
theorem zm8 (h:Sim C S Fp [] st a w)    (ho:o.op=.assign x)    (e:z6W tt C.n o.dst o.type x st=some (u,R,U)):qO P C o a w (zh U st):=by
 unfold z6W at e;obtain⟨y,R1,U1,R2,U2,h1,h2,rfl,rfl⟩:=bind_some e;obtain⟨rfl,hx⟩:=zK h h1;have gen:∀(R2:List Nat) (U2:List (Nat×Ent)),(do let z <-takeC tt o.type y;wrT C.n o.dst (mkT z):SM Unit) st=some (u,R2,U2)->qO P C o a w (zh U2 st):=by intro R2 U2 h2;obtain⟨z,R3,U3,R4,U4,h3,h4,rfl,rfl⟩:=bind_some h2;obtain⟨Fp',F,g1,g2⟩:=z0N h hx h3;obtain⟨Fp'',hs⟩:=z8Y g1 h4 g2;rw[zB];exact zr (v:=a.eval x) (by simp[execOp,ho]) hs
 cases y with
 | ptr r p er ec=>obtain⟨Fp',hs⟩:=wP h h2 hx;exact zr (v:=a.eval x) (by simp[execOp,ho]) hs
 | d _=>exact gen _ _ h2
 | als _ _ _ _=>exact gen _ _ h2
 | gone=>exact hx.elim
 | own _=>exact hx.elim
def zfm (tt:TT)(n:Fr)(dst:Option Nat)(op:BinOp)(xt:Nat)(x y:Operand):SM Unit:=do
 let tx <-opnd x;let vx <-val tx;let ty <-opnd y;let vy <-val ty;let r <-ofO (zqx tt op xt vx vy)
 wrT n dst (.d r)
theorem zhi (h:wh S (.agg fs) v):∃cs,v=.agg cs.toArray/\yK S fs cs:=by simp only[wh]at h;obtain⟨cs,h1,h2⟩:=h;simp only[Rep]at h1;exact⟨cs,h2,h1⟩
theorem Kw:∀{as_ bs:List A} {r:Bool} {cs ds:List Value},qY as_ bs=some r->yK S as_ cs->yK S bs ds->w7 cs ds=some r
 | [],[],r,cs,ds,h,h1,h2=>by simp only[yK]at h1 h2;subst h1;subst h2;simpa[qY,w7] using h
 | .atom (.int k a)::as_,.atom (.int k' b)::bs,r,cs,ds,h,h1,h2=>by
  simp only[yK]at h1 h2;obtain⟨c1,c2,rfl,q1,q2⟩:=h1;obtain⟨d1,d2,rfl,p1,p2⟩:=h2;simp only[Rep]at q1 p1;obtain⟨rfl,_⟩:=q1;obtain⟨rfl,_⟩:=p1;simp only[qY]at h;split at h
  ·rename_i hk;subst hk;cases he:qY as_ bs with
   | none=>simp[he]at h
   | some r'=>simp only[he,gH,Option.some.injEq]at h;simp[w7,Kw he q2 p2,h]
  ·cases h
 | [],_::_,_,_,_,h,_,_=>by simp[qY]at h
 | _::_,[],_,_,_,h,_,_=>by unfold qY at h;split at h <;> simp_all
 | a::as_,b::bs,r,cs,ds,h,h1,h2=>by
  unfold qY at h;split at h
  ·simp_all
  ·rename_i k x xs k' y ys e1 e2;simp only[List.cons.injEq]at e1 e2;obtain⟨rfl,rfl⟩:=e1;obtain⟨rfl,rfl⟩:=e2;simp only[yK]at h1 h2;obtain⟨c1,c2,rfl,q1,q2⟩:=h1;obtain⟨d1,d2,rfl,p1,p2⟩:=h2;simp only[Rep]at q1 p1;obtain⟨rfl,_⟩:=q1;obtain⟨rfl,_⟩:=p1;split at h
   ·rename_i hk;subst hk;cases he:qY as_ bs with
    | none=>simp[he]at h
    | some r'=>simp only[he,gH,Option.some.injEq]at h;simp[w7,Kw he q2 p2,h]
   ·cases h
  ·cases h
theorem zk2 {P:Program}  {k:IntKind}{x y:Int}{r:A}(e:zll op k x y=some r)(xt:Nat)(p q:Operand)(w:World) :
    ∃v,wh S r v/\(do eqGuard op xt p q (.int k x) (.int k y);Go.binOp op xt (.int k x) (.int k y)).run P w=.ok v w:=by
  cases op <;> simp only[zll]at e
  all_goals first
    | (simp only[Option.some.injEq]at e;subst e
       refine⟨_,zD.2 ⟨rfl,rfl⟩,?_⟩;simp[eqGuard,Go.binOp,Op.intArith,Op.intCmp];done)
    | (split at e
       · cases e
       · rename_i h0;simp only[Option.some.injEq]at e;subst e;refine⟨_,zD.2 ⟨rfl,rfl⟩,?_⟩;simp[eqGuard,Go.binOp,Op.intDiv,h0])
    |(cases e;done)
theorem z42 (hb:P.underlying xt=some .bool)(x y:Bool)(w:World):(Op.equal xt (.bool x) (.bool y)).run P w=.ok (x==y) w:=by
 have:∀d,(Op.equalIn (d+1) xt (.bool x) (.bool y)).run P w=.ok (x==y) w:=by intro d;simp[Op.equalIn,run_underlying hb]
 exact this 9999
theorem z7K (hb:P.underlying xt=some .bool)(x y:Bool)(p q:Operand)(w:World) :
  (do eqGuard .eql xt p q (.bool x) (.bool y);Go.binOp .eql xt (.bool x) (.bool y)).run P w=.ok (.bool (x==y)) w /\
  (do eqGuard .neq xt p q (.bool x) (.bool y);Go.binOp .neq xt (.bool x) (.bool y)).run P w=.ok (.bool (!(x==y))) w:=by
 constructor
 ·show(do (pure ():Sem Unit);(do pure (Value.bool (<-Op.equal xt (.bool x) (.bool y))))).run P w=_;simp only[Sem.run_bind,Sem.run_pure,Result.andThen_ok,z42 hb]
 ·show(do (pure ():Sem Unit);(do pure (Value.bool (!(<-Op.equal xt (.bool x) (.bool y)))))).run P w=_;simp only[Sem.run_bind,Sem.run_pure,Result.andThen_ok,z42 hb]
theorem z9w {x y:Array Value}{r:Bool}  (hg:P.eqGuardType P.depth xt=false)(hr:(Op.equal xt (.agg x) (.agg y)).run P w=.ok r w)(p q:Operand) :
  (do eqGuard .eql xt p q (.agg x) (.agg y);Go.binOp .eql xt (.agg x) (.agg y)).run P w=.ok (.bool r) w /\
  (do eqGuard .neq xt p q (.agg x) (.agg y);Go.binOp .neq xt (.agg x) (.agg y)).run P w=.ok (.bool (!r)) w:=by
 have h1:(eqGuard .eql xt p q (.agg x) (.agg y)).run P w=.ok () w:=by show(do if !(<-program).eqGuardType (<-program).depth xt then pure () else _:Sem Unit).run P w=_;simp[program,Sem.run,hg]
 have h2:(eqGuard .neq xt p q (.agg x) (.agg y)).run P w=.ok () w:=by show(do if !(<-program).eqGuardType (<-program).depth xt then pure () else _:Sem Unit).run P w=_;simp[program,Sem.run,hg]
 constructor
 ·show(do eqGuard .eql xt p q (.agg x) (.agg y);(do pure (Value.bool (<-Op.equal xt (.agg x) (.agg y))))).run P w=_;simp only[Sem.run_bind,Sem.run_pure,Result.andThen_ok,h1,hr]
 ·show(do eqGuard .neq xt p q (.agg x) (.agg y);(do pure (Value.bool (!(<-Op.equal xt (.agg x) (.agg y)))))).run P w=_;simp only[Sem.run_bind,Sem.run_pure,Result.andThen_ok,h2,hr]
theorem zsK {P:Program}  (hT:wy P tt){S:zo}   {x y:Operand}{vx vy r:A}{ux uy:Value}(qx:wh S vx ux)(qy:wh S vy uy)(hr:zqx tt op xt vx vy=some r)(w:World) :
  ∃v,wh S r v/\(do eqGuard op xt x y ux uy;Go.binOp op xt ux uy).run P w=.ok v w:=by
 have fin:∀v,wh S r v->(do eqGuard op xt x y ux uy;Go.binOp op xt ux uy).run P w=.ok v w->∃v,wh S r v/\(do eqGuard op xt x y ux uy;Go.binOp op xt ux uy).run P w=.ok v w:=λv h1 h2=>⟨v,h1,h2⟩;unfold zqx at hr;split at hr
 ·
  obtain⟨ex,_⟩:=zD.1 qx;obtain⟨ey,_⟩:=zD.1 qy;split at hr
  ·rename_i hk;subst hk;obtain⟨v,hv,hrun⟩:=zk2 (S:=S) (P:=P) hr xt x y w;exact fin v hv (by rw[ex,ey];exact hrun)
  ·cases hr
 ·
  obtain⟨ex,_⟩:=zD.1 qx;obtain⟨ey,_⟩:=zD.1 qy;split at hr
  ·rename_i htt;have hb:P.underlying xt=some .bool:=(hT _ _ htt).kind;split at hr
   ·simp only[Option.some.injEq]at hr;subst hr;refine fin _ (zD.2 ⟨rfl,rfl⟩) ?_;rw[ex,ey];exact(z7K hb _ _ x y w).1
   ·simp only[Option.some.injEq]at hr;subst hr;refine fin _ (zD.2 ⟨rfl,rfl⟩) ?_;rw[ex,ey];exact(z7K hb _ _ x y w).2
   ·cases hr
  ·cases hr
 ·
  obtain⟨cs,ex,rx⟩:=zhi qx;obtain⟨ds,ey,ry⟩:=zhi qy;split at hr
  ·rename_i i htt;split at hr
   ·rename_i hc;obtain⟨c1,c2,c3⟩:=hc;have heq:=(hT _ _ htt).eqn c1;have len:∀{as_ bs:List A} {r:Bool} {cs:List Value},qY as_ bs=some r->yK S as_ cs->cs.length=as_.length:=by
     intro as_;induction as_ with
     | nil=>intro bs r cs _ q;simp only[yK]at q;simp[q]
     | cons a as_ ih=>
      intro bs r cs he q;cases bs with
      | nil=>unfold qY at he;split at he <;> simp_all
      | cons b bs=>
       unfold qY at he;split at he
       ·simp_all
       ·rename_i k x xs k' y ys e1 e2;simp only[List.cons.injEq]at e1 e2;obtain⟨rfl,rfl⟩:=e1;obtain⟨rfl,rfl⟩:=e2;simp only[yK]at q;obtain⟨d1,d2,rfl,p1,p2⟩:=q;simp only[Rep]at p1;obtain⟨rfl,_⟩:=p1;split at he
        ·cases he':qY as_ bs with
         | none=>simp[he']at he
         | some r'=>simp[ih he' p2]
        ·cases he
       ·cases he
    have len':∀{as_ bs:List A} {r:Bool} {cs ds:List Value},qY as_ bs=some r->yK S as_ cs->yK S bs ds->bs.length=as_.length/\ds.length=bs.length:=by
     intro as_;induction as_ with
     | nil=>intro bs r cs ds he q q';cases bs with|nil=>simp only[yK]at q';simp[q']|cons b bs=>simp[qY]at he
     | cons a as_ ih=>
      intro bs r cs ds he q q';cases bs with
      | nil=>unfold qY at he;split at he <;> simp_all
      | cons b bs=>
       unfold qY at he;split at he
       ·simp_all
       ·rename_i k x xs k' y ys e1 e2;simp only[List.cons.injEq]at e1 e2;obtain⟨rfl,rfl⟩:=e1;obtain⟨rfl,rfl⟩:=e2;simp only[yK]at q q';obtain⟨d1,d2,rfl,p1,p2⟩:=q;obtain⟨d3,d4,rfl,p3,p4⟩:=q';simp only[Rep]at p3;obtain⟨rfl,_⟩:=p3;split at he
        ·cases he':qY as_ bs with
         | none=>simp[he']at he
         | some r'=>have:=ih he' p2 p4;simp[this]
        ·cases he
       ·cases he
    split at hr
    ·obtain⟨b,he,rfl⟩:=pZ.1 hr
     ·refine fin _ (zD.2 ⟨rfl,rfl⟩) ?_;rw[ex,ey];have:=heq.run cs ds b w (by rw[len he rx,c2]) (by rw[(len' he rx ry).2,c3]) (Kw he rx ry);exact(z9w heq.guard this x y).1
    ·obtain⟨b,he,rfl⟩:=pZ.1 hr
     ·refine fin _ (zD.2 ⟨rfl,rfl⟩) ?_;rw[ex,ey];have:=heq.run cs ds b w (by rw[len he rx,c2]) (by rw[(len' he rx ry).2,c3]) (Kw he rx ry);exact(z9w heq.guard this x y).2
    ·cases hr
   ·cases hr
  ·cases hr
 ·cases hr
theorem zpw (hT:wy P tt)(h:Sim C S Fp [] st a w)   {xt yt:Nat}{x y:Operand}(ho:o.op=.binOp op xt x y yt){u:Unit}{R:List Nat}{U:List (Nat×Ent)}
  (e:zfm tt C.n o.dst op xt x y st=some (u,R,U)):qO P C o a w (zh U st):=by
 unfold zfm at e;obtain⟨tx,R1,U1,R2,U2,h1,e1,rfl,rfl⟩:=bind_some e;obtain⟨rfl,hx⟩:=zK h h1;obtain⟨vx,R3,U3,R4,U4,h3,e2,rfl,rfl⟩:=bind_some e1;obtain⟨rfl,qx⟩:=jD h hx h3;obtain⟨ty,R5,U5,R6,U6,h5,e3,rfl,rfl⟩:=bind_some e2;obtain⟨rfl,hy⟩:=zK h h5;obtain⟨vy,R7,U7,R8,U8,h7,e4,rfl,rfl⟩:=bind_some e3;obtain⟨rfl,qy⟩:=jD h hy h7;obtain⟨r,R9,U9,R10,U10,h9,e5,rfl,rfl⟩:=bind_some e4;obtain⟨hr,rfl,rfl⟩:=kQ h9;simp only[zh,p9]at e5 ⊢;have fin:∀v,wh S r v->(do eqGuard op xt x y (a.eval x) (a.eval y);Go.binOp op xt (a.eval x) (a.eval y)).run P w=.ok v w->qO P C o a w (zh U10 st):=by intro v hv hrun;obtain⟨Fp',hs⟩:=wP h e5 (x:=.d r) hv;refine zr (v:=v) ?_ hs;simp only[execOp,ho,Sem.run_bind,Sem.run_pure]at hrun ⊢;rw[hrun];rfl
 obtain⟨v,hv,hrun⟩:=zsK (x:=x) (y:=y) hT qx qy hr w;exact fin v hv hrun
end
theorem VD:∀(p q:List Q5) (x:A),vQ (p++q) x=(vQ p x).bind (vQ q)
 | [],q,x=>by simp[vQ]
 | s::p,q,x=>by
  cases s <;> cases x <;> simp only[gQ,vQ,Option.bind_none]
  ·exact VD p q _
  ·split <;> simp[VD p q]
  ·split <;> simp[VD p q]
theorem Jr (h:Array Obj):∀(p q:List Q5) (x:A) (b o:Nat) {b' o':Nat} {y:A},z7O h p x b o=some (b',o')->vQ p x=some y->z7O h (p++q) x b o=z7O h q y b' o'
 | [],q,x,b,o,b',o',y,h1,h2=>by simp only[z7O,Option.some.injEq,Prod.mk.injEq]at h1;simp only[vQ,Option.some.injEq]at h2;obtain⟨rfl,rfl⟩:=h1;subst h2;rfl
 | s::p,q,x,b,o,b',o',y,h1,h2=>by
  cases s <;> cases x <;> simp only[gQ,z7O,vQ]at h1 h2 ⊢ <;> first|(cases h2;done)|skip
  ·split at h1
   ·exact Jr h p q _ _ _ h1 h2
   ·cases h1
  ·split at h1
   ·rename_i hf;simp only[hf]at h2 ⊢;exact Jr h p q _ _ _ h1 h2
   ·cases h1
  ·rename_i i sz tg es;cases hf:es[i]? with
   | none=>simp[hf]at h2
   | some z=>
    simp only[hf]at h1 h2 ⊢;cases hc:yj h b o with
    | none=>simp[hc]at h1
    | some u=>
     simp only[hc]at h1 ⊢;cases u <;> first|(simp at h1;done)|skip
     rename_i a _ _;cases a with
     | none=>simp at h1
     | some a=>exact Jr h p q _ _ _ h1 h2
theorem KU (h:Array Obj)(p q:List Q5)(x:A)(v:Value){b' o':Nat}  (h1:uj h p x v=some (b',o'))(h2:vQ p x=some y):uj h (p++q) x v=z7O h q y b' o':=by
 cases p with
 | nil=>cases x <;> simp[uj]at h1
 | cons s p=>
  cases s <;> cases x <;> cases v <;> first|(simp[uj]at h1;done)|skip
  ·rename_i a;cases a with
   | none=>simp[uj]at h1
   | some a=>simp only[gQ,uj,vQ]at h1 h2 ⊢;exact Jr h p q _ _ _ h1 h2
  ·rename_i a _ _;cases a with
   | none=>simp[uj]at h1
   | some a=>
    simp only[gQ,uj,vQ]at h1 h2 ⊢;split at h1
    ·rename_i hf;simp only[hf]at h2 ⊢;exact Jr h p q _ _ _ h1 h2
    ·cases h1
theorem z4m {p q:List Q5}(h:z2C p=true):z2C (p++q)=true:=by
 cases p with
 | nil=>simp[z2C]at h
 | cons s p=>cases s <;> simp_all [z2C]
theorem z1n (w:World)(b o:Nat):w.cell? ⟨b,o,none⟩=yj w.heap b o:=by simp only[World.cell?,yj];split <;> simp_all
theorem z2v {k:TK}(h:zcl P t k)(w:World):(Go.isAgg t).run P w=.ok k.isAgg w:=by
 cases k with
 | struct fs=>obtain⟨f,h,_⟩:=h;simp[Go.isAgg,run_underlying h,TK.isAgg]
 | other=>obtain⟨d,h,hd⟩:=h;cases d <;> first|(simp at hd;done)|simp[Go.isAgg,run_underlying h,TK.isAgg]
 | _=>simp only[zcl]at h;simp[Go.isAgg,run_underlying h,TK.isAgg]
theorem YF (hT:wy P tt)  {i:TI}(h:tt t=some i)(w:World):(Go.sizeOf t).run P w=.ok i.size w:=by obtain⟨f,h1,h2,_⟩:=(hT t i h).info;simp[Go.sizeOf,typeInfo,h1,h2]
theorem Vr {P:Program}  (hT:wy P tt)   (hf:Ym tt t y=true)  {b o:Nat}  (hl:cs.length=y.size)(hs:zmn w.heap b o cs) :
  (loadVar t ⟨b,o,none⟩).run P w=.ok (y8 y cs) w:=by
 unfold Ym at hf;split at hf
 ·rename_i i hi;simp only[pJ,beq_iff_eq,mI]at hf;obtain⟨⟨h1,h2⟩,h3⟩:=hf;have hk:=z2v (hT t i hi).kind w;unfold loadVar;simp only[Sem.run_bind,hk,Result.andThen_ok,Sem.run_ite];by_cases ha:i.kind.isAgg=true
  ·rw[if_pos ha];have hc:=run_loadCells_list (P:=P) w ⟨b,o,none⟩ cs (λj v hj=>by rw[Addr.add_lit,z1n];exact hs j v hj);rw[h1]at ha;cases y <;> simp[A.isAgg]at ha;simp only[YF hT hi,Result.andThen_ok,h2,<-hl,hc,Sem.run_pure,y8]
  ·rw[if_neg ha];have h4:i.size=1:=by simpa[ha] using h3
   have hlen:cs.length=1:=by omega
   obtain⟨c,rfl⟩:=mG.1 hlen;have:=hs 0 c rfl;simp only[mY]at this;rw[run_load,z1n,this];rw[h1]at ha;cases y <;> simp_all [A.isAgg,y8]
 ·cases hf
variable {es:List A}
section
variable {C:Ctx}{S:zo}{Fp:Nat->List Nat}{X:List Nat}{st:St}{a:Act}{w:World}
def zjn (n:Fr)(dst:Option Nat)(op:UnOp)(x:Operand):SM Unit:=do
 let t <-opnd x;let y <-val t;let r <-ofO (unA op y)
 wrT n dst (.d r)
theorem zqL (h:Sim C S Fp [] st a w)  {op:UnOp}  {x:Operand}(ho:o.op=.unOp op xt x)    (e:zjn C.n o.dst op x st=some (u,R,U)):qO P C o a w (zh U st):=by
 unfold zjn at e;obtain⟨t,R1,U1,R2,U2,h1,e1,rfl,rfl⟩:=bind_some e;obtain⟨rfl,hx⟩:=zK h h1;obtain⟨y,R3,U3,R4,U4,h3,e2,rfl,rfl⟩:=bind_some e1;obtain⟨rfl,qx⟩:=jD h hx h3;obtain⟨r,R9,U9,R10,U10,h9,e5,rfl,rfl⟩:=bind_some e2;obtain⟨hr,rfl,rfl⟩:=kQ h9;simp only[zh,p9]at e5 ⊢;unfold unA at hr;split at hr
 ·obtain⟨ex,_⟩:=zD.1 qx;split at hr
  ·simp only[Option.some.injEq]at hr;subst hr;obtain⟨Fp',hs⟩:=wP h e5 (x:=.d _) (zD.2 ⟨rfl,rfl⟩);exact zr (by simp[execOp,ho,ex,Op.unary]) hs
  ·cases hr
 ·obtain⟨ex,_⟩:=zD.1 qx;split at hr
  ·simp only[Option.some.injEq]at hr;subst hr;obtain⟨Fp',hs⟩:=wP h e5 (x:=.d _) (zD.2 ⟨rfl,rfl⟩);exact zr (by simp[execOp,ho,ex,Op.unary,Op.intArith]) hs
  ·cases hr
 ·cases hr
def ziV (tt:TT)(n:Fr)(dst:Option Nat)(s t:Nat)(x:Operand):SM Unit:=do
 let y <-opnd x;let v <-val y;match v with
 | .atom (.int _ m)=>
  match tt s with
  | some _=>
   match tt t with
   | some ⟨.int k,_,_,_,_⟩=>wrT n dst (.d (.atom (.int k (k.wrap m))))
   | _=>zu
  | none=>zu
 | _=>zu
theorem zla {k:TK}(h:zcl P t k):∃d,P.underlying t=some d:=by cases k <;> simp only[zcl]at h <;> first|exact⟨_,h⟩|(obtain⟨_,h,_⟩:=h;exact⟨_,h⟩)
theorem zsD (hT:wy P tt)(h:Sim C S Fp [] st a w)  {s t:Nat}{x:Operand}(ho:o.op=.convert s t x)    (e:ziV tt C.n o.dst s t x st=some (u,R,U)):qO P C o a w (zh U st):=by
 unfold ziV at e;obtain⟨y,R1,U1,R2,U2,h1,e1,rfl,rfl⟩:=bind_some e;obtain⟨rfl,hx⟩:=zK h h1;obtain⟨v,R3,U3,R4,U4,h3,e2,rfl,rfl⟩:=bind_some e1;obtain⟨rfl,qx⟩:=jD h hx h3;simp only[zh,p9]at e2 ⊢;split at e2
 ·obtain⟨ex,_⟩:=zD.1 qx;cases hs:tt s with
  | none=>simp only[hs]at e2;exact(z7 e2).elim
  | some i=>
   simp only[hs]at e2;obtain⟨d,hd⟩:=zla (hT _ _ hs).kind;cases ht:tt t with
   | none=>simp only[ht]at e2;exact(z7 e2).elim
   | some j=>
    obtain⟨kd,sz,by',z,eq⟩:=j;cases kd with
    | int k=>simp only[ht]at e2;have hk:P.underlying t=some (.int k):=(hT _ _ ht).kind;obtain⟨Fp',hs⟩:=wP h e2 (x:=.d _) (zD.2 ⟨rfl,rfl⟩);exact zr (by simp[execOp,ho,ex,convert,run_underlying hd,run_underlying hk,Conv.intToInt]) hs
    | _=>simp only[ht]at e2;exact(z7 e2).elim
 ·exact(z7 e2).elim
def zge (n:Fr)(dst:Option Nat)(c x y:Operand):SM Unit:=do
 let tc <-opnd c;let vc <-val tc;match vc with
 | .atom (.bool true)=>do
  let t <-opnd x
  wrT n dst t
 | .atom (.bool false)=>do
  let t <-opnd y
  wrT n dst t
 | _=>zu
theorem zrT (h:Sim C S Fp [] st a w)  {c x y:Operand}(ho:o.op=.pick c x y)    (e:zge C.n o.dst c x y st=some (u,R,U)):qO P C o a w (zh U st):=by
 unfold zge at e;obtain⟨tc,R1,U1,R2,U2,h1,e1,rfl,rfl⟩:=bind_some e;obtain⟨rfl,hx⟩:=zK h h1;obtain⟨vc,R3,U3,R4,U4,h3,e2,rfl,rfl⟩:=bind_some e1;obtain⟨rfl,qx⟩:=jD h hx h3;simp only[zh,p9]at e2 ⊢;split at e2
 ·obtain⟨ex,_⟩:=zD.1 qx;obtain⟨t,R5,U5,R6,U6,h5,e6,rfl,rfl⟩:=bind_some e2;obtain⟨rfl,hx⟩:=zK h h5;obtain⟨Fp',hs⟩:=wP h e6 hx;exact zr (by simp[execOp,ho,ex,asBool]) hs
 ·obtain⟨ex,_⟩:=zD.1 qx;obtain⟨t,R5,U5,R6,U6,h5,e6,rfl,rfl⟩:=bind_some e2;obtain⟨rfl,hx⟩:=zK h h5;obtain⟨Fp',hs⟩:=wP h e6 hx;exact zr (by simp[execOp,ho,ex,asBool]) hs
 ·exact(z7 e2).elim
def z3l (n:Fr)(dst:Option Nat)(x:Operand)(i:Nat):SM Unit:=do
 let t <-opnd x;match t with
 | .d (.tup fs)=>match fs[i]? with|some y=>wrT n dst (.d y)|none=>zu
 | _=>zu
theorem UR.get {α β:Type}{R:α->β->Prop}:∀{as_:List α} {bs:List β} {i:Nat} {x:α},UR R as_ bs->as_[i]?=some x->∃y,bs[i]?=some y/\R x y
 | [],_,i,x,_,e=>by simp at e
 | a::as_,[],i,x,r,_=>r.elim
 | a::as_,b::bs,0,x,r,e=>by simp at e;subst e;exact⟨b,rfl,r.1⟩
 | a::as_,b::bs,i+1,x,r,e=>by simp at e;obtain⟨y,h1,h2⟩:=r.2.get e;exact⟨y,by simpa using h1,h2⟩
theorem ziR (h:Sim C S Fp [] st a w)  {x:Operand}{i:Nat}(ho:o.op=.extract x i)    (e:z3l C.n o.dst x i st=some (u,R,U)):qO P C o a w (zh U st):=by
 unfold z3l at e;obtain⟨t,R1,U1,R2,U2,h1,e1,rfl,rfl⟩:=bind_some e;obtain⟨rfl,hx⟩:=zK h h1;simp only[zh,p9]at e1 ⊢;split at e1
 ·rename_i fs;cases hy:fs[i]? with
  | none=>simp only[hy]at e1;exact(z7 e1).elim
  | some y=>simp only[hy]at e1;simp only[TOk,wh]at hx;obtain⟨vs,ev,r⟩:=hx;obtain⟨v,hv,rv⟩:=r.get hy;obtain⟨Fp',hs⟩:=wP h e1 (x:=.d y) rv.repV;exact zr (v:=v) (by simp[execOp,ho,ev,Instr.extract,hv]) hs
 ·exact(z7 e1).elim
theorem zmh (h:Sim C S Fp X st a w)     (ha:XJ w.heap st (Act.tv a) r p er ec v){x y:A}(hr:(st r).t=.own x)(e1:(st r).er=er)(e2:p=[]\/(st r).ec=ec)(hg:vQ p x=some (.box y)) :
  Xj w.heap st (Act.tv a) r (p++[.deref]) (st r).er (st r).ec v:=by
 refine⟨pC _,pC _,?_⟩;simp only[hr];intro _ _;have hq:=h.ent r;unfold wv at hq;simp only[hr]at hq;obtain⟨cs,c1,c2,c3⟩:=hq;have a3:=ha.2.2;simp only[hr]at a3;rcases a3 e1 e2 with⟨rfl,rfl⟩|⟨o1,y',b,o,cs',g1,g2,g3,g4,g5⟩
 ·simp only[vQ,Option.some.injEq]at hg;subst hg;simp only[zU]at c1;obtain⟨b,ty,l,F',rfl,k1,k2,k3,k4⟩:=c1;refine⟨rfl,y,b,0,rfl,?_,by rw[c3];rfl⟩;rw[c3];rfl
 ·rw[hg]at g1;simp only[Option.some.injEq]at g1;subst g1;obtain⟨b',o',arr,ty,csy,Fy,f1,f2,f3,f4,f5,f6,f7,f8,_⟩:=UI p c1 c2 (by rintro rfl;simp[z2C]at o1) (by rintro i q rfl;simp[z2C]at o1) hg;rw[c3,f1]at g2;simp only[Option.some.injEq,Prod.mk.injEq]at g2;obtain⟨rfl,rfl⟩:=g2;have hcs:=QB f4 f2 f3 g3 g4;subst hcs;simp only[zU]at f4;obtain⟨b1,ty1,l,F',rfl,k1,k2,k3,k4⟩:=f4;refine⟨z4m o1,y,b1,0,by simp[VD,hg,vQ],?_,g5⟩;have hc:=g4 0 _ rfl;simp only[mY]at hc;rw[c3,KU w.heap p _ x _ f1 hg];simp only[z7O,hc]
theorem zmg (h:Sim C S Fp X st a w)     (ha:XJ w.heap st (Act.tv a) r p er ec v){x:A}  {t:Bool}  (hr:(st r).t=.own x)(e1:(st r).er=er)(e2:p=[]\/(st r).ec=ec)(hg:vQ p x=some (.osl sz t es)){i:Nat}(hi:i<es.length) :
  ∃b c,v=.slice (some ⟨b,0,none⟩) es.length c/\Xj w.heap st (Act.tv a) r (p++[.idx i]) (st r).er (st r).ec (.pointer (some ⟨b,i*sz,none⟩)):=by
 have hq:=h.ent r;unfold wv at hq;simp only[hr]at hq;obtain⟨cs,c1,c2,c3⟩:=hq;have a3:=ha.2.2;simp only[hr]at a3;have hei:es[i]?=some es[i]:=p7 hi;rcases a3 e1 e2 with⟨rfl,rfl⟩|⟨o1,y',b,o,cs',g1,g2,g3,g4,g5⟩
 ·simp only[vQ,Option.some.injEq]at hg;subst hg;simp only[zU]at c1;obtain⟨pp,c,rfl,t1,t2,t3,t4,t5⟩:=c1;rcases t5 with⟨rfl,_⟩|⟨b1,arr1,ty1,l,F',rfl,k1,k2,k3,k4,_,k6⟩
  ·simp at hi
  refine⟨b1,c,by rw[c3];rfl,pC _,pC _,?_⟩;simp only[hr];intro _ _;refine⟨rfl,es[i],b1,i*sz,by simp[vQ,hei],?_,rfl⟩;rw[c3];simp[y8,uj,hei,z7O]
 ·rw[hg]at g1;simp only[Option.some.injEq]at g1;subst g1;obtain⟨b',o',arr,ty,csy,Fy,f1,f2,f3,f4,f5,f6,f7,f8,_⟩:=UI p c1 c2 (by rintro rfl;simp[z2C]at o1) (by rintro i q rfl;simp[z2C]at o1) hg;rw[c3,f1]at g2;simp only[Option.some.injEq,Prod.mk.injEq]at g2;obtain⟨rfl,rfl⟩:=g2;have hcs:=QB f4 f2 f3 g3 g4;subst hcs;simp only[zU]at f4;obtain⟨pp,c,rfl,t1,t2,t3,t4,t5⟩:=f4;rcases t5 with⟨rfl,_⟩|⟨b1,arr1,ty1,l,F',rfl,k1,k2,k3,k4,_,k6⟩
  ·simp at hi
  refine⟨b1,c,g5,pC _,pC _,?_⟩;simp only[hr];intro _ _;refine⟨z4m o1,es[i],b1,i*sz,by simp[VD,hg,vQ,hei],?_,rfl⟩;have hc:=g4 0 _ rfl;simp only[mY]at hc;rw[c3,KU w.heap p _ x _ f1 hg];simp only[z7O,hc,hei]
theorem zkm (hp:Xj w.heap st (Act.tv a) r p er ec v){x:A}  (hr:(st r).t=.own x)(e1:(st r).er=er)(e2:(st r).ec=ec)(hg:vQ p x=some (.agg fs)){i:Nat}(hi:i<fs.length) :
  ∃b o,v=.pointer (some ⟨b,o,none⟩)/\Xj w.heap st (Act.tv a) r (p++[.fld i]) (st r).er (st r).ec (.pointer (some ⟨b,o+A.sizes (fs.take i),none⟩)):=by
 have a3:=hp.2.2;simp only[hr]at a3;obtain⟨o1,y',b,o,g1,g2,g3⟩:=a3 e1 e2;rw[hg]at g1;simp only[Option.some.injEq]at g1;subst g1;have hei:fs[i]?=some fs[i]:=p7 hi;refine⟨b,o,g3,pC _,pC _,?_⟩;simp only[hr];intro _ _;refine⟨z4m o1,fs[i],b,o+A.sizes (fs.take i),by simp[VD,hg,vQ,hei],?_,rfl⟩;rw[KU w.heap p _ x _ g2 hg];simp only[z7O,hei]
theorem z3f (h:Sim C S Fp X st a w){x:T}  (hx:TOk S w.heap st (Act.tv a) x v){q:A⊕(Nat×List Q5×Nat×Nat)}   (e:ptrOf x st=some (q,R,U)) :
  U=[]/\match q with
   | .inl y=>∃b o l,v=.pointer (some ⟨b,o,none⟩)/\Rep S y l/\zbH S b o l
   | .inr (r,p,er,ec)=>Xj w.heap st (Act.tv a) r p er ec v:=by
 unfold ptrOf at e;split at e
 ·obtain⟨rfl,rfl,rfl⟩:=zy e;refine⟨rfl,?_⟩;simp only[TOk,wh]at hx;obtain⟨cs,h1,h2⟩:=hx;simp only[Rep]at h1;obtain⟨b,o,l,rfl,h3,h4⟩:=h1;exact⟨b,o,l,h2,h3,h4⟩
 ·obtain⟨rfl,rfl,rfl⟩:=zy e;exact⟨rfl,hx⟩
 ·rename_i r p er ec;obtain⟨en,R1,U1,R2,U2,h1,e1,rfl,rfl⟩:=bind_some e;obtain⟨rfl,rfl,rfl⟩:=yl h1;obtain⟨y,R3,U3,R4,U4,h3,e2,rfl,rfl⟩:=bind_some e1;simp only[zh,p9]at h3 e2 ⊢;obtain⟨rfl,q⟩:=z2H h hx h3;split at e2
  ·rename_i z;obtain⟨rfl,rfl,rfl⟩:=zy e2;refine⟨rfl,?_⟩;rcases q with⟨x,cs,F,q1,q2,q3,q4,q5,q6,_⟩|⟨q1,q2,q3,q4,q5⟩
   ·exact zmh h hx q1 q2 q3 q4
   ·simp only[wh]at q5;obtain⟨cs,q5,_⟩:=q5;simp[Rep]at q5
  ·rename_i z;obtain⟨rfl,rfl,rfl⟩:=zy e2;refine⟨rfl,?_⟩;have hv:∃cs,Rep S (.sptr z) cs/\v=y8 (.sptr z) cs:=by
    rcases q with⟨x,cs,F,q1,q2,q3,q4,q5,q6,_⟩|⟨q1,q2,q3,q4,q5⟩
    ·exact⟨cs,(q5.isD rfl).1,q6⟩
    ·exact q5
   obtain⟨cs,h1,h2⟩:=hv;simp only[Rep]at h1;obtain⟨b,o,l,rfl,h3,h4⟩:=h1;exact⟨b,o,l,h2,h3,h4⟩
  ·exact(z7 e2).elim
 ·exact(z7 e).elim
theorem z9H (h:Sim C S Fp X st a w)     (hp:Xj w.heap st (Act.tv a) r p er ec v){x:A}(hr:(st r).t=.own x)(e1:(st r).er=er)(e2:(st r).ec=ec)  (hg:vQ p x=some y) :
  ∃b o arr ty csy Fy cs,v=.pointer (some ⟨b,o,none⟩)/\z2C p=true/\w.heap[b]?=some (.cells arr ty (0,0))/\zaW arr o csy/\zU S w.heap y csy Fy/\b∉Fy/\b∈Fp r/\(∀k∈Fy,k∈Fp r)/\Fy.Nodup/\zU S w.heap x cs (Fp r)/\Act.tv a r=y8 x cs /\
   uj w.heap p x (Act.tv a r)=some (b,o) /\
   ∀(S':zo) (h':Array Obj) (z:A) (csz:List Value) (Fz:List Nat),(∀b o v,S b o=some v->S' b o=some v)->csz.length=csy.length->zU S' h' z csz Fz->Fz.Nodup ->
    (∀k∈Fp r,k∉Fy->∀o,S' k o=none)->(∀k,k∈Fp r->k∉Fy->k≠b->h'[k]?=w.heap[k]?)->h'[b]?=some (.cells (z1a arr o csz) ty (0,0)) ->
    (∀k∈Fz,k∈Fp r->k∈Fy) ->
    ∃F0',zU S' h' (JN p x z) cs F0'/\F0'.Nodup/\(∀k,k∈F0'↔(k∈Fp r/\k∉Fy)\/k∈Fz):=by
 have a3:=hp.2.2;simp only[hr]at a3;obtain⟨o1,y',b,o,g1,g2,g3⟩:=a3 e1 e2;have hq:=h.ent r;unfold wv at hq;simp only[hr]at hq;obtain⟨cs,c1,c2,c3⟩:=hq;obtain⟨b',o',arr,ty,csy,Fy,f1,f2,f3,f4,f5,f6,f7,f8,f9⟩:=UI p c1 c2 (by rintro rfl;simp[z2C]at o1) (by rintro i q rfl;simp[z2C]at o1) hg;have g2':=g2;rw[c3,f1]at g2;simp only[Option.some.injEq,Prod.mk.injEq]at g2;obtain⟨rfl,rfl⟩:=g2;exact⟨b',o',arr,ty,csy,Fy,cs,g3,o1,f2,f3,f4,f5,f6,f7,f8,c1,c3,g2',f9⟩
theorem zcS {b o:Nat}    (hb:h[b]?=some (.cells arr ty (0,0)))(hs:zaW arr o cs):zmn h b o cs:=by intro j u hj;simp only[yj,hb];exact hs j u hj
theorem z3k (e:lookP r p er ec st=some (y,R,U)) :
  U=[]/\∃x,(st r).t=.own x/\(st r).er=er/\(st r).ec=ec/\vQ p x=some y:=by
 simp only[lookP]at e;obtain⟨en,R1,U1,R2,U2,h1,h2,rfl,rfl⟩:=bind_some e;obtain⟨rfl,rfl,rfl⟩:=yl h1;simp only[zh]at h2;cases ht:(st r).t with
 | own x=>
  simp only[ht]at h2;split at h2
  ·rename_i hc;obtain⟨g,rfl,rfl⟩:=kQ h2;exact⟨rfl,x,rfl,hc.1,hc.2,g⟩
  ·exact(z7 h2).elim
 | d x=>simp only[ht]at h2;exact(z7 h2).elim
 | gone=>simp only[ht]at h2;exact(z7 h2).elim
 | als _ _ _ _=>simp only[ht]at h2;exact(z7 h2).elim
 | ptr _ _ _ _=>simp only[ht]at h2;exact(z7 h2).elim
def ziJ (tt:TT)(n:Fr)(dst:Option Nat)(t:Nat)(x:Operand):SM Unit:=do
 let y <-opnd x
 loadA tt n dst t y
theorem zkZ (hT:wy P tt)(h:Sim C S Fp [] st a w){o:Oper}  {x:Operand}(ho:o.op=.load t x)    (e:ziJ tt C.n o.dst t x st=some (u,R,U)):qO P C o a w (zh U st):=by
 unfold ziJ loadA at e;obtain⟨y,R1,U1,R2,U2,h1,e1,rfl,rfl⟩:=bind_some e;obtain⟨rfl,hx⟩:=zK h h1;obtain⟨q,R3,U3,R4,U4,h3,e2,rfl,rfl⟩:=bind_some e1;obtain⟨rfl,hq⟩:=z3f h hx h3;simp only[zh,p9]at e2 ⊢;have fin:∀(b' o':Nat) (z:A) (v:Value),a.eval x=.pointer (some ⟨b',o',none⟩)->(loadVar t ⟨b',o',none⟩).run P w=.ok v w->(execOp a.eval o).run P w=.ok (.value v) w:=by intro b' o' z v ev hrun;simp[execOp,ho,ev,Instr.loadAt,Instr.sureAddr,hrun]
 split at e2
 ·rename_i z;split at e2
  ·rename_i hf;obtain⟨b,o',l,ev,r1,r2⟩:=hq;have hld:=Vr hT hf.1 (w:=w) (b:=b) (o:=o') r1.len (λj u hj=>h.still _ _ _ (r2 j u hj));obtain⟨Fp',hs⟩:=wP h e2 (x:=.d z) (v:=y8 z l) (qa.repV ⟨l,r1,rfl⟩);exact zr (fin b o' z _ ev hld) hs
  ·exact(z7 e2).elim
 ·rename_i r p er ec;obtain⟨z,R7,U7,R8,U8,h7,e4,rfl,rfl⟩:=bind_some e2;obtain⟨rfl,x0,k1,k2,k3,k4⟩:=z3k h7;simp only[zh,p9]at e4 ⊢;split at e4
  ·rename_i hf;obtain⟨b,o',arr,ty,csy,Fy,cs,ev,o1,f2,f3,f4,f5,f6,f7,f8,f9,f10,f11,_⟩:=z9H h hq k1 k2 k3 k4;have hld:=Vr hT hf (w:=w) (b:=b) (o:=o') f4.len (zcS f2 f3);split at e4
   ·rename_i hd;obtain⟨Fp',hs⟩:=wP h e4 (x:=.d z) (v:=y8 z csy) (qa.repV ⟨csy,(f4.isD hd).1,rfl⟩);exact zr (fin b o' z _ ev hld) hs
   ·obtain⟨Fp',hs⟩:=wP h e4 (x:=.als r p er ec) (v:=y8 z csy) ⟨by omega,by omega,by simp only[k1];exact λ_ _=>.inr ⟨o1,z,b,o',csy,k4,f11,f4.len,zcS f2 f3,rfl⟩⟩
    exact zr (fin b o' z _ ev hld) hs
  ·exact(z7 e4).elim
end
theorem z1m (h1:∀u∈cs,zqc u=true)(h2:y.isAgg=true\/cs.length=1):(y8 y cs).cells=cs.toArray:=by
 cases y <;> simp only[y8,A.isAgg]at h2 ⊢ <;> first|rfl|skip
 all_goals
  obtain⟨c,rfl⟩:=mG.1 (h2.resolve_left (by simp));have:=h1 c (by simp);cases c <;> first|rfl|(simp[zqc]at this)
theorem Has.cells (q:Has S h y v F)(hy:∀fs,y≠.tup fs):∃cs,zU S h y cs F/\F.Nodup/\v=y8 y cs:=by
 rcases q with⟨q,rfl⟩|q
 ·obtain⟨cs,h1,h2⟩:=q.conc h hy;exact⟨cs,h1,by simp,h2⟩
 ·exact q
theorem Zb {o:Nat}  (h:o+cs.length<=arr.size):(arr.toList.take o++cs++arr.toList.drop (o+cs.length)).toArray=z1a arr o cs:=by
 apply mV;intro k;rw[YO,rb];by_cases h1:k<o
 ·rw[pL,pG (by simp;omega),pV,if_pos h1,if_neg (by omega)];rw[mJ];cases arr[k]? <;> rfl
 ·by_cases h2:k<o+cs.length
  ·rw[pL,pF (by simp;omega),if_pos (by omega)];have:(arr.toList.take o).length=o:=by simp;omega
   rw[this,pG (by omega),p7 (by omega),gS (by omega)];simp
  ·rw[pF (by simp;omega),if_pos (by omega)];have:(arr.toList.take o++cs).length=o+cs.length:=by simp;omega
   rw[this,mQ,pQ (l:=cs) (by omega),show o+cs.length+(k - (o+cs.length))=k from by omega,mJ];cases arr[k]? <;> simp
variable {j:Int}
section
variable {C:Ctx}{S:zo}{Fp:Nat->List Nat}{X:List Nat}{st:St}{a:Act}{w:World}
theorem hao (w:World)(o:Obj)(k:Nat)(h:k<w.heap.size):(w.alloc o).heap[k]?=w.heap[k]?:=Go.RowKit.Below.heap_alloc w o k h
theorem Sim.still_lt (h:Sim C S Fp X st a w){b o:Nat}  (hs:S b o=some v):b<w.heap.size:=by
 have:=h.still b o v hs;unfold yj at this;split at this
 ·rename_i hb;exact(pK.1 hb).1
 ·cases this
theorem Sim.free_new (h:Sim C S Fp X st a w){b:Nat}(hb:w.heap.size<=b)(o:Nat):S b o=none:=by
 cases hs:S b o with
 | none=>rfl
 | some v=>have:=h.still_lt hs;omega
theorem Sim.base_le (h:Sim C S Fp X st a w):C.w0.heap.size<=w.heap.size:=h.below.size
theorem Sim.alloc (h:Sim C S Fp X st a w)(hX:∀k∈X,k<w.heap.size)(o:Obj):Sim C S Fp (w.heap.size::X) st a (w.alloc o):=by
 refine h.mem (h.below.alloc (h.mine _ h.base_le) o) (λ_ _ _ h=>h) ?_ h.sbase (λt k hk=>⟨hao w o k (h.free t k hk).1,(h.free t k hk).2.1⟩) ?_ ?_ ?_
 ·intro b o' v hs;rw[vD (h:=w.heap) (h':=(w.alloc o).heap) (hao w o b (h.still_lt hs))];exact h.still b o' v hs
 ·exact pY.2 ⟨λhm=>rR _ (hX _ hm),h.xn⟩
 ·intro t k hk;rcases pD.1 hk with rfl|hk
  ·exact λhk=>rR _ (h.free t _ hk).1
  ·exact h.xd t k hk
 ·intro k hk;rcases pD.1 hk with rfl|hk
  ·exact h.mine _ h.base_le
  ·exact h.xb k hk
theorem Sim.drew (h:Sim C S Fp X st a w):Sim C S Fp X st a w.drew :=
 h.mem h.below.drew (λ_ _ _ h=>h) h.still.cell h.sbase (λt k hk=>⟨rfl,(h.free t k hk).2.1⟩) h.xn h.xd h.xb
theorem zm0 (h:Sim C S Fp (F++[]) st a w)   (hc:zU S w.heap y cs F)(hn:F.Nodup)(ty:TypeId) :
  Sim C S Fp ((w.heap.size::F)++[]) st a (w.alloc (.cells cs.toArray ty))/\zU S (w.alloc (.cells cs.toArray ty)).heap (.box y) [.pointer (some ⟨w.heap.size,0,none⟩)] (w.heap.size::F)/\(w.heap.size::F).Nodup:=by
 have hlt:∀k∈F,k<w.heap.size:=λk hk=>(hc.own k hk).1;refine⟨by simpa using h.alloc (by simpa using hlt) _,?_,pY.2 ⟨λhm=>rR _ (hlt _ hm),hn⟩⟩;simp only[zU];refine⟨w.heap.size,ty,cs,F,rfl,heap_alloc_new w _,hc.frame (λ_ _ _ h=>h) (λk hk=>⟨hao w _ k (hlt k hk),(hc.own k hk).2.1⟩),rfl,λo=>h.free_new (pC _) o⟩
def ztI (tt:TT)(n:Fr)(dst:Option Nat)(t:Nat)(x:Operand):SM Unit:=do
 let y <-opnd x;let z <-takeC tt t y;match z with
 | .tup _=>zu
 | z=>if z.isAgg=true\/z.size=1 then wrT n dst (.own (.box z)) else zu
theorem zwd (h:Sim C S Fp [] st a w)    (ho:o.op=.box t x)    (e:ztI tt C.n o.dst t x st=some (u,R,U)):qO P C o a w (zh U st):=by
 unfold ztI at e;obtain⟨y,R1,U1,R2,U2,h1,e1,rfl,rfl⟩:=bind_some e;obtain⟨rfl,hx⟩:=zK h h1;obtain⟨z,R3,U3,R4,U4,h3,e2,rfl,rfl⟩:=bind_some e1;obtain⟨Fp',F,g1,g2⟩:=z0N h hx h3;simp only[zh,p9]at e2 ⊢;rw[zB];by_cases hz:∃fs,z=.tup fs
 ·obtain⟨fs,rfl⟩:=hz;exact(z7 e2).elim
 ·have hz':∀fs,z≠.tup fs:=λfs he=>hz ⟨fs,he⟩;have e3:(if z.isAgg=true\/z.size=1 then wrT C.n o.dst (.own (.box z)) else zu:SM Unit) (zh U3 st)=some (u,R4,U4):=by cases z <;> first|exact e2|exact absurd rfl (hz' _)
  split at e3
  ·rename_i hs1;obtain⟨cs,c1,c2,c3⟩:=g2.cells hz';obtain⟨k1,k2,k3⟩:=zm0 g1 c1 c2 t;obtain⟨Fp'',hs⟩:=Kc k1 e3 k2 k3;refine zr (v:=.pointer (some ⟨w.heap.size,0,none⟩)) ?_ hs;have hcl:=z1m (y:=z) c1.na (hs1.imp id (λh=>by rw[c1.len];exact h));simp[execOp,ho,Instr.box,newVar,newRow,c3,hcl]
  ·exact(z7 e3).elim
def zfv (tt:TT)(n:Fr)(dst:Option Nat)(t:Nat):SM Unit:=do
 let i <-ofO (tt t);let z <-ofO i.zero
 wrT n dst (.own (.box z))
theorem zpF (hT:wy P tt)(h:Sim C S Fp [] st a w)   (ho:o.op=.alloc t)    (e:zfv tt C.n o.dst t st=some (u,R,U)):qO P C o a w (zh U st):=by unfold zfv at e;obtain⟨i,R1,U1,R2,U2,h1,e1,rfl,rfl⟩:=bind_some e;obtain⟨hi,rfl,rfl⟩:=kQ h1;obtain⟨z,R3,U3,R4,U4,h3,e2,rfl,rfl⟩:=bind_some e1;obtain⟨hz,rfl,rfl⟩:=kQ h3;simp only[zh,p9]at e2 ⊢;obtain⟨f,f1,f2,f3,f4⟩:=(hT t i hi).info;obtain⟨v,v1,v2,v3⟩:=f4 z hz;obtain⟨k1,k2,k3⟩:=zm0 (F:=[]) (by simpa using h) (v3 S w.heap) (by simp) t;obtain⟨Fp'',hs⟩:=Kc k1 e2 k2 k3;refine zr (v:=.pointer (some ⟨w.heap.size,0,none⟩)) ?_ hs;simp[execOp,ho,Instr.alloc,newVar,newRow,zeroValue,typeInfo,f1,v1]
theorem z9v (hT:wy P tt){t i:Nat}  (hf:z4u tt t i fs=true)(b o:Nat)(w:World) :
  (Instr.fieldAt t (.pointer (some ⟨b,o,none⟩)) i).run P w=.ok (.pointer (some ⟨b,o+A.sizes (fs.take i),none⟩)) w:=by
 unfold z4u at hf;split at hf
 ·rename_i offs sz by' z eq ht;split at hf
  ·rename_i off sz' ho;simp only[pJ,beq_iff_eq,bne_iff_ne,ne_eq]at hf;obtain⟨fields,g1,g2,g3⟩:=(hT _ _ ht).kind;rw[<-g2,gT]at ho;cases hfi:fields.toList[i]? with
   | none=>simp[hfi]at ho
   | some f=>
    simp only[hfi,gH,Option.some.injEq,Prod.mk.injEq]at ho;obtain⟨rfl,rfl⟩:=ho;obtain⟨inf,hinf⟩:=g3 f (pO hfi);have hfi':fields[i]?=some f:=by simpa using hfi
    have hsz:inf.size≠0:=by simpa[Program.cellsOf,hinf] using hf.2
    simp[Instr.fieldAt,run_underlying g1,hfi',Instr.sureAddr,fieldPlace,Go.sizeOf,typeInfo,hinf,hsz,Addr.add_lit,hf.1]
  ·cases hf
 ·cases hf
def z0v (tt:TT)(n:Fr)(dst:Option Nat)(t i:Nat)(x:Operand):SM Unit:=do
 let y <-opnd x
 fieldAddrA tt n dst t i y
theorem z11:∀{as_:List A} {cs:List Value} {i:Nat} {x:A},yK S as_ cs->as_[i]?=some x->∃c1 ci c2,cs=c1++ci++c2/\c1.length=A.sizes (as_.take i)/\Rep S x ci
 | [],_,_,_,_,e=>by simp at e
 | a::as_,cs,0,x,r,e=>by simp at e;subst e;simp only[yK]at r;obtain⟨c1,c2,rfl,r1,r2⟩:=r;exact⟨[],c1,c2,rfl,rfl,r1⟩
 | a::as_,cs,i+1,x,r,e=>by simp at e;simp only[yK]at r;obtain⟨c1,c2,rfl,r1,r2⟩:=r;obtain⟨d1,di,d2,rfl,hl,hx⟩:=z11 r2 e;exact⟨c1++d1,di,d2,by simp,by simp[A.sizes,hl,r1.len],hx⟩
theorem zbH.mid {b o:Nat}  (h:zbH S b o (c1++ci++c2)):zbH S b (o+c1.length) ci:=by intro j v hj;have hlt:=(p8.1 hj).1;have:=h (c1.length+j) v (by rw[pL,pF (by omega),mT,pG hlt];exact hj);rwa[<-Nat.add_assoc]at this
theorem z9B {b o:Nat}  (h1:Rep S y l)(h2:zbH S b o l):wh S (.sptr y) (.pointer (some ⟨b,o,none⟩)):=by simp only[wh];exact⟨[.pointer (some ⟨b,o,none⟩)],by simp only[Rep];exact⟨b,o,l,rfl,h1,h2⟩,rfl⟩
theorem zff (hT:wy P tt)(h:Sim C S Fp [] st a w)  {t i:Nat}{x:Operand}(ho:o.op=.fieldAddr t x i)    (e:z0v tt C.n o.dst t i x st=some (u,R,U)):qO P C o a w (zh U st):=by
 unfold z0v fieldAddrA at e;obtain⟨y,R1,U1,R2,U2,h1,e1,rfl,rfl⟩:=bind_some e;obtain⟨rfl,hx⟩:=zK h h1;obtain⟨q,R3,U3,R4,U4,h3,e2,rfl,rfl⟩:=bind_some e1;obtain⟨rfl,hq⟩:=z3f h hx h3;simp only[zh,p9]at e2 ⊢;cases q with
 | inl y=>
  cases y <;> try exact(z7 e2).elim
  rename_i fs;simp only at e2;cases hy:fs[i]? with
  | none=>simp only[hy]at e2;exact(z7 e2).elim
  | some y=>
   simp only[hy]at e2;split at e2
   ·rename_i hf;obtain⟨b,o',l,ev,r1,r2⟩:=hq;simp only[Rep]at r1;obtain⟨c1,ci,c2,rfl,hl,hr⟩:=z11 r1 hy;obtain⟨Fp',hs⟩:=wP h e2 (x:=.d (.sptr y)) (z9B hr r2.mid);refine zr ?_ hs;rw[hl];simp[execOp,ho,ev,z9v hT hf]
   ·exact(z7 e2).elim
 | inr q=>
  obtain⟨r,p,er,ec⟩:=q;obtain⟨z,R7,U7,R8,U8,h7,e4,rfl,rfl⟩:=bind_some e2;obtain⟨rfl,x0,k1,k2,k3,k4⟩:=z3k h7;simp only[zh,p9]at e4 ⊢;cases z <;> try exact(z7 e4).elim
  rename_i fs;simp only at e4;split at e4
  ·rename_i hf;obtain⟨b,o',ev,hp⟩:=zkm hq k1 k2 k3 k4 hf.2;rw[k2,k3]at hp;have hp':TOk S w.heap st (Act.tv a) (T.ptr r (p++[Q5.fld i]) er ec) (.pointer (some ⟨b,o' + A.sizes (fs.take i),none⟩)):=hp;obtain⟨Fp',hs⟩:=wP h e4 hp';refine zr ?_ hs;simp[execOp,ho,ev,z9v hT hf.1]
  ·exact(z7 e4).elim
theorem uk (hT:wy P tt){t sz:Nat}(h:wx tt t=some sz)(w:World):∃e,P.underlying t=some (.slice e)/\(Go.sizeOf e).run P w=.ok sz w:=by
 unfold wx at h;split at h
 ·rename_i e s b z q ht;obtain⟨i,hi,rfl⟩:=pZ.1 h;exact⟨e,(hT _ _ ht).kind,YF hT hi w⟩
 ·cases h
theorem z0Y {t e sz:Nat}  (h1:P.underlying t=some (.slice e))(h2:(Go.sizeOf e).run P w=.ok sz w){b o n c:Nat}{k:IntKind}  (h0:0<=j)(hj:j.toNat<n) :
  (Instr.indexAt t (.slice (some ⟨b,o,none⟩) n c) (.int k j)).run P w=.ok (.pointer (some ⟨b,o+j.toNat*sz,none⟩)) w:=by
 have:j<(n:Int):=by omega
 simp[Instr.indexAt,asIntOf,run_underlying h1,h0,this,h2,Addr.add_lit]
def zft (tt:TT)(t:Nat):Option (Nat×Nat) :=
 match tt t with
 | some ⟨.array n e,_,_,_,_⟩=>(tt e).map λi=>(n,i.size)
 | _=>none
def XI (tt:TT)(t:Nat)(fs:List A)(j:Int):Bool :=
 match zft tt t with
 | some (n,sz)=>fs.length==n&&decide (0<=j)&&fs.all λx=>x.size==sz
 | none=>false
def indexArrA (tt:TT)(n:Fr)(dst:Option Nat)(t:Nat)(x:T)(i:A):SM Unit :=
 match i with
 | .atom (.int _ j)=>do
  let q <-ptrOf x;match q with
  | .inl (.agg fs)=>
   match fs[j.toNat]? with
   | some y=>if XI tt t fs j=true then wrT n dst (.d (.sptr y)) else zu
   | none=>zu
  | .inl _=>zu
  | .inr (r,p,er,ec)=>do
   let y <-lookP r p er ec;match y with
   | .agg fs=>if XI tt t fs j=true/\j.toNat<fs.length then wrT n dst (.ptr r (p++[.fld j.toNat]) er ec) else zu
   | _=>zu
 | _=>zu
theorem z2w (hT:wy P tt)    (hf:XI tt t fs j=true)(hj:j.toNat<fs.length)(k:IntKind)(b o:Nat)(w:World) :
  (Instr.indexAt t (.pointer (some ⟨b,o,none⟩)) (.int k j)).run P w=.ok (.pointer (some ⟨b,o+A.sizes (fs.take j.toNat),none⟩)) w:=by
 unfold XI at hf;split at hf
 ·rename_i n sz ha;unfold zft at ha;split at ha
  ·rename_i n' e s' b' z' q' ht;obtain⟨i,hi,he⟩:=pZ.1 ha;simp only[Prod.mk.injEq]at he;obtain⟨rfl,rfl⟩:=he;simp only[pJ,beq_iff_eq,decide_eq_true_eq,gJ]at hf;obtain⟨⟨h1,h0⟩,h2⟩:=hf;have hu:=(hT _ _ ht).kind;have hsz:=YF hT hi w;have hlt:j<(n':Int):=by omega
   have hs:A.sizes (fs.take j.toNat)=j.toNat*i.size:=by rw[A.sizes_const (sz:=i.size) (λx hx=>h2 x (gC hx)),pU,mH (by omega)]
   rw[hs];simp only[zcl]at hu;simp[Instr.indexAt,asIntOf,run_underlying hu,h0,hlt,hsz,Instr.sureAddr,Addr.add_lit]
  ·cases ha
 ·cases hf
def z0s (tt:TT)(n:Fr)(dst:Option Nat)(t:Nat)(x i:Operand):SM Unit:=do
 let y <-opnd x;let ti <-opnd i;let vi <-val ti
 if(zft tt t).isSome=true then indexArrA tt n dst t y vi else indexAddrA tt n dst t y vi
theorem zh5 (hT:wy P tt){t sz:Nat}{tg:Bool}{xs:List A}  (hr:wh S (.sl sz tg xs) v)(hs:wx tt t=some sz){k:IntKind}  (h0:0<=j)  (hy:xs[j.toNat]?=some y)(w:World) :
  ∃u,wh S (.sptr y) u/\(Instr.indexAt t v (.int k j)).run P w=.ok u w:=by
 simp only[wh]at hr;obtain⟨cs,r1,rfl⟩:=hr;simp only[Rep]at r1;obtain⟨p,c,rfl,_,_,h4,h5⟩:=r1;rcases h5 with rfl|⟨b,o,l,rfl,r2,r3⟩
 ·simp at hy
 obtain⟨e,he,hsz⟩:=uk hT hs w;obtain⟨c1,ci,c2,rfl,hl,hx⟩:=z11 r2 hy;have hlt:=(p8.1 hy).1;have hc1:c1.length=j.toNat*sz:=by rw[hl,A.sizes_const (sz:=sz) (λx hx=>h4 x (gC hx)),pU,mH (by omega)]
 refine⟨_,z9B hx r3.mid,?_⟩;rw[hc1];exact z0Y he hsz h0 hlt
theorem za1 (hT:wy P tt)(h:Sim C S Fp [] st a w)   {x i:Operand}(ho:o.op=.indexAddr t x i){y:T}(hx:TOk S w.heap st (Act.tv a) y (a.eval x)){vi:A}(qi:wh S vi (a.eval i))
    {u:Unit} {R:List Nat} {U:List (Nat×Ent)} (e:indexArrA tt C.n o.dst t y vi st=some (u,R,U)):qO P C o a w (zh U st):=by
  unfold indexArrA at e;cases vi with
  | atom vv=>
    cases vv with
    | int k j=>
      simp only at e;obtain⟨ei,_⟩:=zD.1 qi;obtain⟨q,R3,U3,R4,U4,h3,e2,rfl,rfl⟩:=bind_some e;obtain⟨rfl,hq⟩:=z3f h hx h3;simp only[zh,p9]at e2 ⊢;cases q with
      | inl y=>
        cases y <;> try exact(z7 e2).elim
        rename_i fs;simp only at e2;cases hy:fs[j.toNat]? with
        | none=>simp only[hy]at e2;exact(z7 e2).elim
        | some y=>
          simp only[hy]at e2;split at e2
          · rename_i hf;obtain⟨b,o',l,ev,r1,r2⟩:=hq;simp only[Rep]at r1;obtain⟨c1,ci,c2,rfl,hl,hr⟩:=z11 r1 hy;obtain⟨Fp',hs⟩:=wP h e2 (x:=.d (.sptr y)) (z9B hr r2.mid);refine zr ?_ hs;rw[hl];simp[execOp,ho,ev,ei,z2w hT hf (p8.1 hy).1]
          · exact(z7 e2).elim
      | inr q=>
        obtain⟨r,p,er,ec⟩:=q;obtain⟨z,R7,U7,R8,U8,h7,e4,rfl,rfl⟩:=bind_some e2;obtain⟨rfl,x0,k1,k2,k3,k4⟩:=z3k h7;simp only[zh,p9]at e4 ⊢;cases z <;> try exact(z7 e4).elim
        rename_i fs;simp only at e4;split at e4
        · rename_i hf;obtain⟨b,o',ev,hp⟩:=zkm hq k1 k2 k3 k4 hf.2;rw[k2,k3]at hp;have hp':TOk S w.heap st (Act.tv a) (T.ptr r (p++[Q5.fld j.toNat]) er ec) (.pointer (some ⟨b,o' + A.sizes (fs.take j.toNat),none⟩)):=hp;obtain⟨Fp',hs⟩:=wP h e4 hp';refine zr ?_ hs;simp[execOp,ho,ev,ei,z2w hT hf.1 hf.2]
        · exact(z7 e4).elim
    | _=>exact(z7 e).elim
  | _=>exact(z7 e).elim
theorem zf4 (hT:wy P tt)(h:Sim C S Fp [] st a w)   {x i:Operand}(ho:o.op=.indexAddr t x i)    (e:z0s tt C.n o.dst t x i st=some (u,R,U)):qO P C o a w (zh U st):=by
 unfold z0s at e;obtain⟨y,R1,U1,R2,U2,h1,e1,rfl,rfl⟩:=bind_some e;obtain⟨rfl,hx⟩:=zK h h1;obtain⟨ti,R3,U3,R4,U4,h3,e2,rfl,rfl⟩:=bind_some e1;obtain⟨rfl,hi⟩:=zK h h3;obtain⟨vi,R5,U5,R6,U6,h5,e3,rfl,rfl⟩:=bind_some e2;obtain⟨rfl,qi⟩:=jD h hi h5;simp only[zh,p9]at e3 ⊢;split at e3
 ·exact za1 hT h ho hx qi e3
 unfold indexAddrA at e3;cases vi with
 | atom vv=>
  cases vv with
  | int k j=>
   simp only at e3;obtain⟨ei,_⟩:=zD.1 qi;cases y with
   | d z=>
    cases z with
    | sl sz tg xs=>
     simp only at e3;split at e3
     ·rename_i hc;cases hy:xs[j.toNat]? with
      | none=>simp only[hy]at e3;exact(z7 e3).elim
      | some y=>simp only[hy]at e3;obtain⟨v,rv,hrun⟩:=zh5 hT hx hc.1 (k:=k) hc.2 hy w;obtain⟨Fp',hs⟩:=wP h e3 (x:=.d (.sptr y)) rv;exact zr (by simp[execOp,ho,ei,hrun]) hs
     ·exact(z7 e3).elim
    | _=>exact(z7 e3).elim
   | als r p er ec=>
    obtain⟨en,R7,U7,R8,U8,h7,e4,rfl,rfl⟩:=bind_some e3;obtain⟨rfl,rfl,rfl⟩:=yl h7;obtain⟨z,R9,U9,R10,U10,h9,e5,rfl,rfl⟩:=bind_some e4;simp only[zh,p9]at h9 e5 ⊢;obtain⟨rfl,q⟩:=z2H h hx h9;simp only[zh,p9]at e5 ⊢;cases z with
    | osl sz tg es=>
     simp only at e5;split at e5
     ·rename_i hc;rcases q with⟨x0,cs,F,q1,q2,q3,q4,q5,q6,_⟩|⟨q1,q2,q3,q4,q5⟩
      ·obtain⟨b,c,ev,hp⟩:=zmg h hx q1 q2 q3 q4 hc.2.2;obtain⟨e',he,hsz⟩:=uk hT hc.1 w;have hp':TOk S w.heap st (Act.tv a) (T.ptr r (p++[Q5.idx j.toNat]) (st r).er (st r).ec) (.pointer (some ⟨b,j.toNat*sz,none⟩)):=hp;obtain⟨Fp',hs⟩:=wP h e5 hp';refine zr ?_ hs;simp[execOp,ho,ei,ev,z0Y he hsz hc.2.1 hc.2.2]
      ·simp only[wh]at q5;obtain⟨cs,q5,_⟩:=q5;simp[Rep]at q5
     ·exact(z7 e5).elim
    | sl sz tg xs=>
     simp only at e5;have hv:wh S (.sl sz tg xs) (a.eval x):=by
      rcases q with⟨x0,cs,F,q1,q2,q3,q4,q5,q6,_⟩|⟨q1,q2,q3,q4,q5⟩
      ·exact qa.repV ⟨cs,(q5.isD rfl).1,q6⟩
      ·exact q5
     split at e5
     ·rename_i hc;cases hy:xs[j.toNat]? with
      | none=>simp only[hy]at e5;exact(z7 e5).elim
      | some y=>simp only[hy]at e5;obtain⟨v,rv,hrun⟩:=zh5 hT hv hc.1 (k:=k) hc.2 hy w;obtain⟨Fp',hs⟩:=wP h e5 (x:=.d (.sptr y)) rv;exact zr (by simp[execOp,ho,ei,hrun]) hs
     ·exact(z7 e5).elim
    | _=>exact(z7 e5).elim
   | _=>exact(z7 e3).elim
  | _=>exact(z7 e3).elim
 | _=>exact(z7 e3).elim
theorem znp {x:T}     (e:take x st=some (y,R,U)):U=[]\/∃r e',U=[(r,e')]/\(st r).ec<e'.ec:=by
 cases x with
 | d z=>simp only[take]at e;obtain⟨_,_,rfl⟩:=zy e;exact .inl rfl
 | als r p er ec=>
  simp only[take]at e;obtain⟨z,R1,U1,R2,U2,h1,h2,rfl,rfl⟩:=bind_some e;obtain⟨rfl,_⟩:=zeT h1;simp only[zh,p9]at h2 ⊢;split at h2
  ·obtain⟨_,_,rfl⟩:=zy h2;exact .inl rfl
  ·by_cases hpl:z.plain=true
   case neg=>rw[if_neg hpl]at h2;exact(z7 h2).elim
   rw[if_pos hpl]at h2;obtain⟨en,R3,U3,R4,U4,h3,h4,rfl,rfl⟩:=bind_some h2;obtain⟨rfl,rfl,rfl⟩:=yl h3;simp only[zh,p9]at h4 ⊢;cases ht:(st r).t with
   | own x=>
    simp only[ht]at h4;split at h4
    ·obtain⟨u5,R5,U5,R6,U6,h5,h6,rfl,rfl⟩:=bind_some h4;obtain⟨rfl,rfl⟩:=wO h5;obtain⟨_,_,rfl⟩:=zy h6;exact .inr ⟨r,_,rfl,gB _⟩
    ·obtain⟨u5,R5,U5,R6,U6,h5,h6,rfl,rfl⟩:=bind_some h4;obtain⟨rfl,rfl⟩:=wO h5;obtain⟨_,_,rfl⟩:=zy h6;exact .inr ⟨r,_,rfl,gB _⟩
   | gone=>simp only[ht]at h4;exact(z7 h4).elim
   | d _=>simp only[ht]at h4;exact(z7 h4).elim
   | als _ _ _ _=>simp only[ht]at h4;exact(z7 h4).elim
   | ptr _ _ _ _=>simp only[ht]at h4;exact(z7 h4).elim
 | gone=>simp only[take]at e;exact(z7 e).elim
 | own _=>simp only[take]at e;exact(z7 e).elim
 | ptr _ _ _ _=>simp only[take]at e;exact(z7 e).elim
theorem zjp {x:T}     (e:takeC tt t x st=some (y,R,U)):U=[]\/∃r e',U=[(r,e')]/\(st r).ec<e'.ec:=by unfold takeC at e;obtain⟨z,R1,U1,R2,U2,h1,h2,rfl,rfl⟩:=bind_some e;obtain⟨_,_,rfl⟩:=zy h2;simpa using znp h1
def zec (tt:TT)(dst:Option Nat)(t:Nat)(x v:Operand):SM Unit:=do
 if dst=none then
  let y <-opnd x;let z <-opnd v
  storeA tt t y z
 else zu
theorem zdk (h:Ym tt t y=true):y.isAgg=true\/y.size=1:=by
 unfold Ym at h;split at h
 ·simp only[pJ,beq_iff_eq,mI]at h;rcases h.2 with h2|h2
  ·exact .inl (by rw[<-h.1.1];exact h2)
  ·exact .inr (by rw[<-h.1.2];exact h2)
 ·cases h
theorem zeq (hT:wy P tt)  {y:A}(hf:Ym tt t y=true){w:World}{b o:Nat}{arr:Array Value}{ty:TypeId}  (hl:cs.length=y.size)(h1:∀u∈cs,u.oneCell'=true)
  (hb:w.heap[b]?=some (.cells arr ty (0,0))) (hfit:o+cs.length<=arr.size) :
  (storeVar t ⟨b,o,none⟩ (y8 y cs)).run P w=.ok () (w.setRow b (z1a arr o cs)):=by
 have hcl:=z1m (y:=y) (λu hu=>z2E (h1 u hu)) ((zdk hf).imp id (λh=>by rw[hl];exact h));unfold Ym at hf;split at hf
 ·rename_i i hi;simp only[pJ,beq_iff_eq,mI]at hf;have hst:=run_storeCells_at P b o ty cs 0 arr w hb (by simpa using hfit) h1;simp only[mY]at hst;rw[Zb hfit]at hst;unfold storeVar;simp only[Sem.run_bind,hcl,rg,YF hT hi,Result.andThen_ok];simp[hf.1.2,hl,hst]
 ·cases hf
theorem zaW.le {o:Nat}  (h:zaW arr o l)(hl:0<l.length):o+l.length<=arr.size:=by have:=h (l.length - 1) _ (p7 (by omega));have:=(pK.1 this).1;omega
theorem z6B (h:z2C p=true)(x z:A)(cs:List Value):y8 (JN p x z) cs=y8 x cs:=by
 cases p with
 | nil=>simp[z2C]at h
 | cons s p'=>
  cases s with
  | fld _=>simp[z2C]at h
  | deref=>cases x <;> simp[JN,y8]
  | idx _=>cases x <;> simp[JN,y8]
theorem znt (hT:wy P tt)(h:Sim C S Fp [] st a w)   {x v:Operand}(ho:o.op=.store t x v)    (e:zec tt o.dst t x v st=some (u,R,U)):qO P C o a w (zh U st):=by
 unfold zec at e;split at e
 ·rename_i hd;obtain⟨y,R1,U1,R2,U2,h1,e1,rfl,rfl⟩:=bind_some e;obtain⟨rfl,hx⟩:=zK h h1;obtain⟨z,R3,U3,R4,U4,h3,e2,rfl,rfl⟩:=bind_some e1;obtain⟨rfl,hz⟩:=zK h h3;simp only[zh,p9]at e2 ⊢;unfold storeA at e2;obtain⟨q,R5,U5,R6,U6,h5,e3,rfl,rfl⟩:=bind_some e2;obtain⟨rfl,hq⟩:=z3f h hx h5;simp only[zh,p9]at e3 ⊢;cases q with
  | inl _=>exact(z7 e3).elim
  | inr q=>
   obtain⟨r,p,er,ec⟩:=q;obtain⟨s,R7,U7,R8,U8,h7,e4,rfl,rfl⟩:=bind_some e3;obtain⟨Fp',F,g1,g2⟩:=z0N h hz h7;obtain⟨en,R9,U9,R10,U10,h9,e5,rfl,rfl⟩:=bind_some e4;obtain⟨rfl,rfl,rfl⟩:=yl h9;simp only[zh,p9]at e5 ⊢;rw[zB];have hsame:zh U7 st r=st r:=by
    rcases zjp h7 with rfl|⟨r',e',rfl,hlt⟩
    ·rfl
    ·by_cases hr:r=r'
     ·subst hr;exfalso;simp only[zh,uT]at e5;have hec:=hq.2.1;cases ht:e'.t with
      | own x0=>
       simp only[ht]at e5;split at e5
       ·omega
       ·exact(z7 e5).elim
      | gone=>simp only[ht]at e5;exact(z7 e5).elim
      | d _=>simp only[ht]at e5;exact(z7 e5).elim
      | als _ _ _ _=>simp only[ht]at e5;exact(z7 e5).elim
      | ptr _ _ _ _=>simp only[ht]at e5;exact(z7 e5).elim
     ·simp only[zh,Q6 _ _ hr]
   have hq':Xj w.heap (zh U7 st) (Act.tv a) r p er ec (a.eval x):=by have hq1:Xj w.heap st (Act.tv a) r p er ec (a.eval x):=hq;unfold Xj at hq1 ⊢;rw[hsame];exact hq1
   cases ht:(zh U7 st r).t with
   | own x0=>
    simp only[ht]at e5;split at e5
    ·rename_i hc;cases hg:vQ p x0 with
     | none=>simp only[hg]at e5;exact(z7 e5).elim
     | some y0=>
      simp only[hg]at e5;split at e5
      ·rename_i hc2;obtain⟨rfl,rfl⟩:=wO e5;obtain⟨b,o',arr,ty,csy,Fy,cs,ev,o1,f2,f3,f4,f5,f6,f7,f8,f9,f10,f11,f12⟩:=z9H g1 hq' ht hc.1 hc.2 hg;have hst:∀fs,s≠.tup fs:=by
        rintro fs rfl;rcases zdk hc2.2 with h|h
        ·simp[A.isAgg]at h
        ·simp[A.size]at h
       obtain⟨csz,c1,c2,c3⟩:=g2.cells hst;have hlen:csz.length=csy.length:=by rw[c1.len,f4.len,hc2.1]
       have hFd:∀k∈F,∀t,k∉Fp' t:=λk hk t=>g1.xd t k (by simp[hk]);have hbF:b∉F:=λhb=>hFd b hb r f6;let w':=w.setRow b (z1a arr o' csz);have hheap:∀k,k≠b->w'.heap[k]?=w.heap[k]?:=λk hk=>setRow_other w b k _ hk;have hheapb:w'.heap[b]?=some (.cells (z1a arr o' csz) ty (0,0)):=setRow_heap w b arr _ ty (0,0) f2;have hbase:C.M b:=g1.base r b f6;have hSb:∀o,S b o=none:=(g1.free r b f6).2.1;obtain⟨F0',d1,d2,d3⟩:=f12 S w'.heap s csz F (λ_ _ _ h=>h) hlen (c1.frame (λ_ _ _ h=>h) (λk hk=>⟨hheap k (λe=>hbF (e ▸ hk)),(c1.own k hk).2.1⟩)) c2 (λk hk _=>(g1.free r k hk).2.1) (λk _ _ hk=>hheap k hk) hheapb (λk hk hk'=>absurd hk' (hFd k hk r));refine zf9 (w':=w') ?_ hd (S:=S) (Fp:=z2j Fp' r F0') ?_
       ·have hrun:(storeVar t ⟨b,o',none⟩ (y8 s csz)).run P w=.ok () w':=by
         by_cases hz0:csz.length=0
         ·
          have hnil:csz=[]:=mU hz0;subst hnil;have hov:w'=w:=by show w.setRow b (z1a arr o' [])=w;rw[Jo (by intro j v hj;simp at hj)];exact setRow_self w b arr ty (0,0) f2
          rw[hov];have hsz:s.size=0:=by rw[<-c1.len];rfl
          have hag:=(zdk hc2.2).resolve_right (by omega);have hcl:=z1m (y:=s) c1.na (.inl hag);have hf:=hc2.2;unfold Ym at hf;split at hf
          ·rename_i i hi;simp only[pJ,beq_iff_eq,mI]at hf;unfold storeVar;simp only[Sem.run_bind,hcl,rg,YF hT hi,Result.andThen_ok];simp[hf.1.2,hsz,storeCells]
          ·cases hf
         ·exact zeq hT hc2.2 c1.len (c1.one1 (zfR hz h7)) f2 (by rw[hlen];exact f3.le (by omega))
        simp[execOp,ho,ev,c3,Instr.storeAt,Instr.sureAddr,hrun]
       ·simp only[zh];refine g1.change r (.own (JN p x0 s)) _ _ F0' ?_ (λ_ _ _ h=>h) ?_ g1.sbase ?_ ⟨⟨cs,d1,d2,by rw[z6B o1];exact f10⟩,x0,ht⟩ (.inl ⟨x0,ht⟩) (pC _) (gB _) ?_ ?_ (by simp) (by simp) (by simp) (by simp)
        ·exact g1.below.trans ⟨rfl,rfl,rfl,pC _,by simp[w'],λk hk=>hheap k (λe=>hk (e ▸ hbase))⟩
        ·intro b' o'' v hs;rw[vD (h:=w.heap) (h':=w'.heap) (hheap b' (by rintro rfl;rw[hSb]at hs;cases hs))];exact g1.still b' o'' v hs
        ·intro t' k htr hk;exact⟨hheap k (by rintro rfl;exact htr (g1.disj t' r k hk f6)),(g1.free t' k hk).2.1⟩
        ·intro t' k htr hk hk';rcases(d3 k).1 hk with h|h
         ·exact htr (g1.disj t' r k hk' h.1)
         ·exact hFd k h t' hk'
        ·intro k hk;rcases(d3 k).1 hk with h|h
         ·exact g1.base r k h.1
         ·exact g1.xb k (by simp[h])
      ·exact(z7 e5).elim
    ·exact(z7 e5).elim
   | gone=>simp only[ht]at e5;exact(z7 e5).elim
   | d _=>simp only[ht]at e5;exact(z7 e5).elim
   | als _ _ _ _=>simp only[ht]at e5;exact(z7 e5).elim
   | ptr _ _ _ _=>simp only[ht]at e5;exact(z7 e5).elim
 ·exact(z7 e).elim
end
variable {as_ bs:List A}{i:TypeInfo}{f:TypeInfo}{zv:Value}{z:A}
section
variable {C:Ctx}{S:zo}{Fp:Nat->List Nat}{X:List Nat}{st:St}{a:Act}{w:World}
theorem z19 (h:Sim C S Fp X st a w){x:T}  (hx:TOk S w.heap st (Act.tv a) x v)    (e:peek x st=some (y,R,U)) :
  U=[]/\(wh S y v\/∃cs F,zU S w.heap y cs F/\v=y8 y cs):=by
 cases x with
 | d z=>simp only[peek]at e;obtain⟨rfl,rfl,rfl⟩:=zy e;exact⟨rfl,.inl hx⟩
 | als r p er ec=>
  simp only[peek]at e;obtain⟨rfl,q⟩:=z2H h hx e;refine⟨rfl,?_⟩;rcases q with⟨x,cs,F,_,_,_,_,q5,q6,_⟩|⟨_,_,_,_,q5⟩
  ·exact .inr ⟨cs,F,q5,q6⟩
  ·exact .inl q5
 | gone=>simp only[peek]at e;exact(z7 e).elim
 | own _=>simp only[peek]at e;exact(z7 e).elim
 | ptr _ _ _ _=>simp only[peek]at e;exact(z7 e).elim
def zvF (tt:TT)(n:Fr)(dst:Option Nat)(t:Nat)(x:Operand):SM Unit:=do
 let y <-opnd x;let z <-peek y;let m <-ofO (lenOf z)
 if jF tt t=true then wrT n dst (.d (.atom (.int .i64 m))) else zu
def zwc (tt:TT)(n:Fr)(dst:Option Nat)(t:Nat)(x:Operand):SM Unit:=do
 let y <-opnd x;let z <-peek y;let m <-ofO (zlU z)
 if jF tt t=true then wrT n dst (.d (.atom (.int .i64 m))) else zu
theorem zoU {m:Nat}(hm:lenOf z=some m)  (q:wh S z v\/∃cs F,zU S w.heap z cs F/\v=y8 z cs):∃p c,v=.slice p m c:=by
 unfold lenOf at hm;split at hm
 ·simp only[Option.some.injEq]at hm;subst hm;rename_i sz tg xs;have:∃cs,Rep S (.sl sz tg xs) cs/\v=y8 (.sl sz tg xs) cs:=by
   rcases q with q|⟨cs,F,q1,q2⟩
   ·exact q
   ·exact⟨cs,(q1.isD rfl).1,q2⟩
  obtain⟨cs,r1,rfl⟩:=this;simp only[Rep]at r1;obtain⟨p,c,rfl,_⟩:=r1;exact⟨p,c,rfl⟩
 ·simp only[Option.some.injEq]at hm;subst hm;rcases q with⟨cs,q,_⟩|⟨cs,F,q1,rfl⟩
  ·simp[Rep]at q
  ·simp only[zU]at q1;obtain⟨p,c,rfl,_⟩:=q1;exact⟨p,c,rfl⟩
 ·simp only[Option.some.injEq]at hm;subst hm;rcases q with q|⟨cs,F,q1,q2⟩
  ·exact⟨none,0,(zD.1 q).1⟩
  ·exact⟨none,0,(xY.1 ⟨cs,(q1.isD rfl).1,q2⟩).1⟩
 ·cases hm
theorem zpr {m:Nat}(hm:zlU z=some m)  (q:wh S z v\/∃cs F,zU S w.heap z cs F/\v=y8 z cs):∃p c,v=.slice p c m:=by
 unfold zlU at hm;split at hm
 ·simp only[Option.some.injEq]at hm;subst hm;rename_i sz xs;have:∃cs,Rep S (.sl sz true xs) cs/\v=y8 (.sl sz true xs) cs:=by
   rcases q with q|⟨cs,F,q1,q2⟩
   ·exact q
   ·exact⟨cs,(q1.isD rfl).1,q2⟩
  obtain⟨cs,r1,rfl⟩:=this;simp only[Rep]at r1;obtain⟨p,c,rfl,hc,_⟩:=r1;exact⟨p,_,by rw[hc trivial];rfl⟩
 ·simp only[Option.some.injEq]at hm;subst hm;rcases q with⟨cs,q,_⟩|⟨cs,F,q1,rfl⟩
  ·simp[Rep]at q
  ·simp only[zU]at q1;obtain⟨p,c,rfl,hc,_⟩:=q1;exact⟨p,_,by rw[hc trivial];rfl⟩
 ·simp only[Option.some.injEq]at hm;subst hm;rcases q with q|⟨cs,F,q1,q2⟩
  ·exact⟨none,0,(zD.1 q).1⟩
  ·exact⟨none,0,(xY.1 ⟨cs,(q1.isD rfl).1,q2⟩).1⟩
 ·cases hm
theorem VC (hT:wy P tt)  (h:jF tt t=true):∃e,P.underlying t=some (.slice e):=by
 unfold jF at h;split at h
 ·rename_i e _ _ _ _ ht;exact⟨e,(hT _ _ ht).kind⟩
 ·cases h
theorem zvE (hT:wy P tt)(h:Sim C S Fp [] st a w)  {t:Nat}{x:Operand}(ho:o.op=.call { callee:=.builtin .len,args:=#[x],argTypes:=#[t] })    (e:zvF tt C.n o.dst t x st=some (u,R,U)):qO P C o a w (zh U st):=by
 unfold zvF at e;obtain⟨y,R1,U1,R2,U2,h1,e1,rfl,rfl⟩:=bind_some e;obtain⟨rfl,hx⟩:=zK h h1;obtain⟨z,R3,U3,R4,U4,h3,e2,rfl,rfl⟩:=bind_some e1;obtain⟨rfl,q⟩:=z19 h hx h3;obtain⟨m,R5,U5,R6,U6,h5,e3,rfl,rfl⟩:=bind_some e2;obtain⟨hm,rfl,rfl⟩:=kQ h5;simp only[zh,p9]at e3 ⊢;split at e3
 ·rename_i ht;obtain⟨el,hel⟩:=VC hT ht;obtain⟨p,c,ev⟩:=zoU hm q;obtain⟨Fp',hs⟩:=wP h e3 (x:=.d (.atom (.int .i64 m))) (zD.2 ⟨rfl,rfl⟩);exact zr (by simp[execOp,ho,resolve,invoke,builtin,Builtin.len_,run_underlying hel,ev,goInt]) hs
 ·exact(z7 e3).elim
theorem zwb (hT:wy P tt)(h:Sim C S Fp [] st a w)  {t:Nat}{x:Operand}(ho:o.op=.call { callee:=.builtin .cap,args:=#[x],argTypes:=#[t] })    (e:zwc tt C.n o.dst t x st=some (u,R,U)):qO P C o a w (zh U st):=by
 unfold zwc at e;obtain⟨y,R1,U1,R2,U2,h1,e1,rfl,rfl⟩:=bind_some e;obtain⟨rfl,hx⟩:=zK h h1;obtain⟨z,R3,U3,R4,U4,h3,e2,rfl,rfl⟩:=bind_some e1;obtain⟨rfl,q⟩:=z19 h hx h3;obtain⟨m,R5,U5,R6,U6,h5,e3,rfl,rfl⟩:=bind_some e2;obtain⟨hm,rfl,rfl⟩:=kQ h5;simp only[zh,p9]at e3 ⊢;split at e3
 ·rename_i ht;obtain⟨el,hel⟩:=VC hT ht;obtain⟨p,c,ev⟩:=zpr hm q;obtain⟨Fp',hs⟩:=wP h e3 (x:=.d (.atom (.int .i64 m))) (zD.2 ⟨rfl,rfl⟩);exact zr (by simp[execOp,ho,resolve,invoke,builtin,Builtin.cap_,run_underlying hel,ev,goInt]) hs
 ·exact(z7 e3).elim
def nilCheckO (n:Fr)(dst:Option Nat)(x:Operand):SM Unit:=do
 let y <-opnd x;match y with
 | .d (.fn f cs)=>wrT n dst (.d (.fn f cs))
 | y=>do
  let q <-ptrOf y;match q with
  | .inl _=>wrT n dst y
  | .inr (r,p,er,ec)=>do
   let _ <-lookP r p er ec
   wrT n dst y
theorem zkn (hp:Xj w.heap st (Act.tv a) r p er ec v){x:A}(hr:(st r).t=.own x)(e1:(st r).er=er)(e2:(st r).ec=ec):∃b o,v=.pointer (some ⟨b,o,none⟩):=by have:=hp.2.2;simp only[hr]at this;obtain⟨_,y,b,o,_,_,g3⟩:=this e1 e2;exact⟨b,o,g3⟩
theorem zgj (h:Sim C S Fp [] st a w)   (ho:o.op=.nilCheck x)    (e:nilCheckO C.n o.dst x st=some (u,R,U)):qO P C o a w (zh U st):=by
 unfold nilCheckO at e;obtain⟨y,R1,U1,R2,U2,h1,e1,rfl,rfl⟩:=bind_some e;obtain⟨rfl,hx⟩:=zK h h1;simp only[zh,p9]at e1 ⊢;have ptr:∀{b o':Nat} {U:List (Nat×Ent)} {R:List Nat},a.eval x=.pointer (some ⟨b,o',none⟩)->wrT C.n o.dst y st=some (u,R,U)->qO P C o a w (zh U st):=by intro b o' U R ev hw;obtain⟨Fp',hs⟩:=wP h hw hx;exact zr (v:=a.eval x) (by simp[execOp,ho,ev]) hs
 have gen:∀{U:List (Nat×Ent)} {R:List Nat},(do
   let q <-ptrOf y;match q with
   | .inl _=>wrT C.n o.dst y
   | .inr (r,p,er,ec)=>do
    let _ <-lookP r p er ec
    wrT C.n o.dst y:SM Unit) st=some (u,R,U)->qO P C o a w (zh U st):=by
  intro U R e2;obtain⟨q,R3,U3,R4,U4,h3,e3,rfl,rfl⟩:=bind_some e2;obtain⟨rfl,hq⟩:=z3f h hx h3;simp only[zh,p9]at e3 ⊢;cases q with
  | inl z=>obtain⟨b,o',l,ev,_⟩:=hq;exact ptr ev e3
  | inr t=>
   obtain⟨r,p,er,ec⟩:=t;obtain⟨z,R5,U5,R6,U6,h5,e5,rfl,rfl⟩:=bind_some e3;unfold lookP at h5;obtain⟨en,R7,U7,R8,U8,h7,e7,rfl,rfl⟩:=bind_some h5;obtain⟨rfl,rfl,rfl⟩:=yl h7;simp only[zh]at e7;cases ht:(st r).t with
   | own x0=>
    simp only[ht]at e7;split at e7
    ·rename_i hc;obtain⟨_,rfl,rfl⟩:=kQ e7;obtain⟨b,o',ev⟩:=zkn hq ht hc.1 hc.2;simp only[zh,p9,hU]at e5 ⊢;exact ptr ev e5
    ·exact(z7 e7).elim
   | gone=>simp only[ht]at e7;exact(z7 e7).elim
   | d _=>simp only[ht]at e7;exact(z7 e7).elim
   | als _ _ _ _=>simp only[ht]at e7;exact(z7 e7).elim
   | ptr _ _ _ _=>simp only[ht]at e7;exact(z7 e7).elim
 cases y with
 | d z=>
  cases z with
  | fn f cs=>
   obtain⟨Fp',hs⟩:=wP h e1 hx;have hv:∃vs,a.eval x=.func (.func f) #[] vs:=by have hx':wh S (.fn f cs) (a.eval x):=hx;simp only[wh]at hx';obtain⟨c,q1,q2⟩:=hx';simp only[Rep]at q1;obtain⟨vs,_,_,rfl⟩:=q1;exact⟨vs.toArray,q2⟩
   obtain⟨vs,hv⟩:=hv;exact zr (v:=a.eval x) (by simp[execOp,ho,hv]) hs
  | _=>exact gen e1
 | _=>exact gen e1
theorem zdj (l:List α):∀(n k:Nat),(List.replicate n l).flatten[k]?=if k<n*l.length then l[k % l.length]? else none
 | 0,k=>by simp
 | n+1,k=>by
  rw[nI,List.flatten_cons];by_cases hk:k<l.length
  ·rw[pG hk,if_pos (by rw[mn];omega),rn hk]
  ·rw[pF (by omega),zdj l n];have hm:(k - l.length) % l.length=k % l.length:=(Nat.mod_eq_sub_mod (by omega)).symm;rw[hm];by_cases h2:k - l.length<n*l.length
   ·rw[if_pos h2,if_pos (by rw[mn];omega)]
   ·rw[if_neg h2,if_neg (by rw[mn];omega)]
theorem z43 (z:Array Value)(l c:Nat)(h:l<=c):(madeCells z (c*z.size)).toList.take (l*z.size)=(List.replicate l z.toList).flatten:=by
 apply gX;intro k;rw[zdj,pV,rU];have hle:l*z.size<=c*z.size:=gF _ h;split
 ·rename_i hk;have hz:0<z.size:=by
   rcases ra z.size with h0|h0
   ·rw[h0]at hk;simp at hk
   ·exact h0
  have hmod:k % z.size<z.size:=Nat.mod_lt _ hz;simp only[madeCells,Array.toList_map,Array.toList_range,gT,mJ];rw[p7 (by simp;omega)];simp only[List.getElem_range,gH];rw[gS hmod,getElem!_pos z _ hmod]
 ·rfl
theorem Jz (hz:zU S h z cs []):∀n,zZ S h (List.replicate n z) (List.replicate n cs).flatten []
 | 0=>by simp[zZ]
 | n+1=>by simp only[nI,List.flatten_cons,zZ];exact⟨cs,_,[],[],rfl,rfl,hz,Jz hz n⟩
theorem zgg (h:Sim C S Fp (F++[]) st a w)  {arr:Array Value}  (hc:zZ S w.heap es l F)(hn:F.Nodup)(ty:TypeId){sz c:Nat}{t:Bool}(ht:t=true->c=es.length)(hlc:es.length<=c)(hm:c<=maxLen)
  (hsz:∀x∈es,x.size=sz) (hs0:arr.size=c*sz) (htk:arr.toList.take (es.length*sz)=l) (w':World) (hw:w'=w.alloc (.cells arr ty)) :
  Sim C S Fp ((w.heap.size::F)++[]) st a w'/\zU S w'.heap (.osl sz t es) [.slice (some ⟨w.heap.size,0,none⟩) es.length c] (w.heap.size::F)/\(w.heap.size::F).Nodup:=by
 subst hw;have hlt:∀k∈F,k<w.heap.size:=λk hk=>(hc.own k hk).1;refine⟨by simpa using h.alloc (by simpa using hlt) _,?_,pY.2 ⟨λhm=>rR _ (hlt _ hm),hn⟩⟩;simp only[zU];exact⟨_,c,rfl,ht,hlc,hm,hsz,.inr ⟨w.heap.size,arr,ty,l,F,rfl,heap_alloc_new w _,Nat.le_of_eq hs0.symm,htk,hc.frame (λ_ _ _ h=>h) (λk hk=>⟨hao w _ k (hlt k hk),(hc.own k hk).2.1⟩),rfl,λo=>h.free_new (pC _) o⟩⟩
def XX (tt:TT)(n:Fr)(dst:Option Nat)(t:Nat)(l c:Operand):SM Unit:=do
 let tl <-opnd l;let vl <-val tl;let tc <-opnd c;let vc <-val tc;match vl,vc with
 | .atom (.int _ x),.atom (.int _ y)=>
  match tt t with
  | some ⟨.slice e,_,_,_,_⟩=>
   match tt e with
   | some i=>
    match i.zero with
    | some z=>if 0<=x/\x<=y/\y<=lim/\i.bytes<=4096 then wrT n dst (.own (.osl i.size (decide (x=y)) (List.replicate x.toNat z))) else zu
    | none=>zu
   | none=>zu
  | _=>zu
 | _,_=>zu
theorem z7M {P:Program}  (hT:wy P tt)(h:Sim C S Fp [] st a w)  {t:Nat}{l c:Operand}(ho:o.op=.makeSlice t l c)    (e:XX tt C.n o.dst t l c st=some (u,R,U)):qO P C o a w (zh U st):=by
 unfold XX at e;obtain⟨tl,R1,U1,R2,U2,h1,e1,rfl,rfl⟩:=bind_some e;obtain⟨rfl,hl⟩:=zK h h1;obtain⟨vl,R3,U3,R4,U4,h3,e2,rfl,rfl⟩:=bind_some e1;obtain⟨rfl,ql⟩:=jD h hl h3;obtain⟨tc,R5,U5,R6,U6,h5,e3,rfl,rfl⟩:=bind_some e2;obtain⟨rfl,hc⟩:=zK h h5;obtain⟨vc,R7,U7,R8,U8,h7,e4,rfl,rfl⟩:=bind_some e3;obtain⟨rfl,qc⟩:=jD h hc h7;simp only[zh,p9]at e4 ⊢;split at e4
 ·rename_i k1 x k2 y;obtain⟨ex,_⟩:=zD.1 ql;obtain⟨ey,_⟩:=zD.1 qc;cases ht:tt t with
  | none=>simp only[ht]at e4;exact(z7 e4).elim
  | some it=>
   obtain⟨kd,a1,a2,a3,a4⟩:=it;cases kd with
   | slice el=>
    simp only[ht]at e4;have hel:P.underlying t=some (.slice el):=(hT _ _ ht).kind;cases hi:tt el with
    | none=>simp only[hi]at e4;exact(z7 e4).elim
    | some i=>
     simp only[hi]at e4;cases hz:i.zero with
     | none=>simp only[hz]at e4;exact(z7 e4).elim
     | some z=>
      simp only[hz]at e4;split at e4
      ·rename_i hcond;obtain⟨c1,c2,c3,c4⟩:=hcond;obtain⟨f,f1,f2,f3,f4⟩:=(hT _ _ hi).info;obtain⟨zv,v1,v2,v3⟩:=f4 z hz;have hlim:y<=4294967296:=by simpa[lim] using c3
       have hbytes:(f.bytes:Int)*y<=281474976710656:=by
        rw[f3];have h1:(i.bytes:Int)<=4096:=by omega
        have h2:(i.bytes:Int)*y<=4096*4294967296:=Int.mul_le_mul h1 hlim (by omega) (by omega);omega
       have hrun:=run_make (P:=P) w t el f zv hel f1 v1 k1 k2 x y c1 c2 hbytes (by omega);have hzs:zv.cells.size=i.size:=by have:=(v3 (λ_ _=>none) #[]).len;rw[v2]at this;simpa using this
       rw[f2,<-hzs]at hrun;have hxy:x.toNat<=y.toNat:=by omega
       obtain⟨k1',k2',k3'⟩:=zgg (F:=[]) (es:=List.replicate x.toNat z) (arr:=madeCells zv.cells (y.toNat*zv.cells.size)) (l:=(List.replicate x.toNat zv.cells.toList).flatten) (by simpa using h)
        (Jz (v3 S w.heap) _) (by simp) el (sz:=i.size) (c:=y.toNat) (t:=decide (x=y)) (by intro hd;simp only[decide_eq_true_eq]at hd;simp[hd]) (by simpa using hxy) (by unfold maxLen;omega)
        (by intro q hq;rw[mR hq];exact v2) (by rw[size_madeCells,hzs]) (by rw[mN,<-hzs];exact z43 _ _ _ hxy) _ rfl
       obtain⟨Fp'',hs⟩:=Kc k1' e4 k2' k3';refine zr ?_ hs;simp only[execOp,ho,ex,ey,Sem.run_bind,hrun,Result.andThen_ok,Sem.run_pure];simp[y8]
      ·exact(z7 e4).elim
   | _=>simp only[ht]at e4;exact(z7 e4).elim
 ·exact(z7 e4).elim
theorem Jf {t ty e:TypeId}  (ht:P.underlying t=some (.slice e))(hi:P.info? e=some i)(p q:Option Addr)(n c m:Nat)(hn:n<=c)(w:World) :
  (Builtin.append_ #[t,t] ty #[.slice p n c,.slice q 0 m]).run P w=.ok (.slice p n c) w:=by
 cases p <;> cases q <;> simp[Builtin.append_,run_underlying ht,Go.sizeOf,typeInfo,hi,Builtin.lenOf,hn,Builtin.firstCells,loadCells,loadCellsFrom,storeCells]
theorem z8b {P:Program}{t ty e bty:TypeId}  (ht:P.underlying t=some (.slice e))(hi:P.info? e=some i)(w:World)
  (g n c:Nat) (cur:Array Value) (hg:w.heap[g]?=some (.cells cur bty (0,0)))
  (a:Addr) (m d:Nat) (news:List Value) (hl:news.length=m*i.size) (hnews:∀j u,news[j]?=some u->w.cell? (a.add j)=some u) (h1:∀u∈news,u.oneCell'=true)
  (hroom:n+m<=c) (hfit:n*i.size+news.length<=cur.size) :
  (Builtin.append_ #[t,t] ty #[.slice (some ⟨g,0,none⟩) n c,.slice (some a) m d]).run P w=.ok (.slice (some ⟨g,0,none⟩) (n+m) c) (w.setRow g (z1a cur (n*i.size) news)):=by
 have hf:=run_firstCells_some (P:=P) w i.size m a m d news hl hnews;have hst:=run_storeCells_at P g (n*i.size) bty news 0 cur w hg (by simpa using hfit) h1;simp only[mY]at hst;rw[Zb hfit]at hst;simp[Builtin.append_,run_underlying ht,Go.sizeOf,typeInfo,hi,Builtin.lenOf,hroom,hf,Addr.add_lit,hst]
theorem yK.append {c1 c2:List Value}(h1:yK S as_ c1)(h2:yK S bs c2):yK S (as_++bs) (c1++c2):=by
 induction as_ generalizing c1 with
 | nil=>simp only[yK]at h1;subst h1;simpa using h2
 | cons a as_ ih=>simp only[yK]at h1;obtain⟨d1,d2,rfl,r1,r2⟩:=h1;simp only[gQ,yK];exact⟨d1,d2++c2,by simp,r1,ih r2⟩
theorem zZ.append {c1 c2:List Value}{F1 F2:List Nat}(h1:zZ S h as_ c1 F1)(h2:zZ S h bs c2 F2):zZ S h (as_++bs) (c1++c2) (F1++F2):=by
 induction as_ generalizing c1 F1 with
 | nil=>simp only[zZ]at h1;obtain⟨rfl,rfl⟩:=h1;simpa using h2
 | cons a as_ ih=>simp only[zZ]at h1;obtain⟨d1,d2,G1,G2,rfl,rfl,r1,r2⟩:=h1;simp only[gQ,zZ];exact⟨d1,d2++c2,G1,G2++F2,by simp,by simp,r1,ih r2⟩
theorem VH {P:Program}{t ty e:TypeId}   (ht:P.underlying t=some (.slice e))(hi:P.info? e=some f)(hz:f.zero=some zv)(hzs:zv.cells.size=f.size)
    {F G:List Nat} (h:Sim C S Fp (F++G) st a w) {es ys:List A} {olds news:List Value} (hes:zZ S w.heap es olds F) (hFn:(F++G).Nodup) (hys:zZ S w.heap ys news G) (hsz1:∀x∈es,x.size=f.size) (hsz2:∀x∈ys,x.size=f.size)
    {p:Option Addr} {c:Nat} (hp:(p=none/\es=[]/\c=0)\/∃b,p=some b/\∀j v,olds[j]?=some v->w.cell? (b.add j)=some v)
    {ad:Addr} {d:Nat} (hnews:∀j v,news[j]?=some v->w.cell? (ad.add j)=some v) (hg:c<es.length+ys.length) (hlim:es.length+ys.length<=lim) (hb:f.bytes<=4096) (hy0:0<ys.length) :
    ∃v w',(Builtin.append_ #[t,t] ty #[.slice p es.length c,.slice (some ad) ys.length d]).run P w=.ok v w'/\∃F',Sim C S Fp (F' ++ []) st a w'/\F'.Nodup/\∃cs,zU S w'.heap (.osl f.size false (es++ys)) cs F'/\v=y8 (.osl f.size false (es++ys)) cs:=by
  have hl1:olds.length=es.length*f.size:=by rw[hes.len,A.sizes_const hsz1]
  have hl2:news.length=ys.length*f.size:=by rw[hys.len,A.sizes_const hsz2]
  have hlim':es.length+ys.length<=4294967296:=hlim;have hbytes:(es.length+ys.length)*f.bytes<=140737488355328:=by have:(es.length+ys.length)*f.bytes<=4294967296*4096:=mP hlim' hb;omega
  have new:∀cap,es.length+ys.length<=cap->cap<=maxLen ->
      Sim C S Fp ((w.heap.size::(F++G))++[]) st a (w.drew.alloc (.cells (olds.toArray++news.toArray++Builtin.zeroCells zv.cells (cap - (es.length+ys.length))) e)) /\
      zU S (w.drew.alloc (.cells (olds.toArray++news.toArray++Builtin.zeroCells zv.cells (cap - (es.length+ys.length))) e)).heap (.osl f.size false (es++ys)) [.slice (some ⟨w.heap.size,0,none⟩) (es++ys).length cap] (w.heap.size::(F++G))/\(w.heap.size::(F++G)).Nodup:=by
    intro cap hc1 hc2;have:=zgg (w:=w.drew) (F:=F++G) (by rw[hU];exact h.drew) (es:=es++ys) (l:=olds++news) (arr:=olds.toArray++news.toArray++Builtin.zeroCells zv.cells (cap - (es.length+ys.length))) (hes.append hys) hFn e (sz:=f.size) (c:=cap) (t:=false) (by simp) (by simpa using hc1) hc2
      (by intro x hx;rcases pA.1 hx with h|h;exact hsz1 x h;exact hsz2 x h)
      (by simp only[Array.size_append,rg,size_zeroCells,hzs,hl1,hl2,<-mn];congr 1;omega)
      (by simp only[Array.toList_append,pN];rw[show(es.length+ys.length)*f.size=(olds++news).length from by rw[pN,hl1,hl2,mn]];exact List.take_left) _ rfl
    exact this
  rcases hp with⟨rfl,rfl,rfl⟩|⟨b,rfl,hb⟩
  · simp only[zZ]at hes;obtain⟨rfl,rfl⟩:=hes;have hr:=run_append_nil (P:=P) w t ty e f zv ht hi hz ad ys.length d news hl2 hnews (by simpa using hg) (by simp at hlim';omega) (by simp only[rW,gN]at hbytes;omega);have hge:=grownCap_ge w ys.length 0 e;obtain⟨q1,q2,q3⟩:=new (grownCap w ys.length 0 e) (by simpa using hge) (grownCap_le_maxLen w _ 0 e (by unfold maxLen;simp at hlim';omega));simp only[p9,rW,gN,nL]at q1 q2 q3 hr ⊢;exact⟨_,_,hr,_,q1,q3,_,q2,rfl⟩
  · have hr:=run_append_grow (P:=P) w t ty e f zv ht hi hz b es.length c olds hl1 hb ad ys.length d news hl2 hnews hg (by omega) (growslice_fits hg hbytes);have hge:=grownCap_ge w (es.length+ys.length) c e;obtain⟨q1,q2,q3⟩:=new (grownCap w (es.length+ys.length) c e) hge (grownCap_le_maxLen w _ c e (by unfold maxLen;omega));refine⟨_,_,hr,_,q1,q3,_,q2,?_⟩;simp[y8]
theorem z9A {b o:Nat}  (h:Sim C S Fp X st a w)(hl:zbH S b o l):∀j v,l[j]?=some v->w.cell? ((⟨b,o,none⟩:Addr).add j)=some v:=by intro j v hj;rw[Addr.add_lit,z1n];exact h.still _ _ _ (hl j v hj)
theorem z5e (h:Sim C S Fp X st a w)   {ys:List A}(hy:(∃t,y=.sl sz t ys)\/∃t,y=.osl sz t ys)(hD:A.areD ys=true)  (q:wh S y v\/∃cs F,zU S w.heap y cs F/\v=y8 y cs) :
  ∃p d news,v=.slice p ys.length d/\yK S ys news/\(∀x∈ys,x.size=sz)/\((ys=[]/\news=[])\/∃ad,p=some ad/\∀j u,news[j]?=some u->w.cell? (ad.add j)=some u):=by
 rcases hy with⟨t,rfl⟩|⟨t,rfl⟩
 ·have:∃cs,Rep S (.sl sz t ys) cs/\v=y8 (.sl sz t ys) cs:=by
   rcases q with q|⟨cs,F,q1,q2⟩
   ·exact q
   ·exact⟨cs,(q1.isD rfl).1,q2⟩
  obtain⟨cs,r1,rfl⟩:=this;simp only[Rep]at r1;obtain⟨p,c,rfl,_,_,h4,h5⟩:=r1;rcases h5 with rfl|⟨b,o,l,rfl,r2,r3⟩
  ·exact⟨p,c,[],rfl,by simp[yK],by simp,.inl ⟨rfl,rfl⟩⟩
  ·exact⟨_,c,l,rfl,r2,h4,.inr ⟨_,rfl,z9A h r3⟩⟩
 ·rcases q with⟨cs,q,_⟩|⟨cs,F,q1,rfl⟩
  ·simp[Rep]at q
  ·simp only[zU]at q1;obtain⟨p,c,rfl,_,_,_,h4,h5⟩:=q1;rcases h5 with⟨rfl,_,rfl,_⟩|⟨b,arr,ty,l,F',rfl,k1,k2,k3,k4,_,_⟩
   ·exact⟨none,c,[],rfl,by simp[yK],by simp,.inl ⟨rfl,rfl⟩⟩
   ·refine⟨_,c,l,rfl,(k4.areD hD).1,h4,.inr ⟨_,rfl,?_⟩⟩;intro j u hj;rw[Addr.add_lit,z1n];simp only[yj,k1];rw[<-k3,pV]at hj;split at hj
    ·simpa using hj
    ·cases hj
theorem zcg {P:Program}{t ty e:TypeId}   (ht:P.underlying t=some (.slice e))(hi:P.info? e=some f)(hz:f.zero=some zv)(hzs:zv.cells.size=f.size)
    {F G:List Nat} (h:Sim C S Fp (F++G) st a w) {tg:Bool} {es ys:List A} {cs:List Value} (hc:zU S w.heap (.osl f.size tg es) cs F) (hFn:(F++G).Nodup)
    {p:Option Addr} {d:Nat} {news:List Value} (hr:zZ S w.heap ys news G) (hsz2:∀x∈ys,x.size=f.size) (hsrc:(ys=[]/\news=[])\/∃ad,p=some ad/\∀j u,news[j]?=some u->w.cell? (ad.add j)=some u)
    (hlim:es.length+ys.length<=lim) (hb:f.bytes<=4096) (hpl:A.plains ys=true) :
    ∃v w',(Builtin.append_ #[t,t] ty #[y8 (.osl f.size tg es) cs,.slice p ys.length d]).run P w=.ok v w'/\∃F',Sim C S Fp (F' ++ []) st a w'/\F'.Nodup/\∃cs',zU S w'.heap (.osl f.size false (es++ys)) cs' F'/\v=y8 (.osl f.size false (es++ys)) cs':=by
  have hc0:=hc;simp only[zU]at hc;obtain⟨q,c,rfl,t1,t2,t3,t4,t5⟩:=hc;by_cases hy0:ys=[]
  · subst hy0;simp only[zZ]at hr;obtain⟨rfl,rfl⟩:=hr;refine⟨_,w,Jf ht hi q p es.length c d t2 w,F,h,by simpa using hFn,[.slice q es.length c],?_,?_⟩
    · simp only[zU]at hc0 ⊢;obtain⟨q',c',h1,_,h3⟩:=hc0;exact⟨q',c',by simpa using h1,by simp,by simpa using h3⟩
    · simp[y8]
  · have hpos:0<ys.length:=nJ.2 hy0;rcases hsrc with⟨hy,_⟩|⟨ad,rfl,hnews⟩
    · exact absurd hy hy0
    have hl2:news.length=ys.length*f.size:=by rw[hr.len,A.sizes_const hsz2]
    have hysc:=hr;rcases t5 with⟨rfl,rfl,rfl,rfl⟩|⟨b,arr,bty,l,F',rfl,k1,k2,k3,k4,rfl,k6⟩
    · exact VH ht hi hz hzs h (es:=[]) (olds:=[]) (by simp[zZ]) hFn hysc (by simp) hsz2 (.inl ⟨rfl,rfl,rfl⟩) hnews (by simpa using hpos) hlim hb hpos
    · have hl1:l.length=es.length*f.size:=by rw[k4.len,A.sizes_const t4]
      have hF':=pY.1 (show(b::(F' ++ G)).Nodup from hFn);by_cases hroom:es.length+ys.length<=c
      · have hfit:es.length*f.size+news.length<=arr.size:=pE (by rw[hl2,<-mn];exact gF _ hroom) k2;have hrun:=z8b (P:=P) (ty:=ty) ht hi w b es.length c arr k1 ad ys.length d news hl2 hnews (λu hu=>(hr.one u hu).2 hpl) hroom hfit;let w':=w.setRow b (z1a arr (es.length*f.size) news);have hheap:∀k,k≠b->w'.heap[k]?=w.heap[k]?:=λk hk=>setRow_other w b k _ hk;have hheapb:w'.heap[b]?=some (.cells (z1a arr (es.length*f.size) news) bty (0,0)):=setRow_heap w b arr _ bty (0,0) k1;have hbF:∀t',b∉Fp t':=λt'=>h.xd t' b (by simp);have hbase:C.M b:=h.xb b (by simp);refine⟨_,w',hrun,b::(F' ++ G),?_,hFn,[.slice (some ⟨b,0,none⟩) (es.length+ys.length) c],?_,rfl⟩
        · refine h.mem (h.below.trans ⟨rfl,rfl,rfl,pC _,by simp[w'],λk hk=>hheap k (λe=>hk (e ▸ hbase))⟩) (λ_ _ _ h=>h) ?_ h.sbase (λt' k hk=>⟨hheap k (by rintro rfl;exact hbF t' hk),(h.free t' k hk).2.1⟩) (by simpa using hFn) (by simpa using h.xd) (by simpa using h.xb);intro b' o' v hs;rw[vD (h:=w.heap) (h':=w'.heap) (hheap b' (by rintro rfl;rw[k6]at hs;cases hs))];exact h.still b' o' v hs
        · simp only[zU,pN];refine⟨_,c,rfl,by simp,hroom,t3,?_,.inr ⟨b,z1a arr (es.length*f.size) news,bty,l++news,F' ++ G,rfl,hheapb,by simp[k2],?_,?_,rfl,k6⟩⟩
          · intro x hx;rcases pA.1 hx with h|h
            · exact t4 x h
            · exact hsz2 x h
          · apply gX;intro k;have hle:es.length*f.size<=arr.size:=by omega
            rw[pV,mJ,YO,mn];by_cases hk:k<es.length*f.size
            · rw[if_pos (by omega),if_neg (by omega),pG (by omega),<-k3,pV,if_pos hk,mJ];cases arr[k]? <;> rfl
            · by_cases hk2:k<es.length*f.size+ys.length*f.size
              · rw[if_pos hk2,if_pos (by omega),pF (by omega),hl1,gS (by omega),p7 (by omega)];rfl
              · rw[if_neg hk2,pQ (by rw[pN];omega)]
          · exact zZ.append (k4.frame (S':=S) (h':=w'.heap) (λ_ _ _ h=>h) (λk hk=>⟨hheap k (by rintro rfl;exact hF'.1 (by simp[hk])),(k4.own k hk).2.1⟩))
              (hr.frame (S':=S) (h':=w'.heap) (λ_ _ _ h=>h) (λk hk=>⟨hheap k (by rintro rfl;exact hF'.1 (by simp[hk])),(hr.own k hk).2.1⟩))
      · have hold:∀j v,l[j]?=some v->w.cell? ((⟨b,0,none⟩:Addr).add j)=some v:=by
          intro j u hj;rw[Addr.add_lit,z1n];simp only[yj,k1];rw[<-k3,pV]at hj;split at hj
          · simpa using hj
          · cases hj
        have hsub:Sim C S Fp (F' ++ G) st a w:=h.mem h.below (λ_ _ _ h=>h) h.still.cell h.sbase (λt' k hk=>⟨rfl,(h.free t' k hk).2.1⟩) hF'.2 (λt' k hk=>h.xd t' k (by simp at hk ⊢;exact .inr hk)) (λk hk=>h.xb k (by simp at hk ⊢;exact .inr hk));exact VH ht hi hz hzs hsub k4 hF'.2 hysc t4 hsz2 (.inr ⟨_,rfl,hold⟩) hnews (by omega) hlim hb hpos
def z6X (tt:TT)(n:Fr)(dst:Option Nat)(t:Nat)(s x:Operand):SM Unit:=do
 let ts <-opnd s;let tx <-opnd x;let y <-peek tx;match y with
 | .osl _ _ ys=>if A.areD ys=true then appendA tt n dst t ts tx else appendOwnA tt n dst t s x
 | _=>appendA tt n dst t ts tx
theorem zch (hT:wy P tt)(h:Sim C S Fp [] st a w)  {t:Nat}{s x:Operand}(ho:o.op=.call { callee:=.builtin .append,args:=#[s,x],argTypes:=#[t,t] }){ts tx:T}(hs:TOk S w.heap st (Act.tv a) ts (a.eval s))(hx:TOk S w.heap st (Act.tv a) tx (a.eval x))
    {u:Unit} {R:List Nat} {U:List (Nat×Ent)} (e:appendA tt C.n o.dst t ts tx st=some (u,R,U)):qO P C o a w (zh U st):=by
  unfold appendA at e;cases ht:tt t with
  | none=>simp only[ht]at e;exact(z7 e).elim
  | some it=>
    obtain⟨kd,a1,a2,a3,a4⟩:=it;cases kd with
    | slice el=>
      simp only[ht]at e;have hel:P.underlying t=some (.slice el):=(hT _ _ ht).kind;cases hi:tt el with
      | none=>simp only[hi]at e;exact(z7 e).elim
      | some i=>
        simp only[hi]at e;obtain⟨f,f1,f2,f3,f4⟩:=(hT _ _ hi).info;obtain⟨y,R1,U1,R2,U2,h1,e1,rfl,rfl⟩:=bind_some e;obtain⟨rfl,q⟩:=z19 h hx h1;simp only[zh,p9]at e1 ⊢;have main:∀(sz:Nat) (ys:List A),((∃tg,y=.sl sz tg ys)\/∃tg,y=.osl sz tg ys) ->
            (if sz=i.size/\A.areD ys=true/\i.bytes<=4096/\0<i.size/\i.zero.isSome=true then(do
              let z <-takeC tt t ts;match z with
              | .osl sz' tg es=>if sz'=i.size/\es.length+ys.length<=lim then wrT C.n o.dst (.own (.osl sz' false (es++ys))) else zu
              | .sl sz' tg es=>if sz'=i.size/\es.length+ys.length<=lim/\tg=true/\ys≠[]/\A.areD es=true then wrT C.n o.dst (.own (.osl sz' false (es++ys))) else zu
              | _=>zu:SM Unit) else zu) st=some (u,R2,U2)->qO P C o a w (zh U2 st):=by
          intro sz ys hy e2;split at e2
          · rename_i hcond;obtain⟨rfl,c2,c3,c4,c5⟩:=hcond;obtain⟨z0,hz0⟩:=ro.1 c5;obtain⟨zv,v1,v2,v3⟩:=f4 z0 hz0;have hzs:zv.cells.size=f.size:=by have:=(v3 (λ_ _=>none) #[]).len;rw[v2,<-f2]at this;simpa using this
            obtain⟨p,d,news,ev,r1,r2,r3⟩:=z5e h hy c2 q;obtain⟨z,R3,U3,R4,U4,h3,e4,rfl,rfl⟩:=bind_some e2;obtain⟨Fp',F,g1,g2⟩:=z0N h hs h3;rw[zB];have fin:∀v w',(Builtin.append_ #[t,t] o.type #[a.eval s,a.eval x]).run P w=.ok v w'->(execOp a.eval o).run P w=.ok (.value v) w':=by intro v w' hrun;simp[execOp,ho,resolve,invoke,builtin,hrun]
            cases z with
            | osl sz' tg es=>
              simp only at e4;split at e4
              · rename_i hc;obtain⟨rfl,hlim⟩:=hc;obtain⟨cs,k1,k2,k3⟩:=g2.cells (by simp);rw[<-f2]at k1 k3 r2 e4;obtain⟨v,w',hrun,F',m1,m2,cs',m3,rfl⟩:=zcg (ty:=o.type) hel f1 v1 hzs g1 k1 (by simpa using k2) (p:=p) (d:=d) (r1.concs w.heap) r2 r3 hlim (by omega) r1.plain;obtain⟨Fp'',hs'⟩:=Kc m1 e4 m3 m2;exact zr (fin _ _ (by rw[k3,ev];exact hrun)) hs'
              · exact(z7 e4).elim
            | sl sz' tg es=>
              simp only at e4;split at e4
              · rename_i hc;obtain⟨rfl,hlim,rfl,hne,hD⟩:=hc;have hrep:∃cs,Rep S (.sl i.size true es) cs/\a.eval s=y8 (.sl i.size true es) cs/\F=[]:=by
                  rcases g2 with⟨q,rfl⟩|⟨cs,q1,q2,q3⟩
                  · simp only[wh]at q;obtain⟨cs,q1,q2⟩:=q;exact⟨cs,q1,q2,rfl⟩
                  · exact⟨cs,(q1.isD rfl).1,q3,(q1.isD rfl).2⟩
                obtain⟨cs,q1,q2,rfl⟩:=hrep;simp only[Rep]at q1;obtain⟨pp,c,rfl,t1,t2,t3,t4⟩:=q1;have hcl:=t1 trivial;subst hcl;have hpos:0<ys.length:=nJ.2 hne;rcases r3 with⟨hy,_⟩|⟨ad,rfl,hnews⟩
                · exact absurd hy hne
                rw[<-f2]at t3 r2 e4;have hold:∃olds,yK S es olds/\((pp=none/\es=[]/\es.length=0)\/∃b,pp=some b/\∀j v,olds[j]?=some v->w.cell? (b.add j)=some v):=by
                  rcases t4 with rfl|⟨b,o',l,rfl,k1,k2⟩
                  · cases pp with
                    | none=>exact⟨[],by simp[yK],.inl ⟨rfl,rfl,rfl⟩⟩
                    | some b=>exact⟨[],by simp[yK],.inr ⟨b,rfl,by simp⟩⟩
                  · exact⟨l,k1,.inr ⟨_,rfl,z9A h k2⟩⟩
                obtain⟨olds,n1,n2⟩:=hold;obtain⟨v,w',hrun,F',m1,m2,cs',m3,rfl⟩:=VH (ty:=o.type) hel f1 v1 hzs g1 (n1.concs w.heap) (by simp) (r1.concs w.heap) t3 r2 n2 (d:=d) hnews (by omega) hlim (by omega) hpos;obtain⟨Fp'',hs'⟩:=Kc m1 e4 m3 m2;exact zr (fin _ _ (by rw[q2,ev];exact hrun)) hs'
              · exact(z7 e4).elim
            | _=>exact(z7 e4).elim
          · exact(z7 e2).elim
        cases y with
        | sl sz tg ys=>exact main sz ys (.inl ⟨tg,rfl⟩) e1
        | osl sz tg ys=>exact main sz ys (.inr ⟨tg,rfl⟩) e1
        | _=>exact(z7 e1).elim
    | _=>simp only[ht]at e;exact(z7 e).elim
theorem zdD (hT:wy P tt)(h:Sim C S Fp [] st a w)  {t:Nat}{s x:Operand}(ho:o.op=.call { callee:=.builtin .append,args:=#[s,x],argTypes:=#[t,t] })
    {u:Unit} {R:List Nat} {U:List (Nat×Ent)} (e:appendOwnA tt C.n o.dst t s x st=some (u,R,U)):qO P C o a w (zh U st):=by
  unfold appendOwnA at e;cases ht:tt t with
  | none=>simp only[ht]at e;exact(z7 e).elim
  | some it=>
    obtain⟨kd,a1,a2,a3,a4⟩:=it;cases kd with
    | slice el=>
      simp only[ht]at e;have hel:P.underlying t=some (.slice el):=(hT _ _ ht).kind;cases hi:tt el with
      | none=>simp only[hi]at e;exact(z7 e).elim
      | some i=>
        simp only[hi]at e;obtain⟨f,f1,f2,f3,f4⟩:=(hT _ _ hi).info;split at e
        · rename_i hcond;obtain⟨c3,c4,c5⟩:=hcond;obtain⟨z0,hz0⟩:=ro.1 c5;obtain⟨zv,v1,v2,v3⟩:=f4 z0 hz0;have hzs:zv.cells.size=f.size:=by have:=(v3 (λ_ _=>none) #[]).len;rw[v2,<-f2]at this;simpa using this
          obtain⟨tx,R1,U1,R2,U2,h1,e1,rfl,rfl⟩:=bind_some e;obtain⟨rfl,hx⟩:=zK h h1;obtain⟨y,R3,U3,R4,U4,h3,e2,rfl,rfl⟩:=bind_some e1;simp only[zh,p9]at h3 e2 ⊢;obtain⟨Fp1,G,g1,g2⟩:=z6z h hx h3;obtain⟨ts,R5,U5,R6,U6,h5,e3,rfl,rfl⟩:=bind_some e2;obtain⟨rfl,hs⟩:=zK g1 h5;obtain⟨z,R7,U7,R8,U8,h7,e4,rfl,rfl⟩:=bind_some e3;simp only[zh,p9]at h7 e4 ⊢;obtain⟨Fp2,F,k1,k2⟩:=z0N g1 hs h7;rw[zB,zB];have fin:∀v w',(Builtin.append_ #[t,t] o.type #[a.eval s,a.eval x]).run P w=.ok v w'->(execOp a.eval o).run P w=.ok (.value v) w':=by intro v w' hrun;simp[execOp,ho,resolve,invoke,builtin,hrun]
          cases y with
          | osl sz tgy ys=>
            cases z with
            | osl sz' tg es=>
              simp only at e4;split at e4
              · rename_i hc;obtain⟨rfl,rfl,hpl,hlim⟩:=hc;obtain⟨cs,m1,m2,m3⟩:=k2.cells (by simp);obtain⟨ds,n1,n2,n3⟩:=Has.cells g2 (by simp);rw[<-f2]at m1 m3 e4 n1;simp only[zU]at n1;obtain⟨p,d,rfl,_,_,_,t4,t5⟩:=n1;have hxn:=k1.xn;rw[hU]at hxn;have fin2:∀(G':List Nat) (news:List Value),zZ S w.heap ys news G'->(∀k∈G',k∈G)->G'.Nodup->((ys=[]/\news=[])\/∃ad,p=some ad/\∀j u,news[j]?=some u->w.cell? (ad.add j)=some u)->qO P C o a w (zh U8 (zh U7 (zh U3 st))):=by
                  intro G' news q1 q2 q3 q4;have hsub:Sim C S Fp2 (F++G') (zh U7 (zh U3 st)) a w:=k1.mem k1.below (λ_ _ _ h=>h) k1.still.cell k1.sbase (λt' k hk=>⟨rfl,(k1.free t' k hk).2.1⟩)
                    (by rw[pM]at hxn ⊢;exact⟨hxn.1,q3,λk hk k' hk'=>hxn.2.2 k hk k' (q2 k' hk')⟩)
                    (λt' k hk=>k1.xd t' k (by simp at hk ⊢;exact hk.imp id (q2 k))) (λk hk=>k1.xb k (by simp at hk ⊢;exact hk.imp id (q2 k)))
                  obtain⟨v,w',hrun,F',r1,r2,cs',r3,rfl⟩:=zcg (ty:=o.type) hel f1 v1 hzs hsub m1 hsub.xn (p:=p) (d:=d) q1 t4 q4 hlim (by omega) hpl;obtain⟨Fp'',hs'⟩:=Kc r1 e4 r3 r2;exact zr (fin _ _ (by rw[m3,n3];exact hrun)) hs'
                rcases t5 with⟨rfl,rfl,rfl,rfl⟩|⟨b,arr,bty,l,G',rfl,q1,q2,q3,q4,rfl,q6⟩
                · exact fin2 [] [] (by simp[zZ]) (by simp) (by simp) (.inl ⟨rfl,rfl⟩)
                · refine fin2 G' l q4 (λk hk=>by simp[hk]) (pY.1 n2).2 (.inr ⟨_,rfl,?_⟩);intro j u hj;rw[Addr.add_lit,z1n];simp only[yj,q1];rw[<-q3,pV]at hj;split at hj
                  · simpa using hj
                  · cases hj
              · exact(z7 e4).elim
            | _=>exact(z7 e4).elim
          | _=>cases z <;> exact(z7 e4).elim
        · exact(z7 e).elim
    | _=>simp only[ht]at e;exact(z7 e).elim
theorem zmc (hT:wy P tt)(h:Sim C S Fp [] st a w)  {t:Nat}{s x:Operand}(ho:o.op=.call { callee:=.builtin .append,args:=#[s,x],argTypes:=#[t,t] })
    {u:Unit} {R:List Nat} {U:List (Nat×Ent)} (e:z6X tt C.n o.dst t s x st=some (u,R,U)):qO P C o a w (zh U st):=by
  unfold z6X at e;obtain⟨ts,R1,U1,R2,U2,h1,e1,rfl,rfl⟩:=bind_some e;obtain⟨rfl,hs⟩:=zK h h1;obtain⟨tx,R3,U3,R4,U4,h3,e2,rfl,rfl⟩:=bind_some e1;obtain⟨rfl,hx⟩:=zK h h3;obtain⟨y,R5,U5,R6,U6,h5,e3,rfl,rfl⟩:=bind_some e2;obtain⟨rfl,_⟩:=z19 h hx h5;simp only[zh,p9]at e3 ⊢;cases y with
  | osl sz tg ys=>
    simp only at e3;split at e3
    · exact zch hT h ho hs hx e3
    · exact zdD hT h ho e3
  | _=>exact zch hT h ho hs hx e3
end
end Go.Own
