/- -/
import Derived.Test.YtcodjgfoodacaaaGreatDoorPartH
import Derived.Test.YtcodjgfoodacaaaGreatDoorPartE
import Derived.Test.YtcodjgfoodacaaaGreatDoorPartB
import Derived.OpenShut
import Derived.ChangeShapes
import Derived.Stop.LaidErr
import Derived.Test.YtcodjgfoodacaaaGreatDoorPartC
import Derived.WalkKit
import Derived.ProofKit
import Derived.Carry
import Derived.Test.YtcodjgfoodacaaaGreatDoorPartG
import Derived.Test.YtcodjgfoodacaaaGreatDoorRows
import Derived.Test.YtcodjgfoodacaaaGreatDoorChecked
import Derived.LaidMore
import Derived.Stop.Joined
import Derived.SevenTiedAt
import Derived.Test.YtcodjgfoodacaaaGreatDoorCards
import Derived.Test.YtcodjgfoodacaaaGreatDoorTie
import Derived.MakeChecks
set_option linter.unusedVariables false
set_option linter.unusedSimpArgs false
namespace Go.Own
def uI (w:List Int):List Nat:=w.map Int.toNat
variable {w:List Int}
theorem ziX (h:∀c∈w,0<=c):(uI w).map Int.ofNat=w:=by
 unfold uI
 rw [List.map_map]
 exact(List.map_congr_left (g:=id) fun c hc=>by have:=h c hc;show((c.toNat:Nat):Int)=c;omega).trans (List.map_id w)
theorem ziW (v:List Nat):uI (v.map Int.ofNat)=v:=by
 unfold uI
 rw [List.map_map]
 exact(List.map_congr_left (g:=id) fun c _=>rfl).trans (List.map_id v)
structure VW (m:z6)(w:List Int):Prop where
 len:w.length<=256
 sym:∀c∈w,0<=c/\c<m.Inputs
variable {m:z6}
theorem VW.wd (h:VW m w)(hk:((kk m:Nat):Int)=m.Inputs):Wd (kk m) (uI w):=by
 intro i hi
 obtain⟨c,hc,rfl⟩:=List.mem_map.1 hi
 have:=h.sym c hc
 omega
theorem VW.map (h:VW m w):(uI w).map Int.ofNat=w:=ziX fun c hc=>(h.sym c hc).1
def sgn (m:z6)(l:List (List Int))(s:Nat):List (List Int):=l.map fun w=>rsp m (s:Int) (uI w)
variable {l:List (List Int)}{x:List Int}
theorem za5 {s i:Nat}  (hx:l[i]?=some x):sgn m (l.take (i+1)) s=sgn m (l.take i) s++[rsp m (s:Int) (uI x)]:=by
 rw [List.take_add_one,hx]
 simp only [sgn,List.map_append,Option.toList_some,List.map_cons,List.map_nil]
variable {s:Nat}
section
variable {m:z6}(h:VM m)(hc:Cpl m)
include h hc
theorem zhM (hs:s<m.Rows.length)(v:List Nat)(hv:Wd (kk m) v)(hl:v.length<=1000):Ret (XR m (s:Int) (v.map Int.ofNat)) fun o=>o.1=rsp m (s:Int) v:=by
 have hN:=h.len64
 have hw:∀k:Nat,k<=1000->w64 ((k:Int)+1)=((k+1:Nat):Int):=fun k hk=>by rw [zS (by omega) (by omega)];rfl
 unfold XR
 rw [Ws]
 refine⟨by simp only [List.length_map];omega,?_⟩
 rw [zw]
 refine Ret.mono (Q:=fun o=>o.2=rsp m (s:Int) v) ?_ fun o ho=>?_
 ·refine y4 (fun q=>∃(i t:Nat),q.2.2=(i:Int)/\i<=v.length/\q.1=(t:Int)/\t<m.Rows.length/\aft m (s:Int) (v.take i)=(t:Int)/\q.2.1=rsp m (s:Int) (v.take i)++List.replicate (v.length - i) 0) (fun q=>2000 - q.2.2.toNat) ⟨0,s,rfl,Nat.zero_le _,rfl,hs,rfl,by simp [rsp]⟩ (by simp) ?_
  rintro⟨st,out,q⟩ ⟨i,t,e2,hi,e1,ht,ha,e3⟩
  simp only at e1 e2 e3
  subst e1;subst e2;subst e3
  unfold YO u6
  rw [zB]
  refine⟨fun c=>?_,fun c=>?_⟩
  ·have hi':i<v.length:=by simpa using c
   have hx:v[i]?=some v[i]:=List.getElem?_eq_getElem hi'
   have hxk:v[i]<kk m:=hv _ (List.getElem_mem hi')
   have hgx:(v.map Int.ofNat)[i]?=some ((v[i]:Nat):Int):=by rw [List.getElem?_map,hx];rfl
   have hne:((t:Int) !=(-1))=true:=by simp
   rw [zH,bdT hgx,Option.bind_some,hne,cond_true,h.edge_eq ht hxk]
   have hrl:(rsp m (s:Int) (v.take i)).length=i:=by rw [z6O,List.length_take];omega
   have hrep:List.replicate (v.length - i) (0:Int)=0::List.replicate (v.length - (i+1)) 0:=by rw [show v.length - i=(v.length - (i+1))+1 by omega];rfl
   have e0:(0:Int)<=(E m t v[i]).To:=hc t _ ht hxk
   have e1:=h.edgeAt ht hxk
   unfold kR
   have hg:(rsp m (s:Int) (v.take i)++List.replicate (v.length - i) 0)[i]?=some (0:Int):=by
    rw [hrep,List.getElem?_append_right (by omega),hrl]
    simp
   rw [zH,bdT hg,hw i (by omega)]
   have htk:v.take (i+1)=v.take i++[v[i]]:=by rw [List.take_add_one,hx];rfl
   obtain⟨r1,r2⟩:=z16 m (v.take i) (s:Int) v[i]
   refine zg.2 ⟨⟨i+1,(E m t v[i]).To.toNat,rfl,hi',by simp only;omega,by omega,?_,?_⟩,by simp only [Int.toNat_natCast];omega⟩
   ·rw [htk,r2,ha,jC]
    omega
   ·simp only [Int.toNat_natCast]
    rw [htk,r1,ha,jC,hrep,List.set_append,if_neg (by omega),hrl,Nat.sub_self]
    simp
  ·have hi':i=v.length:=by
    have:¬i<v.length:=by simpa using c
    omega
   subst hi'
   refine zg.2 ?_
   show rsp m (s:Int) (v.take v.length)++List.replicate (v.length - v.length) 0=rsp m (s:Int) v
   simp
 ·unfold YP
  exact zg.2 ho
theorem zl9 (hs:s<m.Rows.length)  (hw:VW m w):XS m (s:Int) w=some (rsp m (s:Int) (uI w),0):=by
 have hN:=h.len64
 obtain⟨o,e,e1⟩:=zhM h hc hs (uI w) (hw.wd h.kk_eq) (by have:=hw.len;unfold uI;simp;omega)
 rw [hw.map]at e
 have hst:ZC m (s:Int)=some 0:=by
  unfold ZC
  rw [bdT (Kq m),z6e h,show((0:Int) != 0)=false from rfl,cond_false,decide_eq_false (by omega),cond_false,decide_eq_false (by omega),cond_false]
 have hck:jZ w m.Inputs=some 0:=by
  rw [z7R,if_neg (by have:=h.in16;omega),if_neg (by have:=hw.len;omega),if_neg (by have:=h.in1;omega)]
  have:wE m.Inputs w=0:=z94.2 ⟨hw.len,hw.sym⟩
  rw [this]
 unfold XS
 rw [bdT hst,show((0:Int) != 0)=false from rfl,cond_false,bdT hck,show((0:Int) != 0)=false from rfl,cond_false,bdT e,e1]
theorem zbW (hs:s<m.Rows.length)  (hl:l.length<=100000)(hw:∀w∈l,VW m w):xG m l (s:Int)=some (sgn m l s):=by
 unfold xG qo xJ
 have:=Zg (step:=fun q=>yT m l (s:Int) q.1 q.2) (fun i=>(sgn m (l.take i) s,(i:Int))) l.length (t:=sgn m l s) (by omega) (fun i hi=>by
  have hx:l[i]?=some l[i]:=List.getElem?_eq_getElem hi
  show yT m l (s:Int) (sgn m (l.take i) s) (i:Int)=_
  unfold yT
  have hlen:(sgn m (l.take i) s).length<=100000:=by unfold sgn;simp;omega
  rw [decide_eq_true (by omega),cond_true,zH,bdT hx,bdT (zl9 h hc hs (hw _ (List.getElem_mem hi))),gdT (by simp;omega),zS (by omega) (by omega),za5 hx]
  rfl) (by
  show yT m l (s:Int) _ _=_
  unfold yT
  rw [decide_eq_false (by omega),cond_false,List.take_length])
 have h0:((sgn m (l.take 0) s,((0:Nat):Int)))=(([]:List (List Int)),(0:Int)):=by simp [sgn]
 rw [h0]at this
 rw [bdT this]
 rfl
omit hc in
theorem zhu {s:Nat}(hs:s<m.Rows.length)  (hl:l.length<=100000)(hw:∀w∈l,VW m w):kL m l (s:Int)=some (sgn m l s):=by
 unfold kL jJ
 have:=Zg (step:=fun q=>xq m l (s:Int) q.1 q.2) (fun i=>(sgn m (l.take i) s,(i:Int))) l.length (t:=sgn m l s) (by omega) (fun i hi=>by
  have hx:l[i]?=some l[i]:=List.getElem?_eq_getElem hi
  have hv:=hw _ (List.getElem_mem hi)
  have hr:=zjQ h (s:=(s:Int)) ⟨by omega,by omega⟩ (uI l[i]) (hv.wd h.kk_eq) (by have:=hv.len;unfold uI;simp;omega)
  rw [hv.map]at hr
  show xq m l (s:Int) (sgn m (l.take i) s) (i:Int)=_
  unfold xq
  have hlen:(sgn m (l.take i) s).length<=100000:=by unfold sgn;simp;omega
  rw [decide_eq_true (by omega),cond_true,zH,bdT hx,bdT hr,gdT (by simp;omega),zS (by omega) (by omega),za5 hx]
  rfl) (by
  show xq m l (s:Int) _ _=_
  unfold xq
  rw [decide_eq_false (by omega),cond_false,List.take_length])
 have h0:((sgn m (l.take 0) s,((0:Nat):Int)))=(([]:List (List Int)),(0:Int)):=by simp [sgn]
 rw [h0]at this
 rw [bdT this]
end
theorem zgt (a b:List (List Int))(ha:a.length<=1000000)(hw:∀x∈a,x.length<=1000000):wN a b=some (decide (a=b)):=by
 unfold wN yK
 by_cases e:a.length=b.length
 ·have e':(((a.length:Nat):Int) !=((b.length:Nat):Int))=false:=by simp;omega
  rw [e',cond_false,vz a (by omega) (step:=fun s=>zT a b s) (fun i x=>if b[i]?=some x then none else some false) ?_ ?_]
  ·by_cases hab:a=b
   ·subst hab
    rw [Y4 (fun i x hx=>by rw [Nat.zero_add,if_pos hx]),decide_eq_true rfl]
    rfl
   ·rw [decide_eq_false hab]
    cases hf:xv (fun i x=>if b[i]?=some x then none else some false) a 0 with
    | none=>
     exfalso
     refine hab (List.ext_getElem? fun i=>?_)
     cases hx:a[i]? with
     | none=>
      have:a.length<=i:=List.getElem?_eq_none_iff.1 hx
      exact(List.getElem?_eq_none_iff.2 (by omega)).symm
     | some x=>
      have:=qt hf i x hx
      rw [Nat.zero_add]at this
      split at this
      ·rename_i hb;exact hb.symm
      ·cases this
    | some r=>
     obtain⟨i,x,_,hr⟩:=qr hf
     split at hr
     ·cases hr
     ·cases hr;rfl
  ·intro i x hx
   have hlt:=(List.getElem?_eq_some_iff.1 hx).1
   have hb:b[i]?=some (b[i]'(by omega)):=List.getElem?_eq_getElem (by omega)
   unfold zT jQ
   rw [decide_eq_true (by omega),cond_true,zH,bdT hx,zH,bdT hb,bdT (z8O x _ (by have:=hw x (List.mem_of_getElem? hx);omega)),Option.bind_some,hb]
   by_cases hxb:x=b[i]'(by omega)
   ·rw [decide_eq_true hxb,if_pos (by rw [hxb])]
    rfl
   ·rw [decide_eq_false hxb,if_neg (fun q=>hxb (Option.some.inj q).symm)]
    rfl
  ·unfold zT
   rw [decide_eq_false (by omega),cond_false]
 ·have e':(((a.length:Nat):Int) !=((b.length:Nat):Int))=true:=by simp;omega
  rw [e',cond_true,decide_eq_false (fun q=>e (by rw [q]))]
  rfl
theorem zfE (h:chE m.Inputs l=0):l.length<=4096/\∀w∈l,VW m w:=by
 obtain⟨h1,h2,_,_,_,h3⟩:=zfF h
 exact⟨h1,fun w hw=>⟨h2 w hw,fun c hc=>h3 w hw c hc⟩⟩
theorem z9d (m:z6)(l:List (List Int))(s:Nat):(sgn m l s).length=l.length:=by simp [sgn]
theorem z6I (hw:∀w∈l,VW m w)(hx:x∈sgn m l s):x.length<=256:=by
 obtain⟨w,h1,rfl⟩:=List.mem_map.1 hx
 rw [z6O]
 have:=(hw w h1).len
 unfold uI
 simpa using this
theorem zdT (m:z6)(l:List (List Int))(s:Nat)(hl:l.length<=100000)(r:List (List Int))(hr:r.map List.length=l.map List.length):y5 l r ()=some true:=by
 have hlen:r.length=l.length:=by simpa using congrArg List.length hr
 unfold y5
 have e:(((l.length:Nat):Int) !=((r.length:Nat):Int))=false:=by simp;omega
 rw [e,cond_false,vz l (by omega) (step:=fun s=>zJ l r s) (fun _ _=>none) ?_ ?_,Y4 (fun _ _ _=>rfl)]
 ·rfl
 ·intro i x hx
  have hlt:=(List.getElem?_eq_some_iff.1 hx).1
  have hy:r[i]?=some (r[i]'(by omega)):=List.getElem?_eq_getElem (by omega)
  have hxy:(r[i]'(by omega)).length=x.length:=by
   have:=congrArg (fun q=>q[i]?) hr
   simpa [List.getElem?_map,hx,hy] using this
  unfold zJ Zn
  rw [decide_eq_true (by omega),cond_true,zH,bdT hx,zH,bdT hy,Option.bind_some,hxy]
  simp only [beq_self_eq_true,Bool.not_true,cond_false]
  rfl
 ·unfold zJ
  rw [decide_eq_false (by omega),cond_false]
section
variable {m:z6}(h:KM m){l:List (List Int)}
include h
theorem z6Q (l:List (List Int)):kS m l=some (chE m.Inputs l):=by
 unfold kS
 rw [bdT h.proper,show((0:Int) != 0)=false from rfl,cond_false,bdT (zbH l m.Inputs)]
variable (hl:chE m.Inputs l=0)
include hl
theorem zl7 (hs:s<m.Rows.length):vL m l (s:Int)=some (sgn m l s,0):=by
 obtain⟨h1,h2⟩:=zfE hl
 unfold vL
 rw [bdT (z6Q h l),hl,show((0:Int) != 0)=false from rfl,cond_false,decide_eq_false (by omega),cond_false,decide_eq_false (by omega),cond_false,bdT (zbW h.vm h.cpl hs (by omega) h2)]
def idn (m:z6)(l:List (List Int))(r:List (List Int))(n:Nat):List Int:=((List.range n).filter fun s=>decide (sgn m l s=r)).map Int.ofNat
theorem zmF (r:List (List Int))(hr:r.map List.length=l.map List.length):xV m l r=some (idn m l r m.Rows.length,0):=by
 obtain⟨h1,h2⟩:=zfE hl
 have hN:=h.len
 have hil:∀n,(idn m l r n).length<=n:=fun n=>by
  unfold idn
  rw [List.length_map]
  exact Nat.le_trans (List.length_filter_le _ _) (by simp)
 have hlp:=Zg (step:=fun q=>xu m l r q.1 q.2) (fun i=>(idn m l r i,(i:Int))) m.Rows.length (t:=idn m l r m.Rows.length) (by omega) (fun i hi=>by
  show xu m l r (idn m l r i) (i:Int)=_
  have hi2:=hil i
  unfold xu u9
  have hsr:idn m l r (i+1)=idn m l r i++(if sgn m l i=r then [(i:Int)] else []):=by
   unfold idn
   rw [List.range_succ,List.filter_append,List.map_append]
   by_cases e:sgn m l i=r
   ·simp [e]
   ·simp [e]
  rw [decide_eq_true (by omega),cond_true,bdT (zbW h.vm h.cpl hi (by omega) h2),bdT (zgt _ _ (by rw [z9d];omega) fun x hx=>by have:=z6I h2 hx;omega),zS (by omega) (by omega)]
  by_cases e:sgn m l i=r
  ·rw [decide_eq_true e,cond_true,gdT (by simp;omega),hsr,if_pos e]
   rfl
  ·rw [decide_eq_false e,cond_false,hsr,if_neg e,List.append_nil]
   rfl) (by
  show xu m l r _ _=_
  unfold xu
  rw [decide_eq_false (by omega),cond_false])
 have h0:(idn m l r 0,((0:Nat):Int))=(([]:List Int),(0:Int)):=rfl
 rw [h0]at hlp
 unfold xV
 rw [bdT (z6Q h l),hl,show((0:Int) != 0)=false from rfl,cond_false,bdT (zdT m l 0 (by omega) r hr),show(!true)=false from rfl,cond_false,bdT hlp]
 unfold jR xS
 rfl
theorem zaZ:Ret (uZ m l) fun o=>o.2=0/\(o.1=true↔∀a b,a<b->b<m.Rows.length->sgn m l a≠sgn m l b):=by
 obtain⟨h1,h2⟩:=zfE hl
 have hN:=h.len
 have hlp:=Zg (step:=fun q=>wx m l q.1 q.2) (fun i=>((List.range i).map (sgn m l),(i:Int))) m.Rows.length (t:=(List.range m.Rows.length).map (sgn m l)) (by omega) (fun i hi=>by
  show wx m l ((List.range i).map (sgn m l)) (i:Int)=_
  unfold wx
  rw [decide_eq_true (by omega),cond_true,bdT (zbW h.vm h.cpl hi (by omega) h2),gdT (by simp;omega),zS (by omega) (by omega),List.range_succ,List.map_append]
  rfl) (by
  show wx m l _ _=_
  unfold wx
  rw [decide_eq_false (by omega),cond_false])
 have h0:((List.range 0).map (sgn m l),((0:Nat):Int))=(([]:List (List (List Int))),(0:Int)):=rfl
 rw [h0]at hlp
 unfold uZ
 rw [bdT (z6Q h l),hl,show((0:Int) != 0)=false from rfl,cond_false,bdT hlp]
 unfold YV uY
 rw [Option.bind_some,zw]
 have hg:∀a,a<m.Rows.length->((List.range m.Rows.length).map (sgn m l))[a]?=some (sgn m l a):=fun a ha=>by
  rw [List.getElem?_map,List.getElem?_range ha]
  rfl
 refine Ret.mono (Q:=fun o=>(o=.next ()/\∀a b,a<b->b<m.Rows.length->sgn m l a≠sgn m l b)\/(o=.done ()/\∃a b,a<b/\b<m.Rows.length/\sgn m l a=sgn m l b)) ?_ fun o ho=>?_
 ·refine z65 m.Rows.length (by omega) _ (fun s t o=>o=.next ()/\∀a b,a<b->b<m.Rows.length->(a<s\/(a=s/\b<t))->sgn m l a≠sgn m l b) _ ⟨rfl,fun a b q1 q2 q3=>by omega⟩ ?_ ?_ ?_
  ·rintro s t o hst ht ⟨rfl,ho⟩
   have e:uR ((List.range m.Rows.length).map (sgn m l)) (s:Int) (t:Int)=some (if sgn m l s=sgn m l t then .done () else .next ()):=by
    unfold uR
    rw [zH,bdT (hg s (by omega)),zH,bdT (hg t ht),bdT (zgt _ _ (by rw [z9d];omega) fun x hx=>by have:=z6I h2 hx;omega)]
    by_cases e:sgn m l s=sgn m l t
    ·rw [decide_eq_true e,cond_true,if_pos e]
    ·rw [decide_eq_false e,cond_false,if_neg e]
   by_cases e2:sgn m l s=sgn m l t
   ·rw [if_pos e2]at e
    refine⟨(.done (),false),?_,.inr ⟨rfl,.inr ⟨rfl,s,t,hst,ht,e2⟩⟩⟩
    simp only [yOf]
    rw [e]
   ·rw [if_neg e2]at e
    refine⟨(.next (),true),?_,.inl ⟨rfl,rfl,fun a b q1 q2 q3=>?_⟩⟩
    ·simp only [yOf]
     rw [e]
    ·by_cases e3:a=s/\b=t
     ·rw [e3.1,e3.2];exact e2
     ·exact ho a b q1 q2 (by omega)
  ·rintro s t o hs hst ht ⟨rfl,ho⟩
   exact⟨rfl,fun a b q1 q2 q3=>ho a b q1 q2 (by omega)⟩
  ·rintro s t o hs ⟨rfl,ho⟩
   exact .inl ⟨rfl,fun a b q1 q2=>ho a b q1 q2 (by omega)⟩
 ·unfold YU
  rcases ho with⟨rfl,ho⟩|⟨rfl,a,b,q1,q2,q3⟩
  ·exact zg.2 ⟨rfl,Iff.intro (fun _=>ho) (fun _=>rfl)⟩
  ·exact zg.2 ⟨rfl,Iff.intro (fun q=>Bool.noConfusion q) (fun q=>(q a b q1 q2 q3).elim)⟩
end
theorem zaz:∀{u v:List Int} (x y:List Int),u.length=v.length->v8 u v<0->v8 (u++x) (v++y)<0
 | [],[],_,_,_,h=>by simp [v8]at h
 | [],_::_,_,_,h,_=>by simp at h
 | _::_,[],_,_,h,_=>by simp at h
 | a::u,b::v,x,y,hl,h=>by
  simp only [List.cons_append,v8]at h ⊢
  by_cases h1:a<b
  ·simp [h1]
  ·by_cases h2:b<a
   ·simp [h1,h2]at h
   ·simp only [h1,h2,if_false]at h ⊢
    exact zaz x y (by simpa using hl) h
theorem z8u:∀(u:List Int) {s t:Int},s<t->v8 (u++[s]) (u++[t])<0
 | [],s,t,h=>by simp [v8,h]
 | a::u,s,t,h=>by
  simp only [List.cons_append,v8,Int.lt_irrefl,if_false]
  exact z8u u h
theorem z7f {a b:List Int}(h:a.length=b.length):Wt a b=v8 a b:=by unfold Wt;rw [if_neg (by omega),if_neg (by omega)]
theorem zi6 (a:Nat)(w:List Int):SW (z7c a w):=by
 unfold z7c SW
 rw [List.pairwise_map]
 refine List.Pairwise.imp (fun {s t} h=>?_) List.pairwise_lt_range
 rw [z7f (by simp)]
 exact z8u w (by omega)
theorem zd3 (a k:Nat):∀{l:List (List Int)},SW l->(∀w∈l,w.length=k)->SW (l.flatMap (z7c a))
 | [],_,_=>by simp [SW]
 | w::l,h,hk=>by
  rw [List.flatMap_cons]
  unfold SW
  rw [List.pairwise_append]
  refine⟨zi6 a w,zd3 a k h.tail fun x hx=>hk x (by simp [hx]),fun x hx y hy=>?_⟩
  simp only [z7c,List.mem_map]at hx
  obtain⟨s,_,rfl⟩:=hx
  rw [List.mem_flatMap]at hy
  obtain⟨v,hv,hy⟩:=hy
  simp only [z7c,List.mem_map]at hy
  obtain⟨t,_,rfl⟩:=hy
  have e1:=hk w (by simp)
  have e2:=hk v (by simp [hv])
  rw [z7f (by simp [e1,e2])]
  have:=h.head v hv
  rw [z7f (by omega)]at this
  exact zaz _ _ (by omega) this
theorem zd9 (a:Nat):∀k,SW (exW a k)
 | 0=>by simp [exW,SW]
 | k+1=>zd3 a k (zd9 a k) (Uz a k)
theorem z6V (a f:Nat):∀k,∀w∈Qg a f k,w.length<k
 | 0,w,h=>by simp [Qg]at h
 | k+1,w,h=>by
  unfold Qg at h
  split at h
  ·rcases List.mem_append.1 h with h|h
   ·have:=z6V a f k w h;omega
   ·have:=Uz a k w h;omega
  ·have:=z6V a f k w h;omega
theorem z9s (a f:Nat):∀k,SW (Qg a f k)
 | 0=>by simp [Qg,SW]
 | k+1=>by
  unfold Qg
  split
  ·unfold SW
   rw [List.pairwise_append]
   refine⟨z9s a f k,zd9 a k,fun x hx y hy=>?_⟩
   have h1:=z6V a f k x hx
   have h2:=Uz a k y hy
   unfold Wt
   rw [if_pos (by omega)]
   omega
  ·exact z9s a f k
def lnW (a f:Nat):Nat->Nat
 | 0=>0
 | k+1=>if f<=k then lnW a f k+a ^ k else lnW a f k
theorem z6W (a f:Nat):∀k,(Qg a f k).length=lnW a f k
 | 0=>rfl
 | k+1=>by
  unfold Qg lnW
  split
  ·rw [List.length_append,z6W a f k,JR]
  ·exact z6W a f k
theorem zb5 {k:Nat}(h:∀w∈l,w.length=k):QQ l=k*l.length:=by
 induction l with
 | nil=>simp [QQ]
 | cons x l ih=>
  have hs:QQ (x::l)=x.length+QQ l:=by simp [QQ]
  rw [hs,ih fun w hw=>h w (by simp [hw]),h x (by simp),List.length_cons,Nat.mul_succ];omega
theorem zer (l m:List (List Int)):QQ (l++m)=QQ l+QQ m:=by simp [QQ]
theorem z9r (a f:Nat):∀k,QQ (Qg a f k)=syW a f k
 | 0=>rfl
 | k+1=>by
  unfold Qg syW
  split
  ·rw [zer,z9r a f k,zb5 (Uz a k),JR]
  ·exact z9r a f k
theorem zas (a f:Nat):∀k,k<=f->Qg a f k=[]
 | 0,_=>rfl
 | k+1,h=>by
  unfold Qg
  rw [if_neg (by omega)]
  exact zas a f k (by omega)
def zhf (a f t k:Nat):Bool:=decide (4096<lnW a f (k+1)) || decide (65536<syW a f (k+1)) ||(decide (k<t)&&decide (4096<a ^ k*a))
theorem zbL (a f t k:Nat):zhf a f t k=true↔VT a f t k:=by
 unfold zhf VT
 simp only [Bool.or_eq_true,Bool.and_eq_true,decide_eq_true_eq,z6W,or_assoc]
def ziO (a f t:Nat):Bool:=(List.range (t+1)).any (zhf a f t)
theorem zaW (a f t:Nat):ziO a f t=true↔∃j,j<=t/\VT a f t j:=by
 unfold ziO
 simp only [List.any_eq_true,List.mem_range,zbL]
 constructor
 ·rintro⟨j,h1,h2⟩;exact⟨j,by omega,h2⟩
 ·rintro⟨j,h1,h2⟩;exact⟨j,by omega,h2⟩
theorem ziu {a f t:Nat}(ha:1<=a/\a<=16)(hf:f<=256)(ht:t<=256):UZ (a:Int) (f:Int) (t:Int)=some (if ziO a f t then([],3) else(Qg a f (t+1),0)):=by
 refine zkB ha hf ht (fun h=>by rw [if_pos ((zaW a f t).2 h)]) fun h=>?_
 have hn:¬ziO a f t=true:=fun q=>by
  obtain⟨j,h1,h2⟩:=(zaW a f t).1 q
  exact h j h1 h2
 rw [if_neg hn]
 have hs:=h t (Nat.le_refl _)
 unfold VT at hs
 have hlen:(Qg a f (t+1)).length<=4096:=by omega
 have hsy:QQ (Qg a f (t+1))<=65536:=by rw [z9r];omega
 rw [za3 (by omega) (fun w hw=>by have:=z6V a f (t+1) w hw;omega)]
 unfold soR
 rw [z44 (z9s a f (t+1)),if_neg (by omega)]
 rfl
def Ok5 (a:Int):Prop:=(0)<=a/\a<=255
def zpd (l:List Int):Prop:=∀a∈l,Ok5 a
def zix (a:Int):Prop:=(0)<=a/\a<=65535
def zpc (l:List Int):Prop:=∀a∈l,zix a
def zpb (a:zD):Prop:=Ok5 a.States/\Ok5 a.Inputs/\Ok5 a.Outputs/\zpd a.Tree/\zpc a.Edges
def zpa (a:ub):Prop:=zpb a.C
theorem zht (a:List (List Int))(hl:a.length<=1000000)(hw:∀x∈a,x.length<=1000000):uO a a=some true:=by
 unfold uO
 rw [bdT (zao a a (by omega) fun x q=>by have:=hw x q;omega),decide_eq_true rfl,cond_true,beq_self_eq_true]
theorem zkg (a:List Int)(hl:a.length<=1000000):Xp a a=some true:=by
 unfold Xp
 rw [bdT (zao [a] [a] (by simp) fun x q=>by rw [List.mem_singleton.1 q];omega),decide_eq_true rfl,cond_true,beq_self_eq_true]
theorem zis:((List.range 4).all fun a=>(List.range 6).all fun k=>!ziO (a+1) k k)=true:=by kernel_rfl
theorem zdA {a k:Nat}(h1:1<=a)(h2:a<=4)(h3:k<=5):ziO a k k=false:=by
 have:=List.all_eq_true.1 (List.all_eq_true.1 zis (a - 1) (List.mem_range.2 (by omega))) k (List.mem_range.2 (by omega))
 rw [show a - 1+1=a by omega]at this
 simpa using this
theorem zgl (a:Nat):∀(k:Nat) (v:List Nat),v.length=k->Wd a v->v.map Int.ofNat∈exW a k
 | 0,v,h,_=>by
  have:v=[]:=List.length_eq_zero_iff.1 h
  subst this
  simp [exW]
 | k+1,v,h,hv=>by
  obtain⟨u,c,rfl⟩:∃u c,v=u++[c]:=by
   rcases List.eq_nil_or_concat v with e|⟨u,c,e⟩
   ·subst e;simp at h
   ·exact⟨u,c,by simpa using e⟩
  rw [exW,List.mem_flatMap]
  refine⟨u.map Int.ofNat,zgl a k u (by simpa using h) fun i hi=>hv i (by simp [hi]),?_⟩
  simp only [z7c,List.mem_map,List.mem_range]
  exact⟨c,hv c (by simp),by simp⟩
theorem zgs (a:Nat):∀(k:Nat),∀w∈exW a k,∀c∈w,0<=c/\c<(a:Int)
 | 0,w,h,c,hc=>by simp [exW]at h;subst h;simp at hc
 | k+1,w,h,c,hc=>by
  rw [exW,List.mem_flatMap]at h
  obtain⟨v,h1,h2⟩:=h
  simp only [z7c,List.mem_map,List.mem_range]at h2
  obtain⟨s,hs,rfl⟩:=h2
  rcases List.mem_append.1 hc with g|g
  ·exact zgs a k v h1 c g
  ·rw [List.mem_singleton.1 g];omega
theorem z6N (m:z6):∀(u x:List Nat) (s:Int),(rsp m s (u++x)).take u.length=rsp m s u
 | [],x,s=>by simp [rsp]
 | i::u,x,s=>by simp only [List.cons_append,rsp,List.length_cons,List.take_succ_cons,z6N m u x]
theorem zjZ {l:List Nat}  (hn:l.Nodup)(h1:∀x∈l,x=s)(h2:s∈l):l=[s]:=by
 match l,hn with
 | [],_=>simp at h2
 | [x],_=>rw [h1 x (by simp)]
 | x::y::l,hn=>
  have a:=h1 x (by simp)
  have b:=h1 y (by simp)
  subst a
  subst b
  simp at hn
theorem zjz (h:KM m)  (hx:∀a b,a<b->b<m.Rows.length->∃w∈l,∃y,uI w=lw m a b++y):∀a b,a<b->b<m.Rows.length->sgn m l a≠sgn m l b:=by
 intro a b hab hb e
 obtain⟨w,hw,y,e2⟩:=hx a b hab hb
 have hl:=zcJ h.vm h.cpl h.dist (show a<m.Rows.length by omega) hb (by omega)
 refine z7W hl.1 ?_
 have e3:rsp m (a:Int) (uI w)=rsp m (b:Int) (uI w):=by
  have:=List.map_inj_left.1 e w hw
  exact this
 rw [e2]at e3
 have:=congrArg (List.take (lw m a b).length) e3
 rw [z6N,z6N]at this
 exact this
theorem zfh {x:ub}(hx:zpa x):YR x=some true:=by
 obtain⟨m,e0,h⟩:=zoc (x:=x) ⟨hx.1.1,hx.2.1.1,hx.2.2.1.1,hx.2.2.2.1,hx.2.2.2.2⟩
 have hl:=h.len
 have hl1:=h.vm.len1
 have hke:=h.vm.kk_eq
 have hk1:=h.vm.kk_pos
 have hk3:=h.inp
 obtain⟨o,e1,out,o1,o2,rfl⟩:=zbF h.vm h.cpl h.dist (by omega)
 have eA:Xr m=some (srt out,0):=by
  unfold Xr
  rw [bdT h.proper,show((0:Int) != 0)=false from rfl,cond_false,bdT e1]
 have hlen:=fun(y:List Int) (hy:y∈srt out)=>o1.len h.vm h.cpl h.dist (z2b.1 hy)
 have hsl:=z9b out
 have hch:chE m.Inputs (srt out)=0:=z7i.2 ⟨z1a.2 ⟨⟨h.vm.in1,h.vm.in16⟩,by omega,fun w hw=>⟨by have:=(hlen w hw).1;omega,(hlen w hw).2⟩⟩,zbO out,by
  have:=z43 (l:=srt out) (m:=6) fun w hw=>by have:=(hlen w hw).1;omega
  have h2:(srt out).length*6<=1000*6:=Nat.mul_le_mul_right _ (by omega)
  omega⟩
 obtain⟨k,hk⟩:∃k,m.Rows.length=k+1:=⟨m.Rows.length - 1,by omega⟩
 have eX:V0 m.Inputs (w64 (((m.Rows.length:Nat):Int) - 1))=some (exW (kk m) k,0):=by
  unfold V0
  rw [zS (by omega) (by omega),hk,show(((k+1:Nat):Int) - 1)=(k:Int) by omega,<-hke,bdT (ziu (a:=kk m) ⟨hk1,by omega⟩ (by omega) (by omega)),zdA hk1 (by omega) (by omega),Qg,if_pos (Nat.le_refl _),zas _ _ _ (Nat.le_refl _)]
  rfl
 have hex:(exW (kk m) k).length<=1024:=by
  rw [JR]
  have e:kk m=1\/kk m=2\/kk m=3\/kk m=4:=by omega
  have p:(kk m) ^ k<=(kk m) ^ 5:=Nat.pow_le_pow_right hk1 (by omega)
  rcases e with e|e|e|e <;> rw [e]at p ⊢ <;> omega
 have hchX:chE m.Inputs (exW (kk m) k)=0:=z7i.2 ⟨z1a.2 ⟨⟨h.vm.in1,h.vm.in16⟩,by omega,fun w hw=>⟨by rw [Uz _ _ w hw];omega,fun c hc=>by rw [<-hke];exact zgs _ _ w hw c hc⟩⟩,zd9 _ _,by
  have:=z43 (l:=exW (kk m) k) (m:=6) fun w hw=>by rw [Uz _ _ w hw];omega
  have h2:(exW (kk m) k).length*6<=1024*6:=Nat.mul_le_mul_right _ hex
  omega⟩
 have tA:=zjz h (l:=srt out) fun a b hab hb=>⟨lwI m a b,z2b.2 ((o1 _).2 ⟨a,b,hab,hb,trivial,trivial,rfl⟩),[],by rw [List.append_nil];exact ziW _⟩
 have tX:=zjz h (l:=exW (kk m) k) fun a b hab hb=>by
  have hw:=zcJ h.vm h.cpl h.dist (show a<m.Rows.length by omega) hb (by omega)
  have hll:=zgm h.vm h.cpl h.dist (show a<m.Rows.length by omega) hb (by omega)
  refine⟨(lw m a b++List.replicate (k - (lw m a b).length) 0).map Int.ofNat,zgl _ _ _ (by simp;omega) fun i hi=>?_,List.replicate (k - (lw m a b).length) 0,ziW _⟩
  rcases List.mem_append.1 hi with g|g
  ·exact z97 hw.1 i g
  ·rw [List.eq_of_mem_replicate g];omega
 obtain⟨i1,f1,g1,g2⟩:=zaZ h hch
 obtain⟨i2,f2,g3,g4⟩:=zaZ h hchX
 have g2':=g2.2 tA
 have g4':=g4.2 tX
 refine Ret.eq ?_
 unfold YR
 have ex:ub.mk x.C=x:=rfl
 rw [ex,bdT e0,bdT eA,bdT eX]
 simp only
 rw [show((0:Int) != 0)=false from rfl,cond_false,cond_false,bdT f1,bdT f2,g1,g3,show((0:Int) != 0)=false from rfl,cond_false,cond_false,g2',g4',show(!true)=false from rfl,cond_false,cond_false,zw]
 have hvw:=(zfE hch).2
 have hL:loop (fun s=>xU m (srt out,0) s) 0=some (.inl ()):=by
  rw [vz m.Rows (by omega) (step:=fun s=>xU m (srt out,0) s) (fun _ _=>none) ?_ ?_,Y4 (fun _ _ _=>rfl)]
  ·rfl
  ·intro s row hr
   have hs:=(List.getElem?_eq_some_iff.1 hr).1
   have hsg:sgn m (srt out) s=sgn m (srt out) s:=rfl
   have hid:idn m (srt out) (sgn m (srt out) s) m.Rows.length=[(s:Int)]:=by
    unfold idn
    rw [zjZ (s:=s) (List.Pairwise.filter _ List.nodup_range) (fun t ht=>?_) (List.mem_filter.2 ⟨List.mem_range.2 hs,by simp⟩)]
    ·rfl
    ·obtain⟨t1,t2⟩:=List.mem_filter.1 ht
     have t3:=List.mem_range.1 t1
     have t4:=of_decide_eq_true t2
     rcases Nat.lt_trichotomy t s with g|g|g
     ·exact(tA t s g hs t4).elim
     ·exact g
     ·exact(tA s t g t3 t4.symm).elim
   have hln:(sgn m (srt out) s).map List.length=(srt out).map List.length:=by
    unfold sgn
    rw [List.map_map]
    refine List.map_congr_left fun w hw=>?_
    show(rsp m (s:Int) (uI w)).length=w.length
    rw [z6O]
    unfold uI
    simp
   unfold xU
   simp only
   rw [decide_eq_true (by omega),cond_true,bdT (zl7 h hch hs)]
   simp only
   rw [bdT (zmF h hch _ hln)]
   simp only
   rw [show((0:Int) != 0)=false from rfl,cond_false,cond_false,bdT (zhu h.vm hs (by omega) hvw),bdT (zht _ (by rw [z9d];omega) fun y hy=>by have:=z6I hvw hy;omega),show(!true)=false from rfl,cond_false,hid,bdT (zkg _ (by simp)),show(!true)=false from rfl,cond_false]
   rfl
  ·unfold xU
   rw [decide_eq_false (by omega),cond_false]
 refine Ret.of_eq hL ?_
 simp only
 unfold jP
 rw [z8t]
 exact zg.2 rfl
def z7B (w:World):zj:=fun b o=>ye w.heap b o
variable {v:Value}
theorem z9N {w:World}{a:Addr}  (h:w.cell? a=some v):a.spot=none/\ye w.heap a.block a.off=some v:=by
 unfold World.cell? at h
 unfold ye
 split at h
 ·rename_i c ty fr he
  rw [he]
  split at h
  ·cases h
  ·rename_i hs
   exact⟨by simpa using hs,h⟩
 ·cases h
variable {cs:List Value}{S:zj}{k:IntKind}
section
variable {H:Type}{enc:TypeId×Value->H}{P:Program}{w:World}{base:Nat}{spare:Nat->Bool}{held:Bool}
theorem zdl {a:Addr}{n:Nat}  (h:w.cells? base a n=some cs)(hn:0<n):a.spot=none/\cs.length=n/\z5M (z7B w) a.block a.off cs:=by
 obtain⟨_,h2,h3⟩:=World.cells?_some h
 have h0:a.spot=none:=by
  have h4:=h3 0 hn
  cases hc:cs[0]? with
  | none=>rw [List.getElem?_eq_none_iff]at hc;omega
  | some v=>
   rw [hc]at h4
   have:=(z9N h4).1
   simpa [Addr.add] using this
 refine⟨h0,h2,fun j v hj=>?_⟩
 have hlt:=(List.getElem?_eq_some_iff.1 hj).1
 have h4:=h3 j (by omega)
 rw [hj]at h4
 have q:=(z9N h4).2
 unfold Addr.add at q
 split at q
 ·rename_i e;subst e;exact q
 ·exact q
theorem z8b:∀{bs:List A} {cs:List Value} {a:A} {c:List Value},yx S bs cs->Rep S a c->yx S (bs++[a]) (cs++c)
 | [],cs,a,c,h1,h2=>by
  simp only [yx]at h1
  subst h1
  simp only [List.nil_append,yx]
  exact⟨c,[],by simp,h2,rfl⟩
 | x::bs,cs,a,c,h1,h2=>by
  simp only [yx]at h1
  obtain⟨c1,c2,rfl,r1,r2⟩:=h1
  simp only [List.cons_append,yx]
  exact⟨c1,c2++c,by simp,r1,z8b r2 h2⟩
theorem zfa {b o:Nat}{c1 c2:List Value}(h1:z5M S b o c1)(h2:z5M S b (o+c1.length) c2):z5M S b o (c1++c2):=by
 intro j v hj
 rcases Nat.lt_or_ge j c1.length with q|q
 ·rw [List.getElem?_append_left q]at hj
  exact h1 j v hj
 ·rw [List.getElem?_append_right q]at hj
  have:=h2 _ _ hj
  rwa [show o+c1.length+(j - c1.length)=o+j by omega]at this
theorem z80 {α:Type}{t e sz:Nat}(f:α->A)(ok:α->Prop)(ht:P.underlying t=some (.slice e))(hsz:P.cellsOf e=sz)(h0:0<sz)(hf:∀a,(f a).size=sz)
    (hel:∀n cs x,DataW.trod enc P w base spare held n e cs=some x->∃a,ok a/\Rep (z7B w) (f a) cs)
    {fuel:Nat} {cs:List Value} {x:DataW H×List MemPlace} (h:DataW.trod enc P w base spare held fuel t cs=some x):∃l:List α,(∀a∈l,ok a)/\Rep (z7B w) (.sl sz false (l.map f)) cs:=by
  rcases DataW.trod_slice ht h with⟨rfl,_⟩|⟨a,len,cap,elems,rest,n,_,rfl,_,_,hlc,_,hlen,hall,_,_⟩
  · refine⟨[],by simp,?_⟩
    simp only [Rep,List.map_nil,List.length_nil]
    exact⟨none,0,rfl,by simp,Nat.le_refl _,by simp,.inl trivial⟩
  · have key:∀k,k<=len->∃(l:List α) (cells:List Value),l.length=k/\(∀a∈l,ok a)/\yx (z7B w) (l.map f) cells/\cells.length=k*sz/\(0<k->a.spot=none)/\z5M (z7B w) a.block a.off cells:=by
      intro k
      induction k with
      | zero=>intro _;exact⟨[],[],rfl,by simp,by simp [yx],by simp,by simp,fun j v h=>by simp at h⟩
      | succ k ih=>
        intro hk
        obtain⟨l,cells,q1,q2,q3,q4,q5,q6⟩:=ih (by omega)
        have hk':=hall k (by omega)
        have hsome:elems[k]?=some elems[k]:=List.getElem?_eq_getElem (by omega)
        rw [hsome,Option.bind_eq_some_iff,hsz]at hk'
        obtain⟨c,hc,htr⟩:=hk'
        obtain⟨y,hy,hr⟩:=hel _ _ _ htr
        obtain⟨g1,g2,g3⟩:=zdl hc h0
        refine⟨l++[y],cells++c,by simp [q1],?_,?_,?_,?_,?_⟩
        · intro z hz
          rcases List.mem_append.1 hz with q|q
          · exact q2 z q
          · simp only [List.mem_cons,List.not_mem_nil,or_false]at q;subst q;exact hy
        · rw [List.map_append];exact z8b q3 hr
        · rw [List.length_append,q4,g2,Nat.succ_mul]
        · intro _
          rcases Nat.eq_zero_or_pos k with rfl|hk0
          · simpa [Addr.add] using g1
          · exact q5 hk0
        · refine zfa q6 ?_
          rw [q4]
          unfold Addr.add at g3
          split at g3
          · rename_i e0
            rw [e0,Nat.add_zero]
            exact g3
          · exact g3
    obtain⟨l,cells,q1,q2,q3,q4,q5,q6⟩:=key len (Nat.le_refl _)
    refine⟨l,q2,?_⟩
    simp only [Rep,List.length_map]
    refine⟨some a,cap,by rw [q1],by simp,by omega,?_,?_⟩
    · intro y hy
      obtain⟨z,_,rfl⟩:=List.mem_map.1 hy
      exact hf z
    · rcases Nat.eq_zero_or_pos len with rfl|hl
      · left;rw [List.length_eq_zero_iff.1 q1];rfl
      · right
        refine⟨a.block,a.off,cells,?_,q3,q6⟩
        have:=q5 hl
        obtain⟨b,o,s⟩:=a
        simp only at this
        subst this
        rfl
theorem zcT {t:Nat}  {lo hi:Int}(ht:P.underlying t=some (.int k))(hlo:k.min=lo)(hhi:k.max=hi){fuel:Nat}  {x:DataW H×List MemPlace}(h:DataW.trod enc P w base spare held fuel t cs=some x) :
  ∃n:Int,(lo<=n/\n<=hi)/\cs=[.int k n]/\Rep (z7B w) (.atom (.int k n)) cs:=by
 obtain⟨n,rfl,_,hw⟩:=DataW.trod_int ht h
 simp only [Lit.wf,Bool.and_eq_true,decide_eq_true_eq,hlo,hhi]at hw
 exact⟨n,hw,rfl,by simp only [Rep];exact⟨trivial,rfl⟩⟩
theorem z11 {t:Nat}{fs:List Field}(ht:P.underlying t=some (.struct ⟨fs⟩)){fuel:Nat}  {x:DataW H×List MemPlace}(h:DataW.trod enc P w base spare held fuel t cs=some x) :
  cs.length=P.cellsOf t/\∀(i:Nat) (f:Field),fs[i]?=some f->∃n y,DataW.trod enc P w base spare held n f.type ((cs.drop f.offset).take (P.cellsOf f.type))=some y:=by
 obtain⟨xs,n,_,_,hl,hxl,hall⟩:=DataW.trod_struct ht h
 refine⟨hl,fun i f hf=>?_⟩
 have hlt:=(List.getElem?_eq_some_iff.1 hf).1
 have:=hall i f (by simpa using hf)
 rw [List.getElem?_eq_getElem (by rw [hxl];simpa using hlt)]at this
 exact⟨n,_,this⟩
end
theorem Q0 {a:A}{bs:List A}  {n:Nat}(h1:Rep S a (cs.take n))(h2:yx S bs (cs.drop n)):yx S (a::bs) cs:=by
 simp only [yx]
 exact⟨cs.take n,cs.drop n,(List.take_append_drop n cs).symm,h1,h2⟩
open Go.RowKit Go.ChangeShapes
theorem z8d (k:IntKind):∀l:List Int,yx S (l.map fun n=>A.atom (.int k n)) (l.map fun n=>Value.int k n)
 | []=>by simp [yx]
 | n::l=>by
  simp only [List.map_cons,yx,Rep]
  exact⟨[.int k n],_,rfl,⟨rfl,rfl⟩,z8d k l⟩
variable {P:Program}
theorem zep {W:World}{n:String}{l:List Int}{r:List (String×DataW Unit)}{g:Nat}{t e:TypeId}  {N:Nat}(h:laidMet P ((n,.agg (l.map fun x=>.lit (.int k x)))::r) W)
  (hg:P.globalNamed n=some g) (ht:(P.globals[g]?).map (·.type)=some t) (hu:P.underlying t=some (.array N e)) (he:P.underlying e=some (.int k)) (hc:P.cellsOf e=1) :
  ∀(j:Nat) (x:Int),l[j]?=some x->z7B W g j=some (.int k x):=by
 obtain⟨ps,⟨g0,t0,cs0,f0,p0,q0,hg0,ht0,hv0,hd0,_,_⟩,_,_⟩:=h
 obtain rfl:=Option.some.inj (hg.symm.trans hg0)
 obtain rfl:=Option.some.inj (ht.symm.trans ht0)
 obtain⟨xs,m,_,hxs,hlen,hxl,hall⟩:=DataW.trod_array hu hd0
 have hx1:l.map (fun x=>(DataW.lit (.int k x):DataW Unit))=xs.map (·.1):=by
  have:=(Prod.mk.inj hxs).1
  injection this
 intro j x hj
 have hjl:j<l.length:=(List.getElem?_eq_some_iff.1 hj).1
 have hll:l.length=xs.length:=by simpa using congrArg List.length hx1
 have hjx:j<xs.length:=by omega
 have hy:xs[j]?=some xs[j]:=List.getElem?_eq_getElem hjx
 have h1:=hall j (by omega)
 rw [hy,hc,Nat.mul_one]at h1
 obtain⟨v,e1,e2,_⟩:=DataW.trod_int he h1
 have e3:(xs.map (·.1))[j]?=some (.lit (.int k x)):=by rw [<-hx1,List.getElem?_map,hj];rfl
 rw [List.getElem?_map,hy,e2]at e3
 have e4:v=x:=by
  simp only [Option.map_some,Option.some.injEq]at e3
  injection e3 with e3
  injection e3
 subst e4
 have h2:cs0.toList[j]?=some (.int k v):=by
  have:=congrArg (fun q=>q[0]?) e1
  simpa [List.getElem?_take,List.getElem?_drop] using this
 have h3:=World.var?_cell hg hv0 j
 rw [show cs0[j]?=some (.int k v) by simpa using h2]at h3
 exact(z9N h3).2
section
open Go Go.ChangeShapes Go.WideShapes Go.ChangeAt Go.RowKit
theorem zco {P:Program}{H:Type}{enc:TypeId×Value->H}{f:Func}{s:ChangeSpec}{apart fresh handsOn again:Bool}{W W':World}{args:Array Value}{v:Value}{ds:List (DataW H)}{pa:List MemPlace}
  (hvar:s.vars=[]) (hvars2:(s.fn H (ds++[])).vars=[]) (hW:DataW.Whole enc P f.params.toList s.vars apart W args.toList ds [] (pa++[])) (hb:Below W.heap.size W W')
  (hres:∀(b:Nat) (sp:Nat->Bool) (hd:Bool),DataW.TrodAll enc P W' b sp hd f.resultTypes.toList (v.resultList f.resultTypes.size) (s.fn H (ds++[])).results [])
  (hargs:∀sp:Nat->Bool,(∀p∈pa++[],sp p.block=true)->DataW.TrodAll enc P W' 0 sp true f.params.toList args.toList (s.fn H (ds++[])).args pa)
  (hok:∀(j:Nat) (t:TypeId) (r:Value),f.resultTypes[j]?=some t->(v.resultList f.resultTypes.size)[j]?=some r->Value.okWide P W' .any 0 t r) :
  s.post enc P f apart fresh handsOn again W args v W':=by
 have hlt:∀p∈pa++[],p.block<W.heap.size:=fun p hp=>by simpa using hW.lt p hp
 have hvr:∀sp:Nat->Bool,DataW.TrodVars enc P W' sp s.vars (s.fn H (ds++[])).vars []:=fun sp=>by rw [hvar,hvars2];rfl
 refine⟨ds,[],pa++[],[],pa,[],hW,hres _ _ _,hargs _ (fun p hp=>by simpa using hlt p hp),hvr _,World.keptBut_mono (fun _ q=>q.elim) (hb.frame fun _=>False),fun _=>?_⟩
 obtain⟨_,_,_,_,_,hz,hn⟩:=hW
 refine⟨hok,_,_,([]++pa)++[],⟨[]++pa,[],trodAll_append (hargs _ (fun _ _=>rfl)) (hres _ _ _),hvr _,rfl,?_,?_⟩,?_⟩
 ·intro b off hp
  have hp':MemPlace.cell b off∈pa++[]:=by simpa using hp
  rw [hb.frozen (p:=⟨b,off,none⟩) (hlt _ hp')]
  exact hz b off hp'
 ·intro ha
  simpa using hn ha
 ·intro p hp _
  simpa using hp
end
theorem zew {k:Nat}{α ρ:Type}{enc:α->List A}{encR:ρ->A}{F:α->Option ρ}{gives:List Bool}{inj:∀x y,enc x=enc y->x=y}(h:(spF k enc encR F gives inj).Ok P){x:α}{r:ρ}(hr:F x=some r):UB P k (enc x) (encR r):=by
 have:=h x ⟨r,hr⟩
 simpa only [spF,hr] using this
variable {fs:Array Field}
section
variable {P:Program}{w:World}{r:Reach}{base t:Nat}{v:Value}
theorem zb3 (hu:P.underlying t=some (.struct fs))(h:Value.okWide P w r base t v):v=.agg v.cells.toList.toArray:=by
 unfold Value.okWide at h
 rw [hu]at h
 obtain⟨cs,rfl,_⟩:=h
 rfl
theorem z9n {a:A}(hu:P.underlying t=some (.struct fs))(hr:Rep S a v.cells.toList)(h:Value.okWide P w r base t v)(ha:a.isAgg=true):ut S a v:=⟨_,hr,by cases a <;> first|exact zb3 hu h|cases ha⟩
theorem zfm {h:Array Obj}  {F:List Nat}(q:Has S h (.atom (.bool true)) v F):v=.bool true:=by
 rcases q with⟨q,_⟩|⟨cs,q,_,rfl⟩
 ·rw [(zr.1 q).1]
 ·simp only [zK,Rep]at q
  obtain⟨⟨rfl,_⟩,_⟩:=q
  rfl
end
open Go.Proofs
section
variable {H:Type}{enc:TypeId×Value->H}{w:World}{base:Nat}{spare:Nat->Bool}{held:Bool}
theorem zgw:Tryz.prog.cellsOf 5=1:=by kernel_rfl
theorem rd5 {fuel:Nat}  {x:DataW H×List MemPlace}(h:DataW.trod enc Tryz.prog w base spare held fuel 5 cs=some x):∃a:Int,Ok5 a/\Rep (z7B w) ((eI .u8) a) cs:=by
 obtain⟨n,h1,_,h2⟩:=zcT Tryz.underlying5 (lo:=0) (hi:=255) rfl rfl h
 exact⟨n,h1,h2⟩
theorem zig:Tryz.prog.cellsOf 22=1:=by kernel_rfl
theorem zpN {fuel:Nat}  {x:DataW H×List MemPlace}(h:DataW.trod enc Tryz.prog w base spare held fuel 22 cs=some x):∃a:List Int,zpd a/\Rep (z7B w) ((eSl 1 false (eI .u8)) a) cs:=by
 exact z80 (eI .u8) Ok5 Tryz.underlying22 zgw (by omega) (fun _=>rfl) (fun _ _ _ q=>rd5 q) h
theorem zfG:Tryz.prog.cellsOf 117=1:=by kernel_rfl
theorem znc {fuel:Nat}  {x:DataW H×List MemPlace}(h:DataW.trod enc Tryz.prog w base spare held fuel 117 cs=some x):∃a:Int,zix a/\Rep (z7B w) ((eI .u16) a) cs:=by
 obtain⟨n,h1,_,h2⟩:=zcT Tryz.underlying117 (lo:=0) (hi:=65535) rfl rfl h
 exact⟨n,h1,h2⟩
theorem zif:Tryz.prog.cellsOf 23=1:=by kernel_rfl
theorem zpM {fuel:Nat}  {x:DataW H×List MemPlace}(h:DataW.trod enc Tryz.prog w base spare held fuel 23 cs=some x):∃a:List Int,zpc a/\Rep (z7B w) ((eSl 1 false (eI .u16)) a) cs:=by
 exact z80 (eI .u16) zix Tryz.underlying23 zfG (by omega) (fun _=>rfl) (fun _ _ _ q=>znc q) h
theorem zdm:Tryz.prog.cellsOf 25=5:=by kernel_rfl
theorem zpL {fuel:Nat}  {x:DataW H×List MemPlace}(h:DataW.trod enc Tryz.prog w base spare held fuel 25 cs=some x):∃a:zD,zpb a/\Rep (z7B w) ((ZG (eI .u8) (eI .u8) (eI .u8) (eSl 1 false (eI .u8)) (eSl 1 false (eI .u16))) a) cs:=by
 obtain⟨hl,hf⟩:=z11 Tryz.underlying25 h
 rw [zdm]at hl
 obtain⟨_,_,q0⟩:=hf 0 _ rfl
 obtain⟨_,_,q1⟩:=hf 1 _ rfl
 obtain⟨_,_,q2⟩:=hf 2 _ rfl
 obtain⟨_,_,q3⟩:=hf 3 _ rfl
 obtain⟨_,_,q4⟩:=hf 4 _ rfl
 simp only [zig,zif,zgw]at q0 q1 q2 q3 q4
 obtain⟨a0,k0,r0⟩:=rd5 q0
 obtain⟨a1,k1,r1⟩:=rd5 q1
 obtain⟨a2,k2,r2⟩:=rd5 q2
 obtain⟨a3,k3,r3⟩:=zpN q3
 obtain⟨a4,k4,r4⟩:=zpM q4
 refine⟨⟨a0,a1,a2,a3,a4⟩,⟨k0,k1,k2,k3,k4⟩,?_⟩
 show Rep (z7B w) (.agg [(eI .u8) a0,(eI .u8) a1,(eI .u8) a2,(eSl 1 false (eI .u8)) a3,(eSl 1 false (eI .u16)) a4]) cs
 simp only [Rep]
 refine Q0 (n:=1) (by simpa [List.drop_drop] using r0) (Q0 (n:=1) (by simpa [List.drop_drop] using r1) (Q0 (n:=1) (by simpa [List.drop_drop] using r2) (Q0 (n:=1) (by simpa [List.drop_drop] using r3) (Q0 (n:=1) (by simpa [List.drop_drop] using r4) ?_))))
 simp only [List.drop_drop,yx]
 exact List.drop_eq_nil_of_le (by omega)
theorem zie:Tryz.prog.cellsOf 27=5:=by kernel_rfl
theorem zpK {fuel:Nat}  {x:DataW H×List MemPlace}(h:DataW.trod enc Tryz.prog w base spare held fuel 27 cs=some x):∃a:ub,zpa a/\Rep (z7B w) ((ZF (ZG (eI .u8) (eI .u8) (eI .u8) (eSl 1 false (eI .u8)) (eSl 1 false (eI .u16)))) a) cs:=by
 obtain⟨hl,hf⟩:=z11 Tryz.underlying27 h
 rw [zie]at hl
 obtain⟨_,_,q0⟩:=hf 0 _ rfl
 simp only [zdm]at q0
 obtain⟨a0,k0,r0⟩:=zpL q0
 refine⟨⟨a0⟩,k0,?_⟩
 show Rep (z7B w) (.agg [(ZG (eI .u8) (eI .u8) (eI .u8) (eSl 1 false (eI .u8)) (eSl 1 false (eI .u16))) a0]) cs
 simp only [Rep]
 refine Q0 (n:=5) (by simpa [List.drop_drop] using r0) ?_
 simp only [yx]
 exact List.drop_eq_nil_of_le (by omega)
end
end Go.Own
namespace Go.Proofs.YtcodjgfoodacaaaGreatDoor.identsSet
open Go Go.ChangeShapes Go.WideShapes Go.ChangeAt Go.RowKit
theorem own:ownKnob Tryz.prog.godebug=none:=by kernel_rfl
theorem zhY:laidOutB Tryz.prog=true:=by kernel_rfl
section
variable {H:Type}{enc:TypeId×Value->H}{W:World}
theorem zfn {W:World}(hL:laidMetH Tryz.prog Rows.identsSetRow.laid W):Go.Own.Gok (Go.Own.z7B W):=by
 rw [MakeChecks.laidMetH_plain _ _ _ (by kernel_rfl)]at hL
 obtain⟨x0,hx⟩:∃x0,Rows.identsSetRow.laid=x0::[("math/bits.deBruijn64tab",.agg (Go.Own.znw.map fun n=>.lit (.int .u8 n)))]:=⟨_,rfl⟩
 rw [hx]at hL
 have hl:=Go.Own.zep (hL.tail) (g:=1) (by kernel_rfl) (t:=162) (by kernel_rfl) Tryz.underlying162 Tryz.underlying5 (by kernel_rfl)
 intro g x e
 unfold Go.Own.zmL at e
 split at e
 ·rename_i h0
  subst h0
  cases e
  refine⟨_,(by simp only [Go.Own.Rep];exact Go.Own.z8d _ _),fun j v hj=>?_⟩
  rw [List.getElem?_map]at hj
  obtain⟨y,hy,rfl⟩:=Option.map_eq_some_iff.1 hj
  rw [Nat.zero_add]
  exact hl j y hy
 ·cases e
set_option maxRecDepth 100000 in
theorem zps {base:Nat}(hL:laidMetH Tryz.prog Rows.identsSetRow.laid W){v0:Value}{d0:DataW H}{p0:List MemPlace}(h0:DataW.Trod enc Tryz.prog W 0 (fun _=>true) true 27 v0 d0 p0)(k0:Value.okWide Tryz.prog W .any base (27:Nat) v0) :
  Calls Tryz.prog 8 #[v0] W fun e w'=>e=.returned (.bool true)/\Go.Own.VO (fun k=>W.heap.size<=k) W w':=by
 obtain⟨n0,h0⟩:=h0
 obtain⟨x0,o0,r0⟩:=Go.Own.zpK h0
 have q:=(Go.Own.zew (Go.Own.zbn Go.Own.ziy List.mem_cons_self:Go.Own.Ys.Ok Tryz.prog) (x:=x0) (r:=true) (Go.Own.zfh o0)).2 (Go.Own.z7B W) W [v0] [] ⟨fun _ _ _ h=>h,zfn hL⟩ ?_ (by simp)
 ·refine Calls.mono q ?_
  rintro e w' ⟨v,S',F',rfl,hk,_,_,_,hr,_,_⟩
  refine⟨?_,hk.mono (by rintro k (h|h) <;> simp_all)⟩
  rw [Go.Own.zfm hr]
 ·refine Go.Own.VB ?_
  have g0:Go.Own.ut (Go.Own.z7B W) ((Go.Own.ZF (Go.Own.ZG (Go.Own.eI .u8) (Go.Own.eI .u8) (Go.Own.eI .u8) (Go.Own.eSl 1 false (Go.Own.eI .u8)) (Go.Own.eSl 1 false (Go.Own.eI .u16)))) x0) v0:=Go.Own.z9n (t:=(27:Nat)) Tryz.underlying27 r0 k0 rfl
  exact⟨g0,trivial⟩
end
set_option maxRecDepth 100000 in
theorem zfy (os:Os)(args:Array Value):laidMetH Tryz.prog Rows.identsSetRow.laid ((World.doorLaid Tryz.prog 400 os).forCall (fun _ _=>0) ⟨#[],args,[]⟩).memory :=
 laidMetH_of_parts3 (fuel:=8) (laidMet_of_run' 8 (by kernel_rfl) (by kernel_rfl)) (by kernel_rfl) (by kernel_rfl)
set_option maxRecDepth 100000 in
theorem zk9 (os:Os)(started:os.Started)(H:Type)(enc:TypeId×Value->H) :
  ReturnsInHanded {} Tryz.checked os 8 .any (fun w args=>(Rows.identsSetSpec.pre enc Tryz.prog Tryz.f8 Rows.identsSetRow.domain false w args/\laidMetH Tryz.prog Rows.identsSetRow.laid w)/\sizedMet enc Tryz.prog Tryz.f8 (OpenSpec.ofChange Rows.identsSetSpec) false w args) (Rows.identsSetSpec.post enc Tryz.prog Tryz.f8 false true false false):=by
 refine returnsInHanded_of_change_and (C:=Tryz.checked) (X:=fun w _=>laidMetH Tryz.prog Rows.identsSetRow.laid w) (fun _ _ _ hh h=>h.of_heap hh) own started (by kernel_rfl) Tryz.func8
  (ChangeSpec.witness_shaped (enc:=enc) (C:=Tryz.checked) (os:=os) (X:=fun w _=>laidMetH Tryz.prog Rows.identsSetRow.laid w) false (World.doorLaid Tryz.prog 400 os) #[.agg #[.int .u8 0,.int .u8 0,.int .u8 0,.slice none 0 0,.slice none 0 0]] 8 rfl (World.shaped_of_RefB (by kernel_rfl) (by kernel_rfl)) (by kernel_rfl) (by kernel_rfl) (by kernel_rfl) (zfy os _)) ?_
 intro W base args ds gs before hval0 hW hcnd _ hL _
 have hval:∀(j:Nat) t v,Tryz.f8.params[j]?=some t->args[j]?=some v->Value.okWide Tryz.prog W .any base t v:=hval0
 have hW':=hW
 obtain⟨p,q,hA0,hV,rfl,hfz,hnd⟩:=hW
 have hA:DataW.TrodAll enc Tryz.prog W 0 (fun _=>true) true Tryz.f8.params.toList args.toList ds p:=hA0
 rw [Tryz.params8]at hA hval
 obtain⟨v0,d0,rfl,rfl,h0⟩:=trodAll_one hA
 obtain⟨rfl,rfl⟩:=trodVars_none hV
 clear hA0 hval0
 refine(zps hL h0 (hval 0 (27:Nat) v0 rfl rfl)).mono fun e W' ⟨he,hk⟩=>?_
 subst he
 have hb:Below W.heap.size W W':=⟨hk.os,hk.tape,hk.output,hk.size,fun k q=>hk.block k (by omega)⟩
 have hlt:∀x∈p,x.block<W.heap.size:=fun x hx=>by simpa using hW'.lt x (by simpa using hx)
 refine⟨_,rfl,Go.Own.zco rfl rfl hW' hb (fun _ _ _=>trodAll_cons_mk (shut_bool Tryz.underlying4 _) trodAll_mk0) (fun sp hsp=>?_) (ok_one (by kernel_rfl) rfl (okWide_bool_mk Tryz.underlying4 _))⟩
 have st:∀{t:Nat} {v:Value} {d:DataW H} {p':List MemPlace},DataW.Trod enc Tryz.prog W 0 (fun _=>true) true t v d p'->Tryz.prog.readableRec t=true->t<Tryz.prog.types.size->(∀x∈p',x∈p)->DataW.Trod enc Tryz.prog W' 0 sp true t v d p':=by
  intro t v d p' hd h1 h2 hp
  exact WideElems.Trod_stays zhY h1 h2 hd (fun x hx=>hb.same (hlt x (hp x hx))) (fun x hx=>hsp x (by simpa using hp x hx))
 have:=trodAll_mk1 (st h0 (by kernel_rfl) (of_decide_eq_true (by kernel_rfl)) (fun x hx=>by simp [hx]))
 rw [Tryz.params8]
 exact this
theorem JJ:Rows.identsSetRow.holds Tryz.pinned (OpenSpec.ofChange Rows.identsSetSpec) :=
 OpenClaim.holds_of_wide 8 Tryz.f8 rfl rfl rfl rfl rfl rfl rfl ⟨rfl,rfl,rfl,rfl,rfl⟩ rfl rfl rfl rfl rfl (by kernel_rfl) Tryz.func8 (by kernel_rfl)
  (of_decide_eq_true (by kernel_rfl)) (by unfold Func.isWrapper;first|(rw [if_pos (by decide +kernel)];kernel_rfl)|(rw [if_neg (by decide +kernel)];exact⟨rfl,rfl⟩))
  (fun os started H enc _=>zk9 os started H enc)
theorem proved:Rows.IdentsSetCardSaid :=
 Claim7.holds_tied_plain_at .later [] [.data,.data] true (true,"715c2141db8d2242eb7f34f812cc2666e7c04bdf1baf18ebf980598cb96d27b9") false
  JJ (fun _ h=>by cases h) (by kernel_rfl) (fun _ h=>by cases h) identsSet_row_tie rfl ⟨rfl,rfl⟩ (by kernel_rfl) rfl
  (fun f fn hf hfn=>by
   obtain rfl:f=8:=Option.some.inj ((show Tryz.prog.funcNamed "gauntlet/gauntletlaw14.IdentsSet"=some 8 by kernel_rfl).symm.trans hf) |>.symm
   obtain rfl:fn=Tryz.f8:=(Option.some.inj (Tryz.func8.symm.trans hfn)).symm
   exact⟨by kernel_rfl,fun j t ht=>by
    rw [Tryz.params8]at ht
    have hm:t∈[27]:=by simpa using Array.mem_of_getElem? ht
    have hall:([27].all fun u=>!Tryz.prog.wantsStandIn u)=true:=by kernel_rfl
    exact(show Tryz.prog.wantsStandIn t=false by simpa using List.all_eq_true.1 hall t hm)⟩)
  (by kernel_rfl)
#print axioms proved
end Go.Proofs.YtcodjgfoodacaaaGreatDoor.identsSet
