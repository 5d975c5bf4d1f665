/- -/
import Derived.WalkKit
import Derived.RangeFuncWrites
import Derived.RangeFuncCalls
import Derived.OrdersIn
import Derived.TacticsIn
set_option linter.unusedVariables false
set_option linter.unusedSimpArgs false
namespace Go.Own
inductive Xp where
 | deref
 | fld (i:Nat)
 | idx (i:Nat)
 deriving DecidableEq
abbrev zl:=Nat → Nat → Option Value
structure Opq where
 holds:zl → Array Obj → Value → List Nat → Prop
 multi:Bool:=false
 one:∀ {S:zl} {h:Array Obj} {v:Value} {F:List Nat},holds S h v F → v.oneCell'=true ∨ multi=true ∧ ∃ vs,v=.tuple vs
 frame:∀ {S S':zl} {h h':Array Obj} {v:Value} {F:List Nat},(∀ b o u,S b o=some u → S' b o=some u) → (∀ k ∈ F,h'[k]?=h[k]? ∧ ∀ o,S' k o=none) → holds S h v F → holds S' h' v F
 own:∀ {S:zl} {h:Array Obj} {v:Value} {F:List Nat},holds S h v F → ∀ k ∈ F,k < h.size ∧ ∀ o,S k o=none
 idx:Nat
structure z3m where
 holds:zl → Array Obj → Value → List Nat → Prop
 one:∀ {S:zl} {h:Array Obj} {v:Value} {F:List Nat},holds S h v F → v.oneCell'=true
 frame:∀ {S S':zl} {h h':Array Obj} {v:Value} {F:List Nat},(∀ b o u,S b o=some u → S' b o=some u) → (∀ k ∈ F,h'[k]?=h[k]? ∧ ∀ o,S' k o=none) → holds S h v F → holds S' h' v F
 own:∀ {S:zl} {h:Array Obj} {v:Value} {F:List Nat},holds S h v F → ∀ k ∈ F,k < h.size ∧ ∀ o,S k o=none
 idx:Nat
def z3m.q (o:z3m):Opq:=⟨o.holds,false,fun h=>.inl (o.one h),o.frame,o.own,o.idx⟩
def Opq.single (o:Opq) (h:o.multi=false):z3m:=⟨o.holds,fun q=>(o.one q).resolve_right (fun k=>by rw [h] at k; simp at k),o.frame,o.own,o.idx⟩
structure Dpq where
 holds:zl → Value → Prop
 one:∀ {S:zl} {v:Value},holds S v → v.oneCell'=true
 mono:∀ {S S':zl} {v:Value},(∀ b o u,S b o=some u → S' b o=some u) → holds S v → holds S' v
inductive A where
 | atom (v:Value)
 | fn (f:Nat) (caps:List A)
 | agg (fs:List A)
 | tup (fs:List A)
 | sl (sz:Nat) (t:Bool) (xs:List A)
 | sptr (x:A)
 | osl (sz:Nat) (t:Bool) (es:List A)
 | box (x:A)
 | dead (n:Nat)
 | opq (o:Opq)
 | dop (o:Dpq)
mutual
def A.size:A → Nat
 | .agg fs=>A.sizes fs
 | .dead n=>n
 | .tup _=>0
 | _=>1
def A.sizes:List A → Nat
 | []=>0
 | a :: as_=>a.size + A.sizes as_
end
mutual
def A.isD:A → Bool
 | .agg fs=>A.areD fs
 | .atom _ | .fn _ _ | .sl _ _ _ | .sptr _ | .dop _=>true
 | _=>false
def A.areD:List A → Bool
 | []=>true
 | a :: as_=>a.isD && A.areD as_
end
mutual
def A.plain:A → Bool
 | .agg fs=>A.plains fs
 | .opq o=>!o.multi
 | _=>true
def A.plains:List A → Bool
 | []=>true
 | a :: as_=>a.plain && A.plains as_
end
def zgF:Value → Bool
 | .agg _=>false
 | _=>true
variable {v:Value}
theorem JR (h:v.oneCell'=true):zgF v=true:=by cases v <;> first | rfl | (simp [Value.oneCell'] at h)
mutual
def A.live:A → Bool
 | .agg fs=>A.lives fs
 | .osl _ _ es=>A.lives es
 | .box x=>x.live
 | .dead _=>false
 | .opq _=>false
 | .tup _=>false
 | _=>true
def A.lives:List A → Bool
 | []=>true
 | a :: as_=>a.live && A.lives as_
end
mutual
def A.shut:A → A
 | .agg fs=>.agg (A.shuts fs)
 | .osl sz t es=>.sl sz t (A.shuts es)
 | .box x=>.sptr x.shut
 | x=>x
def A.shuts:List A → List A
 | []=>[]
 | a :: as_=>a.shut :: A.shuts as_
end
mutual
def A.loose:A → A
 | .agg fs=>.agg (A.looses fs)
 | .tup fs=>.tup (A.looses fs)
 | .sl sz _ xs=>.sl sz false (A.looses xs)
 | .osl sz _ es=>.osl sz false (A.looses es)
 | .sptr x=>.sptr x.loose
 | .box x=>.box x.loose
 | .fn f caps=>.fn f (A.looses caps)
 | .atom v=>.atom v
 | .dead n=>.dead n
 | .opq o=>.opq o
 | .dop o=>.dop o
def A.looses:List A → List A
 | []=>[]
 | a :: as_=>a.loose :: A.looses as_
end
def y5 (h:Array Obj) (b o:Nat):Option Value :=
 match h[b]? with
 | some (.cells c _ _)=>c[o]?
 | _=>none
def z5x (S:zl) (b o:Nat) (l:List Value):Prop:=∀ j v,l[j]?=some v → S b (o + j)=some v
mutual
def Rep (S:zl):A → List Value → Prop
 | .atom v,cs=>cs=[v] ∧ v.oneCell'=true
 | .fn f caps,cs=>∃ vs,yd S caps vs ∧ (∀ c ∈ caps,c.size=1 ∧ ∀ fs,c ≠ .agg fs) ∧ cs=[.func (.func f) #[] vs.toArray]
 | .agg fs,cs=>yd S fs cs
 | .sl sz t xs,cs=>∃ p c,cs=[.slice p xs.length c] ∧ (t=true → c=xs.length) ∧ xs.length ≤ c ∧ (∀ x ∈ xs,x.size=sz) ∧
   (xs=[] ∨ ∃ b o l,p=some ⟨b,o,none⟩ ∧ yd S xs l ∧ z5x S b o l)
 | .sptr x,cs=>∃ b o l,cs=[.pointer (some ⟨b,o,none⟩)] ∧ Rep S x l ∧ z5x S b o l
 | .dop q,cs=>∃ v,cs=[v] ∧ q.holds S v
 | _,_=>False
def yd (S:zl):List A → List Value → Prop
 | [],cs=>cs=[]
 | a :: as_,cs=>∃ c1 c2,cs=c1 ++ c2 ∧ Rep S a c1 ∧ yd S as_ c2
end
mutual
def zJ (S:zl) (h:Array Obj):A → List Value → List Nat → Prop
  | .osl sz t es,cs,F=>∃ p c,cs=[.slice p es.length c] ∧ (t=true → c=es.length) ∧ es.length ≤ c ∧ c ≤ maxLen ∧ (∀ x ∈ es,x.size=sz) ∧
      ((es=[] ∧ c=0 ∧ p=none ∧ F=[]) ∨
       ∃ b arr ty l F',p=some ⟨b,0,none⟩ ∧ h[b]?=some (.cells arr ty (0,0)) ∧ c * sz ≤ arr.size ∧ arr.toList.take (es.length * sz)=l ∧ zM S h es l F' ∧ F=b :: F' ∧ ∀ o,S b o=none)
  | .box x,cs,F=>∃ b ty l F',cs=[.pointer (some ⟨b,0,none⟩)] ∧ h[b]?=some (.cells l.toArray ty (0,0)) ∧ zJ S h x l F' ∧ F=b :: F' ∧ ∀ o,S b o=none
  | .agg fs,cs,F=>zM S h fs cs F
  | .dead n,cs,F=>cs.length=n ∧ (∀ u ∈ cs,u.oneCell'=true) ∧ F=[]
  | .opq o,cs,F=>∃ v,cs=[v] ∧ o.holds S h v F
  | .atom v,cs,F=>Rep S (.atom v) cs ∧ F=[]
  | .fn f caps,cs,F=>Rep S (.fn f caps) cs ∧ F=[]
  | .sl sz t xs,cs,F=>Rep S (.sl sz t xs) cs ∧ F=[]
  | .sptr x,cs,F=>Rep S (.sptr x) cs ∧ F=[]
  | .dop q,cs,F=>Rep S (.dop q) cs ∧ F=[]
  | .tup _,_,_=>False
def zM (S:zl) (h:Array Obj):List A → List Value → List Nat → Prop
 | [],cs,F=>cs=[] ∧ F=[]
 | a :: as_,cs,F=>∃ c1 c2 F1 F2,cs=c1 ++ c2 ∧ F=F1 ++ F2 ∧ zJ S h a c1 F1 ∧ zM S h as_ c2 F2
end
variable {l:List Value}
theorem z5x.mono {S S':zl} (h:∀ b o v,S b o=some v → S' b o=some v) {b o:Nat}  (hl:z5x S b o l):z5x S' b o l :=
 fun j v hj=>h _ _ _ (hl j v hj)
mutual
theorem Rep.mono {S S':zl} (h:∀ b o v,S b o=some v → S' b o=some v):∀ {a:A} {cs:List Value},Rep S a cs → Rep S' a cs
 | .atom _,_,r=>by simpa only [Rep] using r
 | .fn _ caps,_,r=>by
  simp only [Rep] at r ⊢
  obtain ⟨vs,h1,h2,h3⟩:=r
  exact ⟨vs,yd.mono h h1,h2,h3⟩
 | .agg fs,_,r=>by simp only [Rep] at r ⊢; exact yd.mono h r
 | .sl _ _ xs,_,r=>by
  simp only [Rep] at r ⊢
  obtain ⟨p,c,h1,h2,h3,h4,h5⟩:=r
  refine ⟨p,c,h1,h2,h3,h4,h5.imp id ?_⟩
  rintro ⟨b,o,l,e,g,k⟩
  exact ⟨b,o,l,e,yd.mono h g,k.mono h⟩
 | .sptr x,_,r=>by
  simp only [Rep] at r ⊢
  obtain ⟨b,o,l,e,g,k⟩:=r
  exact ⟨b,o,l,e,Rep.mono h g,k.mono h⟩
 | .dop q,_,r=>by
  simp only [Rep] at r ⊢
  obtain ⟨v,e,g⟩:=r
  exact ⟨v,e,q.mono h g⟩
 | .tup _,_,r=>by simp only [Rep] at r
 | .osl _ _ _,_,r=>by simp only [Rep] at r
 | .box _,_,r=>by simp only [Rep] at r
 | .dead _,_,r=>by simp only [Rep] at r
 | .opq _,_,r=>by simp only [Rep] at r
theorem yd.mono {S S':zl} (h:∀ b o v,S b o=some v → S' b o=some v):∀ {as_:List A} {cs:List Value},yd S as_ cs → yd S' as_ cs
 | [],_,r=>by simpa only [yd] using r
 | a :: as_,_,r=>by
  simp only [yd] at r ⊢
  obtain ⟨c1,c2,e,r1,r2⟩:=r
  exact ⟨c1,c2,e,Rep.mono h r1,yd.mono h r2⟩
end
variable {S:zl}
mutual
theorem Rep.len:∀ {a:A} {cs:List Value},Rep S a cs → cs.length=a.size
 | .atom _,_,r=>by simp only [Rep] at r; simp [r.1,A.size]
 | .fn _ caps,_,r=>by
  simp only [Rep] at r
  obtain ⟨vs,h1,h2,h3⟩:=r
  simp [h3,A.size]
 | .agg fs,_,r=>by simp only [Rep] at r; simp only [A.size]; exact yd.len r
 | .sl _ _ xs,_,r=>by
  simp only [Rep] at r
  obtain ⟨p,c,h1,_⟩:=r
  simp [h1,A.size]
 | .sptr x,_,r=>by
  simp only [Rep] at r
  obtain ⟨b,o,l,e,_⟩:=r
  simp [e,A.size]
 | .dop _,_,r=>by
  simp only [Rep] at r
  obtain ⟨v,rfl,_⟩:=r
  rfl
 | .tup _,_,r=>by simp only [Rep] at r
 | .osl _ _ _,_,r=>by simp only [Rep] at r
 | .box _,_,r=>by simp only [Rep] at r
 | .dead _,_,r=>by simp only [Rep] at r
 | .opq _,_,r=>by simp only [Rep] at r
theorem yd.len:∀ {as_:List A} {cs:List Value},yd S as_ cs → cs.length=A.sizes as_
 | [],_,r=>by simp only [yd] at r; simp [r,A.sizes]
 | a :: as_,_,r=>by
  simp only [yd] at r
  obtain ⟨c1,c2,e,r1,r2⟩:=r
  simp [e,A.sizes,Rep.len r1,yd.len r2]
end
mutual
theorem Rep.one:∀ {a:A} {cs:List Value},Rep S a cs → ∀ u ∈ cs,u.oneCell'=true
 | .atom _,_,r=>by simp only [Rep] at r; obtain ⟨rfl,h⟩:=r; simpa using h
 | .fn _ caps,_,r=>by
  simp only [Rep] at r
  obtain ⟨vs,h1,h2,rfl⟩:=r
  simp [Value.oneCell']
 | .agg fs,_,r=>by simp only [Rep] at r; exact yd.one r
 | .sl _ _ xs,_,r=>by
  simp only [Rep] at r
  obtain ⟨p,c,rfl,_⟩:=r
  simp [Value.oneCell']
 | .sptr x,_,r=>by
  simp only [Rep] at r
  obtain ⟨b,o,l,rfl,_⟩:=r
  simp [Value.oneCell']
 | .dop q,_,r=>by
  simp only [Rep] at r
  obtain ⟨v,rfl,g⟩:=r
  intro u hu
  rw [List.mem_singleton.1 hu]
  exact q.one g
 | .tup _,_,r=>by simp only [Rep] at r
 | .osl _ _ _,_,r=>by simp only [Rep] at r
 | .box _,_,r=>by simp only [Rep] at r
 | .dead _,_,r=>by simp only [Rep] at r
 | .opq _,_,r=>by simp only [Rep] at r
theorem yd.one:∀ {as_:List A} {cs:List Value},yd S as_ cs → ∀ u ∈ cs,u.oneCell'=true
 | [],_,r=>by simp only [yd] at r; simp [r]
 | a :: as_,_,r=>by
  simp only [yd] at r
  obtain ⟨c1,c2,rfl,r1,r2⟩:=r
  intro u hu
  rcases List.mem_append.1 hu with h | h
  ·exact Rep.one r1 u h
  ·exact yd.one r2 u h
end
variable {h:Array Obj}
mutual
theorem zJ.len:∀ {a:A} {cs:List Value} {F:List Nat},zJ S h a cs F → cs.length=a.size
 | .osl _ _ _,_,_,r=>by
  simp only [zJ] at r
  obtain ⟨p,c,e,_⟩:=r
  simp [e,A.size]
 | .box _,_,_,r=>by
  simp only [zJ] at r
  obtain ⟨b,ty,l,F',e,_⟩:=r
  simp [e,A.size]
 | .agg fs,_,_,r=>by simp only [zJ] at r; simp only [A.size]; exact zM.len r
 | .dead _,_,_,r=>by simp only [zJ] at r; simp [r.1,A.size]
 | .opq _,_,_,r=>by simp only [zJ] at r; obtain ⟨v,rfl,_⟩:=r; rfl
 | .atom _,_,_,r=>by simp only [zJ] at r; exact r.1.len
 | .fn _ _,_,_,r=>by simp only [zJ] at r; exact r.1.len
 | .sl _ _ _,_,_,r=>by simp only [zJ] at r; exact r.1.len
 | .sptr _,_,_,r=>by simp only [zJ] at r; exact r.1.len
 | .dop _,_,_,r=>by simp only [zJ] at r; exact r.1.len
 | .tup _,_,_,r=>by simp only [zJ] at r
theorem zM.len:∀ {as_:List A} {cs:List Value} {F:List Nat},zM S h as_ cs F → cs.length=A.sizes as_
 | [],_,_,r=>by simp only [zM] at r; simp [r.1,A.sizes]
 | a :: as_,_,_,r=>by
  simp only [zM] at r
  obtain ⟨c1,c2,F1,F2,e,_,r1,r2⟩:=r
  simp [e,A.sizes,zJ.len r1,zM.len r2]
end
mutual
theorem Rep.plain:∀ {a:A} {cs:List Value},Rep S a cs → a.plain=true
 | .atom _,_,_=>rfl
 | .fn _ _,_,_=>rfl
 | .agg fs,_,r=>by simp only [Rep] at r; simp only [A.plain]; exact yd.plain r
 | .sl _ _ _,_,_=>rfl
 | .sptr _,_,_=>rfl
 | .dop _,_,_=>rfl
 | .tup _,_,_=>rfl
 | .osl _ _ _,_,_=>rfl
 | .box _,_,_=>rfl
 | .dead _,_,_=>rfl
 | .opq _,_,r=>by simp only [Rep] at r
theorem yd.plain:∀ {as_:List A} {cs:List Value},yd S as_ cs → A.plains as_=true
 | [],_,_=>rfl
 | a :: as_,_,r=>by
  simp only [yd] at r
  obtain ⟨c1,c2,_,r1,r2⟩:=r
  simp only [A.plains,Rep.plain r1,yd.plain r2,Bool.and_self]
end
mutual
theorem zJ.one:∀ {a:A} {cs:List Value} {F:List Nat},zJ S h a cs F → ∀ u ∈ cs,zgF u=true ∧ (a.plain=true → u.oneCell'=true)
 | .osl _ _ _,_,_,r=>by
  simp only [zJ] at r
  obtain ⟨p,c,rfl,_⟩:=r
  simp [Value.oneCell',zgF]
 | .box _,_,_,r=>by
  simp only [zJ] at r
  obtain ⟨b,ty,l,F',rfl,_⟩:=r
  simp [Value.oneCell',zgF]
 | .agg fs,_,_,r=>by simp only [zJ] at r; simp only [A.plain]; exact zM.one r
 | .dead _,_,_,r=>by simp only [zJ] at r; exact fun u hu=>⟨JR (r.2.1 u hu),fun _=>r.2.1 u hu⟩
 | .opq o,_,_,r=>by
  simp only [zJ] at r
  obtain ⟨v,rfl,q⟩:=r
  intro u hu
  simp only [List.mem_cons,List.not_mem_nil,or_false] at hu
  subst hu
  rcases o.one q with g | ⟨g,vs,rfl⟩
  ·exact ⟨JR g,fun _=>g⟩
  ·exact ⟨rfl,fun k=>by simp [A.plain,g] at k⟩
 | .atom _,_,_,r=>by simp only [zJ] at r; exact fun u hu=>⟨JR (r.1.one u hu),fun _=>r.1.one u hu⟩
 | .fn _ _,_,_,r=>by simp only [zJ] at r; exact fun u hu=>⟨JR (r.1.one u hu),fun _=>r.1.one u hu⟩
 | .sl _ _ _,_,_,r=>by simp only [zJ] at r; exact fun u hu=>⟨JR (r.1.one u hu),fun _=>r.1.one u hu⟩
 | .sptr _,_,_,r=>by simp only [zJ] at r; exact fun u hu=>⟨JR (r.1.one u hu),fun _=>r.1.one u hu⟩
 | .dop _,_,_,r=>by simp only [zJ] at r; exact fun u hu=>⟨JR (r.1.one u hu),fun _=>r.1.one u hu⟩
 | .tup _,_,_,r=>by simp only [zJ] at r
theorem zM.one:∀ {as_:List A} {cs:List Value} {F:List Nat},zM S h as_ cs F → ∀ u ∈ cs,zgF u=true ∧ (A.plains as_=true → u.oneCell'=true)
 | [],_,_,r=>by simp only [zM] at r; simp [r.1]
 | a :: as_,_,_,r=>by
  simp only [zM] at r
  obtain ⟨c1,c2,F1,F2,rfl,_,r1,r2⟩:=r
  intro u hu
  simp only [A.plains,Bool.and_eq_true]
  rcases List.mem_append.1 hu with h | h
  ·exact ⟨(zJ.one r1 u h).1,fun k=>(zJ.one r1 u h).2 k.1⟩
  ·exact ⟨(zM.one r2 u h).1,fun k=>(zM.one r2 u h).2 k.2⟩
end
variable {cs:List Value}{F:List Nat}
theorem zJ.na {a:A}   (r:zJ S h a cs F):∀ u ∈ cs,zgF u=true:=fun u hu=>(r.one u hu).1
theorem zJ.one1 {a:A}   (r:zJ S h a cs F) (hp:a.plain=true):∀ u ∈ cs,u.oneCell'=true:=fun u hu=>(r.one u hu).2 hp
mutual
theorem zJ.frame {S S':zl} {h h':Array Obj} (hS:∀ b o v,S b o=some v → S' b o=some v):∀ {a:A} {cs:List Value} {F:List Nat},zJ S h a cs F →
  (∀ k ∈ F,h'[k]?=h[k]? ∧ ∀ o,S' k o=none) → zJ S' h' a cs F
 | .osl _ _ _,_,_,r,hF=>by
  simp only [zJ] at r ⊢
  obtain ⟨p,c,e,h1,h2,h3,h4,h5⟩:=r
  refine ⟨p,c,e,h1,h2,h3,h4,h5.imp id ?_⟩
  rintro ⟨b,arr,ty,l,F',e1,e2,e3,e4,e5,rfl,e7⟩
  exact ⟨b,arr,ty,l,F',e1,by rw [(hF b (by simp)).1]; exact e2,e3,e4,zM.frame hS e5 (fun k hk=>hF k (by simp [hk])),rfl,(hF b (by simp)).2⟩
 | .box _,_,_,r,hF=>by
  simp only [zJ] at r ⊢
  obtain ⟨b,ty,l,F',e,e1,e2,rfl,e4⟩:=r
  exact ⟨b,ty,l,F',e,by rw [(hF b (by simp)).1]; exact e1,zJ.frame hS e2 (fun k hk=>hF k (by simp [hk])),rfl,(hF b (by simp)).2⟩
 | .agg fs,_,_,r,hF=>by simp only [zJ] at r ⊢; exact zM.frame hS r hF
 | .dead _,_,_,r,_=>by simpa only [zJ] using r
 | .opq o,_,_,r,hF=>by
  simp only [zJ] at r ⊢
  obtain ⟨v,e,q⟩:=r
  exact ⟨v,e,o.frame hS hF q⟩
 | .atom _,_,_,r,_=>by simp only [zJ] at r ⊢; exact ⟨r.1.mono hS,r.2⟩
 | .fn _ _,_,_,r,_=>by simp only [zJ] at r ⊢; exact ⟨r.1.mono hS,r.2⟩
 | .sl _ _ _,_,_,r,_=>by simp only [zJ] at r ⊢; exact ⟨r.1.mono hS,r.2⟩
 | .sptr _,_,_,r,_=>by simp only [zJ] at r ⊢; exact ⟨r.1.mono hS,r.2⟩
 | .dop _,_,_,r,_=>by simp only [zJ] at r ⊢; exact ⟨r.1.mono hS,r.2⟩
 | .tup _,_,_,r,_=>by simp only [zJ] at r
theorem zM.frame {S S':zl} {h h':Array Obj} (hS:∀ b o v,S b o=some v → S' b o=some v):∀ {as_:List A} {cs:List Value} {F:List Nat},zM S h as_ cs F →
  (∀ k ∈ F,h'[k]?=h[k]? ∧ ∀ o,S' k o=none) → zM S' h' as_ cs F
 | [],_,_,r,_=>by simpa only [zM] using r
 | a :: as_,_,_,r,hF=>by
  simp only [zM] at r ⊢
  obtain ⟨c1,c2,F1,F2,rfl,rfl,r1,r2⟩:=r
  exact ⟨c1,c2,F1,F2,rfl,rfl,zJ.frame hS r1 (fun k hk=>hF k (by simp [hk])),zM.frame hS r2 (fun k hk=>hF k (by simp [hk]))⟩
end
mutual
theorem zJ.own:∀ {a:A} {cs:List Value} {F:List Nat},zJ S h a cs F → ∀ k ∈ F,k < h.size ∧ (∀ o,S k o=none) ∧ True
 | .osl _ _ _,_,_,r=>by
  simp only [zJ] at r
  obtain ⟨p,c,e,h1,h2,h3,h4,h5⟩:=r
  rcases h5 with ⟨_,_,_,rfl⟩ | ⟨b,arr,ty,l,F',e1,e2,e3,e4,e5,rfl,e7⟩
  ·simp
  ·intro k hk
   rcases List.mem_cons.1 hk with rfl | hk
   ·exact ⟨(Array.getElem?_eq_some_iff.1 e2).1,e7,trivial⟩
   ·exact zM.own e5 k hk
 | .box _,_,_,r=>by
  simp only [zJ] at r
  obtain ⟨b,ty,l,F',e,e1,e2,rfl,e4⟩:=r
  intro k hk
  rcases List.mem_cons.1 hk with rfl | hk
  ·exact ⟨(Array.getElem?_eq_some_iff.1 e1).1,e4,trivial⟩
  ·exact zJ.own e2 k hk
 | .agg fs,_,_,r=>by simp only [zJ] at r; exact zM.own r
 | .dead _,_,_,r=>by simp only [zJ] at r; simp [r.2.2]
 | .opq o,_,_,r=>by
  simp only [zJ] at r
  obtain ⟨v,rfl,q⟩:=r
  intro k hk
  exact ⟨(o.own q k hk).1,(o.own q k hk).2,trivial⟩
 | .atom _,_,_,r=>by simp only [zJ] at r; simp [r.2]
 | .fn _ _,_,_,r=>by simp only [zJ] at r; simp [r.2]
 | .sl _ _ _,_,_,r=>by simp only [zJ] at r; simp [r.2]
 | .sptr _,_,_,r=>by simp only [zJ] at r; simp [r.2]
 | .dop _,_,_,r=>by simp only [zJ] at r; simp [r.2]
 | .tup _,_,_,r=>by simp only [zJ] at r
theorem zM.own:∀ {as_:List A} {cs:List Value} {F:List Nat},zM S h as_ cs F → ∀ k ∈ F,k < h.size ∧ (∀ o,S k o=none) ∧ True
 | [],_,_,r=>by simp only [zM] at r; simp [r.2]
 | a :: as_,_,_,r=>by
  simp only [zM] at r
  obtain ⟨c1,c2,F1,F2,rfl,rfl,r1,r2⟩:=r
  intro k hk
  rcases List.mem_append.1 hk with h | h
  ·exact zJ.own r1 k h
  ·exact zM.own r2 k h
end
mutual
theorem zJ.isD:∀ {a:A} {cs:List Value} {F:List Nat},a.isD=true → zJ S h a cs F → Rep S a cs ∧ F=[]
 | .agg fs,_,_,d,r=>by
  simp only [A.isD] at d
  simp only [zJ] at r
  simp only [Rep]
  exact zM.areD d r
 | .atom _,_,_,_,r=>by simpa only [zJ] using r
 | .fn _ _,_,_,_,r=>by simpa only [zJ] using r
 | .sl _ _ _,_,_,_,r=>by simpa only [zJ] using r
 | .sptr _,_,_,_,r=>by simpa only [zJ] using r
 | .dop _,_,_,_,r=>by simpa only [zJ] using r
 | .tup _,_,_,d,_=>by simp [A.isD] at d
 | .osl _ _ _,_,_,d,_=>by simp [A.isD] at d
 | .box _,_,_,d,_=>by simp [A.isD] at d
 | .dead _,_,_,d,_=>by simp [A.isD] at d
 | .opq _,_,_,d,_=>by simp [A.isD] at d
theorem zM.areD:∀ {as_:List A} {cs:List Value} {F:List Nat},A.areD as_=true → zM S h as_ cs F → yd S as_ cs ∧ F=[]
 | [],_,_,_,r=>by simpa only [zM,yd] using r
 | a :: as_,_,_,d,r=>by
  simp only [A.areD,Bool.and_eq_true] at d
  simp only [zM] at r
  obtain ⟨c1,c2,F1,F2,rfl,rfl,r1,r2⟩:=r
  obtain ⟨q1,rfl⟩:=zJ.isD d.1 r1
  obtain ⟨q2,rfl⟩:=zM.areD d.2 r2
  exact ⟨by simp only [yd]; exact ⟨c1,c2,rfl,q1,q2⟩,rfl⟩
end
mutual
theorem Rep.conc (h:Array Obj):∀ {a:A} {cs:List Value},Rep S a cs → zJ S h a cs []
 | .agg fs,_,r=>by simp only [Rep] at r; simp only [zJ]; exact yd.concs h r
 | .atom _,_,r=>by simp only [zJ]; exact ⟨r,trivial⟩
 | .fn _ _,_,r=>by simp only [zJ]; exact ⟨r,trivial⟩
 | .sl _ _ _,_,r=>by simp only [zJ]; exact ⟨r,trivial⟩
 | .sptr _,_,r=>by simp only [zJ]; exact ⟨r,trivial⟩
 | .dop _,_,r=>by simp only [zJ]; exact ⟨r,trivial⟩
 | .tup _,_,r=>by simp only [Rep] at r
 | .osl _ _ _,_,r=>by simp only [Rep] at r
 | .box _,_,r=>by simp only [Rep] at r
 | .dead _,_,r=>by simp only [Rep] at r
 | .opq _,_,r=>by simp only [Rep] at r
theorem yd.concs (h:Array Obj):∀ {as_:List A} {cs:List Value},yd S as_ cs → zM S h as_ cs []
 | [],_,r=>by simp only [yd] at r; simp only [zM]; exact ⟨r,trivial⟩
 | a :: as_,_,r=>by
  simp only [yd] at r
  obtain ⟨c1,c2,rfl,r1,r2⟩:=r
  simp only [zM]
  exact ⟨c1,c2,[],[],rfl,rfl,Rep.conc h r1,yd.concs h r2⟩
end
theorem A.shuts_eq (as_:List A):A.shuts as_=as_.map A.shut:=by
 induction as_ with
 | nil=>rfl
 | cons a as_ ih=>simp [A.shuts,ih]
theorem A.sizes_eq (as_:List A):A.sizes as_=(as_.map A.size).sum:=by
 induction as_ with
 | nil=>rfl
 | cons a as_ ih=>simp [A.sizes,ih]
variable {sz:Nat}
theorem A.sizes_const {as_:List A}  (h:∀ x ∈ as_,x.size=sz):A.sizes as_=as_.length * sz:=by
 induction as_ with
 | nil=>simp [A.sizes]
 | cons a as_ ih=>simp only [A.sizes,h a (by simp),ih (fun x hx=>h x (by simp [hx])),List.length_cons,Nat.add_mul,Nat.one_mul]; omega
mutual
theorem A.size_shut:∀ (a:A),a.shut.size=a.size
 | .agg fs=>by simp only [A.shut,A.size]; exact A.sizes_shuts fs
 | .osl _ _ _=>rfl
 | .box _=>rfl
 | .atom _=>rfl
 | .fn _ _=>rfl
 | .sl _ _ _=>rfl
 | .sptr _=>rfl
 | .dop _=>rfl
 | .tup _=>rfl
 | .dead _=>rfl
 | .opq _=>rfl
theorem A.sizes_shuts:∀ (as_:List A),A.sizes (A.shuts as_)=A.sizes as_
 | []=>rfl
 | a :: as_=>by simp only [A.shuts,A.sizes,A.size_shut a,A.sizes_shuts as_]
end
mutual
theorem zJ.shut {S S':zl}  (hS:∀ b o v,S b o=some v → S' b o=some v):∀ {a:A} {cs:List Value} {F:List Nat},zJ S h a cs F → a.live=true →
  (∀ k ∈ F,∀ o,S' k o=y5 h k o) → Rep S' a.shut cs
 | .osl sz t es,_,_,r,l,hF=>by
  simp only [zJ] at r
  simp only [A.live] at l
  obtain ⟨p,c,e,h1,h2,h3,h4,h5⟩:=r
  simp only [A.shut,Rep]
  have hlen:(A.shuts es).length=es.length:=by simp [A.shuts_eq]
  rw [hlen]
  refine ⟨p,c,e,h1,h2,?_,?_⟩
  ·intro x hx
   rw [A.shuts_eq] at hx
   obtain ⟨y,hy,rfl⟩:=List.mem_map.1 hx
   rw [A.size_shut]; exact h4 y hy
  ·rcases h5 with ⟨rfl,_⟩ | ⟨b,arr,ty,l',F',e1,e2,e3,e4,e5,rfl,e7⟩
   ·exact .inl rfl
   ·refine .inr ⟨b,0,l',e1,zM.shut hS e5 l (fun k hk=>hF k (by simp [hk])),?_⟩
    intro j v hj
    rw [hF b (by simp),y5,e2]
    simp only [Nat.zero_add]
    rw [← e4,List.getElem?_take] at hj
    split at hj
    ·simpa using hj
    ·cases hj
 | .box x,_,_,r,l,hF=>by
  simp only [zJ] at r
  simp only [A.live] at l
  obtain ⟨b,ty,l',F',e,e1,e2,rfl,e4⟩:=r
  simp only [A.shut,Rep]
  refine ⟨b,0,l',e,zJ.shut hS e2 l (fun k hk=>hF k (by simp [hk])),?_⟩
  intro j v hj
  rw [hF b (by simp),y5,e1]
  simpa using hj
 | .agg fs,_,_,r,l,hF=>by
  simp only [zJ] at r
  simp only [A.live] at l
  simp only [A.shut,Rep]
  exact zM.shut hS r l hF
 | .dead _,_,_,_,l,_=>by simp [A.live] at l
 | .opq _,_,_,_,l,_=>by simp [A.live] at l
 | .atom _,_,_,r,_,_=>by simp only [zJ] at r; exact r.1.mono hS
 | .fn _ _,_,_,r,_,_=>by simp only [zJ] at r; exact r.1.mono hS
 | .sl _ _ _,_,_,r,_,_=>by simp only [zJ] at r; exact r.1.mono hS
 | .sptr _,_,_,r,_,_=>by simp only [zJ] at r; exact r.1.mono hS
 | .dop _,_,_,r,_,_=>by simp only [zJ] at r; exact r.1.mono hS
 | .tup _,_,_,r,_,_=>by simp only [zJ] at r
theorem zM.shut {S S':zl}  (hS:∀ b o v,S b o=some v → S' b o=some v):∀ {as_:List A} {cs:List Value} {F:List Nat},zM S h as_ cs F → A.lives as_=true →
  (∀ k ∈ F,∀ o,S' k o=y5 h k o) → yd S' (A.shuts as_) cs
 | [],_,_,r,_,_=>by simp only [zM] at r; simp only [A.shuts,yd]; exact r.1
 | a :: as_,_,_,r,l,hF=>by
  simp only [zM] at r
  simp only [A.lives,Bool.and_eq_true] at l
  obtain ⟨c1,c2,F1,F2,rfl,rfl,r1,r2⟩:=r
  simp only [A.shuts,yd]
  exact ⟨c1,c2,rfl,zJ.shut hS r1 l.1 (fun k hk=>hF k (by simp [hk])),zM.shut hS r2 l.2 (fun k hk=>hF k (by simp [hk]))⟩
end
def zfS (_:Nat):Option A:=none
def we:List Xp → A → Option A
 | [],x=>some x
 | .deref :: p,.box x=>we p x
 | .fld i :: p,.agg fs=>match fs[i]? with | some y=>we p y | none=>none
 | .idx i :: p,.osl _ _ es=>match es[i]? with | some y=>we p y | none=>none
 | _,_=>none
def V0:List Xp → A → A → A
 | [],_,z=>z
 | .deref :: p,.box x,z=>.box (V0 p x z)
 | .fld i :: p,.agg fs,z=>.agg (match fs[i]? with | some y=>fs.set i (V0 p y z) | none=>fs)
 | .idx i :: p,.osl sz t es,z=>.osl sz t (match es[i]? with | some y=>es.set i (V0 p y z) | none=>es)
 | _,x,_=>x
def z2l (h:Array Obj):List Xp → A → Nat → Nat → Option (Nat × Nat)
 | [],_,b,o=>some (b,o)
 | .fld i :: p,.agg fs,b,o=>match fs[i]? with | some y=>z2l h p y b (o + A.sizes (fs.take i)) | none=>none
 | .deref :: p,.box x,b,o=>match y5 h b o with | some (.pointer (some a))=>z2l h p x a.block 0 | _=>none
 | .idx i :: p,.osl sz _ es,b,o=>match es[i]?,y5 h b o with | some y,some (.slice (some a) _ _)=>z2l h p y a.block (i * sz) | _,_=>none
 | _,_,_,_=>none
def z4W (arr:Array Value) (o:Nat) (l:List Value):Prop:=∀ j v,l[j]?=some v → arr[o + j]?=some v
def Q9 (arr:Array Value) (o:Nat) (l:List Value):Array Value:=arr.mapIdx fun k v=>(if o ≤ k then l[k - o]? else none).getD v
theorem qX (arr:Array Value) (o:Nat) (l:List Value) (k:Nat):(Q9 arr o l)[k]?=arr[k]?.map fun v=>(if o ≤ k then l[k - o]? else none).getD v:=by
 simp [Q9,Array.getElem?_mapIdx]
@[simp] theorem zkG (arr:Array Value) (o:Nat) (l:List Value):(Q9 arr o l).size=arr.size:=by simp [Q9]
variable {arr:Array Value}
theorem Wz {o:Nat}  (hs:z4W arr o l):Q9 arr o l=arr:=by
 apply Array.ext_getElem?
 intro k
 rw [qX]
 cases ha:arr[k]? with
 | none=>rfl
 | some v=>
  simp only [Option.map_some]
  by_cases hk:o ≤ k
  ·simp only [hk,if_true]
   cases hl:l[k - o]? with
   | none=>rfl
   | some u=>
    have:=hs _ _ hl
    rw [show o + (k - o)=k from by omega,ha] at this
    simpa using this.symm
  ·simp [hk]
variable {c1 ci c2:List Value}
theorem z4W.mid {o:Nat}  (hs:z4W arr o (c1 ++ ci ++ c2)):z4W arr (o + c1.length) ci:=by
 intro j v hj
 have hlt:=(List.getElem?_eq_some_iff.1 hj).1
 have:=hs (c1.length + j) v (by rw [List.append_assoc,List.getElem?_append_right (by omega),Nat.add_sub_cancel_left,List.getElem?_append_left hlt]; exact hj)
 rwa [← Nat.add_assoc] at this
theorem z3g {o:Nat} {c1 ci ci' c2:List Value} (hs:z4W arr o (c1 ++ ci ++ c2)) (hl:ci'.length=ci.length) :
  Q9 arr o (c1 ++ ci' ++ c2)=Q9 arr (o + c1.length) ci':=by
 apply Array.ext_getElem?
 intro k
 rw [qX,qX]
 cases ha:arr[k]? with
 | none=>rfl
 | some v=>
  simp only [Option.map_some,Option.some.injEq]
  by_cases h1:o ≤ k
  ·simp only [h1,if_true]
   by_cases h2:k - o < c1.length
   ·rw [if_neg (by omega),List.append_assoc,List.getElem?_append_left h2]
    have:=hs (k - o) c1[k - o] (by rw [List.append_assoc,List.getElem?_append_left h2]; exact List.getElem?_eq_getElem h2)
    rw [show o + (k - o)=k from by omega,ha] at this
    rw [List.getElem?_eq_getElem h2]
    simpa using this.symm
   ·rw [if_pos (by omega),List.append_assoc,List.getElem?_append_right (by omega)]
    by_cases h3:k - o - c1.length < ci'.length
    ·rw [List.getElem?_append_left h3,show k - (o + c1.length)=k - o - c1.length from by omega]
    ·rw [List.getElem?_append_right (by omega),List.getElem?_eq_none (l:=ci') (i:=k - (o + c1.length)) (by omega)]
     simp only [Option.getD_none]
     cases h4:c2[k - o - c1.length - ci'.length]? with
     | none=>rfl
     | some u=>
      have:=hs (k - o) u (by rw [List.append_assoc,List.getElem?_append_right (by omega),List.getElem?_append_right (by omega),← hl]; exact h4)
      rw [show o + (k - o)=k from by omega,ha] at this
      simpa using this.symm
  ·rw [if_neg h1,if_neg (by omega)]
theorem zM.split:∀ {as_:List A} {cs:List Value} {F:List Nat} {i:Nat} {x:A},zM S h as_ cs F → as_[i]?=some x →
  ∃ c1 ci c2 F1 Fi F2,cs=c1 ++ ci ++ c2 ∧ F=F1 ++ Fi ++ F2 ∧ c1.length=A.sizes (as_.take i) ∧ zJ S h x ci Fi ∧
   ∀ (S':zl) (h':Array Obj) (z:A) (ci':List Value) (Fi':List Nat),(∀ b o v,S b o=some v → S' b o=some v) → (∀ k,k ∈ F1 ∨ k ∈ F2 → h'[k]?=h[k]? ∧ ∀ o,S' k o=none) →
    zJ S' h' z ci' Fi' → zM S' h' (as_.set i z) (c1 ++ ci' ++ c2) (F1 ++ Fi' ++ F2)
 | [],_,_,_,_,_,e=>by simp at e
 | a :: as_,cs,F,0,x,r,e=>by
  simp at e
  subst e
  simp only [zM] at r
  obtain ⟨c1,c2,F1,F2,rfl,rfl,r1,r2⟩:=r
  refine ⟨[],c1,c2,[],F1,F2,rfl,rfl,rfl,r1,?_⟩
  intro S' h' z ci' Fi' hS hk hz
  simp only [List.set_cons_zero,List.nil_append,zM]
  exact ⟨ci',c2,Fi',F2,rfl,rfl,hz,zM.frame hS r2 (fun k hk'=>hk k (.inr hk'))⟩
 | a :: as_,cs,F,i + 1,x,r,e=>by
  simp at e
  simp only [zM] at r
  obtain ⟨c1,c2,F1,F2,rfl,rfl,r1,r2⟩:=r
  obtain ⟨d1,di,d2,G1,Gi,G2,rfl,rfl,hl,hx,hup⟩:=zM.split r2 e
  refine ⟨c1 ++ d1,di,d2,F1 ++ G1,Gi,G2,by simp,by simp,by simp [A.sizes,hl,r1.len],hx,?_⟩
  intro S' h' z ci' Fi' hS hk hz
  simp only [List.set_cons_succ,zM]
  refine ⟨c1,d1 ++ ci' ++ d2,F1,G1 ++ Fi' ++ G2,by simp,by simp,zJ.frame hS r1 (fun k hk'=>hk k (.inl (by simp [hk']))),hup S' h' z ci' Fi' hS (fun k hk'=>hk k ?_) hz⟩
  rcases hk' with h | h
  ·exact .inl (by simp [h])
  ·exact .inr h
theorem zcR {S:zl} {h:Array Obj}:∀ (p:List Xp) {x0:A} {cs0:List Value} {F0:List Nat} {b0 o0:Nat} {arr0:Array Value} {ty0:TypeId},
  zJ S h x0 cs0 F0 → F0.Nodup → b0 ∉ F0 → h[b0]?=some (.cells arr0 ty0 (0,0)) → z4W arr0 o0 cs0 → ∀ {y:A},we p x0=some y →
  ∃ b o arr ty csy Fy,z2l h p x0 b0 o0=some (b,o) ∧ h[b]?=some (.cells arr ty (0,0)) ∧ z4W arr o csy ∧ zJ S h y csy Fy ∧ b ∉ Fy ∧ (b=b0 ∨ b ∈ F0) ∧ (∀ k ∈ Fy,k ∈ F0) ∧ Fy.Nodup ∧
   ∀ (S':zl) (h':Array Obj) (z:A) (csz:List Value) (Fz:List Nat),(∀ b o v,S b o=some v → S' b o=some v) → csz.length=csy.length → zJ S' h' z csz Fz → Fz.Nodup →
    (∀ k ∈ F0,k ∉ Fy → ∀ o,S' k o=none) → (∀ k,k=b0 ∨ k ∈ F0 → k ∉ Fy → k ≠ b → h'[k]?=h[k]?) → h'[b]?=some (.cells (Q9 arr o csz) ty (0,0)) →
    (∀ k ∈ Fz,k ∈ F0 → k ∈ Fy) →
    ∃ cs0' F0',zJ S' h' (V0 p x0 z) cs0' F0' ∧ cs0'.length=cs0.length ∧ F0'.Nodup ∧ (∀ k,k ∈ F0' ↔ (k ∈ F0 ∧ k ∉ Fy) ∨ k ∈ Fz) ∧ h'[b0]?=some (.cells (Q9 arr0 o0 cs0') ty0 (0,0))
 | [],x0,cs0,F0,b0,o0,arr0,ty0,hx,hn,hb,hh,hs,y,e=>by
  simp only [we,Option.some.injEq] at e
  subst e
  refine ⟨b0,o0,arr0,ty0,cs0,F0,rfl,hh,hs,hx,hb,.inl rfl,fun _ h=>h,hn,?_⟩
  intro S' h' z csz Fz _ hl hz hnz _ _ hb' _
  exact ⟨csz,Fz,by simpa only [V0] using hz,hl,hnz,fun k=>⟨fun h=>.inr h,fun h=>h.elim (fun h=>absurd h.1 h.2) id⟩,hb'⟩
 | .fld i :: p,.agg fs,cs0,F0,b0,o0,arr0,ty0,hx,hn,hb,hh,hs,y,e=>by
  simp only [we] at e
  cases hf:fs[i]? with
  | none=>simp [hf] at e
  | some x1=>
   simp only [hf] at e
   simp only [zJ] at hx
   obtain ⟨c1,ci,c2,F1,Fi,F2,rfl,rfl,hl1,hxi,hup⟩:=zM.split hx hf
   have hn':=hn
   rw [List.append_assoc,List.nodup_append] at hn'
   obtain ⟨n1,n2,n3⟩:=hn'
   rw [List.nodup_append] at n2
   obtain ⟨n4,n5,n6⟩:=n2
   have hbi:b0 ∉ Fi:=fun h=>hb (by simp [h])
   obtain ⟨b,o,arr,ty,csy,Fy,g1,g2,g3,g4,g5,g6,g7,g8,g9⟩:=zcR p hxi n4 hbi hh hs.mid e
   refine ⟨b,o,arr,ty,csy,Fy,?_,g2,g3,g4,g5,g6.imp id (fun h=>by simp [h]),fun k hk=>by simp [g7 k hk],g8,?_⟩
   ·simp only [z2l,hf]; rw [← hl1]; exact g1
   ·intro S' h' z csz Fz hS hl hz hnz hfree hh' hb' hsep
    have hsub:∀ k ∈ Fi,k ∈ F1 ++ Fi ++ F2:=fun k hk=>by simp [hk]
    obtain ⟨ci',Fi',q1,q2,q3,q4,q5⟩:=g9 S' h' z csz Fz hS hl hz hnz (fun k hk=>hfree k (hsub k hk)) (fun k hk=>hh' k (hk.imp id (hsub k))) hb' (fun k hk hk'=>hsep k hk (hsub k hk'))
    have hoth:∀ k,k ∈ F1 ∨ k ∈ F2 → k ∉ Fy ∧ k ≠ b ∧ k ∈ F1 ++ Fi ++ F2:=by
     intro k hk
     have hki:k ∉ Fi:=by
      rcases hk with hk | hk
      ·exact fun h=>n3 k hk k (by simp [h]) rfl
      ·exact fun h=>n6 k h k hk rfl
     refine ⟨fun h=>hki (g7 k h),?_,by rcases hk with hk | hk <;> simp [hk]⟩
     rintro rfl
     rcases g6 with rfl | g6
     ·exact hb (by rcases hk with hk | hk <;> simp [hk])
     ·exact hki g6
    refine ⟨c1 ++ ci' ++ c2,F1 ++ Fi' ++ F2,?_,by simp [q2],?_,?_,?_⟩
    ·simp only [V0,hf,zJ]
     exact hup S' h' _ ci' Fi' hS (fun k hk=>⟨hh' k (.inr (hoth k hk).2.2) (hoth k hk).1 (hoth k hk).2.1,hfree k (hoth k hk).2.2 (hoth k hk).1⟩) q1
    ·rw [List.append_assoc,List.nodup_append]
     refine ⟨n1,?_,?_⟩
     ·rw [List.nodup_append]
      refine ⟨q3,n5,?_⟩
      rintro a ha b' hb'' rfl
      rcases (q4 a).1 ha with h | h
      ·exact n6 a h.1 a hb'' rfl
      ·exact (hoth a (.inr hb'')).1 (hsep a h (hoth a (.inr hb'')).2.2)
     ·rintro a ha b' hb'' rfl
      rcases List.mem_append.1 hb'' with h | h
      ·rcases (q4 a).1 h with h | h
       ·exact n3 a ha a (by simp [h.1]) rfl
       ·exact (hoth a (.inl ha)).1 (hsep a h (hoth a (.inl ha)).2.2)
      ·exact n3 a ha a (by simp [h]) rfl
    ·intro k
     simp only [List.mem_append,q4 k]
     constructor
     ·rintro ((h | h) | h)
      ·exact .inl ⟨.inl (.inl h),(hoth k (.inl h)).1⟩
      ·rcases h with h | h
       ·exact .inl ⟨.inl (.inr h.1),h.2⟩
       ·exact .inr h
      ·exact .inl ⟨.inr h,(hoth k (.inr h)).1⟩
     ·rintro (⟨(h | h) | h,h'⟩ | h)
      ·exact .inl (.inl h)
      ·exact .inl (.inr (.inl ⟨h,h'⟩))
      ·exact .inr h
      ·exact .inl (.inr (.inr h))
    ·rw [z3g hs q2]
     exact q5
 | .deref :: p,.box x,cs0,F0,b0,o0,arr0,ty0,hx,hn,hb,hh,hs,y,e=>by
  simp only [we] at e
  simp only [zJ] at hx
  obtain ⟨b1,ty1,l,F',rfl,e1,e2,rfl,e4⟩:=hx
  have hn':=List.nodup_cons.1 hn
  have hsl:z4W l.toArray 0 l:=fun j v hj=>by simpa using hj
  obtain ⟨b,o,arr,ty,csy,Fy,g1,g2,g3,g4,g5,g6,g7,g8,g9⟩:=zcR p e2 hn'.2 hn'.1 e1 hsl e
  have hcell:y5 h b0 o0=some (.pointer (some ⟨b1,0,none⟩)):=by
   have:=hs 0 _ rfl
   simpa [y5,hh] using this
  have hb1:b ∈ b1 :: F':=by rcases g6 with rfl | g6 <;> simp [*]
  refine ⟨b,o,arr,ty,csy,Fy,by simp only [z2l,hcell]; exact g1,g2,g3,g4,g5,.inr hb1,fun k hk=>by simp [g7 k hk],g8,?_⟩
  intro S' h' z csz Fz hS hl hz hnz hfree hh' hb' hsep
  obtain ⟨cs',F0',q1,q2,q3,q4,q5⟩:=g9 S' h' z csz Fz hS hl hz hnz (fun k hk=>hfree k (by simp [hk])) (fun k hk=>hh' k (.inr (by simpa using hk))) hb' (fun k hk hk'=>hsep k hk (by simp [hk']))
  have hb1y:b1 ∉ Fy:=fun h=>hn'.1 (g7 _ h)
  have hov:Q9 l.toArray 0 cs'=cs'.toArray:=by
   apply Array.ext_getElem?
   intro k
   rw [qX]
   simp only [Nat.zero_le,if_true,Nat.sub_zero,List.getElem?_toArray]
   by_cases hk:k < l.length
   ·rw [List.getElem?_eq_getElem hk,List.getElem?_eq_getElem (by omega)]; simp
   ·rw [List.getElem?_eq_none (by omega),List.getElem?_eq_none (by omega)]; rfl
  refine ⟨[.pointer (some ⟨b1,0,none⟩)],b1 :: F0',?_,rfl,?_,?_,?_⟩
  ·simp only [V0,zJ]
   exact ⟨b1,ty1,cs',F0',rfl,by rw [q5,hov],q1,rfl,hfree b1 (by simp) hb1y⟩
  ·refine List.nodup_cons.2 ⟨fun h=>?_,q3⟩
   rcases (q4 b1).1 h with h | h
   ·exact hn'.1 h.1
   ·exact hb1y (hsep b1 h (by simp))
  ·intro k
   simp only [List.mem_cons,q4 k]
   constructor
   ·rintro (rfl | h | h)
    ·exact .inl ⟨.inl rfl,hb1y⟩
    ·exact .inl ⟨.inr h.1,h.2⟩
    ·exact .inr h
   ·rintro (⟨rfl | h,h'⟩ | h)
    ·exact .inl rfl
    ·exact .inr (.inl ⟨h,h'⟩)
    ·exact .inr (.inr h)
  ·rw [Wz hs,hh' b0 (.inl rfl) (fun h=>hb (by simp [g7 _ h])) (fun h=>hb (h ▸ hb1)),hh]
 | .idx i :: p,.osl sz t es,cs0,F0,b0,o0,arr0,ty0,hx,hn,hb,hh,hs,y,e=>by
  simp only [we] at e
  cases hf:es[i]? with
  | none=>simp [hf] at e
  | some x1=>
   simp only [hf] at e
   simp only [zJ] at hx
   obtain ⟨pp,c,rfl,t1,t2,t3,t4,t5⟩:=hx
   rcases t5 with ⟨rfl,_⟩ | ⟨b1,arr1,ty1,l,F',rfl,e1,e2,e3,e4,rfl,e6⟩
   ·simp at hf
   have hn':=List.nodup_cons.1 hn
   obtain ⟨c1,ci,c2,F1,Fi,F2,hl0,rfl,hl1,hxi,hup⟩:=zM.split e4 hf
   have hsl:z4W arr1 0 l:=by
    intro j v hj
    rw [← e3,List.getElem?_take] at hj
    split at hj
    ·simpa using hj
    ·cases hj
   have hit:c1.length=i * sz:=by
    rw [hl1,A.sizes_const (sz:=sz) (fun x hx=>t4 x (List.mem_of_mem_take hx)),List.length_take]
    have:=(List.getElem?_eq_some_iff.1 hf).1
    rw [Nat.min_eq_left (by omega)]
   have hn2:=hn'.2
   rw [List.append_assoc,List.nodup_append] at hn2
   obtain ⟨n1,n2,n3⟩:=hn2
   rw [List.nodup_append] at n2
   obtain ⟨n4,n5,n6⟩:=n2
   have hbi:b1 ∉ Fi:=fun h=>hn'.1 (by simp [h])
   have hsm:z4W arr1 (i * sz) ci:=by
    have:=(hl0 ▸ hsl:z4W arr1 0 (c1 ++ ci ++ c2)).mid
    rwa [Nat.zero_add,hit] at this
   obtain ⟨b,o,arr,ty,csy,Fy,g1,g2,g3,g4,g5,g6,g7,g8,g9⟩:=zcR p hxi n4 hbi e1 hsm e
   have hcell:y5 h b0 o0=some (.slice (some ⟨b1,0,none⟩) es.length c):=by
    have:=hs 0 _ rfl
    simpa [y5,hh] using this
   have hb1:b ∈ b1 :: (F1 ++ Fi ++ F2):=by rcases g6 with rfl | g6 <;> simp [*]
   refine ⟨b,o,arr,ty,csy,Fy,by simp only [z2l,hf,hcell]; exact g1,g2,g3,g4,g5,.inr hb1,fun k hk=>by simp [g7 k hk],g8,?_⟩
   intro S' h' z csz Fz hS hl hz hnz hfree hh' hb' hsep
   have hsub:∀ k ∈ Fi,k ∈ b1 :: (F1 ++ Fi ++ F2):=fun k hk=>by simp [hk]
   have hsub1:∀ k,k=b1 ∨ k ∈ Fi → k ∈ b1 :: (F1 ++ Fi ++ F2):=fun k hk=>by rcases hk with rfl | hk <;> simp [*]
   obtain ⟨ci',Fi',q1,q2,q3,q4,q5⟩:=g9 S' h' z csz Fz hS hl hz hnz (fun k hk=>hfree k (hsub k hk)) (fun k hk=>hh' k (.inr (hsub1 k hk))) hb' (fun k hk hk'=>hsep k hk (hsub k hk'))
   have hoth:∀ k,k ∈ F1 ∨ k ∈ F2 → k ∉ Fy ∧ k ≠ b ∧ k ∈ b1 :: (F1 ++ Fi ++ F2):=by
    intro k hk
    have hki:k ∉ Fi:=by
     rcases hk with hk | hk
     ·exact fun h=>n3 k hk k (by simp [h]) rfl
     ·exact fun h=>n6 k h k hk rfl
    refine ⟨fun h=>hki (g7 k h),?_,by rcases hk with hk | hk <;> simp [hk]⟩
    rintro rfl
    rcases g6 with rfl | g6
    ·exact hn'.1 (by rcases hk with hk | hk <;> simp [hk])
    ·exact hki g6
   have hb1y:b1 ∉ Fy:=fun h=>hbi (g7 _ h)
   have hes:(es.set i (V0 p x1 z)).length=es.length:=by simp
   have hsz1:(V0 p x1 z).size=sz:=by rw [← q1.len,q2,hxi.len]; exact t4 x1 (List.mem_of_getElem? hf)
   have hlen:l.length=es.length * sz:=by rw [e4.len,A.sizes_const t4]
   refine ⟨[.slice (some ⟨b1,0,none⟩) es.length c],b1 :: (F1 ++ Fi' ++ F2),?_,rfl,?_,?_,?_⟩
   ·simp only [V0,hf,zJ,hes]
    refine ⟨_,c,rfl,t1,t2,t3,?_,.inr ⟨b1,Q9 arr1 (i * sz) ci',ty1,c1 ++ ci' ++ c2,F1 ++ Fi' ++ F2,rfl,q5,by simp [e2],?_,?_,rfl,hfree b1 (by simp) hb1y⟩⟩
    ·intro x hx
     rcases List.mem_or_eq_of_mem_set hx with h | rfl
     ·exact t4 x h
     ·exact hsz1
    ·have hov:Q9 arr1 0 (c1 ++ ci' ++ c2)=Q9 arr1 (i * sz) ci':=by
      have:=z3g (arr:=arr1) (o:=0) (c1:=c1) (ci:=ci) (ci':=ci') (c2:=c2) (hl0 ▸ hsl) q2
      rwa [Nat.zero_add,hit] at this
     rw [← hov]
     have hle:es.length * sz ≤ arr1.size:=Nat.le_trans (Nat.mul_le_mul_right _ t2) e2
     apply List.ext_getElem?
     intro k
     rw [List.getElem?_take]
     have hll:(c1 ++ ci' ++ c2).length=es.length * sz:=by rw [← hlen,hl0]; simp [q2]
     split
     ·rename_i hk
      have hk2:k < (c1 ++ ci' ++ c2).length:=by omega
      rw [Array.getElem?_toList,qX,Array.getElem?_eq_getElem (by omega:k < arr1.size),if_pos (Nat.zero_le _),Nat.sub_zero,List.getElem?_eq_getElem hk2]
      simp
     ·rw [List.getElem?_eq_none (by omega)]
    ·exact hup S' h' _ ci' Fi' hS (fun k hk=>⟨hh' k (.inr (hoth k hk).2.2) (hoth k hk).1 (hoth k hk).2.1,hfree k (hoth k hk).2.2 (hoth k hk).1⟩) q1
   ·refine List.nodup_cons.2 ⟨?_,?_⟩
    ·intro h
     simp only [List.mem_append] at h
     rcases h with (h | h) | h
     ·exact hn'.1 (by simp [h])
     ·rcases (q4 b1).1 h with h | h
      ·exact hbi h.1
      ·exact hb1y (hsep b1 h (by simp))
     ·exact hn'.1 (by simp [h])
    ·rw [List.append_assoc,List.nodup_append]
     refine ⟨n1,?_,?_⟩
     ·rw [List.nodup_append]
      refine ⟨q3,n5,?_⟩
      rintro a ha b' hb'' rfl
      rcases (q4 a).1 ha with h | h
      ·exact n6 a h.1 a hb'' rfl
      ·exact (hoth a (.inr hb'')).1 (hsep a h (hoth a (.inr hb'')).2.2)
     ·rintro a ha b' hb'' rfl
      rcases List.mem_append.1 hb'' with h | h
      ·rcases (q4 a).1 h with h | h
       ·exact n3 a ha a (by simp [h.1]) rfl
       ·exact (hoth a (.inl ha)).1 (hsep a h (hoth a (.inl ha)).2.2)
      ·exact n3 a ha a (by simp [h]) rfl
   ·intro k
    simp only [List.mem_cons,List.mem_append,q4 k]
    constructor
    ·rintro (rfl | (h | h) | h)
     ·exact .inl ⟨.inl rfl,hb1y⟩
     ·exact .inl ⟨.inr (.inl (.inl h)),(hoth k (.inl h)).1⟩
     ·rcases h with h | h
      ·exact .inl ⟨.inr (.inl (.inr h.1)),h.2⟩
      ·exact .inr h
     ·exact .inl ⟨.inr (.inr h),(hoth k (.inr h)).1⟩
    ·rintro (⟨rfl | (h | h) | h,h'⟩ | h)
     ·exact .inl rfl
     ·exact .inr (.inl (.inl h))
     ·exact .inr (.inl (.inr (.inl ⟨h,h'⟩)))
     ·exact .inr (.inr h)
     ·exact .inr (.inl (.inr (.inr h)))
   ·rw [Wz hs,hh' b0 (.inl rfl) (fun h=>hb (by simp [g7 _ h])) (fun h=>hb (h ▸ hb1)),hh]
 | .deref :: _,.atom _,_,_,_,_,_,_,_,_,_,_,_,_,e=>by simp [we] at e
 | .deref :: _,.fn _ _,_,_,_,_,_,_,_,_,_,_,_,_,e=>by simp [we] at e
 | .deref :: _,.agg _,_,_,_,_,_,_,_,_,_,_,_,_,e=>by simp [we] at e
 | .deref :: _,.tup _,_,_,_,_,_,_,_,_,_,_,_,_,e=>by simp [we] at e
 | .deref :: _,.sl _ _ _,_,_,_,_,_,_,_,_,_,_,_,_,e=>by simp [we] at e
 | .deref :: _,.sptr _,_,_,_,_,_,_,_,_,_,_,_,_,e=>by simp [we] at e
 | .deref :: _,.dop _,_,_,_,_,_,_,_,_,_,_,_,_,e=>by simp [we] at e
 | .deref :: _,.osl _ _ _,_,_,_,_,_,_,_,_,_,_,_,_,e=>by simp [we] at e
 | .deref :: _,.dead _,_,_,_,_,_,_,_,_,_,_,_,_,e=>by simp [we] at e
 | .deref :: _,.opq _,_,_,_,_,_,_,_,_,_,_,_,_,e=>by simp [we] at e
 | .fld _ :: _,.atom _,_,_,_,_,_,_,_,_,_,_,_,_,e=>by simp [we] at e
 | .fld _ :: _,.fn _ _,_,_,_,_,_,_,_,_,_,_,_,_,e=>by simp [we] at e
 | .fld _ :: _,.tup _,_,_,_,_,_,_,_,_,_,_,_,_,e=>by simp [we] at e
 | .fld _ :: _,.sl _ _ _,_,_,_,_,_,_,_,_,_,_,_,_,e=>by simp [we] at e
 | .fld _ :: _,.sptr _,_,_,_,_,_,_,_,_,_,_,_,_,e=>by simp [we] at e
 | .fld _ :: _,.dop _,_,_,_,_,_,_,_,_,_,_,_,_,e=>by simp [we] at e
 | .fld _ :: _,.osl _ _ _,_,_,_,_,_,_,_,_,_,_,_,_,e=>by simp [we] at e
 | .fld _ :: _,.box _,_,_,_,_,_,_,_,_,_,_,_,_,e=>by simp [we] at e
 | .fld _ :: _,.dead _,_,_,_,_,_,_,_,_,_,_,_,_,e=>by simp [we] at e
 | .fld _ :: _,.opq _,_,_,_,_,_,_,_,_,_,_,_,_,e=>by simp [we] at e
 | .idx _ :: _,.atom _,_,_,_,_,_,_,_,_,_,_,_,_,e=>by simp [we] at e
 | .idx _ :: _,.fn _ _,_,_,_,_,_,_,_,_,_,_,_,_,e=>by simp [we] at e
 | .idx _ :: _,.agg _,_,_,_,_,_,_,_,_,_,_,_,_,e=>by simp [we] at e
 | .idx _ :: _,.tup _,_,_,_,_,_,_,_,_,_,_,_,_,e=>by simp [we] at e
 | .idx _ :: _,.sl _ _ _,_,_,_,_,_,_,_,_,_,_,_,_,e=>by simp [we] at e
 | .idx _ :: _,.sptr _,_,_,_,_,_,_,_,_,_,_,_,_,e=>by simp [we] at e
 | .idx _ :: _,.dop _,_,_,_,_,_,_,_,_,_,_,_,_,e=>by simp [we] at e
 | .idx _ :: _,.box _,_,_,_,_,_,_,_,_,_,_,_,_,e=>by simp [we] at e
 | .idx _ :: _,.dead _,_,_,_,_,_,_,_,_,_,_,_,_,e=>by simp [we] at e
 | .idx _ :: _,.opq _,_,_,_,_,_,_,_,_,_,_,_,_,e=>by simp [we] at e
def zS:A → List Value → Value
 | .agg _,cs=>.agg cs.toArray
 | _,cs=>cs.headD undef
def wz (h:Array Obj):List Xp → A → Value → Option (Nat × Nat)
 | .deref :: p,.box x,.pointer (some a)=>z2l h p x a.block 0
 | .idx i :: p,.osl sz _ es,.slice (some a) _ _=>match es[i]? with | some y=>z2l h p y a.block (i * sz) | none=>none
 | _,_,_=>none
theorem X2 {S:zl} {h:Array Obj}:∀ (p:List Xp) {x0:A} {cs0:List Value} {F0:List Nat},
  zJ S h x0 cs0 F0 → F0.Nodup → ∀ {y:A},p ≠ [] → (∀ i q,p ≠ .fld i :: q) → we p x0=some y →
  ∃ b o arr ty csy Fy,wz h p x0 (zS x0 cs0)=some (b,o) ∧ h[b]?=some (.cells arr ty (0,0)) ∧ z4W arr o csy ∧ zJ S h y csy Fy ∧ b ∉ Fy ∧ b ∈ F0 ∧ (∀ k ∈ Fy,k ∈ F0) ∧ Fy.Nodup ∧
   ∀ (S':zl) (h':Array Obj) (z:A) (csz:List Value) (Fz:List Nat),(∀ b o v,S b o=some v → S' b o=some v) → csz.length=csy.length → zJ S' h' z csz Fz → Fz.Nodup →
    (∀ k ∈ F0,k ∉ Fy → ∀ o,S' k o=none) → (∀ k,k ∈ F0 → k ∉ Fy → k ≠ b → h'[k]?=h[k]?) → h'[b]?=some (.cells (Q9 arr o csz) ty (0,0)) →
    (∀ k ∈ Fz,k ∈ F0 → k ∈ Fy) →
    ∃ F0',zJ S' h' (V0 p x0 z) cs0 F0' ∧ F0'.Nodup ∧ (∀ k,k ∈ F0' ↔ (k ∈ F0 ∧ k ∉ Fy) ∨ k ∈ Fz)
 | [],_,_,_,_,_,_,np,_,_=>absurd rfl np
 | .fld i :: q,_,_,_,_,_,_,_,nf,_=>absurd rfl (nf i q)
 | .deref :: p,.box x,cs0,F0,hx,hn,y,_,_,e=>by
  simp only [we] at e
  simp only [zJ] at hx
  obtain ⟨b1,ty1,l,F',rfl,e1,e2,rfl,e4⟩:=hx
  have hn':=List.nodup_cons.1 hn
  have hsl:z4W l.toArray 0 l:=fun j v hj=>by simpa using hj
  obtain ⟨b,o,arr,ty,csy,Fy,g1,g2,g3,g4,g5,g6,g7,g8,g9⟩:=zcR p e2 hn'.2 hn'.1 e1 hsl e
  have hb1:b ∈ b1 :: F':=by rcases g6 with rfl | g6 <;> simp [*]
  refine ⟨b,o,arr,ty,csy,Fy,by simp only [zS,List.headD_cons,wz]; exact g1,g2,g3,g4,g5,hb1,fun k hk=>by simp [g7 k hk],g8,?_⟩
  intro S' h' z csz Fz hS hl hz hnz hfree hh' hb' hsep
  obtain ⟨cs',F0',q1,q2,q3,q4,q5⟩:=g9 S' h' z csz Fz hS hl hz hnz (fun k hk=>hfree k (by simp [hk])) (fun k hk=>hh' k (by simpa using hk)) hb' (fun k hk hk'=>hsep k hk (by simp [hk']))
  have hb1y:b1 ∉ Fy:=fun h=>hn'.1 (g7 _ h)
  have hov:Q9 l.toArray 0 cs'=cs'.toArray:=by
   apply Array.ext_getElem?
   intro k
   rw [qX]
   simp only [Nat.zero_le,if_true,Nat.sub_zero,List.getElem?_toArray]
   by_cases hk:k < l.length
   ·rw [List.getElem?_eq_getElem hk,List.getElem?_eq_getElem (by omega)]; simp
   ·rw [List.getElem?_eq_none (by omega),List.getElem?_eq_none (by omega)]; rfl
  refine ⟨b1 :: F0',?_,?_,?_⟩
  ·simp only [V0,zJ]
   exact ⟨b1,ty1,cs',F0',rfl,by rw [q5,hov],q1,rfl,hfree b1 (by simp) hb1y⟩
  ·refine List.nodup_cons.2 ⟨fun h=>?_,q3⟩
   rcases (q4 b1).1 h with h | h
   ·exact hn'.1 h.1
   ·exact hb1y (hsep b1 h (by simp))
  ·intro k
   simp only [List.mem_cons,q4 k]
   constructor
   ·rintro (rfl | h | h)
    ·exact .inl ⟨.inl rfl,hb1y⟩
    ·exact .inl ⟨.inr h.1,h.2⟩
    ·exact .inr h
   ·rintro (⟨rfl | h,h'⟩ | h)
    ·exact .inl rfl
    ·exact .inr (.inl ⟨h,h'⟩)
    ·exact .inr (.inr h)
 | .idx i :: p,.osl sz t es,cs0,F0,hx,hn,y,_,_,e=>by
  simp only [we] at e
  cases hf:es[i]? with
  | none=>simp [hf] at e
  | some x1=>
   simp only [hf] at e
   simp only [zJ] at hx
   obtain ⟨pp,c,rfl,t1,t2,t3,t4,t5⟩:=hx
   rcases t5 with ⟨rfl,_⟩ | ⟨b1,arr1,ty1,l,F',rfl,e1,e2,e3,e4,rfl,e6⟩
   ·simp at hf
   have hn':=List.nodup_cons.1 hn
   obtain ⟨c1,ci,c2,F1,Fi,F2,hl0,rfl,hl1,hxi,hup⟩:=zM.split e4 hf
   have hsl:z4W arr1 0 l:=by
    intro j v hj
    rw [← e3,List.getElem?_take] at hj
    split at hj
    ·simpa using hj
    ·cases hj
   have hit:c1.length=i * sz:=by
    rw [hl1,A.sizes_const (sz:=sz) (fun x hx=>t4 x (List.mem_of_mem_take hx)),List.length_take]
    have:=(List.getElem?_eq_some_iff.1 hf).1
    rw [Nat.min_eq_left (by omega)]
   have hn2:=hn'.2
   rw [List.append_assoc,List.nodup_append] at hn2
   obtain ⟨n1,n2,n3⟩:=hn2
   rw [List.nodup_append] at n2
   obtain ⟨n4,n5,n6⟩:=n2
   have hbi:b1 ∉ Fi:=fun h=>hn'.1 (by simp [h])
   have hsm:z4W arr1 (i * sz) ci:=by
    have:=(hl0 ▸ hsl:z4W arr1 0 (c1 ++ ci ++ c2)).mid
    rwa [Nat.zero_add,hit] at this
   obtain ⟨b,o,arr,ty,csy,Fy,g1,g2,g3,g4,g5,g6,g7,g8,g9⟩:=zcR p hxi n4 hbi e1 hsm e
   have hb1:b ∈ b1 :: (F1 ++ Fi ++ F2):=by rcases g6 with rfl | g6 <;> simp [*]
   refine ⟨b,o,arr,ty,csy,Fy,by simp only [zS,List.headD_cons,wz,hf]; exact g1,g2,g3,g4,g5,hb1,fun k hk=>by simp [g7 k hk],g8,?_⟩
   intro S' h' z csz Fz hS hl hz hnz hfree hh' hb' hsep
   have hsub:∀ k ∈ Fi,k ∈ b1 :: (F1 ++ Fi ++ F2):=fun k hk=>by simp [hk]
   have hsub1:∀ k,k=b1 ∨ k ∈ Fi → k ∈ b1 :: (F1 ++ Fi ++ F2):=fun k hk=>by rcases hk with rfl | hk <;> simp [*]
   obtain ⟨ci',Fi',q1,q2,q3,q4,q5⟩:=g9 S' h' z csz Fz hS hl hz hnz (fun k hk=>hfree k (hsub k hk)) (fun k hk=>hh' k (hsub1 k hk)) hb' (fun k hk hk'=>hsep k hk (hsub k hk'))
   have hoth:∀ k,k ∈ F1 ∨ k ∈ F2 → k ∉ Fy ∧ k ≠ b ∧ k ∈ b1 :: (F1 ++ Fi ++ F2):=by
    intro k hk
    have hki:k ∉ Fi:=by
     rcases hk with hk | hk
     ·exact fun h=>n3 k hk k (by simp [h]) rfl
     ·exact fun h=>n6 k h k hk rfl
    refine ⟨fun h=>hki (g7 k h),?_,by rcases hk with hk | hk <;> simp [hk]⟩
    rintro rfl
    rcases g6 with rfl | g6
    ·exact hn'.1 (by rcases hk with hk | hk <;> simp [hk])
    ·exact hki g6
   have hb1y:b1 ∉ Fy:=fun h=>hbi (g7 _ h)
   have hes:(es.set i (V0 p x1 z)).length=es.length:=by simp
   have hsz1:(V0 p x1 z).size=sz:=by rw [← q1.len,q2,hxi.len]; exact t4 x1 (List.mem_of_getElem? hf)
   have hlen:l.length=es.length * sz:=by rw [e4.len,A.sizes_const t4]
   refine ⟨b1 :: (F1 ++ Fi' ++ F2),?_,?_,?_⟩
   ·simp only [V0,hf,zJ,hes]
    refine ⟨_,c,rfl,t1,t2,t3,?_,.inr ⟨b1,Q9 arr1 (i * sz) ci',ty1,c1 ++ ci' ++ c2,F1 ++ Fi' ++ F2,rfl,q5,by simp [e2],?_,?_,rfl,hfree b1 (by simp) hb1y⟩⟩
    ·intro x hx
     rcases List.mem_or_eq_of_mem_set hx with h | rfl
     ·exact t4 x h
     ·exact hsz1
    ·have hov:Q9 arr1 0 (c1 ++ ci' ++ c2)=Q9 arr1 (i * sz) ci':=by
      have:=z3g (arr:=arr1) (o:=0) (c1:=c1) (ci:=ci) (ci':=ci') (c2:=c2) (hl0 ▸ hsl) q2
      rwa [Nat.zero_add,hit] at this
     rw [← hov]
     have hle:es.length * sz ≤ arr1.size:=Nat.le_trans (Nat.mul_le_mul_right _ t2) e2
     apply List.ext_getElem?
     intro k
     rw [List.getElem?_take]
     have hll:(c1 ++ ci' ++ c2).length=es.length * sz:=by rw [← hlen,hl0]; simp [q2]
     split
     ·rename_i hk
      have hk2:k < (c1 ++ ci' ++ c2).length:=by omega
      rw [Array.getElem?_toList,qX,Array.getElem?_eq_getElem (by omega:k < arr1.size),if_pos (Nat.zero_le _),Nat.sub_zero,List.getElem?_eq_getElem hk2]
      simp
     ·rw [List.getElem?_eq_none (by omega)]
    ·exact hup S' h' _ ci' Fi' hS (fun k hk=>⟨hh' k (hoth k hk).2.2 (hoth k hk).1 (hoth k hk).2.1,hfree k (hoth k hk).2.2 (hoth k hk).1⟩) q1
   ·refine List.nodup_cons.2 ⟨?_,?_⟩
    ·intro h
     simp only [List.mem_append] at h
     rcases h with (h | h) | h
     ·exact hn'.1 (by simp [h])
     ·rcases (q4 b1).1 h with h | h
      ·exact hbi h.1
      ·exact hb1y (hsep b1 h (by simp))
     ·exact hn'.1 (by simp [h])
    ·rw [List.append_assoc,List.nodup_append]
     refine ⟨n1,?_,?_⟩
     ·rw [List.nodup_append]
      refine ⟨q3,n5,?_⟩
      rintro a ha b' hb'' rfl
      rcases (q4 a).1 ha with h | h
      ·exact n6 a h.1 a hb'' rfl
      ·exact (hoth a (.inr hb'')).1 (hsep a h (hoth a (.inr hb'')).2.2)
     ·rintro a ha b' hb'' rfl
      rcases List.mem_append.1 hb'' with h | h
      ·rcases (q4 a).1 h with h | h
       ·exact n3 a ha a (by simp [h.1]) rfl
       ·exact (hoth a (.inl ha)).1 (hsep a h (hoth a (.inl ha)).2.2)
      ·exact n3 a ha a (by simp [h]) rfl
   ·intro k
    simp only [List.mem_cons,List.mem_append,q4 k]
    constructor
    ·rintro (rfl | (h | h) | h)
     ·exact .inl ⟨.inl rfl,hb1y⟩
     ·exact .inl ⟨.inr (.inl (.inl h)),(hoth k (.inl h)).1⟩
     ·rcases h with h | h
      ·exact .inl ⟨.inr (.inl (.inr h.1)),h.2⟩
      ·exact .inr h
     ·exact .inl ⟨.inr (.inr h),(hoth k (.inr h)).1⟩
    ·rintro (⟨rfl | (h | h) | h,h'⟩ | h)
     ·exact .inl rfl
     ·exact .inr (.inl (.inl h))
     ·exact .inr (.inl (.inr (.inl ⟨h,h'⟩)))
     ·exact .inr (.inr h)
     ·exact .inr (.inl (.inr (.inr h)))
 | .deref :: _,.atom _,_,_,_,_,_,_,_,e=>by simp [we] at e
 | .deref :: _,.fn _ _,_,_,_,_,_,_,_,e=>by simp [we] at e
 | .deref :: _,.agg _,_,_,_,_,_,_,_,e=>by simp [we] at e
 | .deref :: _,.tup _,_,_,_,_,_,_,_,e=>by simp [we] at e
 | .deref :: _,.sl _ _ _,_,_,_,_,_,_,_,e=>by simp [we] at e
 | .deref :: _,.sptr _,_,_,_,_,_,_,_,e=>by simp [we] at e
 | .deref :: _,.dop _,_,_,_,_,_,_,_,e=>by simp [we] at e
 | .deref :: _,.osl _ _ _,_,_,_,_,_,_,_,e=>by simp [we] at e
 | .deref :: _,.dead _,_,_,_,_,_,_,_,e=>by simp [we] at e
 | .deref :: _,.opq _,_,_,_,_,_,_,_,e=>by simp [we] at e
 | .idx _ :: _,.atom _,_,_,_,_,_,_,_,e=>by simp [we] at e
 | .idx _ :: _,.fn _ _,_,_,_,_,_,_,_,e=>by simp [we] at e
 | .idx _ :: _,.agg _,_,_,_,_,_,_,_,e=>by simp [we] at e
 | .idx _ :: _,.tup _,_,_,_,_,_,_,_,e=>by simp [we] at e
 | .idx _ :: _,.sl _ _ _,_,_,_,_,_,_,_,e=>by simp [we] at e
 | .idx _ :: _,.sptr _,_,_,_,_,_,_,_,e=>by simp [we] at e
 | .idx _ :: _,.dop _,_,_,_,_,_,_,_,e=>by simp [we] at e
 | .idx _ :: _,.box _,_,_,_,_,_,_,_,e=>by simp [we] at e
 | .idx _ :: _,.dead _,_,_,_,_,_,_,_,e=>by simp [we] at e
 | .idx _ :: _,.opq _,_,_,_,_,_,_,_,e=>by simp [we] at e
theorem w7 {h h':Array Obj} {b o:Nat} (e:h'[b]?=h[b]?):y5 h' b o=y5 h b o:=by simp [y5,e]
theorem Ur {h h':Array Obj}:∀ (p:List Xp) {x:A} {cs:List Value} {F:List Nat} {b o:Nat},zJ S h x cs F → (∀ j v,cs[j]?=some v → y5 h b (o + j)=some v ∧ y5 h' b (o + j)=some v) →
  (∀ k ∈ F,h'[k]?=h[k]?) → z2l h' p x b o=z2l h p x b o
 | [],_,_,_,_,_,_,_,_=>rfl
 | .fld i :: p,.agg fs,cs,F,b,o,hx,hc,hF=>by
  simp only [z2l]
  cases hf:fs[i]? with
  | none=>rfl
  | some y=>
   simp only [zJ] at hx
   obtain ⟨c1,ci,c2,F1,Fi,F2,rfl,rfl,hl1,hxi,_⟩:=zM.split hx hf
   dsimp only
   rw [← hl1]
   refine Ur p hxi (fun j v hj=>?_) (fun k hk=>hF k (by simp [hk]))
   have hlt:=(List.getElem?_eq_some_iff.1 hj).1
   rw [Nat.add_assoc]
   exact hc (c1.length + j) v (by rw [List.append_assoc,List.getElem?_append_right (by omega),Nat.add_sub_cancel_left,List.getElem?_append_left hlt]; exact hj)
 | .deref :: p,.box x,cs,F,b,o,hx,hc,hF=>by
  simp only [zJ] at hx
  obtain ⟨b1,ty1,l,F',rfl,e1,e2,rfl,e4⟩:=hx
  have h0:=hc 0 _ rfl
  simp only [Nat.add_zero] at h0
  simp only [z2l,h0.1,h0.2]
  refine Ur p e2 (fun j v hj=>?_) (fun k hk=>hF k (by simp [hk]))
  rw [w7 (h:=h) (h':=h') (hF b1 (by simp))]
  simp [y5,e1,hj]
 | .idx i :: p,.osl sz t es,cs,F,b,o,hx,hc,hF=>by
  simp only [z2l]
  cases hf:es[i]? with
  | none=>rfl
  | some y=>
   simp only [zJ] at hx
   obtain ⟨pp,c,rfl,t1,t2,t3,t4,t5⟩:=hx
   rcases t5 with ⟨rfl,_⟩ | ⟨b1,arr1,ty1,l,F',rfl,e1,e2,e3,e4,rfl,e6⟩
   ·simp at hf
   have h0:=hc 0 _ rfl
   simp only [Nat.add_zero] at h0
   simp only [h0.1,h0.2]
   obtain ⟨c1,ci,c2,F1,Fi,F2,rfl,rfl,hl1,hxi,_⟩:=zM.split e4 hf
   have hit:c1.length=i * sz:=by
    rw [hl1,A.sizes_const (sz:=sz) (fun x hx=>t4 x (List.mem_of_mem_take hx)),List.length_take]
    have:=(List.getElem?_eq_some_iff.1 hf).1
    rw [Nat.min_eq_left (by omega)]
   refine Ur p hxi (fun j v hj=>?_) (fun k hk=>hF k (by simp [hk]))
   rw [w7 (h:=h) (h':=h') (hF b1 (by simp))]
   have hlt:=(List.getElem?_eq_some_iff.1 hj).1
   have:(c1 ++ ci ++ c2)[i * sz + j]?=some v:=by
    rw [← hit,List.append_assoc,List.getElem?_append_right (by omega),Nat.add_sub_cancel_left,List.getElem?_append_left hlt]; exact hj
   rw [← e3,List.getElem?_take] at this
   split at this
   ·simp only [y5,e1]; simpa using this
   ·cases this
 | .deref :: _,.atom _,_,_,_,_,_,_,_=>rfl
 | .deref :: _,.fn _ _,_,_,_,_,_,_,_=>rfl
 | .deref :: _,.agg _,_,_,_,_,_,_,_=>rfl
 | .deref :: _,.tup _,_,_,_,_,_,_,_=>rfl
 | .deref :: _,.sl _ _ _,_,_,_,_,_,_,_=>rfl
 | .deref :: _,.sptr _,_,_,_,_,_,_,_=>rfl
 | .deref :: _,.dop _,_,_,_,_,_,_,_=>rfl
 | .deref :: _,.osl _ _ _,_,_,_,_,_,_,_=>rfl
 | .deref :: _,.dead _,_,_,_,_,_,_,_=>rfl
 | .deref :: _,.opq _,_,_,_,_,_,_,_=>rfl
 | .fld _ :: _,.atom _,_,_,_,_,_,_,_=>rfl
 | .fld _ :: _,.fn _ _,_,_,_,_,_,_,_=>rfl
 | .fld _ :: _,.tup _,_,_,_,_,_,_,_=>rfl
 | .fld _ :: _,.sl _ _ _,_,_,_,_,_,_,_=>rfl
 | .fld _ :: _,.sptr _,_,_,_,_,_,_,_=>rfl
 | .fld _ :: _,.dop _,_,_,_,_,_,_,_=>rfl
 | .fld _ :: _,.osl _ _ _,_,_,_,_,_,_,_=>rfl
 | .fld _ :: _,.box _,_,_,_,_,_,_,_=>rfl
 | .fld _ :: _,.dead _,_,_,_,_,_,_,_=>rfl
 | .fld _ :: _,.opq _,_,_,_,_,_,_,_=>rfl
 | .idx _ :: _,.atom _,_,_,_,_,_,_,_=>rfl
 | .idx _ :: _,.fn _ _,_,_,_,_,_,_,_=>rfl
 | .idx _ :: _,.agg _,_,_,_,_,_,_,_=>rfl
 | .idx _ :: _,.tup _,_,_,_,_,_,_,_=>rfl
 | .idx _ :: _,.sl _ _ _,_,_,_,_,_,_,_=>rfl
 | .idx _ :: _,.sptr _,_,_,_,_,_,_,_=>rfl
 | .idx _ :: _,.dop _,_,_,_,_,_,_,_=>rfl
 | .idx _ :: _,.box _,_,_,_,_,_,_,_=>rfl
 | .idx _ :: _,.dead _,_,_,_,_,_,_,_=>rfl
 | .idx _ :: _,.opq _,_,_,_,_,_,_,_=>rfl
theorem z0R {h h':Array Obj} (p:List Xp) {x:A}   (hx:zJ S h x cs F) (hF:∀ k ∈ F,h'[k]?=h[k]?):wz h' p x (zS x cs)=wz h p x (zS x cs):=by
 match p,x,hx with
 | [],x,_=>cases x <;> simp [wz]
 | .fld _ :: _,x,_=>cases x <;> simp [wz]
 | .deref :: p,.box x,hx=>
  simp only [zJ] at hx
  obtain ⟨b1,ty1,l,F',rfl,e1,e2,rfl,e4⟩:=hx
  simp only [zS,List.headD_cons,wz]
  refine Ur p e2 (fun j v hj=>?_) (fun k hk=>hF k (by simp [hk]))
  rw [w7 (h:=h) (h':=h') (hF b1 (by simp))]
  simp [y5,e1,hj]
 | .idx i :: p,.osl sz t es,hx=>
  simp only [zJ] at hx
  obtain ⟨pp,c,rfl,t1,t2,t3,t4,t5⟩:=hx
  rcases t5 with ⟨rfl,_,rfl,_⟩ | ⟨b1,arr1,ty1,l,F',rfl,e1,e2,e3,e4,rfl,e6⟩
  ·simp [zS,wz]
  simp only [zS,List.headD_cons,wz]
  cases hf:es[i]? with
  | none=>rfl
  | some y=>
   obtain ⟨c1,ci,c2,F1,Fi,F2,rfl,rfl,hl1,hxi,_⟩:=zM.split e4 hf
   have hit:c1.length=i * sz:=by
    rw [hl1,A.sizes_const (sz:=sz) (fun x hx=>t4 x (List.mem_of_mem_take hx)),List.length_take]
    have:=(List.getElem?_eq_some_iff.1 hf).1
    rw [Nat.min_eq_left (by omega)]
   refine Ur p hxi (fun j v hj=>?_) (fun k hk=>hF k (by simp [hk]))
   rw [w7 (h:=h) (h':=h') (hF b1 (by simp))]
   have hlt:=(List.getElem?_eq_some_iff.1 hj).1
   have:(c1 ++ ci ++ c2)[i * sz + j]?=some v:=by
    rw [← hit,List.append_assoc,List.getElem?_append_right (by omega),Nat.add_sub_cancel_left,List.getElem?_append_left hlt]; exact hj
   rw [← e3,List.getElem?_take] at this
   split at this
   ·simp only [y5,e1]; simpa using this
   ·cases this
 | .deref :: _,.atom _,_=>rfl
 | .deref :: _,.fn _ _,_=>rfl
 | .deref :: _,.agg _,_=>rfl
 | .deref :: _,.tup _,_=>rfl
 | .deref :: _,.sl _ _ _,_=>rfl
 | .deref :: _,.sptr _,_=>rfl
 | .deref :: _,.dop _,_=>rfl
 | .deref :: _,.osl _ _ _,_=>rfl
 | .deref :: _,.dead _,_=>rfl
 | .deref :: _,.opq _,_=>rfl
 | .idx _ :: _,.atom _,_=>rfl
 | .idx _ :: _,.fn _ _,_=>rfl
 | .idx _ :: _,.agg _,_=>rfl
 | .idx _ :: _,.tup _,_=>rfl
 | .idx _ :: _,.sl _ _ _,_=>rfl
 | .idx _ :: _,.sptr _,_=>rfl
 | .idx _ :: _,.dop _,_=>rfl
 | .idx _ :: _,.box _,_=>rfl
 | .idx _ :: _,.dead _,_=>rfl
 | .idx _ :: _,.opq _,_=>rfl
inductive T where
 | gone
 | d (a:A)
 | own (a:A)
 | als (r:Nat) (p:List Xp) (er ec:Nat)
 | ptr (r:Nat) (p:List Xp) (er ec:Nat)
structure Ent where
 t:T
 er:Nat
 ec:Nat
abbrev St:=Nat → Ent
def upd (st:St) (k:Nat) (e:Ent):St:=fun t=>if t=k then e else st t
theorem wP (st:St) (k:Nat) (e:Ent):upd st k e k=e:=by simp [upd]
theorem Xq (st:St) {k t:Nat} (e:Ent) (h:t ≠ k):upd st k e t=st t:=by simp [upd,h]
def ze:List (Nat × Ent) → St → St
 | [],st=>st
 | u :: us,st=>ze us (upd st u.1 u.2)
def SM (α:Type):=St → Option (α × List Nat × List (Nat × Ent))
def SM.bind {α β:Type} (m:SM α) (f:α → SM β):SM β:=fun st=>
 match m st with
 | none=>none
 | some (a,R,U)=>
  match f a (ze U st) with
  | none=>none
  | some (b,R',U')=>some (b,R ++ R',U ++ U')
variable {α:Type}
def SM.pure (a:α):SM α:=fun _=>some (a,[],[])
instance:Monad SM:={ pure:=SM.pure,bind:=SM.bind }
def zp:SM α:=fun _=>none
def rdE (k:Nat):SM Ent:=fun st=>some (st k,[k],[])
def wrE (k:Nat) (e:Ent):SM Unit:=fun _=>some ((),[],[(k,e)])
def ofO (x:Option α):SM α:=fun _=>match x with | some a=>some (a,[],[]) | none=>none
def Xc {α β:Type} (R:α → β → Prop):List α → List β → Prop
 | [],[]=>True
 | a :: as_,b :: bs=>R a b ∧ Xc R as_ bs
 | _,_=>False
def wT (S:zl) (a:A) (v:Value):Prop:=∃ cs,Rep S a cs ∧ v=zS a cs
def xe (S:zl):A → Value → Prop
 | .tup fs,v=>∃ vs,v=.tuple vs.toArray ∧ Xc (wT S) fs vs
 | a,v=>wT S a v
theorem Xc.mono {α β:Type} {R R':α → β → Prop} (h:∀ a b,R a b → R' a b):∀ {as_:List α} {bs:List β},Xc R as_ bs → Xc R' as_ bs
 | [],[],_=>trivial
 | _ :: _,_ :: _,r=>⟨h _ _ r.1,Xc.mono h r.2⟩
 | [],_ :: _,r=>r.elim
 | _ :: _,[],r=>r.elim
theorem wT.mono {S S':zl} (h:∀ b o v,S b o=some v → S' b o=some v) {a:A}  (r:wT S a v):wT S' a v :=
 let ⟨cs,r1,r2⟩:=r; ⟨cs,r1.mono h,r2⟩
theorem xe.mono {S S':zl} (h:∀ b o v,S b o=some v → S' b o=some v) {a:A}  (r:xe S a v):xe S' a v:=by
 cases a <;> simp only [xe] at r ⊢ <;> first | exact r.mono h | (obtain ⟨vs,e,r⟩:=r; exact ⟨vs,e,r.mono fun _ _ q=>q.mono h⟩)
theorem wT.repV {a:A}  (r:wT S a v):xe S a v:=by
 cases a <;> simp only [xe] <;> first | exact r | (obtain ⟨cs,h,_⟩:=r; simp [Rep] at h)
theorem xe.rep1 {a:A}  (h:a.isD=true) (r:xe S a v):wT S a v:=by
 cases a <;> simp only [xe] at r <;> first | exact r | simp [A.isD] at h
def JQ:List Xp → Bool
 | .deref :: _ | .idx _ :: _=>true
 | _=>false
def zdw (h:Array Obj) (b o:Nat) (cs:List Value):Prop:=∀ j u,cs[j]?=some u → y5 h b (o + j)=some u
def Zc (h:Array Obj) (st:St) (tv:Nat → Value) (r:Nat) (p:List Xp) (er ec:Nat) (v:Value):Prop :=
 er ≤ (st r).er ∧ ec ≤ (st r).ec ∧
 match (st r).t with
 | .own x=>(st r).er=er → (p=[] ∨ (st r).ec=ec) → (p=[] ∧ v=tv r) ∨ (JQ p=true ∧ ∃ y b o cs,we p x=some y ∧ wz h p x (tv r)=some (b,o) ∧ cs.length=y.size ∧ zdw h b o cs ∧ v=zS y cs)
 | .d _=>(st r).er=er → p=[] → v=tv r
 | _=>True
def jW (h:Array Obj) (st:St) (tv:Nat → Value) (r:Nat) (p:List Xp) (er ec:Nat) (v:Value):Prop :=
 er ≤ (st r).er ∧ ec ≤ (st r).ec ∧
 match (st r).t with
 | .own x=>(st r).er=er → (st r).ec=ec → JQ p=true ∧ ∃ y b o,we p x=some y ∧ wz h p x (tv r)=some (b,o) ∧ v=.pointer (some ⟨b,o,none⟩)
 | _=>True
def xm (S:zl) (h:Array Obj) (st:St) (tv:Nat → Value) (F:List Nat) (e:Ent) (v:Value):Prop :=
 match e.t with
 | .gone=>F=[]
 | .d a=>xe S a v ∧ F=[]
 | .own a=>∃ cs,zJ S h a cs F ∧ F.Nodup ∧ v=zS a cs
 | .als r p er ec=>F=[] ∧ Zc h st tv r p er ec v
 | .ptr r p er ec=>F=[] ∧ jW h st tv r p er ec v
def pinned:List (Nat × Value) → Nat → Bool
 | [],_=>false
 | p :: ps,k=>p.1 == k || pinned ps k
theorem z1F:∀ {ps:List (Nat × Value)} {k:Nat} {v:Value},(k,v) ∈ ps → pinned ps k=true
 | p :: ps,k,v,h=>by
  simp only [pinned,Bool.or_eq_true,beq_iff_eq]
  rcases List.mem_cons.1 h with rfl | h
  ·exact .inl rfl
  ·exact .inr (z1F h)
structure Fr where
 size:Nat
 pin:List (Nat × Value)
def Fr.ok (n:Fr) (k:Nat):Bool:=decide (k < n.size) && !pinned n.pin k
variable {k:Nat}{n:Fr}
theorem Fr.lt (h:n.ok k=true):k < n.size:=by simp [Fr.ok] at h; exact h.1
theorem Fr.free (h:n.ok k=true):pinned n.pin k=false:=by simp [Fr.ok] at h; exact h.2
def zid (D:Nat):Deferred:={ target:=.collected D,args:=#[] }
structure Ctx where
 n:Fr
 df:List Nat
 w0:World
 S0:zl
 M:Nat → Prop
structure Xb (M:Nat → Prop) (w w':World):Prop where
 os:w'.os=w.os
 tape:w'.tape=w.tape
 output:w'.output=w.output
 drawn:w.drawn ≤ w'.drawn
 size:w.heap.size ≤ w'.heap.size
 block:∀ k,¬ M k → w'.heap[k]?=w.heap[k]?
theorem Xb.refl (M:Nat → Prop) (w:World):Xb M w w:=⟨rfl,rfl,rfl,Nat.le_refl _,Nat.le_refl _,fun _ _=>rfl⟩
variable {M:Nat → Prop}
theorem Xb.trans {a b c:World} (h:Xb M a b) (k:Xb M b c):Xb M a c :=
 ⟨k.os.trans h.os,k.tape.trans h.tape,k.output.trans h.output,Nat.le_trans h.drawn k.drawn,Nat.le_trans h.size k.size,fun i hi=>(k.block i hi).trans (h.block i hi)⟩
theorem Xb.mono {M M':Nat → Prop} {w w':World} (h:Xb M w w') (hM:∀ k,M k → M' k):Xb M' w w':=⟨h.os,h.tape,h.output,h.drawn,h.size,fun k hk=>h.block k fun q=>hk (hM k q)⟩
theorem Xb.drew {a w:World} (h:Xb M a w):Xb M a w.drew:=⟨h.os,h.tape,h.output,Nat.le_succ_of_le h.drawn,h.size,h.block⟩
theorem Xb.alloc {a w:World} (h:Xb M a w) (hM:M w.heap.size) (o:Obj):Xb M a (w.alloc o) :=
 h.trans ⟨rfl,rfl,rfl,Nat.le_refl _,by simp,fun k hk=>by
  show (w.heap.push o)[k]?=_
  rw [Array.getElem?_push,if_neg (by rintro rfl; exact hk hM)]⟩
def Act.tv (a:Act) (t:Nat):Value:=a.tmps.getD t undef
def Gok (S:zl):Prop:=∀ g x,zfS g=some x → ∃ l,Rep S x l ∧ z5x S g 0 l
theorem Gok.mono {S S':zl} (h:∀ b o v,S b o=some v → S' b o=some v) (k:Gok S):Gok S':=fun g x e=>let ⟨l,r,q⟩:=k g x e; ⟨l,r.mono h,q.mono h⟩
def Gbk (S:zl) (w:World):Prop:=∀ g x,zfS g=some x → (∃ c ty fr,w.heap[g]?=some (.cells c ty fr) ∧ c.size=x.size) ∧ ∃ v,S g 0=some v
theorem Gbk.of {S S':zl} {w w':World} (h:Gbk S w) (hS:∀ b o v,S b o=some v → S' b o=some v) (hb:∀ g x,zfS g=some x → w'.heap[g]?=w.heap[g]?):Gbk S' w':=fun g x e=>by
 obtain ⟨⟨c,ty,fr,h1,h2⟩,v,h3⟩:=h g x e
 exact ⟨⟨c,ty,fr,(hb g x e).trans h1,h2⟩,v,hS _ _ _ h3⟩
variable {w:World}
theorem Gbk.ne (h:Gbk S w) {b:Nat} (hb:S b 0=none):∀ x,zfS b ≠ some x:=fun x e=>by
 obtain ⟨_,v,h3⟩:=h b x e
 rw [hb] at h3
 cases h3
theorem Gbk.lt (h:Gbk S w) {g:Nat} {x:A} (e:zfS g=some x):g < w.heap.size:=by
 obtain ⟨⟨c,ty,fr,h1,_⟩,_⟩:=h g x e
 exact (Array.getElem?_eq_some_iff.1 h1).1
structure zpr (M:Nat → Prop) (w:World):Prop where
 new:∀ k,w.heap.size ≤ k → M k
 far:∀ g x,zfS g=some x → ¬ M g
instance {M:Nat → Prop} {w:World}:CoeFun (zpr M w) fun _=>∀ k,w.heap.size ≤ k → M k:=⟨zpr.new⟩
structure yn (S:zl) (w:World):Prop where
 cell:∀ b o v,S b o=some v → y5 w.heap b o=some v
 gok:Gok S
 blk:Gbk S w
instance {S:zl} {w:World}:CoeFun (yn S w) fun _=>∀ b o v,S b o=some v → y5 w.heap b o=some v:=⟨yn.cell⟩
structure Sim (C:Ctx) (S:zl) (Fp:Nat → List Nat) (X:List Nat) (st:St) (a:Act) (w:World):Prop where
 size:a.tmps.size=C.n.size
 pin:∀ i v,(i,v) ∈ C.n.pin → Act.tv a i=v
 defers:a.defers=C.df.map zid
 below:Xb C.M C.w0 w
 mine:zpr C.M C.w0
 still:yn S w
 sinc:∀ b o v,C.S0 b o=some v → S b o=some v
 sbase:∀ b o,¬ C.M b → S b o=C.S0 b o
 ent:∀ t,xm S w.heap st (Act.tv a) (Fp t) (st t) (Act.tv a t)
 disj:∀ t u k,k ∈ Fp t → k ∈ Fp u → t=u
 base:∀ t k,k ∈ Fp t → C.M k
 xn:X.Nodup
 xd:∀ t k,k ∈ X → k ∉ Fp t
 xb:∀ k,k ∈ X → C.M k
def Jp (Fp:Nat → List Nat) (k:Nat) (F:List Nat):Nat → List Nat:=fun t=>if t=k then F else Fp t
variable {st:St}{p:List Xp}{er ec:Nat}{r:Nat}
theorem Zc.frame {h h':Array Obj}  {tv:Nat → Value}  {p:List Xp} {er ec:Nat} {v:Value}  (hr:xm S h st tv F (st r) (tv r)) (hF:∀ k ∈ F,h'[k]?=h[k]?)
  (q:Zc h st tv r p er ec v):Zc h' st tv r p er ec v:=by
 obtain ⟨q1,q2,q3⟩:=q
 refine ⟨q1,q2,?_⟩
 unfold xm at hr
 cases ht:(st r).t with
 | own x=>
  simp only [ht] at q3 hr ⊢
  intro e1 e2
  rcases q3 e1 e2 with q | ⟨q4,y,b,o,cs,g1,g2,g3,g4,g5⟩
  ·exact .inl q
  ·refine .inr ⟨q4,y,b,o,cs,g1,?_,g3,?_,g5⟩
   ·obtain ⟨cs',c1,c2,c3⟩:=hr
    rw [c3] at g2 ⊢
    rw [z0R p c1 hF]; exact g2
   ·obtain ⟨cs',c1,c2,c3⟩:=hr
    obtain ⟨b',o',arr,ty,csy,Fy,f1,f2,f3,f4,f5,f6,_⟩:=X2 p c1 c2 (by rintro rfl; simp [JQ] at q4) (by rintro i q rfl; simp [JQ] at q4) g1
    rw [c3,f1] at g2
    simp only [Option.some.injEq,Prod.mk.injEq] at g2
    obtain ⟨rfl,rfl⟩:=g2
    intro j u hj
    rw [w7 (hF _ f6)]
    exact g4 j u hj
 | gone=>trivial
 | d x=>simpa only [ht] using q3
 | als _ _ _ _=>trivial
 | ptr _ _ _ _=>trivial
theorem jW.frame {h h':Array Obj}  {tv:Nat → Value}  {p:List Xp} {er ec:Nat} {v:Value}  (hr:xm S h st tv F (st r) (tv r)) (hF:∀ k ∈ F,h'[k]?=h[k]?)
  (q:jW h st tv r p er ec v):jW h' st tv r p er ec v:=by
 obtain ⟨q1,q2,q3⟩:=q
 refine ⟨q1,q2,?_⟩
 unfold xm at hr
 cases ht:(st r).t with
 | own x=>
  simp only [ht] at q3 hr ⊢
  intro e1 e2
  obtain ⟨q4,y,b,o,g1,g2,g3⟩:=q3 e1 e2
  refine ⟨q4,y,b,o,g1,?_,g3⟩
  obtain ⟨cs',c1,c2,c3⟩:=hr
  rw [c3] at g2 ⊢
  rw [z0R p c1 hF]; exact g2
 | gone=>trivial
 | d x=>trivial
 | als _ _ _ _=>trivial
 | ptr _ _ _ _=>trivial
variable {Fp:Nat → List Nat}{C:Ctx}{a:Act}
theorem Sim.mem {S S':zl}  {X X':List Nat}   {w w':World} (h:Sim C S Fp X st a w) (hb:Xb C.M C.w0 w') (hS:∀ b o v,S b o=some v → S' b o=some v)
  (hst:∀ b o v,S' b o=some v → y5 w'.heap b o=some v) (hsb:∀ b o,¬ C.M b → S' b o=C.S0 b o) (hF:∀ t k,k ∈ Fp t → w'.heap[k]?=w.heap[k]? ∧ ∀ o,S' k o=none)
  (xn:X'.Nodup) (xd:∀ t k,k ∈ X' → k ∉ Fp t) (xb:∀ k,k ∈ X' → C.M k):Sim C S' Fp X' st a w':={
 size:=h.size
 pin:=h.pin
 defers:=h.defers
 below:=hb
 mine:=h.mine
 still:=⟨hst,Gok.mono hS h.still.gok,h.still.blk.of hS fun g x e=>(hb.block g (h.mine.far g x e)).trans (h.below.block g (h.mine.far g x e)).symm⟩
 sinc:=fun b o v q=>hS _ _ _ (h.sinc _ _ _ q)
 sbase:=hsb
 ent:=fun t=>by
  have q:=h.ent t
  unfold xm at q ⊢
  cases ht:(st t).t with
  | gone=>simpa only [ht] using q
  | d x=>simp only [ht] at q ⊢; exact ⟨q.1.mono hS,q.2⟩
  | own x=>simp only [ht] at q ⊢; obtain ⟨cs,q1,q2,q3⟩:=q; exact ⟨cs,q1.frame hS (fun k hk=>hF t k hk),q2,q3⟩
  | als r p er ec=>simp only [ht] at q ⊢; exact ⟨q.1,q.2.frame (h.ent r) (fun k hk=>(hF r k hk).1)⟩
  | ptr r p er ec=>simp only [ht] at q ⊢; exact ⟨q.1,q.2.frame (h.ent r) (fun k hk=>(hF r k hk).1)⟩
 disj:=h.disj
 base:=h.base
 xn:=xn
 xd:=xd
 xb:=xb }
theorem Sim.change {S S':zl}  {X X':List Nat}   {w w':World} (h:Sim C S Fp X st a w) (r:Nat) (T':T) (er' ec':Nat) (F':List Nat)
  (hb:Xb C.M C.w0 w') (hS:∀ b o v,S b o=some v → S' b o=some v)
  (hst:∀ b o v,S' b o=some v → y5 w'.heap b o=some v) (hsb:∀ b o,¬ C.M b → S' b o=C.S0 b o) (hF:∀ t k,t ≠ r → k ∈ Fp t → w'.heap[k]?=w.heap[k]? ∧ ∀ o,S' k o=none)
  (hT:match T' with
   | .gone=>F'=[]
   | .d x=>xe S' x (Act.tv a r) ∧ F'=[]
   | .own x=>(∃ cs,zJ S' w'.heap x cs F' ∧ F'.Nodup ∧ Act.tv a r=zS x cs) ∧ ∃ y,(st r).t=.own y
   | _=>False)
  (ht0:(∃ y,(st r).t=.own y) ∨ ∃ y,(st r).t=.d y)
  (her:(st r).er ≤ er') (hec:(st r).ec < ec')
  (fd:∀ t k,t ≠ r → k ∈ F' → k ∉ Fp t) (fb:∀ k,k ∈ F' → C.M k)
  (xn:X'.Nodup) (xd:∀ t k,t ≠ r → k ∈ X' → k ∉ Fp t) (xf:∀ k,k ∈ X' → k ∉ F') (xb:∀ k,k ∈ X' → C.M k) :
  Sim C S' (Jp Fp r F') X' (upd st r ⟨T',er',ec'⟩) a w':={
 size:=h.size
 pin:=h.pin
 defers:=h.defers
 below:=hb
 mine:=h.mine
 still:=⟨hst,Gok.mono hS h.still.gok,h.still.blk.of hS fun g x e=>(hb.block g (h.mine.far g x e)).trans (h.below.block g (h.mine.far g x e)).symm⟩
 sinc:=fun b o v q=>hS _ _ _ (h.sinc _ _ _ q)
 sbase:=hsb
 ent:=fun t=>by
  by_cases htr:t=r
  ·subst htr
   rw [wP]
   simp only [Jp,if_true,xm]
   cases T' with
   | gone=>exact hT
   | d x=>exact hT
   | own x=>exact hT.1
   | als _ _ _ _=>exact hT.elim
   | ptr _ _ _ _=>exact hT.elim
  ·rw [Xq _ _ htr]
   simp only [Jp,htr,if_false]
   have q:=h.ent t
   unfold xm at q ⊢
   cases ht:(st t).t with
   | gone=>simpa only [ht] using q
   | d x=>simp only [ht] at q ⊢; exact ⟨q.1.mono hS,q.2⟩
   | own x=>simp only [ht] at q ⊢; obtain ⟨cs,q1,q2,q3⟩:=q; exact ⟨cs,q1.frame hS (fun k hk=>hF t k htr hk),q2,q3⟩
   | als u p er ec=>
    simp only [ht] at q ⊢
    refine ⟨q.1,?_⟩
    by_cases hu:u=r
    ·subst hu
     obtain ⟨q1,q2,q3⟩:=q.2
     unfold Zc
     rw [wP]
     refine ⟨Nat.le_trans q1 her,Nat.le_trans q2 (Nat.le_of_lt hec),?_⟩
     cases T' with
     | gone=>trivial
     | d x=>
      dsimp only
      intro e1 e2
      rcases ht0 with ⟨y,hy⟩ | ⟨y,hy⟩
      ·simp only [hy] at q3
       rcases q3 (by omega) (.inl e2) with q | q
       ·exact q.2
       ·simp [e2,JQ] at q
      ·simp only [hy] at q3
       exact q3 (by omega) e2
     | own x=>
      dsimp only
      intro e1 e2
      obtain ⟨_,y,hy⟩:=hT
      simp only [hy] at q3
      have hp:p=[]:=e2.resolve_right (by omega)
      rcases q3 (by omega) (.inl hp) with q | q
      ·exact .inl q
      ·simp [hp,JQ] at q
     | als _ _ _ _=>trivial
     | ptr _ _ _ _=>trivial
    ·have:=Zc.frame (h':=w'.heap) (h.ent u) (fun k hk=>(hF u k hu hk).1) q.2
     unfold Zc at this ⊢
     rw [Xq _ _ hu]
     exact this
   | ptr u p er ec=>
    simp only [ht] at q ⊢
    refine ⟨q.1,?_⟩
    by_cases hu:u=r
    ·subst hu
     obtain ⟨q1,q2,q3⟩:=q.2
     unfold jW
     rw [wP]
     refine ⟨Nat.le_trans q1 her,Nat.le_trans q2 (Nat.le_of_lt hec),?_⟩
     cases T' with
     | gone=>trivial
     | d x=>trivial
     | own x=>
      dsimp only
      intro e1 e2
      omega
     | als _ _ _ _=>trivial
     | ptr _ _ _ _=>trivial
    ·have:=jW.frame (h':=w'.heap) (h.ent u) (fun k hk=>(hF u k hu hk).1) q.2
     unfold jW at this ⊢
     rw [Xq _ _ hu]
     exact this
 disj:=fun t u k ht hu=>by
  simp only [Jp] at ht hu
  split at ht <;> split at hu
  ·simp_all
  ·exact absurd hu (fd u k ‹_› ht)
  ·exact absurd ht (fd t k ‹_› hu)
  ·exact h.disj t u k ht hu
 base:=fun t k ht=>by
  simp only [Jp] at ht
  split at ht
  ·exact fb k ht
  ·exact h.base t k ht
 xn:=xn
 xd:=fun t k hk=>by
  simp only [Jp]
  split
  ·exact xf k hk
  ·exact xd t k ‹_› hk
 xb:=xb }
theorem Act.tv_put (a:Act) (k:Nat) (v:Value) (hk:k < a.tmps.size) (t:Nat):Act.tv (a.put (some k) v) t=if t=k then v else Act.tv a t:=by
 simp only [Act.tv,Go.Act.put,Array.getD_eq_getD_getElem?,Array.getElem?_setIfInBounds]
 by_cases h:t=k
 ·subst h; simp [hk]
 ·simp [h,Ne.symm h]
variable {e:Ent}
theorem Zc.put {h:Array Obj}  {tv tv':Nat → Value}   (her:(st k).er < e.er) (hec:(st k).ec < e.ec) (htv:∀ t,t ≠ k → tv' t=tv t) {r:Nat} {p:List Xp} {er ec:Nat} {v:Value}
  (q:Zc h st tv r p er ec v):Zc h (upd st k e) tv' r p er ec v:=by
 unfold Zc at q ⊢
 obtain ⟨q1,q2,q3⟩:=q
 by_cases hr:r=k
 ·subst hr
  rw [wP]
  refine ⟨by omega,by omega,?_⟩
  cases e.t with
  | own x=>dsimp only; intro e1; omega
  | d x=>dsimp only; intro e1; omega
  | gone=>trivial
  | als _ _ _ _=>trivial
  | ptr _ _ _ _=>trivial
 ·rw [Xq _ _ hr,htv r hr]
  exact ⟨q1,q2,q3⟩
theorem jW.put {h:Array Obj}  {tv tv':Nat → Value}   (her:(st k).er < e.er) (hec:(st k).ec < e.ec) (htv:∀ t,t ≠ k → tv' t=tv t) {r:Nat} {p:List Xp} {er ec:Nat} {v:Value}
  (q:jW h st tv r p er ec v):jW h (upd st k e) tv' r p er ec v:=by
 unfold jW at q ⊢
 obtain ⟨q1,q2,q3⟩:=q
 by_cases hr:r=k
 ·subst hr
  rw [wP]
  refine ⟨by omega,by omega,?_⟩
  cases e.t with
  | own x=>dsimp only; intro e1; omega
  | d x=>trivial
  | gone=>trivial
  | als _ _ _ _=>trivial
  | ptr _ _ _ _=>trivial
 ·rw [Xq _ _ hr,htv r hr]
  exact ⟨q1,q2,q3⟩
theorem Sim.put {X X':List Nat}    (h:Sim C S Fp X st a w)  (hk:C.n.ok k=true) (T':T) (F:List Nat) (v:Value)
  (hT:xm S w.heap (upd st k ⟨T',(st k).er + 1,(st k).ec + 1⟩) (fun t=>if t=k then v else Act.tv a t) F ⟨T',(st k).er + 1,(st k).ec + 1⟩ v)
  (fd:∀ t m,t ≠ k → m ∈ F → m ∉ Fp t) (fb:∀ m,m ∈ F → C.M m)
  (xn:X'.Nodup) (xd:∀ t m,t ≠ k → m ∈ X' → m ∉ Fp t) (xf:∀ m,m ∈ X' → m ∉ F) (xb:∀ m,m ∈ X' → C.M m) :
  Sim C S (Jp Fp k F) X' (upd st k ⟨T',(st k).er + 1,(st k).ec + 1⟩) (a.put (some k) v) w:=by
 have hk':k < a.tmps.size:=h.size ▸ Fr.lt hk
 have htv:Act.tv (a.put (some k) v)=fun t=>if t=k then v else Act.tv a t:=funext (Act.tv_put a k v hk')
 exact {
  size:=by simp [Go.Act.put,h.size]
  pin:=fun i u hi=>by
   rw [htv]
   have hne:i ≠ k:=by
    rintro rfl
    have h1:=z1F hi
    rw [Fr.free hk] at h1
    cases h1
   simp only [if_neg hne]
   exact h.pin i u hi
  defers:=h.defers
  below:=h.below
  mine:=h.mine
  still:=h.still
  sinc:=h.sinc
  sbase:=h.sbase
  ent:=fun t=>by
   rw [htv]
   by_cases ht:t=k
   ·subst ht
    rw [wP]
    simpa only [Jp,if_true] using hT
   ·rw [Xq _ _ ht]
    simp only [Jp,ht,if_false]
    have q:=h.ent t
    unfold xm at q ⊢
    cases htt:(st t).t with
    | gone=>simpa only [htt] using q
    | d x=>simpa only [htt] using q
    | own x=>simpa only [htt] using q
    | als r p er ec=>simp only [htt] at q ⊢; exact ⟨q.1,q.2.put (Nat.lt_succ_self _) (Nat.lt_succ_self _) (fun t ht=>by simp [ht])⟩
    | ptr r p er ec=>simp only [htt] at q ⊢; exact ⟨q.1,q.2.put (Nat.lt_succ_self _) (Nat.lt_succ_self _) (fun t ht=>by simp [ht])⟩
  disj:=fun t u m ht hu=>by
   simp only [Jp] at ht hu
   split at ht <;> split at hu
   ·simp_all
   ·exact absurd hu (fd u m ‹_› ht)
   ·exact absurd ht (fd t m ‹_› hu)
   ·exact h.disj t u m ht hu
  base:=fun t m ht=>by
   simp only [Jp] at ht
   split at ht
   ·exact fb m ht
   ·exact h.base t m ht
  xn:=xn
  xd:=fun t m hm=>by
   simp only [Jp]
   split
   ·exact xf m hm
   ·exact xd t m ‹_› hm
  xb:=xb }
inductive TK where
 | int (k:IntKind)
 | bool
 | str
 | slice (e:Nat)
 | ptr (e:Nat)
 | struct (fs:List (Nat × Nat))
 | array (n e:Nat)
 | other
structure TI where
 kind:TK
 size:Nat
 bytes:Nat
 zero:Option A
 eqn:Bool
abbrev TT:=Nat → Option TI
structure Ctr where
 run:Nat → List A → Option A
 gives:Nat → List Bool
 raw:Nat → Bool:=fun _=>false
 lend:Nat → Option Nat:=fun _=>none
 runL:Nat → List A → Option (A × A):=fun _ _=>none
 ext:Fr → Oper → Option (SM Unit):=fun _ _=>none
@[reducible] def Ctr.plain (c:Ctr):Ctr:={ c with ext:=fun _ _=>none }
@[reducible] def Ctr.withE (c:Ctr) (e:Fr → Oper → Option (SM Unit)):Ctr:={ c with ext:=e }
def Ctr.norm (ctr:Ctr) (k:Nat) (l:List A):List A:=if ctr.raw k=true then l else l.map A.loose
def opnd:Operand → SM T
 | .tmp t=>do
  let e ← rdE t
  match e.t with
  | .own _=>pure (.als t [] e.er e.ec)
  | .gone=>zp
  | T=>pure T
 | .const v=>if v.oneCell'=true then pure (.d (.atom v)) else zp
 | .func f=>pure (.d (.fn f []))
 | .global g=>match zfS g with | some x=>pure (.d (.sptr x)) | none=>zp
def look (r:Nat) (p:List Xp) (er ec:Nat):SM A:=do
 let e ← rdE r
 match e.t with
 | .own x=>if e.er=er ∧ (p=[] ∨ e.ec=ec) then ofO (we p x) else zp
 | .d x=>if e.er=er ∧ p=[] then pure x else zp
 | _=>zp
def lookP (r:Nat) (p:List Xp) (er ec:Nat):SM A:=do
 let e ← rdE r
 match e.t with
 | .own x=>if e.er=er ∧ e.ec=ec then ofO (we p x) else zp
 | _=>zp
def val:T → SM A
 | .d a=>pure a
 | .als r p er ec=>do
  let y ← look r p er ec
  if y.isD=true then pure y else zp
 | _=>zp
def WB (tt:TT) (t:Nat):A → A
 | .atom (.slice none 0 0)=>
  match tt t with
  | some ⟨.slice e,_,_,_,_⟩=>
   match tt e with
   | some i=>.osl i.size true []
   | none=>.atom (.slice none 0 0)
  | _=>.atom (.slice none 0 0)
 | a=>a
def take:T → SM A
 | .d a=>pure a
 | .als r p er ec=>do
  let y ← look r p er ec
  if y.isD=true then pure y else if y.plain=true then do
   let e ← rdE r
   match e.t with
   | .own x=>
    if p=[] then do
     wrE r ⟨.gone,e.er + 1,e.ec + 1⟩
     pure y
    else do
     wrE r ⟨.own (V0 p x (.dead y.size)),e.er,e.ec + 1⟩
     pure y
   | _=>zp
  else zp
 | _=>zp
def takeC (tt:TT) (t:Nat) (x:T):SM A:=do
 let y ← take x
 pure (WB tt t y)
def mkT:A → T
 | .tup fs=>.d (.tup fs)
 | a=>if a.isD=true then .d a else .own a
def wrT (n:Fr) (dst:Option Nat) (x:T):SM Unit :=
 match dst with
 | none=>pure ()
 | some k=>if n.ok k=true then do
   let e ← rdE k
   wrE k ⟨x,e.er + 1,e.ec + 1⟩
  else zp
def zcH (op:BinOp) (k:IntKind) (a b:Int):Option A :=
 match op with
 | .add=>some (.atom (.int k (k.wrap (a + b))))
 | .sub=>some (.atom (.int k (k.wrap (a - b))))
 | .mul=>some (.atom (.int k (k.wrap (a * b))))
 | .quo=>if b=0 then none else some (.atom (.int k (k.wrap (a.tdiv b))))
 | .rem=>if b=0 then none else some (.atom (.int k (a.tmod b)))
 | .eql=>some (.atom (.bool (a == b)))
 | .neq=>some (.atom (.bool (a != b)))
 | .lss=>some (.atom (.bool (decide (a < b))))
 | .leq=>some (.atom (.bool (decide (a ≤ b))))
 | .gtr=>some (.atom (.bool (decide (a > b))))
 | .geq=>some (.atom (.bool (decide (a ≥ b))))
 | _=>none
def vB:List A → List A → Option Bool
 | [],[]=>some true
 | .atom (.int k a) :: as_,.atom (.int k' b) :: bs=>if k=k' then (vB as_ bs).map fun r=>(a == b) && r else none
 | _,_=>none
def zgP (tt:TT) (op:BinOp) (xt:Nat):A → A → Option A
 | .atom (.int k a),.atom (.int k' b)=>if k=k' then zcH op k a b else none
 | .atom (.bool a),.atom (.bool b)=>
  match tt xt with
  | some ⟨.bool,_,_,_,_⟩=>
   match op with
   | .eql=>some (.atom (.bool (a == b)))
   | .neq=>some (.atom (.bool (!(a == b))))
   | _=>none
  | _=>none
 | .agg as_,.agg bs=>
  match tt xt with
  | some i=>if i.eqn=true ∧ as_.length=i.size ∧ bs.length=i.size then
    match op with
    | .eql=>(vB as_ bs).map fun r=>.atom (.bool r)
    | .neq=>(vB as_ bs).map fun r=>.atom (.bool (!r))
    | _=>none
   else none
  | none=>none
 | _,_=>none
def unA (op:UnOp):A → Option A
 | .atom (.bool b)=>match op with | .not=>some (.atom (.bool (!b))) | _=>none
 | .atom (.int k a)=>match op with | .neg=>some (.atom (.int k (k.wrap (0 - a)))) | _=>none
 | _=>none
def ptrOf:T → SM (A ⊕ (Nat × List Xp × Nat × Nat))
 | .d (.sptr y)=>pure (.inl y)
 | .ptr r p er ec=>pure (.inr (r,p,er,ec))
 | .als r p er ec=>do
  let e ← rdE r
  let y ← look r p er ec
  match y with
  | .box _=>pure (.inr (r,p ++ [.deref],e.er,e.ec))
  | .sptr z=>pure (.inl z)
  | _=>zp
 | _=>zp
def A.isAgg:A → Bool
 | .agg _=>true
 | _=>false
def TK.isAgg:TK → Bool
 | .struct _ | .array _ _=>true
 | _=>false
def jQ (tt:TT) (t:Nat) (y:A):Bool :=
 match tt t with
 | some i=>i.kind.isAgg == y.isAgg && i.size == y.size && (i.kind.isAgg || i.size == 1)
 | none=>false
def loadA (tt:TT) (n:Fr) (dst:Option Nat) (t:Nat) (x:T):SM Unit:=do
 let q ← ptrOf x
 match q with
 | .inl y=>if jQ tt t y=true ∧ y.isD=true then wrT n dst (.d y) else zp
 | .inr (r,p,er,ec)=>do
  let y ← lookP r p er ec
  if jQ tt t y=true then
   (if y.isD=true then wrT n dst (.d y) else wrT n dst (.als r p er ec))
  else zp
def storeA (tt:TT) (t:Nat) (x v:T):SM Unit:=do
 let q ← ptrOf x
 match q with
 | .inl _=>zp
 | .inr (r,p,er,ec)=>do
  let y ← takeC tt t v
  let e ← rdE r
  match e.t with
  | .own x0=>
   if e.er=er ∧ e.ec=ec then
    match we p x0 with
    | some y0=>if y.size=y0.size ∧ jQ tt t y=true then wrE r ⟨.own (V0 p x0 y),e.er,e.ec + 1⟩ else zp
    | none=>zp
   else zp
  | _=>zp
def z0j (tt:TT) (t i:Nat) (fs:List A):Bool :=
 match tt t with
 | some ⟨.struct offs,_,_,_,_⟩=>
  match offs[i]? with
  | some (off,sz)=>off == A.sizes (fs.take i) && sz != 0
  | none=>false
 | _=>false
def fieldAddrA (tt:TT) (n:Fr) (dst:Option Nat) (t i:Nat) (x:T):SM Unit:=do
 let q ← ptrOf x
 match q with
 | .inl (.agg fs)=>
  match fs[i]? with
  | some y=>if z0j tt t i fs=true then wrT n dst (.d (.sptr y)) else zp
  | none=>zp
 | .inl _=>zp
 | .inr (r,p,er,ec)=>do
  let y ← lookP r p er ec
  match y with
  | .agg fs=>if z0j tt t i fs=true ∧ i < fs.length then wrT n dst (.ptr r (p ++ [.fld i]) er ec) else zp
  | _=>zp
def xo (tt:TT) (t:Nat):Option Nat :=
 match tt t with
 | some ⟨.slice e,_,_,_,_⟩=>(tt e).map (·.size)
 | _=>none
def indexAddrA (tt:TT) (n:Fr) (dst:Option Nat) (t:Nat) (x:T) (i:A):SM Unit :=
 match i with
 | .atom (.int _ j)=>
  match x with
  | .d (.sl sz _ xs)=>
   if xo tt t=some sz ∧ 0 ≤ j then
    match xs[j.toNat]? with
    | some y=>wrT n dst (.d (.sptr y))
    | none=>zp
   else zp
  | .als r p er ec=>do
   let e ← rdE r
   let y ← look r p er ec
   match y with
   | .osl sz _ es=>if xo tt t=some sz ∧ 0 ≤ j ∧ j.toNat < es.length then wrT n dst (.ptr r (p ++ [.idx j.toNat]) e.er e.ec) else zp
   | .sl sz _ xs=>
    if xo tt t=some sz ∧ 0 ≤ j then
     match xs[j.toNat]? with
     | some y=>wrT n dst (.d (.sptr y))
     | none=>zp
    else zp
   | _=>zp
  | _=>zp
 | _=>zp
def lenOf:A → Option Nat
 | .sl _ _ xs=>some xs.length
 | .osl _ _ es=>some es.length
 | .atom (.slice none 0 0)=>some 0
 | _=>none
def zda:A → Option Nat
 | .sl _ true xs=>some xs.length
 | .osl _ true es=>some es.length
 | .atom (.slice none 0 0)=>some 0
 | _=>none
def vK (tt:TT) (t:Nat):Bool :=
 match tt t with
 | some ⟨.slice _,_,_,_,_⟩=>true
 | _=>false
def peek:T → SM A
 | .d a=>pure a
 | .als r p er ec=>look r p er ec
 | _=>zp
def lim:Nat:=4294967296
def appendA (tt:TT) (n:Fr) (dst:Option Nat) (t:Nat) (s x:T):SM Unit :=
 match tt t with
 | some ⟨.slice e,_,_,_,_⟩=>
  match tt e with
  | some i=>do
   let y ← peek x
   match y with
   | .sl sz _ ys | .osl sz _ ys=>
    if sz=i.size ∧ A.areD ys=true ∧ i.bytes ≤ 4096 ∧ 0 < i.size ∧ i.zero.isSome=true then
     let z ← takeC tt t s
     match z with
     | .osl sz' tg es=>if sz'=i.size ∧ es.length + ys.length ≤ lim then wrT n dst (.own (.osl sz' false (es ++ ys))) else zp
     | .sl sz' tg es=>if sz'=i.size ∧ es.length + ys.length ≤ lim ∧ tg=true ∧ ys ≠ [] ∧ A.areD es=true then wrT n dst (.own (.osl sz' false (es ++ ys))) else zp
     | _=>zp
    else zp
   | _=>zp
  | none=>zp
 | _=>zp
def appendOwnA (tt:TT) (n:Fr) (dst:Option Nat) (t:Nat) (s x:Operand):SM Unit :=
 match tt t with
 | some ⟨.slice e,_,_,_,_⟩=>
  match tt e with
  | some i=>
   if i.bytes ≤ 4096 ∧ 0 < i.size ∧ i.zero.isSome=true then do
    let tx ← opnd x
    let y ← take tx
    let ts ← opnd s
    let z ← takeC tt t ts
    match y,z with
    | .osl sz _ ys,.osl sz' tg es=>if sz=i.size ∧ sz'=i.size ∧ A.plains ys=true ∧ es.length + ys.length ≤ lim then wrT n dst (.own (.osl sz' false (es ++ ys))) else zp
    | _,_=>zp
   else zp
  | none=>zp
 | _=>zp
mutual
def A.flat:A → Bool
 | .atom (.slice _ _ _)=>false
 | .atom _=>true
 | .agg fs | .tup fs=>A.flats fs
 | _=>false
def A.flats:List A → Bool
 | []=>true
 | a :: as_=>a.flat && A.flats as_
end
def shutT (tt:TT) (t:Nat):T → SM A
 | .d (.tup _)=>zp
 | .d a=>pure (WB tt t a).shut
 | .als r p er ec=>do
  let y ← look r p er ec
  if y.isD=true then pure y else
   if y.live=true then do
    let e ← rdE r
    match e.t with
    | .own x=>
     if p=[] then do
      wrE r ⟨.d y.shut,e.er,e.ec + 1⟩
      pure y.shut
     else do
      wrE r ⟨.own (V0 p x y.shut),e.er,e.ec + 1⟩
      pure y.shut
    | _=>zp
   else zp
 | _=>zp
def shutArgs (tt:TT):List (Operand × Nat) → SM (List A)
 | []=>pure []
 | (x,t) :: as_=>do
  let y ← opnd x
  let a ← shutT tt t y
  let bs ← shutArgs tt as_
  pure (a :: bs)
def ghost (m:SM α):SM α:=fun st=>match m st with | some (a,R,_)=>some (a,R,[]) | none=>none
def passArgs (tt:TT):List (Bool × Operand × Nat) → SM (List A)
 | []=>pure []
 | (g,x,t) :: as_=>do
  let y ← opnd x
  let a ← (if g=true then takeC tt t y else shutT tt t y)
  let bs ← passArgs tt as_
  pure (a :: bs)
def z3h (y:A):Bool:=match y with | .osl _ _ _=>true | .box _=>true | .opq o=>!o.multi | _=>false
def lendA (tt:TT) (ctr:Ctr) (n:Fr) (dst:Option Nat) (k i:Nat) (caps:List A) (ops:List (Operand × Nat)):SM Unit :=
 match ops[i]? with
 | some (x,_)=>do
  let xs ← shutArgs tt (ops.take i)
  let zs ← shutArgs tt (ops.drop (i + 1))
  let tx ← opnd x
  match tx with
  | .als r p er ec=>do
   let y ← look r p er ec
   let e ← rdE r
   match e.t with
   | .own x0=>
    if z3h y=true then
     match ctr.runL k (ctr.norm k (xs ++ y :: zs ++ caps)) with
     | some (res,y')=>
      if z3h y'=true then do
       wrE r ⟨.own (V0 p x0 y'),e.er,e.ec + 1⟩
       wrT n dst (mkT res)
      else zp
     | none=>zp
    else zp
   | _=>zp
  | _=>zp
 | none=>zp
def callA (tt:TT) (ctr:Ctr) (n:Fr) (dst:Option Nat) (f:A) (as_:List (Operand × Nat)):SM Unit :=
 match f with
 | .fn k caps=>
  match ctr.lend k with
  | some i=>lendA tt ctr n dst k i caps as_
  | none=>
  if (ctr.gives k).isEmpty=true then do
   let xs ← ghost (shutArgs tt as_)
   match ctr.run k (ctr.norm k (xs ++ caps)) with
   | some r=>
    if r.flat=true then wrT n dst (.d r)
    else do
     let _ ← shutArgs tt as_
     wrT n dst (mkT r)
   | none=>zp
  else if (ctr.gives k).length=as_.length then do
   let xs ← passArgs tt ((ctr.gives k).zip as_)
   match ctr.run k (ctr.norm k (xs ++ caps)) with
   | some r=>wrT n dst (mkT r)
   | none=>zp
  else zp
 | _=>zp
def takes:List (Operand × Nat) → TT → SM (List A)
 | [],_=>pure []
 | (x,t) :: ps,tt=>do
  let y ← opnd x
  let a ← takeC tt t y
  let bs ← takes ps tt
  pure (a :: bs)
def z0M:List A → List (Nat × A) → List A
 | fs,[]=>fs
 | fs,(i,a) :: ps=>z0M (fs.set i a) ps
theorem zw (us vs:List (Nat × Ent)) (st:St):ze (us ++ vs) st=ze vs (ze us st):=by
 induction us generalizing st with
 | nil=>rfl
 | cons u us ih=>simp [ze,ih]
variable {U:List (Nat × Ent)}{R:List Nat}
theorem bind_some {α β:Type} {m:SM α} {f:α → SM β}  {b:β}   (h:(m >>= f) st=some (b,R,U)) :
  ∃ a R1 U1 R2 U2,m st=some (a,R1,U1) ∧ f a (ze U1 st)=some (b,R2,U2) ∧ R=R1 ++ R2 ∧ U=U1 ++ U2:=by
 change SM.bind m f st=_ at h
 unfold SM.bind at h
 split at h
 ·cases h
 ·rename_i a R1 U1 h1
  split at h
  ·cases h
  ·rename_i b' R2 U2 h2
   simp only [Option.some.injEq,Prod.mk.injEq] at h
   obtain ⟨rfl,rfl,rfl⟩:=h
   exact ⟨a,R1,U1,R2,U2,h1,h2,rfl,rfl⟩
theorem zr {a b:α}    (h:(pure a:SM α) st=some (b,R,U)):b=a ∧ R=[] ∧ U=[]:=by
 change SM.pure a st=_ at h
 simp only [SM.pure,Option.some.injEq,Prod.mk.injEq] at h
 exact ⟨h.1.symm,h.2.1.symm,h.2.2.symm⟩
theorem y7 (h:rdE k st=some (e,R,U)):e=st k ∧ R=[k] ∧ U=[]:=by
 simp only [rdE,Option.some.injEq,Prod.mk.injEq] at h
 exact ⟨h.1.symm,h.2.1.symm,h.2.2.symm⟩
variable {u:Unit}
theorem xH (h:wrE k e st=some (u,R,U)):R=[] ∧ U=[(k,e)]:=by
 simp only [wrE,Option.some.injEq,Prod.mk.injEq] at h
 exact ⟨h.2.1.symm,h.2.2.symm⟩
theorem uk {x:Option α} {a:α}    (h:ofO x st=some (a,R,U)):x=some a ∧ R=[] ∧ U=[]:=by
 unfold ofO at h
 split at h
 ·simp only [Option.some.injEq,Prod.mk.injEq] at h
  exact ⟨by simp [*],h.2.1.symm,h.2.2.symm⟩
 ·cases h
theorem z7 {a:α}    (h:(zp:SM α) st=some (a,R,U)):False:=by
 simp [zp] at h
variable {X:List Nat}
theorem Sim.free (h:Sim C S Fp X st a w) (t k:Nat) (hk:k ∈ Fp t) :
  k < w.heap.size ∧ (∀ o,S k o=none) ∧ True:=by
 have q:=h.ent t
 unfold xm at q
 cases htt:(st t).t with
 | own z=>simp only [htt] at q; obtain ⟨cs,g1,_⟩:=q; exact g1.own k hk
 | gone=>simp only [htt] at q; simp [q] at hk
 | d z=>simp only [htt] at q; simp [q.2] at hk
 | als _ _ _ _=>simp only [htt] at q; simp [q.1] at hk
 | ptr _ _ _ _=>simp only [htt] at q; simp [q.1] at hk
def TOk (S:zl) (h:Array Obj) (st:St) (tv:Nat → Value) (x:T) (v:Value):Prop :=
 match x with
 | .d y=>xe S y v
 | .als r p er ec=>Zc h st tv r p er ec v
 | .ptr r p er ec=>jW h st tv r p er ec v
 | _=>False
theorem yW {v u:Value}:wT S (.atom v) u ↔ u=v ∧ v.oneCell'=true:=by
 constructor
 ·rintro ⟨cs,h,rfl⟩
  simp only [Rep] at h
  obtain ⟨rfl,h⟩:=h
  exact ⟨rfl,h⟩
 ·rintro ⟨rfl,h⟩
  exact ⟨[u],by simp [Rep,h],rfl⟩
theorem zy {v u:Value}:xe S (.atom v) u ↔ u=v ∧ v.oneCell'=true:=by
 simp only [xe]; exact yW
variable {x:Operand}
theorem zC (h:Sim C S Fp X st a w)  {y:T}   (e:opnd x st=some (y,R,U)) :
  U=[] ∧ TOk S w.heap st (Act.tv a) y (a.eval x):=by
 cases x with
 | tmp t=>
  simp only [opnd] at e
  obtain ⟨en,R1,U1,R2,U2,h1,h2,rfl,rfl⟩:=bind_some e
  obtain ⟨rfl,rfl,rfl⟩:=y7 h1
  simp only [ze] at h2
  have q:=h.ent t
  unfold xm at q
  cases ht:(st t).t with
  | gone=>simp only [ht] at h2; exact (z7 h2).elim
  | d z=>
   simp only [ht] at h2 q
   obtain ⟨rfl,rfl,rfl⟩:=zr h2
   exact ⟨rfl,q.1⟩
  | own z=>
   simp only [ht] at h2 q
   obtain ⟨rfl,rfl,rfl⟩:=zr h2
   refine ⟨rfl,Nat.le_refl _,Nat.le_refl _,?_⟩
   simp only [ht]
   exact fun _ _=>.inl ⟨trivial,rfl⟩
  | als r p er ec=>
   simp only [ht] at h2 q
   obtain ⟨rfl,rfl,rfl⟩:=zr h2
   exact ⟨rfl,q.2⟩
  | ptr r p er ec=>
   simp only [ht] at h2 q
   obtain ⟨rfl,rfl,rfl⟩:=zr h2
   exact ⟨rfl,q.2⟩
 | const v=>
  simp only [opnd] at e
  split at e
  ·obtain ⟨rfl,rfl,rfl⟩:=zr e
   exact ⟨rfl,zy.2 ⟨rfl,‹_›⟩⟩
  ·exact (z7 e).elim
 | func f=>
  simp only [opnd] at e
  obtain ⟨rfl,rfl,rfl⟩:=zr e
  refine ⟨rfl,?_⟩
  simp only [TOk,xe]
  exact ⟨[.func (.func f) #[] #[]],by simp [Rep,yd],rfl⟩
 | global g=>
  simp only [opnd] at e
  cases hg:zfS g with
  | none=>simp only [hg] at e; exact (z7 e).elim
  | some z=>
   simp only [hg] at e
   obtain ⟨rfl,rfl,rfl⟩:=zr e
   obtain ⟨l,r1,r2⟩:=h.still.gok g z hg
   refine ⟨rfl,?_⟩
   simp only [TOk,xe]
   exact ⟨[.pointer (some ⟨g,0,none⟩)],by simp only [Rep]; exact ⟨g,0,l,rfl,r1,r2⟩,rfl⟩
variable {y:A}
theorem z7V (e:look r p er ec st=some (y,R,U)) :
  U=[] ∧ ((∃ x,(st r).t=.own x ∧ (st r).er=er ∧ (p=[] ∨ (st r).ec=ec) ∧ we p x=some y) ∨ ((st r).t=.d y ∧ (st r).er=er ∧ p=[])):=by
 simp only [look] at e
 obtain ⟨en,R1,U1,R2,U2,h1,h2,rfl,rfl⟩:=bind_some e
 obtain ⟨rfl,rfl,rfl⟩:=y7 h1
 simp only [ze] at h2
 cases ht:(st r).t with
 | own x=>
  simp only [ht] at h2
  split at h2
  ·rename_i hc
   obtain ⟨g,rfl,rfl⟩:=uk h2
   exact ⟨rfl,.inl ⟨x,rfl,hc.1,hc.2,g⟩⟩
  ·exact (z7 h2).elim
 | d x=>
  simp only [ht] at h2
  split at h2
  ·rename_i hc
   obtain ⟨rfl,rfl,rfl⟩:=zr h2
   exact ⟨rfl,.inr ⟨rfl,hc.1,hc.2⟩⟩
  ·exact (z7 h2).elim
 | gone=>simp only [ht] at h2; exact (z7 h2).elim
 | als _ _ _ _=>simp only [ht] at h2; exact (z7 h2).elim
 | ptr _ _ _ _=>simp only [ht] at h2; exact (z7 h2).elim
variable {ty:TypeId}
theorem XS {cs cs':List Value}  {b o:Nat}   (hy:zJ S h y cs F) (hb:h[b]?=some (.cells arr ty (0,0))) (hs:z4W arr o cs) (hl:cs'.length=y.size) (hs':zdw h b o cs'):cs'=cs:=by
 apply List.ext_getElem?
 intro j
 by_cases hj:j < y.size
 ·have h1:=hs' j cs'[j] (List.getElem?_eq_getElem (by omega))
  have hlen:=hy.len
  have h2:=hs j cs[j] (List.getElem?_eq_getElem (by omega))
  simp only [y5,hb] at h1
  rw [h2] at h1
  rw [List.getElem?_eq_getElem (by omega),List.getElem?_eq_getElem (by omega)]
  exact h1.symm
 ·have hlen:=hy.len
  rw [List.getElem?_eq_none (by omega),List.getElem?_eq_none (by omega)]
theorem JU (h:Sim C S Fp X st a w)     (ha:Zc w.heap st (Act.tv a) r p er ec v)
    {y:A} {R:List Nat} {U:List (Nat × Ent)} (e:look r p er ec st=some (y,R,U)) :
    U=[] ∧ ((∃ x cs F,(st r).t=.own x ∧ (st r).er=er ∧ (p=[] ∨ (st r).ec=ec) ∧ we p x=some y ∧ zJ S w.heap y cs F ∧ v=zS y cs ∧ (∀ k ∈ F,k ∈ Fp r) ∧ F.Nodup) ∨ ((st r).t=.d y ∧ (st r).er=er ∧ p=[] ∧ v=Act.tv a r ∧ xe S y v)):=by
  obtain ⟨rfl,q⟩:=z7V e
  refine ⟨rfl,?_⟩
  have hr:=h.ent r
  unfold xm at hr
  obtain ⟨_,_,a3⟩:=ha
  rcases q with ⟨x,ht,e1,e2,e3⟩ | ⟨ht,e1,e2⟩
  · left
    simp only [ht] at hr a3
    obtain ⟨cs,c1,c2,c3⟩:=hr
    rcases a3 e1 e2 with ⟨rfl,rfl⟩ | ⟨o1,y',b,o,cs',g1,g2,g3,g4,g5⟩
    · simp only [we,Option.some.injEq] at e3
      subst e3
      exact ⟨x,cs,Fp r,ht,e1,e2,rfl,c1,c3,fun _ h=>h,c2⟩
    · rw [e3] at g1
      simp only [Option.some.injEq] at g1
      subst g1
      obtain ⟨b',o',arr,ty,csy,Fy,f1,f2,f3,f4,f5,f6,f7,f8,_⟩:=X2 p c1 c2 (by rintro rfl; simp [JQ] at o1) (by rintro i q rfl; simp [JQ] at o1) e3
      rw [c3,f1] at g2
      simp only [Option.some.injEq,Prod.mk.injEq] at g2
      obtain ⟨rfl,rfl⟩:=g2
      have:=XS f4 f2 f3 g3 g4
      subst this
      exact ⟨x,cs',Fy,ht,e1,e2,e3,f4,g5,f7,f8⟩
  · right
    simp only [ht] at hr a3
    subst e2
    have:=a3 e1 rfl
    subst this
    exact ⟨ht,e1,rfl,rfl,hr.1⟩
theorem vM (h:Sim C S Fp X st a w) {x:T}  (hx:TOk S w.heap st (Act.tv a) x v)    (e:val x st=some (y,R,U)) :
  U=[] ∧ xe S y v:=by
 cases x with
 | d z=>simp only [val] at e; obtain ⟨rfl,rfl,rfl⟩:=zr e; exact ⟨rfl,hx⟩
 | als r p er ec=>
  simp only [val] at e
  obtain ⟨z,R1,U1,R2,U2,h1,h2,rfl,rfl⟩:=bind_some e
  obtain ⟨rfl,q⟩:=JU h hx h1
  split at h2
  ·rename_i hd
   obtain ⟨rfl,rfl,rfl⟩:=zr h2
   refine ⟨rfl,?_⟩
   rcases q with ⟨x,cs,F,_,_,_,_,q5,q6,_⟩ | ⟨_,_,_,_,q5⟩
   ·exact wT.repV ⟨cs,(q5.isD hd).1,q6⟩
   ·exact q5
  ·exact (z7 h2).elim
 | gone=>simp only [val] at e; exact (z7 e).elim
 | own _=>simp only [val] at e; exact (z7 e).elim
 | ptr _ _ _ _=>simp only [val] at e; exact (z7 e).elim
theorem xe.conc (h:Array Obj) (hr:xe S y v) (hy:∀ fs,y ≠ .tup fs):∃ cs,zJ S h y cs [] ∧ v=zS y cs:=by
 have:wT S y v:=by
  cases y <;> simp only [xe] at hr <;> first | exact hr | exact absurd rfl (hy _)
 obtain ⟨cs,h1,h2⟩:=this
 exact ⟨cs,h1.conc h,h2⟩
theorem z1y (h:Sim C S Fp X st a w) {x:T}  (hx:TOk S w.heap st (Act.tv a) x v)    (e:take x st=some (y,R,U)) :
  ∃ Fp' F,Sim C S Fp' (F ++ X) (ze U st) a w ∧ ((xe S y v ∧ F=[]) ∨ ∃ cs,zJ S w.heap y cs F ∧ F.Nodup ∧ v=zS y cs):=by
 cases x with
 | d z=>simp only [take] at e; obtain ⟨rfl,rfl,rfl⟩:=zr e; exact ⟨Fp,[],h,.inl ⟨hx,rfl⟩⟩
 | als r p er ec=>
  simp only [take] at e
  obtain ⟨z,R1,U1,R2,U2,h1,h2,rfl,rfl⟩:=bind_some e
  obtain ⟨rfl,q⟩:=JU h hx h1
  simp only [ze] at h2
  simp only [List.nil_append]
  by_cases hd:z.isD=true
  ·rw [if_pos hd] at h2
   obtain ⟨rfl,rfl,rfl⟩:=zr h2
   refine ⟨Fp,[],h,.inl ⟨?_,rfl⟩⟩
   rcases q with ⟨x,cs,F,_,_,_,_,q5,q6,_⟩ | ⟨_,_,_,_,q5⟩
   ·exact wT.repV ⟨cs,(q5.isD hd).1,q6⟩
   ·exact q5
  ·rw [if_neg hd] at h2
   by_cases hpl:z.plain=true
   case neg=>rw [if_neg hpl] at h2; exact (z7 h2).elim
   rw [if_pos hpl] at h2
   obtain ⟨en,R3,U3,R4,U4,h3,h4,rfl,rfl⟩:=bind_some h2
   obtain ⟨rfl,rfl,rfl⟩:=y7 h3
   simp only [ze] at h4
   rcases q with ⟨x,cs,F,q1,q2,q3,q4,q5,q6,q7,q8⟩ | ⟨q1,_⟩
   ·simp only [q1] at h4
    have hr:=h.ent r
    unfold xm at hr
    simp only [q1] at hr
    by_cases hp:p=[]
    ·rw [if_pos hp] at h4
     obtain ⟨u5,R5,U5,R6,U6,h5,h6,rfl,rfl⟩:=bind_some h4
     obtain ⟨rfl,rfl⟩:=xH h5
     obtain ⟨rfl,rfl,rfl⟩:=zr h6
     subst hp
     simp only [we,Option.some.injEq] at q4
     subst q4
     obtain ⟨cs',c1,c2,c3⟩:=hr
     have hv:v=Act.tv a r:=by
      have:=hx.2.2
      simp only [q1] at this
      rcases this q2 (.inl trivial) with ⟨_,hv⟩ | ⟨ho,_⟩
      ·exact hv
      ·simp [JQ] at ho
     refine ⟨Jp Fp r [],Fp r,?_,.inr ⟨cs',c1,c2,by rw [hv,c3]⟩⟩
     simp only [List.nil_append,List.append_nil,ze]
     refine h.change r .gone _ _ [] h.below (fun _ _ _ h=>h) h.still.cell h.sbase (fun t k _ hk=>⟨rfl,(h.free t k hk).2.1⟩) rfl (.inl ⟨x,q1⟩) (Nat.le_succ _) (Nat.lt_succ_self _) (by simp) (by simp) ?_ ?_ (by simp) ?_
     ·rw [List.nodup_append]
      refine ⟨c2,h.xn,?_⟩
      rintro m hm m' hm' rfl
      exact h.xd r m hm' hm
     ·intro t k ht hk
      rcases List.mem_append.1 hk with hk | hk
      ·exact fun hk'=>ht (h.disj t r k hk' hk)
      ·exact h.xd t k hk
     ·intro k hk
      rcases List.mem_append.1 hk with hk | hk
      ·exact h.base r k hk
      ·exact h.xb k hk
    ·rw [if_neg hp] at h4
     obtain ⟨u5,R5,U5,R6,U6,h5,h6,rfl,rfl⟩:=bind_some h4
     obtain ⟨rfl,rfl⟩:=xH h5
     obtain ⟨rfl,rfl,rfl⟩:=zr h6
     obtain ⟨cs',c1,c2,c3⟩:=hr
     have ho:JQ p=true:=by
      have:=hx.2.2
      simp only [q1] at this
      rcases this q2 q3 with ⟨hp',_⟩ | ⟨ho,_⟩
      ·exact absurd hp' hp
      ·exact ho
     have hx3:=hx.2.2
     simp only [q1] at hx3
     rcases hx3 q2 q3 with ⟨hp',_⟩ | ⟨_,y',b,o,csa,g1,g2,g3,g4,g5⟩
     ·exact absurd hp' hp
     rw [q4] at g1
     simp only [Option.some.injEq] at g1
     subst g1
     obtain ⟨b',o',arr,ty,csy,Fy,f1,f2,f3,f4,f5,f6,f7,f8,f9⟩:=X2 p c1 c2 hp (by rintro i q rfl; simp [JQ] at ho) q4
     rw [c3,f1] at g2
     simp only [Option.some.injEq,Prod.mk.injEq] at g2
     obtain ⟨rfl,rfl⟩:=g2
     have hcs:=XS f4 f2 f3 g3 g4
     subst hcs
     obtain ⟨F0',d1,d2,d3⟩:=f9 S w.heap (.dead y.size) csa [] (fun _ _ _ h=>h) rfl (by simp only [zJ]; exact ⟨f4.len,f4.one1 hpl,trivial⟩) (by simp) (fun k hk _=>(c1.own k hk).2.1) (fun _ _ _ _=>rfl) (by rw [Wz f3]; exact f2) (by simp)
     have hval:zS (V0 p x (.dead y.size)) cs'=zS x cs':=by
      cases p with
      | nil=>exact absurd rfl hp
      | cons s p'=>
       cases s with
       | fld _=>simp [JQ] at ho
       | deref=>cases x <;> simp [V0,zS]
       | idx _=>cases x <;> simp [V0,zS]
     refine ⟨Jp Fp r F0',Fy,?_,.inr ⟨csa,f4,f8,g5⟩⟩
     simp only [List.nil_append,List.append_nil,ze]
     refine h.change r (.own (V0 p x (.dead y.size))) _ _ F0' h.below (fun _ _ _ h=>h) h.still.cell h.sbase (fun t k _ hk=>⟨rfl,(h.free t k hk).2.1⟩) ⟨⟨cs',d1,d2,by rw [hval]; exact c3⟩,x,q1⟩ (.inl ⟨x,q1⟩) (Nat.le_refl _) (Nat.lt_succ_self _) ?_ ?_ ?_ ?_ ?_ ?_
     ·intro t k ht hk hk'
      rcases (d3 k).1 hk with hk | hk
      ·exact ht (h.disj t r k hk' hk.1)
      ·simp at hk
     ·intro k hk
      rcases (d3 k).1 hk with hk | hk
      ·exact h.base r k hk.1
      ·simp at hk
     ·rw [List.nodup_append]
      refine ⟨f8,h.xn,?_⟩
      rintro m hm m' hm' rfl
      exact h.xd r m hm' (f7 m hm)
     ·intro t k ht hk
      rcases List.mem_append.1 hk with hk | hk
      ·exact fun hk'=>ht (h.disj t r k hk' (f7 k hk))
      ·exact h.xd t k hk
     ·intro k hk hk'
      rcases (d3 k).1 hk' with hk' | hk'
      ·rcases List.mem_append.1 hk with hk | hk
       ·exact hk'.2 hk
       ·exact h.xd r k hk hk'.1
      ·simp at hk'
     ·intro k hk
      rcases List.mem_append.1 hk with hk | hk
      ·exact h.base r k (f7 k hk)
      ·exact h.xb k hk
   ·simp only [q1] at h4; exact (z7 h4).elim
 | gone=>simp only [take] at e; exact (z7 e).elim
 | own _=>simp only [take] at e; exact (z7 e).elim
 | ptr _ _ _ _=>simp only [take] at e; exact (z7 e).elim
def Has (S:zl) (h:Array Obj) (y:A) (v:Value) (F:List Nat):Prop:=(xe S y v ∧ F=[]) ∨ ∃ cs,zJ S h y cs F ∧ F.Nodup ∧ v=zS y cs
mutual
theorem Rep.isD:∀ {a:A} {cs:List Value},Rep S a cs → a.isD=true
 | .agg fs,_,r=>by simp only [Rep] at r; simp only [A.isD]; exact yd.areD r
 | .atom _,_,_=>rfl
 | .fn _ _,_,_=>rfl
 | .sl _ _ _,_,_=>rfl
 | .sptr _,_,_=>rfl
 | .dop _,_,_=>rfl
 | .tup _,_,r=>by simp only [Rep] at r
 | .osl _ _ _,_,r=>by simp only [Rep] at r
 | .box _,_,r=>by simp only [Rep] at r
 | .dead _,_,r=>by simp only [Rep] at r
 | .opq _,_,r=>by simp only [Rep] at r
theorem yd.areD:∀ {as_:List A} {cs:List Value},yd S as_ cs → A.areD as_=true
 | [],_,_=>rfl
 | a :: as_,_,r=>by
  simp only [yd] at r
  obtain ⟨c1,c2,_,r1,r2⟩:=r
  simp only [A.areD,Rep.isD r1,yd.areD r2,Bool.and_self]
end
def z60 (P:Program) (t:Nat):TK → Prop
 | .int k=>P.underlying t=some (.int k)
 | .bool=>P.underlying t=some .bool
 | .str=>P.underlying t=some .string
 | .slice e=>P.underlying t=some (.slice e)
 | .ptr e=>P.underlying t=some (.pointer e)
 | .struct fs=>∃ fields,P.underlying t=some (.struct fields) ∧ fields.toList.map (fun f=>(f.offset,P.cellsOf f.type))=fs ∧ ∀ f ∈ fields.toList,∃ i,P.info? f.type=some i
 | .array n e=>P.underlying t=some (.array n e)
 | .other=>∃ d,P.underlying t=some d ∧ (match d with | .struct _ | .array _ _=>false | _=>true)=true
def yX:List Value → List Value → Option Bool
 | [],[]=>some true
 | .int k a :: as_,.int k' b :: bs=>if k=k' then (yX as_ bs).map fun r=>(a == b) && r else none
 | _,_=>none
structure zgW (P:Program) (t n:Nat):Prop where
 guard:P.eqGuardType P.depth t=false
 run:∀ (vs us:List Value) (r:Bool) (w:World),vs.length=n → us.length=n → yX vs us=some r → (Op.equal t (.agg vs.toArray) (.agg us.toArray)).run P w=.ok r w
def zlo (z:A) (v:Value) (n:Nat):Prop:=z.size=n ∧ ∀ S h,zJ S h z v.cells.toList []
structure wX (P:Program) (t:Nat) (i:TI):Prop where
 info:∃ f,P.info? t=some f ∧ f.size=i.size ∧ f.bytes=i.bytes ∧ ∀ z,i.zero=some z → ∃ v,f.zero=some v ∧ zlo z v i.size
 kind:z60 P t i.kind
 eqn:i.eqn=true → zgW P t i.size
def xq (P:Program) (tt:TT):Prop:=∀ t i,tt t=some i → wX P t i
def fen (r:Option Nat):Fence:={ Fence.wide with round:=r }
variable {P:Program}
theorem UB {f:FuncId} {vs:Array Value}  {R:Ending → World → Prop} (h:Calls P f vs w R) (r:Option Nat) (m:Nat):CallsIn (fen r) m P f vs w R:=by
 have h0:CallsIn Fence.wide m P f vs w R:=callsIn_wide.2 h
 cases r with
 | none=>exact h0
 | some l=>exact h0.inRound l
def vF (P:Program) (C:Ctx) (o:Oper) (a:Act) (w:World) (st':St):Prop :=
 ∀ (r:Option Nat) (m:Nat) (K:Act → World → Prop) (Q:Exit → Act → World → Prop),(∀ S Fp a' w',Sim C S Fp [] st' a' w' → K a' w') → o.wpIn (fen r) m P a w K Q
variable {o:Oper}
theorem YW {ρ:Operand → Value} {w w':World} {x:Next} (h:(execOp ρ o).run P w=.ok x w') (hx:∀ d,x ≠ .defer d) (r:Option Nat):(o.semAt r ρ).run P w=.ok x w':=by
 rw [Oper.semAt_eq r ρ o ?_]
 ·exact h
 ·intro c hc
  simp only [execOp,hc,Sem.run_bind] at h
  cases hr:(resolve ρ c o.type).run P w with
  | ok d w2=>
   simp only [hr,Result.andThen_ok,Sem.run_pure,Result.ok.injEq] at h
   exact hx _ h.1.symm
  | halt e w2=>simp [hr] at h
theorem zn {w w':World} {st':St}    (h:(execOp a.eval o).run P w=.ok (.value v) w') (hs:Sim C S Fp [] st' (a.put o.dst v) w'):vF P C o a w st':=by
 intro r m K Q hK
 refine ⟨fun _ _=>trivial,?_⟩
 rw [YW h (by simp)]
 exact hK _ _ _ _ hs
theorem z85 {w w':World} {st':St}   (h:(execOp a.eval o).run P w=.ok .skip w') (hd:o.dst=none) (hs:Sim C S Fp [] st' a w'):vF P C o a w st':=by
 intro r m K Q hK
 refine ⟨fun _ _=>trivial,?_⟩
 rw [YW h (by simp),Oper.uponIn_skip,hd]
 exact hK _ _ _ _ hs
variable {dst:Option Nat}
theorem z62 {x:T}     (e:wrT n dst x st=some (u,R,U)) :
  (dst=none ∧ U=[]) ∨ ∃ k,dst=some k ∧ n.ok k=true ∧ U=[(k,⟨x,(st k).er + 1,(st k).ec + 1⟩)]:=by
 unfold wrT at e
 cases dst with
 | none=>obtain ⟨_,_,rfl⟩:=zr e; exact .inl ⟨rfl,rfl⟩
 | some k=>
  right
  simp only at e
  split at e
  ·rename_i hk
   obtain ⟨en,R3,U3,R4,U4,h3,h4,rfl,rfl⟩:=bind_some e
   obtain ⟨rfl,rfl,rfl⟩:=y7 h3
   obtain ⟨rfl,rfl⟩:=xH h4
   exact ⟨k,rfl,hk,by simp⟩
  ·exact (z7 e).elim
variable {tt:TT}{t:Nat}{fs:List A}{xt:Nat}{op:BinOp}
section
variable {C:Ctx} {S:zl} {Fp:Nat → List Nat} {X:List Nat} {st:St} {a:Act} {w:World}
theorem Sim.dropX (h:Sim C S Fp X st a w):Sim C S Fp [] st a w :=
 h.mem h.below (fun _ _ _ h=>h) h.still.cell h.sbase (fun t k hk=>⟨rfl,(h.free t k hk).2.1⟩) (by simp) (by simp) (by simp)
theorem xL (h:Sim C S Fp X st a w)  {x:T}    (e:wrT C.n dst x st=some (u,R,U))  (hx:TOk S w.heap st (Act.tv a) x v) :
  ∃ Fp',Sim C S Fp' [] (ze U st) (a.put dst v) w:=by
 rcases z62 e with ⟨rfl,rfl⟩ | ⟨k,rfl,hk,rfl⟩
 ·exact ⟨Fp,h.dropX⟩
 ·refine ⟨_,h.put hk x [] v ?_ (by simp) (by simp) (by simp) (by simp) (by simp) (by simp)⟩
  unfold xm
  cases x with
  | gone=>exact hx.elim
  | own _=>exact hx.elim
  | d y=>exact ⟨hx,rfl⟩
  | als r p er ec=>exact ⟨rfl,Zc.put (Nat.lt_succ_self _) (Nat.lt_succ_self _) (fun t ht=>by simp [ht]) hx⟩
  | ptr r p er ec=>exact ⟨rfl,jW.put (Nat.lt_succ_self _) (Nat.lt_succ_self _) (fun t ht=>by simp [ht]) hx⟩
theorem Vn (h:Sim C S Fp (F ++ X) st a w)      (e:wrT C.n dst (.own y) st=some (u,R,U))  (hc:zJ S w.heap y cs F) (hn:F.Nodup) :
  ∃ Fp',Sim C S Fp' [] (ze U st) (a.put dst (zS y cs)) w:=by
 rcases z62 e with ⟨rfl,rfl⟩ | ⟨k,rfl,hk,rfl⟩
 ·exact ⟨Fp,h.dropX⟩
 ·exact ⟨_,h.put hk (.own y) F _ ⟨cs,hc,hn,rfl⟩ (fun t m _ hm=>h.xd t m (by simp [hm])) (fun m hm=>h.xb m (by simp [hm])) (by simp) (by simp) (by simp) (by simp)⟩
theorem Has.mkT (q:Has S h y v F):(mkT y=.d y ∧ xe S y v ∧ F=[]) ∨ (mkT y=.own y ∧ ∃ cs,zJ S h y cs F ∧ F.Nodup ∧ v=zS y cs):=by
 rcases q with ⟨q,rfl⟩ | ⟨cs,q1,q2,q3⟩
 ·left
  refine ⟨?_,q,rfl⟩
  unfold Go.Own.mkT
  cases y <;> try rfl
  all_goals
   simp only [xe] at q
   obtain ⟨cs,q,_⟩:=q
   simp [q.isD]
 ·by_cases hd:y.isD=true
  ·left
   obtain ⟨q4,rfl⟩:=q1.isD hd
   refine ⟨?_,wT.repV ⟨cs,q4,q3⟩,rfl⟩
   unfold Go.Own.mkT
   cases y <;> simp_all
  ·right
   refine ⟨?_,cs,q1,q2,q3⟩
   unfold Go.Own.mkT
   cases y <;> first | (simp [zJ] at q1; done) | simp_all
theorem z3o (h:Sim C S Fp (F ++ X) st a w)      (e:wrT C.n dst (mkT y) st=some (u,R,U))  (hc:Has S w.heap y v F) :
  ∃ Fp',Sim C S Fp' [] (ze U st) (a.put dst v) w:=by
 rcases hc.mkT with ⟨e1,q,rfl⟩ | ⟨e1,cs,q1,q2,rfl⟩
 ·rw [e1] at e
  exact xL h e q
 ·rw [e1] at e
  exact Vn h e q1 q2
theorem zc9 (q:Has S h y v F):Has S h (WB tt t y) v F:=by
 unfold WB
 split
 ·split
  ·split
   ·rename_i i _
    right
    have hv:v=.slice none 0 0 ∧ F=[]:=by
     rcases q with ⟨q,rfl⟩ | ⟨cs,q1,_,q3⟩
     ·exact ⟨(zy.1 q).1,rfl⟩
     ·simp only [zJ,Rep] at q1
      obtain ⟨⟨rfl,_⟩,rfl⟩:=q1
      exact ⟨q3,rfl⟩
    obtain ⟨rfl,rfl⟩:=hv
    refine ⟨[.slice none 0 0],?_,by simp,rfl⟩
    simp only [zJ]
    exact ⟨none,0,rfl,(fun _=>rfl),Nat.le_refl _,Nat.zero_le _,by simp,.inl (by simp)⟩
   ·exact q
  ·exact q
 ·exact q
theorem US (h:Sim C S Fp X st a w)   {x:T}  (hx:TOk S w.heap st (Act.tv a) x v)    (e:takeC tt t x st=some (y,R,U)) :
  ∃ Fp' F,Sim C S Fp' (F ++ X) (ze U st) a w ∧ Has S w.heap y v F:=by
 unfold takeC at e
 obtain ⟨z,R1,U1,R2,U2,h1,h2,rfl,rfl⟩:=bind_some e
 obtain ⟨rfl,rfl,rfl⟩:=zr h2
 obtain ⟨Fp',F,g1,g2⟩:=z1y h hx h1
 exact ⟨Fp',F,by simpa using g1,zc9 g2⟩
theorem xe.plain (h:xe S y v):y.plain=true:=by
 by_cases ht:∃ fs,y=.tup fs
 ·obtain ⟨fs,rfl⟩:=ht; rfl
 ·have q1:wT S y v:=by cases y <;> simp only [xe] at h <;> first | exact h | exact absurd ⟨_,rfl⟩ ht
  obtain ⟨cs,c1,_⟩:=q1
  exact c1.plain
theorem z82:∀ {y:A},y.isD=true → y.plain=true
 | .agg fs,h=>by simp only [A.isD] at h; simp only [A.plain]; exact areD_plains h
 | .opq _,h=>by simp [A.isD] at h
 | .atom _,_=>rfl
 | .fn _ _,_=>rfl
 | .sl _ _ _,_=>rfl
 | .sptr _,_=>rfl
 | .dop _,_=>rfl
 | .tup _,_=>rfl
 | .osl _ _ _,_=>rfl
 | .box _,_=>rfl
 | .dead _,_=>rfl
where areD_plains:∀ {ys:List A},A.areD ys=true → A.plains ys=true
 | [],_=>rfl
 | y :: ys,h=>by
  simp only [A.areD,Bool.and_eq_true] at h
  simp only [A.plains,z82 h.1,areD_plains h.2,Bool.and_self]
theorem zaf {x:T}  (hx:TOk S w.heap st (Act.tv a) x v)    (e:take x st=some (y,R,U)):y.plain=true:=by
 cases x with
 | d z=>simp only [take] at e; obtain ⟨rfl,rfl,rfl⟩:=zr e; exact xe.plain hx
 | als r p er ec=>
  simp only [take] at e
  obtain ⟨z,R1,U1,R2,U2,h1,h2,rfl,rfl⟩:=bind_some e
  by_cases hd:z.isD=true
  ·rw [if_pos hd] at h2
   obtain ⟨rfl,rfl,rfl⟩:=zr h2
   exact z82 hd
  ·rw [if_neg hd] at h2
   by_cases hpl:z.plain=true
   case neg=>rw [if_neg hpl] at h2; exact (z7 h2).elim
   rw [if_pos hpl] at h2
   obtain ⟨en,R3,U3,R4,U4,h3,h4,rfl,rfl⟩:=bind_some h2
   cases ht:en.t with
   | own x=>
    simp only [ht] at h4
    by_cases hp:p=[]
    ·rw [if_pos hp] at h4
     obtain ⟨u5,R5,U5,R6,U6,h5,h6,rfl,rfl⟩:=bind_some h4
     obtain ⟨rfl,rfl,rfl⟩:=zr h6
     exact hpl
    ·rw [if_neg hp] at h4
     obtain ⟨u5,R5,U5,R6,U6,h5,h6,rfl,rfl⟩:=bind_some h4
     obtain ⟨rfl,rfl,rfl⟩:=zr h6
     exact hpl
   | d _=>simp only [ht] at h4; exact (z7 h4).elim
   | gone=>simp only [ht] at h4; exact (z7 h4).elim
   | als _ _ _ _=>simp only [ht] at h4; exact (z7 h4).elim
   | ptr _ _ _ _=>simp only [ht] at h4; exact (z7 h4).elim
 | own z=>exact hx.elim
 | gone=>exact hx.elim
 | ptr r p er ec=>simp only [take] at e; exact (z7 e).elim
theorem z7R (h:y.plain=true):(WB tt t y).plain=true:=by
 unfold WB
 split
 ·split
  ·split <;> rfl
  ·rfl
 ·exact h
theorem z8F {x:T}  (hx:TOk S w.heap st (Act.tv a) x v)    (e:takeC tt t x st=some (y,R,U)):y.plain=true:=by
 unfold takeC at e
 obtain ⟨z,R1,U1,R2,U2,h1,h2,rfl,rfl⟩:=bind_some e
 obtain ⟨rfl,rfl,rfl⟩:=zr h2
 exact z7R (zaf hx h1)
def zcb (n:Fr) (dst:Option Nat) (x:Operand):SM Unit:=do
 let t ← opnd x
 wrT n dst t
theorem zi8 (h:Sim C S Fp [] st a w)   (ho:o.op=.move x)    (e:zcb C.n o.dst x st=some (u,R,U)):vF P C o a w (ze U st):=by
 unfold zcb at e
 obtain ⟨y,R1,U1,R2,U2,h1,h2,rfl,rfl⟩:=bind_some e
 obtain ⟨rfl,hx⟩:=zC h h1
 obtain ⟨Fp',hs⟩:=xL h h2 hx
 exact zn (v:=a.eval x) (by simp [execOp,ho]) hs
def z1W (tt:TT) (n:Fr) (dst:Option Nat) (t:Nat) (x:Operand):SM Unit:=do
 let y ← opnd x
 match y with
 | .ptr r p er ec=>wrT n dst (.ptr r p er ec)
 | y=>do
  let z ← takeC tt t y
  wrT n dst (mkT z)
theorem zdn (h:Sim C S Fp [] st a w)    (ho:o.op=.assign x)    (e:z1W tt C.n o.dst o.type x st=some (u,R,U)):vF P C o a w (ze U st):=by
 unfold z1W at e
 obtain ⟨y,R1,U1,R2,U2,h1,h2,rfl,rfl⟩:=bind_some e
 obtain ⟨rfl,hx⟩:=zC h h1
 have gen:∀ (R2:List Nat) (U2:List (Nat × Ent)),(do let z ← takeC tt o.type y; wrT C.n o.dst (mkT z):SM Unit) st=some (u,R2,U2) → vF P C o a w (ze U2 st):=by
  intro R2 U2 h2
  obtain ⟨z,R3,U3,R4,U4,h3,h4,rfl,rfl⟩:=bind_some h2
  obtain ⟨Fp',F,g1,g2⟩:=US h hx h3
  obtain ⟨Fp'',hs⟩:=z3o g1 h4 g2
  rw [zw]
  exact zn (v:=a.eval x) (by simp [execOp,ho]) hs
 cases y with
 | ptr r p er ec=>
  obtain ⟨Fp',hs⟩:=xL h h2 hx
  exact zn (v:=a.eval x) (by simp [execOp,ho]) hs
 | d _=>exact gen _ _ h2
 | als _ _ _ _=>exact gen _ _ h2
 | gone=>exact hx.elim
 | own _=>exact hx.elim
def z8f (tt:TT) (n:Fr) (dst:Option Nat) (op:BinOp) (xt:Nat) (x y:Operand):SM Unit:=do
 let tx ← opnd x
 let vx ← val tx
 let ty ← opnd y
 let vy ← val ty
 let r ← ofO (zgP tt op xt vx vy)
 wrT n dst (.d r)
theorem z9C (h:xe S (.agg fs) v):∃ cs,v=.agg cs.toArray ∧ yd S fs cs:=by
 simp only [xe] at h
 obtain ⟨cs,h1,h2⟩:=h
 simp only [Rep] at h1
 exact ⟨cs,h2,h1⟩
theorem Vw:∀ {as_ bs:List A} {r:Bool} {cs ds:List Value},vB as_ bs=some r → yd S as_ cs → yd S bs ds → yX cs ds=some r
 | [],[],r,cs,ds,h,h1,h2=>by simp only [yd] at h1 h2; subst h1; subst h2; simpa [vB,yX] using h
 | .atom (.int k a) :: as_,.atom (.int k' b) :: bs,r,cs,ds,h,h1,h2=>by
  simp only [yd] at h1 h2
  obtain ⟨c1,c2,rfl,q1,q2⟩:=h1
  obtain ⟨d1,d2,rfl,p1,p2⟩:=h2
  simp only [Rep] at q1 p1
  obtain ⟨rfl,_⟩:=q1
  obtain ⟨rfl,_⟩:=p1
  simp only [vB] at h
  split at h
  ·rename_i hk
   subst hk
   cases he:vB as_ bs with
   | none=>simp [he] at h
   | some r'=>
    simp only [he,Option.map_some,Option.some.injEq] at h
    simp [yX,Vw he q2 p2,h]
  ·cases h
 | [],_ :: _,_,_,_,h,_,_=>by simp [vB] at h
 | _ :: _,[],_,_,_,h,_,_=>by unfold vB at h; split at h <;> simp_all
 | a :: as_,b :: bs,r,cs,ds,h,h1,h2=>by
  unfold vB at h
  split at h
  ·simp_all
  ·rename_i k x xs k' y ys e1 e2
   simp only [List.cons.injEq] at e1 e2
   obtain ⟨rfl,rfl⟩:=e1
   obtain ⟨rfl,rfl⟩:=e2
   simp only [yd] at h1 h2
   obtain ⟨c1,c2,rfl,q1,q2⟩:=h1
   obtain ⟨d1,d2,rfl,p1,p2⟩:=h2
   simp only [Rep] at q1 p1
   obtain ⟨rfl,_⟩:=q1
   obtain ⟨rfl,_⟩:=p1
   split at h
   ·rename_i hk
    subst hk
    cases he:vB as_ bs with
    | none=>simp [he] at h
    | some r'=>
     simp only [he,Option.map_some,Option.some.injEq] at h
     simp [yX,Vw he q2 p2,h]
   ·cases h
  ·cases h
theorem zbC {P:Program}  {k:IntKind} {x y:Int} {r:A} (e:zcH op k x y=some r) (xt:Nat) (p q:Operand) (w:World) :
    ∃ v,xe S r v ∧ (do eqGuard op xt p q (.int k x) (.int k y); Go.binOp op xt (.int k x) (.int k y)).run P w=.ok v w:=by
  cases op <;> simp only [zcH] at e
  all_goals first
    | (simp only [Option.some.injEq] at e; subst e
       refine ⟨_,zy.2 ⟨rfl,rfl⟩,?_⟩
       simp [eqGuard,Go.binOp,Op.intArith,Op.intCmp]; done)
    | (split at e
       · cases e
       · rename_i h0
         simp only [Option.some.injEq] at e; subst e
         refine ⟨_,zy.2 ⟨rfl,rfl⟩,?_⟩
         simp [eqGuard,Go.binOp,Op.intDiv,h0])
    | (cases e; done)
theorem KT (hb:P.underlying xt=some .bool) (x y:Bool) (w:World):(Op.equal xt (.bool x) (.bool y)).run P w=.ok (x == y) w:=by
 have:∀ d,(Op.equalIn (d + 1) xt (.bool x) (.bool y)).run P w=.ok (x == y) w:=by
  intro d
  simp [Op.equalIn,run_underlying hb]
 exact this 9999
theorem z2h (hb:P.underlying xt=some .bool) (x y:Bool) (p q:Operand) (w:World) :
  (do eqGuard .eql xt p q (.bool x) (.bool y); Go.binOp .eql xt (.bool x) (.bool y)).run P w=.ok (.bool (x == y)) w ∧
  (do eqGuard .neq xt p q (.bool x) (.bool y); Go.binOp .neq xt (.bool x) (.bool y)).run P w=.ok (.bool (!(x == y))) w:=by
 constructor
 ·show (do (pure ():Sem Unit); (do pure (Value.bool (← Op.equal xt (.bool x) (.bool y))))).run P w=_
  simp only [Sem.run_bind,Sem.run_pure,Result.andThen_ok,KT hb]
 ·show (do (pure ():Sem Unit); (do pure (Value.bool (!(← Op.equal xt (.bool x) (.bool y)))))).run P w=_
  simp only [Sem.run_bind,Sem.run_pure,Result.andThen_ok,KT hb]
theorem z3P {x y:Array Value} {r:Bool}  (hg:P.eqGuardType P.depth xt=false) (hr:(Op.equal xt (.agg x) (.agg y)).run P w=.ok r w) (p q:Operand) :
  (do eqGuard .eql xt p q (.agg x) (.agg y); Go.binOp .eql xt (.agg x) (.agg y)).run P w=.ok (.bool r) w ∧
  (do eqGuard .neq xt p q (.agg x) (.agg y); Go.binOp .neq xt (.agg x) (.agg y)).run P w=.ok (.bool (!r)) w:=by
 have h1:(eqGuard .eql xt p q (.agg x) (.agg y)).run P w=.ok () w:=by
  show (do if !(← program).eqGuardType (← program).depth xt then pure () else _:Sem Unit).run P w=_
  simp [program,Sem.run,hg]
 have h2:(eqGuard .neq xt p q (.agg x) (.agg y)).run P w=.ok () w:=by
  show (do if !(← program).eqGuardType (← program).depth xt then pure () else _:Sem Unit).run P w=_
  simp [program,Sem.run,hg]
 constructor
 ·show (do eqGuard .eql xt p q (.agg x) (.agg y); (do pure (Value.bool (← Op.equal xt (.agg x) (.agg y))))).run P w=_
  simp only [Sem.run_bind,Sem.run_pure,Result.andThen_ok,h1,hr]
 ·show (do eqGuard .neq xt p q (.agg x) (.agg y); (do pure (Value.bool (!(← Op.equal xt (.agg x) (.agg y)))))).run P w=_
  simp only [Sem.run_bind,Sem.run_pure,Result.andThen_ok,h2,hr]
theorem ziO {P:Program}  (hT:xq P tt) {S:zl}   {x y:Operand} {vx vy r:A} {ux uy:Value} (qx:xe S vx ux) (qy:xe S vy uy) (hr:zgP tt op xt vx vy=some r) (w:World) :
  ∃ v,xe S r v ∧ (do eqGuard op xt x y ux uy; Go.binOp op xt ux uy).run P w=.ok v w:=by
 have fin:∀ v,xe S r v → (do eqGuard op xt x y ux uy; Go.binOp op xt ux uy).run P w=.ok v w → ∃ v,xe S r v ∧ (do eqGuard op xt x y ux uy; Go.binOp op xt ux uy).run P w=.ok v w:=fun v h1 h2=>⟨v,h1,h2⟩
 unfold zgP at hr
 split at hr
 ·
  obtain ⟨ex,_⟩:=zy.1 qx
  obtain ⟨ey,_⟩:=zy.1 qy
  split at hr
  ·rename_i hk
   subst hk
   obtain ⟨v,hv,hrun⟩:=zbC (S:=S) (P:=P) hr xt x y w
   exact fin v hv (by rw [ex,ey]; exact hrun)
  ·cases hr
 ·
  obtain ⟨ex,_⟩:=zy.1 qx
  obtain ⟨ey,_⟩:=zy.1 qy
  split at hr
  ·rename_i htt
   have hb:P.underlying xt=some .bool:=(hT _ _ htt).kind
   split at hr
   ·simp only [Option.some.injEq] at hr; subst hr
    refine fin _ (zy.2 ⟨rfl,rfl⟩) ?_
    rw [ex,ey]
    exact (z2h hb _ _ x y w).1
   ·simp only [Option.some.injEq] at hr; subst hr
    refine fin _ (zy.2 ⟨rfl,rfl⟩) ?_
    rw [ex,ey]
    exact (z2h hb _ _ x y w).2
   ·cases hr
  ·cases hr
 ·
  obtain ⟨cs,ex,rx⟩:=z9C qx
  obtain ⟨ds,ey,ry⟩:=z9C qy
  split at hr
  ·rename_i i htt
   split at hr
   ·rename_i hc
    obtain ⟨c1,c2,c3⟩:=hc
    have heq:=(hT _ _ htt).eqn c1
    have len:∀ {as_ bs:List A} {r:Bool} {cs:List Value},vB as_ bs=some r → yd S as_ cs → cs.length=as_.length:=by
     intro as_
     induction as_ with
     | nil=>intro bs r cs _ q; simp only [yd] at q; simp [q]
     | cons a as_ ih=>
      intro bs r cs he q
      cases bs with
      | nil=>unfold vB at he; split at he <;> simp_all
      | cons b bs=>
       unfold vB at he
       split at he
       ·simp_all
       ·rename_i k x xs k' y ys e1 e2
        simp only [List.cons.injEq] at e1 e2
        obtain ⟨rfl,rfl⟩:=e1
        obtain ⟨rfl,rfl⟩:=e2
        simp only [yd] at q
        obtain ⟨d1,d2,rfl,p1,p2⟩:=q
        simp only [Rep] at p1
        obtain ⟨rfl,_⟩:=p1
        split at he
        ·cases he':vB as_ bs with
         | none=>simp [he'] at he
         | some r'=>simp [ih he' p2]
        ·cases he
       ·cases he
    have len':∀ {as_ bs:List A} {r:Bool} {cs ds:List Value},vB as_ bs=some r → yd S as_ cs → yd S bs ds → bs.length=as_.length ∧ ds.length=bs.length:=by
     intro as_
     induction as_ with
     | nil=>intro bs r cs ds he q q'; cases bs with | nil=>simp only [yd] at q'; simp [q'] | cons b bs=>simp [vB] at he
     | cons a as_ ih=>
      intro bs r cs ds he q q'
      cases bs with
      | nil=>unfold vB at he; split at he <;> simp_all
      | cons b bs=>
       unfold vB at he
       split at he
       ·simp_all
       ·rename_i k x xs k' y ys e1 e2
        simp only [List.cons.injEq] at e1 e2
        obtain ⟨rfl,rfl⟩:=e1
        obtain ⟨rfl,rfl⟩:=e2
        simp only [yd] at q q'
        obtain ⟨d1,d2,rfl,p1,p2⟩:=q
        obtain ⟨d3,d4,rfl,p3,p4⟩:=q'
        simp only [Rep] at p3
        obtain ⟨rfl,_⟩:=p3
        split at he
        ·cases he':vB as_ bs with
         | none=>simp [he'] at he
         | some r'=>have:=ih he' p2 p4; simp [this]
        ·cases he
       ·cases he
    split at hr
    ·obtain ⟨b,he,rfl⟩:=Option.map_eq_some_iff.1 hr
     ·refine fin _ (zy.2 ⟨rfl,rfl⟩) ?_
      rw [ex,ey]
      have:=heq.run cs ds b w (by rw [len he rx,c2]) (by rw [(len' he rx ry).2,c3]) (Vw he rx ry)
      exact (z3P heq.guard this x y).1
    ·obtain ⟨b,he,rfl⟩:=Option.map_eq_some_iff.1 hr
     ·refine fin _ (zy.2 ⟨rfl,rfl⟩) ?_
      rw [ex,ey]
      have:=heq.run cs ds b w (by rw [len he rx,c2]) (by rw [(len' he rx ry).2,c3]) (Vw he rx ry)
      exact (z3P heq.guard this x y).2
    ·cases hr
   ·cases hr
  ·cases hr
 ·cases hr
theorem zge (hT:xq P tt) (h:Sim C S Fp [] st a w)   {xt yt:Nat} {x y:Operand} (ho:o.op=.binOp op xt x y yt) {u:Unit} {R:List Nat} {U:List (Nat × Ent)}
  (e:z8f tt C.n o.dst op xt x y st=some (u,R,U)):vF P C o a w (ze U st):=by
 unfold z8f at e
 obtain ⟨tx,R1,U1,R2,U2,h1,e1,rfl,rfl⟩:=bind_some e
 obtain ⟨rfl,hx⟩:=zC h h1
 obtain ⟨vx,R3,U3,R4,U4,h3,e2,rfl,rfl⟩:=bind_some e1
 obtain ⟨rfl,qx⟩:=vM h hx h3
 obtain ⟨ty,R5,U5,R6,U6,h5,e3,rfl,rfl⟩:=bind_some e2
 obtain ⟨rfl,hy⟩:=zC h h5
 obtain ⟨vy,R7,U7,R8,U8,h7,e4,rfl,rfl⟩:=bind_some e3
 obtain ⟨rfl,qy⟩:=vM h hy h7
 obtain ⟨r,R9,U9,R10,U10,h9,e5,rfl,rfl⟩:=bind_some e4
 obtain ⟨hr,rfl,rfl⟩:=uk h9
 simp only [ze,List.nil_append] at e5 ⊢
 have fin:∀ v,xe S r v → (do eqGuard op xt x y (a.eval x) (a.eval y); Go.binOp op xt (a.eval x) (a.eval y)).run P w=.ok v w → vF P C o a w (ze U10 st):=by
  intro v hv hrun
  obtain ⟨Fp',hs⟩:=xL h e5 (x:=.d r) hv
  refine zn (v:=v) ?_ hs
  simp only [execOp,ho,Sem.run_bind,Sem.run_pure] at hrun ⊢
  rw [hrun]
  rfl
 obtain ⟨v,hv,hrun⟩:=ziO (x:=x) (y:=y) hT qx qy hr w
 exact fin v hv hrun
end
theorem YA:∀ (p q:List Xp) (x:A),we (p ++ q) x=(we p x).bind (we q)
 | [],q,x=>by simp [we]
 | s :: p,q,x=>by
  cases s <;> cases x <;> simp only [List.cons_append,we,Option.bind_none]
  ·exact YA p q _
  ·split <;> simp [YA p q]
  ·split <;> simp [YA p q]
theorem WC (h:Array Obj):∀ (p q:List Xp) (x:A) (b o:Nat) {b' o':Nat} {y:A},z2l h p x b o=some (b',o') → we p x=some y → z2l h (p ++ q) x b o=z2l h q y b' o'
 | [],q,x,b,o,b',o',y,h1,h2=>by
  simp only [z2l,Option.some.injEq,Prod.mk.injEq] at h1
  simp only [we,Option.some.injEq] at h2
  obtain ⟨rfl,rfl⟩:=h1
  subst h2
  rfl
 | s :: p,q,x,b,o,b',o',y,h1,h2=>by
  cases s <;> cases x <;> simp only [List.cons_append,z2l,we] at h1 h2 ⊢ <;> first | (cases h2; done) | skip
  ·split at h1
   ·exact WC h p q _ _ _ h1 h2
   ·cases h1
  ·split at h1
   ·rename_i hf
    simp only [hf] at h2 ⊢
    exact WC h p q _ _ _ h1 h2
   ·cases h1
  ·rename_i i sz tg es
   cases hf:es[i]? with
   | none=>simp [hf] at h2
   | some z=>
    simp only [hf] at h1 h2 ⊢
    cases hc:y5 h b o with
    | none=>simp [hc] at h1
    | some u=>
     simp only [hc] at h1 ⊢
     cases u <;> first | (simp at h1; done) | skip
     rename_i a _ _
     cases a with
     | none=>simp at h1
     | some a=>exact WC h p q _ _ _ h1 h2
theorem VR (h:Array Obj) (p q:List Xp) (x:A) (v:Value) {b' o':Nat}  (h1:wz h p x v=some (b',o')) (h2:we p x=some y):wz h (p ++ q) x v=z2l h q y b' o':=by
 cases p with
 | nil=>cases x <;> simp [wz] at h1
 | cons s p=>
  cases s <;> cases x <;> cases v <;> first | (simp [wz] at h1; done) | skip
  ·rename_i a
   cases a with
   | none=>simp [wz] at h1
   | some a=>
    simp only [List.cons_append,wz,we] at h1 h2 ⊢
    exact WC h p q _ _ _ h1 h2
  ·rename_i a _ _
   cases a with
   | none=>simp [wz] at h1
   | some a=>
    simp only [List.cons_append,wz,we] at h1 h2 ⊢
    split at h1
    ·rename_i hf
     simp only [hf] at h2 ⊢
     exact WC h p q _ _ _ h1 h2
    ·cases h1
theorem z0b {p q:List Xp} (h:JQ p=true):JQ (p ++ q)=true:=by
 cases p with
 | nil=>simp [JQ] at h
 | cons s p=>cases s <;> simp_all [JQ]
theorem Qm (w:World) (b o:Nat):w.cell? ⟨b,o,none⟩=y5 w.heap b o:=by
 simp only [World.cell?,y5]
 split <;> simp_all
theorem JL {k:TK} (h:z60 P t k) (w:World):(Go.isAgg t).run P w=.ok k.isAgg w:=by
 cases k with
 | struct fs=>obtain ⟨f,h,_⟩:=h; simp [Go.isAgg,run_underlying h,TK.isAgg]
 | other=>
  obtain ⟨d,h,hd⟩:=h
  cases d <;> first | (simp at hd; done) | simp [Go.isAgg,run_underlying h,TK.isAgg]
 | _=>simp only [z60] at h; simp [Go.isAgg,run_underlying h,TK.isAgg]
theorem qR (hT:xq P tt)  {i:TI} (h:tt t=some i) (w:World):(Go.sizeOf t).run P w=.ok i.size w:=by
 obtain ⟨f,h1,h2,_⟩:=(hT t i h).info
 simp [Go.sizeOf,typeInfo,h1,h2]
theorem Yq {P:Program}  (hT:xq P tt)   (hf:jQ tt t y=true)  {b o:Nat}  (hl:cs.length=y.size) (hs:zdw w.heap b o cs) :
  (loadVar t ⟨b,o,none⟩).run P w=.ok (zS y cs) w:=by
 unfold jQ at hf
 split at hf
 ·rename_i i hi
  simp only [Bool.and_eq_true,beq_iff_eq,Bool.or_eq_true] at hf
  obtain ⟨⟨h1,h2⟩,h3⟩:=hf
  have hk:=JL (hT t i hi).kind w
  unfold loadVar
  simp only [Sem.run_bind,hk,Result.andThen_ok,Sem.run_ite]
  by_cases ha:i.kind.isAgg=true
  ·rw [if_pos ha]
   have hc:=run_loadCells_list (P:=P) w ⟨b,o,none⟩ cs (fun j v hj=>by rw [Addr.add_lit,Qm]; exact hs j v hj)
   rw [h1] at ha
   cases y <;> simp [A.isAgg] at ha
   simp only [qR hT hi,Result.andThen_ok,h2,← hl,hc,Sem.run_pure,zS]
  ·rw [if_neg ha]
   have h4:i.size=1:=by simpa [ha] using h3
   have hlen:cs.length=1:=by omega
   obtain ⟨c,rfl⟩:=List.length_eq_one_iff.1 hlen
   have:=hs 0 c rfl
   simp only [Nat.add_zero] at this
   rw [run_load,Qm,this]
   rw [h1] at ha
   cases y <;> simp_all [A.isAgg,zS]
 ·cases hf
variable {es:List A}
section
variable {C:Ctx} {S:zl} {Fp:Nat → List Nat} {X:List Nat} {st:St} {a:Act} {w:World}
def zb7 (n:Fr) (dst:Option Nat) (op:UnOp) (x:Operand):SM Unit:=do
 let t ← opnd x
 let y ← val t
 let r ← ofO (unA op y)
 wrT n dst (.d r)
theorem zgZ (h:Sim C S Fp [] st a w)  {op:UnOp}  {x:Operand} (ho:o.op=.unOp op xt x)    (e:zb7 C.n o.dst op x st=some (u,R,U)):vF P C o a w (ze U st):=by
 unfold zb7 at e
 obtain ⟨t,R1,U1,R2,U2,h1,e1,rfl,rfl⟩:=bind_some e
 obtain ⟨rfl,hx⟩:=zC h h1
 obtain ⟨y,R3,U3,R4,U4,h3,e2,rfl,rfl⟩:=bind_some e1
 obtain ⟨rfl,qx⟩:=vM h hx h3
 obtain ⟨r,R9,U9,R10,U10,h9,e5,rfl,rfl⟩:=bind_some e2
 obtain ⟨hr,rfl,rfl⟩:=uk h9
 simp only [ze,List.nil_append] at e5 ⊢
 unfold unA at hr
 split at hr
 ·obtain ⟨ex,_⟩:=zy.1 qx
  split at hr
  ·simp only [Option.some.injEq] at hr; subst hr
   obtain ⟨Fp',hs⟩:=xL h e5 (x:=.d _) (zy.2 ⟨rfl,rfl⟩)
   exact zn (by simp [execOp,ho,ex,Op.unary]) hs
  ·cases hr
 ·obtain ⟨ex,_⟩:=zy.1 qx
  split at hr
  ·simp only [Option.some.injEq] at hr; subst hr
   obtain ⟨Fp',hs⟩:=xL h e5 (x:=.d _) (zy.2 ⟨rfl,rfl⟩)
   exact zn (by simp [execOp,ho,ex,Op.unary,Op.intArith]) hs
  ·cases hr
 ·cases hr
def zaO (tt:TT) (n:Fr) (dst:Option Nat) (s t:Nat) (x:Operand):SM Unit:=do
 let y ← opnd x
 let v ← val y
 match v with
 | .atom (.int _ m)=>
  match tt s with
  | some _=>
   match tt t with
   | some ⟨.int k,_,_,_,_⟩=>wrT n dst (.d (.atom (.int k (k.wrap m))))
   | _=>zp
  | none=>zp
 | _=>zp
theorem zcy {k:TK} (h:z60 P t k):∃ d,P.underlying t=some d:=by
 cases k <;> simp only [z60] at h <;> first | exact ⟨_,h⟩ | (obtain ⟨_,h,_⟩:=h; exact ⟨_,h⟩)
theorem ziF (hT:xq P tt) (h:Sim C S Fp [] st a w)  {s t:Nat} {x:Operand} (ho:o.op=.convert s t x)    (e:zaO tt C.n o.dst s t x st=some (u,R,U)):vF P C o a w (ze U st):=by
 unfold zaO at e
 obtain ⟨y,R1,U1,R2,U2,h1,e1,rfl,rfl⟩:=bind_some e
 obtain ⟨rfl,hx⟩:=zC h h1
 obtain ⟨v,R3,U3,R4,U4,h3,e2,rfl,rfl⟩:=bind_some e1
 obtain ⟨rfl,qx⟩:=vM h hx h3
 simp only [ze,List.nil_append] at e2 ⊢
 split at e2
 ·obtain ⟨ex,_⟩:=zy.1 qx
  cases hs:tt s with
  | none=>simp only [hs] at e2; exact (z7 e2).elim
  | some i=>
   simp only [hs] at e2
   obtain ⟨d,hd⟩:=zcy (hT _ _ hs).kind
   cases ht:tt t with
   | none=>simp only [ht] at e2; exact (z7 e2).elim
   | some j=>
    obtain ⟨kd,sz,by',z,eq⟩:=j
    cases kd with
    | int k=>
     simp only [ht] at e2
     have hk:P.underlying t=some (.int k):=(hT _ _ ht).kind
     obtain ⟨Fp',hs⟩:=xL h e2 (x:=.d _) (zy.2 ⟨rfl,rfl⟩)
     exact zn (by simp [execOp,ho,ex,convert,run_underlying hd,run_underlying hk,Conv.intToInt]) hs
    | _=>simp only [ht] at e2; exact (z7 e2).elim
 ·exact (z7 e2).elim
def z8V (n:Fr) (dst:Option Nat) (c x y:Operand):SM Unit:=do
 let tc ← opnd c
 let vc ← val tc
 match vc with
 | .atom (.bool true)=>do
  let t ← opnd x
  wrT n dst t
 | .atom (.bool false)=>do
  let t ← opnd y
  wrT n dst t
 | _=>zp
theorem zi2 (h:Sim C S Fp [] st a w)  {c x y:Operand} (ho:o.op=.pick c x y)    (e:z8V C.n o.dst c x y st=some (u,R,U)):vF P C o a w (ze U st):=by
 unfold z8V at e
 obtain ⟨tc,R1,U1,R2,U2,h1,e1,rfl,rfl⟩:=bind_some e
 obtain ⟨rfl,hx⟩:=zC h h1
 obtain ⟨vc,R3,U3,R4,U4,h3,e2,rfl,rfl⟩:=bind_some e1
 obtain ⟨rfl,qx⟩:=vM h hx h3
 simp only [ze,List.nil_append] at e2 ⊢
 split at e2
 ·obtain ⟨ex,_⟩:=zy.1 qx
  obtain ⟨t,R5,U5,R6,U6,h5,e6,rfl,rfl⟩:=bind_some e2
  obtain ⟨rfl,hx⟩:=zC h h5
  obtain ⟨Fp',hs⟩:=xL h e6 hx
  exact zn (by simp [execOp,ho,ex,asBool]) hs
 ·obtain ⟨ex,_⟩:=zy.1 qx
  obtain ⟨t,R5,U5,R6,U6,h5,e6,rfl,rfl⟩:=bind_some e2
  obtain ⟨rfl,hx⟩:=zC h h5
  obtain ⟨Fp',hs⟩:=xL h e6 hx
  exact zn (by simp [execOp,ho,ex,asBool]) hs
 ·exact (z7 e2).elim
def Kl (n:Fr) (dst:Option Nat) (x:Operand) (i:Nat):SM Unit:=do
 let t ← opnd x
 match t with
 | .d (.tup fs)=>match fs[i]? with | some y=>wrT n dst (.d y) | none=>zp
 | _=>zp
theorem Xc.get {α β:Type} {R:α → β → Prop}:∀ {as_:List α} {bs:List β} {i:Nat} {x:α},Xc R as_ bs → as_[i]?=some x → ∃ y,bs[i]?=some y ∧ R x y
 | [],_,i,x,_,e=>by simp at e
 | a :: as_,[],i,x,r,_=>r.elim
 | a :: as_,b :: bs,0,x,r,e=>by simp at e; subst e; exact ⟨b,rfl,r.1⟩
 | a :: as_,b :: bs,i + 1,x,r,e=>by simp at e; obtain ⟨y,h1,h2⟩:=r.2.get e; exact ⟨y,by simpa using h1,h2⟩
theorem zaK (h:Sim C S Fp [] st a w)  {x:Operand} {i:Nat} (ho:o.op=.extract x i)    (e:Kl C.n o.dst x i st=some (u,R,U)):vF P C o a w (ze U st):=by
 unfold Kl at e
 obtain ⟨t,R1,U1,R2,U2,h1,e1,rfl,rfl⟩:=bind_some e
 obtain ⟨rfl,hx⟩:=zC h h1
 simp only [ze,List.nil_append] at e1 ⊢
 split at e1
 ·rename_i fs
  cases hy:fs[i]? with
  | none=>simp only [hy] at e1; exact (z7 e1).elim
  | some y=>
   simp only [hy] at e1
   simp only [TOk,xe] at hx
   obtain ⟨vs,ev,r⟩:=hx
   obtain ⟨v,hv,rv⟩:=r.get hy
   obtain ⟨Fp',hs⟩:=xL h e1 (x:=.d y) rv.repV
   exact zn (v:=v) (by simp [execOp,ho,ev,Instr.extract,hv]) hs
 ·exact (z7 e1).elim
theorem zdv (h:Sim C S Fp X st a w)     (ha:Zc w.heap st (Act.tv a) r p er ec v) {x y:A} (hr:(st r).t=.own x) (e1:(st r).er=er) (e2:p=[] ∨ (st r).ec=ec) (hg:we p x=some (.box y)) :
  jW w.heap st (Act.tv a) r (p ++ [.deref]) (st r).er (st r).ec v:=by
 refine ⟨Nat.le_refl _,Nat.le_refl _,?_⟩
 simp only [hr]
 intro _ _
 have hq:=h.ent r
 unfold xm at hq
 simp only [hr] at hq
 obtain ⟨cs,c1,c2,c3⟩:=hq
 have a3:=ha.2.2
 simp only [hr] at a3
 rcases a3 e1 e2 with ⟨rfl,rfl⟩ | ⟨o1,y',b,o,cs',g1,g2,g3,g4,g5⟩
 ·simp only [we,Option.some.injEq] at hg
  subst hg
  simp only [zJ] at c1
  obtain ⟨b,ty,l,F',rfl,k1,k2,k3,k4⟩:=c1
  refine ⟨rfl,y,b,0,rfl,?_,by rw [c3]; rfl⟩
  rw [c3]
  rfl
 ·rw [hg] at g1
  simp only [Option.some.injEq] at g1
  subst g1
  obtain ⟨b',o',arr,ty,csy,Fy,f1,f2,f3,f4,f5,f6,f7,f8,_⟩:=X2 p c1 c2 (by rintro rfl; simp [JQ] at o1) (by rintro i q rfl; simp [JQ] at o1) hg
  rw [c3,f1] at g2
  simp only [Option.some.injEq,Prod.mk.injEq] at g2
  obtain ⟨rfl,rfl⟩:=g2
  have hcs:=XS f4 f2 f3 g3 g4
  subst hcs
  simp only [zJ] at f4
  obtain ⟨b1,ty1,l,F',rfl,k1,k2,k3,k4⟩:=f4
  refine ⟨z0b o1,y,b1,0,by simp [YA,hg,we],?_,g5⟩
  have hc:=g4 0 _ rfl
  simp only [Nat.add_zero] at hc
  rw [c3,VR w.heap p _ x _ f1 hg]
  simp only [z2l,hc]
theorem zdu (h:Sim C S Fp X st a w)     (ha:Zc w.heap st (Act.tv a) r p er ec v) {x:A}  {t:Bool}  (hr:(st r).t=.own x) (e1:(st r).er=er) (e2:p=[] ∨ (st r).ec=ec) (hg:we p x=some (.osl sz t es)) {i:Nat} (hi:i < es.length) :
  ∃ b c,v=.slice (some ⟨b,0,none⟩) es.length c ∧ jW w.heap st (Act.tv a) r (p ++ [.idx i]) (st r).er (st r).ec (.pointer (some ⟨b,i * sz,none⟩)):=by
 have hq:=h.ent r
 unfold xm at hq
 simp only [hr] at hq
 obtain ⟨cs,c1,c2,c3⟩:=hq
 have a3:=ha.2.2
 simp only [hr] at a3
 have hei:es[i]?=some es[i]:=List.getElem?_eq_getElem hi
 rcases a3 e1 e2 with ⟨rfl,rfl⟩ | ⟨o1,y',b,o,cs',g1,g2,g3,g4,g5⟩
 ·simp only [we,Option.some.injEq] at hg
  subst hg
  simp only [zJ] at c1
  obtain ⟨pp,c,rfl,t1,t2,t3,t4,t5⟩:=c1
  rcases t5 with ⟨rfl,_⟩ | ⟨b1,arr1,ty1,l,F',rfl,k1,k2,k3,k4,_,k6⟩
  ·simp at hi
  refine ⟨b1,c,by rw [c3]; rfl,Nat.le_refl _,Nat.le_refl _,?_⟩
  simp only [hr]
  intro _ _
  refine ⟨rfl,es[i],b1,i * sz,by simp [we,hei],?_,rfl⟩
  rw [c3]
  simp [zS,wz,hei,z2l]
 ·rw [hg] at g1
  simp only [Option.some.injEq] at g1
  subst g1
  obtain ⟨b',o',arr,ty,csy,Fy,f1,f2,f3,f4,f5,f6,f7,f8,_⟩:=X2 p c1 c2 (by rintro rfl; simp [JQ] at o1) (by rintro i q rfl; simp [JQ] at o1) hg
  rw [c3,f1] at g2
  simp only [Option.some.injEq,Prod.mk.injEq] at g2
  obtain ⟨rfl,rfl⟩:=g2
  have hcs:=XS f4 f2 f3 g3 g4
  subst hcs
  simp only [zJ] at f4
  obtain ⟨pp,c,rfl,t1,t2,t3,t4,t5⟩:=f4
  rcases t5 with ⟨rfl,_⟩ | ⟨b1,arr1,ty1,l,F',rfl,k1,k2,k3,k4,_,k6⟩
  ·simp at hi
  refine ⟨b1,c,g5,Nat.le_refl _,Nat.le_refl _,?_⟩
  simp only [hr]
  intro _ _
  refine ⟨z0b o1,es[i],b1,i * sz,by simp [YA,hg,we,hei],?_,rfl⟩
  have hc:=g4 0 _ rfl
  simp only [Nat.add_zero] at hc
  rw [c3,VR w.heap p _ x _ f1 hg]
  simp only [z2l,hc,hei]
theorem zbR (hp:jW w.heap st (Act.tv a) r p er ec v) {x:A}  (hr:(st r).t=.own x) (e1:(st r).er=er) (e2:(st r).ec=ec) (hg:we p x=some (.agg fs)) {i:Nat} (hi:i < fs.length) :
  ∃ b o,v=.pointer (some ⟨b,o,none⟩) ∧ jW w.heap st (Act.tv a) r (p ++ [.fld i]) (st r).er (st r).ec (.pointer (some ⟨b,o + A.sizes (fs.take i),none⟩)):=by
 have a3:=hp.2.2
 simp only [hr] at a3
 obtain ⟨o1,y',b,o,g1,g2,g3⟩:=a3 e1 e2
 rw [hg] at g1
 simp only [Option.some.injEq] at g1
 subst g1
 have hei:fs[i]?=some fs[i]:=List.getElem?_eq_getElem hi
 refine ⟨b,o,g3,Nat.le_refl _,Nat.le_refl _,?_⟩
 simp only [hr]
 intro _ _
 refine ⟨z0b o1,fs[i],b,o + A.sizes (fs.take i),by simp [YA,hg,we,hei],?_,rfl⟩
 rw [VR w.heap p _ x _ g2 hg]
 simp only [z2l,hei]
theorem Kh (h:Sim C S Fp X st a w) {x:T}  (hx:TOk S w.heap st (Act.tv a) x v) {q:A ⊕ (Nat × List Xp × Nat × Nat)}   (e:ptrOf x st=some (q,R,U)) :
  U=[] ∧ match q with
   | .inl y=>∃ b o l,v=.pointer (some ⟨b,o,none⟩) ∧ Rep S y l ∧ z5x S b o l
   | .inr (r,p,er,ec)=>jW w.heap st (Act.tv a) r p er ec v:=by
 unfold ptrOf at e
 split at e
 ·obtain ⟨rfl,rfl,rfl⟩:=zr e
  refine ⟨rfl,?_⟩
  simp only [TOk,xe] at hx
  obtain ⟨cs,h1,h2⟩:=hx
  simp only [Rep] at h1
  obtain ⟨b,o,l,rfl,h3,h4⟩:=h1
  exact ⟨b,o,l,h2,h3,h4⟩
 ·obtain ⟨rfl,rfl,rfl⟩:=zr e
  exact ⟨rfl,hx⟩
 ·rename_i r p er ec
  obtain ⟨en,R1,U1,R2,U2,h1,e1,rfl,rfl⟩:=bind_some e
  obtain ⟨rfl,rfl,rfl⟩:=y7 h1
  obtain ⟨y,R3,U3,R4,U4,h3,e2,rfl,rfl⟩:=bind_some e1
  simp only [ze,List.nil_append] at h3 e2 ⊢
  obtain ⟨rfl,q⟩:=JU h hx h3
  split at e2
  ·rename_i z
   obtain ⟨rfl,rfl,rfl⟩:=zr e2
   refine ⟨rfl,?_⟩
   rcases q with ⟨x,cs,F,q1,q2,q3,q4,q5,q6,_⟩ | ⟨q1,q2,q3,q4,q5⟩
   ·exact zdv h hx q1 q2 q3 q4
   ·simp only [xe] at q5
    obtain ⟨cs,q5,_⟩:=q5
    simp [Rep] at q5
  ·rename_i z
   obtain ⟨rfl,rfl,rfl⟩:=zr e2
   refine ⟨rfl,?_⟩
   have hv:∃ cs,Rep S (.sptr z) cs ∧ v=zS (.sptr z) cs:=by
    rcases q with ⟨x,cs,F,q1,q2,q3,q4,q5,q6,_⟩ | ⟨q1,q2,q3,q4,q5⟩
    ·exact ⟨cs,(q5.isD rfl).1,q6⟩
    ·exact q5
   obtain ⟨cs,h1,h2⟩:=hv
   simp only [Rep] at h1
   obtain ⟨b,o,l,rfl,h3,h4⟩:=h1
   exact ⟨b,o,l,h2,h3,h4⟩
  ·exact (z7 e2).elim
 ·exact (z7 e).elim
theorem z3X (h:Sim C S Fp X st a w)     (hp:jW w.heap st (Act.tv a) r p er ec v) {x:A} (hr:(st r).t=.own x) (e1:(st r).er=er) (e2:(st r).ec=ec)  (hg:we p x=some y) :
  ∃ b o arr ty csy Fy cs,v=.pointer (some ⟨b,o,none⟩) ∧ JQ p=true ∧ w.heap[b]?=some (.cells arr ty (0,0)) ∧ z4W arr o csy ∧ zJ S w.heap y csy Fy ∧ b ∉ Fy ∧ b ∈ Fp r ∧ (∀ k ∈ Fy,k ∈ Fp r) ∧ Fy.Nodup ∧ zJ S w.heap x cs (Fp r) ∧ Act.tv a r=zS x cs ∧
   wz w.heap p x (Act.tv a r)=some (b,o) ∧
   ∀ (S':zl) (h':Array Obj) (z:A) (csz:List Value) (Fz:List Nat),(∀ b o v,S b o=some v → S' b o=some v) → csz.length=csy.length → zJ S' h' z csz Fz → Fz.Nodup →
    (∀ k ∈ Fp r,k ∉ Fy → ∀ o,S' k o=none) → (∀ k,k ∈ Fp r → k ∉ Fy → k ≠ b → h'[k]?=w.heap[k]?) → h'[b]?=some (.cells (Q9 arr o csz) ty (0,0)) →
    (∀ k ∈ Fz,k ∈ Fp r → k ∈ Fy) →
    ∃ F0',zJ S' h' (V0 p x z) cs F0' ∧ F0'.Nodup ∧ (∀ k,k ∈ F0' ↔ (k ∈ Fp r ∧ k ∉ Fy) ∨ k ∈ Fz):=by
 have a3:=hp.2.2
 simp only [hr] at a3
 obtain ⟨o1,y',b,o,g1,g2,g3⟩:=a3 e1 e2
 have hq:=h.ent r
 unfold xm at hq
 simp only [hr] at hq
 obtain ⟨cs,c1,c2,c3⟩:=hq
 obtain ⟨b',o',arr,ty,csy,Fy,f1,f2,f3,f4,f5,f6,f7,f8,f9⟩:=X2 p c1 c2 (by rintro rfl; simp [JQ] at o1) (by rintro i q rfl; simp [JQ] at o1) hg
 have g2':=g2
 rw [c3,f1] at g2
 simp only [Option.some.injEq,Prod.mk.injEq] at g2
 obtain ⟨rfl,rfl⟩:=g2
 exact ⟨b',o',arr,ty,csy,Fy,cs,g3,o1,f2,f3,f4,f5,f6,f7,f8,c1,c3,g2',f9⟩
theorem z6q {b o:Nat}    (hb:h[b]?=some (.cells arr ty (0,0))) (hs:z4W arr o cs):zdw h b o cs:=by
 intro j u hj
 simp only [y5,hb]
 exact hs j u hj
theorem Kk (e:lookP r p er ec st=some (y,R,U)) :
  U=[] ∧ ∃ x,(st r).t=.own x ∧ (st r).er=er ∧ (st r).ec=ec ∧ we p x=some y:=by
 simp only [lookP] at e
 obtain ⟨en,R1,U1,R2,U2,h1,h2,rfl,rfl⟩:=bind_some e
 obtain ⟨rfl,rfl,rfl⟩:=y7 h1
 simp only [ze] at h2
 cases ht:(st r).t with
 | own x=>
  simp only [ht] at h2
  split at h2
  ·rename_i hc
   obtain ⟨g,rfl,rfl⟩:=uk h2
   exact ⟨rfl,x,rfl,hc.1,hc.2,g⟩
  ·exact (z7 h2).elim
 | d x=>simp only [ht] at h2; exact (z7 h2).elim
 | gone=>simp only [ht] at h2; exact (z7 h2).elim
 | als _ _ _ _=>simp only [ht] at h2; exact (z7 h2).elim
 | ptr _ _ _ _=>simp only [ht] at h2; exact (z7 h2).elim
def zaD (tt:TT) (n:Fr) (dst:Option Nat) (t:Nat) (x:Operand):SM Unit:=do
 let y ← opnd x
 loadA tt n dst t y
theorem zck (hT:xq P tt) (h:Sim C S Fp [] st a w) {o:Oper}  {x:Operand} (ho:o.op=.load t x)    (e:zaD tt C.n o.dst t x st=some (u,R,U)):vF P C o a w (ze U st):=by
 unfold zaD loadA at e
 obtain ⟨y,R1,U1,R2,U2,h1,e1,rfl,rfl⟩:=bind_some e
 obtain ⟨rfl,hx⟩:=zC h h1
 obtain ⟨q,R3,U3,R4,U4,h3,e2,rfl,rfl⟩:=bind_some e1
 obtain ⟨rfl,hq⟩:=Kh h hx h3
 simp only [ze,List.nil_append] at e2 ⊢
 have fin:∀ (b' o':Nat) (z:A) (v:Value),a.eval x=.pointer (some ⟨b',o',none⟩) → (loadVar t ⟨b',o',none⟩).run P w=.ok v w → (execOp a.eval o).run P w=.ok (.value v) w:=by
  intro b' o' z v ev hrun
  simp [execOp,ho,ev,Instr.loadAt,Instr.sureAddr,hrun]
 split at e2
 ·rename_i z
  split at e2
  ·rename_i hf
   obtain ⟨b,o',l,ev,r1,r2⟩:=hq
   have hld:=Yq hT hf.1 (w:=w) (b:=b) (o:=o') r1.len (fun j u hj=>h.still _ _ _ (r2 j u hj))
   obtain ⟨Fp',hs⟩:=xL h e2 (x:=.d z) (v:=zS z l) (wT.repV ⟨l,r1,rfl⟩)
   exact zn (fin b o' z _ ev hld) hs
  ·exact (z7 e2).elim
 ·rename_i r p er ec
  obtain ⟨z,R7,U7,R8,U8,h7,e4,rfl,rfl⟩:=bind_some e2
  obtain ⟨rfl,x0,k1,k2,k3,k4⟩:=Kk h7
  simp only [ze,List.nil_append] at e4 ⊢
  split at e4
  ·rename_i hf
   obtain ⟨b,o',arr,ty,csy,Fy,cs,ev,o1,f2,f3,f4,f5,f6,f7,f8,f9,f10,f11,_⟩:=z3X h hq k1 k2 k3 k4
   have hld:=Yq hT hf (w:=w) (b:=b) (o:=o') f4.len (z6q f2 f3)
   split at e4
   ·rename_i hd
    obtain ⟨Fp',hs⟩:=xL h e4 (x:=.d z) (v:=zS z csy) (wT.repV ⟨csy,(f4.isD hd).1,rfl⟩)
    exact zn (fin b o' z _ ev hld) hs
   ·obtain ⟨Fp',hs⟩:=xL h e4 (x:=.als r p er ec) (v:=zS z csy) ⟨by omega,by omega,by
     simp only [k1]
     exact fun _ _=>.inr ⟨o1,z,b,o',csy,k4,f11,f4.len,z6q f2 f3,rfl⟩⟩
    exact zn (fin b o' z _ ev hld) hs
  ·exact (z7 e4).elim
end
theorem Ql (h1:∀ u ∈ cs,zgF u=true) (h2:y.isAgg=true ∨ cs.length=1):(zS y cs).cells=cs.toArray:=by
 cases y <;> simp only [zS,A.isAgg] at h2 ⊢ <;> first | rfl | skip
 all_goals
  obtain ⟨c,rfl⟩:=List.length_eq_one_iff.1 (h2.resolve_left (by simp))
  have:=h1 c (by simp)
  cases c <;> first | rfl | (simp [zgF] at this)
theorem Has.cells (q:Has S h y v F) (hy:∀ fs,y ≠ .tup fs):∃ cs,zJ S h y cs F ∧ F.Nodup ∧ v=zS y cs:=by
 rcases q with ⟨q,rfl⟩ | q
 ·obtain ⟨cs,h1,h2⟩:=q.conc h hy
  exact ⟨cs,h1,by simp,h2⟩
 ·exact q
theorem uu {o:Nat}  (h:o + cs.length ≤ arr.size):(arr.toList.take o ++ cs ++ arr.toList.drop (o + cs.length)).toArray=Q9 arr o cs:=by
 apply Array.ext_getElem?
 intro k
 rw [qX,List.getElem?_toArray]
 by_cases h1:k < o
 ·rw [List.append_assoc,List.getElem?_append_left (by simp; omega),List.getElem?_take,if_pos h1,if_neg (by omega)]
  rw [Array.getElem?_toList]
  cases arr[k]? <;> rfl
 ·by_cases h2:k < o + cs.length
  ·rw [List.append_assoc,List.getElem?_append_right (by simp; omega),if_pos (by omega)]
   have:(arr.toList.take o).length=o:=by simp; omega
   rw [this,List.getElem?_append_left (by omega),List.getElem?_eq_getElem (by omega),Array.getElem?_eq_getElem (by omega)]
   simp
  ·rw [List.getElem?_append_right (by simp; omega),if_pos (by omega)]
   have:(arr.toList.take o ++ cs).length=o + cs.length:=by simp; omega
   rw [this,List.getElem?_drop,List.getElem?_eq_none (l:=cs) (by omega),show o + cs.length + (k - (o + cs.length))=k from by omega,Array.getElem?_toList]
   cases arr[k]? <;> simp
variable {j:Int}
section
variable {C:Ctx} {S:zl} {Fp:Nat → List Nat} {X:List Nat} {st:St} {a:Act} {w:World}
theorem hao (w:World) (o:Obj) (k:Nat) (h:k < w.heap.size):(w.alloc o).heap[k]?=w.heap[k]?:=Go.RowKit.Below.heap_alloc w o k h
theorem Sim.still_lt (h:Sim C S Fp X st a w) {b o:Nat}  (hs:S b o=some v):b < w.heap.size:=by
 have:=h.still b o v hs
 unfold y5 at this
 split at this
 ·rename_i hb
  exact (Array.getElem?_eq_some_iff.1 hb).1
 ·cases this
theorem Sim.free_new (h:Sim C S Fp X st a w) {b:Nat} (hb:w.heap.size ≤ b) (o:Nat):S b o=none:=by
 cases hs:S b o with
 | none=>rfl
 | some v=>have:=h.still_lt hs; omega
theorem Sim.base_le (h:Sim C S Fp X st a w):C.w0.heap.size ≤ w.heap.size:=h.below.size
theorem Sim.alloc (h:Sim C S Fp X st a w) (hX:∀ k ∈ X,k < w.heap.size) (o:Obj):Sim C S Fp (w.heap.size :: X) st a (w.alloc o):=by
 refine h.mem (h.below.alloc (h.mine _ h.base_le) o) (fun _ _ _ h=>h) ?_ h.sbase (fun t k hk=>⟨hao w o k (h.free t k hk).1,(h.free t k hk).2.1⟩) ?_ ?_ ?_
 ·intro b o' v hs
  rw [w7 (h:=w.heap) (h':=(w.alloc o).heap) (hao w o b (h.still_lt hs))]
  exact h.still b o' v hs
 ·exact List.nodup_cons.2 ⟨fun hm=>Nat.lt_irrefl _ (hX _ hm),h.xn⟩
 ·intro t k hk
  rcases List.mem_cons.1 hk with rfl | hk
  ·exact fun hk=>Nat.lt_irrefl _ (h.free t _ hk).1
  ·exact h.xd t k hk
 ·intro k hk
  rcases List.mem_cons.1 hk with rfl | hk
  ·exact h.mine _ h.base_le
  ·exact h.xb k hk
theorem Sim.drew (h:Sim C S Fp X st a w):Sim C S Fp X st a w.drew :=
 h.mem h.below.drew (fun _ _ _ h=>h) h.still.cell h.sbase (fun t k hk=>⟨rfl,(h.free t k hk).2.1⟩) h.xn h.xd h.xb
theorem zdg (h:Sim C S Fp (F ++ []) st a w)   (hc:zJ S w.heap y cs F) (hn:F.Nodup) (ty:TypeId) :
  Sim C S Fp ((w.heap.size :: F) ++ []) st a (w.alloc (.cells cs.toArray ty)) ∧ zJ S (w.alloc (.cells cs.toArray ty)).heap (.box y) [.pointer (some ⟨w.heap.size,0,none⟩)] (w.heap.size :: F) ∧ (w.heap.size :: F).Nodup:=by
 have hlt:∀ k ∈ F,k < w.heap.size:=fun k hk=>(hc.own k hk).1
 refine ⟨by simpa using h.alloc (by simpa using hlt) _,?_,List.nodup_cons.2 ⟨fun hm=>Nat.lt_irrefl _ (hlt _ hm),hn⟩⟩
 simp only [zJ]
 refine ⟨w.heap.size,ty,cs,F,rfl,heap_alloc_new w _,hc.frame (fun _ _ _ h=>h) (fun k hk=>⟨hao w _ k (hlt k hk),(hc.own k hk).2.1⟩),rfl,fun o=>h.free_new (Nat.le_refl _) o⟩
def zj6 (tt:TT) (n:Fr) (dst:Option Nat) (t:Nat) (x:Operand):SM Unit:=do
 let y ← opnd x
 let z ← takeC tt t y
 match z with
 | .tup _=>zp
 | z=>if z.isAgg=true ∨ z.size=1 then wrT n dst (.own (.box z)) else zp
theorem zlk (h:Sim C S Fp [] st a w)    (ho:o.op=.box t x)    (e:zj6 tt C.n o.dst t x st=some (u,R,U)):vF P C o a w (ze U st):=by
 unfold zj6 at e
 obtain ⟨y,R1,U1,R2,U2,h1,e1,rfl,rfl⟩:=bind_some e
 obtain ⟨rfl,hx⟩:=zC h h1
 obtain ⟨z,R3,U3,R4,U4,h3,e2,rfl,rfl⟩:=bind_some e1
 obtain ⟨Fp',F,g1,g2⟩:=US h hx h3
 simp only [ze,List.nil_append] at e2 ⊢
 rw [zw]
 by_cases hz:∃ fs,z=.tup fs
 ·obtain ⟨fs,rfl⟩:=hz
  exact (z7 e2).elim
 ·have hz':∀ fs,z ≠ .tup fs:=fun fs he=>hz ⟨fs,he⟩
  have e3:(if z.isAgg=true ∨ z.size=1 then wrT C.n o.dst (.own (.box z)) else zp:SM Unit) (ze U3 st)=some (u,R4,U4):=by
   cases z <;> first | exact e2 | exact absurd rfl (hz' _)
  split at e3
  ·rename_i hs1
   obtain ⟨cs,c1,c2,c3⟩:=g2.cells hz'
   obtain ⟨k1,k2,k3⟩:=zdg g1 c1 c2 t
   obtain ⟨Fp'',hs⟩:=Vn k1 e3 k2 k3
   refine zn (v:=.pointer (some ⟨w.heap.size,0,none⟩)) ?_ hs
   have hcl:=Ql (y:=z) c1.na (hs1.imp id (fun h=>by rw [c1.len]; exact h))
   simp [execOp,ho,Instr.box,newVar,newRow,c3,hcl]
  ·exact (z7 e3).elim
def z8m (tt:TT) (n:Fr) (dst:Option Nat) (t:Nat):SM Unit:=do
 let i ← ofO (tt t)
 let z ← ofO i.zero
 wrT n dst (.own (.box z))
theorem zgn (hT:xq P tt) (h:Sim C S Fp [] st a w)   (ho:o.op=.alloc t)    (e:z8m tt C.n o.dst t st=some (u,R,U)):vF P C o a w (ze U st):=by
 unfold z8m at e
 obtain ⟨i,R1,U1,R2,U2,h1,e1,rfl,rfl⟩:=bind_some e
 obtain ⟨hi,rfl,rfl⟩:=uk h1
 obtain ⟨z,R3,U3,R4,U4,h3,e2,rfl,rfl⟩:=bind_some e1
 obtain ⟨hz,rfl,rfl⟩:=uk h3
 simp only [ze,List.nil_append] at e2 ⊢
 obtain ⟨f,f1,f2,f3,f4⟩:=(hT t i hi).info
 obtain ⟨v,v1,v2,v3⟩:=f4 z hz
 obtain ⟨k1,k2,k3⟩:=zdg (F:=[]) (by simpa using h) (v3 S w.heap) (by simp) t
 obtain ⟨Fp'',hs⟩:=Vn k1 e2 k2 k3
 refine zn (v:=.pointer (some ⟨w.heap.size,0,none⟩)) ?_ hs
 simp [execOp,ho,Instr.alloc,newVar,newRow,zeroValue,typeInfo,f1,v1]
theorem z3O (hT:xq P tt) {t i:Nat}  (hf:z0j tt t i fs=true) (b o:Nat) (w:World) :
  (Instr.fieldAt t (.pointer (some ⟨b,o,none⟩)) i).run P w=.ok (.pointer (some ⟨b,o + A.sizes (fs.take i),none⟩)) w:=by
 unfold z0j at hf
 split at hf
 ·rename_i offs sz by' z eq ht
  split at hf
  ·rename_i off sz' ho
   simp only [Bool.and_eq_true,beq_iff_eq,bne_iff_ne,ne_eq] at hf
   obtain ⟨fields,g1,g2,g3⟩:=(hT _ _ ht).kind
   rw [← g2,List.getElem?_map] at ho
   cases hfi:fields.toList[i]? with
   | none=>simp [hfi] at ho
   | some f=>
    simp only [hfi,Option.map_some,Option.some.injEq,Prod.mk.injEq] at ho
    obtain ⟨rfl,rfl⟩:=ho
    obtain ⟨inf,hinf⟩:=g3 f (List.mem_of_getElem? hfi)
    have hfi':fields[i]?=some f:=by simpa using hfi
    have hsz:inf.size ≠ 0:=by simpa [Program.cellsOf,hinf] using hf.2
    simp [Instr.fieldAt,run_underlying g1,hfi',Instr.sureAddr,fieldPlace,Go.sizeOf,typeInfo,hinf,hsz,Addr.add_lit,hf.1]
  ·cases hf
 ·cases hf
def Uz (tt:TT) (n:Fr) (dst:Option Nat) (t i:Nat) (x:Operand):SM Unit:=do
 let y ← opnd x
 fieldAddrA tt n dst t i y
theorem Kf:∀ {as_:List A} {cs:List Value} {i:Nat} {x:A},yd S as_ cs → as_[i]?=some x → ∃ c1 ci c2,cs=c1 ++ ci ++ c2 ∧ c1.length=A.sizes (as_.take i) ∧ Rep S x ci
 | [],_,_,_,_,e=>by simp at e
 | a :: as_,cs,0,x,r,e=>by
  simp at e; subst e
  simp only [yd] at r
  obtain ⟨c1,c2,rfl,r1,r2⟩:=r
  exact ⟨[],c1,c2,rfl,rfl,r1⟩
 | a :: as_,cs,i + 1,x,r,e=>by
  simp at e
  simp only [yd] at r
  obtain ⟨c1,c2,rfl,r1,r2⟩:=r
  obtain ⟨d1,di,d2,rfl,hl,hx⟩:=Kf r2 e
  exact ⟨c1 ++ d1,di,d2,by simp,by simp [A.sizes,hl,r1.len],hx⟩
theorem z5x.mid {b o:Nat}  (h:z5x S b o (c1 ++ ci ++ c2)):z5x S b (o + c1.length) ci:=by
 intro j v hj
 have hlt:=(List.getElem?_eq_some_iff.1 hj).1
 have:=h (c1.length + j) v (by rw [List.append_assoc,List.getElem?_append_right (by omega),Nat.add_sub_cancel_left,List.getElem?_append_left hlt]; exact hj)
 rwa [← Nat.add_assoc] at this
theorem z3T {b o:Nat}  (h1:Rep S y l) (h2:z5x S b o l):xe S (.sptr y) (.pointer (some ⟨b,o,none⟩)):=by
 simp only [xe]
 exact ⟨[.pointer (some ⟨b,o,none⟩)],by simp only [Rep]; exact ⟨b,o,l,rfl,h1,h2⟩,rfl⟩
theorem z8a (hT:xq P tt) (h:Sim C S Fp [] st a w)  {t i:Nat} {x:Operand} (ho:o.op=.fieldAddr t x i)    (e:Uz tt C.n o.dst t i x st=some (u,R,U)):vF P C o a w (ze U st):=by
 unfold Uz fieldAddrA at e
 obtain ⟨y,R1,U1,R2,U2,h1,e1,rfl,rfl⟩:=bind_some e
 obtain ⟨rfl,hx⟩:=zC h h1
 obtain ⟨q,R3,U3,R4,U4,h3,e2,rfl,rfl⟩:=bind_some e1
 obtain ⟨rfl,hq⟩:=Kh h hx h3
 simp only [ze,List.nil_append] at e2 ⊢
 cases q with
 | inl y=>
  cases y <;> try exact (z7 e2).elim
  rename_i fs
  simp only at e2
  cases hy:fs[i]? with
  | none=>simp only [hy] at e2; exact (z7 e2).elim
  | some y=>
   simp only [hy] at e2
   split at e2
   ·rename_i hf
    obtain ⟨b,o',l,ev,r1,r2⟩:=hq
    simp only [Rep] at r1
    obtain ⟨c1,ci,c2,rfl,hl,hr⟩:=Kf r1 hy
    obtain ⟨Fp',hs⟩:=xL h e2 (x:=.d (.sptr y)) (z3T hr r2.mid)
    refine zn ?_ hs
    rw [hl]
    simp [execOp,ho,ev,z3O hT hf]
   ·exact (z7 e2).elim
 | inr q=>
  obtain ⟨r,p,er,ec⟩:=q
  obtain ⟨z,R7,U7,R8,U8,h7,e4,rfl,rfl⟩:=bind_some e2
  obtain ⟨rfl,x0,k1,k2,k3,k4⟩:=Kk h7
  simp only [ze,List.nil_append] at e4 ⊢
  cases z <;> try exact (z7 e4).elim
  rename_i fs
  simp only at e4
  split at e4
  ·rename_i hf
   obtain ⟨b,o',ev,hp⟩:=zbR hq k1 k2 k3 k4 hf.2
   rw [k2,k3] at hp
   have hp':TOk S w.heap st (Act.tv a) (T.ptr r (p ++ [Xp.fld i]) er ec) (.pointer (some ⟨b,o' + A.sizes (fs.take i),none⟩)):=hp
   obtain ⟨Fp',hs⟩:=xL h e4 hp'
   refine zn ?_ hs
   simp [execOp,ho,ev,z3O hT hf.1]
  ·exact (z7 e4).elim
theorem wB (hT:xq P tt) {t sz:Nat} (h:xo tt t=some sz) (w:World):∃ e,P.underlying t=some (.slice e) ∧ (Go.sizeOf e).run P w=.ok sz w:=by
 unfold xo at h
 split at h
 ·rename_i e s b z q ht
  obtain ⟨i,hi,rfl⟩:=Option.map_eq_some_iff.1 h
  exact ⟨e,(hT _ _ ht).kind,qR hT hi w⟩
 ·cases h
theorem Q4 {t e sz:Nat}  (h1:P.underlying t=some (.slice e)) (h2:(Go.sizeOf e).run P w=.ok sz w) {b o n c:Nat} {k:IntKind}  (h0:0 ≤ j) (hj:j.toNat < n) :
  (Instr.indexAt t (.slice (some ⟨b,o,none⟩) n c) (.int k j)).run P w=.ok (.pointer (some ⟨b,o + j.toNat * sz,none⟩)) w:=by
 have:j < (n:Int):=by omega
 simp [Instr.indexAt,asIntOf,run_underlying h1,h0,this,h2,Addr.add_lit]
def z8k (tt:TT) (t:Nat):Option (Nat × Nat) :=
 match tt t with
 | some ⟨.array n e,_,_,_,_⟩=>(tt e).map fun i=>(n,i.size)
 | _=>none
def Zb (tt:TT) (t:Nat) (fs:List A) (j:Int):Bool :=
 match z8k tt t with
 | some (n,sz)=>fs.length == n && decide (0 ≤ j) && fs.all fun x=>x.size == sz
 | none=>false
def indexArrA (tt:TT) (n:Fr) (dst:Option Nat) (t:Nat) (x:T) (i:A):SM Unit :=
 match i with
 | .atom (.int _ j)=>do
  let q ← ptrOf x
  match q with
  | .inl (.agg fs)=>
   match fs[j.toNat]? with
   | some y=>if Zb tt t fs j=true then wrT n dst (.d (.sptr y)) else zp
   | none=>zp
  | .inl _=>zp
  | .inr (r,p,er,ec)=>do
   let y ← lookP r p er ec
   match y with
   | .agg fs=>if Zb tt t fs j=true ∧ j.toNat < fs.length then wrT n dst (.ptr r (p ++ [.fld j.toNat]) er ec) else zp
   | _=>zp
 | _=>zp
theorem JM (hT:xq P tt)    (hf:Zb tt t fs j=true) (hj:j.toNat < fs.length) (k:IntKind) (b o:Nat) (w:World) :
  (Instr.indexAt t (.pointer (some ⟨b,o,none⟩)) (.int k j)).run P w=.ok (.pointer (some ⟨b,o + A.sizes (fs.take j.toNat),none⟩)) w:=by
 unfold Zb at hf
 split at hf
 ·rename_i n sz ha
  unfold z8k at ha
  split at ha
  ·rename_i n' e s' b' z' q' ht
   obtain ⟨i,hi,he⟩:=Option.map_eq_some_iff.1 ha
   simp only [Prod.mk.injEq] at he
   obtain ⟨rfl,rfl⟩:=he
   simp only [Bool.and_eq_true,beq_iff_eq,decide_eq_true_eq,List.all_eq_true] at hf
   obtain ⟨⟨h1,h0⟩,h2⟩:=hf
   have hu:=(hT _ _ ht).kind
   have hsz:=qR hT hi w
   have hlt:j < (n':Int):=by omega
   have hs:A.sizes (fs.take j.toNat)=j.toNat * i.size:=by
    rw [A.sizes_const (sz:=i.size) (fun x hx=>h2 x (List.mem_of_mem_take hx)),List.length_take,Nat.min_eq_left (by omega)]
   rw [hs]
   simp only [z60] at hu
   simp [Instr.indexAt,asIntOf,run_underlying hu,h0,hlt,hsz,Instr.sureAddr,Addr.add_lit]
  ·cases ha
 ·cases hf
def Ux (tt:TT) (n:Fr) (dst:Option Nat) (t:Nat) (x i:Operand):SM Unit:=do
 let y ← opnd x
 let ti ← opnd i
 let vi ← val ti
 if (z8k tt t).isSome=true then indexArrA tt n dst t y vi else indexAddrA tt n dst t y vi
theorem z9r (hT:xq P tt) {t sz:Nat} {tg:Bool} {xs:List A}  (hr:xe S (.sl sz tg xs) v) (hs:xo tt t=some sz) {k:IntKind}  (h0:0 ≤ j)  (hy:xs[j.toNat]?=some y) (w:World) :
  ∃ u,xe S (.sptr y) u ∧ (Instr.indexAt t v (.int k j)).run P w=.ok u w:=by
 simp only [xe] at hr
 obtain ⟨cs,r1,rfl⟩:=hr
 simp only [Rep] at r1
 obtain ⟨p,c,rfl,_,_,h4,h5⟩:=r1
 rcases h5 with rfl | ⟨b,o,l,rfl,r2,r3⟩
 ·simp at hy
 obtain ⟨e,he,hsz⟩:=wB hT hs w
 obtain ⟨c1,ci,c2,rfl,hl,hx⟩:=Kf r2 hy
 have hlt:=(List.getElem?_eq_some_iff.1 hy).1
 have hc1:c1.length=j.toNat * sz:=by
  rw [hl,A.sizes_const (sz:=sz) (fun x hx=>h4 x (List.mem_of_mem_take hx)),List.length_take,Nat.min_eq_left (by omega)]
 refine ⟨_,z3T hx r3.mid,?_⟩
 rw [hc1]
 exact Q4 he hsz h0 hlt
theorem z4h (hT:xq P tt) (h:Sim C S Fp [] st a w)   {x i:Operand} (ho:o.op=.indexAddr t x i) {y:T} (hx:TOk S w.heap st (Act.tv a) y (a.eval x)) {vi:A} (qi:xe S vi (a.eval i))
    {u:Unit} {R:List Nat} {U:List (Nat × Ent)} (e:indexArrA tt C.n o.dst t y vi st=some (u,R,U)):vF P C o a w (ze U st):=by
  unfold indexArrA at e
  cases vi with
  | atom vv=>
    cases vv with
    | int k j=>
      simp only at e
      obtain ⟨ei,_⟩:=zy.1 qi
      obtain ⟨q,R3,U3,R4,U4,h3,e2,rfl,rfl⟩:=bind_some e
      obtain ⟨rfl,hq⟩:=Kh h hx h3
      simp only [ze,List.nil_append] at e2 ⊢
      cases q with
      | inl y=>
        cases y <;> try exact (z7 e2).elim
        rename_i fs
        simp only at e2
        cases hy:fs[j.toNat]? with
        | none=>simp only [hy] at e2; exact (z7 e2).elim
        | some y=>
          simp only [hy] at e2
          split at e2
          · rename_i hf
            obtain ⟨b,o',l,ev,r1,r2⟩:=hq
            simp only [Rep] at r1
            obtain ⟨c1,ci,c2,rfl,hl,hr⟩:=Kf r1 hy
            obtain ⟨Fp',hs⟩:=xL h e2 (x:=.d (.sptr y)) (z3T hr r2.mid)
            refine zn ?_ hs
            rw [hl]
            simp [execOp,ho,ev,ei,JM hT hf (List.getElem?_eq_some_iff.1 hy).1]
          · exact (z7 e2).elim
      | inr q=>
        obtain ⟨r,p,er,ec⟩:=q
        obtain ⟨z,R7,U7,R8,U8,h7,e4,rfl,rfl⟩:=bind_some e2
        obtain ⟨rfl,x0,k1,k2,k3,k4⟩:=Kk h7
        simp only [ze,List.nil_append] at e4 ⊢
        cases z <;> try exact (z7 e4).elim
        rename_i fs
        simp only at e4
        split at e4
        · rename_i hf
          obtain ⟨b,o',ev,hp⟩:=zbR hq k1 k2 k3 k4 hf.2
          rw [k2,k3] at hp
          have hp':TOk S w.heap st (Act.tv a) (T.ptr r (p ++ [Xp.fld j.toNat]) er ec) (.pointer (some ⟨b,o' + A.sizes (fs.take j.toNat),none⟩)):=hp
          obtain ⟨Fp',hs⟩:=xL h e4 hp'
          refine zn ?_ hs
          simp [execOp,ho,ev,ei,JM hT hf.1 hf.2]
        · exact (z7 e4).elim
    | _=>exact (z7 e).elim
  | _=>exact (z7 e).elim
theorem z83 (hT:xq P tt) (h:Sim C S Fp [] st a w)   {x i:Operand} (ho:o.op=.indexAddr t x i)    (e:Ux tt C.n o.dst t x i st=some (u,R,U)):vF P C o a w (ze U st):=by
 unfold Ux at e
 obtain ⟨y,R1,U1,R2,U2,h1,e1,rfl,rfl⟩:=bind_some e
 obtain ⟨rfl,hx⟩:=zC h h1
 obtain ⟨ti,R3,U3,R4,U4,h3,e2,rfl,rfl⟩:=bind_some e1
 obtain ⟨rfl,hi⟩:=zC h h3
 obtain ⟨vi,R5,U5,R6,U6,h5,e3,rfl,rfl⟩:=bind_some e2
 obtain ⟨rfl,qi⟩:=vM h hi h5
 simp only [ze,List.nil_append] at e3 ⊢
 split at e3
 ·exact z4h hT h ho hx qi e3
 unfold indexAddrA at e3
 cases vi with
 | atom vv=>
  cases vv with
  | int k j=>
   simp only at e3
   obtain ⟨ei,_⟩:=zy.1 qi
   cases y with
   | d z=>
    cases z with
    | sl sz tg xs=>
     simp only at e3
     split at e3
     ·rename_i hc
      cases hy:xs[j.toNat]? with
      | none=>simp only [hy] at e3; exact (z7 e3).elim
      | some y=>
       simp only [hy] at e3
       obtain ⟨v,rv,hrun⟩:=z9r hT hx hc.1 (k:=k) hc.2 hy w
       obtain ⟨Fp',hs⟩:=xL h e3 (x:=.d (.sptr y)) rv
       exact zn (by simp [execOp,ho,ei,hrun]) hs
     ·exact (z7 e3).elim
    | _=>exact (z7 e3).elim
   | als r p er ec=>
    obtain ⟨en,R7,U7,R8,U8,h7,e4,rfl,rfl⟩:=bind_some e3
    obtain ⟨rfl,rfl,rfl⟩:=y7 h7
    obtain ⟨z,R9,U9,R10,U10,h9,e5,rfl,rfl⟩:=bind_some e4
    simp only [ze,List.nil_append] at h9 e5 ⊢
    obtain ⟨rfl,q⟩:=JU h hx h9
    simp only [ze,List.nil_append] at e5 ⊢
    cases z with
    | osl sz tg es=>
     simp only at e5
     split at e5
     ·rename_i hc
      rcases q with ⟨x0,cs,F,q1,q2,q3,q4,q5,q6,_⟩ | ⟨q1,q2,q3,q4,q5⟩
      ·obtain ⟨b,c,ev,hp⟩:=zdu h hx q1 q2 q3 q4 hc.2.2
       obtain ⟨e',he,hsz⟩:=wB hT hc.1 w
       have hp':TOk S w.heap st (Act.tv a) (T.ptr r (p ++ [Xp.idx j.toNat]) (st r).er (st r).ec) (.pointer (some ⟨b,j.toNat * sz,none⟩)):=hp
       obtain ⟨Fp',hs⟩:=xL h e5 hp'
       refine zn ?_ hs
       simp [execOp,ho,ei,ev,Q4 he hsz hc.2.1 hc.2.2]
      ·simp only [xe] at q5
       obtain ⟨cs,q5,_⟩:=q5
       simp [Rep] at q5
     ·exact (z7 e5).elim
    | sl sz tg xs=>
     simp only at e5
     have hv:xe S (.sl sz tg xs) (a.eval x):=by
      rcases q with ⟨x0,cs,F,q1,q2,q3,q4,q5,q6,_⟩ | ⟨q1,q2,q3,q4,q5⟩
      ·exact wT.repV ⟨cs,(q5.isD rfl).1,q6⟩
      ·exact q5
     split at e5
     ·rename_i hc
      cases hy:xs[j.toNat]? with
      | none=>simp only [hy] at e5; exact (z7 e5).elim
      | some y=>
       simp only [hy] at e5
       obtain ⟨v,rv,hrun⟩:=z9r hT hv hc.1 (k:=k) hc.2 hy w
       obtain ⟨Fp',hs⟩:=xL h e5 (x:=.d (.sptr y)) rv
       exact zn (by simp [execOp,ho,ei,hrun]) hs
     ·exact (z7 e5).elim
    | _=>exact (z7 e5).elim
   | _=>exact (z7 e3).elim
  | _=>exact (z7 e3).elim
 | _=>exact (z7 e3).elim
theorem zex {x:T}     (e:take x st=some (y,R,U)):U=[] ∨ ∃ r e',U=[(r,e')] ∧ (st r).ec < e'.ec:=by
 cases x with
 | d z=>simp only [take] at e; obtain ⟨_,_,rfl⟩:=zr e; exact .inl rfl
 | als r p er ec=>
  simp only [take] at e
  obtain ⟨z,R1,U1,R2,U2,h1,h2,rfl,rfl⟩:=bind_some e
  obtain ⟨rfl,_⟩:=z7V h1
  simp only [ze,List.nil_append] at h2 ⊢
  split at h2
  ·obtain ⟨_,_,rfl⟩:=zr h2; exact .inl rfl
  ·by_cases hpl:z.plain=true
   case neg=>rw [if_neg hpl] at h2; exact (z7 h2).elim
   rw [if_pos hpl] at h2
   obtain ⟨en,R3,U3,R4,U4,h3,h4,rfl,rfl⟩:=bind_some h2
   obtain ⟨rfl,rfl,rfl⟩:=y7 h3
   simp only [ze,List.nil_append] at h4 ⊢
   cases ht:(st r).t with
   | own x=>
    simp only [ht] at h4
    split at h4
    ·obtain ⟨u5,R5,U5,R6,U6,h5,h6,rfl,rfl⟩:=bind_some h4
     obtain ⟨rfl,rfl⟩:=xH h5
     obtain ⟨_,_,rfl⟩:=zr h6
     exact .inr ⟨r,_,rfl,Nat.lt_succ_self _⟩
    ·obtain ⟨u5,R5,U5,R6,U6,h5,h6,rfl,rfl⟩:=bind_some h4
     obtain ⟨rfl,rfl⟩:=xH h5
     obtain ⟨_,_,rfl⟩:=zr h6
     exact .inr ⟨r,_,rfl,Nat.lt_succ_self _⟩
   | gone=>simp only [ht] at h4; exact (z7 h4).elim
   | d _=>simp only [ht] at h4; exact (z7 h4).elim
   | als _ _ _ _=>simp only [ht] at h4; exact (z7 h4).elim
   | ptr _ _ _ _=>simp only [ht] at h4; exact (z7 h4).elim
 | gone=>simp only [take] at e; exact (z7 e).elim
 | own _=>simp only [take] at e; exact (z7 e).elim
 | ptr _ _ _ _=>simp only [take] at e; exact (z7 e).elim
theorem zb9 {x:T}     (e:takeC tt t x st=some (y,R,U)):U=[] ∨ ∃ r e',U=[(r,e')] ∧ (st r).ec < e'.ec:=by
 unfold takeC at e
 obtain ⟨z,R1,U1,R2,U2,h1,h2,rfl,rfl⟩:=bind_some e
 obtain ⟨_,_,rfl⟩:=zr h2
 simpa using zex h1
def z7p (tt:TT) (dst:Option Nat) (t:Nat) (x v:Operand):SM Unit:=do
 if dst=none then
  let y ← opnd x
  let z ← opnd v
  storeA tt t y z
 else zp
theorem z6K (h:jQ tt t y=true):y.isAgg=true ∨ y.size=1:=by
 unfold jQ at h
 split at h
 ·simp only [Bool.and_eq_true,beq_iff_eq,Bool.or_eq_true] at h
  rcases h.2 with h2 | h2
  ·exact .inl (by rw [← h.1.1]; exact h2)
  ·exact .inr (by rw [← h.1.2]; exact h2)
 ·cases h
theorem z7B (hT:xq P tt)  {y:A} (hf:jQ tt t y=true) {w:World} {b o:Nat} {arr:Array Value} {ty:TypeId}  (hl:cs.length=y.size) (h1:∀ u ∈ cs,u.oneCell'=true)
  (hb:w.heap[b]?=some (.cells arr ty (0,0))) (hfit:o + cs.length ≤ arr.size) :
  (storeVar t ⟨b,o,none⟩ (zS y cs)).run P w=.ok () (w.setRow b (Q9 arr o cs)):=by
 have hcl:=Ql (y:=y) (fun u hu=>JR (h1 u hu)) ((z6K hf).imp id (fun h=>by rw [hl]; exact h))
 unfold jQ at hf
 split at hf
 ·rename_i i hi
  simp only [Bool.and_eq_true,beq_iff_eq,Bool.or_eq_true] at hf
  have hst:=run_storeCells_at P b o ty cs 0 arr w hb (by simpa using hfit) h1
  simp only [Nat.add_zero] at hst
  rw [uu hfit] at hst
  unfold storeVar
  simp only [Sem.run_bind,hcl,List.size_toArray,qR hT hi,Result.andThen_ok]
  simp [hf.1.2,hl,hst]
 ·cases hf
theorem z4W.le {o:Nat}  (h:z4W arr o l) (hl:0 < l.length):o + l.length ≤ arr.size:=by
 have:=h (l.length - 1) _ (List.getElem?_eq_getElem (by omega))
 have:=(Array.getElem?_eq_some_iff.1 this).1
 omega
theorem z1A (h:JQ p=true) (x z:A) (cs:List Value):zS (V0 p x z) cs=zS x cs:=by
 cases p with
 | nil=>simp [JQ] at h
 | cons s p'=>
  cases s with
  | fld _=>simp [JQ] at h
  | deref=>cases x <;> simp [V0,zS]
  | idx _=>cases x <;> simp [V0,zS]
theorem zez (hT:xq P tt) (h:Sim C S Fp [] st a w)   {x v:Operand} (ho:o.op=.store t x v)    (e:z7p tt o.dst t x v st=some (u,R,U)):vF P C o a w (ze U st):=by
 unfold z7p at e
 split at e
 ·rename_i hd
  obtain ⟨y,R1,U1,R2,U2,h1,e1,rfl,rfl⟩:=bind_some e
  obtain ⟨rfl,hx⟩:=zC h h1
  obtain ⟨z,R3,U3,R4,U4,h3,e2,rfl,rfl⟩:=bind_some e1
  obtain ⟨rfl,hz⟩:=zC h h3
  simp only [ze,List.nil_append] at e2 ⊢
  unfold storeA at e2
  obtain ⟨q,R5,U5,R6,U6,h5,e3,rfl,rfl⟩:=bind_some e2
  obtain ⟨rfl,hq⟩:=Kh h hx h5
  simp only [ze,List.nil_append] at e3 ⊢
  cases q with
  | inl _=>exact (z7 e3).elim
  | inr q=>
   obtain ⟨r,p,er,ec⟩:=q
   obtain ⟨s,R7,U7,R8,U8,h7,e4,rfl,rfl⟩:=bind_some e3
   obtain ⟨Fp',F,g1,g2⟩:=US h hz h7
   obtain ⟨en,R9,U9,R10,U10,h9,e5,rfl,rfl⟩:=bind_some e4
   obtain ⟨rfl,rfl,rfl⟩:=y7 h9
   simp only [ze,List.nil_append] at e5 ⊢
   rw [zw]
   have hsame:ze U7 st r=st r:=by
    rcases zb9 h7 with rfl | ⟨r',e',rfl,hlt⟩
    ·rfl
    ·by_cases hr:r=r'
     ·subst hr
      exfalso
      simp only [ze,wP] at e5
      have hec:=hq.2.1
      cases ht:e'.t with
      | own x0=>
       simp only [ht] at e5
       split at e5
       ·omega
       ·exact (z7 e5).elim
      | gone=>simp only [ht] at e5; exact (z7 e5).elim
      | d _=>simp only [ht] at e5; exact (z7 e5).elim
      | als _ _ _ _=>simp only [ht] at e5; exact (z7 e5).elim
      | ptr _ _ _ _=>simp only [ht] at e5; exact (z7 e5).elim
     ·simp only [ze,Xq _ _ hr]
   have hq':jW w.heap (ze U7 st) (Act.tv a) r p er ec (a.eval x):=by
    have hq1:jW w.heap st (Act.tv a) r p er ec (a.eval x):=hq
    unfold jW at hq1 ⊢
    rw [hsame]
    exact hq1
   cases ht:(ze U7 st r).t with
   | own x0=>
    simp only [ht] at e5
    split at e5
    ·rename_i hc
     cases hg:we p x0 with
     | none=>simp only [hg] at e5; exact (z7 e5).elim
     | some y0=>
      simp only [hg] at e5
      split at e5
      ·rename_i hc2
       obtain ⟨rfl,rfl⟩:=xH e5
       obtain ⟨b,o',arr,ty,csy,Fy,cs,ev,o1,f2,f3,f4,f5,f6,f7,f8,f9,f10,f11,f12⟩:=z3X g1 hq' ht hc.1 hc.2 hg
       have hst:∀ fs,s ≠ .tup fs:=by
        rintro fs rfl
        rcases z6K hc2.2 with h | h
        ·simp [A.isAgg] at h
        ·simp [A.size] at h
       obtain ⟨csz,c1,c2,c3⟩:=g2.cells hst
       have hlen:csz.length=csy.length:=by rw [c1.len,f4.len,hc2.1]
       have hFd:∀ k ∈ F,∀ t,k ∉ Fp' t:=fun k hk t=>g1.xd t k (by simp [hk])
       have hbF:b ∉ F:=fun hb=>hFd b hb r f6
       let w':=w.setRow b (Q9 arr o' csz)
       have hheap:∀ k,k ≠ b → w'.heap[k]?=w.heap[k]?:=fun k hk=>setRow_other w b k _ hk
       have hheapb:w'.heap[b]?=some (.cells (Q9 arr o' csz) ty (0,0)):=setRow_heap w b arr _ ty (0,0) f2
       have hbase:C.M b:=g1.base r b f6
       have hSb:∀ o,S b o=none:=(g1.free r b f6).2.1
       obtain ⟨F0',d1,d2,d3⟩:=f12 S w'.heap s csz F (fun _ _ _ h=>h) hlen (c1.frame (fun _ _ _ h=>h) (fun k hk=>⟨hheap k (fun e=>hbF (e ▸ hk)),(c1.own k hk).2.1⟩)) c2 (fun k hk _=>(g1.free r k hk).2.1) (fun k _ _ hk=>hheap k hk) hheapb (fun k hk hk'=>absurd hk' (hFd k hk r))
       refine z85 (w':=w') ?_ hd (S:=S) (Fp:=Jp Fp' r F0') ?_
       ·have hrun:(storeVar t ⟨b,o',none⟩ (zS s csz)).run P w=.ok () w':=by
         by_cases hz0:csz.length=0
         ·
          have hnil:csz=[]:=List.eq_nil_of_length_eq_zero hz0
          subst hnil
          have hov:w'=w:=by
           show w.setRow b (Q9 arr o' [])=w
           rw [Wz (by intro j v hj; simp at hj)]
           exact setRow_self w b arr ty (0,0) f2
          rw [hov]
          have hsz:s.size=0:=by rw [← c1.len]; rfl
          have hag:=(z6K hc2.2).resolve_right (by omega)
          have hcl:=Ql (y:=s) c1.na (.inl hag)
          have hf:=hc2.2
          unfold jQ at hf
          split at hf
          ·rename_i i hi
           simp only [Bool.and_eq_true,beq_iff_eq,Bool.or_eq_true] at hf
           unfold storeVar
           simp only [Sem.run_bind,hcl,List.size_toArray,qR hT hi,Result.andThen_ok]
           simp [hf.1.2,hsz,storeCells]
          ·cases hf
         ·exact z7B hT hc2.2 c1.len (c1.one1 (z8F hz h7)) f2 (by rw [hlen]; exact f3.le (by omega))
        simp [execOp,ho,ev,c3,Instr.storeAt,Instr.sureAddr,hrun]
       ·simp only [ze]
        refine g1.change r (.own (V0 p x0 s)) _ _ F0' ?_ (fun _ _ _ h=>h) ?_ g1.sbase ?_ ⟨⟨cs,d1,d2,by rw [z1A o1]; exact f10⟩,x0,ht⟩ (.inl ⟨x0,ht⟩) (Nat.le_refl _) (Nat.lt_succ_self _) ?_ ?_ (by simp) (by simp) (by simp) (by simp)
        ·exact g1.below.trans ⟨rfl,rfl,rfl,Nat.le_refl _,by simp [w'],fun k hk=>hheap k (fun e=>hk (e ▸ hbase))⟩
        ·intro b' o'' v hs
         rw [w7 (h:=w.heap) (h':=w'.heap) (hheap b' (by rintro rfl; rw [hSb] at hs; cases hs))]
         exact g1.still b' o'' v hs
        ·intro t' k htr hk
         exact ⟨hheap k (by rintro rfl; exact htr (g1.disj t' r k hk f6)),(g1.free t' k hk).2.1⟩
        ·intro t' k htr hk hk'
         rcases (d3 k).1 hk with h | h
         ·exact htr (g1.disj t' r k hk' h.1)
         ·exact hFd k h t' hk'
        ·intro k hk
         rcases (d3 k).1 hk with h | h
         ·exact g1.base r k h.1
         ·exact g1.xb k (by simp [h])
      ·exact (z7 e5).elim
    ·exact (z7 e5).elim
   | gone=>simp only [ht] at e5; exact (z7 e5).elim
   | d _=>simp only [ht] at e5; exact (z7 e5).elim
   | als _ _ _ _=>simp only [ht] at e5; exact (z7 e5).elim
   | ptr _ _ _ _=>simp only [ht] at e5; exact (z7 e5).elim
 ·exact (z7 e).elim
end
variable {as_ bs:List A}{i:TypeInfo}{f:TypeInfo}{zv:Value}{z:A}
section
variable {C:Ctx} {S:zl} {Fp:Nat → List Nat} {X:List Nat} {st:St} {a:Act} {w:World}
theorem Q8 (h:Sim C S Fp X st a w) {x:T}  (hx:TOk S w.heap st (Act.tv a) x v)    (e:peek x st=some (y,R,U)) :
  U=[] ∧ (xe S y v ∨ ∃ cs F,zJ S w.heap y cs F ∧ v=zS y cs):=by
 cases x with
 | d z=>simp only [peek] at e; obtain ⟨rfl,rfl,rfl⟩:=zr e; exact ⟨rfl,.inl hx⟩
 | als r p er ec=>
  simp only [peek] at e
  obtain ⟨rfl,q⟩:=JU h hx e
  refine ⟨rfl,?_⟩
  rcases q with ⟨x,cs,F,_,_,_,_,q5,q6,_⟩ | ⟨_,_,_,_,q5⟩
  ·exact .inr ⟨cs,F,q5,q6⟩
  ·exact .inl q5
 | gone=>simp only [peek] at e; exact (z7 e).elim
 | own _=>simp only [peek] at e; exact (z7 e).elim
 | ptr _ _ _ _=>simp only [peek] at e; exact (z7 e).elim
def zkU (tt:TT) (n:Fr) (dst:Option Nat) (t:Nat) (x:Operand):SM Unit:=do
 let y ← opnd x
 let z ← peek y
 let m ← ofO (lenOf z)
 if vK tt t=true then wrT n dst (.d (.atom (.int .i64 m))) else zp
def zlj (tt:TT) (n:Fr) (dst:Option Nat) (t:Nat) (x:Operand):SM Unit:=do
 let y ← opnd x
 let z ← peek y
 let m ← ofO (zda z)
 if vK tt t=true then wrT n dst (.d (.atom (.int .i64 m))) else zp
theorem zfH {m:Nat} (hm:lenOf z=some m)  (q:xe S z v ∨ ∃ cs F,zJ S w.heap z cs F ∧ v=zS z cs):∃ p c,v=.slice p m c:=by
 unfold lenOf at hm
 split at hm
 ·simp only [Option.some.injEq] at hm; subst hm
  rename_i sz tg xs
  have:∃ cs,Rep S (.sl sz tg xs) cs ∧ v=zS (.sl sz tg xs) cs:=by
   rcases q with q | ⟨cs,F,q1,q2⟩
   ·exact q
   ·exact ⟨cs,(q1.isD rfl).1,q2⟩
  obtain ⟨cs,r1,rfl⟩:=this
  simp only [Rep] at r1
  obtain ⟨p,c,rfl,_⟩:=r1
  exact ⟨p,c,rfl⟩
 ·simp only [Option.some.injEq] at hm; subst hm
  rcases q with ⟨cs,q,_⟩ | ⟨cs,F,q1,rfl⟩
  ·simp [Rep] at q
  ·simp only [zJ] at q1
   obtain ⟨p,c,rfl,_⟩:=q1
   exact ⟨p,c,rfl⟩
 ·simp only [Option.some.injEq] at hm; subst hm
  rcases q with q | ⟨cs,F,q1,q2⟩
  ·exact ⟨none,0,(zy.1 q).1⟩
  ·exact ⟨none,0,(yW.1 ⟨cs,(q1.isD rfl).1,q2⟩).1⟩
 ·cases hm
theorem zg8 {m:Nat} (hm:zda z=some m)  (q:xe S z v ∨ ∃ cs F,zJ S w.heap z cs F ∧ v=zS z cs):∃ p c,v=.slice p c m:=by
 unfold zda at hm
 split at hm
 ·simp only [Option.some.injEq] at hm; subst hm
  rename_i sz xs
  have:∃ cs,Rep S (.sl sz true xs) cs ∧ v=zS (.sl sz true xs) cs:=by
   rcases q with q | ⟨cs,F,q1,q2⟩
   ·exact q
   ·exact ⟨cs,(q1.isD rfl).1,q2⟩
  obtain ⟨cs,r1,rfl⟩:=this
  simp only [Rep] at r1
  obtain ⟨p,c,rfl,hc,_⟩:=r1
  exact ⟨p,_,by rw [hc trivial]; rfl⟩
 ·simp only [Option.some.injEq] at hm; subst hm
  rcases q with ⟨cs,q,_⟩ | ⟨cs,F,q1,rfl⟩
  ·simp [Rep] at q
  ·simp only [zJ] at q1
   obtain ⟨p,c,rfl,hc,_⟩:=q1
   exact ⟨p,_,by rw [hc trivial]; rfl⟩
 ·simp only [Option.some.injEq] at hm; subst hm
  rcases q with q | ⟨cs,F,q1,q2⟩
  ·exact ⟨none,0,(zy.1 q).1⟩
  ·exact ⟨none,0,(yW.1 ⟨cs,(q1.isD rfl).1,q2⟩).1⟩
 ·cases hm
theorem Yw (hT:xq P tt)  (h:vK tt t=true):∃ e,P.underlying t=some (.slice e):=by
 unfold vK at h
 split at h
 ·rename_i e _ _ _ _ ht
  exact ⟨e,(hT _ _ ht).kind⟩
 ·cases h
theorem zkT (hT:xq P tt) (h:Sim C S Fp [] st a w)  {t:Nat} {x:Operand} (ho:o.op=.call { callee:=.builtin .len,args:=#[x],argTypes:=#[t] })    (e:zkU tt C.n o.dst t x st=some (u,R,U)):vF P C o a w (ze U st):=by
 unfold zkU at e
 obtain ⟨y,R1,U1,R2,U2,h1,e1,rfl,rfl⟩:=bind_some e
 obtain ⟨rfl,hx⟩:=zC h h1
 obtain ⟨z,R3,U3,R4,U4,h3,e2,rfl,rfl⟩:=bind_some e1
 obtain ⟨rfl,q⟩:=Q8 h hx h3
 obtain ⟨m,R5,U5,R6,U6,h5,e3,rfl,rfl⟩:=bind_some e2
 obtain ⟨hm,rfl,rfl⟩:=uk h5
 simp only [ze,List.nil_append] at e3 ⊢
 split at e3
 ·rename_i ht
  obtain ⟨el,hel⟩:=Yw hT ht
  obtain ⟨p,c,ev⟩:=zfH hm q
  obtain ⟨Fp',hs⟩:=xL h e3 (x:=.d (.atom (.int .i64 m))) (zy.2 ⟨rfl,rfl⟩)
  exact zn (by simp [execOp,ho,resolve,invoke,builtin,Builtin.len_,run_underlying hel,ev,goInt]) hs
 ·exact (z7 e3).elim
theorem zli (hT:xq P tt) (h:Sim C S Fp [] st a w)  {t:Nat} {x:Operand} (ho:o.op=.call { callee:=.builtin .cap,args:=#[x],argTypes:=#[t] })    (e:zlj tt C.n o.dst t x st=some (u,R,U)):vF P C o a w (ze U st):=by
 unfold zlj at e
 obtain ⟨y,R1,U1,R2,U2,h1,e1,rfl,rfl⟩:=bind_some e
 obtain ⟨rfl,hx⟩:=zC h h1
 obtain ⟨z,R3,U3,R4,U4,h3,e2,rfl,rfl⟩:=bind_some e1
 obtain ⟨rfl,q⟩:=Q8 h hx h3
 obtain ⟨m,R5,U5,R6,U6,h5,e3,rfl,rfl⟩:=bind_some e2
 obtain ⟨hm,rfl,rfl⟩:=uk h5
 simp only [ze,List.nil_append] at e3 ⊢
 split at e3
 ·rename_i ht
  obtain ⟨el,hel⟩:=Yw hT ht
  obtain ⟨p,c,ev⟩:=zg8 hm q
  obtain ⟨Fp',hs⟩:=xL h e3 (x:=.d (.atom (.int .i64 m))) (zy.2 ⟨rfl,rfl⟩)
  exact zn (by simp [execOp,ho,resolve,invoke,builtin,Builtin.cap_,run_underlying hel,ev,goInt]) hs
 ·exact (z7 e3).elim
def nilCheckO (n:Fr) (dst:Option Nat) (x:Operand):SM Unit:=do
 let y ← opnd x
 match y with
 | .d (.fn f cs)=>wrT n dst (.d (.fn f cs))
 | y=>do
  let q ← ptrOf y
  match q with
  | .inl _=>wrT n dst y
  | .inr (r,p,er,ec)=>do
   let _ ← lookP r p er ec
   wrT n dst y
theorem zbS (hp:jW w.heap st (Act.tv a) r p er ec v) {x:A} (hr:(st r).t=.own x) (e1:(st r).er=er) (e2:(st r).ec=ec):∃ b o,v=.pointer (some ⟨b,o,none⟩):=by
 have:=hp.2.2
 simp only [hr] at this
 obtain ⟨_,y,b,o,_,_,g3⟩:=this e1 e2
 exact ⟨b,o,g3⟩
theorem z8Z (h:Sim C S Fp [] st a w)   (ho:o.op=.nilCheck x)    (e:nilCheckO C.n o.dst x st=some (u,R,U)):vF P C o a w (ze U st):=by
 unfold nilCheckO at e
 obtain ⟨y,R1,U1,R2,U2,h1,e1,rfl,rfl⟩:=bind_some e
 obtain ⟨rfl,hx⟩:=zC h h1
 simp only [ze,List.nil_append] at e1 ⊢
 have ptr:∀ {b o':Nat} {U:List (Nat × Ent)} {R:List Nat},a.eval x=.pointer (some ⟨b,o',none⟩) → wrT C.n o.dst y st=some (u,R,U) → vF P C o a w (ze U st):=by
  intro b o' U R ev hw
  obtain ⟨Fp',hs⟩:=xL h hw hx
  exact zn (v:=a.eval x) (by simp [execOp,ho,ev]) hs
 have gen:∀ {U:List (Nat × Ent)} {R:List Nat},(do
   let q ← ptrOf y
   match q with
   | .inl _=>wrT C.n o.dst y
   | .inr (r,p,er,ec)=>do
    let _ ← lookP r p er ec
    wrT C.n o.dst y:SM Unit) st=some (u,R,U) → vF P C o a w (ze U st):=by
  intro U R e2
  obtain ⟨q,R3,U3,R4,U4,h3,e3,rfl,rfl⟩:=bind_some e2
  obtain ⟨rfl,hq⟩:=Kh h hx h3
  simp only [ze,List.nil_append] at e3 ⊢
  cases q with
  | inl z=>
   obtain ⟨b,o',l,ev,_⟩:=hq
   exact ptr ev e3
  | inr t=>
   obtain ⟨r,p,er,ec⟩:=t
   obtain ⟨z,R5,U5,R6,U6,h5,e5,rfl,rfl⟩:=bind_some e3
   unfold lookP at h5
   obtain ⟨en,R7,U7,R8,U8,h7,e7,rfl,rfl⟩:=bind_some h5
   obtain ⟨rfl,rfl,rfl⟩:=y7 h7
   simp only [ze] at e7
   cases ht:(st r).t with
   | own x0=>
    simp only [ht] at e7
    split at e7
    ·rename_i hc
     obtain ⟨_,rfl,rfl⟩:=uk e7
     obtain ⟨b,o',ev⟩:=zbS hq ht hc.1 hc.2
     simp only [ze,List.nil_append,List.append_nil] at e5 ⊢
     exact ptr ev e5
    ·exact (z7 e7).elim
   | gone=>simp only [ht] at e7; exact (z7 e7).elim
   | d _=>simp only [ht] at e7; exact (z7 e7).elim
   | als _ _ _ _=>simp only [ht] at e7; exact (z7 e7).elim
   | ptr _ _ _ _=>simp only [ht] at e7; exact (z7 e7).elim
 cases y with
 | d z=>
  cases z with
  | fn f cs=>
   obtain ⟨Fp',hs⟩:=xL h e1 hx
   have hv:∃ vs,a.eval x=.func (.func f) #[] vs:=by
    have hx':xe S (.fn f cs) (a.eval x):=hx
    simp only [xe] at hx'
    obtain ⟨c,q1,q2⟩:=hx'
    simp only [Rep] at q1
    obtain ⟨vs,_,_,rfl⟩:=q1
    exact ⟨vs.toArray,q2⟩
   obtain ⟨vs,hv⟩:=hv
   exact zn (v:=a.eval x) (by simp [execOp,ho,hv]) hs
  | _=>exact gen e1
 | _=>exact gen e1
theorem z6J (l:List α):∀ (n k:Nat),(List.replicate n l).flatten[k]?=if k < n * l.length then l[k % l.length]? else none
 | 0,k=>by simp
 | n + 1,k=>by
  rw [List.replicate_succ,List.flatten_cons]
  by_cases hk:k < l.length
  ·rw [List.getElem?_append_left hk,if_pos (by rw [Nat.add_mul]; omega),Nat.mod_eq_of_lt hk]
  ·rw [List.getElem?_append_right (by omega),z6J l n]
   have hm:(k - l.length) % l.length=k % l.length:=(Nat.mod_eq_sub_mod (by omega)).symm
   rw [hm]
   by_cases h2:k - l.length < n * l.length
   ·rw [if_pos h2,if_pos (by rw [Nat.add_mul]; omega)]
   ·rw [if_neg h2,if_neg (by rw [Nat.add_mul]; omega)]
theorem KU (z:Array Value) (l c:Nat) (h:l ≤ c):(madeCells z (c * z.size)).toList.take (l * z.size)=(List.replicate l z.toList).flatten:=by
 apply List.ext_getElem?
 intro k
 rw [z6J,List.getElem?_take,Array.length_toList]
 have hle:l * z.size ≤ c * z.size:=Nat.mul_le_mul_right _ h
 split
 ·rename_i hk
  have hz:0 < z.size:=by
   rcases Nat.eq_zero_or_pos z.size with h0 | h0
   ·rw [h0] at hk; simp at hk
   ·exact h0
  have hmod:k % z.size < z.size:=Nat.mod_lt _ hz
  simp only [madeCells,Array.toList_map,Array.toList_range,List.getElem?_map,Array.getElem?_toList]
  rw [List.getElem?_eq_getElem (by simp; omega)]
  simp only [List.getElem_range,Option.map_some]
  rw [Array.getElem?_eq_getElem hmod,getElem!_pos z _ hmod]
 ·rfl
theorem WL (hz:zJ S h z cs []):∀ n,zM S h (List.replicate n z) (List.replicate n cs).flatten []
 | 0=>by simp [zM]
 | n + 1=>by
  simp only [List.replicate_succ,List.flatten_cons,zM]
  exact ⟨cs,_,[],[],rfl,rfl,hz,WL hz n⟩
theorem z8W (h:Sim C S Fp (F ++ []) st a w)  {arr:Array Value}  (hc:zM S w.heap es l F) (hn:F.Nodup) (ty:TypeId) {sz c:Nat} {t:Bool} (ht:t=true → c=es.length) (hlc:es.length ≤ c) (hm:c ≤ maxLen)
  (hsz:∀ x ∈ es,x.size=sz) (hs0:arr.size=c * sz) (htk:arr.toList.take (es.length * sz)=l) (w':World) (hw:w'=w.alloc (.cells arr ty)) :
  Sim C S Fp ((w.heap.size :: F) ++ []) st a w' ∧ zJ S w'.heap (.osl sz t es) [.slice (some ⟨w.heap.size,0,none⟩) es.length c] (w.heap.size :: F) ∧ (w.heap.size :: F).Nodup:=by
 subst hw
 have hlt:∀ k ∈ F,k < w.heap.size:=fun k hk=>(hc.own k hk).1
 refine ⟨by simpa using h.alloc (by simpa using hlt) _,?_,List.nodup_cons.2 ⟨fun hm=>Nat.lt_irrefl _ (hlt _ hm),hn⟩⟩
 simp only [zJ]
 exact ⟨_,c,rfl,ht,hlc,hm,hsz,.inr ⟨w.heap.size,arr,ty,l,F,rfl,heap_alloc_new w _,Nat.le_of_eq hs0.symm,htk,hc.frame (fun _ _ _ h=>h) (fun k hk=>⟨hao w _ k (hlt k hk),(hc.own k hk).2.1⟩),rfl,fun o=>h.free_new (Nat.le_refl _) o⟩⟩
def Zh (tt:TT) (n:Fr) (dst:Option Nat) (t:Nat) (l c:Operand):SM Unit:=do
 let tl ← opnd l
 let vl ← val tl
 let tc ← opnd c
 let vc ← val tc
 match vl,vc with
 | .atom (.int _ x),.atom (.int _ y)=>
  match tt t with
  | some ⟨.slice e,_,_,_,_⟩=>
   match tt e with
   | some i=>
    match i.zero with
    | some z=>if 0 ≤ x ∧ x ≤ y ∧ y ≤ lim ∧ i.bytes ≤ 4096 then wrT n dst (.own (.osl i.size (decide (x=y)) (List.replicate x.toNat z))) else zp
    | none=>zp
   | none=>zp
  | _=>zp
 | _,_=>zp
theorem z2j {P:Program}  (hT:xq P tt) (h:Sim C S Fp [] st a w)  {t:Nat} {l c:Operand} (ho:o.op=.makeSlice t l c)    (e:Zh tt C.n o.dst t l c st=some (u,R,U)):vF P C o a w (ze U st):=by
 unfold Zh at e
 obtain ⟨tl,R1,U1,R2,U2,h1,e1,rfl,rfl⟩:=bind_some e
 obtain ⟨rfl,hl⟩:=zC h h1
 obtain ⟨vl,R3,U3,R4,U4,h3,e2,rfl,rfl⟩:=bind_some e1
 obtain ⟨rfl,ql⟩:=vM h hl h3
 obtain ⟨tc,R5,U5,R6,U6,h5,e3,rfl,rfl⟩:=bind_some e2
 obtain ⟨rfl,hc⟩:=zC h h5
 obtain ⟨vc,R7,U7,R8,U8,h7,e4,rfl,rfl⟩:=bind_some e3
 obtain ⟨rfl,qc⟩:=vM h hc h7
 simp only [ze,List.nil_append] at e4 ⊢
 split at e4
 ·rename_i k1 x k2 y
  obtain ⟨ex,_⟩:=zy.1 ql
  obtain ⟨ey,_⟩:=zy.1 qc
  cases ht:tt t with
  | none=>simp only [ht] at e4; exact (z7 e4).elim
  | some it=>
   obtain ⟨kd,a1,a2,a3,a4⟩:=it
   cases kd with
   | slice el=>
    simp only [ht] at e4
    have hel:P.underlying t=some (.slice el):=(hT _ _ ht).kind
    cases hi:tt el with
    | none=>simp only [hi] at e4; exact (z7 e4).elim
    | some i=>
     simp only [hi] at e4
     cases hz:i.zero with
     | none=>simp only [hz] at e4; exact (z7 e4).elim
     | some z=>
      simp only [hz] at e4
      split at e4
      ·rename_i hcond
       obtain ⟨c1,c2,c3,c4⟩:=hcond
       obtain ⟨f,f1,f2,f3,f4⟩:=(hT _ _ hi).info
       obtain ⟨zv,v1,v2,v3⟩:=f4 z hz
       have hlim:y ≤ 4294967296:=by simpa [lim] using c3
       have hbytes:(f.bytes:Int) * y ≤ 281474976710656:=by
        rw [f3]
        have h1:(i.bytes:Int) ≤ 4096:=by omega
        have h2:(i.bytes:Int) * y ≤ 4096 * 4294967296:=Int.mul_le_mul h1 hlim (by omega) (by omega)
        omega
       have hrun:=run_make (P:=P) w t el f zv hel f1 v1 k1 k2 x y c1 c2 hbytes (by omega)
       have hzs:zv.cells.size=i.size:=by
        have:=(v3 (fun _ _=>none) #[]).len
        rw [v2] at this
        simpa using this
       rw [f2,← hzs] at hrun
       have hxy:x.toNat ≤ y.toNat:=by omega
       obtain ⟨k1',k2',k3'⟩:=z8W (F:=[]) (es:=List.replicate x.toNat z) (arr:=madeCells zv.cells (y.toNat * zv.cells.size)) (l:=(List.replicate x.toNat zv.cells.toList).flatten) (by simpa using h)
        (WL (v3 S w.heap) _) (by simp) el (sz:=i.size) (c:=y.toNat) (t:=decide (x=y)) (by intro hd; simp only [decide_eq_true_eq] at hd; simp [hd]) (by simpa using hxy) (by unfold maxLen; omega)
        (by intro q hq; rw [List.eq_of_mem_replicate hq]; exact v2) (by rw [size_madeCells,hzs]) (by rw [List.length_replicate,← hzs]; exact KU _ _ _ hxy) _ rfl
       obtain ⟨Fp'',hs⟩:=Vn k1' e4 k2' k3'
       refine zn ?_ hs
       simp only [execOp,ho,ex,ey,Sem.run_bind,hrun,Result.andThen_ok,Sem.run_pure]
       simp [zS]
      ·exact (z7 e4).elim
   | _=>simp only [ht] at e4; exact (z7 e4).elim
 ·exact (z7 e4).elim
theorem Wp {t ty e:TypeId}  (ht:P.underlying t=some (.slice e)) (hi:P.info? e=some i) (p q:Option Addr) (n c m:Nat) (hn:n ≤ c) (w:World) :
  (Builtin.append_ #[t,t] ty #[.slice p n c,.slice q 0 m]).run P w=.ok (.slice p n c) w:=by
 cases p <;> cases q <;> simp [Builtin.append_,run_underlying ht,Go.sizeOf,typeInfo,hi,Builtin.lenOf,hn,Builtin.firstCells,loadCells,loadCellsFrom,storeCells]
theorem z2I {P:Program} {t ty e bty:TypeId}  (ht:P.underlying t=some (.slice e)) (hi:P.info? e=some i) (w:World)
  (g n c:Nat) (cur:Array Value) (hg:w.heap[g]?=some (.cells cur bty (0,0)))
  (a:Addr) (m d:Nat) (news:List Value) (hl:news.length=m * i.size) (hnews:∀ j u,news[j]?=some u → w.cell? (a.add j)=some u) (h1:∀ u ∈ news,u.oneCell'=true)
  (hroom:n + m ≤ c) (hfit:n * i.size + news.length ≤ cur.size) :
  (Builtin.append_ #[t,t] ty #[.slice (some ⟨g,0,none⟩) n c,.slice (some a) m d]).run P w=.ok (.slice (some ⟨g,0,none⟩) (n + m) c) (w.setRow g (Q9 cur (n * i.size) news)):=by
 have hf:=run_firstCells_some (P:=P) w i.size m a m d news hl hnews
 have hst:=run_storeCells_at P g (n * i.size) bty news 0 cur w hg (by simpa using hfit) h1
 simp only [Nat.add_zero] at hst
 rw [uu hfit] at hst
 simp [Builtin.append_,run_underlying ht,Go.sizeOf,typeInfo,hi,Builtin.lenOf,hroom,hf,Addr.add_lit,hst]
theorem yd.append {c1 c2:List Value} (h1:yd S as_ c1) (h2:yd S bs c2):yd S (as_ ++ bs) (c1 ++ c2):=by
 induction as_ generalizing c1 with
 | nil=>simp only [yd] at h1; subst h1; simpa using h2
 | cons a as_ ih=>
  simp only [yd] at h1
  obtain ⟨d1,d2,rfl,r1,r2⟩:=h1
  simp only [List.cons_append,yd]
  exact ⟨d1,d2 ++ c2,by simp,r1,ih r2⟩
theorem zM.append {c1 c2:List Value} {F1 F2:List Nat} (h1:zM S h as_ c1 F1) (h2:zM S h bs c2 F2):zM S h (as_ ++ bs) (c1 ++ c2) (F1 ++ F2):=by
 induction as_ generalizing c1 F1 with
 | nil=>simp only [zM] at h1; obtain ⟨rfl,rfl⟩:=h1; simpa using h2
 | cons a as_ ih=>
  simp only [zM] at h1
  obtain ⟨d1,d2,G1,G2,rfl,rfl,r1,r2⟩:=h1
  simp only [List.cons_append,zM]
  exact ⟨d1,d2 ++ c2,G1,G2 ++ F2,by simp,by simp,r1,ih r2⟩
theorem YC {P:Program} {t ty e:TypeId}   (ht:P.underlying t=some (.slice e)) (hi:P.info? e=some f) (hz:f.zero=some zv) (hzs:zv.cells.size=f.size)
    {F G:List Nat} (h:Sim C S Fp (F ++ G) st a w) {es ys:List A} {olds news:List Value} (hes:zM S w.heap es olds F) (hFn:(F ++ G).Nodup) (hys:zM S w.heap ys news G) (hsz1:∀ x ∈ es,x.size=f.size) (hsz2:∀ x ∈ ys,x.size=f.size)
    {p:Option Addr} {c:Nat} (hp:(p=none ∧ es=[] ∧ c=0) ∨ ∃ b,p=some b ∧ ∀ j v,olds[j]?=some v → w.cell? (b.add j)=some v)
    {ad:Addr} {d:Nat} (hnews:∀ j v,news[j]?=some v → w.cell? (ad.add j)=some v) (hg:c < es.length + ys.length) (hlim:es.length + ys.length ≤ lim) (hb:f.bytes ≤ 4096) (hy0:0 < ys.length) :
    ∃ v w',(Builtin.append_ #[t,t] ty #[.slice p es.length c,.slice (some ad) ys.length d]).run P w=.ok v w' ∧ ∃ F',Sim C S Fp (F' ++ []) st a w' ∧ F'.Nodup ∧ ∃ cs,zJ S w'.heap (.osl f.size false (es ++ ys)) cs F' ∧ v=zS (.osl f.size false (es ++ ys)) cs:=by
  have hl1:olds.length=es.length * f.size:=by rw [hes.len,A.sizes_const hsz1]
  have hl2:news.length=ys.length * f.size:=by rw [hys.len,A.sizes_const hsz2]
  have hlim':es.length + ys.length ≤ 4294967296:=hlim
  have hbytes:(es.length + ys.length) * f.bytes ≤ 140737488355328:=by
    have:(es.length + ys.length) * f.bytes ≤ 4294967296 * 4096:=Nat.mul_le_mul hlim' hb
    omega
  have new:∀ cap,es.length + ys.length ≤ cap → cap ≤ maxLen →
      Sim C S Fp ((w.heap.size :: (F ++ G)) ++ []) st a (w.drew.alloc (.cells (olds.toArray ++ news.toArray ++ Builtin.zeroCells zv.cells (cap - (es.length + ys.length))) e)) ∧
      zJ S (w.drew.alloc (.cells (olds.toArray ++ news.toArray ++ Builtin.zeroCells zv.cells (cap - (es.length + ys.length))) e)).heap (.osl f.size false (es ++ ys)) [.slice (some ⟨w.heap.size,0,none⟩) (es ++ ys).length cap] (w.heap.size :: (F ++ G)) ∧ (w.heap.size :: (F ++ G)).Nodup:=by
    intro cap hc1 hc2
    have:=z8W (w:=w.drew) (F:=F ++ G) (by rw [List.append_nil]; exact h.drew) (es:=es ++ ys) (l:=olds ++ news) (arr:=olds.toArray ++ news.toArray ++ Builtin.zeroCells zv.cells (cap - (es.length + ys.length))) (hes.append hys) hFn e (sz:=f.size) (c:=cap) (t:=false) (by simp) (by simpa using hc1) hc2
      (by intro x hx; rcases List.mem_append.1 hx with h | h; exact hsz1 x h; exact hsz2 x h)
      (by simp only [Array.size_append,List.size_toArray,size_zeroCells,hzs,hl1,hl2,← Nat.add_mul]; congr 1; omega)
      (by
        simp only [Array.toList_append,List.length_append]
        rw [show (es.length + ys.length) * f.size=(olds ++ news).length from by rw [List.length_append,hl1,hl2,Nat.add_mul]]
        exact List.take_left) _ rfl
    exact this
  rcases hp with ⟨rfl,rfl,rfl⟩ | ⟨b,rfl,hb⟩
  · simp only [zM] at hes
    obtain ⟨rfl,rfl⟩:=hes
    have hr:=run_append_nil (P:=P) w t ty e f zv ht hi hz ad ys.length d news hl2 hnews (by simpa using hg) (by simp at hlim'; omega) (by simp only [List.length_nil,Nat.zero_add] at hbytes; omega)
    have hge:=grownCap_ge w ys.length 0 e
    obtain ⟨q1,q2,q3⟩:=new (grownCap w ys.length 0 e) (by simpa using hge) (grownCap_le_maxLen w _ 0 e (by unfold maxLen; simp at hlim'; omega))
    simp only [List.nil_append,List.length_nil,Nat.zero_add,Array.empty_append] at q1 q2 q3 hr ⊢
    exact ⟨_,_,hr,_,q1,q3,_,q2,rfl⟩
  · have hr:=run_append_grow (P:=P) w t ty e f zv ht hi hz b es.length c olds hl1 hb ad ys.length d news hl2 hnews hg (by omega) (growslice_fits hg hbytes)
    have hge:=grownCap_ge w (es.length + ys.length) c e
    obtain ⟨q1,q2,q3⟩:=new (grownCap w (es.length + ys.length) c e) hge (grownCap_le_maxLen w _ c e (by unfold maxLen; omega))
    refine ⟨_,_,hr,_,q1,q3,_,q2,?_⟩
    simp [zS]
theorem z3S {b o:Nat}  (h:Sim C S Fp X st a w) (hl:z5x S b o l):∀ j v,l[j]?=some v → w.cell? ((⟨b,o,none⟩:Addr).add j)=some v:=by
 intro j v hj
 rw [Addr.add_lit,Qm]
 exact h.still _ _ _ (hl j v hj)
theorem z0I (h:Sim C S Fp X st a w)   {ys:List A} (hy:(∃ t,y=.sl sz t ys) ∨ ∃ t,y=.osl sz t ys) (hD:A.areD ys=true)  (q:xe S y v ∨ ∃ cs F,zJ S w.heap y cs F ∧ v=zS y cs) :
  ∃ p d news,v=.slice p ys.length d ∧ yd S ys news ∧ (∀ x ∈ ys,x.size=sz) ∧ ((ys=[] ∧ news=[]) ∨ ∃ ad,p=some ad ∧ ∀ j u,news[j]?=some u → w.cell? (ad.add j)=some u):=by
 rcases hy with ⟨t,rfl⟩ | ⟨t,rfl⟩
 ·have:∃ cs,Rep S (.sl sz t ys) cs ∧ v=zS (.sl sz t ys) cs:=by
   rcases q with q | ⟨cs,F,q1,q2⟩
   ·exact q
   ·exact ⟨cs,(q1.isD rfl).1,q2⟩
  obtain ⟨cs,r1,rfl⟩:=this
  simp only [Rep] at r1
  obtain ⟨p,c,rfl,_,_,h4,h5⟩:=r1
  rcases h5 with rfl | ⟨b,o,l,rfl,r2,r3⟩
  ·exact ⟨p,c,[],rfl,by simp [yd],by simp,.inl ⟨rfl,rfl⟩⟩
  ·exact ⟨_,c,l,rfl,r2,h4,.inr ⟨_,rfl,z3S h r3⟩⟩
 ·rcases q with ⟨cs,q,_⟩ | ⟨cs,F,q1,rfl⟩
  ·simp [Rep] at q
  ·simp only [zJ] at q1
   obtain ⟨p,c,rfl,_,_,_,h4,h5⟩:=q1
   rcases h5 with ⟨rfl,_,rfl,_⟩ | ⟨b,arr,ty,l,F',rfl,k1,k2,k3,k4,_,_⟩
   ·exact ⟨none,c,[],rfl,by simp [yd],by simp,.inl ⟨rfl,rfl⟩⟩
   ·refine ⟨_,c,l,rfl,(k4.areD hD).1,h4,.inr ⟨_,rfl,?_⟩⟩
    intro j u hj
    rw [Addr.add_lit,Qm]
    simp only [y5,k1]
    rw [← k3,List.getElem?_take] at hj
    split at hj
    ·simpa using hj
    ·cases hj
theorem z5X {P:Program} {t ty e:TypeId}   (ht:P.underlying t=some (.slice e)) (hi:P.info? e=some f) (hz:f.zero=some zv) (hzs:zv.cells.size=f.size)
    {F G:List Nat} (h:Sim C S Fp (F ++ G) st a w) {tg:Bool} {es ys:List A} {cs:List Value} (hc:zJ S w.heap (.osl f.size tg es) cs F) (hFn:(F ++ G).Nodup)
    {p:Option Addr} {d:Nat} {news:List Value} (hr:zM S w.heap ys news G) (hsz2:∀ x ∈ ys,x.size=f.size) (hsrc:(ys=[] ∧ news=[]) ∨ ∃ ad,p=some ad ∧ ∀ j u,news[j]?=some u → w.cell? (ad.add j)=some u)
    (hlim:es.length + ys.length ≤ lim) (hb:f.bytes ≤ 4096) (hpl:A.plains ys=true) :
    ∃ v w',(Builtin.append_ #[t,t] ty #[zS (.osl f.size tg es) cs,.slice p ys.length d]).run P w=.ok v w' ∧ ∃ F',Sim C S Fp (F' ++ []) st a w' ∧ F'.Nodup ∧ ∃ cs',zJ S w'.heap (.osl f.size false (es ++ ys)) cs' F' ∧ v=zS (.osl f.size false (es ++ ys)) cs':=by
  have hc0:=hc
  simp only [zJ] at hc
  obtain ⟨q,c,rfl,t1,t2,t3,t4,t5⟩:=hc
  by_cases hy0:ys=[]
  · subst hy0
    simp only [zM] at hr
    obtain ⟨rfl,rfl⟩:=hr
    refine ⟨_,w,Wp ht hi q p es.length c d t2 w,F,h,by simpa using hFn,[.slice q es.length c],?_,?_⟩
    · simp only [zJ] at hc0 ⊢
      obtain ⟨q',c',h1,_,h3⟩:=hc0
      exact ⟨q',c',by simpa using h1,by simp,by simpa using h3⟩
    · simp [zS]
  · have hpos:0 < ys.length:=List.length_pos_iff.2 hy0
    rcases hsrc with ⟨hy,_⟩ | ⟨ad,rfl,hnews⟩
    · exact absurd hy hy0
    have hl2:news.length=ys.length * f.size:=by rw [hr.len,A.sizes_const hsz2]
    have hysc:=hr
    rcases t5 with ⟨rfl,rfl,rfl,rfl⟩ | ⟨b,arr,bty,l,F',rfl,k1,k2,k3,k4,rfl,k6⟩
    · exact YC ht hi hz hzs h (es:=[]) (olds:=[]) (by simp [zM]) hFn hysc (by simp) hsz2 (.inl ⟨rfl,rfl,rfl⟩) hnews (by simpa using hpos) hlim hb hpos
    · have hl1:l.length=es.length * f.size:=by rw [k4.len,A.sizes_const t4]
      have hF':=List.nodup_cons.1 (show (b :: (F' ++ G)).Nodup from hFn)
      by_cases hroom:es.length + ys.length ≤ c
      · have hfit:es.length * f.size + news.length ≤ arr.size:=Nat.le_trans (by rw [hl2,← Nat.add_mul]; exact Nat.mul_le_mul_right _ hroom) k2
        have hrun:=z2I (P:=P) (ty:=ty) ht hi w b es.length c arr k1 ad ys.length d news hl2 hnews (fun u hu=>(hr.one u hu).2 hpl) hroom hfit
        let w':=w.setRow b (Q9 arr (es.length * f.size) news)
        have hheap:∀ k,k ≠ b → w'.heap[k]?=w.heap[k]?:=fun k hk=>setRow_other w b k _ hk
        have hheapb:w'.heap[b]?=some (.cells (Q9 arr (es.length * f.size) news) bty (0,0)):=setRow_heap w b arr _ bty (0,0) k1
        have hbF:∀ t',b ∉ Fp t':=fun t'=>h.xd t' b (by simp)
        have hbase:C.M b:=h.xb b (by simp)
        refine ⟨_,w',hrun,b :: (F' ++ G),?_,hFn,[.slice (some ⟨b,0,none⟩) (es.length + ys.length) c],?_,rfl⟩
        · refine h.mem (h.below.trans ⟨rfl,rfl,rfl,Nat.le_refl _,by simp [w'],fun k hk=>hheap k (fun e=>hk (e ▸ hbase))⟩) (fun _ _ _ h=>h) ?_ h.sbase (fun t' k hk=>⟨hheap k (by rintro rfl; exact hbF t' hk),(h.free t' k hk).2.1⟩) (by simpa using hFn) (by simpa using h.xd) (by simpa using h.xb)
          intro b' o' v hs
          rw [w7 (h:=w.heap) (h':=w'.heap) (hheap b' (by rintro rfl; rw [k6] at hs; cases hs))]
          exact h.still b' o' v hs
        · simp only [zJ,List.length_append]
          refine ⟨_,c,rfl,by simp,hroom,t3,?_,.inr ⟨b,Q9 arr (es.length * f.size) news,bty,l ++ news,F' ++ G,rfl,hheapb,by simp [k2],?_,?_,rfl,k6⟩⟩
          · intro x hx
            rcases List.mem_append.1 hx with h | h
            · exact t4 x h
            · exact hsz2 x h
          · apply List.ext_getElem?
            intro k
            have hle:es.length * f.size ≤ arr.size:=by omega
            rw [List.getElem?_take,Array.getElem?_toList,qX,Nat.add_mul]
            by_cases hk:k < es.length * f.size
            · rw [if_pos (by omega),if_neg (by omega),List.getElem?_append_left (by omega),← k3,List.getElem?_take,if_pos hk,Array.getElem?_toList]
              cases arr[k]? <;> rfl
            · by_cases hk2:k < es.length * f.size + ys.length * f.size
              · rw [if_pos hk2,if_pos (by omega),List.getElem?_append_right (by omega),hl1,Array.getElem?_eq_getElem (by omega),List.getElem?_eq_getElem (by omega)]
                rfl
              · rw [if_neg hk2,List.getElem?_eq_none (by rw [List.length_append]; omega)]
          · exact zM.append (k4.frame (S':=S) (h':=w'.heap) (fun _ _ _ h=>h) (fun k hk=>⟨hheap k (by rintro rfl; exact hF'.1 (by simp [hk])),(k4.own k hk).2.1⟩))
              (hr.frame (S':=S) (h':=w'.heap) (fun _ _ _ h=>h) (fun k hk=>⟨hheap k (by rintro rfl; exact hF'.1 (by simp [hk])),(hr.own k hk).2.1⟩))
      · have hold:∀ j v,l[j]?=some v → w.cell? ((⟨b,0,none⟩:Addr).add j)=some v:=by
          intro j u hj
          rw [Addr.add_lit,Qm]
          simp only [y5,k1]
          rw [← k3,List.getElem?_take] at hj
          split at hj
          · simpa using hj
          · cases hj
        have hsub:Sim C S Fp (F' ++ G) st a w:=h.mem h.below (fun _ _ _ h=>h) h.still.cell h.sbase (fun t' k hk=>⟨rfl,(h.free t' k hk).2.1⟩) hF'.2 (fun t' k hk=>h.xd t' k (by simp at hk ⊢; exact .inr hk)) (fun k hk=>h.xb k (by simp at hk ⊢; exact .inr hk))
        exact YC ht hi hz hzs hsub k4 hF'.2 hysc t4 hsz2 (.inr ⟨_,rfl,hold⟩) hnews (by omega) hlim hb hpos
def z1X (tt:TT) (n:Fr) (dst:Option Nat) (t:Nat) (s x:Operand):SM Unit:=do
 let ts ← opnd s
 let tx ← opnd x
 let y ← peek tx
 match y with
 | .osl _ _ ys=>if A.areD ys=true then appendA tt n dst t ts tx else appendOwnA tt n dst t s x
 | _=>appendA tt n dst t ts tx
theorem z5Y (hT:xq P tt) (h:Sim C S Fp [] st a w)  {t:Nat} {s x:Operand} (ho:o.op=.call { callee:=.builtin .append,args:=#[s,x],argTypes:=#[t,t] }) {ts tx:T} (hs:TOk S w.heap st (Act.tv a) ts (a.eval s)) (hx:TOk S w.heap st (Act.tv a) tx (a.eval x))
    {u:Unit} {R:List Nat} {U:List (Nat × Ent)} (e:appendA tt C.n o.dst t ts tx st=some (u,R,U)):vF P C o a w (ze U st):=by
  unfold appendA at e
  cases ht:tt t with
  | none=>simp only [ht] at e; exact (z7 e).elim
  | some it=>
    obtain ⟨kd,a1,a2,a3,a4⟩:=it
    cases kd with
    | slice el=>
      simp only [ht] at e
      have hel:P.underlying t=some (.slice el):=(hT _ _ ht).kind
      cases hi:tt el with
      | none=>simp only [hi] at e; exact (z7 e).elim
      | some i=>
        simp only [hi] at e
        obtain ⟨f,f1,f2,f3,f4⟩:=(hT _ _ hi).info
        obtain ⟨y,R1,U1,R2,U2,h1,e1,rfl,rfl⟩:=bind_some e
        obtain ⟨rfl,q⟩:=Q8 h hx h1
        simp only [ze,List.nil_append] at e1 ⊢
        have main:∀ (sz:Nat) (ys:List A),((∃ tg,y=.sl sz tg ys) ∨ ∃ tg,y=.osl sz tg ys) →
            (if sz=i.size ∧ A.areD ys=true ∧ i.bytes ≤ 4096 ∧ 0 < i.size ∧ i.zero.isSome=true then (do
              let z ← takeC tt t ts
              match z with
              | .osl sz' tg es=>if sz'=i.size ∧ es.length + ys.length ≤ lim then wrT C.n o.dst (.own (.osl sz' false (es ++ ys))) else zp
              | .sl sz' tg es=>if sz'=i.size ∧ es.length + ys.length ≤ lim ∧ tg=true ∧ ys ≠ [] ∧ A.areD es=true then wrT C.n o.dst (.own (.osl sz' false (es ++ ys))) else zp
              | _=>zp:SM Unit) else zp) st=some (u,R2,U2) → vF P C o a w (ze U2 st):=by
          intro sz ys hy e2
          split at e2
          · rename_i hcond
            obtain ⟨rfl,c2,c3,c4,c5⟩:=hcond
            obtain ⟨z0,hz0⟩:=Option.isSome_iff_exists.1 c5
            obtain ⟨zv,v1,v2,v3⟩:=f4 z0 hz0
            have hzs:zv.cells.size=f.size:=by
              have:=(v3 (fun _ _=>none) #[]).len
              rw [v2,← f2] at this
              simpa using this
            obtain ⟨p,d,news,ev,r1,r2,r3⟩:=z0I h hy c2 q
            obtain ⟨z,R3,U3,R4,U4,h3,e4,rfl,rfl⟩:=bind_some e2
            obtain ⟨Fp',F,g1,g2⟩:=US h hs h3
            rw [zw]
            have fin:∀ v w',(Builtin.append_ #[t,t] o.type #[a.eval s,a.eval x]).run P w=.ok v w' → (execOp a.eval o).run P w=.ok (.value v) w':=by
              intro v w' hrun
              simp [execOp,ho,resolve,invoke,builtin,hrun]
            cases z with
            | osl sz' tg es=>
              simp only at e4
              split at e4
              · rename_i hc
                obtain ⟨rfl,hlim⟩:=hc
                obtain ⟨cs,k1,k2,k3⟩:=g2.cells (by simp)
                rw [← f2] at k1 k3 r2 e4
                obtain ⟨v,w',hrun,F',m1,m2,cs',m3,rfl⟩:=z5X (ty:=o.type) hel f1 v1 hzs g1 k1 (by simpa using k2) (p:=p) (d:=d) (r1.concs w.heap) r2 r3 hlim (by omega) r1.plain
                obtain ⟨Fp'',hs'⟩:=Vn m1 e4 m3 m2
                exact zn (fin _ _ (by rw [k3,ev]; exact hrun)) hs'
              · exact (z7 e4).elim
            | sl sz' tg es=>
              simp only at e4
              split at e4
              · rename_i hc
                obtain ⟨rfl,hlim,rfl,hne,hD⟩:=hc
                have hrep:∃ cs,Rep S (.sl i.size true es) cs ∧ a.eval s=zS (.sl i.size true es) cs ∧ F=[]:=by
                  rcases g2 with ⟨q,rfl⟩ | ⟨cs,q1,q2,q3⟩
                  · simp only [xe] at q
                    obtain ⟨cs,q1,q2⟩:=q
                    exact ⟨cs,q1,q2,rfl⟩
                  · exact ⟨cs,(q1.isD rfl).1,q3,(q1.isD rfl).2⟩
                obtain ⟨cs,q1,q2,rfl⟩:=hrep
                simp only [Rep] at q1
                obtain ⟨pp,c,rfl,t1,t2,t3,t4⟩:=q1
                have hcl:=t1 trivial
                subst hcl
                have hpos:0 < ys.length:=List.length_pos_iff.2 hne
                rcases r3 with ⟨hy,_⟩ | ⟨ad,rfl,hnews⟩
                · exact absurd hy hne
                rw [← f2] at t3 r2 e4
                have hold:∃ olds,yd S es olds ∧ ((pp=none ∧ es=[] ∧ es.length=0) ∨ ∃ b,pp=some b ∧ ∀ j v,olds[j]?=some v → w.cell? (b.add j)=some v):=by
                  rcases t4 with rfl | ⟨b,o',l,rfl,k1,k2⟩
                  · cases pp with
                    | none=>exact ⟨[],by simp [yd],.inl ⟨rfl,rfl,rfl⟩⟩
                    | some b=>exact ⟨[],by simp [yd],.inr ⟨b,rfl,by simp⟩⟩
                  · exact ⟨l,k1,.inr ⟨_,rfl,z3S h k2⟩⟩
                obtain ⟨olds,n1,n2⟩:=hold
                obtain ⟨v,w',hrun,F',m1,m2,cs',m3,rfl⟩:=YC (ty:=o.type) hel f1 v1 hzs g1 (n1.concs w.heap) (by simp) (r1.concs w.heap) t3 r2 n2 (d:=d) hnews (by omega) hlim (by omega) hpos
                obtain ⟨Fp'',hs'⟩:=Vn m1 e4 m3 m2
                exact zn (fin _ _ (by rw [q2,ev]; exact hrun)) hs'
              · exact (z7 e4).elim
            | _=>exact (z7 e4).elim
          · exact (z7 e2).elim
        cases y with
        | sl sz tg ys=>exact main sz ys (.inl ⟨tg,rfl⟩) e1
        | osl sz tg ys=>exact main sz ys (.inr ⟨tg,rfl⟩) e1
        | _=>exact (z7 e1).elim
    | _=>simp only [ht] at e; exact (z7 e).elim
theorem z71 (hT:xq P tt) (h:Sim C S Fp [] st a w)  {t:Nat} {s x:Operand} (ho:o.op=.call { callee:=.builtin .append,args:=#[s,x],argTypes:=#[t,t] })
    {u:Unit} {R:List Nat} {U:List (Nat × Ent)} (e:appendOwnA tt C.n o.dst t s x st=some (u,R,U)):vF P C o a w (ze U st):=by
  unfold appendOwnA at e
  cases ht:tt t with
  | none=>simp only [ht] at e; exact (z7 e).elim
  | some it=>
    obtain ⟨kd,a1,a2,a3,a4⟩:=it
    cases kd with
    | slice el=>
      simp only [ht] at e
      have hel:P.underlying t=some (.slice el):=(hT _ _ ht).kind
      cases hi:tt el with
      | none=>simp only [hi] at e; exact (z7 e).elim
      | some i=>
        simp only [hi] at e
        obtain ⟨f,f1,f2,f3,f4⟩:=(hT _ _ hi).info
        split at e
        · rename_i hcond
          obtain ⟨c3,c4,c5⟩:=hcond
          obtain ⟨z0,hz0⟩:=Option.isSome_iff_exists.1 c5
          obtain ⟨zv,v1,v2,v3⟩:=f4 z0 hz0
          have hzs:zv.cells.size=f.size:=by
            have:=(v3 (fun _ _=>none) #[]).len
            rw [v2,← f2] at this
            simpa using this
          obtain ⟨tx,R1,U1,R2,U2,h1,e1,rfl,rfl⟩:=bind_some e
          obtain ⟨rfl,hx⟩:=zC h h1
          obtain ⟨y,R3,U3,R4,U4,h3,e2,rfl,rfl⟩:=bind_some e1
          simp only [ze,List.nil_append] at h3 e2 ⊢
          obtain ⟨Fp1,G,g1,g2⟩:=z1y h hx h3
          obtain ⟨ts,R5,U5,R6,U6,h5,e3,rfl,rfl⟩:=bind_some e2
          obtain ⟨rfl,hs⟩:=zC g1 h5
          obtain ⟨z,R7,U7,R8,U8,h7,e4,rfl,rfl⟩:=bind_some e3
          simp only [ze,List.nil_append] at h7 e4 ⊢
          obtain ⟨Fp2,F,k1,k2⟩:=US g1 hs h7
          rw [zw,zw]
          have fin:∀ v w',(Builtin.append_ #[t,t] o.type #[a.eval s,a.eval x]).run P w=.ok v w' → (execOp a.eval o).run P w=.ok (.value v) w':=by
            intro v w' hrun
            simp [execOp,ho,resolve,invoke,builtin,hrun]
          cases y with
          | osl sz tgy ys=>
            cases z with
            | osl sz' tg es=>
              simp only at e4
              split at e4
              · rename_i hc
                obtain ⟨rfl,rfl,hpl,hlim⟩:=hc
                obtain ⟨cs,m1,m2,m3⟩:=k2.cells (by simp)
                obtain ⟨ds,n1,n2,n3⟩:=Has.cells g2 (by simp)
                rw [← f2] at m1 m3 e4 n1
                simp only [zJ] at n1
                obtain ⟨p,d,rfl,_,_,_,t4,t5⟩:=n1
                have hxn:=k1.xn
                rw [List.append_nil] at hxn
                have fin2:∀ (G':List Nat) (news:List Value),zM S w.heap ys news G' → (∀ k ∈ G',k ∈ G) → G'.Nodup → ((ys=[] ∧ news=[]) ∨ ∃ ad,p=some ad ∧ ∀ j u,news[j]?=some u → w.cell? (ad.add j)=some u) → vF P C o a w (ze U8 (ze U7 (ze U3 st))):=by
                  intro G' news q1 q2 q3 q4
                  have hsub:Sim C S Fp2 (F ++ G') (ze U7 (ze U3 st)) a w:=k1.mem k1.below (fun _ _ _ h=>h) k1.still.cell k1.sbase (fun t' k hk=>⟨rfl,(k1.free t' k hk).2.1⟩)
                    (by
                      rw [List.nodup_append] at hxn ⊢
                      exact ⟨hxn.1,q3,fun k hk k' hk'=>hxn.2.2 k hk k' (q2 k' hk')⟩)
                    (fun t' k hk=>k1.xd t' k (by simp at hk ⊢; exact hk.imp id (q2 k))) (fun k hk=>k1.xb k (by simp at hk ⊢; exact hk.imp id (q2 k)))
                  obtain ⟨v,w',hrun,F',r1,r2,cs',r3,rfl⟩:=z5X (ty:=o.type) hel f1 v1 hzs hsub m1 hsub.xn (p:=p) (d:=d) q1 t4 q4 hlim (by omega) hpl
                  obtain ⟨Fp'',hs'⟩:=Vn r1 e4 r3 r2
                  exact zn (fin _ _ (by rw [m3,n3]; exact hrun)) hs'
                rcases t5 with ⟨rfl,rfl,rfl,rfl⟩ | ⟨b,arr,bty,l,G',rfl,q1,q2,q3,q4,rfl,q6⟩
                · exact fin2 [] [] (by simp [zM]) (by simp) (by simp) (.inl ⟨rfl,rfl⟩)
                · refine fin2 G' l q4 (fun k hk=>by simp [hk]) (List.nodup_cons.1 n2).2 (.inr ⟨_,rfl,?_⟩)
                  intro j u hj
                  rw [Addr.add_lit,Qm]
                  simp only [y5,q1]
                  rw [← q3,List.getElem?_take] at hj
                  split at hj
                  · simpa using hj
                  · cases hj
              · exact (z7 e4).elim
            | _=>exact (z7 e4).elim
          | _=>cases z <;> exact (z7 e4).elim
        · exact (z7 e).elim
    | _=>simp only [ht] at e; exact (z7 e).elim
theorem zdr (hT:xq P tt) (h:Sim C S Fp [] st a w)  {t:Nat} {s x:Operand} (ho:o.op=.call { callee:=.builtin .append,args:=#[s,x],argTypes:=#[t,t] })
    {u:Unit} {R:List Nat} {U:List (Nat × Ent)} (e:z1X tt C.n o.dst t s x st=some (u,R,U)):vF P C o a w (ze U st):=by
  unfold z1X at e
  obtain ⟨ts,R1,U1,R2,U2,h1,e1,rfl,rfl⟩:=bind_some e
  obtain ⟨rfl,hs⟩:=zC h h1
  obtain ⟨tx,R3,U3,R4,U4,h3,e2,rfl,rfl⟩:=bind_some e1
  obtain ⟨rfl,hx⟩:=zC h h3
  obtain ⟨y,R5,U5,R6,U6,h5,e3,rfl,rfl⟩:=bind_some e2
  obtain ⟨rfl,_⟩:=Q8 h hx h5
  simp only [ze,List.nil_append] at e3 ⊢
  cases y with
  | osl sz tg ys=>
    simp only at e3
    split at e3
    · exact z5Y hT h ho hs hx e3
    · exact z71 hT h ho e3
  | _=>exact z5Y hT h ho hs hx e3
end
end Go.Own
