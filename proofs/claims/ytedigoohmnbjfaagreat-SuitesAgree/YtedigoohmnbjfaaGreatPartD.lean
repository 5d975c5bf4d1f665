/- -/
import Derived.Test.YtedigoohmnbjfaaGreatPartC
import Derived.Shelf.SlSortCmp.NoneTotal
import Derived.Laws.BytesString
noncomputable section
set_option linter.unusedVariables false
set_option linter.unusedSimpArgs false
namespace Go.Own
open Classical
def VX (S:zl) (h:Array Obj):List (Option A) → List Value → List Nat → Prop
 | [],[],F=>F=[]
 | none :: ys,_ :: vs,F=>VX S h ys vs F
 | some y :: ys,v :: vs,F=>∃ F1 F2,F=F2 ++ F1 ∧ Has S h y v F1 ∧ VX S h ys vs F2
 | _,_,_=>False
theorem VX.frame {S S':zl} {h h':Array Obj} (hS:∀ b o u,S b o=some u → S' b o=some u):∀ {ys:List (Option A)} {vs:List Value} {F:List Nat},VX S h ys vs F → (∀ k ∈ F,h'[k]?=h[k]? ∧ ∀ o,S' k o=none) → VX S' h' ys vs F
 | [],[],_,q,_=>q
 | none :: ys,_ :: vs,F,q,hF=>VX.frame (ys:=ys) (vs:=vs) (F:=F) hS q hF
 | some _ :: _,_ :: _,_,⟨F1,F2,e,q1,q2⟩,hF=>⟨F1,F2,e,q1.frame hS (fun k hk=>hF k (by rw [e]; simp [hk])),VX.frame hS q2 (fun k hk=>hF k (by rw [e]; simp [hk]))⟩
 | [],_ :: _,_,q,_=>q.elim
 | none :: _,[],_,q,_=>q.elim
 | some _ :: _,[],_,q,_=>q.elim
variable {S:zl}{h:Array Obj}
theorem VX.own:∀ {ys:List (Option A)} {vs:List Value} {F:List Nat},VX S h ys vs F → ∀ k ∈ F,k < h.size ∧ ∀ o,S k o=none
 | [],[],F,q,k,hk=>by
  have e:F=[]:=q
  subst e; simp at hk
 | none :: ys,_ :: vs,F,q,k,hk=>VX.own (ys:=ys) (vs:=vs) (F:=F) q k hk
 | some _ :: _,_ :: _,F,⟨F1,F2,e,q1,q2⟩,k,hk=>by
  subst e
  rcases List.mem_append.1 hk with hk | hk
  ·exact VX.own q2 k hk
  ·exact q1.own k hk
 | [],_ :: _,_,q,_,_=>q.elim
 | none :: _,[],_,q,_,_=>q.elim
 | some _ :: _,[],_,q,_,_=>q.elim
theorem VX.of:∀ {ys:List A} {vs:List Value} {F:List Nat},XZ S h ys vs F → VX S h (ys.map some) vs F
 | [],[],_,q=>q
 | _ :: _,_ :: _,_,⟨F1,F2,e,q1,q2⟩=>⟨F1,F2,e,q1,VX.of q2⟩
 | [],_ :: _,_,q=>q.elim
 | _ :: _,[],_,q=>q.elim
theorem VX.at:∀ {ys:List (Option A)} {vs:List Value} {F:List Nat} {i:Nat} {y:A},VX S h ys vs F → ys[i]?=some (some y) →
  ∃ v F1 F2,vs[i]?=some v ∧ Has S h y v F1 ∧ VX S h (ys.set i none) vs F2 ∧ (∀ k,k ∈ F ↔ k ∈ F1 ∨ k ∈ F2) ∧ (F.Nodup → F1.Nodup ∧ F2.Nodup ∧ ∀ k ∈ F1,k ∉ F2)
 | [],[],_,_,_,_,e=>by simp at e
 | none :: ys,v :: vs,F,0,y,q,e=>by simp at e
 | none :: ys,v :: vs,F,i + 1,y,q,e=>by
  obtain ⟨u,F1,F2,h1,h2,h3,h4,h5⟩:=VX.at (ys:=ys) (vs:=vs) (F:=F) q (by simpa using e)
  exact ⟨u,F1,F2,by simpa using h1,h2,h3,h4,h5⟩
 | some z :: ys,v :: vs,F,0,y,⟨F1,F2,e1,q1,q2⟩,e=>by
  simp only [List.getElem?_cons_zero,Option.some.injEq] at e
  subst e e1
  refine ⟨v,F1,F2,rfl,q1,q2,fun k=>by rw [List.mem_append]; exact or_comm,fun hn=>?_⟩
  rw [List.nodup_append] at hn
  exact ⟨hn.2.1,hn.1,fun k hk hk'=>hn.2.2 k hk' k hk rfl⟩
 | some z :: ys,v :: vs,F,i + 1,y,⟨F1,F2,e1,q1,q2⟩,e=>by
  obtain ⟨u,G1,G2,h1,h2,h3,h4,h5⟩:=VX.at q2 (by simpa using e)
  subst e1
  refine ⟨u,G1,G2 ++ F1,by simpa using h1,h2,⟨F1,G2,rfl,q1,h3⟩,fun k=>by simp only [List.mem_append,h4 k,or_assoc],fun hn=>?_⟩
  rw [List.nodup_append] at hn
  obtain ⟨n1,n2,n3⟩:=h5 hn.1
  refine ⟨n1,?_,?_⟩
  ·rw [List.nodup_append]
   exact ⟨n2,hn.2.1,fun k hk k' hk'=>hn.2.2 k ((h4 k).2 (.inr hk)) k' hk'⟩
  ·intro k hk hk'
   rcases List.mem_append.1 hk' with hk' | hk'
   ·exact n3 k hk hk'
   ·exact hn.2.2 k ((h4 k).2 (.inl hk)) k hk' rfl
 | [],_ :: _,_,_,_,q,_=>q.elim
 | none :: _,[],_,_,_,q,_=>q.elim
 | some _ :: _,[],_,_,_,q,_=>q.elim
def K9 (xs:List (Option A)):Opq:={
 holds:=fun S h v F=>∃ vs:List Value,v=.tuple vs.toArray ∧ VX S h xs vs F
 multi:=true
 one:=fun ⟨vs,e,_⟩=>.inr ⟨rfl,_,e⟩
 frame:=fun hS hF ⟨vs,e,q⟩=>⟨vs,e,q.frame hS hF⟩
 own:=fun ⟨_,_,q⟩=>q.own
 idx:=0 }
def zc7:A → Bool
 | .tup _=>false
 | _=>true
variable {U:List (Nat × Ent)}{R:List Nat}{o:Oper}{u:Unit}{x:Operand}
section
variable {P:Program} {C:Ctx} {S:zl} {Fp:Nat → List Nat} {X:List Nat} {st:St} {a:Act} {w:World}
def zg0 (n:Fr) (dst:Option Nat) (xs:List (Option A)) (r:Nat) (e:Ent) (i:Nat):SM Unit :=
 match xs[i]? with
 | some (some y)=>
  if y.isD=true then wrT n dst (.d y)
  else if zc7 y=true then do
   wrE r ⟨.own (.opq (K9 (xs.set i none))),e.er,e.ec + 1⟩
   wrT n dst (.own y)
  else zp
 | _=>zp
def zg2 (n:Fr) (dst:Option Nat) (xs:List (Option A)) (x:Operand) (i:Nat):SM Unit:=do
 let tx ← opnd x
 match tx with
 | .als r [] er ec=>do
  let e ← rdE r
  if e.t=.own (.opq (K9 xs)) ∧ e.er=er then zg0 n dst xs r e i
  else zp
 | _=>zp
theorem zg1 (h:Sim C S Fp [] st a w)  {xs:List (Option A)} {x:Operand} {i:Nat} (ho:o.op=.extract x i)    (e:zg2 C.n o.dst xs x i st=some (u,R,U)):vF P C o a w (ze U st):=by
 unfold zg2 at e
 obtain ⟨tx,R1,U1,R2,U2,h1,e1,rfl,rfl⟩:=bind_some e
 obtain ⟨rfl,hx⟩:=zC h h1
 simp only [ze,List.nil_append] at e1 ⊢
 split at e1
 ·rename_i r er ec
  obtain ⟨en,R3,U3,R4,U4,h3,e2,rfl,rfl⟩:=bind_some e1
  obtain ⟨rfl,rfl,rfl⟩:=y7 h3
  simp only [ze,List.nil_append] at e2 ⊢
  split at e2
  ·rename_i hc
   obtain ⟨c1,c2⟩:=hc
   have hr:=h.ent r
   unfold xm at hr
   simp only [c1] at hr
   obtain ⟨cs,k1,k2,k3⟩:=hr
   simp only [zJ] at k1
   obtain ⟨v0,rfl,vs,rfl,g1⟩:=k1
   have hev:a.eval x=.tuple vs.toArray:=by
    have:=hx.2.2
    simp only [c1] at this
    rcases this c2 (.inl trivial) with ⟨_,q⟩ | ⟨q,_⟩
    ·rw [q,k3]; rfl
    ·simp [JQ] at q
   unfold zg0 at e2
   cases hy0:xs[i]? with
   | none=>simp only [hy0] at e2; exact (z7 e2).elim
   | some yo=>
   cases yo with
   | none=>simp only [hy0] at e2; exact (z7 e2).elim
   | some y=>
    simp only [hy0] at e2
    have hy:xs[i]?=some (some y):=hy0
    obtain ⟨v,F1,F2,m1,m2,m3,m4,m5⟩:=g1.at hy
    obtain ⟨n1,n2,n3⟩:=m5 k2
    have run:(execOp a.eval o).run P w=.ok (.value v) w:=by simp [execOp,ho,hev,Instr.extract,m1]
    split at e2
    ·rename_i hd
     obtain ⟨q1,_⟩:=z9T hd m2
     obtain ⟨Fp',hs⟩:=xL h e2 (x:=.d y) q1.repV
     exact zn run hs
    ·split at e2
     ·rename_i hnt
      obtain ⟨u5,R5,U5,R6,U6,h5,h6,rfl,rfl⟩:=bind_some e2
      obtain ⟨rfl,rfl⟩:=xH h5
      obtain ⟨cs,c3,c4,c5⟩:=m2.cells (by rintro fs rfl; cases hnt)
      have h2:Sim C S (Jp Fp r F2) (F1 ++ []) (upd st r ⟨.own (.opq (K9 (xs.set i none))),(st r).er,(st r).ec + 1⟩) a w:=by
       refine h.change r (.own (.opq (K9 (xs.set i none)))) _ _ F2 h.below (fun _ _ _ q=>q) h.still.cell h.sbase (fun t k _ hk=>⟨rfl,(h.free t k hk).2.1⟩) ⟨⟨[.tuple vs.toArray],?_,n2,k3⟩,_,c1⟩ (.inl ⟨_,c1⟩) (Nat.le_refl _) (Nat.lt_succ_self _) ?_ ?_ (by simpa using n1) ?_ ?_ ?_
       ·simp only [zJ]
        exact ⟨_,rfl,vs,rfl,m3⟩
       ·intro t k ht hk hk'
        exact ht (h.disj t r k hk' ((m4 k).2 (.inr hk)))
       ·intro k hk
        exact h.base r k ((m4 k).2 (.inr hk))
       ·intro t k ht hk hk'
        exact ht (h.disj t r k hk' ((m4 k).2 (.inl (by simpa using hk))))
       ·intro k hk
        exact n3 k (by simpa using hk)
       ·intro k hk
        exact h.base r k ((m4 k).2 (.inl (by simpa using hk)))
      simp only [ze] at h6 ⊢
      obtain ⟨Fp',hs⟩:=Vn h2 h6 c3 c4
      subst c5
      exact zn run hs
     ·exact (z7 e2).elim
  ·exact (z7 e2).elim
 ·exact (z7 e1).elim
end
def zla (n:Fr) (dst:Option Nat) (xs:List (Option A)) (x:Operand) (i:Nat):HM Unit:=y3 (opnd x) >>= fun tx=>
 match tx with
 | .als r [] er ec=>y3 (rdE r) >>= fun e=>Zg (e.t=.own (.opq (K9 xs)) ∧ e.er=er) (y3 (zg0 n dst xs r e i))
 | _=>zK
theorem zko (n:Fr) (dst:Option Nat) (xs:List (Option A)) (x:Operand) (i:Nat):Snd (zg2 n dst xs x i) (zla n dst xs x i):=by
 refine zh (zk _) fun tx=>?_
 cases tx with
 | als r p er ec=>
  cases p with
  | nil=>exact zh (zk _) fun e=>wd (zk _)
  | cons _ _=>exact zq _
 | _=>exact zq _
def z2v (P:Program) (d:Nat) (xs:List (Option A)):XH P:={
 e:=fun n o=>match o.op with | .extract x i=>if o.dst=some d then some (zg2 n o.dst xs x i) else none | _=>none
 h:=fun n o=>match o.op with | .extract x i=>if o.dst=some d then some (zla n o.dst xs x i) else none | _=>none
 ok:=by
  refine ⟨?_,?_⟩
  ·intro C S Fp st a w o m u R U e h h2
   dsimp only at e
   split at e
   ·rename_i x i ho
    split at e
    ·cases e; exact zg1 h ho h2
    ·cases e
   ·cases e
  ·intro n o m e
   dsimp only at e
   split at e
   ·split at e
    ·cases e
     refine Loc.bind (Loc.opnd _) fun tx=>?_
     split
     ·refine Loc.bind (Loc.rdE _) fun _=>Loc.ite ?_ Loc.fail
      unfold zg0
      split
      ·exact Loc.ite (Loc.wrT _ _ _) (Loc.ite (Loc.bind (Loc.wrE _ _) fun _=>Loc.wrT _ _ _) Loc.fail)
      ·exact Loc.fail
     ·exact Loc.fail
    ·cases e
   ·cases e
 none:=by
  intro n o e
  skip
  split at e
  ·split at e
   ·cases e
   ·rename_i hd; rw [if_neg hd]
  ·rfl
 some:=by
  intro n o m e
  skip
  split at e
  ·split at e
   ·rename_i hd; cases e; exact ⟨_,by rw [if_pos hd],zko _ _ _ _ _⟩
   ·cases e
  ·cases e }
def z6G (tt:TT) (x:T) (c:Option Nat):Option A :=
 match x,c with
 | .own y,none=>if zc7 y=true then some y else none
 | .own (.box y),some ty=>if jQ tt ty y=true then some y else none
 | _,_=>none
def znL (tt:TT) (g:Bool) (t:Nat) (c:Option Nat):SM A :=
 if g=true then do
  let e ← rdE t
  let x ← ofO (z6G tt e.t c)
  wrE t ⟨.gone,e.er + 1,e.ec + 1⟩
  pure x
 else do
  let xs ← shutArgs tt [(.tmp t,0)]
  match c,xs with
  | none,[x]=>pure x
  | some ty,[.sptr y]=>if jQ tt ty y=true then pure y else zp
  | _,_=>zp
def zbJ (tt:TT):List (Bool × Nat × Option Nat) → SM (List A)
 | []=>pure []
 | (g,t,c) :: rs=>do
  let x ← znL tt g t c
  let xs ← zbJ tt rs
  pure (x :: xs)
def zhW (tt:TT) (rs:List (Bool × Nat × Option Nat)):SM A:=do
 let xs ← zbJ tt rs
 match xs with
 | [y]=>pure y
 | ys=>pure (.opq (K9 (ys.map some)))
variable {tt:TT}{Fp:Nat → List Nat}{st:St}{rs:List (Bool × Nat × Option Nat)}{fn:Func}{t:Nat}
section
variable {P:Program} {C:Ctx} {a:Act} {w:World}
def z5Z (P:Program) (a:Act) (w:World) (r:ResultVar) (v:Value):Prop:=((fun r:ResultVar=>match r with | .tmp t=>(pure (a.tmps.getD t undef):Sem Value) | .cell b t=>do loadVar t (← asAddr (a.tmps.getD b undef))) r).run P w=.ok v w
theorem zhZ (hT:xq P tt)   {X:List Nat}  (h:Sim C S Fp X st a w) {g:Bool}  {c:Option Nat} {x:A}   (e:znL tt g t c st=some (x,R,U)) :
  ∃ S' Fp' F v,Sim C S' Fp' (F ++ X) (ze U st) a w ∧ (∀ b o u,S b o=some u → S' b o=some u) ∧ (∀ k ∈ X,∀ o,S k o=none → S' k o=none) ∧ Has S' w.heap x v F ∧ z5Z P a w (z7n (t,c)) v:=by
 unfold znL at e
 split at e
 ·obtain ⟨en,R1,U1,R2,U2,h1,e1,rfl,rfl⟩:=bind_some e
  obtain ⟨rfl,rfl,rfl⟩:=y7 h1
  simp only [ze,List.nil_append] at e1 ⊢
  obtain ⟨x0,R3,U3,R4,U4,h3,e2,rfl,rfl⟩:=bind_some e1
  obtain ⟨hk,rfl,rfl⟩:=uk h3
  simp only [ze,List.nil_append] at e2 ⊢
  obtain ⟨u5,R5,U5,R6,U6,h5,h6,rfl,rfl⟩:=bind_some e2
  obtain ⟨rfl,rfl⟩:=xH h5
  obtain ⟨rfl,rfl,rfl⟩:=zr h6
  have hr:=h.ent t
  unfold xm at hr
  have fin:∀ F',(∃ y,(st t).t=.own y) → F'.Nodup → (∀ k ∈ F',k ∈ Fp t) → Sim C S (Jp Fp t []) (F' ++ X) (upd st t ⟨.gone,(st t).er + 1,(st t).ec + 1⟩) a w:=by
   intro F' ho hn hmem
   refine h.change t .gone _ _ [] h.below (fun _ _ _ q=>q) h.still.cell h.sbase (fun t' k _ hk=>⟨rfl,(h.free t' k hk).2.1⟩) rfl (.inl ho) (Nat.le_succ _) (Nat.lt_succ_self _) (by simp) (by simp) ?_ ?_ (by simp) ?_
   ·rw [List.nodup_append]
    refine ⟨hn,h.xn,?_⟩
    rintro m hm m' hm' rfl
    exact h.xd t m hm' (hmem m hm)
   ·intro t' k ht' hk
    rcases List.mem_append.1 hk with hk | hk
    ·exact fun hk'=>ht' (h.disj t' t k hk' (hmem k hk))
    ·exact h.xd t' k hk
   ·intro k hk
    rcases List.mem_append.1 hk with hk | hk
    ·exact h.base t k (hmem k hk)
    ·exact h.xb k hk
  cases ht:(st t).t with
  | own z=>
   simp only [ht] at hr hk
   obtain ⟨cs,c1,c2,c3⟩:=hr
   cases c with
   | none=>
    have hz:x=z:=by
     cases z <;> simp only [z6G,zc7] at hk <;> simpa using hk.symm
    subst hz
    refine ⟨S,Jp Fp t [],Fp t,Act.tv a t,by simpa [ze] using fin (Fp t) ⟨_,ht⟩ c2 (fun _ h=>h),fun _ _ _ q=>q,fun _ _ _ q=>q,.inr ⟨cs,c1,c2,c3⟩,?_⟩
    simp only [z5Z,z7n]; exact Sem.run_pure ..
   | some ty=>
    cases z with
    | box y=>
     simp only [z6G] at hk
     split at hk
     ·rename_i hf
      simp only [Option.some.injEq] at hk
      subst hk
      simp only [zJ] at c1
      obtain ⟨b,bty,l,F',rfl,d1,d2,d3,d4⟩:=c1
      have hn2:(b :: F').Nodup:=d3 ▸ c2
      refine ⟨S,Jp Fp t [],F',zS y l,by simpa [ze] using fin F' ⟨_,ht⟩ (List.nodup_cons.1 hn2).2 (fun k hk=>by rw [d3]; simp [hk]),fun _ _ _ q=>q,fun _ _ _ q=>q,.inr ⟨l,d2,(List.nodup_cons.1 hn2).2,rfl⟩,?_⟩
      have hv:a.tmps.getD t undef=.pointer (some ⟨b,0,none⟩):=c3
      simp only [z5Z,z7n]
      rw [hv]
      simp only [asAddr,Sem.run_bind,Sem.run_pure,Result.andThen_ok]
      refine Yq hT hf d2.len ?_
      intro j u hj
      simp only [y5,d1,Nat.zero_add]
      simpa using hj
     ·cases hk
    | _=>simp only [z6G] at hk; cases hk
  | d _=>simp only [ht,z6G] at hk; cases hk
  | gone=>simp only [ht,z6G] at hk; cases hk
  | als _ _ _ _=>simp only [ht,z6G] at hk; cases hk
  | ptr _ _ _ _=>simp only [ht,z6G] at hk; cases hk
 ·obtain ⟨xs,R1,U1,R2,U2,h1,e1,rfl,rfl⟩:=bind_some e
  obtain ⟨S1,Fp1,g1,g2,g3,g4⟩:=wk h h1
  split at e1
  ·obtain ⟨rfl,rfl,rfl⟩:=zr e1
   refine ⟨S1,Fp1,[],Act.tv a t,by simpa using g1,g2,g3,.inl ⟨g4.1.repV,rfl⟩,?_⟩
   simp only [z5Z,z7n]; exact Sem.run_pure ..
  ·rename_i ty y
   split at e1
   ·rename_i hf
    obtain ⟨rfl,rfl,rfl⟩:=zr e1
    obtain ⟨cs,q1,q2⟩:=g4.1
    simp only [Rep] at q1
    obtain ⟨b,o,l,rfl,r1,r2⟩:=q1
    refine ⟨S1,Fp1,[],zS x l,by simpa using g1,g2,g3,.inl ⟨wT.repV ⟨l,r1,rfl⟩,rfl⟩,?_⟩
    have hv:a.tmps.getD t undef=.pointer (some ⟨b,o,none⟩):=q2
    simp only [z5Z,z7n]
    rw [hv]
    simp only [asAddr,Sem.run_bind,Sem.run_pure,Result.andThen_ok]
    exact Yq hT hf r1.len (fun j u hj=>g1.still _ _ _ (r2 j u hj))
   ·exact (z7 e1).elim
  ·exact (z7 e1).elim
theorem z9z (hT:xq P tt):∀ {rs:List (Bool × Nat × Option Nat)} {S:zl} {Fp:Nat → List Nat} {X:List Nat} {st:St},Sim C S Fp X st a w → ∀ {xs:List A} {R:List Nat} {U:List (Nat × Ent)},zbJ tt rs st=some (xs,R,U) →
  ∃ S' Fp' G vs,Sim C S' Fp' (G ++ X) (ze U st) a w ∧ (∀ b o u,S b o=some u → S' b o=some u) ∧ (∀ k ∈ X,∀ o,S k o=none → S' k o=none) ∧ XZ S' w.heap xs vs G ∧ Xc (z5Z P a w) (rs.map fun r=>z7n r.2) vs
 | [],S,Fp,X,st,h,xs,R,U,e=>by
  obtain ⟨rfl,rfl,rfl⟩:=zr e
  exact ⟨S,Fp,[],[],h,fun _ _ _ h=>h,fun _ _ _ h=>h,rfl,trivial⟩
 | (g,t,c) :: rs,S,Fp,X,st,h,xs,R,U,e=>by
  simp only [zbJ] at e
  obtain ⟨y,R1,U1,R2,U2,h1,e1,rfl,rfl⟩:=bind_some e
  obtain ⟨ys,R3,U3,R4,U4,h3,e2,rfl,rfl⟩:=bind_some e1
  obtain ⟨S1,Fp1,F,v,g1,g2,g3,g4,g5⟩:=zhZ hT h h1
  obtain ⟨S2,Fp2,G,vs,k1,k2,k3,k4,k5⟩:=z9z hT g1 h3
  obtain ⟨rfl,rfl,rfl⟩:=zr e2
  refine ⟨S2,Fp2,G ++ F,v :: vs,?_,fun b o u hs=>k2 b o u (g2 b o u hs),fun k hk o hn=>k3 k (by simp [hk]) o (g3 k hk o hn),⟨F,G,rfl,g4.grow k2 (fun k hk o hn=>k3 k (by simp [hk]) o hn),k4⟩,g5,k5⟩
  rw [List.append_nil,zw,List.append_assoc]
  exact k1
theorem zhV (hT:xq P tt)   (hr:fn.results=(rs.map fun r=>z7n r.2).toArray)    (h:Sim C S Fp [] st a w) {x:A}   (e:zhW tt rs st=some (x,R,U)) :
  ∃ v S' F',(results fn a.tmps).run P w=.ok v w ∧ (∀ b o u,S b o=some u → S' b o=some u) ∧ (∀ b o,¬ C.M b → S' b o=C.S0 b o) ∧ yn S' w ∧ Has S' w.heap x v F' ∧ F'.Nodup ∧ ∀ k ∈ F',C.M k:=by
 unfold zhW at e
 obtain ⟨xs,R1,U1,R2,U2,h1,e1,rfl,rfl⟩:=bind_some e
 obtain ⟨S1,Fp1,G,vs,g1,g2,_,g3,g4⟩:=z9z hT h h1
 have hrun:(results fn a.tmps).run P w=.ok (if h:vs.toArray.size=1 then vs.toArray[0] else .tuple vs.toArray) w:=by
  unfold results
  rw [hr,Array.mapM_eq_foldlM,List.foldlM_toArray,Sem.run_bind]
  have:=Q5 (P:=P) (w:=w) _ _ vs #[] g4
  rw [Array.empty_append] at this
  exact (congrArg (fun r=>Result.andThen r (fun q w'=>Sem.run P (pure (if h:q.size=1 then q[0] else Value.tuple q)) w')) this).trans rfl
 have hn:G.Nodup:=by have:=g1.xn; simpa using this
 have hM:∀ k ∈ G,C.M k:=fun k hk=>g1.xb k (by simp [hk])
 have many:∀ ys:List A,XZ S1 w.heap ys vs G → ys.length ≠ 1 → Has S1 w.heap (.opq (K9 (ys.map some))) (.tuple vs.toArray) G ∧ vs.length ≠ 1:=by
  intro ys q hl
  refine ⟨.inr ⟨[.tuple vs.toArray],?_,hn,rfl⟩,by rw [← q.nil]; exact hl⟩
  simp only [zJ]
  exact ⟨_,rfl,vs,rfl,VX.of q⟩
 split at e1
 ·obtain ⟨rfl,rfl,rfl⟩:=zr e1
  rcases vs with _ | ⟨v,_ | ⟨v2,l⟩⟩
  ·exact g3.elim
  ·obtain ⟨F1,F2,rfl,q1,q2⟩:=g3
   have e2:F2=[]:=q2
   subst e2
   exact ⟨v,S1,F1,hrun,g2,g1.sbase,g1.still,q1,by simpa using hn,by simpa using hM⟩
  ·obtain ⟨F1,F2,rfl,q1,q2⟩:=g3
   exact q2.elim
 ·rename_i hne
  obtain ⟨rfl,rfl,rfl⟩:=zr e1
  obtain ⟨m1,m2⟩:=many _ g3 (by
   intro hl
   obtain ⟨y,hy⟩:=List.length_eq_one_iff.1 hl
   exact hne y hy)
  rw [dif_neg (by simpa using m2)] at hrun
  exact ⟨_,S1,G,hrun,g2,g1.sbase,g1.still,m1,hn,hM⟩
end
def zkt (tt:TT) (g:Bool) (t:Nat) (c:Option Nat):HM A :=
 if g=true then y3 (rdE t >>= fun e=>ofO (z6G tt e.t c) >>= fun x=>wrE t ⟨.gone,e.er + 1,e.ec + 1⟩ >>= fun _=>pure x)
 else qG tt [(.tmp t,0)] >>= fun xs=>
  match c,xs with
  | none,[x]=>pure x
  | some ty,[.sptr y]=>if jQ tt ty y=true then pure y else zK
  | _,_=>zK
theorem zkj (tt:TT) (g:Bool) (t:Nat) (c:Option Nat):Snd (znL tt g t c) (zkt tt g t c):=by
 refine vU (zk _) (zh (Ze _ _) fun xs=>?_)
 split
 ·exact xZ _
 ·exact vU (xZ _) (zq _)
 ·exact zq _
def zbI (tt:TT):List (Bool × Nat × Option Nat) → HM (List A)
 | []=>pure []
 | (g,t,c) :: rs=>zkt tt g t c >>= fun x=>zbI tt rs >>= fun xs=>pure (x :: xs)
theorem zbw (tt:TT):∀ rs,Snd (zbJ tt rs) (zbI tt rs)
 | []=>xZ _
 | (g,t,c) :: rs=>zh (zkj tt g t c) fun x=>zh (zbw tt rs) fun xs=>xZ _
def zf4 (tt:TT) (rs:List (Bool × Nat × Option Nat)):HM A:=zbI tt rs >>= fun xs=>
 match xs with
 | [y]=>pure y
 | ys=>pure (.opq (K9 (ys.map some)))
theorem zkh (tt:TT) (rs:List (Bool × Nat × Option Nat)):Snd (zhW tt rs) (zf4 tt rs):=by
 refine zh (zbw _ _) fun xs=>?_
 split <;> exact xZ _
variable {P:Program}{fs:List Fm}{c:Code}{k:Nat}{body:Code}{n:Fr}{r:A}
section
variable {P:Program} {tt:TT} {ctr:Ctr} {n:Fr} {Q:Exit → St → Prop}
theorem z6O {n:Fr}   {rs:List (Bool × Nat × Option Nat)} {ls:List A} {r:A} (hT:xq P tt) (hf:P.funcs[k]?=some fn) (hnm:(fn.name == "runtime.NumGoroutine")=false) (hb:fn.body=some body)
  (hn:n=⟨fn.ntmps,[]⟩) (hr:fn.results=(rs.map fun r=>z7n r.2).toArray) (ha:ls.length ≤ fn.ntmps)
  (h:∀ E:St → Prop,(∀ st x R U,zhW tt rs st=some (x,R,U) → LeV x r → E st) → AWP P n body (ofL (z9P 0 ls)) (Qf P n [] (zaW E))):Y5 P k ls r:=by
 have h':=h (fun st=>∃ x R U,zhW tt rs st=some (x,R,U) ∧ LeV x r) fun st x R U h1 h2=>⟨x,R,U,h1,h2⟩
 refine ⟨⟨fn,hf,hnm,by rw [hb]; rfl⟩,?_⟩
 intro S w vs F hS hq hF
 have h2:AWP P n body (ini ls) (fun ex st=>(ex=.normal ∨ ex=.ret) ∧ ∃ x R U,zhW tt rs st=some (x,R,U) ∧ LeV x r):=by
  rw [z5Q]
  refine AWP.mono h' ?_
  intro e st q
  cases e with
  | normal=>exact ⟨.inl rfl,q⟩
  | ret=>exact ⟨.inr rfl,q⟩
  | _=>exact q.elim
 refine z1N (R:=fun w e w'=>∃ v' S' F',e=.returned v' ∧ Xb (fun k=>w.heap.size ≤ k ∨ k ∈ F) w w' ∧ (∀ b o u,S b o=some u → S' b o=some u) ∧ (∀ b o,b < w.heap.size → b ∉ F → S' b o=S b o) ∧ yn S' w' ∧ Has S' w'.heap r v' F' ∧ F'.Nodup ∧
   ∀ k ∈ F',w.heap.size ≤ k ∨ k ∈ F) hf hb (by rw [hn]) (by rw [hn]; simp) ha hS hq hF h2 ?_
 rintro ex st' ⟨hx,x,R,U,h3,h4⟩
 refine ⟨hx,?_⟩
 intro df S' Fp' a' w' h1
 obtain ⟨v,S2,F',hres,g1,g2,g3,g4,g5,g6⟩:=zhV (P:=P) hT hr h1 h3
 refine ⟨_,hres,_,S2,F',rfl,h1.below,fun b o u hu=>g1 _ _ _ (h1.sinc _ _ _ hu),?_,g3,h4.has _ _ _ _ g4,g5,g6⟩
 intro b o hb' hbF
 exact g2 b o (by rintro (hq | hq) <;> first | omega | exact hbF hq)
def zkr (X:XH P) (tt:TT) (ctr:Ctr) (n:Fr) (rs:List (Bool × Nat × Option Nat)) (k:Nat) (c:Code) (fs:List Fm) (st:St) (hs:List H):Option (A × List Prop) :=
 match zbG X tt ctr n k c fs st hs with
 | some (.fin .normal,st',hs',ob)=>match zf4 tt rs st' hs' with | some (x,_,_,[],ob')=>some (x,ob ++ ob') | _=>none
 | some (.fin .ret,st',hs',ob)=>match zf4 tt rs st' hs' with | some (x,_,_,[],ob')=>some (x,ob ++ ob') | _=>none
 | _=>none
theorem z4B (X:XH P) (hT:xq P tt) (hC:zB P ctr) (hm:P.follows .mixedOrders=true) {E:St → Prop}   (hE:∀ st x R U,zhW tt rs st=some (x,R,U) → LeV x r → E st) (k:Nat) {c:Code} {fs:List Fm} {st:St} {hs:List H} {x:A} (obs:List Ob)
  (e:zkr X tt ctr n rs k c fs st hs=some (x,obs.map Ob.p)) (hle:LeV x r):AWP P n c st (Qf P n fs (zaW E)):=by
 unfold zkr at e
 have fin:∀ {st' hs' ob},(match zf4 tt rs st' hs' with | some (x,_,_,[],ob')=>some (x,ob ++ ob') | _=>none)=some (x,obs.map Ob.p) → z3n ob ∧ E st':=by
  intro st' hs' ob e
  split at e
  ·rename_i x1 R U ob' he
   simp only [Option.some.injEq,Prod.mk.injEq] at e
   obtain ⟨rfl,e2⟩:=e
   have ha:=z5M obs
   rw [← e2] at ha
   obtain ⟨o1,o2⟩:=yp ha
   exact ⟨o1,hE _ _ _ _ (zkh tt rs _ _ _ _ _ _ _ he o2) hle⟩
  ·cases e
 split at e
 ·rename_i st' hs' ob' he
  obtain ⟨h1,h2⟩:=fin e
  exact z3R X hT hC hm k c fs st hs _ _ _ _ he h1 h2
 ·rename_i st' hs' ob' he
  obtain ⟨h1,h2⟩:=fin e
  exact z3R X hT hC hm k c fs st hs _ _ _ _ he h1 h2
 ·cases e
end
variable {as_:List A}
theorem lentCall (h:Y5 P k as_ r):qK P (.fn k []) as_ [] r []:=by
 intro S w fv vs F hS hfv hvs hH hF
 have hF0:F=[]:=hH
 subst hF0
 obtain ⟨cs,c1,c2⟩:=hfv
 simp only [Rep] at c1
 obtain ⟨us,u1,_,rfl⟩:=c1
 have hu:us=[]:=by
  cases us with
  | nil=>rfl
  | cons _ _=>simp [yd] at u1
 subst hu
 obtain ⟨⟨fn,f1,f2,f3⟩,hc⟩:=h
 refine .inl ⟨k,#[],fn,c2,f1,f2,f3,?_⟩
 rw [Array.append_empty]
 have hass:∀ {as_:List A} {vs:List Value},Xc (wT S) as_ vs → XZ S w.heap as_ vs []:=by
  intro as_
  induction as_ with
  | nil=>intro vs q; cases vs with | nil=>rfl | cons _ _=>exact q.elim
  | cons a as_ ih=>
   intro vs q
   cases vs with
   | nil=>exact q.elim
   | cons v vs=>exact ⟨[],[],rfl,.inl ⟨q.1.repV,rfl⟩,ih q.2⟩
 refine (hc S w vs [] hS (hass hvs) List.nodup_nil).mono ?_
 rintro e w' ⟨v',S',F',he,b1,b2,b3,b4,b5,b6,b7⟩
 exact ⟨v',he,S',F',[],b1,b2,b3,b4,b5,rfl,by simpa using b6,by simpa using b7⟩
variable {gives:List Bool}
theorem wW {c:Ctr} (hC:zB P c)  {α ρ:Type} {enc:α → List A} {encR:ρ → A} {F:α → Option ρ}  {inj:∀ x y,enc x=enc y → x=y} (h:c.Has (spF k enc encR F gives inj)) {x:α} {r:ρ} (hr:F x=some r):Y5 P k (enc x) (encR r):=by
 have h1:=h.run x ⟨r,hr⟩
 have:=hC.1 _ _ _ h1
 simpa only [spF,hr] using this
structure ArN (n:Nat) (α:Type) where
 l:List α
 len:l.length=n
 deriving DecidableEq
variable {sz:Nat}{s:Nat}{j:Int}
section
variable {α:Type} {n:Nat}
def ArN.rep (n:Nat) (v:α):ArN n α:=⟨List.replicate n v,List.length_replicate⟩
def ArN.setI (x:ArN n α) (i:Int) (v:α):ArN n α:=⟨x.l.set i.toNat v,by rw [List.length_set]; exact x.len⟩
def xu (n:Nat) (f:α → A) (x:ArN n α):A:=.agg (x.l.map f)
theorem ArN.setL (f:α → A) (x:ArN n α) (i:Int) (v:α):(x.l.map f).set i.toNat (f v)=((ArN.setI x i v).l).map f:=by
 unfold ArN.setI
 rw [List.map_set]
theorem sizes_const:∀ {l:List A},(∀ x ∈ l,x.size=sz) → A.sizes l=l.length * sz
 | [],_=>by simp [A.sizes]
 | x :: l,h=>by
  rw [A.sizes,h x List.mem_cons_self,sizes_const fun y hy=>h y (List.mem_cons_of_mem _ hy),List.length_cons,Nat.add_mul,Nat.one_mul,Nat.add_comm]
class zj9 (f:α → A) (sz:outParam Nat):Prop where
 sz:∀ x,(f x).size=sz
theorem zgl {f:α → A}  [h:zj9 f s] (x:ArN n α):(xu n f x).size=n * s:=by
 unfold xu
 rw [A.size,sizes_const (sz:=s) fun y hy=>by obtain ⟨u,_,rfl⟩:=List.mem_map.1 hy; exact h.sz u,List.length_map,x.len]
instance {f:α → A} {s:Nat} [h:zj9 f s]:zj9 (xu n f) (n * s):=⟨fun x=>zgl x⟩
theorem K3 {f:α → A}  [h:zj9 f s] (ha:z8k tt t=some (n,s)) (x:ArN n α)  (hj:0 ≤ j):Zb tt t (x.l.map f) j=true:=by
 unfold Zb
 rw [ha]
 simp only [List.length_map,x.len,beq_self_eq_true,Bool.true_and,hj,decide_true]
 rw [List.all_eq_true]
 intro y hy
 obtain ⟨u,_,rfl⟩:=List.mem_map.1 hy
 rw [h.sz]
 exact beq_self_eq_true _
end
open Go.Proofs Go.Shelf
section
variable {α:Type}
def zio (c:α → α → Int) (x:α):List α → List α
 | []=>[x]
 | y :: l=>if c y x < 0 then y :: zio c x l else x :: y :: l
def z6H (c:α → α → Int):List α → List α
 | []=>[]
 | x :: l=>zio c x (z6H c l)
def SOk (c:α → α → Int) (l:List α):Prop :=
 (∀ x ∈ l,¬ c x x < 0) ∧ (∀ x ∈ l,∀ y ∈ l,∀ z ∈ l,c x y < 0 → c y z < 0 → c x z < 0) ∧ (∀ x ∈ l,∀ y ∈ l,¬ c x y < 0 → ¬ c y x < 0 → x=y)
instance [DecidableEq α] (c:α → α → Int) (l:List α):Decidable (SOk c l):=by unfold SOk; infer_instance
def zhB [DecidableEq α] (cmp:α → α → Option Int) (l:List α):Option (List α) :=
 gd (l.length ≤ 4294967296 ∧ ∀ x ∈ l,∀ y ∈ l,(cmp x y).isSome=true) <| gd (SOk (fun x y=>(cmp x y).getD 0) l) <| some (z6H (fun x y=>(cmp x y).getD 0) l)
theorem SOk.ntr {c:α → α → Int} {l:List α} (h:SOk c l):∀ x ∈ l,∀ y ∈ l,∀ z ∈ l,¬ c x y < 0 → ¬ c y z < 0 → ¬ c x z < 0:=by
 intro x hx y hy z hz h1 h2 h3
 by_cases h4:c y x < 0
 ·exact h2 (h.2.1 y hy x hx z hz h4 h3)
 ·have:=h.2.2 x hx y hy h1 h4
  subst this
  exact h2 h3
theorem z4g (c:α → α → Int) (x:α):∀ l,(zio c x l).Perm (x :: l)
 | []=>.refl _
 | y :: l=>by
  simp only [zio]
  split
  ·exact ((z4g c x l).cons y).trans (.swap x y l)
  ·exact .refl _
theorem Uv (c:α → α → Int):∀ l,(z6H c l).Perm l
 | []=>.refl _
 | x :: l=>(z4g c x _).trans ((Uv c l).cons x)
theorem z4f {c:α → α → Int} {L:List α} (h:SOk c L) {x:α} (hx:x ∈ L):∀ {l:List α},(∀ y ∈ l,y ∈ L) → l.Pairwise (fun a b=>¬ c b a < 0) → (zio c x l).Pairwise (fun a b=>¬ c b a < 0)
 | [],_,_=>by simp [zio]
 | y :: l,hl,hp=>by
  have hy:=hl y (by simp)
  obtain ⟨p1,p2⟩:=List.pairwise_cons.1 hp
  simp only [zio]
  split
  ·rename_i hc
   refine List.pairwise_cons.2 ⟨?_,z4f h hx (fun z hz=>hl z (by simp [hz])) p2⟩
   intro z hz
   rcases List.mem_cons.1 ((z4g c x l).mem_iff.1 hz) with rfl | hz
   ·exact fun q=>h.1 _ hx (h.2.1 _ hx _ hy _ hx q hc)
   ·exact p1 z hz
  ·rename_i hc
   refine List.pairwise_cons.2 ⟨?_,hp⟩
   intro z hz
   rcases List.mem_cons.1 hz with rfl | hz
   ·exact hc
   ·exact h.ntr z (hl z (by simp [hz])) y hy x hx (p1 z hz) hc
theorem z2m {c:α → α → Int} {L:List α} (h:SOk c L):∀ {l:List α},(∀ y ∈ l,y ∈ L) → (z6H c l).Pairwise (fun a b=>¬ c b a < 0)
 | [],_=>.nil
 | x :: l,hl=>z4f h (hl x (by simp)) (fun y hy=>hl y (by simp [(Uv c l).mem_iff.1 hy])) (z2m h fun y hy=>hl y (by simp [hy]))
theorem z81 {c:α → α → Int} {l l':List α} (h:SOk c l) (hp:l'.Perm l) (hs:l'.Pairwise (fun a b=>¬ c b a < 0)):l'=z6H c l:=by
 refine List.Perm.eq_of_pairwise (le:=fun a b=>¬ c b a < 0) ?_ hs (z2m h fun _ q=>q) (hp.trans (Uv c l).symm)
 intro a b ha hb h1 h2
 exact h.2.2 a (hp.mem_iff.1 ha) b ((Uv c l).mem_iff.1 hb) h2 h1
theorem zam [DecidableEq α] {cmp:α → α → Option Int} {l l':List α} (h:zhB cmp l=some l'):l.length ≤ 4294967296 ∧ (∀ x ∈ l,∀ y ∈ l,cmp x y=some ((cmp x y).getD 0)) ∧ SOk (fun x y=>(cmp x y).getD 0) l ∧ l'=z6H (fun x y=>(cmp x y).getD 0) l:=by
 obtain ⟨h1,h⟩:=gdE h
 obtain ⟨h2,h⟩:=gdE h
 refine ⟨h1.1,fun x hx y hy=>?_,h2,(zb h).symm⟩
 have:=h1.2 x hx y hy
 cases hc:cmp x y with
 | none=>rw [hc] at this; cases this
 | some _=>rfl
end
variable {α:Type}
theorem zl9 [Inhabited α] (enc:α → List Value) (k:Nat) (hk:∀ x,(enc x).length=k):∀ l:List α,((List.range (l.length * k)).map fun t=>(enc l[t / k]!)[t % k]!)=l.flatMap enc
 | []=>by simp
 | x :: l=>by
  rcases Nat.eq_zero_or_pos k with rfl | h0
  ·simp only [Nat.mul_zero,List.range_zero,List.map_nil]
   symm
   rw [List.flatMap_eq_nil_iff]
   intro y _
   exact List.eq_nil_of_length_eq_zero (hk y)
  rw [List.length_cons,Nat.add_mul,Nat.one_mul,Nat.add_comm,List.range_add,List.map_append,List.map_map,List.flatMap_cons]
  congr 1
  ·apply List.ext_getElem?
   intro i
   rw [List.getElem?_map]
   by_cases hi:i < k
   ·rw [List.getElem?_range hi,Option.map_some,Nat.div_eq_of_lt hi,Nat.mod_eq_of_lt hi]
    have:i < (enc x).length:=by rw [hk]; exact hi
    simp [this]
   ·rw [List.getElem?_eq_none (by simpa using hi),List.getElem?_eq_none (by rw [hk]; omega)]; rfl
  ·rw [← zl9 enc k hk l]
   apply List.map_congr_left
   intro t _
   simp only [Function.comp]
   rw [Nat.add_div_left _ h0,Nat.add_mod_left]
   simp
theorem z2o [Inhabited α] (enc:α → List Value) (k:Nat) (hk:∀ x,(enc x).length=k) (d:Array α):(Sort.flatK enc k d).toList=d.toList.flatMap enc:=by
 rw [← zl9 enc k hk d.toList]
 simp only [Sort.flatK,Array.toList_map,Array.toList_range,Array.length_toList]
 apply List.map_congr_left
 intro a _
 have:d.toList[a / k]! = d[a / k]!:=by
  by_cases hlt:a / k < d.size
  ·rw [getElem!_pos d _ hlt,getElem!_pos d.toList _ (by simpa using hlt)]; simp
  ·rw [getElem!_neg d _ hlt,getElem!_neg d.toList _ (by simpa using hlt)]
 rw [this]
def ziV (P:Program) (kf k:Nat) (ag:Bool):Prop:=∃ ρ,SlLaysF0.n6 P ρ ∧ ρ.f 6=kf ∧ (∀ w,(isAgg (ρ.t 24)).run P w=.ok ag w) ∧ (∀ w,(Go.sizeOf (ρ.t 24)).run P w=.ok k w) ∧ (ag=false → k=1)
theorem z5G {enc:α → A}  (hsz:∀ x,(enc x).size=k) (L:List α):∀ {l:List α} {cs:List Value},(∀ x ∈ l,x ∈ L) → yd S (l.map enc) cs →
  ∃ d:List {p:List Value × α // Rep S (enc p.2) p.1 ∧ p.2 ∈ L},d.map (fun p=>p.1.2)=l ∧ d.flatMap (fun p=>p.1.1)=cs
 | [],cs,_,h=>by
  simp only [List.map_nil,yd] at h
  exact ⟨[],rfl,by simp [h]⟩
 | x :: l,cs,hl,h=>by
  simp only [List.map_cons,yd] at h
  obtain ⟨c1,c2,rfl,h1,h2⟩:=h
  obtain ⟨d,e1,e2⟩:=z5G hsz L (fun y hy=>hl y (by simp [hy])) h2
  exact ⟨⟨(c1,x),h1,hl x (by simp)⟩ :: d,by simp [e1],by simp [e2]⟩
theorem z0P {enc:α → A} {L:List α}:∀ (d:List {p:List Value × α // Rep S (enc p.2) p.1 ∧ p.2 ∈ L}),yd S ((d.map fun p=>p.1.2).map enc) (d.flatMap fun p=>p.1.1)
 | []=>by simp [yd]
 | p :: d=>by
  simp only [List.map_cons,List.flatMap_cons,yd]
  exact ⟨_,_,rfl,p.2.1,z0P d⟩
variable {ag:Bool}
theorem zeE {ρ:Ren} {kf k t:Nat}  (hT:xq P tt) (L:SlLaysF0.n6 P ρ) (h6:ρ.f 6=kf) (h24:ρ.t 24=t) (hs:(tt t).map (fun i=>(i.kind.isAgg,i.size))=some (ag,k)) (h1:ag=false → k=1):ziV P kf k ag:=by
 obtain ⟨i,hi,he⟩:=Option.map_eq_some_iff.1 hs
 simp only [Prod.mk.injEq] at he
 refine ⟨ρ,L,h6,fun w=>?_,fun w=>?_,h1⟩
 ·rw [h24,JL (hT t i hi).kind w,he.1]
 ·rw [h24,qR hT hi w,he.2]
variable {arr:Array Value}{ty:TypeId}
section
variable {α:Type} [Inhabited α] (enc:α → List Value) (k:Nat) (w:World) (b n:Nat) (d:Array α) (os:Array Obj)
theorem z6j {j:Nat} (hj:j < w.heap.size) (hb:j ≠ b):(sortWorldK enc k w b 0 n d os).heap[j]?=w.heap[j]?:=by
 show ((w.heap.modify b _) ++ os)[j]?=_
 rw [Array.getElem?_append_left (by simpa using hj),Array.getElem?_modify,if_neg (Ne.symm hb)]
theorem zo8 {fr:Nat × Nat} (hb:w.heap[b]?=some (.cells arr ty fr)):(sortWorldK enc k w b 0 n d os).heap[b]?=some (.cells (Sort.putCells id 0 (Sort.flatK enc k d) arr) ty fr):=by
 have hlt:=(Array.getElem?_eq_some_iff.1 hb).1
 show ((w.heap.modify b _) ++ os)[b]?=_
 rw [Array.getElem?_append_left (by simpa using hlt),Array.getElem?_modify,if_pos rfl,hb]
 rfl
theorem zhz:(sortWorldK enc k w b 0 n d os).heap.size=w.heap.size + os.size:=by
 show ((w.heap.modify b _) ++ os).size=_
 simp
end
theorem z6x {D arr:Array Value} (h:D.size ≤ arr.size):(Sort.putCells id 0 D arr).toList.take D.size=D.toList:=by
 apply List.ext_getElem?
 intro i
 rw [List.getElem?_take]
 by_cases hi:i < D.size
 ·rw [if_pos hi]
  have:i < arr.size:=by omega
  simp [Sort.putCells,hi,this]
 ·rw [if_neg hi,List.getElem?_eq_none (by simpa using hi)]
theorem z6y (D arr:Array Value):(Sort.putCells id 0 D arr).size=arr.size:=by simp [Sort.putCells]
theorem z7J:∀ {caps:List A} {vs:List Value},yd S caps vs → (∀ c ∈ caps,c.size=1 ∧ ∀ fs,c ≠ .agg fs) → Xc (wT S) caps vs
 | [],vs,h,_=>by simp only [yd] at h; subst h; trivial
 | c :: caps,vs,h,hc=>by
  simp only [yd] at h
  obtain ⟨c1,c2,rfl,h1,h2⟩:=h
  obtain ⟨s1,s2⟩:=hc c (by simp)
  have hl:=h1.len
  rw [s1] at hl
  obtain ⟨u,rfl⟩:=List.length_eq_one_iff.1 hl
  refine ⟨⟨[u],h1,?_⟩,z7J h2 fun x hx=>hc x (by simp [hx])⟩
  cases c <;> first | rfl | exact absurd rfl (s2 _)
theorem z2n:∀ {bs:List A} {vs:List Value},Xc (wT S) bs vs → XZ S h bs vs []
 | [],[],_=>rfl
 | _ :: _,_ :: _,q=>⟨[],[],rfl,.inl ⟨q.1.repV,rfl⟩,z2n q.2⟩
 | [],_ :: _,q=>q.elim
 | _ :: _,[],q=>q.elim
theorem zcz {w w':World} (h:Xb (fun k=>w.heap.size ≤ k) w w'):∃ q os',w'=Sort.grow (w.drewN q) os':=by
 refine ⟨w'.drawn - w.drawn,w'.heap.extract w.heap.size w'.heap.size,?_⟩
 have h1:w'.heap=w.heap ++ w'.heap.extract w.heap.size w'.heap.size:=by
  apply Array.ext_getElem?
  intro i
  by_cases hi:i < w.heap.size
  ·rw [Array.getElem?_append_left hi]
   exact h.block i (by omega)
  ·rw [Array.getElem?_append_right (by omega),Array.getElem?_extract]
   by_cases h2:i < w'.heap.size
   ·rw [if_pos (by omega)]
    congr 1; omega
   ·rw [if_neg (by omega),Array.getElem?_eq_none (by omega)]
 have h2:=h.drawn
 have h3:=h.os
 have h4:=h.tape
 have h5:=h.output
 cases w' with
 | mk heap tape drawn os output=>
  cases w with
  | mk heap0 tape0 drawn0 os0 output0=>
   simp only at h1 h2 h3 h4 h5
   subst h3 h4 h5
   simp only [Sort.grow,World.drewN,World.mk.injEq,true_and,and_true]
   exact ⟨h1,by omega⟩
theorem zgq [Inhabited α] (enc:α → List Value) (e1:α → Value) (he:∀ x,enc x=[e1 x]) (w:World) (b m:Nat) (d:Array α) (os:Array Obj):sortWorld e1 w b 0 m d os=sortWorldK enc 1 w b 0 m d os:=by
 have hflat:Sort.flatK enc 1 d=d.map e1:=by
  apply Array.ext
  ·simp [Sort.flatK]
  ·intro i h1 h2
   have hi:i < d.size:=by simpa using h2
   have:=Sort.get_flatK enc 1 d i (by omega)
   rw [getElem!_pos _ i h1] at this
   rw [this,he]
   simp [Nat.mod_one,hi]
 unfold sortWorld sortWorldK
 congr 1
 unfold Sort.putRowK Sort.putRow
 congr 1
 rw [hflat]
 funext c
 unfold Sort.putCells
 congr 1
 funext k x
 simp only [Nat.zero_le,true_and,Nat.zero_add,Nat.sub_zero,Array.size_map,id]
 by_cases hk:k < d.size
 ·rw [if_pos hk,if_pos hk,getElem!_pos d k hk,getElem!_pos _ k (by simpa using hk)]; simp
 ·rw [if_neg hk,if_neg hk]
variable {w:World}
theorem zcL [Inhabited α] {enc:α → List Value} {e1:α → Value} (he:∀ x,enc x=[e1 x])  {b:Nat} {d:Array α} (h:Sort.HoldsK enc 1 w b 0 d):Sort.Holds e1 w b 0 d:=by
 intro j hj
 have:=h j (by simpa using hj)
 rw [Sort.get_flatK enc 1 d j (by omega),he] at this
 simpa [Nat.mod_one] using this
variable {v:Value}
theorem zbk {P:Program} {kf k g:Nat}   [DecidableEq α] {f:α → A} [hD:z0v f] {t:Bool} {v:Value} {caps:List A} {cmp:α → α → Option Int} {l l':List α} (hT:ziV P kf k ag) (hsz:∀ x,(f x).size=k) (hag:∀ x,(f x).isAgg=ag)
  (hc:∀ x y c,cmp x y=some c → Y5 P g (f x :: f y :: caps) (.atom (.int .i64 c))) (h:zhB cmp l=some l'):qK P (.fn kf []) [.atom v,.fn g caps] [(v,.osl k t (l.map f))] (.tup []) [.osl k t (l'.map f)]:=by
 obtain ⟨hlen0,hcmp,hO,rfl⟩:=zam h
 obtain ⟨ρ,L,rfl,aE,zE,hk1⟩:=hT
 intro S w fv vs F hS hfv hvs hH hF
 obtain ⟨cs,c1,c2⟩:=hfv
 simp only [Rep] at c1
 obtain ⟨us,u1,_,rfl⟩:=c1
 have hu:us=[]:=by
  cases us with
  | nil=>rfl
  | cons _ _=>simp [yd] at u1
 subst hu
 rcases vs with _ | ⟨v1,_ | ⟨v2,_ | ⟨v3,vs⟩⟩⟩
 ·exact hvs.elim
 ·exact hvs.2.elim
 case cons.cons.cons=>exact hvs.2.2.elim
 obtain ⟨hv1,hv2,_⟩:=hvs
 obtain ⟨rfl,_⟩:=yW.1 hv1
 obtain ⟨cs2,d1,d2⟩:=hv2
 simp only [Rep] at d1
 obtain ⟨cv,d3,d4,rfl⟩:=d1
 have hcv:=z7J d3 d4
 obtain ⟨F1,F2,rfl,q1,q2⟩:=hH
 have hF2:F2=[]:=q2
 subst hF2
 rw [List.nil_append] at hF ⊢
 have act:∀ R:Ending → World → Prop,Calls P (ρ.f 6) #[v1,.func (.func g) #[] cv.toArray] w R → Calls P (ρ.f 6) ([v1,v2].toArray ++ #[]) w R:=by
  intro R q
  rw [d2,Array.append_empty]
  exact q
 have fnOk:∃ fn,P.funcs[ρ.f 6]?=some fn ∧ (fn.name == "runtime.NumGoroutine")=false ∧ fn.body.isNone=false:=by
  obtain ⟨nm,hne,FG⟩:=L.f6
  exact ⟨_,FG,by simpa using hne,rfl⟩
 obtain ⟨fn,f1,f2,f3⟩:=fnOk
 refine .inl ⟨ρ.f 6,#[],fn,c2,f1,f2,f3,act _ ?_⟩
 rcases q1 with ⟨q1,_⟩ | ⟨cs,q1,q3,q4⟩
 ·simp only [xe,wT,Rep,false_and,exists_false] at q1
 simp only [zJ] at q1
 obtain ⟨p,c,rfl,t1,t2,t3,t4,t5⟩:=q1
 have ev:v1=.slice p l.length c:=by
  have q5:v1=zS (.osl k t (l.map f)) [.slice p (l.map f).length c]:=q4
  rw [q5]; simp [zS]
 subst ev
 simp only [List.length_map] at t1 t2 t5
 by_cases hl:l=[]
 ·subst hl
  refine (AnyF.slices_SortFunc_none { L with } p c _ w).mono ?_
  rintro e w' ⟨rfl,rfl⟩
  refine ⟨.tuple #[],rfl,S,[],F1,Xb.refl _ _,fun _ _ _ q=>q,fun _ _ _ _=>rfl,hS,.inl ⟨?_,rfl⟩,⟨F1,[],by simp,.inr ⟨[.slice p 0 c],?_,q3,rfl⟩,rfl⟩,by simpa using hF,fun k hk=>.inr (by simpa using hk)⟩
  ·simp only [xe]; exact ⟨[],rfl,trivial⟩
  ·simp only [z6H,List.map_nil,zJ]
   exact ⟨p,c,rfl,t1,t2,t3,by simp,by simpa using t5⟩
 have hpos:0 < l.length:=List.length_pos_iff.2 hl
 rcases t5 with ⟨e,_⟩ | ⟨b,arr,ty,cl,F',rfl,e1,e2,e3,e4,rfl,e5⟩
 ·exact absurd (by simpa using e) hl
 obtain ⟨hr,rfl⟩:=e4.areD (dM f l)
 obtain ⟨d,g1,g2⟩:=z5G (S:=S) hsz l (fun _ q=>q) hr
 have hblk:=(Array.getElem?_eq_some_iff.1 e1).1
 obtain ⟨x0,hx0⟩:∃ x,x ∈ d:=by
  cases d with
  | nil=>exact absurd g1.symm hl
  | cons x _=>exact ⟨x,by simp⟩
 letI:Inhabited {p:List Value × α // Rep S (f p.2) p.1 ∧ p.2 ∈ l}:=⟨x0⟩
 let enc:{p:List Value × α // Rep S (f p.2) p.1 ∧ p.2 ∈ l} → List Value:=fun p=>p.1.1
 let c0:α → α → Int:=fun x y=>(cmp x y).getD 0
 have hk:∀ x,(enc x).length=k:=fun x=>(x.2.1.len).trans (hsz _)
 have h1:∀ x,∀ v ∈ enc x,v.oneCell'=true:=fun x=>x.2.1.one
 have hswo:Sort.SWO (ltOf fun x y:{p:List Value × α // Rep S (f p.2) p.1 ∧ p.2 ∈ l}=>c0 x.1.2 y.1.2):=by
  refine ⟨fun x=>?_,fun x y z q1 q2=>?_,fun x y z q1 q2=>?_⟩
  ·simpa [ltOf] using hO.1 _ x.2.2
  ·simp only [ltOf,decide_eq_true_eq] at q1 q2 ⊢
   exact hO.2.1 _ x.2.2 _ y.2.2 _ z.2.2 q1 q2
  ·simp only [ltOf,decide_eq_false_iff_not] at q1 q2 ⊢
   exact hO.ntr _ x.2.2 _ y.2.2 _ z.2.2 q1 q2
 have hdl:d.length=l.length:=by have:=congrArg List.length g1; simpa using this
 have hD0:(Sort.flatK enc k d.toArray).toList=cl:=by rw [z2o enc k hk]; exact g2
 have hszF:∀ d':Array {p:List Value × α // Rep S (f p.2) p.1 ∧ p.2 ∈ l},d'.size=d.length → (Sort.flatK enc k d').size=l.length * k:=fun d' q=>by rw [Sort.size_flatK,q,hdl]
 have hle:l.length * k ≤ arr.size:=Nat.le_trans (Nat.mul_le_mul_right _ t2) e2
 have hH2:Sort.HoldsK enc k w b 0 d.toArray:=by
  intro j hj
  have hj':j < cl.length:=by rw [← hD0]; simpa using hj
  have hget:(Sort.flatK enc k d.toArray)[j]! = cl[j]:=by
   rw [getElem!_pos _ j hj]
   have:(Sort.flatK enc k d.toArray).toList[j]'(by simpa using hj)=cl[j]:=by simp only [hD0]
   simpa using this
  have hcell:arr[j]?=some cl[j]:=by
   obtain ⟨u,hu⟩:∃ u,u=cl[j]:=⟨_,rfl⟩
   have q:cl[j]?=some u:=by rw [hu]; exact List.getElem?_eq_getElem hj'
   rw [← hu]
   clear hget hu
   subst e3
   rw [List.getElem?_take] at q
   split at q
   ·simpa using q
   ·cases q
  constructor
  ·simp only [World.cell?,e1,Option.isSome_none,Bool.false_eq_true,if_false,Nat.zero_add,id,hget]
   exact hcell
  ·simp [World.frozen?,e1]
 have hst:∀ n (d':Array {p:List Value × α // Rep S (f p.2) p.1 ∧ p.2 ∈ l}) os,yn S (sortWorldK enc k w b 0 n d' os):=by
  refine fun n d' os=>⟨?_,hS.gok,hS.blk.of (fun _ _ _ q=>q) fun g x e=>z6j enc k w b n d' os (hS.blk.lt e) (by rintro rfl; exact hS.blk.ne (e5 0) x e)⟩
  intro b' o' u hu
  have hne:b' ≠ b:=by rintro rfl; rw [e5] at hu; cases hu
  have:=hS b' o' u hu
  have hlt:b' < w.heap.size:=by
   unfold y5 at this
   cases hq:w.heap[b']? with
   | none=>simp [hq] at this
   | some _=>exact (Array.getElem?_eq_some_iff.1 hq).1
  unfold y5 at this ⊢
  rw [z6j enc k w b n d' os hlt hne]
  exact this
 have heg:Enters P g:=by
  obtain ⟨⟨fn',p1,p2,p3⟩,_⟩:=hc x0.1.2 x0.1.2 _ (hcmp _ x0.2.2 _ x0.2.2)
  cases hb:fn'.body with
  | none=>simp [hb] at p3
  | some body=>exact enters_of p1 p2 hb
 have hcall0:∀ (m:Nat) (os:Array Obj) (dk:Array {p:List Value × α // Rep S (f p.2) p.1 ∧ p.2 ∈ l}) (x y:{p:List Value × α // Rep S (f p.2) p.1 ∧ p.2 ∈ l}),
   Calls P g (#[zS (f x.1.2) (enc x),zS (f y.1.2) (enc y)] ++ cv.toArray) (sortWorldK enc k w b 0 m dk os) fun e w'=>e=.returned (.int .i64 (c0 x.1.2 y.1.2)) ∧ ∃ q os',w'=Sort.grow ((sortWorldK enc k w b 0 m dk os).drewN q) os':=by
  intro m os dk x y
  have hcall:=(hc x.1.2 y.1.2 _ (hcmp _ x.2.2 _ y.2.2)).2 S (sortWorldK enc k w b 0 m dk os) (zS (f x.1.2) (enc x) :: zS (f y.1.2) (enc y) :: cv) [] (hst _ _ _)
   (z2n ⟨⟨enc x,x.2.1,rfl⟩,⟨enc y,y.2.1,rfl⟩,hcv⟩) List.nodup_nil
  have ea:(#[zS (f x.1.2) (enc x),zS (f y.1.2) (enc y)] ++ cv.toArray:Array Value)=(zS (f x.1.2) (enc x) :: zS (f y.1.2) (enc y) :: cv:List Value).toArray:=by simp
  rw [ea]
  refine hcall.mono ?_
  rintro e w' ⟨v',S',F',rfl,b1,b2,b3,b4,b5,b6,b7⟩
  have hv:v'=.int .i64 (c0 x.1.2 y.1.2):=by
   rcases b5 with ⟨r,_⟩ | ⟨cs,r,_,r2⟩
   ·exact (zy.1 r).1
   ·simp only [zJ,Rep] at r
    rw [r2,r.1.1]; rfl
  refine ⟨by rw [hv],zcz (b1.mono fun k hk=>?_)⟩
  simpa using hk
 have hsz62:d.toArray.size < 4611686018427387904:=by
  simp only [List.size_toArray,hdl]
  omega
 have hcon:Calls P (ρ.f 6) #[.slice (some ⟨b,0,none⟩) d.toArray.size c,.func (.func g) #[] cv.toArray] w fun e w'=>
   e=.returned (.tuple #[]) ∧ ∃ d' n os,Sort.PermIn 0 d.toArray.size d.toArray d' ∧ Sort.SortedIn (ltOf fun x y:{p:List Value × α // Rep S (f p.2) p.1 ∧ p.2 ∈ l}=>c0 x.1.2 y.1.2) 0 d.toArray.size d' ∧ w'=sortWorldK enc k w b 0 n d' os:=by
  cases ag with
  | true=>
   refine AnyQ.slices_SortFunc (P:=P) (ρ:=ρ) L k aE zE enc hk h1 (fun x y=>c0 x.1.2 y.1.2) hswo g cv.toArray b 0 c d.toArray w heg ?_ hH2 hblk hsz62
   intro m os dk hs x y
   have q:=hcall0 m os dk x y
   have hx:∀ z:{p:List Value × α // Rep S (f p.2) p.1 ∧ p.2 ∈ l},zS (f z.1.2) (enc z)=.agg (enc z).toArray:=by
    intro z
    have:=hag z.1.2
    cases hz:f z.1.2 <;> simp [hz,A.isAgg] at this
    rfl
   rw [hx,hx] at q
   exact q
  | false=>
   have hk1':=hk1 rfl
   subst hk1'
   let e1:{p:List Value × α // Rep S (f p.2) p.1 ∧ p.2 ∈ l} → Value:=fun x=>(enc x).headD undef
   have he:∀ x,enc x=[e1 x]:=by
    intro x
    obtain ⟨u,hu⟩:=List.length_eq_one_iff.1 (hk x)
    show enc x=[(enc x).headD undef]
    rw [hu]; rfl
   have hx:∀ z:{p:List Value × α // Rep S (f p.2) p.1 ∧ p.2 ∈ l},zS (f z.1.2) (enc z)=e1 z:=by
    intro z
    have:=hag z.1.2
    cases hz:f z.1.2 <;> simp [hz,A.isAgg] at this <;> rfl
   refine (Any.slices_SortFunc (P:=P) (ρ:=ρ) { L with a24:=aE,z24:=zE } e1 (fun x=>h1 x _ (by rw [he x]; simp)) (fun x y=>c0 x.1.2 y.1.2) hswo g cv.toArray b 0 c d.toArray w heg ?_ (zcL he hH2) hblk hsz62).mono ?_
   ·intro m os dk hs x y
    have q:=hcall0 m os dk x y
    rw [hx,hx] at q
    rw [zgq enc e1 he]
    exact q
   ·rintro e w' ⟨q1,d',n,os,q2,q3,q4⟩
    exact ⟨q1,d',n,os,q2,q3,by rw [q4,zgq enc e1 he]⟩
 have ea2:(#[.slice (some ⟨b,0,none⟩) l.length c,.func (.func g) #[] cv.toArray]:Array Value)=#[.slice (some ⟨b,0,none⟩) d.toArray.size c,.func (.func g) #[] cv.toArray]:=by simp only [List.size_toArray,hdl]
 rw [ea2]
 refine hcon.mono ?_
 rintro e w' ⟨rfl,d',n,os,hp,hs,rfl⟩
 have hds:d'.size=d.length:=by simpa using hp.1
 have hperm:d'.toList.Perm d:=by
  have:=hp.2.2
  have e1:d'.extract 0 d.toArray.size=d':=by rw [show d.toArray.size=d'.size by simp [hds]]; exact Array.extract_size
  rw [e1,Array.extract_size] at this
  simpa using this
 have hl':d'.toList.map (fun p=>p.1.2)=z6H c0 l:=by
  refine z81 hO ?_ ?_
  ·exact (hperm.map _).trans (List.Perm.of_eq g1)
  ·rw [List.pairwise_map,List.pairwise_iff_getElem]
   intro i j hi hj hij
   have hi':i < d'.size:=by simpa using hi
   have hj':j < d'.size:=by simpa using hj
   have:=hs i j (Nat.zero_le _) hij (by simpa [hds] using hj')
   rw [getElem!_pos d' j hj',getElem!_pos d' i hi'] at this
   simpa [ltOf] using this
 have hat:=zo8 enc k w b n d' os e1
 have hFs:(Sort.flatK enc k d').size=l.length * k:=hszF d' hds
 have hlen:(z6H c0 l).length=l.length:=(Uv c0 l).length_eq
 refine ⟨.tuple #[],rfl,S,[],[b],⟨rfl,rfl,rfl,Nat.le_add_right _ _,by rw [zhz]; omega,?_⟩,fun _ _ _ q=>q,fun _ _ _ _=>rfl,hst _ _ _,.inl ⟨?_,rfl⟩,⟨[b],[],rfl,.inr ⟨[.slice (some ⟨b,0,none⟩) l.length c],?_,by simp,rfl⟩,rfl⟩,by simp,by simp⟩
 ·intro j hj
  simp only [not_or,Nat.not_le,List.mem_cons,List.not_mem_nil,or_false] at hj
  exact z6j enc k w b n d' os hj.1 hj.2
 ·simp only [xe]; exact ⟨[],rfl,trivial⟩
 ·simp only [zJ,List.length_map]
  refine ⟨some ⟨b,0,none⟩,c,by rw [hlen],by rw [hlen]; exact t1,by rw [hlen]; exact t2,t3,?_,.inr ⟨b,_,ty,(Sort.flatK enc k d').toList,[],rfl,hat,by rw [z6y]; exact e2,?_,?_,rfl,e5⟩⟩
  ·intro x hx
   obtain ⟨y,_,rfl⟩:=List.mem_map.1 hx
   exact hsz y
  ·rw [hlen,← hFs]
   exact z6x (by rw [hFs]; exact hle)
  ·have:=(z0P d'.toList).concs (sortWorldK enc k w b 0 n d' os).heap
   rw [hl'] at this
   rw [z2o enc k hk]
   exact this
def V9 (sz:Nat) (v:Value) (l:Int):Value :=
 match v with
 | .slice a n c=>.slice (if c=l.toNat then a else a.map (·.add (l.toNat * sz))) (n - l.toNat) (c - l.toNat)
 | v=>v
theorem zg4 {l:Int} (h:v.oneCell'=true):(V9 sz v l).oneCell'=true:=by
 unfold V9
 split
 ·rfl
 ·exact h
variable {es:List A}
section
variable {C:Ctx} {S:zl} {Fp:Nat → List Nat} {st:St} {a:Act} {w:World}
theorem zbW {r:Nat} {er ec:Nat} {u:Value} (ha:Zc w.heap st (Act.tv a) r [] er ec u) {x0:A} (hr:(st r).t=.own x0) (e1:(st r).er=er):u=Act.tv a r:=by
 have a3:=ha.2.2
 simp only [hr] at a3
 simp [JQ] at a3
 exact a3 e1
theorem z6A (h:Sim C S Fp [] st a w) {r sz:Nat} {tg:Bool}  (hr:(st r).t=.own (.osl sz tg es)) :
  ∃ p c,Act.tv a r=.slice p es.length c ∧ es.length ≤ c ∧ (∀ x ∈ es,x.size=sz) ∧ (0 < es.length → ∃ b,p=some ⟨b,0,none⟩):=by
 have hq:=h.ent r
 unfold xm at hq
 simp only [hr] at hq
 obtain ⟨cs,c1,c2,c3⟩:=hq
 simp only [zJ] at c1
 obtain ⟨p,c,rfl,t1,t2,t3,t4,t5⟩:=c1
 refine ⟨p,c,by rw [c3]; rfl,t2,t4,fun hp=>?_⟩
 rcases t5 with ⟨rfl,_⟩ | ⟨b,arr,ty,l,F',rfl,_⟩
 ·simp at hp
 ·exact ⟨b,rfl⟩
open Classical in
def vwK (tt:TT) (n:Fr) (dst:Option Nat) (ty r:Nat) (v:Value) (tx:T) (vl:A) (e:Ent):SM Unit :=
 match vl with
 | .atom (.int _ j)=>
  if (tx=.als r [] e.er e.ec ∨ tx=.d (.atom v)) ∧ z0u n.pin r=some v then
   match e.t with
   | .own (.osl sz _ es)=>if xo tt ty=some sz ∧ 0 ≤ j ∧ j.toNat ≤ es.length then wrT n dst (.d (.atom (V9 sz v j))) else zp
   | _=>zp
  else zp
 | _=>zp
def vwO (tt:TT) (n:Fr) (dst:Option Nat) (ty r:Nat) (v:Value) (x lo:Operand):SM Unit:=do
 let tx ← opnd x
 let tl ← opnd lo
 let vl ← val tl
 let e ← rdE r
 vwK tt n dst ty r v tx vl e
def vwH (tt:TT) (n:Fr) (dst:Option Nat) (ty r:Nat) (v:Value) (x lo:Operand):HM Unit:=y3 (opnd x) >>= fun tx=>y3 (opnd lo) >>= fun tl=>z0t tl >>= fun vl=>y3 (rdE r) >>= fun e=>
 match vl with
 | .atom (.int _ j)=>Zg ((tx=.als r [] e.er e.ec ∨ tx=.d (.atom v)) ∧ z0u n.pin r=some v)
   (match e.t with
   | .own (.osl sz _ es)=>if xo tt ty=some sz then Zg (0 ≤ j ∧ j.toNat ≤ es.length) (y3 (wrT n dst (.d (.atom (V9 sz v j))))) else zK
   | _=>zK)
 | _=>zK
open Classical in
theorem zr1 (tt:TT) (n:Fr) (dst:Option Nat) (ty r:Nat) (v:Value) (x lo:Operand):Snd (vwO tt n dst ty r v x lo) (vwH tt n dst ty r v x lo):=by
 refine zh (zk _) fun tx=>zh (zk _) fun tl=>zh (Zy _) fun vl=>zh (zk _) fun e=>?_
 cases vl with
 | atom u=>
  cases u with
  | int k j=>
   refine wd ?_
   cases e.t with
   | own y=>
    cases y with
    | osl sz tg es=>exact z2H (fun h1 h2=>⟨h1,h2.1,h2.2⟩) (zk _)
    | _=>exact zq _
   | _=>exact zq _
  | _=>exact zq _
 | _=>exact zq _
open Classical in
theorem Loc.vwO (tt:TT) (n:Fr) (dst:Option Nat) (ty r:Nat) (v:Value) (x lo:Operand):Loc (vwO tt n dst ty r v x lo):=by
 unfold Go.Own.vwO
 refine Loc.bind (Loc.opnd _) fun _=>Loc.bind (Loc.opnd _) fun _=>Loc.bind (Loc.val _) fun _=>Loc.bind (Loc.rdE _) fun _=>?_
 unfold Go.Own.vwK
 split
 ·refine Loc.ite ?_ Loc.fail
  split
  ·exact Loc.ite (Loc.wrT _ _ _) Loc.fail
  ·exact Loc.fail
 ·exact Loc.fail
theorem zo1 {P:Program}  (hT:xq P tt) (h:Sim C S Fp [] st a w)  {t r:Nat} {v:Value} {x lo:Operand} (ho:o.op=.slice t x (some lo) none none)    (e0:vwO tt C.n o.dst t r v x lo st=some (u,R,U)):vF P C o a w (ze U st):=by
 unfold vwO at e0
 obtain ⟨tx,R1,U1,R2,U2,h1,e1,rfl,rfl⟩:=bind_some e0
 obtain ⟨rfl,hx⟩:=zC h h1
 obtain ⟨tl,R3,U3,R4,U4,h3,e2,rfl,rfl⟩:=bind_some e1
 obtain ⟨rfl,hl⟩:=zC h h3
 obtain ⟨vl,R5,U5,R6,U6,h5,e3,rfl,rfl⟩:=bind_some e2
 obtain ⟨rfl,ql⟩:=vM h hl h5
 obtain ⟨en,R7,U7,R8,U8,h7,e4,rfl,rfl⟩:=bind_some e3
 obtain ⟨rfl,rfl,rfl⟩:=y7 h7
 simp only [ze,List.nil_append] at e4 ⊢
 unfold vwK at e4
 split at e4
 ·rename_i k j
  split at e4
  ·rename_i hc
   obtain ⟨c1,c2⟩:=hc
   have hs:=h.pin r v (qa c2)
   cases ht:(st r).t with
   | own y=>
    cases y with
    | osl sz tg es=>
     simp only [ht] at e4
     split at e4
     ·rename_i hd
      obtain ⟨d1,d2,d3⟩:=hd
      obtain ⟨p,c,ev,hlc,_,_⟩:=z6A h ht
      have hxv:a.eval x=.slice p es.length c:=by
       rcases c1 with rfl | rfl
       ·rw [← ev]; exact zbW hx ht rfl
       ·rw [(zy.1 hx).1,← hs,ev]
      obtain ⟨el,he,hsz⟩:=wB hT d1 w
      obtain ⟨el',_⟩:=zy.1 ql
      have hrun:=Yp (P:=P) (w:=w) he hsz (p:=p) (len:=es.length) (c:=c) (m:=c) (lo:=some (.int k j)) (hi:=none) (mx:=none) (.inr ⟨k,j,rfl,d2,rfl⟩) (.inl ⟨rfl,rfl⟩) (.inl ⟨rfl,rfl⟩) d3 hlc (Nat.le_refl c) (by simp)
      have hvv:v=.slice p es.length c:=by rw [← hs,ev]
      obtain ⟨Fp',hs'⟩:=xL h e4 (x:=.d (.atom (V9 sz v j))) (v:=V9 sz v j) (zy.2 ⟨rfl,by rw [hvv]; exact zg4 rfl⟩)
      refine zn ?_ hs'
      rw [hvv]
      simp [execOp,ho,hxv,el',hrun,V9]
     ·exact (z7 e4).elim
    | _=>simp only [ht] at e4; exact (z7 e4).elim
   | _=>simp only [ht] at e4; exact (z7 e4).elim
  ·exact (z7 e4).elim
 ·exact (z7 e4).elim
open Classical in
def vlO (n:Fr) (dst:Option Nat) (sz r:Nat) (v:Value) (l:Int) (x:Operand):SM Unit:=do
 let tx ← opnd x
 let e ← rdE r
 if tx=.d (.atom (V9 sz v l)) ∧ z0u n.pin r=some v then
  match e.t with
  | .own (.osl _ _ es)=>wrT n dst (.d (.atom (.int .i64 ((es.length - l.toNat:Nat):Int))))
  | _=>zp
 else zp
def vlH (n:Fr) (dst:Option Nat) (sz r:Nat) (v:Value) (l:Int) (x:Operand):HM Unit:=y3 (opnd x) >>= fun tx=>y3 (rdE r) >>= fun e=>Zg (tx=.d (.atom (V9 sz v l)) ∧ z0u n.pin r=some v)
  (match e.t with
  | .own (.osl _ _ es)=>eqA (.atom (.int .i64 ((es.length - l.toNat:Nat):Int))) >>= fun y=>y3 (wrT n dst (.d y))
  | _=>zK)
open Classical in
theorem zr2 (n:Fr) (dst:Option Nat) (sz r:Nat) (v:Value) (l:Int) (x:Operand):Snd (vlO n dst sz r v l x) (vlH n dst sz r v l x):=by
 refine zh (zk _) fun tx=>zh (zk _) fun e=>wd ?_
 cases e.t with
 | own y=>
  cases y with
  | osl sz tg es=>exact Kd (zX _ fun y=>wrT n dst (.d y)).symm (zh (z5k _) fun _=>zk _)
  | _=>exact zq _
 | _=>exact zq _
open Classical in
theorem Loc.vlO (n:Fr) (dst:Option Nat) (sz r:Nat) (v:Value) (l:Int) (x:Operand):Loc (vlO n dst sz r v l x):=by
 unfold Go.Own.vlO
 refine Loc.bind (Loc.opnd _) fun _=>Loc.bind (Loc.rdE _) fun _=>Loc.ite ?_ Loc.fail
 split
 ·exact Loc.wrT _ _ _
 ·exact Loc.fail
theorem zo2 (hT:xq P tt) (h:Sim C S Fp [] st a w)  {t sz r:Nat}  {l:Int} {x:Operand} (hty:vK tt t=true) (ho:o.op=.call ⟨.builtin .len,⟨[x]⟩,⟨[t]⟩⟩)    (e0:vlO C.n o.dst sz r v l x st=some (u,R,U)):vF P C o a w (ze U st):=by
 unfold vlO at e0
 obtain ⟨tx,R1,U1,R2,U2,h1,e1,rfl,rfl⟩:=bind_some e0
 obtain ⟨rfl,hx⟩:=zC h h1
 obtain ⟨en,R7,U7,R8,U8,h7,e4,rfl,rfl⟩:=bind_some e1
 obtain ⟨rfl,rfl,rfl⟩:=y7 h7
 simp only [ze,List.nil_append] at e4 ⊢
 split at e4
 ·rename_i hc
  obtain ⟨rfl,c2⟩:=hc
  have hs:=h.pin r v (qa c2)
  cases ht:(st r).t with
  | own y=>
   cases y with
   | osl sz' tg es=>
    simp only [ht] at e4
    obtain ⟨p,c,ev,hlc,_,_⟩:=z6A h ht
    have hxv:=(zy.1 hx).1
    have hvv:v=.slice p es.length c:=by rw [← hs,ev]
    obtain ⟨el,he⟩:=Yw hT hty
    obtain ⟨Fp',hs'⟩:=xL h e4 (x:=.d (.atom (.int .i64 ((es.length - l.toNat:Nat):Int)))) (zy.2 ⟨rfl,rfl⟩)
    refine zn ?_ hs'
    have ex:a.eval x=.slice (if c=l.toNat then p else p.map (·.add (l.toNat * sz))) (es.length - l.toNat) (c - l.toNat):=by rw [hxv,hvv]; rfl
    simp [execOp,ho,resolve,invoke,builtin,Builtin.len_,run_underlying he,ex,goInt]
   | _=>simp only [ht] at e4; exact (z7 e4).elim
  | _=>simp only [ht] at e4; exact (z7 e4).elim
 ·exact (z7 e4).elim
open Classical in
def viO (tt:TT) (n:Fr) (dst:Option Nat) (ty sz r:Nat) (v:Value) (l:Int) (x i:Operand):SM Unit:=do
 let tx ← opnd x
 let ti ← opnd i
 let vi ← val ti
 let e ← rdE r
 match vi with
 | .atom (.int _ j)=>
  if tx=.d (.atom (V9 sz v l)) ∧ z0u n.pin r=some v then
   match e.t with
   | .own (.osl sz' _ es)=>if xo tt ty=some sz ∧ sz'=sz ∧ 0 ≤ l ∧ 0 ≤ j ∧ (l + j).toNat < es.length then wrT n dst (.ptr r [.idx (l + j).toNat] e.er e.ec) else zp
   | _=>zp
  else zp
 | _=>zp
def viH (tt:TT) (n:Fr) (dst:Option Nat) (ty sz r:Nat) (v:Value) (l:Int) (x i:Operand):HM Unit:=y3 (opnd x) >>= fun tx=>y3 (opnd i) >>= fun ti=>z0t ti >>= fun vi=>y3 (rdE r) >>= fun e=>
 match vi with
 | .atom (.int _ j)=>Zg (tx=.d (.atom (V9 sz v l)) ∧ z0u n.pin r=some v)
   (match e.t with
   | .own (.osl sz' _ es)=>if xo tt ty=some sz ∧ sz'=sz then Zg (0 ≤ l ∧ 0 ≤ j ∧ (l + j).toNat < es.length) (y3 (wrT n dst (.ptr r [.idx (l + j).toNat] e.er e.ec))) else zK
   | _=>zK)
 | _=>zK
open Classical in
theorem zr3 (tt:TT) (n:Fr) (dst:Option Nat) (ty sz r:Nat) (v:Value) (l:Int) (x i:Operand):Snd (viO tt n dst ty sz r v l x i) (viH tt n dst ty sz r v l x i):=by
 refine zh (zk _) fun tx=>zh (zk _) fun ti=>zh (Zy _) fun vi=>zh (zk _) fun e=>?_
 cases vi with
 | atom u=>
  cases u with
  | int k j=>
   refine wd ?_
   cases e.t with
   | own y=>
    cases y with
    | osl sz' tg es=>exact z2H (fun h1 h2=>⟨h1.1,h1.2,h2.1,h2.2.1,h2.2.2⟩) (zk _)
    | _=>exact zq _
   | _=>exact zq _
  | _=>exact zq _
 | _=>exact zq _
open Classical in
theorem Loc.viO (tt:TT) (n:Fr) (dst:Option Nat) (ty sz r:Nat) (v:Value) (l:Int) (x i:Operand):Loc (viO tt n dst ty sz r v l x i):=by
 unfold Go.Own.viO
 refine Loc.bind (Loc.opnd _) fun _=>Loc.bind (Loc.opnd _) fun _=>Loc.bind (Loc.val _) fun _=>Loc.bind (Loc.rdE _) fun _=>?_
 split
 ·refine Loc.ite ?_ Loc.fail
  split
  ·exact Loc.ite (Loc.wrT _ _ _) Loc.fail
  ·exact Loc.fail
 ·exact Loc.fail
theorem zo3 {P:Program}  (hT:xq P tt) (h:Sim C S Fp [] st a w) {o:Oper} {t sz r:Nat}  {l:Int} {x i:Operand} (ho:o.op=.indexAddr t x i)    (e0:viO tt C.n o.dst t sz r v l x i st=some (u,R,U)):vF P C o a w (ze U st):=by
 unfold viO at e0
 obtain ⟨tx,R1,U1,R2,U2,h1,e1,rfl,rfl⟩:=bind_some e0
 obtain ⟨rfl,hx⟩:=zC h h1
 obtain ⟨ti,R3,U3,R4,U4,h3,e2,rfl,rfl⟩:=bind_some e1
 obtain ⟨rfl,hi⟩:=zC h h3
 obtain ⟨vi,R5,U5,R6,U6,h5,e3,rfl,rfl⟩:=bind_some e2
 obtain ⟨rfl,qi⟩:=vM h hi h5
 obtain ⟨en,R7,U7,R8,U8,h7,e4,rfl,rfl⟩:=bind_some e3
 obtain ⟨rfl,rfl,rfl⟩:=y7 h7
 simp only [ze,List.nil_append] at e4 ⊢
 split at e4
 ·rename_i k j
  split at e4
  ·rename_i hc
   obtain ⟨rfl,c2⟩:=hc
   have hs:=h.pin r v (qa c2)
   cases ht:(st r).t with
   | own y=>
    cases y with
    | osl sz' tg es=>
     simp only [ht] at e4
     split at e4
     ·rename_i hd
      obtain ⟨d1,rfl,d3,d4,d5⟩:=hd
      have hals:Zc w.heap st (Act.tv a) r [] (st r).er (st r).ec (Act.tv a r):=by
       refine ⟨Nat.le_refl _,Nat.le_refl _,?_⟩
       simp [ht]
      obtain ⟨b,c,ev,hp⟩:=zdu h hals ht rfl (.inl rfl) rfl d5
      obtain ⟨e',he,hsz⟩:=wB hT d1 w
      have hp':TOk S w.heap st (Act.tv a) (T.ptr r [Xp.idx (l + j).toNat] (st r).er (st r).ec) (.pointer (some ⟨b,(l + j).toNat * sz',none⟩)):=hp
      obtain ⟨Fp',hs'⟩:=xL h e4 hp'
      obtain ⟨ei,_⟩:=zy.1 qi
      have hvv:v=.slice (some ⟨b,0,none⟩) es.length c:=by rw [← hs,ev]
      obtain ⟨p2,c2',ev2,hlc,_,_⟩:=z6A h ht
      have hcc:es.length ≤ c:=by
       rw [ev] at ev2
       simp only [Value.slice.injEq] at ev2
       rw [ev2.2.2]; exact hlc
      have hxv:a.eval x=.slice (some ⟨b,l.toNat * sz',none⟩) (es.length - l.toNat) (c - l.toNat):=by
       rw [(zy.1 hx).1,hvv]
       have:¬ c=l.toNat:=by omega
       simp [V9,this,Addr.add_lit]
      have hsum:(l + j).toNat=l.toNat + j.toNat:=by omega
      refine zn ?_ hs'
      have hrun:=Q4 (P:=P) (b:=b) (o:=l.toNat * sz') (n:=es.length - l.toNat) (c:=c - l.toNat) (k:=k) he hsz d4 (by omega)
      have hoff:l.toNat * sz' + j.toNat * sz'=(l + j).toNat * sz':=by rw [hsum,Nat.add_mul]
      rw [hoff] at hrun
      simp [execOp,ho,ei,hxv,hrun]
     ·exact (z7 e4).elim
    | _=>simp only [ht] at e4; exact (z7 e4).elim
   | _=>simp only [ht] at e4; exact (z7 e4).elim
  ·exact (z7 e4).elim
 ·exact (z7 e4).elim
end
def z8v (i:TI):Option A :=
 match i.zero with
 | some z=>if z.live=true then some z.shut.loose else none
 | none=>none
theorem za6 {i:TI} {z':A} (h:z8v i=some z'):∃ z,i.zero=some z ∧ z.live=true ∧ z'=z.shut.loose:=by
 unfold z8v at h
 split at h
 ·rename_i z hz
  split at h
  ·rename_i hl; cases h; exact ⟨z,hz,hl,rfl⟩
  ·cases h
 ·cases h
theorem z4X (z:Array Value) (n:Nat):(Builtin.zeroCells z n).toList=(List.replicate n z.toList).flatten:=by
 apply List.ext_getElem?
 intro k
 rw [z6J,Array.length_toList]
 simp only [Builtin.zeroCells,Array.toList_map,Array.toList_range,List.getElem?_map]
 by_cases hk:k < n * z.size
 ·rw [if_pos hk,List.getElem?_range hk,Option.map_some]
  have hz:0 < z.size:=by
   rcases Nat.eq_zero_or_pos z.size with h0 | h0
   ·rw [h0] at hk; simp at hk
   ·exact h0
  have hmod:k % z.size < z.size:=Nat.mod_lt _ hz
  rw [Array.getElem?_toList,Array.getElem?_eq_getElem hmod,getElem!_pos z _ hmod]
 ·rw [if_neg hk,List.getElem?_eq_none (by simpa using hk),Option.map_none]
theorem zgy:∀ {xs:List A} {cs:List Value} (_:yd S xs cs) (_:∀ x ∈ xs,x.size=sz) (l:Nat),yd S (xs.take l) (cs.take (l * sz))
 | [],cs,h,_,l=>by simp only [yd] at h; subst h; simp [yd]
 | x :: xs,cs,h,hs,0=>by simp [yd]
 | x :: xs,cs,h,hs,l + 1=>by
  simp only [yd] at h
  obtain ⟨c1,c2,rfl,h1,h2⟩:=h
  have hl:c1.length=sz:=by rw [h1.len]; exact hs x (by simp)
  rw [List.take_succ_cons,Nat.succ_mul,Nat.add_comm,← hl,List.take_length_add_append]
  simp only [yd]
  rw [hl]
  exact ⟨c1,_,rfl,h1,zgy h2 (fun y hy=>hs y (by simp [hy])) l⟩
theorem zbY {o:Nat} {zs:List Value} (h:o + zs.length ≤ arr.size):(Q9 arr o zs).toList.take (o + zs.length)=arr.toList.take o ++ zs:=by
 rw [← uu h]
 have h1:(arr.toList.take o).length=o:=by simp; omega
 simp only []
 rw [show o + zs.length=(arr.toList.take o ++ zs).length by simp; omega,List.take_left]
section
variable {C:Ctx} {S:zl} {Fp:Nat → List Nat} {st:St} {a:Act} {w:World}
def vcK (tt:TT) (n:Fr) (dst:Option Nat) (ty sz r:Nat) (l:Int) (e:Ent):SM Unit :=
 match e.t with
 | .own (.osl sz' tg es)=>
  match tt ty with
  | some ⟨.slice el,_,_,_,_⟩=>
   match tt el with
   | some i=>
    match z8v i with
    | some z=>if sz'=sz ∧ i.size=sz ∧ 0 ≤ l ∧ l.toNat ≤ es.length ∧ A.areD es=true then
      wrE r ⟨.own (.osl sz tg (es.take l.toNat ++ List.replicate (es.length - l.toNat) z)),e.er,e.ec + 1⟩ >>= fun _=>wrT n dst (.d (.tup []))
     else zp
    | none=>zp
   | none=>zp
  | _=>zp
 | _=>zp
open Classical in
def vcO (tt:TT) (n:Fr) (dst:Option Nat) (ty sz r:Nat) (v:Value) (l:Int) (x:Operand):SM Unit:=do
 let tx ← opnd x
 let e ← rdE r
 if tx=.d (.atom (V9 sz v l)) ∧ z0u n.pin r=some v then vcK tt n dst ty sz r l e else zp
def vcH (tt:TT) (n:Fr) (dst:Option Nat) (ty sz r:Nat) (v:Value) (l:Int) (x:Operand):HM Unit:=y3 (opnd x) >>= fun tx=>y3 (rdE r) >>= fun e=>Zg (tx=.d (.atom (V9 sz v l)) ∧ z0u n.pin r=some v)
  (match e.t with
  | .own (.osl sz' tg es)=>
   match tt ty with
   | some ⟨.slice el,_,_,_,_⟩=>
    match tt el with
    | some i=>
     match z8v i with
     | some z=>if sz'=sz ∧ i.size=sz then Zg (0 ≤ l ∧ l.toNat ≤ es.length ∧ A.areD es=true)
       (eqL (es.take l.toNat ++ List.replicate (es.length - l.toNat) z) >>= fun zs=>y3 (wrE r ⟨.own (.osl sz tg zs),e.er,e.ec + 1⟩ >>= fun _=>wrT n dst (.d (.tup []))))
      else zK
     | none=>zK
    | none=>zK
   | _=>zK
  | _=>zK)
open Classical in
theorem zr4 (tt:TT) (n:Fr) (dst:Option Nat) (ty sz r:Nat) (v:Value) (l:Int) (x:Operand):Snd (vcO tt n dst ty sz r v l x) (vcH tt n dst ty sz r v l x):=by
 refine zh (zk _) fun tx=>zh (zk _) fun e=>wd ?_
 unfold vcK
 cases e.t with
 | own y=>
  cases y with
  | osl sz' tg es=>
   dsimp only
   generalize tt ty=q
   rcases q with _ | ⟨k,a1,a2,a3,a4⟩
   ·exact zq _
   ·cases k with
    | slice el=>
     dsimp only
     generalize tt el=q
     cases q with
     | none=>exact zq _
     | some i=>
      dsimp only
      cases z8v i with
      | none=>exact zq _
      | some z=>
       refine z2H (fun h1 h2=>⟨h1.1,h1.2,h2.1,h2.2.1,h2.2.2⟩) ?_
       exact Kd (zX _ fun zs=>wrE r ⟨.own (.osl sz tg zs),e.er,e.ec + 1⟩ >>= fun _=>wrT n dst (.d (.tup []))).symm (zh (zar _) fun _=>zk _)
    | _=>exact zq _
  | _=>exact zq _
 | _=>exact zq _
open Classical in
theorem Loc.vcO (tt:TT) (n:Fr) (dst:Option Nat) (ty sz r:Nat) (v:Value) (l:Int) (x:Operand):Loc (vcO tt n dst ty sz r v l x):=by
 unfold Go.Own.vcO
 refine Loc.bind (Loc.opnd _) fun _=>Loc.bind (Loc.rdE _) fun _=>Loc.ite ?_ Loc.fail
 unfold Go.Own.vcK
 split
 ·split
  ·split
   ·split
    ·exact Loc.ite (Loc.bind (Loc.wrE _ _) fun _=>Loc.wrT _ _ _) Loc.fail
    ·exact Loc.fail
   ·exact Loc.fail
  ·exact Loc.fail
 ·exact Loc.fail
theorem zo4 (hT:xq P tt) (h:Sim C S Fp [] st a w)  {t sz r:Nat} {v:Value} {l:Int} {x:Operand} (ho:o.op=.call ⟨.builtin .clear,⟨[x]⟩,⟨[t]⟩⟩)    (e0:vcO tt C.n o.dst t sz r v l x st=some (u,R,U)):vF P C o a w (ze U st):=by
  unfold vcO at e0
  obtain ⟨tx,R1,U1,R2,U2,h1,e1,rfl,rfl⟩:=bind_some e0
  obtain ⟨rfl,hx⟩:=zC h h1
  obtain ⟨en,R7,U7,R8,U8,h7,e4,rfl,rfl⟩:=bind_some e1
  obtain ⟨rfl,rfl,rfl⟩:=y7 h7
  simp only [ze,List.nil_append] at e4 ⊢
  split at e4
  · rename_i hc
    obtain ⟨rfl,c2⟩:=hc
    have hs:=h.pin r v (qa c2)
    unfold vcK at e4
    cases ht:(st r).t with
    | own y=>
     cases y with
     | osl sz' tg es=>
      simp only [ht] at e4
      obtain ⟨el,a1,a2,a3,a4,hty⟩:∃ el a1 a2 a3 a4,tt t=some ⟨.slice el,a1,a2,a3,a4⟩:=by
        cases hq:tt t with
        | none=>simp only [hq] at e4; exact (z7 e4).elim
        | some it=>
          obtain ⟨k,a1,a2,a3,a4⟩:=it
          cases k with
          | slice el=>exact ⟨el,a1,a2,a3,a4,rfl⟩
          | _=>simp only [hq] at e4; exact (z7 e4).elim
      simp only [hty] at e4
      obtain ⟨i,hi⟩:∃ i,tt el=some i:=by
        cases hq:tt el with
        | none=>simp only [hq] at e4; exact (z7 e4).elim
        | some i=>exact ⟨i,rfl⟩
      simp only [hi] at e4
      obtain ⟨z',hz'⟩:∃ z',z8v i=some z':=by
        cases hq:z8v i with
        | none=>simp only [hq] at e4; exact (z7 e4).elim
        | some i=>exact ⟨i,rfl⟩
      simp only [hz'] at e4
      have hel:P.underlying t=some (.slice el):=(hT _ _ hty).kind
      · · split at e4
          · rename_i hd
            obtain ⟨rfl,d2,d3,d4,d5⟩:=hd
            obtain ⟨z,hz,hlv,rfl⟩:=za6 hz'
            obtain ⟨f,f1,f2,f3,f4⟩:=(hT _ _ hi).info
            obtain ⟨zv,v1,v2,v3⟩:=f4 z hz
            have hzr:Rep S z.shut.loose zv.cells.toList:=((v3 S w.heap).shut (fun _ _ _ q=>q) hlv (by simp)).loose
            have hzl:zv.cells.toList.length=sz':=by rw [((v3 S w.heap).shut (S':=S) (fun _ _ _ q=>q) hlv (by simp)).len,A.size_shut,v2,d2]
            have hq:=h.ent r
            unfold xm at hq
            simp only [ht] at hq
            obtain ⟨cs,c1,c3,c4⟩:=hq
            simp only [zJ] at c1
            obtain ⟨p,c,rfl,t1,t2,t3,t4,t5⟩:=c1
            have ev:Act.tv a r=.slice p es.length c:=c4
            have hvv:v=.slice p es.length c:=by rw [← hs,ev]
            have hxv:=(zy.1 hx).1
            rw [hvv] at hxv
            obtain ⟨y1,R9,U9,R10,U10,h9,e5,rfl,rfl⟩:=bind_some e4
            obtain ⟨rfl,rfl⟩:=xH h9
            have hlen:(es.take l.toNat ++ List.replicate (es.length - l.toNat) z.shut.loose).length=es.length:=by simp; omega
            have hsz:∀ y ∈ es.take l.toNat ++ List.replicate (es.length - l.toNat) z.shut.loose,y.size=sz':=by
              intro y hy
              rcases List.mem_append.1 hy with q | q
              · exact t4 y (List.mem_of_mem_take q)
              · rw [List.eq_of_mem_replicate q,← hzr.len,hzl]
            have hreps:∀ n,yd S (List.replicate n z.shut.loose) (List.replicate n zv.cells.toList).flatten:=by
              intro n
              induction n with
              | zero=>simp [yd]
              | succ n ih=>simp only [List.replicate_succ,List.flatten_cons,yd]; exact ⟨_,_,rfl,hzr,ih⟩
            obtain ⟨w',F',hrun,hkept,hst,hfr,hconc,hF'⟩:∃ w' F',(Builtin.clear_ #[t] o.type #[a.eval x]).run P w=.ok (.tuple #[]) w' ∧ Xb C.M w w' ∧ (∀ b o u,S b o=some u → y5 w'.heap b o=some u) ∧ (∀ k,k ∉ Fp r → w'.heap[k]?=w.heap[k]?) ∧
                zJ S w'.heap (.osl sz' tg (es.take l.toNat ++ List.replicate (es.length - l.toNat) z.shut.loose)) [.slice p es.length c] F' ∧ F'=Fp r:=by
              by_cases hn:es.length - l.toNat=0
              · refine ⟨w,Fp r,?_,Xb.refl _ _,h.still.cell,fun _ _=>rfl,?_,rfl⟩
                · rw [hxv]
                  simp only [V9]
                  rw [hn]
                  cases hp:(if c=l.toNat then p else p.map (·.add (l.toNat * sz'))) with
                  | none=>simp [Builtin.clear_,run_underlying hel]
                  | some _=>simp [Builtin.clear_,run_underlying hel]
                · have:es.take l.toNat ++ List.replicate (es.length - l.toNat) z.shut.loose=es:=by rw [hn,List.replicate_zero,List.append_nil,List.take_of_length_le (by omega)]
                  rw [this]
                  simp only [zJ]
                  exact ⟨p,c,rfl,t1,t2,t3,t4,t5⟩
              · rcases t5 with ⟨rfl,_⟩ | ⟨b,arr,ty,cl,F1,rfl,k1,k2,k3,k4,k5,k6⟩
                · simp at hn
                obtain ⟨hr,rfl⟩:=k4.areD d5
                let zs:=(List.replicate (es.length - l.toNat) zv.cells.toList).flatten
                have hzs:zs.length=(es.length - l.toNat) * sz':=by
                  show (List.replicate _ _).flatten.length=_
                  rw [List.length_flatten]
                  simp [hzl]
                have hfit:l.toNat * sz' + zs.length ≤ arr.size:=by
                  rw [hzs,← Nat.add_mul]
                  refine Nat.le_trans (Nat.mul_le_mul_right _ ?_) k2
                  omega
                let w':=w.setRow b (Q9 arr (l.toNat * sz') zs)
                have hheap:∀ k,k ≠ b → w'.heap[k]?=w.heap[k]?:=fun k hk=>setRow_other w b k _ hk
                have hheapb:w'.heap[b]?=some (.cells (Q9 arr (l.toNat * sz') zs) ty (0,0)):=setRow_heap w b arr _ ty (0,0) k1
                have hb:b ∈ Fp r:=by rw [k5]; simp
                have h1c:∀ u ∈ zs,u.oneCell'=true:=by
                  intro u hu
                  obtain ⟨m,hm,hu⟩:=List.mem_flatten.1 hu
                  rw [List.eq_of_mem_replicate hm] at hu
                  exact hzr.one u hu
                refine ⟨w',Fp r,?_,⟨rfl,rfl,rfl,Nat.le_refl _,by simp [w'],fun k hk=>hheap k (fun e=>hk (e ▸ h.base r b hb))⟩,?_,fun k hk=>hheap k (fun e=>hk (e ▸ hb)),?_,rfl⟩
                · have hst:=run_storeCells_at P b (l.toNat * sz') ty zs 0 arr w k1 (by simpa using hfit) h1c
                  simp only [Nat.add_zero] at hst
                  rw [uu hfit] at hst
                  have hz0:(zeroValue el).run P w=.ok zv w:=by simp [zeroValue,typeInfo,f1,v1]
                  rw [hxv]
                  have hcl:¬ c=l.toNat:=by omega
                  simp only [V9,if_neg hcl,Option.map_some,Addr.add_lit,Nat.zero_add]
                  obtain ⟨m,hm⟩:∃ m,es.length - l.toNat=m + 1:=⟨es.length - l.toNat - 1,by omega⟩
                  have hzc:(Builtin.zeroCells zv.cells (m + 1)).toList=zs:=by rw [z4X,← hm]
                  rw [hm]
                  simp [Builtin.clear_,run_underlying hel,hz0,hzc,hst,w']
                · intro b' o'' u hu
                  have hne:b' ≠ b:=by rintro rfl; rw [k6] at hu; cases hu
                  rw [w7 (h:=w.heap) (h':=w'.heap) (hheap b' hne)]
                  exact h.still b' o'' u hu
                · simp only [zJ,hlen]
                  refine ⟨_,c,rfl,t1,t2,t3,hsz,.inr ⟨b,_,ty,_,[],rfl,hheapb,by simpa using k2,rfl,?_,k5,k6⟩⟩
                  have e1:es.length * sz'=l.toNat * sz' + zs.length:=by rw [hzs,← Nat.add_mul]; congr 1; omega
                  rw [e1,zbY hfit]
                  have e2:arr.toList.take (l.toNat * sz')=cl.take (l.toNat * sz'):=by
                    rw [← k3,List.take_take,Nat.min_eq_left (Nat.mul_le_mul_right _ d4)]
                  rw [e2]
                  exact ((zgy hr t4 _).append (hreps _)).concs _
            subst hF'
            have hs1:Sim C S (Jp Fp r (Fp r)) [] (upd st r ⟨.own (.osl sz' tg (es.take l.toNat ++ List.replicate (es.length - l.toNat) z.shut.loose)),(st r).er,(st r).ec + 1⟩) a w':=by
              refine h.change r (.own _) _ _ (Fp r) (h.below.trans hkept) (fun _ _ _ q=>q) hst h.sbase ?_ ⟨⟨_,hconc,c3,by rw [ev]; simp [zS]⟩,_,ht⟩ (.inl ⟨_,ht⟩) (Nat.le_refl _) (Nat.lt_succ_self _) ?_ ?_ (by simp) (by simp) (by simp) (by simp)
              · intro t' k htr hk
                exact ⟨hfr k (fun q=>htr (h.disj t' r k hk q)),(h.free t' k hk).2.1⟩
              · intro t' k htr hk hk'
                exact htr (h.disj t' r k hk' hk)
              · intro k hk
                exact h.base r k hk
            rw [zw]
            simp only [ze] at e5 ⊢
            obtain ⟨Fp',hs'⟩:=xL hs1 e5 (x:=.d (.tup [])) (v:=.tuple #[]) (by simp only [TOk,xe]; exact ⟨[],rfl,trivial⟩)
            refine zn ?_ hs'
            simp [execOp,ho,resolve,invoke,builtin,hrun]
          · exact (z7 e4).elim
     | _=>simp only [ht] at e4; exact (z7 e4).elim
    | _=>simp only [ht] at e4; exact (z7 e4).elim
  · exact (z7 e4).elim
end
variable {β:Type}
def xAt (P:Program)  (p:Oper → Option β) (e:Fr → Oper → β → SM Unit) (h:Fr → Oper → β → HM Unit)
  (ok:∀ (C:Ctx) (S:zl) (Fp:Nat → List Nat) (st:St) (a:Act) (w:World) (o:Oper) (b:β),p o=some b → Sim C S Fp [] st a w → ∀ u R U,e C.n o b st=some (u,R,U) → vF P C o a w (ze U st))
  (loc:∀ n o b,Loc (e n o b)) (sd:∀ n o b,Snd (e n o b) (h n o b)):XH P:={
 e:=fun n o=>(p o).map (e n o)
 h:=fun n o=>(p o).map (h n o)
 ok:=by
  refine ⟨?_,?_⟩
  ·intro C S Fp st a w o m u R U e0 h h2
   obtain ⟨b,hp,rfl⟩:=Option.map_eq_some_iff.1 e0
   exact ok C S Fp st a w o b hp h _ _ _ h2
  ·intro n o m e0
   obtain ⟨b,hp,rfl⟩:=Option.map_eq_some_iff.1 e0
   exact fun st st' a R U=>loc n o b st st' a R U
 none:=by
  intro n o e0
  rw [Option.map_eq_none_iff] at e0 ⊢
  exact e0
 some:=by
  intro n o m e0
  obtain ⟨b,hp,rfl⟩:=Option.map_eq_some_iff.1 e0
  exact ⟨_,by rw [hp]; rfl,sd n o b⟩ }
theorem z2J {d:Nat}  {x:Option β} {b:β} (h:(if o.dst=some d then x else none)=some b):x=some b:=by
 split at h
 ·exact h
 ·cases h
def znP (d:Nat) (o:Oper):Option (Nat × Operand × Operand):=match o.op with | .slice t x (some lo) none none=>if o.dst=some d then some (t,x,lo) else none | _=>none
def xVw (hT:xq P tt) (d r:Nat) (v:Value):XH P :=
 xAt P (znP d) (fun n o b=>vwO tt n o.dst b.1 r v b.2.1 b.2.2) (fun n o b=>vwH tt n o.dst b.1 r v b.2.1 b.2.2)
  (by
   intro C S Fp st a w o b hp h u R U e
   unfold znP at hp
   split at hp
   ·rename_i ho; cases z2J hp; exact zo1 hT h ho e
   ·cases hp)
  (fun n o b=>Loc.vwO _ _ _ _ _ _ _ _) (fun n o b=>zr1 _ _ _ _ _ _ _ _)
def znQ (d t:Nat) (o:Oper):Option Operand:=match o.op with | .call ⟨.builtin .len,⟨[x]⟩,⟨[t']⟩⟩=>if o.dst=some d then (if t'=t then some x else none) else none | _=>none
def xVl (hT:xq P tt) (d t sz r:Nat) (v:Value) (l:Int) (hty:vK tt t=true):XH P :=
 xAt P (znQ d t) (fun n o x=>vlO n o.dst sz r v l x) (fun n o x=>vlH n o.dst sz r v l x)
  (by
   intro C S Fp st a w o x hp h u R U e
   unfold znQ at hp
   split at hp
   ·rename_i ho
    replace hp:=z2J hp
    split at hp
    ·rename_i ht; subst ht; cases hp; exact zo2 hT h hty ho e
    ·cases hp
   ·cases hp)
  (fun n o x=>Loc.vlO _ _ _ _ _ _ _) (fun n o x=>zr2 _ _ _ _ _ _ _)
def zgK (d:Nat) (o:Oper):Option (Nat × Operand × Operand):=match o.op with | .indexAddr t x i=>if o.dst=some d then some (t,x,i) else none | _=>none
def xVi (hT:xq P tt) (d sz r:Nat) (v:Value) (l:Int):XH P :=
 xAt P (zgK d) (fun n o b=>viO tt n o.dst b.1 sz r v l b.2.1 b.2.2) (fun n o b=>viH tt n o.dst b.1 sz r v l b.2.1 b.2.2)
  (by
   intro C S Fp st a w o b hp h u R U e
   unfold zgK at hp
   split at hp
   ·rename_i ho; cases z2J hp; exact zo3 hT h ho e
   ·cases hp)
  (fun n o b=>Loc.viO _ _ _ _ _ _ _ _ _ _) (fun n o b=>zr3 _ _ _ _ _ _ _ _ _ _)
def zqq (s:Nat) (o:Oper):Option Nat:=match o.op with | .call ⟨.builtin .clear,⟨[.tmp s']⟩,⟨[t]⟩⟩=>if s'=s then some t else none | _=>none
def xVc (hT:xq P tt) (s sz r:Nat) (v:Value) (l:Int):XH P :=
 xAt P (zqq s) (fun n o t=>vcO tt n o.dst t sz r v l (.tmp s)) (fun n o t=>vcH tt n o.dst t sz r v l (.tmp s))
  (by
   intro C S Fp st a w o b hp h u R U e
   unfold zqq at hp
   split at hp
   ·rename_i ho
    split at hp
    ·rename_i hs; subst hs; cases hp; exact zo4 hT h ho e
    ·cases hp
   ·cases hp)
  (fun n o b=>Loc.vcO _ _ _ _ _ _ _ _ _) (fun n o b=>zr4 _ _ _ _ _ _ _ _ _)
def clO (tt:TT) (n:Fr) (dst:Option Nat) (t:Nat) (x hi mx:Operand):SM Unit:=do
 let y ← opnd x
 let z ← take y
 match z with
 | .osl sz _ es=>if xo tt t=some sz then bound es.length (some hi) >>= fun h=>bound 0 (some mx) >>= fun m=>if h ≤ m ∧ m ≤ es.length then wrT n dst (.own (.osl sz (m == h) (es.take h))) else zp else zp
 | _=>zp
def clH (tt:TT) (n:Fr) (dst:Option Nat) (t:Nat) (x hi mx:Operand):HM Unit:=y3 (opnd x) >>= fun y=>z8E y >>= fun z=>
 match z with
 | .osl sz _ es=>if xo tt t=some sz then z4s es.length (some hi) >>= fun h=>z4s 0 (some mx) >>= fun m=>Zg (h ≤ m ∧ m ≤ es.length) (eqA (.osl sz (m == h) (es.take h)) >>= fun z=>y3 (wrT n dst (.own z))) else zK
 | _=>zK
theorem zrf (tt:TT) (n:Fr) (dst:Option Nat) (t:Nat) (x hi mx:Operand):Snd (clO tt n dst t x hi mx) (clH tt n dst t x hi mx):=by
 refine zh (zk _) fun y=>zh (z5B _) fun z=>?_
 cases z with
 | osl sz tg es=>
  refine vU (zh (z1D _ _) fun h=>zh (z1D _ _) fun m=>wd ?_) (zq _)
  exact Kd (zX _ fun z=>wrT n dst (.own z)).symm (zh (z5k _) fun _=>zk _)
 | _=>exact zq _
theorem Loc.clO (tt:TT) (n:Fr) (dst:Option Nat) (t:Nat) (x hi mx:Operand):Loc (clO tt n dst t x hi mx):=by
 unfold Go.Own.clO
 refine Loc.bind (Loc.opnd _) fun _=>Loc.bind (Loc.take _) fun z=>?_
 cases z with
 | osl sz tg es=>exact Loc.ite (Loc.bind (Loc.bound _ _) fun _=>Loc.bind (Loc.bound _ _) fun _=>Loc.ite (Loc.wrT _ _ _) Loc.fail) Loc.fail
 | _=>exact Loc.fail
section
variable {C:Ctx} {S:zl} {Fp:Nat → List Nat} {st:St} {a:Act} {w:World}
theorem zoQ {P:Program}  (hT:xq P tt) (h:Sim C S Fp [] st a w)   {x hi mx:Operand} (ho:o.op=.slice t x none (some hi) (some mx))    (e:clO tt C.n o.dst t x hi mx st=some (u,R,U)):vF P C o a w (ze U st):=by
 unfold clO at e
 obtain ⟨y,R1,U1,R2,U2,h1,e1,rfl,rfl⟩:=bind_some e
 obtain ⟨rfl,hx⟩:=zC h h1
 simp only [ze,List.nil_append] at e1 ⊢
 obtain ⟨z,R3,U3,R4,U4,h3,e2,rfl,rfl⟩:=bind_some e1
 obtain ⟨Fp',F,g1,g2⟩:=z1y h hx h3
 rw [zw]
 cases z with
 | osl sz tg es=>
  simp only at e2
  split at e2
  ·rename_i hel
   obtain ⟨hh,R5,U5,R6,U6,h5,e3,rfl,rfl⟩:=bind_some e2
   obtain ⟨rfl,b2⟩:=Km g1 h5
   simp only [ze,List.nil_append] at e3 ⊢
   obtain ⟨m,R7,U7,R8,U8,h7,e4,rfl,rfl⟩:=bind_some e3
   obtain ⟨rfl,b3⟩:=Km g1 h7
   simp only [ze,List.nil_append] at e4 ⊢
   split at e4
   ·rename_i hle
    obtain ⟨hle1,hle2⟩:=hle
    obtain ⟨el,he,hsz⟩:=wB hT hel w
    obtain ⟨cs,k1,k2,k3⟩:∃ cs,zJ S w.heap (.osl sz tg es) cs F ∧ F.Nodup ∧ a.eval x=zS (.osl sz tg es) cs:=by
     rcases g2 with ⟨q,_⟩ | q
     ·simp only [xe,wT,Rep,false_and,exists_false] at q
     ·exact q
    simp only [zJ] at k1
    obtain ⟨p,c,rfl,t1,t2,t3,t4,t5⟩:=k1
    have ev:a.eval x=.slice p es.length c:=k3
    have b3':z2g ((some mx).map a.eval) c m:=by
     rcases b3 with ⟨q,_⟩ | ⟨o,k,j,q,q2,q3,q4⟩
     ·cases q
     ·cases q; exact .inr ⟨k,j,by simp [q2],q3,q4⟩
    have b2':(Option.isSome ((some hi).map a.eval))=true:=rfl
    have hrun:=Yp (P:=P) (w:=w) he hsz (p:=p) (len:=es.length) (c:=c) (lo:=none) (.inl ⟨rfl,rfl⟩) (Kn b2) b3' (Nat.zero_le _) hle1 (by omega) (fun _=>b2')
    have hp:(if m=0 then p else p.map (·.add (0 * sz)))=p:=by
     split
     ·rfl
     ·cases p <;> simp [Addr.add]
    rw [hp] at hrun
    have hlen:(es.take hh).length=hh:=by simp; omega
    have ht4:∀ x ∈ es.take hh,x.size=sz:=fun x hx=>t4 x (List.mem_of_mem_take hx)
    obtain ⟨F2,cs2,m1,m2,m3,m4⟩:∃ F2 cs2,zJ S w.heap (.osl sz (m == hh) (es.take hh)) cs2 F2 ∧ F2.Nodup ∧ (∀ k ∈ F2,k ∈ F) ∧ zS (.osl sz (m == hh) (es.take hh)) cs2=.slice p hh m:=by
     rcases t5 with ⟨rfl,rfl,rfl,rfl⟩ | ⟨b,arr,ty,l,F',rfl,e1,e2,e3,e4,rfl,e5⟩
     ·have hm0:m=0:=by simpa using hle2
      subst hm0
      have:hh=0:=by omega
      subst this
      refine ⟨[],[.slice none 0 0],?_,by simp,by simp,rfl⟩
      simp only [zJ]
      exact ⟨none,0,by simp,by simp,by simp,Nat.zero_le _,by simp,.inl (by simp)⟩
     ·obtain ⟨F3,q1,q2,q3⟩:=z5V e4 hh
      have hn:=List.nodup_cons.1 k2
      refine ⟨b :: F3,[.slice (some ⟨b,0,none⟩) hh m],?_,List.nodup_cons.2 ⟨fun q=>hn.1 (q2 b q),q3 hn.2⟩,?_,rfl⟩
      ·simp only [zJ]
       refine ⟨some ⟨b,0,none⟩,m,by rw [hlen],by intro q; rw [hlen]; simpa using q,by rw [hlen]; omega,by omega,ht4,.inr ⟨b,arr,ty,_,F3,rfl,e1,Nat.le_trans (Nat.mul_le_mul_right _ (by omega)) e2,?_,q1,rfl,e5⟩⟩
       rw [← e3,List.take_take,A.sizes_const ht4,hlen]
       congr 1
       have:=Nat.mul_le_mul_right sz (show hh ≤ es.length by omega)
       omega
      ·intro k hk
       rcases List.mem_cons.1 hk with rfl | hk
       ·simp
       ·simp [q2 k hk]
    have g1':Sim C S Fp' (F2 ++ []) (ze U3 st) a w:=g1.mem g1.below (fun _ _ _ h=>h) g1.still.cell g1.sbase (fun t' k hk=>⟨rfl,(g1.free t' k hk).2.1⟩) (by simpa using m2) (fun t' k hk=>g1.xd t' k (by simp at hk ⊢; exact m3 k hk)) (fun k hk=>g1.xb k (by simp at hk ⊢; exact m3 k hk))
    obtain ⟨Fp'',hs⟩:=Vn g1' e4 m1 m2
    rw [m4] at hs
    refine zn ?_ hs
    simp only [Nat.sub_zero] at hrun
    simp only [Option.map_some] at hrun
    simp [execOp,ho,ev,hrun]
   ·exact (z7 e4).elim
  ·exact (z7 e2).elim
 | _=>exact (z7 e2).elim
end
def zqx (d:Nat) (o:Oper):Option (Nat × Operand × Operand × Operand):=match o.op with | .slice t x none (some hi) (some mx)=>if o.dst=some d then some (t,x,hi,mx) else none | _=>none
def xCl (hT:xq P tt) (d:Nat):XH P :=
 xAt P (zqx d) (fun n o b=>clO tt n o.dst b.1 b.2.1 b.2.2.1 b.2.2.2) (fun n o b=>clH tt n o.dst b.1 b.2.1 b.2.2.1 b.2.2.2)
  (by
   intro C S Fp st a w o b hp h u R U e
   unfold zqx at hp
   split at hp
   ·rename_i ho; cases z2J hp; exact zoQ hT h ho e
   ·cases hp)
  (fun n o b=>Loc.clO _ _ _ _ _ _ _) (fun n o b=>zrf _ _ _ _ _ _ _)
def zrB (d:Nat) (o:Oper):Option Unit:=match o.op with | .call ⟨.value _,_,_⟩=>if o.dst=some d then some () else none | _=>none
def z61 (hT:xq P tt) {s:zO} (h:s.Ok P) (d:Nat):XH P :=
 xAt P (zrB d) (fun n o _=>stepO tt (Kw.add s) n o) (fun n o _=>z7s tt (Kw.add s) n o)
  (fun C S Fp st a w o b hp hS u R U e=>z6l hT (Ctr.add_ok (z9b P) h) hS e)
  (fun n o b=>Loc.stepO _ _ _ _) (fun n o b=>z8Q _ _ _ _)
theorem vlM (f:α → A) (l:List α) (k:Nat):A.atom (.int .i64 (((l.map f).length - k:Nat):Int))=.atom (.int .i64 ((l.length - k:Nat):Int)):=by rw [List.length_map]
theorem vcM (f:α → A) (l:List α) (k:Nat) (z:α):(l.map f).take k ++ List.replicate ((l.map f).length - k) (f z)=(l.take k ++ List.replicate (l.length - k) z).map f:=by simp
theorem clB (f:α → A) (l:List α):((l.length:Nat):Int).toNat ≤ ((l.length:Nat):Int).toNat ∧ ((l.length:Nat):Int).toNat ≤ (l.map f).length:=by simp
theorem clE (sz:Nat) (f:α → A) (l:List α):A.osl sz (((l.length:Nat):Int).toNat == ((l.length:Nat):Int).toNat) ((l.map f).take ((l.length:Nat):Int).toNat)=eOs sz true f l:=by
 simp only [beq_self_eq_true,Int.toNat_natCast,eOs]
 rw [List.take_of_length_le (by simp)]
def zdB:Value → Option Bool
 | .slice none _ _=>some true
 | .slice (some _) _ _=>some false
 | _=>none
variable {Q:Exit → St → Prop}
theorem zdk {P:Program} {n:Fr} {c:Code}  {Q:Exit → St → Prop}  (e:fs=[]) (k:Nat)  {t:Bool}  (hk:(st k).t=.d (.sl sz t es))
  (h:∀ v,v.oneCell'=true → (zdB v=some true ∧ es=[]) ∨ zdB v=some false → AWP P ⟨n.size,(k,v) :: n.pin⟩ c st (Qf P ⟨n.size,(k,v) :: n.pin⟩ [] Q)):AWP P n c st (Qf P n fs Q):=by
 subst e
 intro rd m df w0 S0 M S Fp a w hc hs
 have q:=hs.ent k
 unfold xm at q
 simp only [hk] at q
 have q1:=q.1
 simp only [xe] at q1
 obtain ⟨cs,r1,r2⟩:=q1
 simp only [Rep] at r1
 obtain ⟨p,c',rfl,r3,r4,r5,r6⟩:=r1
 have ev:Act.tv a k=.slice p es.length c':=r2
 have hcase:(zdB (Act.tv a k)=some true ∧ es=[]) ∨ zdB (Act.tv a k)=some false:=by
  rw [ev]
  cases p with
  | none=>
   refine .inl ⟨rfl,?_⟩
   rcases r6 with r6 | ⟨b,o,l,e,_⟩
   ·exact r6
   ·cases e
  | some p=>exact .inr rfl
 refine wpIn_mono (h (Act.tv a k) (by rw [ev]; rfl) hcase rd m df w0 S0 M S Fp a w ⟨hc.nodup,hc.df,hc.rd⟩ (hs.pinned k)) ?_
 rintro e a' w' ⟨df',st1,S1,Fp1,h1,h2,h3⟩
 exact ⟨df',st1,S1,Fp1,h1.unpinned,h2,h3⟩
open Classical in
def nilO (n:Fr) (dst:Option Nat) (v:Value) (b:Bool) (x y:Operand):SM Unit:=do
 let tx ← opnd x
 let ty ← opnd y
 if tx=.d (.atom v) ∧ ty=.d (.atom (.slice none 0 0)) then wrT n dst (.d (.atom (.bool b))) else zp
def zqn (n:Fr) (dst:Option Nat) (v:Value) (b:Bool) (x y:Operand):HM Unit:=y3 (opnd x) >>= fun tx=>y3 (opnd y) >>= fun ty=>Zg (tx=.d (.atom v) ∧ ty=.d (.atom (.slice none 0 0))) (y3 (wrT n dst (.d (.atom (.bool b)))))
open Classical in
theorem zoi (n:Fr) (dst:Option Nat) (v:Value) (b:Bool) (x y:Operand):Snd (nilO n dst v b x y) (zqn n dst v b x y):=zh (zk _) fun _=>zh (zk _) fun _=>wd (zk _)
open Classical in
theorem Loc.nilO (n:Fr) (dst:Option Nat) (v:Value) (b:Bool) (x y:Operand):Loc (nilO n dst v b x y):=by
 unfold Go.Own.nilO
 exact Loc.bind (Loc.opnd _) fun _=>Loc.bind (Loc.opnd _) fun _=>Loc.ite (Loc.wrT _ _ _) Loc.fail
variable {a:Act}{C:Ctx}{b:Bool}
theorem zkK (hT:xq P tt)       (h:Sim C S Fp [] st a w)  {t yt:Nat}   {x y:Operand} (hty:vK tt t=true) (hv:zdB v=some b) (ho:o.op=.binOp .eql t x y yt)    (e0:nilO C.n o.dst v b x y st=some (u,R,U)):vF P C o a w (ze U st):=by
 unfold nilO at e0
 obtain ⟨tx,R1,U1,R2,U2,h1,e1,rfl,rfl⟩:=bind_some e0
 obtain ⟨rfl,hx⟩:=zC h h1
 obtain ⟨ty,R3,U3,R4,U4,h3,e2,rfl,rfl⟩:=bind_some e1
 obtain ⟨rfl,hy⟩:=zC h h3
 simp only [ze,List.nil_append] at e2 ⊢
 split at e2
 ·rename_i hc
  obtain ⟨rfl,rfl⟩:=hc
  have ex:=(zy.1 hx).1
  have ey:=(zy.1 hy).1
  obtain ⟨el,hel⟩:=Yw hT hty
  obtain ⟨Fp',hs⟩:=xL h e2 (x:=.d (.atom (.bool b))) (zy.2 ⟨rfl,rfl⟩)
  refine zn ?_ hs
  have heq:(Op.equal t v (.slice none 0 0)).run P w=.ok b w:=by
   unfold Op.equal Op.maxDepth
   show (Op.equalIn (9999 + 1) t v _).run P w=_
   generalize 9999=q
   unfold Op.equalIn
   simp only [Sem.run_bind,run_underlying hel,Result.andThen_ok]
   cases v with
   | slice p l c=>cases p <;> (simp only [zdB,Option.some.injEq] at hv; subst hv; simp)
   | _=>cases hv
  cases v with
  | slice p l c=>simp [execOp,ho,ex,ey,eqGuard,Go.binOp,heq]
  | _=>cases hv
 ·exact (z7 e2).elim
def zkZ (d t:Nat) (o:Oper):Option (Operand × Operand):=match o.op with | .binOp .eql t' x y _=>if o.dst=some d then (if t'=t then some (x,y) else none) else none | _=>none
def znJ (hT:xq P tt) (d t:Nat)   (hty:vK tt t=true) (hv:zdB v=some b):XH P :=
 xAt P (zkZ d t) (fun n o q=>nilO n o.dst v b q.1 q.2) (fun n o q=>zqn n o.dst v b q.1 q.2)
  (by
   intro C S Fp st a w o q hp h u R U e
   unfold zkZ at hp
   split at hp
   ·rename_i ho
    replace hp:=z2J hp
    split at hp
    ·rename_i ht; subst ht; cases hp; exact zkK hT h hty hv ho e
    ·cases hp
   ·cases hp)
  (fun n o q=>Loc.nilO _ _ _ _ _ _) (fun n o q=>zoi _ _ _ _ _ _)
instance (k:IntKind) (x y:Int):SzA (eI k x) (eI k y):=⟨rfl⟩
open Classical in
def asO (n:Fr) (dst:Option Nat) (v:Value) (x:Operand):SM Unit:=do
 let tx ← opnd x
 if tx=.d (.atom v) then wrT n dst (.d (.atom v)) else zp
def asH (n:Fr) (dst:Option Nat) (v:Value) (x:Operand):HM Unit:=y3 (opnd x) >>= fun tx=>Zg (tx=.d (.atom v)) (y3 (wrT n dst (.d (.atom v))))
open Classical in
theorem zrh (n:Fr) (dst:Option Nat) (v:Value) (x:Operand):Snd (asO n dst v x) (asH n dst v x):=zh (zk _) fun _=>wd (zk _)
open Classical in
theorem Loc.asO (n:Fr) (dst:Option Nat) (v:Value) (x:Operand):Loc (asO n dst v x):=by
 unfold Go.Own.asO
 exact Loc.bind (Loc.opnd _) fun _=>Loc.ite (Loc.wrT _ _ _) Loc.fail
theorem zoS (h:Sim C S Fp [] st a w)  {v:Value} {x:Operand} (ho:o.op=.assign x)    (e0:asO C.n o.dst v x st=some (u,R,U)):vF P C o a w (ze U st):=by
 unfold asO at e0
 obtain ⟨tx,R1,U1,R2,U2,h1,e1,rfl,rfl⟩:=bind_some e0
 obtain ⟨rfl,hx⟩:=zC h h1
 simp only [ze,List.nil_append] at e1 ⊢
 split at e1
 ·rename_i hc
  subst hc
  have hx':xe S (.atom v) (a.eval x):=hx
  obtain ⟨Fp',hs⟩:=xL h e1 (x:=.d (.atom v)) (v:=a.eval x) hx'
  exact zn (by simp [execOp,ho]) hs
 ·exact (z7 e1).elim
def zqz (d:Nat) (o:Oper):Option Operand:=match o.op with | .assign x=>if o.dst=some d then some x else none | _=>none
def xAs (P:Program) (d:Nat) (v:Value):XH P :=
 xAt P (zqz d) (fun n o x=>asO n o.dst v x) (fun n o x=>asH n o.dst v x)
  (by
   intro C S Fp st a w o x hp h u R U e
   unfold zqz at hp
   split at hp
   ·rename_i ho; cases z2J hp; exact zoS h ho e
   ·cases hp)
  (fun n o x=>Loc.asO _ _ _ _) (fun n o x=>zrh _ _ _ _)
theorem zd2 {p:Option Addr} {n c:Nat}:V9 sz (.slice p n c) 0=.slice p n c:=by
 have:(0:Int).toNat=0:=rfl
 simp only [V9,this,Nat.sub_zero,Nat.zero_mul]
 congr 1
 split
 ·rfl
 ·cases p <;> simp [Addr.add]
def mwK (n:Fr) (dst:Option Nat) (r sz:Nat) (v:Value) (e:Ent):SM Unit :=
 match e.t with
 | .own (.osl sz' _ _)=>if sz'=sz then wrT n dst (.d (.atom (V9 sz v 0))) else zp
 | _=>zp
open Classical in
def mwO (n:Fr) (dst:Option Nat) (r sz:Nat) (v:Value):SM Unit:=if z0u n.pin r=some v then (rdE r >>= fun e=>mwK n dst r sz v e) else zp
def mwH (n:Fr) (dst:Option Nat) (r sz:Nat) (v:Value):HM Unit:=Zg (z0u n.pin r=some v) (y3 (rdE r >>= fun e=>mwK n dst r sz v e))
open Classical in
theorem Loc.mwO (n:Fr) (dst:Option Nat) (r sz:Nat) (v:Value):Loc (mwO n dst r sz v):=by
 unfold Go.Own.mwO
 refine Loc.ite (Loc.bind (Loc.rdE _) fun e=>?_) Loc.fail
 unfold Go.Own.mwK
 split
 ·exact Loc.ite (Loc.wrT _ _ _) Loc.fail
 ·exact Loc.fail
theorem zoy (h:Sim C S Fp [] st a w)  {r sz:Nat} {v:Value} (ho:o.op=.move (.tmp r))    (e0:mwO C.n o.dst r sz v st=some (u,R,U)):vF P C o a w (ze U st):=by
 unfold mwO at e0
 split at e0
 ·rename_i hp
  have hs:=h.pin r v (qa hp)
  obtain ⟨en,R7,U7,R8,U8,h7,e4,rfl,rfl⟩:=bind_some e0
  obtain ⟨rfl,rfl,rfl⟩:=y7 h7
  simp only [ze,List.nil_append] at e4 ⊢
  unfold mwK at e4
  cases ht:(st r).t with
  | own y=>
   cases y with
   | osl sz' tg es=>
    simp only [ht] at e4
    split at e4
    ·rename_i hz
     subst hz
     obtain ⟨p,c,ev,_,_,_⟩:=z6A h ht
     have hvv:v=.slice p es.length c:=by rw [← hs,ev]
     obtain ⟨Fp',hs'⟩:=xL h e4 (x:=.d (.atom (V9 sz' v 0))) (v:=v) (by rw [hvv,zd2]; exact zy.2 ⟨rfl,rfl⟩)
     refine zn ?_ hs'
     have ex:a.eval (.tmp r)=v:=hs
     simp [execOp,ho,ex]
    ·exact (z7 e4).elim
   | _=>simp only [ht] at e4; exact (z7 e4).elim
  | _=>simp only [ht] at e4; exact (z7 e4).elim
 ·exact (z7 e0).elim
open Classical in
theorem zrb (n:Fr) (dst:Option Nat) (r sz:Nat) (v:Value):Snd (mwO n dst r sz v) (mwH n dst r sz v):=wd (zk _)
def zqs (d r:Nat) (o:Oper):Option Unit:=match o.op with | .move (.tmp r')=>if o.dst=some d then (if r'=r then some () else none) else none | _=>none
def xMw (P:Program) (d r sz:Nat) (v:Value):XH P :=
 xAt P (zqs d r) (fun n o _=>mwO n o.dst r sz v) (fun n o _=>mwH n o.dst r sz v)
  (by
   intro C S Fp st a w o q hp h u R U e
   unfold zqs at hp
   split at hp
   ·rename_i ho
    replace hp:=z2J hp
    split at hp
    ·rename_i ht; subst ht; exact zoy h ho e
    ·cases hp
   ·cases hp)
  (fun n o q=>Loc.mwO _ _ _ _ _) (fun n o q=>zrb _ _ _ _ _)
theorem zdh (h:Sim C S Fp [] st a w) {r:Nat} {x:A} (hr:(st r).t=.own (.box x)):∃ b,Act.tv a r=.pointer (some ⟨b,0,none⟩):=by
 have hq:=h.ent r
 unfold xm at hq
 simp only [hr] at hq
 obtain ⟨cs,c1,c2,c3⟩:=hq
 simp only [zJ] at c1
 obtain ⟨b,ty,l,F',rfl,_⟩:=c1
 exact ⟨b,c3⟩
def ncK (n:Fr) (dst:Option Nat) (r:Nat) (e:Ent):SM Unit :=
 match e.t with
 | .own (.box _)=>wrT n dst (.als r [] e.er e.ec)
 | _=>zp
open Classical in
def ncO (n:Fr) (dst:Option Nat) (r:Nat) (v:Value) (x:Operand):SM Unit:=do
 let tx ← opnd x
 if tx=.d (.atom v) ∧ z0u n.pin r=some v then (rdE r >>= fun e=>ncK n dst r e) else zp
def ncH (n:Fr) (dst:Option Nat) (r:Nat) (v:Value) (x:Operand):HM Unit:=y3 (opnd x) >>= fun tx=>Zg (tx=.d (.atom v) ∧ z0u n.pin r=some v) (y3 (rdE r >>= fun e=>ncK n dst r e))
open Classical in
theorem zr9 (n:Fr) (dst:Option Nat) (r:Nat) (v:Value) (x:Operand):Snd (ncO n dst r v x) (ncH n dst r v x):=zh (zk _) fun _=>wd (zk _)
open Classical in
theorem Loc.ncO (n:Fr) (dst:Option Nat) (r:Nat) (v:Value) (x:Operand):Loc (ncO n dst r v x):=by
 unfold Go.Own.ncO
 refine Loc.bind (Loc.opnd _) fun _=>Loc.ite (Loc.bind (Loc.rdE _) fun e=>?_) Loc.fail
 unfold Go.Own.ncK
 split
 ·exact Loc.wrT _ _ _
 ·exact Loc.fail
theorem zow (h:Sim C S Fp [] st a w)  {r:Nat}   (ho:o.op=.nilCheck x)    (e0:ncO C.n o.dst r v x st=some (u,R,U)):vF P C o a w (ze U st):=by
 unfold ncO at e0
 obtain ⟨tx,R1,U1,R2,U2,h1,e1,rfl,rfl⟩:=bind_some e0
 obtain ⟨rfl,hx⟩:=zC h h1
 simp only [ze,List.nil_append] at e1 ⊢
 split at e1
 ·rename_i hc
  obtain ⟨rfl,hp⟩:=hc
  have hs:=h.pin r v (qa hp)
  obtain ⟨en,R7,U7,R8,U8,h7,e4,rfl,rfl⟩:=bind_some e1
  obtain ⟨rfl,rfl,rfl⟩:=y7 h7
  simp only [ze,List.nil_append] at e4 ⊢
  unfold ncK at e4
  cases ht:(st r).t with
  | own y=>
   cases y with
   | box z=>
    simp only [ht] at e4
    obtain ⟨b,ev⟩:=zdh h ht
    have hvv:v=.pointer (some ⟨b,0,none⟩):=by rw [← hs,ev]
    have hals:Zc w.heap st (Act.tv a) r [] (st r).er (st r).ec (Act.tv a r):=by
     refine ⟨Nat.le_refl _,Nat.le_refl _,?_⟩
     simp [ht]
    have hT:TOk S w.heap st (Act.tv a) (.als r [] (st r).er (st r).ec) v:=by rw [← hs]; exact hals
    obtain ⟨Fp',hs'⟩:=xL h e4 hT
    refine zn ?_ hs'
    have ex:a.eval x=v:=(zy.1 hx).1
    simp [execOp,ho,ex,hvv]
   | _=>simp only [ht] at e4; exact (z7 e4).elim
  | _=>simp only [ht] at e4; exact (z7 e4).elim
 ·exact (z7 e1).elim
def znR (d:Nat) (o:Oper):Option Operand:=match o.op with | .nilCheck x=>if o.dst=some d then some x else none | _=>none
def xNc (P:Program) (d r:Nat) (v:Value):XH P :=
 xAt P (znR d) (fun n o x=>ncO n o.dst r v x) (fun n o x=>ncH n o.dst r v x)
  (by
   intro C S Fp st a w o x hp h u R U e
   unfold znR at hp
   split at hp
   ·rename_i ho; cases z2J hp; exact zow h ho e
   ·cases hp)
  (fun n o x=>Loc.ncO _ _ _ _ _) (fun n o x=>zr9 _ _ _ _ _)
def spR (k:Nat) {α ρ:Type} (enc:α → List A) (encR:ρ → A) (F:α → Option ρ) (gives:List Bool) (inj:∀ x y,enc x=enc y → x=y):zO:={
 α:=α
 k:=k
 raw:=true
 gives:=gives
 enc:=enc
 pre:=fun x=>∃ r,F x=some r
 f:=fun x=>match F x with | some r=>encR r | none=>.dead 0
 inj:=by
  intro x y h _ _
  rw [inj x y h] }
theorem zbj {α ρ:Type} {enc:α → List A} {encR:ρ → A} {F:α → Option ρ}  {inj:∀ x y,enc x=enc y → x=y} (h:∀ x r,F x=some r → Y5 P k (enc x) (encR r)):(spR k enc encR F gives inj).Ok P:=by
 rintro x ⟨r,hr⟩
 have:=h x r hr
 simpa only [spR,hr] using this
theorem zoK {k:Nat} {α ρ:Type} {enc:α → List A} {encR:ρ → A} {F:α → Option ρ} {gives:List Bool} {inj:∀ x y,enc x=enc y → x=y} {x:α} {r:ρ} (hr:F x=some r)  (ha:as_=enc x) :
  (Kw.add (spR k enc encR F gives inj)).run k ((Kw.add (spR k enc encR F gives inj)).norm k as_)=some (encR r):=by
 have h:=Ctr.add_has Kw (spR k enc encR F gives inj)
 have h1:=h.run x ⟨r,hr⟩
 have h2:(Kw.add (spR k enc encR F gives inj)).raw k=true:=h.raw
 unfold Ctr.norm
 rw [h2,ha]
 refine Eq.trans h1 ?_
 simp only [spR,hr]
theorem ziw {α ρ:Type} {enc:α → List A} {encR:ρ → A} {F:α → Option ρ}  {inj:∀ x y,enc x=enc y → x=y}:(Kw.add (spR k enc encR F gives inj)).lend k=none ∧ (Kw.add (spR k enc encR F gives inj)).gives k=gives:=⟨(Ctr.add_has Kw _).lend,(Ctr.add_has Kw _).gives⟩
section
variable {α:Type}
def eFl (sz:Nat) (f:α → A) (x:List α × Bool):A:=.sl sz x.2 (x.1.map f)
instance (sz:Nat) (f:α → A):z2u (eFl sz f) (eFl sz f):=⟨fun _=>rfl,fun _=>rfl⟩
theorem flL (sz:Nat) (tg:Bool) (f:α → A) (l:List (List α)):(l.map fun x=>(x,tg)).map (eFl sz f)=l.map (eSl sz tg f):=by
 rw [List.map_map]; rfl
theorem flE {f:α → A} {l:List (List α × Bool)} (h:∀ x ∈ l,x.2=true):l.map (eFl sz f)=(l.map (·.1)).map (eSl sz true f):=by
 rw [List.map_map]
 exact List.map_congr_left fun x hx=>by simp [eFl,eSl,h x hx]
instance LeA.flO (s t:Nat) (tg:Bool) (b:Bool) (f:α → A) (l:List (List α)):LeA (eOs s b (eSl t tg f) l) (eOs s b (eFl t f) (l.map fun x=>(x,tg))):=by
 unfold eOs; rw [flL]; infer_instance
theorem flA {s t:Nat}  {f:α → A} {l:List (List α × Bool)} (h:∀ x ∈ l,x.2=true):LeA (eSl s b (eFl t f) l) (eSl s b (eSl t true f) (l.map (·.1))):=by
 unfold eSl; rw [flE h]; exact LeA.refl _
end
variable {F:List Nat}
theorem VP (hF:∀ k ∈ F,∀ o,S k o=none):∀ b o u,S b o=some u → zY S h F b o=some u:=by
 intro b o u hs
 unfold zY
 rw [if_neg (fun q=>by rw [hF b q o] at hs; cases hs)]
 exact hs
theorem Sim.sealX (h:Sim C S Fp (F ++ []) st a w) (hF:∀ k ∈ F,∀ o,S k o=none):Sim C (zY S w.heap F) Fp [] st a w:=by
 refine h.mem h.below (VP hF) ?_ ?_ ?_ (by simp) (by simp) (by simp)
 ·intro b o v q
  unfold zY at q
  split at q
  ·exact q
  ·exact h.still b o v q
 ·intro b o hb
  unfold zY
  rw [if_neg (fun q=>hb (h.xb b (by simpa using q)))]
  exact h.sbase b o hb
 ·intro t k hk
  refine ⟨rfl,fun o=>?_⟩
  unfold zY
  rw [if_neg (fun q=>h.xd t k (by simpa using q) hk)]
  exact (h.free t k hk).2.1 o
mutual
theorem A.live_isD:∀ {a:A},a.isD=true → a.live=true
 | .atom _,_=>rfl
 | .fn _ _,_=>rfl
 | .agg fs,h=>by simp only [A.isD] at h; simp only [A.live]; exact A.lives_areD h
 | .sl _ _ _,_=>rfl
 | .sptr _,_=>rfl
 | .dop _,_=>rfl
 | .tup _,h=>by simp [A.isD] at h
 | .osl _ _ _,h=>by simp [A.isD] at h
 | .box _,h=>by simp [A.isD] at h
 | .dead _,h=>by simp [A.isD] at h
 | .opq _,h=>by simp [A.isD] at h
theorem A.lives_areD:∀ {as_:List A},A.areD as_=true → A.lives as_=true
 | [],_=>rfl
 | a :: as_,h=>by
  simp only [A.areD,Bool.and_eq_true] at h
  simp only [A.lives,A.live_isD h.1,A.lives_areD h.2,Bool.and_self]
end
theorem A.areD_app:∀ {as_ bs:List A},A.areD as_=true → A.areD bs=true → A.areD (as_ ++ bs)=true
 | [],_,_,h=>h
 | a :: as_,bs,h1,h2=>by
  simp only [A.areD,Bool.and_eq_true] at h1
  simp only [List.cons_append,A.areD,Bool.and_eq_true]
  exact ⟨h1.1,A.areD_app h1.2 h2⟩
def zoT (tt:TT) (t sz:Nat):Bool :=
 match tt t with
 | some ⟨.slice e,_,_,_,_⟩=>match tt e with | some i=>sz == i.size && decide (i.bytes ≤ 4096) && decide (0 < i.size) && i.zero.isSome | none=>false
 | _=>false
def apO (tt:TT) (n:Fr) (dst:Option Nat) (t:Nat) (s x:Operand):SM Unit:=do
 let ts ← opnd s
 let tx ← opnd x
 match ts,tx with
 | .d (.sl sz tg es),.d (.sl sz2 _ ys)=>if zoT tt t sz=true ∧ sz2=sz ∧ tg=true ∧ es.length + ys.length ≤ lim ∧ A.areD es=true ∧ A.areD ys=true then wrT n dst (.d (.sl sz false (es ++ ys))) else zp
 | _,_=>zp
def apH (tt:TT) (n:Fr) (dst:Option Nat) (t:Nat) (s x:Operand):HM Unit:=y3 (opnd s) >>= fun ts=>y3 (opnd x) >>= fun tx=>
 match ts,tx with
 | .d (.sl sz tg es),.d (.sl sz2 _ ys)=>if zoT tt t sz=true ∧ sz2=sz ∧ tg=true then Zg (es.length + ys.length ≤ lim ∧ A.areD es=true ∧ A.areD ys=true) (eqL (es ++ ys) >>= fun zs=>y3 (wrT n dst (.d (.sl sz false zs)))) else zK
 | _,_=>zK
theorem zri (tt:TT) (n:Fr) (dst:Option Nat) (t:Nat) (s x:Operand):Snd (apO tt n dst t s x) (apH tt n dst t s x):=by
 refine zh (zk _) fun ts=>zh (zk _) fun tx=>?_
 split
 ·refine z2H (fun h1 h2=>⟨h1.1,h1.2.1,h1.2.2,h2.1,h2.2.1,h2.2.2⟩) ?_
  exact Kd (zX _ fun zs=>wrT n dst (.d (.sl _ false zs))).symm (zh (zar _) fun _=>zk _)
 ·exact zq _
theorem Loc.apO (tt:TT) (n:Fr) (dst:Option Nat) (t:Nat) (s x:Operand):Loc (apO tt n dst t s x):=by
 unfold Go.Own.apO
 refine Loc.bind (Loc.opnd _) fun _=>Loc.bind (Loc.opnd _) fun _=>?_
 split
 ·exact Loc.ite (Loc.wrT _ _ _) Loc.fail
 ·exact Loc.fail
theorem zoU (hT:xq P tt)       (h:Sim C S Fp [] st a w)  {t:Nat} {s x:Operand} (ho:o.op=.call { callee:=.builtin .append,args:=#[s,x],argTypes:=#[t,t] })    (e0:apO tt C.n o.dst t s x st=some (u,R,U)):vF P C o a w (ze U st):=by
 unfold apO at e0
 obtain ⟨ts,R1,U1,R2,U2,h1,e1,rfl,rfl⟩:=bind_some e0
 obtain ⟨rfl,hs⟩:=zC h h1
 obtain ⟨tx,R3,U3,R4,U4,h3,e2,rfl,rfl⟩:=bind_some e1
 obtain ⟨rfl,hx⟩:=zC h h3
 simp only [ze,List.nil_append] at e2 ⊢
 split at e2
 ·rename_i sz tg es sz2 tg2 ys
  split at e2
  ·rename_i hc
   obtain ⟨c1,rfl,rfl,c4,c5,c6⟩:=hc
   obtain ⟨el,i,hel,hi,hsz,c3,cz,c7⟩:∃ el i,P.underlying t=some (.slice el) ∧ tt el=some i ∧ sz2=i.size ∧ i.bytes ≤ 4096 ∧ 0 < i.size ∧ i.zero.isSome=true:=by
    unfold zoT at c1
    split at c1
    ·rename_i e _ _ _ _ ht
     split at c1
     ·rename_i i hi
      simp only [Bool.and_eq_true,beq_iff_eq,decide_eq_true_eq] at c1
      exact ⟨e,i,(hT _ _ ht).kind,hi,c1.1.1.1,c1.1.1.2,c1.1.2,c1.2⟩
     ·cases c1
    ·cases c1
   obtain ⟨f,f1,f2,f3,f4⟩:=(hT _ _ hi).info
   obtain ⟨z0,hz0⟩:=Option.isSome_iff_exists.1 c7
   obtain ⟨zv,v1,v2,v3⟩:=f4 z0 hz0
   have hzs:zv.cells.size=f.size:=by
    have:=(v3 (fun _ _=>none) #[]).len
    rw [v2,← f2] at this
    simpa using this
   have hs':xe S (.sl sz2 true es) (a.eval s):=hs
   have hx':xe S (.sl sz2 tg2 ys) (a.eval x):=hx
   obtain ⟨p,d,news,ev,r1,r2,r3⟩:=z0I (y:=.sl sz2 tg2 ys) h (.inl ⟨tg2,rfl⟩) c6 (.inl hx')
   have fin:∀ v w',(Builtin.append_ #[t,t] o.type #[a.eval s,a.eval x]).run P w=.ok v w' → (execOp a.eval o).run P w=.ok (.value v) w':=by
    intro v w' hrun
    simp [execOp,ho,resolve,invoke,builtin,hrun]
   simp only [xe] at hs'
   obtain ⟨cs,q1,q2⟩:=hs'
   simp only [Rep] at q1
   obtain ⟨pp,c,rfl,t1,t2,t3,t4⟩:=q1
   have hcl:=t1 trivial
   subst hcl
   have es1:a.eval s=.slice pp es.length es.length:=q2
   by_cases hne:ys=[]
   ·subst hne
    obtain ⟨Fp',hs2⟩:=xL h e2 (x:=.d (.sl sz2 false (es ++ []))) (v:=.slice pp es.length es.length) (by
     simp only [TOk,xe,List.append_nil]
     refine ⟨[.slice pp es.length es.length],?_,rfl⟩
     simp only [Rep]
     exact ⟨pp,_,rfl,by simp,Nat.le_refl _,t3,t4⟩)
    refine zn (fin _ _ ?_) hs2
    rw [es1,ev]
    exact Wp hel f1 pp p es.length es.length d (Nat.le_refl _) w
   ·have hpos:0 < ys.length:=List.length_pos_iff.2 hne
    rcases r3 with ⟨hy,_⟩ | ⟨ad,rfl,hnews⟩
    ·exact absurd hy hne
    subst hsz
    rw [← f2] at t3 r2 e2
    have hold:∃ olds,yd S es olds ∧ ((pp=none ∧ es=[] ∧ es.length=0) ∨ ∃ b,pp=some b ∧ ∀ j v,olds[j]?=some v → w.cell? (b.add j)=some v):=by
     rcases t4 with rfl | ⟨b,o',l,rfl,k1,k2⟩
     ·cases pp with
      | none=>exact ⟨[],by simp [yd],.inl ⟨rfl,rfl,rfl⟩⟩
      | some b=>exact ⟨[],by simp [yd],.inr ⟨b,rfl,by simp⟩⟩
     ·exact ⟨l,k1,.inr ⟨_,rfl,z3S h k2⟩⟩
    obtain ⟨olds,n1,n2⟩:=hold
    have h':Sim C S Fp ([] ++ []) st a w:=by simpa using h
    obtain ⟨v,w',hrun,F',m1,m2,cs',m3,rfl⟩:=YC (ty:=o.type) hel f1 v1 hzs h' (n1.concs w.heap) (by simp) (r1.concs w.heap) t3 r2 n2 (d:=d) hnews (by omega) c4 (by omega) hpos
    have hF:∀ k ∈ F',∀ o,S k o=none:=fun k hk=>(m3.own k hk).2.1
    have hs3:=m1.sealX hF
    have hD:A.areD (es ++ ys)=true:=A.areD_app c5 c6
    have hrep:=m3.shut (VP hF) (by simp only [A.live]; exact A.lives_areD hD) (fun k hk o=>by unfold zY; rw [if_pos hk])
    simp only [A.shut] at hrep
    rw [A.shuts_areD hD] at hrep
    obtain ⟨Fp'',hs'⟩:=xL hs3 e2 (x:=.d (.sl f.size false (es ++ ys))) (v:=zS (.osl f.size false (es ++ ys)) cs') (by
     simp only [TOk,xe]
     exact ⟨cs',hrep,rfl⟩)
    exact zn (fin _ _ (by rw [es1,ev]; exact hrun)) hs'
  ·exact (z7 e2).elim
 ·exact (z7 e2).elim
def znT (d:Nat) (o:Oper):Option (Nat × Operand × Operand):=match o.op with | .call ⟨.builtin .append,⟨[s,x]⟩,⟨[t,t']⟩⟩=>if o.dst=some d then (if t'=t then some (t,s,x) else none) else none | _=>none
def xAp (hT:xq P tt) (d:Nat):XH P :=
 xAt P (znT d) (fun n o q=>apO tt n o.dst q.1 q.2.1 q.2.2) (fun n o q=>apH tt n o.dst q.1 q.2.1 q.2.2)
  (by
   intro C S Fp st a w o q hp h u R U e
   unfold znT at hp
   split at hp
   ·rename_i ho
    replace hp:=z2J hp
    split at hp
    ·rename_i ht; subst ht; cases hp; exact zoU hT h ho e
    ·cases hp
   ·cases hp)
  (fun n o q=>Loc.apO _ _ _ _ _ _) (fun n o q=>zri _ _ _ _ _ _)
theorem apM (f:α → A) [z0v f] {l m:List α} (h:l.length + m.length ≤ 4294967296):(l.map f).length + (m.map f).length ≤ lim ∧ A.areD (l.map f)=true ∧ A.areD (m.map f)=true:=⟨by simpa [lim] using h,dM f l,dM f m⟩
variable {vals:List Value}{args caps xs:List A}{ys:List A}
theorem zfE {tt:TT}    {nt t:Nat} (is:List Nat) {args caps xs:List A} {vals:List Value} {r:A} {ys:List A} (hT:xq P tt) (hf:P.funcs[k]?=some fn) (hnm:(fn.name == "runtime.NumGoroutine")=false) (hb:fn.body=some body)
  (hn:nt=fn.ntmps) (hr:fn.results=#[.tmp t]) (ha:(args ++ caps).length ≤ fn.ntmps) (hnd:is.Nodup) (hbase:is.map (fun i=>(args ++ caps)[i]?)=vals.map (fun v=>some (.atom v))) (hl:xs.length=vals.length) (hrd:r.isD=true) (hrn:WB tt 0 r=r)
  (h:∀ E:Exit → St → Prop,(∀ ex st,(ex=.normal ∨ ex=.ret) → (∀ p ∈ is.zip ys,(st p.1).t=.own p.2) → (st t).t=.d r → E ex st) →
   AWP P ⟨nt,is.zip vals⟩ body (ofL (z9P 0 (QC (args ++ caps) is xs))) (Qf P ⟨nt,is.zip vals⟩ [] E)) (hy:is.length=ys.length):qK P (.fn k caps) args (vals.zip xs) r ys:=by
 subst hn
 refine z4c (tt:=tt) (rs:=[(t,none)]) is hT hf hnm hb hr ha hnd hbase hl ?_
 rw [z5Q]
 refine h _ ?_
 intro ex st hx hc hrt
 refine ⟨hx,?_⟩
 have h2:=z47 hy hc
 have hop:opnd (.tmp t) st=some (.d r,[t],[]):=by
  simp only [opnd,hrt,bind,SM.bind,rdE,pure,SM.pure,ze,List.append_nil]
 have hsh:shutT tt 0 (.d r) st=some (r,[],[]):=by
  have:shutT tt 0 (.d r)=pure r:=by
   cases r <;> first | (simp [A.isD] at hrd; done) | (simp only [shutT,hrn,A.shut_isD hrd]) | skip
  rw [this]; rfl
 have h1:shutArgs tt [(Operand.tmp t,0)] st=some ([r],[t],[]):=by
  simp only [shutArgs,bind,SM.bind,hop,ze,hsh,pure,SM.pure,List.append_nil,List.nil_append]
 refine ⟨[t] ++ (is ++ []),[],?_⟩
 simp only [zlc,List.map_cons,List.map_nil,bind,SM.bind,h1,ze,h2,ZM,Option.map_some,pure,SM.pure,zo7,List.append_nil,List.nil_append]
variable {y:A}
theorem zqF {live:List Nat}  {l:List (Nat × T)} (hc:canon live st=ofL l)   (hk:live.contains k=true) (hy:(ofL l k).t=.d y):(st k).t=.d y:=by
 have:=congrFun hc k
 rw [XM,if_pos (List.contains_iff_mem.1 hk)] at this
 rw [← this] at hy
 unfold zaZ at hy
 cases hx:(st k).t with
 | als r p er ec=>simp only [hx] at hy; split at hy <;> cases hy
 | ptr r p er ec=>simp only [hx] at hy; split at hy <;> cases hy
 | own a=>simp only [hx] at hy; cases hy
 | d a=>simpa only [hx] using hy
 | gone=>simp only [hx] at hy; cases hy
def KV (x:List UInt8):A:=.atom (.string ⟨x.toArray⟩)
def u8s (l:List Int):List UInt8:=l.map fun n=>UInt8.ofNat n.toNat
def QF:List A → Option (List Int)
 | []=>some []
 | .atom (.int .u8 n) :: as_=>(QF as_).map (n :: ·)
 | _=>none
theorem z5W:∀ l:List Int,QF (l.map (eI .u8))=some l
 | []=>rfl
 | n :: l=>by simp only [List.map_cons,eI,QF]; rw [show l.map (eI .u8)=l.map (eI .u8) from rfl]; simp only [z5W l,Option.map_some]
theorem z4r:∀ {as_:List A} {ns:List Int} {cs:List Value},QF as_=some ns → yd S as_ cs → cs=ns.map (Value.int .u8) ∧ as_.length=ns.length
 | [],ns,cs,h,r=>by simp only [QF,Option.some.injEq] at h; subst h; simp only [yd] at r; subst r; exact ⟨rfl,rfl⟩
 | a :: as_,ns,cs,h,r=>by
  unfold QF at h
  split at h
  ·cases ‹_=[]›
  ·rename_i n as' e
   cases e
   obtain ⟨ms,h1,rfl⟩:=Option.map_eq_some_iff.1 h
   simp only [yd] at r
   obtain ⟨c1,c2,rfl,r1,r2⟩:=r
   simp only [Rep] at r1
   obtain ⟨q1,q2⟩:=z4r h1 r2
   obtain ⟨rfl,_⟩:=r1
   subst q1
   exact ⟨rfl,by simp [q2]⟩
  ·cases h
theorem za4:∀ {as_:List A} {ns:List Int},QF as_=some ns → A.areD as_=true
 | [],_,_=>rfl
 | a :: as_,ns,h=>by
  unfold QF at h
  split at h
  ·cases ‹_=[]›
  ·rename_i n as' e
   cases e
   obtain ⟨ms,h1,rfl⟩:=Option.map_eq_some_iff.1 h
   simp only [A.areD,A.isD,za4 h1,Bool.and_self]
  ·cases h
theorem z5I:∀ (ns:List Int) (s:List UInt8),ns.foldl (fun r n=>r.push (UInt8.ofNat n.toNat)) (⟨s.toArray⟩:ByteArray)=⟨(s ++ u8s ns).toArray⟩
 | [],s=>by simp [u8s]
 | n :: ns,s=>by
  rw [List.foldl_cons]
  have:(⟨s.toArray⟩:ByteArray).push (UInt8.ofNat n.toNat)=⟨(s ++ [UInt8.ofNat n.toNat]).toArray⟩:=by simp [ByteArray.push]
  rw [this,z5I ns]
  simp [u8s]
def znU (P:Program) (s d:Nat):Prop:=∃ e,P.underlying s=some (.slice e) ∧ P.underlying e=some (.int .u8) ∧ P.underlying d=some .string
theorem zhA {s d e:Nat} (h1:P.underlying s=some (.slice e)) (h2:P.underlying e=some (.int .u8)) (h3:P.underlying d=some .string):znU P s d:=⟨e,h1,h2,h3⟩
def strO (n:Fr) (dst:Option Nat) (x:Operand):SM Unit:=do
 let tx ← opnd x
 let y ← peek tx
 match y with
 | .sl _ _ ys | .osl _ _ ys=>ofO ((QF ys).map fun ns=>KV (u8s ns)) >>= fun r=>wrT n dst (.d r)
 | _=>zp
def zqc (n:Fr) (dst:Option Nat) (x:Operand):HM Unit:=y3 (opnd x) >>= fun tx=>z5o tx >>= fun y=>
 match y with
 | .sl _ _ ys | .osl _ _ ys=>z9h ((QF ys).map fun ns=>KV (u8s ns)) >>= fun r=>y3 (wrT n dst (.d r))
 | _=>zK
theorem zo9 (n:Fr) (dst:Option Nat) (x:Operand):Snd (strO n dst x) (zqc n dst x):=by
 refine zh (zk _) fun tx=>zh (z0N _) fun y=>?_
 cases y with
 | sl sz t ys=>exact zh (z0O _) fun _=>zk _
 | osl sz t ys=>exact zh (z0O _) fun _=>zk _
 | _=>exact zq _
theorem Loc.strO (n:Fr) (dst:Option Nat) (x:Operand):Loc (strO n dst x):=by
 unfold Go.Own.strO
 refine Loc.bind (Loc.opnd _) fun _=>Loc.bind (Loc.peek _) fun _=>?_
 split
 ·exact Loc.bind (Loc.ofO _) fun _=>Loc.wrT _ _ _
 ·exact Loc.bind (Loc.ofO _) fun _=>Loc.wrT _ _ _
 ·exact Loc.fail
theorem zka {P:Program}       (h:Sim C S Fp [] st a w)  {s t:Nat} {x:Operand} (hs:znU P s t) (ho:o.op=.convert s t x)    (e0:strO C.n o.dst x st=some (u,R,U)):vF P C o a w (ze U st):=by
 unfold strO at e0
 obtain ⟨tx,R1,U1,R2,U2,h1,e1,rfl,rfl⟩:=bind_some e0
 obtain ⟨rfl,hx⟩:=zC h h1
 obtain ⟨y,R3,U3,R4,U4,h3,e2,rfl,rfl⟩:=bind_some e1
 obtain ⟨rfl,q⟩:=Q8 h hx h3
 simp only [ze,List.nil_append] at e2 ⊢
 obtain ⟨el,k1,k2,k3⟩:=hs
 have main:∀ (sz:Nat) (ys:List A),((∃ tg,y=.sl sz tg ys) ∨ ∃ tg,y=.osl sz tg ys) → (ofO ((QF ys).map fun ns=>KV (u8s ns)) >>= fun r=>wrT C.n o.dst (.d r)) st=some (u,R4,U4) → vF P C o a w (ze U4 st):=by
  intro sz ys hy e3
  obtain ⟨r,R5,U5,R6,U6,h5,e4,rfl,rfl⟩:=bind_some e3
  obtain ⟨hm,rfl,rfl⟩:=uk h5
  simp only [ze,List.nil_append] at e4 ⊢
  obtain ⟨ns,hn,rfl⟩:=Option.map_eq_some_iff.1 hm
  obtain ⟨p,d,news,ev,r1,r2,r3⟩:=z0I h hy (za4 hn) q
  obtain ⟨rfl,hl⟩:=z4r hn r1
  obtain ⟨Fp',hs'⟩:=xL h e4 (x:=.d (KV (u8s ns))) (v:=.string ⟨(u8s ns).toArray⟩) (zy.2 ⟨rfl,rfl⟩)
  refine zn ?_ hs'
  have hrun:(convert s t (a.eval x)).run P w=.ok (.string ⟨(u8s ns).toArray⟩) w:=by
   rw [ev,run_convert_bytes_string w s t el p ys.length d k1 k2 k3]
   rcases r3 with ⟨rfl,hnil⟩ | ⟨ad,rfl,hc⟩
   ·have:ns=[]:=by simpa using hnil
    subst this
    cases p with
    | none=>rfl
    | some ad=>
     rw [run_bytesToString w ad _ d [] (by simpa using run_loadCells_list w ad [] (by simp))]
     rfl
   ·have hlc:=run_loadCells_list (P:=P) w ad _ hc
    rw [List.length_map,← hl] at hlc
    rw [run_bytesToString w ad _ d ns hlc]
    have:=z5I ns []
    simp only [List.nil_append] at this
    exact congrArg (fun z=>Result.ok (Value.string z) w) this
  simp [execOp,ho,hrun]
 cases y with
 | sl sz tg ys=>exact main sz ys (.inl ⟨tg,rfl⟩) e2
 | osl sz tg ys=>exact main sz ys (.inr ⟨tg,rfl⟩) e2
 | _=>exact (z7 e2).elim
def zkW (s t:Nat) (o:Oper):Option Operand:=match o.op with | .convert s' t' x=>if s'=s ∧ t'=t then some x else none | _=>none
def zqY (P:Program) {s t:Nat} (hs:znU P s t):XH P :=
 xAt P (zkW s t) (fun n o x=>strO n o.dst x) (fun n o x=>zqc n o.dst x)
  (by
   intro C S Fp st a w o x hp h u R U e
   unfold zkW at hp
   split at hp
   ·rename_i ho
    split at hp
    ·rename_i ht; obtain ⟨rfl,rfl⟩:=ht; cases hp; exact zka h hs ho e
    ·cases hp
   ·cases hp)
  (fun n o x=>Loc.strO _ _ _) (fun n o x=>zo9 _ _ _)
theorem stM (l:List Int):((QF (l.map (eI .u8))).map fun ns=>KV (u8s ns))=some (KV (u8s l)):=by rw [z5W]; rfl
def z6B:A → Bool
 | .atom (.string _)=>true
 | _=>false
theorem Uo {a:A} (h:z6B a=true):∃ x,a=.atom (.string x):=by
 unfold z6B at h
 split at h
 ·exact ⟨_,rfl⟩
 ·cases h
instance:zpE (K:=List UInt8) KV:=⟨fun x y=>by
 simp only [KV,z1o,z5p,Option.map_some,Option.some.injEq,zS,List.headD_cons,Value.string.injEq,ByteArray.mk.injEq,beq_iff_eq]
 constructor
 ·intro h; simpa using congrArg Array.toList h
 ·rintro rfl; rfl⟩
theorem zdj (x y:ByteArray):(x == y)=true ↔ x=y:=by
 cases x; cases y
 rw [ByteArray.mk.injEq]
 rename_i a b
 show (a == b)=true ↔ a=b
 exact beq_iff_eq
variable {z:A}
theorem zfl {t kt et:Nat}  (hu:P.underlying t=some (.map kt et)) (hk:P.underlying kt=some .string) (hz:∃ zv,(∀ w,(zeroValue et).run P w=.ok zv w) ∧ ∀ S,wT S z zv) (zd:z.isD=true):zdy P t kt et z6B z:={
 und:=hu
 zero:=hz
 zd:=zd
 key:=fun a h=>by obtain ⟨x,rfl⟩:=Uo h; exact ⟨_,rfl⟩
 check:=fun a kv e w h hv=>by
  obtain ⟨x,rfl⟩:=Uo h
  cases hv
  show (Instr.checkKey e (9999 + 1) kt _).run P w=_
  generalize 9999=q
  unfold Instr.checkKey
  simp only [Sem.run_bind,run_underlying hk,Result.andThen_ok]
  simp
 bits:=fun a kv h hv=>by
  obtain ⟨x,rfl⟩:=Uo h
  cases hv
  simp [zS,Instr.sameBits,(zdj x x).2 rfl]
 find:=fun a kv h hv ents es hes hall w=>by
  obtain ⟨x,rfl⟩:=Uo h
  cases hv
  have gen:∀ (ents:List MapEntry) (es:List (A × A)) (i:Nat),(∀ p ∈ es,z6B p.1=true) → Xc (fun p (e:MapEntry)=>z1o p.1=some e.key) es ents → Instr.findNow .string (.string x) ents i=some (z0i (.string x) ents i):=by
   intro ents
   induction ents with
   | nil=>intro es i _ _; rfl
   | cons e ents ih=>
    intro es i h1 h2
    cases es with
    | nil=>exact h2.elim
    | cons p es=>
     obtain ⟨y,hy⟩:=Uo (h1 p (by simp))
     have hk2:e.key=.string y:=by
      have:z1o p.1=some e.key:=h2.1
      rw [hy] at this
      simp only [z1o,z5p,Option.map_some,Option.some.injEq,zS,List.headD_cons] at this
      exact this.symm
     simp only [Instr.findNow,z0i,hk2,Instr.sameNow,Value.string.injEq]
     by_cases hxy:x=y
     ·subst hxy; rw [(zdj x x).2 rfl]; simp
     ·rw [if_neg (Ne.symm hxy),show (x == y)=false by cases hb:x == y with | false=>rfl | true=>exact absurd ((zdj x y).1 hb) hxy]
      exact ih es (i + 1) (fun p hp=>h1 p (by simp [hp])) h2.2
  simp only [Instr.findKey,Sem.run_bind,run_underlying hk,Result.andThen_ok,zS,List.headD_cons,gen ents es 0 hes hall,Sem.run_pure] }
section
variable {α:Type}
instance SzA.opS {β:Type} (s s':Nat) (b b':Bool) (f:α → A) (g:β → A) (l:List α) (l':List β):SzA (eOs s b f l) (eOs s' b' g l'):=⟨rfl⟩
end
theorem Sim.retag (h:Sim C S Fp [] st a w) (k:Nat) (x y:A) (hx:(st k).t=.own x) (hl:LeA x y):Sim C S Fp [] (upd st k ⟨.own y,(st k).er + 1,(st k).ec + 1⟩) a w:=by
 refine { size:=h.size,pin:=h.pin,defers:=h.defers,below:=h.below,mine:=h.mine,still:=h.still,sinc:=h.sinc,sbase:=h.sbase,ent:=?_,disj:=h.disj,base:=h.base,xn:=h.xn,xd:=h.xd,xb:=h.xb }
 intro t
 have q:=h.ent t
 by_cases ht:t=k
 ·subst ht
  rw [wP]
  unfold xm at q ⊢
  simp only [hx] at q ⊢
  obtain ⟨cs,q1,q2,q3⟩:=q
  exact ⟨cs,hl.conc _ _ _ _ q1,q2,by rw [← hl.val]; exact q3⟩
 ·rw [Xq _ _ ht]
  unfold xm at q ⊢
  have als:∀ {r p er' ec' v},Zc w.heap st (Act.tv a) r p er' ec' v → Zc w.heap (upd st k ⟨.own y,(st k).er + 1,(st k).ec + 1⟩) (Act.tv a) r p er' ec' v:=by
   intro r p er' ec' v q
   by_cases hr:r=k
   ·subst hr
    obtain ⟨q1,q2,q3⟩:=q
    unfold Zc
    rw [wP]
    refine ⟨Nat.le_succ_of_le q1,Nat.le_succ_of_le q2,?_⟩
    simp only
    intro e1
    omega
   ·unfold Zc
    rw [Xq _ _ hr]
    exact q
  have ptr:∀ {r p er' ec' v},jW w.heap st (Act.tv a) r p er' ec' v → jW w.heap (upd st k ⟨.own y,(st k).er + 1,(st k).ec + 1⟩) (Act.tv a) r p er' ec' v:=by
   intro r p er' ec' v q
   by_cases hr:r=k
   ·subst hr
    obtain ⟨q1,q2,q3⟩:=q
    unfold jW
    rw [wP]
    refine ⟨Nat.le_succ_of_le q1,Nat.le_succ_of_le q2,?_⟩
    simp only
    intro e1
    omega
   ·unfold jW
    rw [Xq _ _ hr]
    exact q
  cases hz:(st t).t with
  | gone=>simp only [hz] at q ⊢; exact q
  | d y=>simp only [hz] at q ⊢; exact q
  | own y=>simp only [hz] at q ⊢; exact q
  | als r p er' ec'=>simp only [hz] at q ⊢; exact ⟨q.1,als q.2⟩
  | ptr r p er' ec'=>simp only [hz] at q ⊢; exact ⟨q.1,ptr q.2⟩
theorem vF.retag {st1:St} (hg:vF P C o a w st1) (k:Nat) (x y:A) (hx:(st1 k).t=.own x) (hl:LeA x y):vF P C o a w (upd st1 k ⟨.own y,(st1 k).er + 1,(st1 k).ec + 1⟩) :=
 fun r m K Q hk=>hg r m K Q fun S Fp a' w' hs=>hk S Fp a' w' (hs.retag k x y hx hl)
def rtM (y:T):Option (Nat × Bool × Nat × List A):=match y with | .own (.osl z b [.osl s true l])=>some (z,b,s,l) | _=>none
theorem zf1 {y:T} {q:Nat × Bool × Nat × List A} (h:rtM y=some q):y=.own (.osl q.1 q.2.1 [.osl q.2.2.1 true q.2.2.2]):=by
 unfold rtM at h
 split at h
 ·cases h; rfl
 ·cases h
def nbO (tt:TT) (n:Fr) (dst:Option Nat) (d t len:Nat) (ps:List (Nat × Operand)):SM Unit :=
 vC tt n dst t len ps >>= fun _=>rdE d >>= fun e=>ofO (rtM e.t) >>= fun q=>wrE d ⟨.own (.osl q.1 false [.osl q.2.2.1 false q.2.2.2]),e.er + 1,e.ec + 1⟩
def nbH (tt:TT) (n:Fr) (dst:Option Nat) (d t len:Nat) (ps:List (Nat × Operand)):HM Unit :=
 WN tt n dst t len ps >>= fun _=>y3 (rdE d) >>= fun e=>y3 (ofO (rtM e.t)) >>= fun q=>y3 (wrE d ⟨.own (.osl q.1 false [.osl q.2.2.1 false q.2.2.2]),e.er + 1,e.ec + 1⟩)
theorem zra (tt:TT) (n:Fr) (dst:Option Nat) (d t len:Nat) (ps:List (Nat × Operand)):Snd (nbO tt n dst d t len ps) (nbH tt n dst d t len ps) :=
 zh (JK _ _ _ _ _ _) fun _=>zh (zk _) fun _=>zh (zk _) fun _=>zk _
theorem Loc.nbO (tt:TT) (n:Fr) (dst:Option Nat) (d t len:Nat) (ps:List (Nat × Operand)):Loc (nbO tt n dst d t len ps) :=
 Loc.bind (by have q:=Loc.stepO tt Kw n ⟨dst,.buildSlice t len ⟨ps⟩,0,default,default,none⟩; exact q) fun _=>Loc.bind (Loc.rdE _) fun _=>Loc.bind (Loc.ofO _) fun _=>Loc.wrE _ _
variable {ps:Array (Nat × Operand)}
section
variable {C:Ctx} {S:zl} {Fp:Nat → List Nat} {st:St} {a:Act} {w:World}
theorem zox (hT:xq P tt) (h:Sim C S Fp [] st a w)  {d t len:Nat}  (ho:o.op=.buildSlice t len ps)    (e0:nbO tt C.n o.dst d t len ps.toList st=some (u,R,U)):vF P C o a w (ze U st):=by
 obtain ⟨y,R1,U1,R2,U2,h1,e1,rfl,rfl⟩:=bind_some e0
 have g:=Qn hT h ho h1
 rw [zw]
 generalize ze U1 st=s1 at g e1 ⊢
 obtain ⟨e,R7,U7,R8,U8,h7,e4,rfl,rfl⟩:=bind_some e1
 obtain ⟨rfl,rfl,rfl⟩:=y7 h7
 simp only [ze,List.nil_append] at e4 ⊢
 obtain ⟨q,R9,U9,R10,U10,h9,e5,rfl,rfl⟩:=bind_some e4
 obtain ⟨hq,rfl,rfl⟩:=uk h9
 simp only [ze,List.nil_append] at e5 ⊢
 obtain ⟨rfl,rfl⟩:=xH e5
 have ht:=zf1 hq
 exact g.retag d _ _ ht (@LeA.osl _ _ _ _ (@z74.cons _ _ _ _ (LeA.osl _ _ _ _) ⟨rfl⟩ z74.nil))
end
def znS (d:Nat) (o:Oper):Option (Nat × Nat × Array (Nat × Operand)):=match o.op with | .buildSlice t len ps=>if o.dst=some d then some (t,len,ps) else none | _=>none
def xNb (hT:xq P tt) (d:Nat):XH P :=
 xAt P (znS d) (fun n o b=>nbO tt n o.dst d b.1 b.2.1 b.2.2.toList) (fun n o b=>nbH tt n o.dst d b.1 b.2.1 b.2.2.toList)
  (by
   intro C S Fp st a w o b hp h u R U e
   unfold znS at hp
   split at hp
   ·rename_i ho; cases z2J hp; exact zox hT h ho e
   ·cases hp)
  (fun n o b=>Loc.nbO _ _ _ _ _ _ _) (fun n o b=>zra _ _ _ _ _ _ _)
abbrev HO:=List H × List Ob
def hoH (l:List HO):List H:=List.rec [] (fun x _ r=>x.1 ++ r) l
def hoO (l:List HO):List Prop:=List.rec [] (fun x _ r=>x.2.map Ob.p ++ r) l
def hoB (l:List HO):List Ob:=List.rec [] (fun x _ r=>x.2 ++ r) l
theorem JX (l:List HO):hoO l=(hoB l).map Ob.p:=by
 induction l with
 | nil=>rfl
 | cons x l ih=>
  show x.2.map Ob.p ++ hoO l=(x.2 ++ hoB l).map Ob.p
  rw [List.map_append,ih]
def Hq {t b:Bool} (h:t=b):HO:=([.b b],[ob h])
abbrev qT:HO:=Hq (Eq.refl true)
abbrev qF:HO:=Hq (Eq.refl false)
def Ha {x y:A} (h:x=y):HO:=([.a y],[ob h])
def Hs {x:Option A}  (h:x=some y):HO:=([.a y],[ob h])
def Hl {x y:List A} (h:x=y):HO:=([.l y],[ob h])
variable {p:Prop}
def Hm {x y:List A} (h:p ∧ x=y):HO:=([.l y],[ob h])
def Hx (a:H)  (h:p):HO:=([a],[ob h])
def Hn (h:p):HO:=([],[ob h])
def Hh (a:H):HO:=([a],[])
variable {i:Int}
def Hi (f:α → A) {l:List α}  {u:α} (h:idx l i=some u):HO:=([.a (f u)],[ob (i0 h),ob (iM f h)])
def Hc {c:Ctr}  {α ρ:Type} {enc:α → List A} {encR:ρ → A} {F:α → Option ρ}  {inj:∀ x y,enc x=enc y → x=y} (h:c.Has (spF k enc encR F gives inj)) {x:α} {r:ρ} (hr:F x=some r)  (ha:as_.map A.loose=enc x):HO :=
 ([.g gives,.a (encR r)],[ob (z1L h),ob (z1M h hr ha)])
def Hg {c:Ctr}   (h:c.lend k=none ∧ c.gives k=gives):HO:=([.g gives],[ob h])
def z0e (l:List (Nat × T)):List Nat:=l.map (·.1)
variable {J:St → Prop}{keep:Bool}{τ:Type}
section
variable {P:Program} {tt:TT} {ctr:Ctr} {n:Fr} {Q:Exit → St → Prop}
theorem yE6 (X:XH P) (hT:xq P tt) (hC:zB P ctr) (hm:P.follows .mixedOrders=true) {E:St → Prop}   {rs:List (Nat × Option Nat)} (hE:∀ st x R U,zbK tt keep rs st=some (x,R,U) → LeV x r → E st) {c:Code} {fs:List Fm} {st:St} (L:List HO)
  (e:zj3 X tt ctr n keep rs 4000 c fs st (hoH L)=some (r,hoO L)):AWP P n c st (Qf P n fs (zaW E)) :=
 zgQ X hT hC hm hE 4000 (hoB L) (by rw [← JX]; exact e) (LeV.refl _)
theorem zqV (X:XH P) (hT:xq P tt) (hC:zB P ctr) (hm:P.follows .mixedOrders=true) {E:St → Prop}   {rs:List (Nat × Option Nat)} (hE:∀ st x R U,zbK tt keep rs st=some (x,R,U) → LeV x r → E st) {c:Code} {fs:List Fm} {st:St} (L:List HO) (x:A) (hle:LeV x r)
  (e:zj3 X tt ctr n keep rs 4000 c fs st (hoH L)=some (x,hoO L)):AWP P n c st (Qf P n fs (zaW E)) :=
 zgQ X hT hC hm hE 4000 (hoB L) (by rw [← JX]; exact e) hle
theorem yB6 (X:XH P) (hT:xq P tt) (hC:zB P ctr) (hm:P.follows .mixedOrders=true)   {live:List Nat} {S:τ → List (Nat × T)} {Inv:τ → Prop} (hJ:∀ st' l' z,Inv z → canon live st'=ofL l' → LeL l' (S z) → J st') (z:τ) (hz:Inv z) {c:Code} {fs:List Fm} {st:St} (L:List HO)
  (e:z5F X tt ctr n live 4000 c fs st (hoH L)=some (.back J,ofL (S z),hoO L)):AWP P n c st (Qf P n fs Q) :=
 zdm X hT hC hm live 4000 (hoH L) J (S z) (hoB L) (by rw [← JX]; exact e) fun st0 h0=>hJ st0 _ z hz h0 (LeL.refl _)
theorem zqW (X:XH P) (hT:xq P tt) (hC:zB P ctr) (hm:P.follows .mixedOrders=true)   {live:List Nat} {S:τ → List (Nat × T)} {Inv:τ → Prop} (hJ:∀ st' l' z,Inv z → canon live st'=ofL l' → LeL l' (S z) → J st') (z:τ) (hz:Inv z) {c:Code} {fs:List Fm} {st:St} (l:List (Nat × T)) (hl:LeL l (S z)) (L:List HO)
  (e:z5F X tt ctr n live 4000 c fs st (hoH L)=some (.back J,ofL l,hoO L)):AWP P n c st (Qf P n fs Q) :=
 zdm X hT hC hm live 4000 (hoH L) J l (hoB L) (by rw [← JX]; exact e) fun st0 h0=>hJ st0 _ z hz h0 hl
theorem yA6 (X:XH P) (hT:xq P tt) (hC:zB P ctr) (hm:P.follows .mixedOrders=true) {c:Code} {fs:List Fm} {st:St} (bd:Code) (path:List Nat) (Js:List (St → Prop)) (l:List (Nat × T)) (L:List HO)
  (e:z5F X tt ctr n (z0e l) 4000 c fs st (hoH L)=some (.at (sub path bd) (frs path Js bd []),ofL l,hoO L)) (h:AWP P n (sub path bd) (ofL l) (Qf P n (frs path Js bd []) Q)):AWP P n c st (Qf P n fs Q) :=
 zgj X hT hC hm (z0e l) 4000 (hoH L) _ _ l (hoB L) (by rw [← JX]; exact e) fun st0 h0=>z6Y h0 h
theorem yL6 (X:XH P) (hT:xq P tt) (hC:zB P ctr) (hm:P.follows .mixedOrders=true) {c:Code} {fs:List Fm} {st:St} (bd:Code) (path:List Nat) (Js:List (St → Prop)) {σ τ:Type} (f:σ → Option (LR σ τ)) (S:σ → List (Nat × T)) (x0:σ) {t:τ} (ht:loop f x0=some t) (l:List (Nat × T)) (hl:LeL l (S x0)) (L:List HO)
  (hk:∀ x,z0e (S x)=z0e l)
  (e:z5F X tt ctr n (z0e l) 4000 c fs st (hoH L)=some (.at (sub path bd) (frs path Js bd []),ofL l,hoO L))
  (e2:sub path bd=.loop (sub (path ++ [0]) bd))
  (round:∀ x m lr,f x=some lr → znW f m t lr → ∀ J:St → Prop,(∀ st' l' x',z0d f m x'=some t → canon (z0e l) st'=ofL l' → LeL l' (S x') → J st') → AWP P n (sub (path ++ [0]) bd) (ofL (S x)) (Qf P n (.pre J :: frs path Js bd []) Q)):AWP P n c st (Qf P n fs Q):=by
 refine zgj X hT hC hm (z0e l) 4000 (hoH L) _ _ l (hoB L) (by rw [← JX]; exact e) fun st0 h0=>?_
 refine zgh (X:=σ × Nat) e2 (z0e l) (fun x=>z0d f x.2 x.1=some t) (fun x=>x.2) (fun x=>S x.1) (x0,V1) _ h0 hl ht ?_
 rintro ⟨x,k⟩ hx J hJ
 obtain ⟨m,lr,rfl,hf,hr⟩:=zoD hx
 exact round x m lr hf hr J fun st' l' x' h1 h2 h3=>hJ st' l' (x',m) h1 (Nat.lt_succ_self m) h2 h3
theorem yJ6 (X:XH P) (hT:xq P tt) (hC:zB P ctr) (hm:P.follows .mixedOrders=true) {c:Code} {fs:List Fm} {st:St} (bd:Code) (path:List Nat) (Js:List (St → Prop)) {σ:Type} (live:List Nat) (Inv:σ → Prop) (S:σ → List (Nat × T)) (l:List (Nat × T)) (L:List HO)
  (e:z5F X tt ctr n (z0e l) 4000 c fs st (hoH L)=some (.at (sub path bd) (frs path Js bd []),ofL l,hoO L))
  (e2:sub path bd=.seq (sub (path ++ [2]) bd) (sub (path ++ [1]) bd))
  (h1:∀ z,Inv z → AWP P n (sub (path ++ [1]) bd) (ofL (S z)) (Qf P n (frs path Js bd []) Q))
  (h2:∀ J:St → Prop,(∀ st' l' z,Inv z → canon live st'=ofL l' → LeL l' (S z) → J st') → AWP P n (sub (path ++ [2]) bd) (ofL l) (Qf P n (.pre J :: frs path Js bd []) Q)):AWP P n c st (Qf P n fs Q):=by
 refine zgj X hT hC hm (z0e l) 4000 (hoH L) _ _ l (hoB L) (by rw [← JX]; exact e) fun st0 h0=>?_
 exact zgi e2 live (z0e l) _ h0 Inv S h1 h2
theorem yF6 (X:XH P) (hT:xq P tt) (hC:zB P ctr) (hm:P.follows .mixedOrders=true) {c:Code} {fs:List Fm} {st:St} (ex:Exit) (l:List (Nat × T)) (L:List HO)
  (e:z5F X tt ctr n (z0e l) 4000 c fs st (hoH L)=some (.fin ex,ofL l,hoO L)) (h:∀ st0,canon (z0e l) st0=ofL l → Q ex st0):AWP P n c st (Qf P n fs Q) :=
 zlm X hT hC hm (z0e l) 4000 (hoH L) ex l (hoB L) (by rw [← JX]; exact e) h
theorem zqX (X:XH P) (hT:xq P tt) (hC:zB P ctr) (hm:P.follows .mixedOrders=true) {c:Code} {fs:List Fm} {st:St} (c':Code) (fs':List Fm) (l:List (Nat × T)) (L:List HO)
  (e:z5F X tt ctr n (z0e l) 4000 c fs st (hoH L)=some (.at c' fs',ofL l,hoO L)) (h:∀ st0,canon (z0e l) st0=ofL l → AWP P n c' st0 (Qf P n fs' Q)):AWP P n c st (Qf P n fs Q) :=
 zgj X hT hC hm (z0e l) 4000 (hoH L) _ _ l (hoB L) (by rw [← JX]; exact e) h
theorem yO6 {r:A} {ls:List A} (hT:xq P tt) (keep:Bool) (rs:List (Nat × Option Nat)) (body:Code) (nt:Nat) (hf:P.funcs[k]?=some fn) (hb:fn.body=some body) (hn:nt=fn.ntmps) (hr:fn.results=(rs.map z7n).toArray) (hnm:(fn.name == "runtime.NumGoroutine")=false) (ha:Nat.ble ls.length nt=true)
  (h:∀ E:St → Prop,(∀ st x R U,zbK tt keep rs st=some (x,R,U) → LeV x r → E st) → AWP P ⟨nt,[]⟩ body (ofL (z9P 0 ls)) (Qf P ⟨nt,[]⟩ [] (zaW E))):Y5 P k ls r:=by
 subst hn
 exact zga (tt:=tt) (keep:=keep) (rs:=rs) (n:=⟨fn.ntmps,[]⟩) (body:=body) hT hf hnm hb rfl hr (Nat.le_of_ble_eq_true ha) h
end
section
variable {α β γ δ ε ζ η:Type} {f0:α → A} {f1:β → A} {f2:γ → A} {f3:δ → A} {f4:ε → A} {f5:ζ → A} {f6:η → A}
theorem UM [h0:vL f0] (x y:α) (h:[f0 x]=[f0 y]):x=y:=by simp only [List.cons.injEq,and_true] at h; exact h0.inj _ _ h
theorem QM [h0:vL f0] [h1:vL f1] (x y:α × β) (h:[f0 x.1,f1 x.2]=[f0 y.1,f1 y.2]):x=y:=by
 simp only [List.cons.injEq,and_true] at h
 exact Prod.ext (h0.inj _ _ h.1) (h1.inj _ _ h.2)
theorem z6I [h0:vL f0] [h1:vL f1] [h2:vL f2] (x y:α × β × γ) (h:[f0 x.1,f1 x.2.1,f2 x.2.2]=[f0 y.1,f1 y.2.1,f2 y.2.2]):x=y:=by
 simp only [List.cons.injEq,and_true] at h
 exact Prod.ext (h0.inj _ _ h.1) (Prod.ext (h1.inj _ _ h.2.1) (h2.inj _ _ h.2.2))
theorem zrC [h0:vL f0] [h1:vL f1] [h2:vL f2] [h3:vL f3] (x y:α × β × γ × δ) (h:[f0 x.1,f1 x.2.1,f2 x.2.2.1,f3 x.2.2.2]=[f0 y.1,f1 y.2.1,f2 y.2.2.1,f3 y.2.2.2]):x=y:=by
 simp only [List.cons.injEq,and_true] at h
 exact Prod.ext (h0.inj _ _ h.1) (Prod.ext (h1.inj _ _ h.2.1) (Prod.ext (h2.inj _ _ h.2.2.1) (h3.inj _ _ h.2.2.2)))
end
def XB (sz:Nat) (es:List A) (S:zl) (h:Array Obj) (v:Value) (F:List Nat):Prop :=
  (∀ x ∈ es,x.size=sz) ∧ ∃ p c,v=.slice p es.length c ∧ es.length ≤ c ∧ c ≤ maxLen ∧
    ((es=[] ∧ c=0 ∧ p=none ∧ F=[]) ∨
     ∃ b off arr ty l,p=some ⟨b,off,none⟩ ∧ h[b]?=some (.cells arr ty (0,0)) ∧ off + c * sz ≤ arr.size ∧ (arr.toList.drop off).take (es.length * sz)=l ∧ yd S es l ∧ F=[b] ∧ ∀ o,S b o=none)
def z3V (sz:Nat) (es:List A):z3m:={
 holds:=XB sz es
 one:=by rintro S h v F ⟨_,p,c,rfl,_⟩; rfl
 frame:=by
  rintro S S' h h' v F hS hF ⟨h1,p,c,rfl,h2,h3,h4⟩
  refine ⟨h1,p,c,rfl,h2,h3,h4.imp id ?_⟩
  rintro ⟨b,off,arr,ty,l,rfl,k1,k2,k3,k4,rfl,k6⟩
  obtain ⟨f1,f2⟩:=hF b (by simp)
  exact ⟨b,off,arr,ty,l,rfl,by rw [f1]; exact k1,k2,k3,k4.mono hS,rfl,f2⟩
 own:=by
  rintro S h v F ⟨h1,p,c,rfl,h2,h3,h4⟩ k hk
  rcases h4 with ⟨_,_,_,rfl⟩ | ⟨b,off,arr,ty,l,rfl,k1,k2,k3,k4,rfl,k6⟩
  ·simp at hk
  ·rw [List.mem_singleton] at hk
   subst hk
   exact ⟨(Array.getElem?_eq_some_iff.1 k1).1,k6⟩
 idx:=0 }
def eDq (sz:Nat) (f:α → A) (l:List α):A:=.opq (z3V sz (l.map f)).q
variable {cs:List Value}
theorem zc0 {t:Bool}  (hd:A.areD es=true)   (q:zJ S h (.osl sz t es) cs F):∃ v,cs=[v] ∧ XB sz es S h v F:=by
 simp only [zJ] at q
 obtain ⟨p,c,rfl,t1,t2,t3,t4,t5⟩:=q
 refine ⟨_,rfl,t4,p,c,rfl,t2,t3,?_⟩
 rcases t5 with ⟨rfl,rfl,rfl,rfl⟩ | ⟨b,arr,ty,l,F',rfl,k1,k2,k3,k4,rfl,k6⟩
 ·exact .inl ⟨rfl,rfl,rfl,rfl⟩
 ·obtain ⟨r1,rfl⟩:=k4.areD hd
  exact .inr ⟨b,0,arr,ty,l,rfl,k1,by omega,by simpa using k3,r1,rfl,k6⟩
instance LeA.que {α:Type} (sz:Nat) (t:Bool) (f:α → A) [h:z0v f] (l:List α):LeA (eOs sz t f l) (eDq sz f l):={
 rep:=fun S cs q=>by simp only [eOs,Rep] at q
 conc:=fun S hp cs F q=>by
  obtain ⟨v,rfl,q2⟩:=zc0 (z6Z f l h.isD) q
  simp only [eDq,zJ]
  exact ⟨v,rfl,q2⟩
 val:=fun cs=>rfl
 tup:=fun _ e=>by cases e }
theorem z7I:∀ {es:List A} {l:List Value},(∀ x ∈ es,x.size=sz) → yd S es l → ∀ k,yd S (es.drop k) (l.drop (k * sz))
 | es,l,h,r,0=>by simpa using r
 | [],l,h,r,k + 1=>by
  simp only [yd] at r
  subst r
  simp [yd]
 | x :: es,l,h,r,k + 1=>by
  simp only [yd] at r
  obtain ⟨c1,c2,rfl,r1,r2⟩:=r
  have hx:c1.length=sz:=by rw [r1.len]; exact h x (by simp)
  have e:(k + 1) * sz=c1.length + k * sz:=by rw [hx,Nat.add_mul]; omega
  rw [e,List.drop_append,List.drop_succ_cons,List.drop_eq_nil_of_le (show c1.length ≤ c1.length + k * sz by omega),List.nil_append,Nat.add_sub_cancel_left]
  exact z7I (fun y hy=>h y (by simp [hy])) r2 k
theorem znO [Decidable p] {m:SM Unit}  {q:Unit × List Nat × List (Nat × Ent)} (h:(if p then m else zp) st=some q):p ∧ m st=some q:=by
 by_cases hp:p
 ·rw [if_pos hp] at h; exact ⟨hp,h⟩
 ·rw [if_neg hp] at h; exact (z7 h).elim
section
variable {C:Ctx} {S:zl} {Fp:Nat → List Nat} {X:List Nat} {st:St} {a:Act} {w:World}
open Classical in
def znM (tt:TT) (n:Fr) (dst:Option Nat) (t sz:Nat) (es:List A) (z vl:A):SM Unit :=
 match vl with
 | .atom (.int _ j)=>if z=.opq (z3V sz es).q then (if xo tt t=some sz then (if 0 ≤ j ∧ j.toNat ≤ es.length then wrT n dst (.own (.opq (z3V sz (es.drop j.toNat)).q)) else zp) else zp) else zp
 | _=>zp
def qslO (tt:TT) (n:Fr) (dst:Option Nat) (t sz:Nat) (es:List A) (x lo:Operand):SM Unit:=do
 let y ← opnd x
 let z ← take y
 let tl ← opnd lo
 let vl ← val tl
 znM tt n dst t sz es z vl
def zqh (tt:TT) (n:Fr) (dst:Option Nat) (t sz:Nat) (es es':List A) (x lo:Operand):HM Unit:=y3 (opnd x) >>= fun y=>z8E y >>= fun z=>y3 (opnd lo) >>= fun tl=>z0t tl >>= fun vl=>
 match vl with
 | .atom (.int _ j)=>Zg (z=.opq (z3V sz es).q) (if xo tt t=some sz then Zg (0 ≤ j ∧ j.toNat ≤ es.length) (Zg (es.drop j.toNat=es') (y3 (wrT n dst (.own (.opq (z3V sz es').q))))) else zK)
 | _=>zK
open Classical in
theorem zob (tt:TT) (n:Fr) (dst:Option Nat) (t sz:Nat) (es es':List A) (x lo:Operand):Snd (qslO tt n dst t sz es x lo) (zqh tt n dst t sz es es' x lo):=by
 refine zh (zk _) fun y=>zh (z5B _) fun z=>zh (zk _) fun tl=>zh (Zy _) fun vl=>?_
 unfold znM
 cases vl with
 | atom u=>
  cases u with
  | int k j=>exact wd (vU (wd (z1C fun e=>by rw [e]; exact zk _)) (zq _))
  | _=>exact zq _
 | _=>exact zq _
open Classical in
theorem Loc.qslO (tt:TT) (n:Fr) (dst:Option Nat) (t sz:Nat) (es:List A) (x lo:Operand):Loc (qslO tt n dst t sz es x lo):=by
 unfold Go.Own.qslO
 refine Loc.bind (Loc.opnd _) fun _=>Loc.bind (Loc.take _) fun z=>Loc.bind (Loc.opnd _) fun _=>Loc.bind (Loc.val _) fun vl=>?_
 unfold Go.Own.znM
 split
 ·exact Loc.ite (Loc.ite (Loc.ite (Loc.wrT _ _ _) Loc.fail) Loc.fail) Loc.fail
 ·exact Loc.fail
theorem zgA (q:(xe S (.opq (z3V sz es).q) v ∧ F=[]) ∨ ∃ cs,zJ S w.heap (.opq (z3V sz es).q) cs F ∧ F.Nodup ∧ v=zS (.opq (z3V sz es).q) cs):XB sz es S w.heap v F ∧ F.Nodup:=by
 rcases q with ⟨q,_⟩ | ⟨cs,q1,q2,q3⟩
 ·simp only [xe,wT,Rep,false_and,exists_false] at q
 ·simp only [zJ] at q1
  obtain ⟨u,rfl,q1⟩:=q1
  exact ⟨by rw [q3]; exact q1,q2⟩
theorem z9X (q:XB sz es S h v F):zJ S h (.opq (z3V sz es).q) [v] F:=by
 simp only [zJ]; exact ⟨v,rfl,q⟩
theorem zkv {P:Program}  (hT:xq P tt) (h:Sim C S Fp [] st a w)  {t sz:Nat}  {x lo:Operand} (ho:o.op=.slice t x (some lo) none none)    (e0:qslO tt C.n o.dst t sz es x lo st=some (u,R,U)):vF P C o a w (ze U st):=by
 unfold qslO at e0
 obtain ⟨y,R1,U1,R2,U2,h1,e1,rfl,rfl⟩:=bind_some e0
 obtain ⟨rfl,hx⟩:=zC h h1
 simp only [ze,List.nil_append] at e1 ⊢
 obtain ⟨z,R3,U3,R4,U4,h3,e2,rfl,rfl⟩:=bind_some e1
 obtain ⟨Fp',F,g1,g2⟩:=z1y h hx h3
 rw [zw]
 obtain ⟨tl,R5,U5,R6,U6,h5,e3,rfl,rfl⟩:=bind_some e2
 obtain ⟨rfl,hl⟩:=zC g1 h5
 obtain ⟨vl,R7,U7,R8,U8,h7,e4,rfl,rfl⟩:=bind_some e3
 obtain ⟨rfl,ql⟩:=vM g1 hl h7
 simp only [ze,List.nil_append] at e4 ⊢
 unfold znM at e4
 split at e4
 ·rename_i k j
  split at e4
  ·rename_i hz
   subst hz
   split at e4
   ·rename_i hel
    split at e4
    ·rename_i hj
     obtain ⟨j0,j1⟩:=hj
     obtain ⟨el,he,hsz⟩:=wB hT hel w
     obtain ⟨el',_⟩:=zy.1 ql
     obtain ⟨⟨t4,p,c,ev,t2,t3,t5⟩,hn⟩:=zgA g2
     have hrun:=Yp (P:=P) (w:=w) he hsz (p:=p) (len:=es.length) (c:=c) (m:=c) (lo:=some (.int k j)) (hi:=none) (mx:=none) (.inr ⟨k,j,rfl,j0,rfl⟩) (.inl ⟨rfl,rfl⟩) (.inl ⟨rfl,rfl⟩) j1 t2 (Nat.le_refl c) (by simp)
     have hq:XB sz (es.drop j.toNat) S w.heap (.slice (if c=j.toNat then p else p.map (·.add (j.toNat * sz))) (es.length - j.toNat) (c - j.toNat)) F:=by
      refine ⟨fun y hy=>t4 y (List.mem_of_mem_drop hy),_,_,by rw [List.length_drop],by rw [List.length_drop]; omega,by omega,?_⟩
      rcases t5 with ⟨rfl,rfl,rfl,rfl⟩ | ⟨b,off,arr,ty,l,rfl,k1,k2,k3,k4,rfl,k6⟩
      ·exact .inl ⟨by simp,by simp,by simp,rfl⟩
      ·have hr:=z7I t4 k4 j.toNat
       have hm:(es.length - j.toNat) * sz + j.toNat * sz=es.length * sz:=by rw [← Nat.add_mul]; congr 1; omega
       have hcj:(c - j.toNat) * sz + j.toNat * sz=c * sz:=by rw [← Nat.add_mul]; congr 1; omega
       by_cases hcc:c=j.toNat
       ·have:es.length=j.toNat:=by omega
        refine .inr ⟨b,off,arr,ty,[],by simp [hcc],k1,by rw [hcc]; simp; omega,by simp [List.length_drop,this],?_,rfl,k6⟩
        rw [List.drop_eq_nil_of_le (by omega)]; simp [yd]
       ·refine .inr ⟨b,off + j.toNat * sz,arr,ty,l.drop (j.toNat * sz),by simp [hcc,Addr.add_lit],k1,by omega,?_,hr,rfl,k6⟩
        rw [List.length_drop,← k3,List.drop_take,List.drop_drop]
        congr 1
        omega
     obtain ⟨Fp'',hs⟩:=Vn g1 e4 (z9X hq) hn
     refine zn ?_ hs
     simp [execOp,ho,ev,el',hrun,zS]
    ·exact (z7 e4).elim
   ·exact (z7 e4).elim
  ·exact (z7 e4).elim
 ·exact (z7 e4).elim
open Classical in
def znN (n:Fr) (dst:Option Nat) (sz:Nat) (es:List A) (x:Operand):SM Unit:=do
 let tx ← opnd x
 let y ← peek tx
 if y=.opq (z3V sz es).q then wrT n dst (.d (.atom (.int .i64 (es.length:Nat)))) else zp
def zqi (n:Fr) (dst:Option Nat) (sz:Nat) (es:List A) (x:Operand):HM Unit:=y3 (opnd x) >>= fun tx=>z5o tx >>= fun y=>Zg (y=.opq (z3V sz es).q) (eqA (.atom (.int .i64 (es.length:Nat))) >>= fun r=>y3 (wrT n dst (.d r)))
open Classical in
theorem zoc (n:Fr) (dst:Option Nat) (sz:Nat) (es:List A) (x:Operand):Snd (znN n dst sz es x) (zqi n dst sz es x) :=
 zh (zk _) fun _=>zh (z0N _) fun _=>wd (Kd (zX _ fun r=>wrT n dst (.d r)).symm (zh (z5k _) fun _=>zk _))
theorem zkw (hT:xq P tt) (h:Sim C S Fp [] st a w)  {t sz:Nat}  {x:Operand} (hty:vK tt t=true) (ho:o.op=.call ⟨.builtin .len,⟨[x]⟩,⟨[t]⟩⟩)    (e:znN C.n o.dst sz es x st=some (u,R,U)):vF P C o a w (ze U st):=by
 unfold znN at e
 obtain ⟨tx,R1,U1,R2,U2,h1,e1,rfl,rfl⟩:=bind_some e
 obtain ⟨rfl,hx⟩:=zC h h1
 obtain ⟨y,R3,U3,R4,U4,h3,e2,rfl,rfl⟩:=bind_some e1
 obtain ⟨rfl,qx⟩:=Q8 h hx h3
 simp only [ze,List.nil_append] at e2 ⊢
 split at e2
 ·rename_i hc
  subst hc
  obtain ⟨F,g⟩:=z6D qx
  obtain ⟨_,p,c,ev,_⟩:=g
  obtain ⟨el,hel⟩:=Yw hT hty
  obtain ⟨Fp',hs⟩:=xL h e2 (x:=.d _) (zy.2 ⟨rfl,rfl⟩)
  refine zn ?_ hs
  simp [execOp,ho,resolve,invoke,builtin,Builtin.len_,ev,run_underlying hel,goInt]
 ·exact (z7 e2).elim
def zau (sz:Nat) (v:Value) (j:Int):Value :=
 match v with
 | .slice (some p) _ _=>.pointer (some (p.add (j.toNat * sz)))
 | _=>.pointer none
theorem zfa:(zau sz v j).oneCell'=true:=by
 unfold zau; split <;> rfl
theorem zbM (h:Sim C S Fp [] st a w) {r sz:Nat}  (hr:(st r).t=.own (.opq (z3V sz es).q)):∃ F,XB sz es S w.heap (Act.tv a r) F:=by
 have hq:=h.ent r
 unfold xm at hq
 simp only [hr] at hq
 obtain ⟨cs,c1,c2,c3⟩:=hq
 simp only [zJ] at c1
 obtain ⟨v,rfl,c1⟩:=c1
 exact ⟨_,by rw [c3]; exact c1⟩
open Classical in
def qixO (tt:TT) (n:Fr) (dst:Option Nat) (t sz r:Nat) (v:Value) (es:List A) (x i:Operand):SM Unit:=do
 let tx ← opnd x
 let ti ← opnd i
 let vi ← val ti
 let e ← rdE r
 match vi with
 | .atom (.int _ j)=>if tx=.als r [] e.er e.ec ∧ z0u n.pin r=some v ∧ e.t=.own (.opq (z3V sz es).q) ∧ xo tt t=some sz ∧ 0 ≤ j ∧ j.toNat < es.length then wrT n dst (.d (.atom (zau sz v j))) else zp
 | _=>zp
def zqk (tt:TT) (n:Fr) (dst:Option Nat) (t sz r:Nat) (v:Value) (es:List A) (x i:Operand):HM Unit:=y3 (opnd x) >>= fun tx=>y3 (opnd i) >>= fun ti=>z0t ti >>= fun vi=>y3 (rdE r) >>= fun e=>
 match vi with
 | .atom (.int _ j)=>Zg (tx=.als r [] e.er e.ec ∧ z0u n.pin r=some v ∧ e.t=.own (.opq (z3V sz es).q) ∧ xo tt t=some sz ∧ 0 ≤ j ∧ j.toNat < es.length) (y3 (wrT n dst (.d (.atom (zau sz v j)))))
 | _=>zK
open Classical in
theorem zoe (tt:TT) (n:Fr) (dst:Option Nat) (t sz r:Nat) (v:Value) (es:List A) (x i:Operand):Snd (qixO tt n dst t sz r v es x i) (zqk tt n dst t sz r v es x i):=by
 refine zh (zk _) fun tx=>zh (zk _) fun ti=>zh (Zy _) fun vi=>zh (zk _) fun e=>?_
 cases vi with
 | atom u=>
  cases u with
  | int k j=>exact wd (zk _)
  | _=>exact zq _
 | _=>exact zq _
open Classical in
theorem Loc.qixO (tt:TT) (n:Fr) (dst:Option Nat) (t sz r:Nat) (v:Value) (es:List A) (x i:Operand):Loc (qixO tt n dst t sz r v es x i):=by
 unfold Go.Own.qixO
 refine Loc.bind (Loc.opnd _) fun _=>Loc.bind (Loc.opnd _) fun _=>Loc.bind (Loc.val _) fun vi=>Loc.bind (Loc.rdE _) fun _=>?_
 split
 ·exact Loc.ite (Loc.wrT _ _ _) Loc.fail
 ·exact Loc.fail
open Classical in
theorem zky {P:Program}  (hT:xq P tt) (h:Sim C S Fp [] st a w) {o:Oper} {t sz r:Nat} {v:Value}  {x i:Operand} (ho:o.op=.indexAddr t x i)    (e0:qixO tt C.n o.dst t sz r v es x i st=some (u,R,U)):vF P C o a w (ze U st):=by
 unfold qixO at e0
 obtain ⟨tx,R1,U1,R2,U2,h1,e1,rfl,rfl⟩:=bind_some e0
 obtain ⟨rfl,hx⟩:=zC h h1
 obtain ⟨ti,R3,U3,R4,U4,h3,e2,rfl,rfl⟩:=bind_some e1
 obtain ⟨rfl,hi⟩:=zC h h3
 obtain ⟨vi,R5,U5,R6,U6,h5,e3,rfl,rfl⟩:=bind_some e2
 obtain ⟨rfl,qi⟩:=vM h hi h5
 obtain ⟨en,R7,U7,R8,U8,h7,e4,rfl,rfl⟩:=bind_some e3
 obtain ⟨rfl,rfl,rfl⟩:=y7 h7
 simp only [ze,List.nil_append] at e4 ⊢
 split at e4
 ·rename_i k j
  have hq:=znO e4
  clear e4
  obtain ⟨hc,e4⟩:=hq
  ·obtain ⟨rfl,c2,c3,c4,c5,c6⟩:=hc
   have hs:=h.pin r v (qa c2)
   obtain ⟨F,t4,p,c,ev,t2,t3,t5⟩:=zbM h c3
   have hxv:a.eval x=.slice p es.length c:=by rw [← ev]; exact zbW hx c3 rfl
   obtain ⟨e',he,hsz⟩:=wB hT c4 w
   obtain ⟨ei,_⟩:=zy.1 qi
   rcases t5 with ⟨rfl,_⟩ | ⟨b,off,arr,ty,l,rfl,k1,k2,k3,k4,rfl,k6⟩
   ·simp at c6
   ·have hrun:=Q4 (P:=P) (b:=b) (o:=off) (n:=es.length) (c:=c) (k:=k) he hsz c5 c6
    obtain ⟨Fp',hs'⟩:=xL h e4 (x:=.d (.atom (zau sz v j))) (v:=zau sz v j) (zy.2 ⟨rfl,zfa⟩)
    refine zn ?_ hs'
    have hvv:v=.slice (some ⟨b,off,none⟩) es.length c:=by rw [← hs,ev]
    rw [hvv]
    simp [execOp,ho,ei,hxv,hrun,zau,Addr.add_lit]
 ·exact (z7 e4).elim
open Classical in
def qldO (tt:TT) (n:Fr) (dst:Option Nat) (t sz r:Nat) (v:Value) (j:Int) (es:List A) (y:A) (x:Operand):SM Unit:=do
 let tx ← opnd x
 let e ← rdE r
 if tx=.d (.atom (zau sz v j)) ∧ z0u n.pin r=some v ∧ e.t=.own (.opq (z3V sz es).q) ∧ es[j.toNat]?=some y ∧ jQ tt t y=true ∧ y.isD=true then wrT n dst (.d y) else zp
def zqj (tt:TT) (n:Fr) (dst:Option Nat) (t sz r:Nat) (v:Value) (j:Int) (es:List A) (y:A) (x:Operand):HM Unit:=y3 (opnd x) >>= fun tx=>y3 (rdE r) >>= fun e=>
 Zg (tx=.d (.atom (zau sz v j)) ∧ z0u n.pin r=some v ∧ e.t=.own (.opq (z3V sz es).q) ∧ es[j.toNat]?=some y ∧ jQ tt t y=true ∧ y.isD=true) (y3 (wrT n dst (.d y)))
open Classical in
theorem zod (tt:TT) (n:Fr) (dst:Option Nat) (t sz r:Nat) (v:Value) (j:Int) (es:List A) (y:A) (x:Operand):Snd (qldO tt n dst t sz r v j es y x) (zqj tt n dst t sz r v j es y x) :=
 zh (zk _) fun tx=>zh (zk _) fun e=>wd (zk _)
open Classical in
theorem Loc.qldO (tt:TT) (n:Fr) (dst:Option Nat) (t sz r:Nat) (v:Value) (j:Int) (es:List A) (y:A) (x:Operand):Loc (qldO tt n dst t sz r v j es y x):=by
 unfold Go.Own.qldO
 exact Loc.bind (Loc.opnd _) fun _=>Loc.bind (Loc.rdE _) fun _=>Loc.ite (Loc.wrT _ _ _) Loc.fail
open Classical in
theorem zkx (hT:xq P tt) (h:Sim C S Fp [] st a w) {o:Oper} {t sz r:Nat} {v:Value}    {x:Operand} (ho:o.op=.load t x)    (e0:qldO tt C.n o.dst t sz r v j es y x st=some (u,R,U)):vF P C o a w (ze U st):=by
 unfold qldO at e0
 obtain ⟨tx,R1,U1,R2,U2,h1,e1,rfl,rfl⟩:=bind_some e0
 obtain ⟨rfl,hx⟩:=zC h h1
 obtain ⟨en,R7,U7,R8,U8,h7,e4,rfl,rfl⟩:=bind_some e1
 obtain ⟨rfl,rfl,rfl⟩:=y7 h7
 simp only [ze,List.nil_append] at e4 ⊢
 have hq:=znO e4
 clear e4
 obtain ⟨hc,e4⟩:=hq
 ·obtain ⟨rfl,c2,c3,c4,c5,c6⟩:=hc
  have hs:=h.pin r v (qa c2)
  obtain ⟨F,t4,p,c,ev,t2,t3,t5⟩:=zbM h c3
  have hxv:a.eval x=zau sz v j:=(zy.1 hx).1
  have hlt:=(List.getElem?_eq_some_iff.1 c4).1
  rcases t5 with ⟨rfl,_⟩ | ⟨b,off,arr,ty,l,rfl,k1,k2,k3,k4,rfl,k6⟩
  ·simp at hlt
  ·have hvv:v=.slice (some ⟨b,off,none⟩) es.length c:=by rw [← hs,ev]
   obtain ⟨d1,ci,d2,hl,hd1,hr⟩:=Kf k4 c4
   have hd:d1.length=j.toNat * sz:=by
    rw [hd1,A.sizes_const (sz:=sz) (fun z hz=>t4 z (List.mem_of_mem_take hz)),List.length_take]
    congr 1
    omega
   have hsit:zdw w.heap b (off + j.toNat * sz) ci:=by
    intro i u hi
    have hi2:l[d1.length + i]?=some u:=by
     rw [hl,List.append_assoc,List.getElem?_append_right (by omega),Nat.add_sub_cancel_left,List.getElem?_append_left (List.getElem?_eq_some_iff.1 hi).1]
     exact hi
    rw [← k3,List.getElem?_take] at hi2
    split at hi2
    ·rw [List.getElem?_drop] at hi2
     simp only [y5,k1]
     rw [← hi2,Array.getElem?_toList,hd,Nat.add_assoc]
    ·cases hi2
   have hld:=Yq hT c5 (w:=w) (b:=b) (o:=off + j.toNat * sz) hr.len hsit
   obtain ⟨Fp',hs'⟩:=xL h e4 (x:=.d y) (v:=zS y ci) (wT.repV ⟨ci,hr,rfl⟩)
   refine zn ?_ hs'
   have ex:a.eval x=.pointer (some ⟨b,off + j.toNat * sz,none⟩):=by
    rw [hxv,hvv]; simp [zau,Addr.add_lit]
   simp [execOp,ho,ex,Instr.loadAt,Instr.sureAddr,hld]
theorem z5m {P:Program} {t ty e bty:TypeId} {i:TypeInfo} (ht:P.underlying t=some (.slice e)) (hi:P.info? e=some i) (w:World)
  (g off n c:Nat) (cur:Array Value) (hg:w.heap[g]?=some (.cells cur bty (0,0)))
  (a:Addr) (m d:Nat) (news:List Value) (hl:news.length=m * i.size) (hnews:∀ j u,news[j]?=some u → w.cell? (a.add j)=some u) (h1:∀ u ∈ news,u.oneCell'=true)
  (hroom:n + m ≤ c) (hfit:off + n * i.size + news.length ≤ cur.size) :
  (Builtin.append_ #[t,t] ty #[.slice (some ⟨g,off,none⟩) n c,.slice (some a) m d]).run P w=.ok (.slice (some ⟨g,off,none⟩) (n + m) c) (w.setRow g (Q9 cur (off + n * i.size) news)):=by
 have hf:=run_firstCells_some (P:=P) w i.size m a m d news hl hnews
 have hst:=run_storeCells_at P g (off + n * i.size) bty news 0 cur w hg (by simpa using hfit) h1
 simp only [Nat.add_zero] at hst
 rw [uu hfit] at hst
 simp [Builtin.append_,run_underlying ht,Go.sizeOf,typeInfo,hi,Builtin.lenOf,hroom,hf,Addr.add_lit,hst]
theorem zaR {P:Program} {t ty e:TypeId} {f:TypeInfo} {zv:Value} (ht:P.underlying t=some (.slice e)) (hi:P.info? e=some f) (hz:f.zero=some zv) (hzs:zv.cells.size=f.size)
    {F:List Nat} (h:Sim C S Fp (F ++ []) st a w) {es ys:List A} {v:Value} (hc:XB f.size es S w.heap v F) (hFn:F.Nodup)
    {p:Option Addr} {d:Nat} {news:List Value} (hr:yd S ys news) (hsz2:∀ x ∈ ys,x.size=f.size) (hsrc:(ys=[] ∧ news=[]) ∨ ∃ ad,p=some ad ∧ ∀ j u,news[j]?=some u → w.cell? (ad.add j)=some u)
    (hlim:es.length + ys.length ≤ lim) (hb:f.bytes ≤ 4096) (hD:A.areD (es ++ ys)=true) :
    ∃ v' w',(Builtin.append_ #[t,t] ty #[v,.slice p ys.length d]).run P w=.ok v' w' ∧ ∃ F',Sim C S Fp (F' ++ []) st a w' ∧ F'.Nodup ∧ XB f.size (es ++ ys) S w'.heap v' F':=by
  have hc0:=hc
  obtain ⟨t4,q,c,rfl,t2,t3,t5⟩:=hc
  have fin:∀ {F':List Nat} {v':Value} {w':World} {cs:List Value},zJ S w'.heap (.osl f.size false (es ++ ys)) cs F' → v'=zS (.osl f.size false (es ++ ys)) cs → XB f.size (es ++ ys) S w'.heap v' F':=by
    intro F' v' w' cs k1 k2
    obtain ⟨u,rfl,k3⟩:=zc0 hD k1
    rw [k2]; exact k3
  by_cases hy0:ys=[]
  · subst hy0
    simp only [yd] at hr
    subst hr
    exact ⟨_,w,Wp ht hi q p es.length c d t2 w,F,h,hFn,by simpa using hc0⟩
  · have hpos:0 < ys.length:=List.length_pos_iff.2 hy0
    rcases hsrc with ⟨hy,_⟩ | ⟨ad,rfl,hnews⟩
    · exact absurd hy hy0
    have hl2:news.length=ys.length * f.size:=by rw [hr.len,A.sizes_const hsz2]
    rcases t5 with ⟨rfl,rfl,rfl,rfl⟩ | ⟨b,off,arr,bty,l,rfl,k1,k2,k3,k4,rfl,k6⟩
    · obtain ⟨v',w',g1,F',g2,g3,cs,g4,g5⟩:=YC (ty:=ty) ht hi hz hzs h (es:=[]) (olds:=[]) (by simp [zM]) (by simp) (hr.concs w.heap) (by simp) hsz2 (.inl ⟨rfl,rfl,rfl⟩) hnews (by simpa using hpos) hlim hb hpos
      exact ⟨v',w',g1,F',g2,g3,fin g4 g5⟩
    · have hl1:l.length=es.length * f.size:=by rw [k4.len,A.sizes_const t4]
      by_cases hroom:es.length + ys.length ≤ c
      · have hm:=Nat.mul_le_mul_right f.size hroom
        rw [Nat.add_mul] at hm
        have hfit:off + es.length * f.size + news.length ≤ arr.size:=by omega
        have hrun:=z5m (P:=P) (ty:=ty) ht hi w b off es.length c arr k1 ad ys.length d news hl2 hnews (fun u hu=>hr.one u hu) hroom hfit
        let w':=w.setRow b (Q9 arr (off + es.length * f.size) news)
        have hheap:∀ k,k ≠ b → w'.heap[k]?=w.heap[k]?:=fun k hk=>setRow_other w b k _ hk
        have hheapb:w'.heap[b]?=some (.cells (Q9 arr (off + es.length * f.size) news) bty (0,0)):=setRow_heap w b arr _ bty (0,0) k1
        have hbF:∀ t',b ∉ Fp t':=fun t'=>h.xd t' b (by simp)
        have hbase:C.M b:=h.xb b (by simp)
        refine ⟨_,w',hrun,[b],?_,by simp,?_⟩
        · refine h.mem (h.below.trans ⟨rfl,rfl,rfl,Nat.le_refl _,by simp [w'],fun k hk=>hheap k (fun e=>hk (e ▸ hbase))⟩) (fun _ _ _ h=>h) ?_ h.sbase (fun t' k hk=>⟨hheap k (by rintro rfl; exact hbF t' hk),(h.free t' k hk).2.1⟩) (by simp) (by simpa using h.xd) (by simpa using h.xb)
          intro b' o' v hs
          rw [w7 (h:=w.heap) (h':=w'.heap) (hheap b' (by rintro rfl; rw [k6] at hs; cases hs))]
          exact h.still b' o' v hs
        · refine ⟨?_,_,c,by rw [List.length_append],by rw [List.length_append]; exact hroom,t3,.inr ⟨b,off,Q9 arr (off + es.length * f.size) news,bty,l ++ news,rfl,hheapb,by simp [k2],?_,k4.append hr,rfl,k6⟩⟩
          · intro x hx
            rcases List.mem_append.1 hx with h | h
            · exact t4 x h
            · exact hsz2 x h
          · apply List.ext_getElem?
            intro k
            rw [List.getElem?_take,List.getElem?_drop,Array.getElem?_toList,qX,List.length_append,Nat.add_mul]
            by_cases hk:k < es.length * f.size
            · rw [if_pos (by omega),if_neg (by omega),List.getElem?_append_left (by omega),← k3,List.getElem?_take,if_pos hk,List.getElem?_drop,Array.getElem?_toList]
              cases arr[off + k]? <;> rfl
            · by_cases hk2:k < es.length * f.size + ys.length * f.size
              · have ej:off + k - (off + es.length * f.size)=k - l.length:=by omega
                rw [if_pos hk2,if_pos (by omega),List.getElem?_append_right (by omega),ej,Array.getElem?_eq_getElem (show off + k < arr.size by omega),List.getElem?_eq_getElem (show k - l.length < news.length by omega)]
                rfl
              · rw [if_neg hk2,List.getElem?_eq_none (by rw [List.length_append]; omega)]
      · have hold:∀ j v,l[j]?=some v → w.cell? ((⟨b,off,none⟩:Addr).add j)=some v:=by
          intro j u hj
          rw [Addr.add_lit,Qm]
          simp only [y5,k1]
          rw [← k3,List.getElem?_take] at hj
          split at hj
          · rw [List.getElem?_drop] at hj
            simpa using hj
          · cases hj
        have hsub:Sim C S Fp ([] ++ []) st a w:=h.mem h.below (fun _ _ _ h=>h) h.still.cell h.sbase (fun t' k hk=>⟨rfl,(h.free t' k hk).2.1⟩) (by simp) (fun t' k hk=>by simp at hk) (fun k hk=>by simp at hk)
        obtain ⟨v',w',g1,F',g2,g3,cs,g4,g5⟩:=YC (ty:=ty) ht hi hz hzs hsub (k4.concs w.heap) (by simp) (hr.concs w.heap) t4 hsz2 (.inr ⟨⟨b,off,none⟩,rfl,hold⟩) (d:=d) (c:=c) hnews (by omega) hlim hb hpos
        exact ⟨v',w',g1,F',g2,g3,fin g4 g5⟩
def ziT (tt:TT) (t sz:Nat):Bool:=match tt t with
 | some ⟨.slice e,_,_,_,_⟩=>match tt e with
  | some i=>i.size == sz && decide (i.bytes ≤ 4096) && decide (0 < i.size) && i.zero.isSome
  | none=>false
 | _=>false
theorem areD_app {xs ys:List A} (h1:A.areD xs=true) (h2:A.areD ys=true):A.areD (xs ++ ys)=true:=by
 induction xs with
 | nil=>exact h2
 | cons x xs ih=>
  simp only [A.areD,Bool.and_eq_true,List.cons_append] at h1 ⊢
  exact ⟨h1.1,ih h1.2⟩
open Classical in
def qapO (tt:TT) (n:Fr) (dst:Option Nat) (t sz:Nat) (es:List A) (s x:Operand):SM Unit:=do
 let ts ← opnd s
 let tx ← opnd x
 let y ← peek tx
 match y with
 | .osl s' _ ys=>if s'=sz ∧ A.areD ys=true ∧ ziT tt t sz=true then (do
   let z ← take ts
   if z=.opq (z3V sz es).q ∧ es.length + ys.length ≤ lim ∧ A.areD es=true then wrT n dst (.own (.opq (z3V sz (es ++ ys)).q)) else zp) else zp
 | _=>zp
def zql (tt:TT) (n:Fr) (dst:Option Nat) (t sz:Nat) (es es':List A) (s x:Operand):HM Unit:=y3 (opnd s) >>= fun ts=>y3 (opnd x) >>= fun tx=>z5o tx >>= fun y=>
 match y with
 | .osl s' _ ys=>Zg (s'=sz ∧ A.areD ys=true ∧ ziT tt t sz=true) (z8E ts >>= fun z=>Zg (z=.opq (z3V sz es).q ∧ es.length + ys.length ≤ lim ∧ A.areD es=true) (Zg (es ++ ys=es') (y3 (wrT n dst (.own (.opq (z3V sz es').q))))))
 | _=>zK
open Classical in
theorem zof (tt:TT) (n:Fr) (dst:Option Nat) (t sz:Nat) (es es':List A) (s x:Operand):Snd (qapO tt n dst t sz es s x) (zql tt n dst t sz es es' s x):=by
 refine zh (zk _) fun ts=>zh (zk _) fun tx=>zh (z0N _) fun y=>?_
 cases y with
 | osl s' tg ys=>exact wd (zh (z5B _) fun z=>wd (z1C fun e=>by rw [e]; exact zk _))
 | _=>exact zq _
open Classical in
theorem Loc.qapO (tt:TT) (n:Fr) (dst:Option Nat) (t sz:Nat) (es:List A) (s x:Operand):Loc (qapO tt n dst t sz es s x):=by
 unfold Go.Own.qapO
 refine Loc.bind (Loc.opnd _) fun _=>Loc.bind (Loc.opnd _) fun _=>Loc.bind (Loc.peek _) fun y=>?_
 split
 ·exact Loc.ite (Loc.bind (Loc.take _) fun z=>Loc.ite (Loc.wrT _ _ _) Loc.fail) Loc.fail
 ·exact Loc.fail
open Classical in
theorem zkz (hT:xq P tt) (h:Sim C S Fp [] st a w)  {t sz:Nat}  {s x:Operand} (ho:o.op=.call ⟨.builtin .append,⟨[s,x]⟩,⟨[t,t]⟩⟩)    (e0:qapO tt C.n o.dst t sz es s x st=some (u,R,U)):vF P C o a w (ze U st):=by
 unfold qapO at e0
 obtain ⟨ts,R1,U1,R2,U2,h1,e1,rfl,rfl⟩:=bind_some e0
 obtain ⟨rfl,hs⟩:=zC h h1
 obtain ⟨tx,R3,U3,R4,U4,h3,e2,rfl,rfl⟩:=bind_some e1
 obtain ⟨rfl,hx⟩:=zC h h3
 obtain ⟨y,R5,U5,R6,U6,h5,e3,rfl,rfl⟩:=bind_some e2
 obtain ⟨rfl,q⟩:=Q8 h hx h5
 simp only [ze,List.nil_append] at e3 ⊢
 cases y with
 | osl s' tg ys=>
  have hq:=znO e3
  clear e3
  obtain ⟨⟨rfl,c2,c3⟩,e3⟩:=hq
  obtain ⟨z,R7,U7,R8,U8,h7,e4,rfl,rfl⟩:=bind_some e3
  obtain ⟨Fp',F,g1,g2⟩:=z1y h hs h7
  rw [zw]
  have hq:=znO e4
  clear e4
  obtain ⟨⟨rfl,d2,d3⟩,e4⟩:=hq
  unfold ziT at c3
  cases ht:tt t with
  | none=>simp only [ht] at c3; cases c3
  | some it=>
   obtain ⟨kd,a1,a2,a3,a4⟩:=it
   cases kd with
   | slice el=>
    simp only [ht] at c3
    have hel:P.underlying t=some (.slice el):=(hT _ _ ht).kind
    cases hi:tt el with
    | none=>simp only [hi] at c3; cases c3
    | some i=>
     simp only [hi,Bool.and_eq_true,beq_iff_eq,decide_eq_true_eq] at c3
     obtain ⟨⟨⟨rfl,k2⟩,k3⟩,k4⟩:=c3
     obtain ⟨f,f1,f2,f3,f4⟩:=(hT _ _ hi).info
     obtain ⟨z0,hz0⟩:=Option.isSome_iff_exists.1 k4
     obtain ⟨zv,v1,v2,v3⟩:=f4 z0 hz0
     have hzs:zv.cells.size=f.size:=by
      have:=(v3 (fun _ _=>none) #[]).len
      rw [v2,← f2] at this
      simpa using this
     obtain ⟨p,d,news,ev,r1,r2,r3⟩:=z0I h (.inr ⟨tg,rfl⟩) c2 q
     obtain ⟨m1,m2⟩:=zgA g2
     rw [← f2] at m1 r2 e4
     obtain ⟨v,w',hrun,F',n1,n2,n3⟩:=zaR (ty:=o.type) hel f1 v1 hzs g1 m1 m2 (p:=p) (d:=d) r1 r2 r3 d2 (by omega) (areD_app d3 c2)
     obtain ⟨Fp'',hs'⟩:=Vn n1 e4 (z9X n3) n2
     refine zn ?_ hs'
     simp [execOp,ho,resolve,invoke,builtin,ev,hrun,zS]
   | _=>simp only [ht] at c3; cases c3
 | _=>exact (z7 e3).elim
theorem drM (f:α → A) (l:List α) (k:Nat):(l.map f).drop k=(l.drop k).map f:=by rw [List.map_drop]
end
def xQs (hT:xq P tt) (d sz:Nat) (es es':List A):XH P :=
 xAt P (znP d) (fun n o b=>qslO tt n o.dst b.1 sz es b.2.1 b.2.2) (fun n o b=>zqh tt n o.dst b.1 sz es es' b.2.1 b.2.2)
  (by
   intro C S Fp st a w o b hp h u R U e
   unfold znP at hp
   split at hp
   ·rename_i ho; cases z2J hp; exact zkv hT h ho e
   ·cases hp)
  (fun n o b=>Loc.qslO _ _ _ _ _ _ _ _) (fun n o b=>zob _ _ _ _ _ _ _ _ _)
open Classical in
def xQl (hT:xq P tt) (d t sz:Nat) (es:List A) (hty:vK tt t=true):XH P :=
 xAt P (znQ d t) (fun n o x=>znN n o.dst sz es x) (fun n o x=>zqi n o.dst sz es x)
  (by
   intro C S Fp st a w o x hp h u R U e
   unfold znQ at hp
   split at hp
   ·rename_i ho
    replace hp:=z2J hp
    split at hp
    ·rename_i ht; subst ht; cases hp; exact zkw hT h hty ho e
    ·cases hp
   ·cases hp)
  (fun n o x=>Loc.bind (Loc.opnd _) fun _=>Loc.bind (Loc.peek _) fun _=>Loc.ite (Loc.wrT _ _ _) Loc.fail) (fun n o x=>zoc _ _ _ _ _)
def xQi (hT:xq P tt) (d sz r:Nat) (v:Value) (es:List A):XH P :=
 xAt P (zgK d) (fun n o b=>qixO tt n o.dst b.1 sz r v es b.2.1 b.2.2) (fun n o b=>zqk tt n o.dst b.1 sz r v es b.2.1 b.2.2)
  (by
   intro C S Fp st a w o b hp h u R U e
   unfold zgK at hp
   split at hp
   ·rename_i ho; cases z2J hp; exact zky hT h ho e
   ·cases hp)
  (fun n o b=>Loc.qixO _ _ _ _ _ _ _ _ _ _) (fun n o b=>zoe _ _ _ _ _ _ _ _ _ _)
def zqw (d:Nat) (o:Oper):Option (Nat × Operand):=match o.op with | .load t x=>if o.dst=some d then some (t,x) else none | _=>none
def xQd (hT:xq P tt) (d sz r:Nat) (v:Value) (j:Int) (es:List A) (y:A):XH P :=
 xAt P (zqw d) (fun n o b=>qldO tt n o.dst b.1 sz r v j es y b.2) (fun n o b=>zqj tt n o.dst b.1 sz r v j es y b.2)
  (by
   intro C S Fp st a w o b hp h u R U e
   unfold zqw at hp
   split at hp
   ·rename_i ho; cases z2J hp; exact zkx hT h ho e
   ·cases hp)
  (fun n o b=>Loc.qldO _ _ _ _ _ _ _ _ _ _ _) (fun n o b=>zod _ _ _ _ _ _ _ _ _ _ _)
def xQa (hT:xq P tt) (d sz:Nat) (es es':List A):XH P :=
 xAt P (znT d) (fun n o b=>qapO tt n o.dst b.1 sz es b.2.1 b.2.2) (fun n o b=>zql tt n o.dst b.1 sz es es' b.2.1 b.2.2)
  (by
   intro C S Fp st a w o b hp h u R U e
   unfold znT at hp
   split at hp
   ·rename_i ho
    replace hp:=z2J hp
    split at hp
    ·rename_i ht; subst ht; cases hp; exact zkz hT h ho e
    ·cases hp
   ·cases hp)
  (fun n o b=>Loc.qapO _ _ _ _ _ _ _ _) (fun n o b=>zof _ _ _ _ _ _ _ _ _)
def zhy (i:TI):TI:=match i.zero with
 | some (.osl sz true [])=>{ i with zero:=some (.sl sz true []) }
 | _=>i
def ttS (tt:TT) (e:Nat):TT:=fun t=>if t=e then (tt t).map zhy else tt t
theorem zey {i:TI} (h:wX P t i):wX P t (zhy i):=by
 unfold zhy
 split
 ·rename_i sz hz
  obtain ⟨f,f1,f2,f3,f4⟩:=h.info
  refine ⟨⟨f,f1,f2,f3,?_⟩,h.kind,h.eqn⟩
  intro z hz'
  cases hz'
  obtain ⟨zv,v1,v2,v3⟩:=f4 _ hz
  refine ⟨zv,v1,by simpa [A.size] using v2,fun S hp=>?_⟩
  have q:=v3 S hp
  simp only [zJ] at q ⊢
  obtain ⟨p,c,e,h1,h2,h3,h4,h5⟩:=q
  rcases h5 with ⟨_,rfl,rfl,_⟩ | ⟨b,arr,ty,l,F',_,_,_,_,_,hF,_⟩
  ·refine ⟨?_,trivial⟩
   simp only [Rep]
   exact ⟨none,0,e,by simp,by simp,by simp,.inl trivial⟩
  ·cases hF
 ·exact h
theorem zjd (hT:xq P tt) (e:Nat):xq P (ttS tt e):=by
 intro t i h
 unfold ttS at h
 split at h
 ·cases ht:tt t with
  | none=>rw [ht] at h; cases h
  | some j=>
   rw [ht] at h
   cases h
   exact zey (hT _ _ ht)
 ·exact hT _ _ h
def zqt (d:Nat) (o:Oper):Option (Nat × Operand × Operand):=match o.op with | .makeSlice t l c=>if o.dst=some d then some (t,l,c) else none | _=>none
def xMs (hT:xq P tt) (d e:Nat):XH P :=
 xAt P (zqt d) (fun n o b=>Zh (ttS tt e) n o.dst b.1 b.2.1 b.2.2) (fun n o b=>z1H (ttS tt e) n o.dst b.1 b.2.1 b.2.2)
  (by
   intro C S Fp st a w o b hp h u R U q
   unfold zqt at hp
   split at hp
   ·rename_i ho; cases z2J hp; exact z2j (zjd hT e) h ho q
   ·cases hp)
  (fun n o b=>by have q:=Loc.stepO (ttS tt e) Kw n ⟨o.dst,.makeSlice b.1 b.2.1 b.2.2,0,default,default,none⟩; exact q) (fun n o b=>z3M _ _ _ _ _ _)
def Za (pv:Value):List PanicEntry:=[{ v:=pv,recovered:=false }]
def z1m (P:Program) (k:Nat) (args:List A) (ls:List (Value × A)) (pv:Value):Prop :=
 (∃ fn,P.funcs[k]?=some fn ∧ (fn.name == "runtime.NumGoroutine")=false ∧ fn.body.isNone=false) ∧
 ∀ (S:zl) (w:World) (vs:List Value) (F:List Nat),yn S w → Xc (wT S) args vs → XZ S w.heap (ls.map (·.2)) (ls.map (·.1)) F → F.Nodup →
  Calls P k vs.toArray w fun e w'=>e=.panicked (Za pv) ∧ ∃ S':zl,Xb (fun k=>w.heap.size ≤ k ∨ k ∈ F) w w' ∧ (∀ b o u,S b o=some u → S' b o=some u) ∧ (∀ b o,b < w.heap.size → b ∉ F → S' b o=S b o) ∧ yn S' w'
def z9i (P:Program) (k:Nat) (args:List A) (ls:List (Value × A)) (died:Bool) (pv:Value) (r:A) (ys:List A):Prop :=
 (died=false → qK P (.fn k []) args ls r ys) ∧ (died=true → z1m P k args ls pv)
variable {m:Nat}
section
variable {C:Ctx} {S:zl} {Fp:Nat → List Nat} {X:List Nat} {st:St} {a:Act} {w:World}
theorem zcv {F:Fence}   {tmps:Array Value} {R:Ending → World → Prop} {u:FrameMode} (hu:u ≠ .run) (hres:∀ w,Sim C S Fp [] st a w → LeavesIn F m P fn tmps R [] u w) :
  ∀ (Ds:List Nat) (w:World),Sim C S Fp [] st a w → Ds.Nodup → (∀ D ∈ Ds,C.M D ∧ w.heap[D]?=some (.deferred (some [])) ∧ ∀ t,D ∉ Fp t) → LeavesInM F m P fn tmps R (Ds.map zid) u w
 | [],w,h,_,_=>hres w h
 | D :: Ds,w,h,hn,hd=>by
  rw [List.nodup_cons] at hn
  obtain ⟨h1,h2,h3⟩:=hd D (by simp)
  refine ⟨hu,.inl ⟨D,_,rfl,run_takeDeferred h2,zcv hu hres Ds _ (h.shutD h1 h2 (fun i=>z0W h2) h3) hn.2 ?_⟩⟩
  intro D' hD'
  obtain ⟨q1,q2,q3⟩:=hd D' (by simp [hD'])
  refine ⟨q1,?_,q3⟩
  rw [World.putObj_heap_other (by rintro rfl; exact hn.1 hD')]
  exact q2
theorem zdc {n:Fr}   {args:List A} {R:World → Ending → World → Prop} {S:zl} {w:World} {vs:List Value} {F:List Nat} {ch:List PanicEntry} (hf:P.funcs[k]?=some fn) (hb:fn.body=some body)
  (hn:n.size=fn.ntmps) (hpin:∀ i u,(i,u) ∈ n.pin → vs[i]?=some u) (ha:args.length ≤ fn.ntmps) (hS:yn S w) (hq:XZ S w.heap args vs F) (hF:F.Nodup)
  (h:AWP P n body (ini args) (fun ex _=>ex=.panic ch))
  (hQ:∀ df S' Fp' st' a' w',Sim ⟨n,df,w,S,fun k=>w.heap.size ≤ k ∨ k ∈ F⟩ S' Fp' [] st' a' w' → R w (.panicked ch) w'):Calls P k vs.toArray w (R w):=by
 refine (callsIn_wide (n:=0)).1 (callsIn_of_wp_marks hf hb trivial ?_ rfl)
 obtain ⟨Fp,hs⟩:=zcI (n:=n) hpin hS hq hF (by rw [hn]; exact ha)
 rw [hn] at hs
 refine wpIn_mono (h none 0 [] w S _ S Fp _ w ⟨by simp,by simp,by simp⟩ hs) ?_
 rintro ex a' w' ⟨df',st',S',Fp',h1,h2,rfl⟩
 show LeavesInM Fence.wide 0 P fn a'.tmps (R w) a'.defers (.panicking ch) w'
 rw [h1.defers]
 exact zcv (u:=.panicking ch) (C:=⟨n,df',w,S,fun k=>w.heap.size ≤ k ∨ k ∈ F⟩) (by simp) (fun w2 hw2=>show R w (.panicked ch) w2 from hQ _ _ _ _ _ _ hw2) df' w' h1 h2.nodup fun D hD=>⟨(h2.old D hD).elim (fun q=>by simp at q) id,h2.ent D hD,h2.off D hD⟩
end
variable {pv:Value}
theorem z95 (is:List Nat) {args xs:List A} {vals:List Value} {pv:Value} (hf:P.funcs[k]?=some fn) (hnm:(fn.name == "runtime.NumGoroutine")=false) (hb:fn.body=some body)
  (ha:args.length ≤ fn.ntmps) (hn:is.Nodup) (hbase:is.map (fun i=>args[i]?)=vals.map (fun v=>some (.atom v))) (hl:xs.length=vals.length)
  (h:AWP P ⟨fn.ntmps,is.zip vals⟩ body (ini (QC args is xs)) (fun ex _=>ex=.panic (Za pv))):z1m P k args (vals.zip xs) pv:=by
 refine ⟨⟨fn,hf,hnm,by rw [hb]; rfl⟩,?_⟩
 intro S w vs F hS havs hls hF
 rw [Qb hl.symm,z0c hl.symm] at hls
 obtain ⟨F1,p1,p2,p3⟩:=z4k havs hn hbase hls
 refine zdc (n:=⟨fn.ntmps,is.zip vals⟩) (R:=fun w e w'=>e=.panicked (Za pv) ∧ ∃ S':zl,Xb (fun k=>w.heap.size ≤ k ∨ k ∈ F) w w' ∧ (∀ b o u,S b o=some u → S' b o=some u) ∧ (∀ b o,b < w.heap.size → b ∉ F → S' b o=S b o) ∧ yn S' w')
  hf hb rfl (fun i u hi=>z8u p3 hi) (by rw [z1B]; exact ha) hS p1 (p2.nodup_iff.2 hF) h ?_
 intro df S' Fp' st' a' w' h1
 refine ⟨rfl,S',h1.below.mono (fun k hk=>hk.imp id fun q=>p2.mem_iff.1 q),fun b o u hu=>h1.sinc _ _ _ hu,?_,h1.still⟩
 intro b o hb' hbF
 exact h1.sbase b o (by rintro (hq | hq) <;> first | omega | exact hbF (p2.mem_iff.1 hq))
theorem z6E {nt:Nat} (is:List Nat) {args xs:List A} {vals:List Value} {ys:List A} {died:Bool} {pv:Value} (hT:xq P tt) (hf:P.funcs[k]?=some fn) (hnm:(fn.name == "runtime.NumGoroutine")=false) (hb:fn.body=some body)
  (hn:nt=fn.ntmps) (hr:fn.results=#[]) (ha:args.length ≤ fn.ntmps) (hnd:is.Nodup) (hbase:is.map (fun i=>args[i]?)=vals.map (fun v=>some (.atom v))) (hl:xs.length=vals.length) (hy:is.length=ys.length)
  (h:∀ E:Exit → St → Prop,(died=false → ∀ ex st,(ex=.normal ∨ ex=.ret) → (∀ p ∈ is.zip ys,(st p.1).t=.own p.2) → E ex st) → (died=true → ∀ st,E (.panic (Za pv)) st) →
   AWP P ⟨nt,is.zip vals⟩ body (ofL (z9P 0 (QC args is xs))) (Qf P ⟨nt,is.zip vals⟩ [] E)):z9i P k args (vals.zip xs) died pv (.tup []) ys:=by
 constructor
 ·intro hd
  refine z6F (nt:=nt) is hT hf hnm hb hn hr (by simpa using ha) hnd (by simpa using hbase) hl (fun E hE=>?_) hy
  have:=h E (fun _=>hE) (fun hd'=>by rw [hd] at hd'; cases hd')
  simpa using this
 ·intro hd
  subst hn
  refine z95 is hf hnm hb ha hnd hbase hl ?_
  rw [z5Q]
  exact h (fun ex _=>ex=.panic (Za pv)) (fun hd'=>by rw [hd] at hd'; cases hd') (fun _ _=>rfl)
def zoN (tt:TT) (n:Fr) (f:Operand) (as_:List (Operand × Nat)) (L:List Nat):SM (List A × List A × List (Value × A)):=do
 let fs ← refArgs tt n [(f,0)]
 let xs ← refArgs tt n as_
 let ls ← lentsA n L
 pure (fs,xs,ls)
def zle (tt:TT) (n:Fr) (f:Operand) (as_:List (Operand × Nat)) (L:List Nat):HM (List A × List A × List (Value × A)) :=
 YP tt n [(f,0)] >>= fun fs=>YP tt n as_ >>= fun xs=>y3 (lentsA n L) >>= fun ls=>pure (fs,xs,ls)
theorem zol (tt:TT) (n:Fr) (f:Operand) (as_:List (Operand × Nat)) (L:List Nat):Snd (zoN tt n f as_ L) (zle tt n f as_ L) :=
 zh (Zz _ _ _) fun fs=>zh (Zz _ _ _) fun xs=>zh (zk _) fun ls=>xZ _
def zdx (P:Program) (n:Fr) (o:Oper) (st:St) (ch:List PanicEntry):Prop :=
 ∀ (C:Ctx) (S:zl) (Fp:Nat → List Nat) (a:Act) (w:World),C.n=n → Sim C S Fp [] st a w → ∀ (rd:Option Nat) (m:Nat) (K:Act → World → Prop) (Q:Exit → Act → World → Prop),(∀ S' Fp' st' w',Sim C S' Fp' [] st' a w' → Q (.panic ch) a w') → o.wpIn (fen rd) m P a w K Q
variable {ls:List (Value × A)}{tys:Array TypeId}{xs0:List A}
theorem zld {P:Program} {tt:TT} {n:Fr}     (hd:z1m P k xs0 ls pv) {o:Oper} {f:Operand} {args:Array Operand} {tys:Array TypeId} {L:List Nat} {st:St}
  (ho:o.op=.call { callee:=.value f,args:=args,argTypes:=tys }) (hsz:args.size=tys.size) {xs:List A} {R:List Nat} {U:List (Nat × Ent)} (e:zoN tt n f (args.toList.zip tys.toList) L st=some (([.fn k []],xs,ls),R,U)) (hx:z0s xs xs0):zdx P n o st (Za pv):=by
 intro C S Fp a w hC h rd m K Q hQ
 subst hC
 unfold zoN at e
 obtain ⟨fs,R1,U1,R2,U2,e1,e2,rfl,rfl⟩:=bind_some e
 obtain ⟨S1,Fp1,g1,g2,g3⟩:=qV h e1
 obtain ⟨xs',R3,U3,R4,U4,e3,e4,rfl,rfl⟩:=bind_some e2
 obtain ⟨S2,Fp2,j1,j2,j3⟩:=qV g1 e3
 obtain ⟨ls',R5,U5,R6,U6,e5,e6,rfl,rfl⟩:=bind_some e4
 obtain ⟨Fp3,F,k1,k2,k3⟩:=z4b j1 e5
 obtain ⟨q1,rfl,rfl⟩:=zr e6
 simp only [Prod.mk.injEq] at q1
 obtain ⟨rfl,rfl,rfl⟩:=q1
 have hmapargs:(args.toList.zip tys.toList).map (fun p=>a.eval p.1)=(args.map a.eval).toList:=by
  have:(args.toList.zip tys.toList).map (fun p=>a.eval p.1)=((args.toList.zip tys.toList).map (·.1)).map a.eval:=by rw [List.map_map]; rfl
  rw [this,List.map_fst_zip (by simp [hsz])]
  simp
 rw [hmapargs] at j3
 have hF:F.Nodup:=by simpa using k1.xn
 obtain ⟨⟨fn,h2,h3,h4⟩,hcall⟩:=hd
 have h5:=hcall S2 w _ F j1.still (hx.all _ _ j3) k2 hF
 obtain ⟨cs0,hfv,hval⟩:=g3.1
 simp only [Rep] at hfv
 obtain ⟨us,r1,r2,rfl⟩:=hfv
 have hus:us=[]:=by
  have q:=JN r1 r2
  cases us <;> first | rfl | exact q.elim
 subst hus
 have h1:a.eval f=.func (.func k) #[] #[]:=hval
 have hexec:(execOp a.eval o).run P w=.ok (.enter k (args.map a.eval).toList.toArray) w:=by
  have hc:=Ke (P:=P) h2 h3 h4 (args.map a.eval) w
  simp only [execOp,ho,resolve,h1,Deferred.ofValue,Sem.run_bind,Sem.run_pure,Result.andThen_ok,invoke,Array.empty_append,Array.append_empty]
  rw [hc]
 refine ⟨fun _ _=>trivial,?_⟩
 rw [YW hexec (by simp),Oper.uponIn_enter]
 refine ⟨fun h=>(by cases h),CallsIn.mono (UB h5 rd (m - 1)) ?_⟩
 rintro e' w' ⟨rfl,S',b1,b2,b3,b4⟩
 exact hQ _ _ _ _ (k1.lentCall (Y:=[]) b1 b2 b3 b4 (by simp) (by simp))
variable {ops:Array Oper}{ctr:Ctr}
theorem z9x {rd:Option Nat} {m:Nat}    (hT:xq P tt) (hC:zB P ctr)  {Q:Exit → Act → World → Prop}  (rest:List Oper):∀ (l:List Oper) {st st':St} {S:zl} {Fp:Nat → List Nat} {a:Act} {w:World},Sim C S Fp [] st a w → runL tt ctr C.n ops l st=some st' →
  (∀ S Fp a' w',Sim C S Fp [] st' a' w' → wpListIn (fen rd) m P ops Q rest a' w') → wpListIn (fen rd) m P ops Q (l ++ rest) a w
 | [],st,st',S,Fp,a,w,h,e,hQ=>by
  simp only [runL,Option.some.injEq] at e
  subst e
  exact hQ _ _ _ _ h
 | o :: os,st,st',S,Fp,a,w,h,e,hQ=>by
  simp only [runL] at e
  cases hs:stepG tt ctr C.n ops o st with
  | none=>simp [hs] at e
  | some q=>
   obtain ⟨u,R,U⟩:=q
   simp only [hs] at e
   refine wpListIn_step fun K hK=>?_
   exact z6o hT hC h hs rd m K Q fun S' Fp' a' w' h'=>hK _ _ (z9x hT hC rest os h' e hQ)
theorem AWP.regDie (hT:xq P tt) (hC:zB P ctr) {id:Nat}  {l1 l2:List Oper}  {ch:List PanicEntry} (hops:ops.toList=l1 ++ o :: l2) (hg:o.guard=none) (h1:zdA tt ctr n ops l1 st (fun st1=>zdx P n o st1 ch)) (hQ:∀ st',Q (.panic ch) st'):AWP P n (.region id ops false) st Q:=by
 intro rd m df w0 S0 M S Fp a w hc hs
 obtain ⟨st1,h2,h3⟩:=z6r _ _ h1
 refine wpIn_region_list ?_
 rw [hops]
 refine z9x (C:=⟨n,df,w0,S0,M⟩) hT hC (o :: l2) l1 hs h2 fun S' Fp' a' w' h'=>?_
 refine wpListIn_step fun K hK=>?_
 simp only [Region.wanted,hg,if_true]
 exact h3 _ _ _ _ _ rfl h' rd m K _ fun S2 Fp2 st2 w2 h2=>hc.fin h2 (hQ st2)
def regOf:Code → Option (Array Oper)
 | .region _ ops false=>some ops
 | .seq (.region _ ops false) _=>some ops
 | _=>none
def zgO (o:Oper):Option (Operand × List (Operand × Nat)) :=
 match o.guard with
 | some _=>none
 | none=>
  match o.op with
  | .call ⟨.value f,args,tys⟩=>if args.size=tys.size then some (f,args.toList.zip tys.toList) else none
  | _=>none
def zoO (X:XH P) (tt:TT) (ctr:Ctr) (n:Fr) (c:Code) (i:Nat) (L:List Nat) (st:St) (hs:List H):Option (List A × List A × List (Value × A) × List Prop) :=
 match regOf c with
 | none=>none
 | some ops=>
  match zap X tt ctr n ops (ops.toList.take i) st hs with
  | none=>none
  | some (st1,hs1,ob,_)=>
   match ops.toList.drop i with
   | []=>none
   | o :: _=>
    match zgO o with
    | none=>none
    | some (f,as_)=>
     match zle tt n f as_ L st1 hs1 with
     | none=>none
     | some ((fs,xs,ls),_,_,_,ob')=>some (fs,xs,ls,ob ++ ob')
theorem Kg {ch:List PanicEntry}  : ∀ fs:List Fm,Q (.panic ch) st → Qf P n fs Q (.panic ch) st
 | [],h=>h
 | .seq _ :: fs,h=>Kg fs h
 | .blk _ :: fs,h=>Kg fs h
 | .pre _ :: fs,h=>Kg fs h
 | .rnd _ _ :: fs,h=>Kg fs h
theorem AWP.regOf {ch:List PanicEntry} (e:Own.regOf c=some ops) (h:∀ id (Q:Exit → St → Prop),(∀ st',Q (.panic ch) st') → AWP P n (.region id ops false) st Q) (hQ:∀ st',Q (.panic ch) st'):AWP P n c st Q:=by
 unfold Own.regOf at e
 split at e
 ·cases e; exact h _ _ hQ
 ·cases e; exact AWP.seq (h _ _ fun st'=>hQ st')
 ·cases e
theorem yD6 {n:Fr} {Q:Exit → St → Prop} (X:XH P) (hT:xq P tt) (hC:zB P ctr) {c:Code} {fs:List Fm} {st:St} (i:Nat) (L:List Nat)     (hd:z1m P k xs0 ls pv) (xs:List A) (hx:z0s xs xs0) (Lh:List HO)
  (e:zoO X tt ctr n c i L st (hoH Lh)=some ([.fn k []],xs,ls,hoO Lh)) (hQ:∀ st',Q (.panic (Za pv)) st'):AWP P n c st (Qf P n fs Q):=by
 unfold zoO at e
 split at e
 ·cases e
 rename_i ops hr
 split at e
 ·cases e
 rename_i st1 hs1 ob lg h1
 split at e
 ·cases e
 rename_i o l2 h2
 split at e
 ·cases e
 rename_i f as_ h3
 split at e
 ·cases e
 rename_i fs' xs' ls' R U hs2 ob' h4
 simp only [Option.some.injEq,Prod.mk.injEq] at e
 obtain ⟨rfl,rfl,rfl,ho⟩:=e
 have hall:z3n (hoO Lh):=by rw [JX]; exact z5M _
 rw [← ho] at hall
 obtain ⟨o1,o2⟩:=yp hall
 refine AWP.regOf hr (ch:=Za pv) (fun id Q' hQ'=>?_) (fun st'=>Kg fs (hQ st'))
 unfold zgO at h3
 split at h3
 ·cases h3
 rename_i hg
 split at h3
 ·rename_i f0 args tys hop
  split at h3
  ·rename_i hsz
   simp only [Option.some.injEq,Prod.mk.injEq] at h3
   obtain ⟨rfl,rfl⟩:=h3
   refine AWP.regDie hT (hC.withE X.ok) (l1:=ops.toList.take i) (l2:=l2) (o:=o) (by rw [← h2,List.take_append_drop]) hg (z3f _ _ _ h1 o1 ?_) hQ'
   exact zld hd hop hsz (zol tt n _ _ L _ _ _ _ _ _ _ h4 o2) hx
  ·cases h3
 ·cases h3
def nlQ (sz:Nat) (l:List A):Dpq:={
 holds:=fun S v=>Rep S (.sl sz false l) [v] ∧ (l=[] → v=.slice none 0 0)
 one:=fun h=>h.1.one _ (List.mem_singleton.2 rfl)
 mono:=fun k h=>⟨h.1.mono k,h.2⟩ }
variable {l:List A}
theorem zc8:(nlQ sz l).holds S v ↔ (Rep S (.sl sz false l) [v] ∧ (l=[] → v=.slice none 0 0)):=Iff.rfl
section
variable {α:Type}
def eNl (sz:Nat) (f:α → A) (l:List α):A:=.dop (nlQ sz (l.map f))
instance (sz:Nat) (f:α → A):z0v (eNl sz f):=⟨fun _=>rfl⟩
instance (sz:Nat) (f:α → A):z2u (eNl sz f) (eNl sz f):=⟨fun _=>rfl,fun _=>rfl⟩
instance (sz:Nat) (f:α → A):zj9 (eNl sz f) 1:=⟨fun _=>rfl⟩
theorem Q6 {q:Dpq}  : Rep S (.dop q) cs ↔ ∃ v,cs=[v] ∧ q.holds S v:=by simp only [Rep]
instance (sz:Nat) (f:α → A) (l:List α):LeA (eNl sz f l) (eSl sz false f l):={
 rep:=by
  intro S cs h
  obtain ⟨v,rfl,h1,_⟩:=Q6.1 h
  exact h1
 conc:=by
  intro S h cs F q
  have q':Rep S (.dop (nlQ sz (l.map f))) cs ∧ F=[]:=by simpa only [eNl,zJ] using q
  obtain ⟨v,rfl,h1,_⟩:=Q6.1 q'.1
  have:Rep S (.sl sz false (l.map f)) [v] ∧ F=[]:=⟨h1,q'.2⟩
  simpa only [eSl,zJ] using this
 val:=fun cs=>rfl
 tup:=fun fs h=>nomatch h }
theorem zkd {t:Bool}   (hl:l ≠ []) (h:Rep S (.sl sz t l) [v]):Rep S (.dop (nlQ sz l)) [v]:=by
 refine Q6.2 ⟨v,rfl,?_,fun e=>(hl e).elim⟩
 simp only [Rep] at h ⊢
 obtain ⟨p,c,e,h1,h2,h3⟩:=h
 exact ⟨p,c,e,(fun h=>by cases h),h2,h3⟩
theorem LeA.slNl (sz:Nat) (t:Bool) (f:α → A) {l:List α} (hl:l ≠ []):LeA (eSl sz t f l) (eNl sz f l):={
 rep:=by
  intro S cs h
  have h':Rep S (.sl sz t (l.map f)) cs:=h
  have:∃ v,cs=[v]:=by
   simp only [Rep] at h'
   obtain ⟨p,c,e,_⟩:=h'
   exact ⟨_,e⟩
  obtain ⟨v,rfl⟩:=this
  exact zkd (by simpa using hl) h'
 conc:=by
  intro S h cs F q
  have q':Rep S (.sl sz t (l.map f)) cs ∧ F=[]:=by simpa only [eSl,zJ] using q
  have:∃ v,cs=[v]:=by
   have h':=q'.1
   simp only [Rep] at h'
   obtain ⟨p,c,e,_⟩:=h'
   exact ⟨_,e⟩
  obtain ⟨v,rfl⟩:=this
  have:Rep S (.dop (nlQ sz (l.map f))) [v] ∧ F=[]:=⟨zkd (by simpa using hl) q'.1,q'.2⟩
  simpa only [eNl,zJ] using this
 val:=fun cs=>rfl
 tup:=fun fs h=>nomatch h }
theorem zi0 (S:zl) (sz:Nat):Rep S (.sl sz false []) [.slice none 0 0]:=by
 simp only [Rep]
 exact ⟨none,0,rfl,(fun h=>by cases h),Nat.le_refl _,(by simp),.inl trivial⟩
end
theorem z6w {q:Dpq}  : xe S (.dop q) v ↔ q.holds S v:=by
 constructor
 ·intro h
  simp only [xe] at h
  obtain ⟨cs,r1,r2⟩:=h
  obtain ⟨u,rfl,g⟩:=Q6.1 r1
  have e:v=u:=r2
  rw [e]
  exact g
 ·intro h
  exact wT.repV ⟨[v],Q6.2 ⟨v,rfl,h⟩,rfl⟩
open Classical in
def nlqO (n:Fr) (dst:Option Nat) (sz:Nat) (l:List A) (b:Bool) (x y:Operand):SM Unit:=do
 let tx ← opnd x
 let ty ← opnd y
 if tx=.d (.dop (nlQ sz l)) ∧ ty=.d (.atom (.slice none 0 0)) then wrT n dst (.d (.atom (.bool b))) else zp
def zqm (n:Fr) (dst:Option Nat) (sz:Nat) (l:List A) (b:Bool) (x y:Operand):HM Unit:=y3 (opnd x) >>= fun tx=>y3 (opnd y) >>= fun ty=>Zg (tx=.d (.dop (nlQ sz l)) ∧ ty=.d (.atom (.slice none 0 0))) (y3 (wrT n dst (.d (.atom (.bool b)))))
open Classical in
theorem zoh (n:Fr) (dst:Option Nat) (sz:Nat) (l:List A) (b:Bool) (x y:Operand):Snd (nlqO n dst sz l b x y) (zqm n dst sz l b x y):=zh (zk _) fun _=>zh (zk _) fun _=>wd (zk _)
open Classical in
theorem Loc.nlqO (n:Fr) (dst:Option Nat) (sz:Nat) (l:List A) (b:Bool) (x y:Operand):Loc (nlqO n dst sz l b x y):=by
 unfold Go.Own.nlqO
 exact Loc.bind (Loc.opnd _) fun _=>Loc.bind (Loc.opnd _) fun _=>Loc.ite (Loc.wrT _ _ _) Loc.fail
theorem zkJ (h:(nlQ sz l).holds S v):zdB v=some l.isEmpty:=by
 obtain ⟨h1,h2⟩:=zc8.1 h
 cases l with
 | nil=>rw [h2 rfl]; rfl
 | cons a l=>
  simp only [Rep] at h1
  obtain ⟨p,c,e,_,_,_,h3⟩:=h1
  rcases h3 with h3 | ⟨b,o,l',rfl,_⟩
  ·cases h3
  ·cases e
   rfl
theorem zkL (hT:xq P tt)  (hty:vK tt t=true)   (hv:zdB v=some b) (w:World):(Op.equal t v (.slice none 0 0)).run P w=.ok b w:=by
 obtain ⟨el,hel⟩:=Yw hT hty
 unfold Op.equal Op.maxDepth
 show (Op.equalIn (9999 + 1) t v _).run P w=_
 generalize 9999=q
 unfold Op.equalIn
 simp only [Sem.run_bind,run_underlying hel,Result.andThen_ok]
 cases v with
 | slice p l c=>cases p <;> (simp only [zdB,Option.some.injEq] at hv; subst hv; simp)
 | _=>cases hv
theorem zgE (hT:xq P tt)       (h:Sim C S Fp [] st a w) {o:Oper} {t yt sz:Nat}  {neg b:Bool} {x y:Operand} (hty:vK tt t=true) (hb:b=(neg ^^ l.isEmpty))
  (ho:o.op=.binOp (if neg then .neq else .eql) t x y yt) {u:Unit} {R:List Nat} {U:List (Nat × Ent)} (e0:nlqO C.n o.dst sz l b x y st=some (u,R,U)):vF P C o a w (ze U st):=by
 unfold nlqO at e0
 obtain ⟨tx,R1,U1,R2,U2,h1,e1,rfl,rfl⟩:=bind_some e0
 obtain ⟨rfl,hx⟩:=zC h h1
 obtain ⟨ty,R3,U3,R4,U4,h3,e2,rfl,rfl⟩:=bind_some e1
 obtain ⟨rfl,hy⟩:=zC h h3
 simp only [ze,List.nil_append] at e2 ⊢
 split at e2
 ·rename_i hc
  obtain ⟨rfl,rfl⟩:=hc
  have ey:=(zy.1 hy).1
  have hv:=zkJ (z6w.1 (show xe S (.dop (nlQ sz l)) (a.eval x) from hx))
  have heq:=zkL hT hty hv w
  obtain ⟨Fp',hs⟩:=xL h e2 (x:=.d (.atom (.bool b))) (zy.2 ⟨rfl,rfl⟩)
  refine zn ?_ hs
  subst hb
  cases hvx:a.eval x with
  | slice p n c=>
   rw [hvx] at hv heq
   cases neg with
   | false=>simp [execOp,ho,hvx,ey,eqGuard,Go.binOp,heq]
   | true=>simp [execOp,ho,hvx,ey,eqGuard,Go.binOp,heq]
  | _=>rw [hvx] at hv; cases hv
 ·exact (z7 e2).elim
def zkY (neg:Bool) (d t:Nat) (o:Oper):Option (Operand × Operand):=match o.op with | .binOp .eql t' x y _=>if neg=false ∧ o.dst=some d then (if t'=t then some (x,y) else none) else none | .binOp .neq t' x y _=>if neg=true ∧ o.dst=some d then (if t'=t then some (x,y) else none) else none | _=>none
def zjb (hT:xq P tt) (d t sz:Nat) (l:List A) (neg b:Bool) (hty:vK tt t=true) (hb:b=(neg ^^ l.isEmpty)):XH P :=
 xAt P (zkY neg d t) (fun n o q=>nlqO n o.dst sz l b q.1 q.2) (fun n o q=>zqm n o.dst sz l b q.1 q.2)
  (by
   intro C S Fp st a w o q hp h u R U e
   unfold zkY at hp
   split at hp
   ·rename_i ho
    split at hp
    ·rename_i hc
     obtain ⟨rfl,_⟩:=hc
     split at hp
     ·rename_i ht; subst ht; cases hp; exact zgE hT h hty hb (by simpa using ho) e
     ·cases hp
    ·cases hp
   ·rename_i ho
    split at hp
    ·rename_i hc
     obtain ⟨rfl,_⟩:=hc
     split at hp
     ·rename_i ht; subst ht; cases hp; exact zgE hT h hty hb (by simpa using ho) e
     ·cases hp
    ·cases hp
   ·cases hp)
  (fun n o q=>Loc.nlqO _ _ _ _ _ _ _) (fun n o q=>zoh _ _ _ _ _ _ _)
open Classical in
def reO (n:Fr) (dst:Option Nat) (y0 y1:A) (x:Operand):SM Unit:=do
 let tx ← opnd x
 if tx=.d y0 then wrT n dst (.d y1) else zp
def reH (n:Fr) (dst:Option Nat) (y0 y1:A) (x:Operand):HM Unit:=y3 (opnd x) >>= fun tx=>Zg (tx=.d y0) (y3 (wrT n dst (.d y1)))
open Classical in
theorem zr6 (n:Fr) (dst:Option Nat) (y0 y1:A) (x:Operand):Snd (reO n dst y0 y1 x) (reH n dst y0 y1 x):=zh (zk _) fun _=>wd (zk _)
open Classical in
theorem Loc.reO (n:Fr) (dst:Option Nat) (y0 y1:A) (x:Operand):Loc (reO n dst y0 y1 x):=by
 unfold Go.Own.reO
 exact Loc.bind (Loc.opnd _) fun _=>Loc.ite (Loc.wrT _ _ _) Loc.fail
def zqr (d:Nat) (o:Oper):Option Operand:=match o.op with | .assign x=>if o.dst=some d then some x else none | .move x=>if o.dst=some d then some x else none | _=>none
variable {y0 y1:A}
theorem zku (h:Sim C S Fp [] st a w)   (hl:∀ S v,xe S y0 v → xe S y1 v) {x:Operand} (ho:o.op=.assign x ∨ o.op=.move x)    (e0:reO C.n o.dst y0 y1 x st=some (u,R,U)):vF P C o a w (ze U st):=by
 unfold reO at e0
 obtain ⟨tx,R1,U1,R2,U2,h1,e1,rfl,rfl⟩:=bind_some e0
 obtain ⟨rfl,hx⟩:=zC h h1
 simp only [ze,List.nil_append] at e1 ⊢
 split at e1
 ·rename_i hc
  subst hc
  have hx':xe S y0 (a.eval x):=hx
  obtain ⟨Fp',hs⟩:=xL h e1 (x:=.d y1) (v:=a.eval x) (hl _ _ hx')
  rcases ho with ho | ho
  ·exact zn (by simp [execOp,ho]) hs
  ·exact zn (by simp [execOp,ho]) hs
 ·exact (z7 e1).elim
def xRe (P:Program) (d:Nat) (y0 y1:A) (hl:∀ S v,xe S y0 v → xe S y1 v):XH P :=
 xAt P (zqr d) (fun n o x=>reO n o.dst y0 y1 x) (fun n o x=>reH n o.dst y0 y1 x)
  (by
   intro C S Fp st a w o x hp h u R U e
   unfold zqr at hp
   split at hp
   ·rename_i ho; cases z2J hp; exact zku h hl (.inl ho) e
   ·rename_i ho; cases z2J hp; exact zku h hl (.inr ho) e
   ·cases hp)
  (fun n o x=>Loc.reO _ _ _ _ _) (fun n o x=>zr6 _ _ _ _ _)
theorem zgz (sz:Nat) (S:zl) (v:Value) (h:xe S (.atom (.slice none 0 0)) v):xe S (.dop (nlQ sz [])) v:=by
 rw [(zy.1 h).1]
 exact z6w.2 ⟨zi0 S sz,fun _=>rfl⟩
theorem Sim.retagD (h:Sim C S Fp [] st a w) (k:Nat) (x y:A) (hx:(st k).t=.d x) (hl:LeA x y):Sim C S Fp [] (upd st k ⟨.d y,(st k).er + 1,(st k).ec + 1⟩) a w:=by
 refine { size:=h.size,pin:=h.pin,defers:=h.defers,below:=h.below,mine:=h.mine,still:=h.still,sinc:=h.sinc,sbase:=h.sbase,ent:=?_,disj:=h.disj,base:=h.base,xn:=h.xn,xd:=h.xd,xb:=h.xb }
 intro t
 have q:=h.ent t
 by_cases ht:t=k
 ·subst ht
  rw [wP]
  unfold xm at q ⊢
  simp only [hx] at q ⊢
  exact ⟨hl.repV q.1,q.2⟩
 ·rw [Xq _ _ ht]
  unfold xm at q ⊢
  have als:∀ {r p er' ec' v},Zc w.heap st (Act.tv a) r p er' ec' v → Zc w.heap (upd st k ⟨.d y,(st k).er + 1,(st k).ec + 1⟩) (Act.tv a) r p er' ec' v:=by
   intro r p er' ec' v q
   by_cases hr:r=k
   ·subst hr
    obtain ⟨q1,q2,q3⟩:=q
    unfold Zc
    rw [wP]
    refine ⟨Nat.le_succ_of_le q1,Nat.le_succ_of_le q2,?_⟩
    simp only
    intro e1
    omega
   ·unfold Zc
    rw [Xq _ _ hr]
    exact q
  have ptr:∀ {r p er' ec' v},jW w.heap st (Act.tv a) r p er' ec' v → jW w.heap (upd st k ⟨.d y,(st k).er + 1,(st k).ec + 1⟩) (Act.tv a) r p er' ec' v:=by
   intro r p er' ec' v q
   by_cases hr:r=k
   ·subst hr
    obtain ⟨q1,q2,q3⟩:=q
    unfold jW
    rw [wP]
    refine ⟨Nat.le_succ_of_le q1,Nat.le_succ_of_le q2,?_⟩
    trivial
   ·unfold jW
    rw [Xq _ _ hr]
    exact q
  cases hz:(st t).t with
  | gone=>simp only [hz] at q ⊢; exact q
  | d y=>simp only [hz] at q ⊢; exact q
  | own y=>simp only [hz] at q ⊢; exact q
  | als r p er' ec'=>simp only [hz] at q ⊢; exact ⟨q.1,als q.2⟩
  | ptr r p er' ec'=>simp only [hz] at q ⊢; exact ⟨q.1,ptr q.2⟩
theorem vF.retagD {st1:St} (hg:vF P C o a w st1) (k:Nat) (x y:A) (hx:(st1 k).t=.d x) (hl:LeA x y):vF P C o a w (upd st1 k ⟨.d y,(st1 k).er + 1,(st1 k).ec + 1⟩) :=
 fun r m K Q hk=>hg r m K Q fun S Fp a' w' hs=>hk S Fp a' w' (hs.retagD k x y hx hl)
open Classical in
def lsO (tt:TT) (n:Fr) (dst:Option Nat) (d:Nat) (y0 y1:A) (t:Nat) (x:Operand):SM Unit :=
 zaD tt n dst t x >>= fun _=>rdE d >>= fun e=>if e.t=.d y0 then wrE d ⟨.d y1,e.er + 1,e.ec + 1⟩ else zp
def lsH (tt:TT) (n:Fr) (dst:Option Nat) (d:Nat) (y0 y1:A) (t:Nat) (x:Operand):HM Unit :=
 (y3 (opnd x) >>= fun y=>zcl tt n dst t y) >>= fun _=>y3 (rdE d) >>= fun e=>Zg (e.t=.d y0) (y3 (wrE d ⟨.d y1,e.er + 1,e.ec + 1⟩))
open Classical in
theorem zrd (tt:TT) (n:Fr) (dst:Option Nat) (d:Nat) (y0 y1:A) (t:Nat) (x:Operand):Snd (lsO tt n dst d y0 y1 t x) (lsH tt n dst d y0 y1 t x) :=
 zh (zh (zk _) fun y=>zbx _ _ _ _ _) fun _=>zh (zk _) fun _=>wd (zk _)
open Classical in
theorem Loc.lsO (tt:TT) (n:Fr) (dst:Option Nat) (d:Nat) (y0 y1:A) (t:Nat) (x:Operand):Loc (lsO tt n dst d y0 y1 t x):=by
 unfold Go.Own.lsO
 exact Loc.bind (by have q:=Loc.stepO tt Kw n ⟨dst,.load t x,0,default,default,none⟩; exact q) fun _=>Loc.bind (Loc.rdE _) fun _=>Loc.ite (Loc.wrE _ _) Loc.fail
theorem zoC (hT:xq P tt)       (h:Sim C S Fp [] st a w)  {d t:Nat}  (hl:LeA y0 y1)  (ho:o.op=.load t x)    (e0:lsO tt C.n o.dst d y0 y1 t x st=some (u,R,U)):vF P C o a w (ze U st):=by
 unfold lsO at e0
 obtain ⟨y,R1,U1,R2,U2,h1,e1,rfl,rfl⟩:=bind_some e0
 have g:=zck hT h ho h1
 rw [zw]
 generalize ze U1 st=s1 at g e1 ⊢
 obtain ⟨e,R7,U7,R8,U8,h7,e4,rfl,rfl⟩:=bind_some e1
 obtain ⟨rfl,rfl,rfl⟩:=y7 h7
 simp only [ze,List.nil_append] at e4 ⊢
 split at e4
 ·rename_i hc
  obtain ⟨rfl,rfl⟩:=xH e4
  exact g.retagD d y0 y1 hc hl
 ·exact (z7 e4).elim
def zqu (d:Nat) (o:Oper):Option (Nat × Operand):=match o.op with | .load t x=>if o.dst=some d then some (t,x) else none | _=>none
def xLs (hT:xq P tt) (d:Nat) (y0 y1:A) (hl:LeA y0 y1):XH P :=
 xAt P (zqu d) (fun n o b=>lsO tt n o.dst d y0 y1 b.1 b.2) (fun n o b=>lsH tt n o.dst d y0 y1 b.1 b.2)
  (by
   intro C S Fp st a w o b hp h u R U e
   unfold zqu at hp
   split at hp
   ·rename_i ho; cases z2J hp; exact zoC hT h hl ho e
   ·cases hp)
  (fun n o b=>Loc.lsO _ _ _ _ _ _ _ _) (fun n o b=>zrd _ _ _ _ _ _ _ _)
theorem nlB (neg:Bool) (f:α → A) (l:List α):(bif neg then !l.isEmpty else l.isEmpty)=(neg ^^ (l.map f).isEmpty):=by
 cases neg <;> cases l <;> rfl
section
variable {P:Program}
theorem Yf {b:Frame} {k:List Item} {cs:List Frame}  : step P (lone (b.atR a (.code (.scope c) :: k)) cs w)=.next (lone (b.atR a (.code c :: .inScope c :: k)) cs w) :=
 step_lone_go (by simp [Go.stepG,Go.stepG.exec,Frame.atR])
theorem z6k {b:Frame} {k:List Item} {cs:List Frame}  : step P (lone (b.atR a (.inScope c :: k)) cs w)=.next (lone (b.atR a k) cs w) :=
 step_lone_go (by simp [Go.stepG,Go.stepG.exec,Frame.atR])
theorem za7 {F:Fence} {n:Nat} {Q:Exit → Act → World → Prop}    (hQ:∀ l a w,¬ Q (.goto l) a w) (h:c.wpIn F n P Q a w):(Code.scope c).wpIn F n P Q a w:=by
 intro b k cs hro hb hr
 have h0:(lone (b.atR a (.code (.scope c) :: k)) cs w).fenced P F:=fenced_calm hb hr rfl
 obtain ⟨e,a₁,w₁,hq,harr⟩:=h b (.inScope c :: k) cs hro hb hr
 cases e with
 | normal=>exact ⟨.normal,a₁,w₁,hq,.head h0 Yf (StepsIn.trans harr (.one (fenced_calm hb hr rfl) z6k))⟩
 | exit id=>
  have hx:exitTo id (.inScope c :: k)=exitTo id k:=by simp [exitTo]
  exact ⟨.exit id,a₁,w₁,hq,fun k' hk=>.head h0 Yf (harr.1 k' (by rw [hx]; exact hk)),
   fun hr' hk=>let ⟨k₁,h1,h2⟩:=harr.2 hr' (by rw [hx]; exact hk); ⟨k₁,h1,.head h0 Yf h2⟩⟩
 | goto l=>exact (hQ l _ _ hq).elim
 | ret=>exact ⟨_,a₁,w₁,hq,.of_steps (.one h0 Yf) harr⟩
 | panic ch=>exact ⟨_,a₁,w₁,hq,.of_steps (.one h0 Yf) harr⟩
 | outgrown=>exact ⟨_,a₁,w₁,hq,.of_steps (.one h0 Yf) harr⟩
variable {n:Fr}
theorem AWP.scope (hQ:∀ l st,¬ Q (.goto l) st) (h:AWP P n c st Q):AWP P n (.scope c) st Q:=by
 intro rd m df w0 S0 M S Fp a w hc hs
 refine za7 ?_ (h rd m df w0 S0 M S Fp a w hc hs)
 rintro l a' w' ⟨df',st1,S1,Fp1,h1,h2,h3⟩
 exact hQ l _ h3
theorem zbN (hQ:∀ l st,¬ Q (.goto l) st):∀ (fs:List Fm) (l:Nat) (st:St),¬ Qf P n fs Q (.goto l) st
 | [],l,st,h=>hQ l st h
 | .seq _ :: fs,l,st,h=>zbN hQ fs l st h
 | .blk _ :: fs,l,st,h=>zbN hQ fs l st h
 | .pre _ :: fs,l,st,h=>zbN hQ fs l st h
 | .rnd _ _ :: fs,l,st,h=>zbN hQ fs l st h
theorem zgg {c c':Code}  (e:c=.scope c') (hQ:∀ l st,¬ Q (.goto l) st) (h:AWP P n c' st (Qf P n fs Q)):AWP P n c st (Qf P n fs Q):=by
 subst e
 exact AWP.scope (zbN hQ fs) h
theorem zct {nt t:Nat} (is:List Nat) {args caps xs:List A} {vals:List Value} {r:A} {ys:List A} (hT:xq P tt) (hf:P.funcs[k]?=some fn) (hnm:(fn.name == "runtime.NumGoroutine")=false) (hb:fn.body=some body)
  (hn:nt=fn.ntmps) (hr:fn.results=#[.tmp t]) (ha:(args ++ caps).length ≤ fn.ntmps) (hnd:is.Nodup) (hbase:is.map (fun i=>(args ++ caps)[i]?)=vals.map (fun v=>some (.atom v))) (hl:xs.length=vals.length) (hrd:r.isD=true) (hrn:WB tt 0 r=r)
  (h:∀ E:Exit → St → Prop,(∀ l st,¬ E (.goto l) st) → (∀ ex st,(ex=.normal ∨ ex=.ret) → (∀ p ∈ is.zip ys,(st p.1).t=.own p.2) → (st t).t=.d r → E ex st) →
   AWP P ⟨nt,is.zip vals⟩ body (ofL (z9P 0 (QC (args ++ caps) is xs))) (Qf P ⟨nt,is.zip vals⟩ [] E)) (hy:is.length=ys.length):qK P (.fn k caps) args (vals.zip xs) r ys :=
 zfE is hT hf hnm hb hn hr ha hnd hbase hl hrd hrn (fun E hE=>AWP.mono (h (fun ex st=>(∀ l,ex ≠ .goto l) ∧ E ex st) (fun l st q=>q.1 l rfl) fun ex st hx hp hq=>⟨fun l e=>(by rcases hx with rfl | rfl <;> cases e),hE ex st hx hp hq⟩) fun ex st q=>q.2) hy
end
def LeP (xs ys:List A):Prop:=∀ S vs,Xc (wT S) xs vs → Xc (wT S) ys vs
open Classical in
def lentI (tt:TT) (n:Fr) (dst:Option Nat) (f:Operand) (aL:List (Operand × Nat)) (x:Operand) (aR:List (Operand × Nat)) (s:Nat) (fa:A) (xl xr:List A) (z z' r:A):SM Unit:=do
 let fs ← refArgs tt n [(f,0)]
 let xs ← refArgs tt n aL
 let zs ← refArgs tt n aR
 let tx ← opnd x
 let e ← rdE s
 if fs=[fa] ∧ LeP xs xl ∧ LeP zs xr ∧ tx=.als s [.deref] e.er e.ec ∧ e.t=.own (.box z) then
  (wrE s ⟨.own (.box (.dead 1)),e.er,e.ec + 1⟩ >>= fun _=>wrE s ⟨.own (.box z'),e.er,e.ec + 2⟩ >>= fun _=>wrT n dst (mkT r))
 else zp
def zgJ (tt:TT) (n:Fr) (dst:Option Nat) (f:Operand) (aL:List (Operand × Nat)) (x:Operand) (aR:List (Operand × Nat)) (s:Nat) (fa:A) (xl xr:List A) (z z' r:A):HM Unit :=
 YP tt n [(f,0)] >>= fun fs=>YP tt n aL >>= fun xs=>YP tt n aR >>= fun zs=>y3 (opnd x) >>= fun tx=>y3 (rdE s) >>= fun e=>
 Zg (fs=[fa] ∧ LeP xs xl ∧ LeP zs xr ∧ tx=.als s [.deref] e.er e.ec ∧ e.t=.own (.box z)) (y3 (wrE s ⟨.own (.box (.dead 1)),e.er,e.ec + 1⟩ >>= fun _=>wrE s ⟨.own (.box z'),e.er,e.ec + 2⟩ >>= fun _=>wrT n dst (mkT r)))
open Classical in
theorem zhN (tt:TT) (n:Fr) (dst:Option Nat) (f:Operand) (aL:List (Operand × Nat)) (x:Operand) (aR:List (Operand × Nat)) (s:Nat) (fa:A) (xl xr:List A) (z z' r:A):Snd (lentI tt n dst f aL x aR s fa xl xr z z' r) (zgJ tt n dst f aL x aR s fa xl xr z z' r) :=
 zh (Zz _ _ _) fun _=>zh (Zz _ _ _) fun _=>zh (Zz _ _ _) fun _=>zh (zk _) fun _=>zh (zk _) fun _=>wd (zk _)
open Classical in
theorem Loc.lentI (tt:TT) (n:Fr) (dst:Option Nat) (f:Operand) (aL:List (Operand × Nat)) (x:Operand) (aR:List (Operand × Nat)) (s:Nat) (fa:A) (xl xr:List A) (z z' r:A):Loc (lentI tt n dst f aL x aR s fa xl xr z z' r):=by
 unfold Go.Own.lentI
 exact Loc.bind (Loc.refArgs _ _ _) fun _=>Loc.bind (Loc.refArgs _ _ _) fun _=>Loc.bind (Loc.refArgs _ _ _) fun _=>Loc.bind (Loc.opnd _) fun _=>Loc.bind (Loc.rdE _) fun _=>Loc.ite (Loc.bind (Loc.wrE _ _) fun _=>Loc.bind (Loc.wrE _ _) fun _=>Loc.wrT _ _ _) Loc.fail
variable {xl xr:List A}
section
variable {C:Ctx} {S:zl} {Fp:Nat → List Nat} {st:St} {a:Act} {w:World}
theorem zc4 (h:z3h z=true):z.size=1:=by
 cases z <;> simp_all [z3h,A.size]
theorem zdt {s er ec:Nat}  {v:Value} {b:Nat}  {l:List Value} (ht:(st s).t=.own (.box z)) (h1:(st s).er=er) (h2:(st s).ec=ec) (hz:z3h z=true) (hv:Act.tv a s=.pointer (some ⟨b,0,none⟩)) (hb:w.heap[b]?=some (.cells l.toArray ty (0,0))) (hl:l=[zS z l])
  (h:Zc w.heap st (Act.tv a) s [.deref] er ec v):v=zS z l:=by
 obtain ⟨_,_,hm⟩:=h
 simp only [ht] at hm
 rcases hm h1 (.inr h2) with ⟨q,_⟩ | ⟨_,y2,b2,o2,cs2,k1,k2,k3,k4,k5⟩
 ·cases q
 ·simp only [we,Option.some.injEq] at k1
  subst k1
  rw [hv] at k2
  simp only [wz,z2l,Option.some.injEq,Prod.mk.injEq] at k2
  obtain ⟨rfl,rfl⟩:=k2
  have hs:z.size=1:=zc4 hz
  rw [hs] at k3
  match cs2,k3 with
  | [u],_=>
   have hu:=k4 0 u rfl
   unfold y5 at hu
   rw [hb] at hu
   have h0:l.toArray[0 + 0]?=some (zS z l):=by
    rw [List.getElem?_toArray]
    exact congrArg (fun q:List Value=>q[0]?) hl
   have hu':l.toArray[0 + 0]?=some u:=hu
   rw [h0] at hu'
   cases hu'
   rw [k5]
   exact (congrArg (zS z) hl).symm
theorem zfF {P:Program} {tt:TT} (h:Sim C S Fp [] st a w) {op:Oper} {f x:Operand} {args:Array Operand} {tys:Array TypeId} {aL aR:List (Operand × Nat)} {tx0 s:Nat} {fa z z' r:A} {xl xr:List A} (hz:z3h z=true) (hz':z3h z'=true)
  (hl:∀ v,qK P fa (xl ++ .atom v :: xr) [(v,z)] r [z'])
  (ho:op.op=.call { callee:=.value f,args:=args,argTypes:=tys }) (hsz:args.size=tys.size) (hargs:args.toList.zip tys.toList=aL ++ (x,tx0) :: aR) {u:Unit} {R:List Nat} {U:List (Nat × Ent)}
  (e:lentI tt C.n op.dst f aL x aR s fa xl xr z z' r st=some (u,R,U)):vF P C op a w (ze U st):=by
 unfold lentI at e
 obtain ⟨fs,R1,U1,R2,U2,e1,e2,rfl,rfl⟩:=bind_some e
 obtain ⟨S1,Fp1,g1,g2,g3⟩:=qV h e1
 obtain ⟨xs,R3,U3,R4,U4,e3,e4,rfl,rfl⟩:=bind_some e2
 obtain ⟨S2,Fp2,j1,j2,j3⟩:=qV g1 e3
 obtain ⟨zs,R5,U5,R6,U6,e5,e6,rfl,rfl⟩:=bind_some e4
 obtain ⟨S3,Fp3,q1,q2,q3⟩:=qV j1 e5
 rw [zw,zw,zw]
 generalize ze U5 (ze U3 (ze U1 st))=s3 at q1 e6 ⊢
 obtain ⟨tx,R7,U7,R8,U8,e7,e8,rfl,rfl⟩:=bind_some e6
 obtain ⟨rfl,hx⟩:=zC q1 e7
 simp only [ze,List.nil_append] at e8 ⊢
 obtain ⟨en,R9,U9,R10,U10,e9,e10,rfl,rfl⟩:=bind_some e8
 obtain ⟨rfl,rfl,rfl⟩:=y7 e9
 simp only [ze,List.nil_append] at e10 ⊢
 split at e10
 ·rename_i hc
  obtain ⟨rfl,hxl,hxr,rfl,ht⟩:=hc
  obtain ⟨u1,R11,U11,R12,U12,e11,e12,rfl,rfl⟩:=bind_some e10
  obtain ⟨rfl,rfl⟩:=xH e11
  obtain ⟨u2,R13,U13,R14,U14,e13,e14,rfl,rfl⟩:=bind_some e12
  obtain ⟨rfl,rfl⟩:=xH e13
  simp only [ze,List.cons_append,List.nil_append] at e14 ⊢
  have hr:=q1.ent s
  unfold xm at hr
  simp only [ht] at hr
  obtain ⟨cs,c1,c2,c3⟩:=hr
  have c1':=c1
  simp only [zJ] at c1'
  obtain ⟨b,ty,l,F',rfl,hb,ci,hFs,hSb⟩:=c1'
  rw [hFs] at c2
  have hvs:Act.tv a s=.pointer (some ⟨b,0,none⟩):=c3
  have hl1:=Qa hz ci
  have hone:(zS z l).oneCell'=true:=ci.one1 (Kj hz) _ (by have q:=List.mem_singleton_self (zS z l); rwa [← hl1] at q)
  have hev:a.eval x=zS z l:=zdt ht rfl rfl hz hvs hb hl1 hx
  obtain ⟨hbF,hFn⟩:=List.nodup_cons.1 c2
  have hbs:b ∈ Fp3 s:=by rw [hFs]; exact List.mem_cons_self
  have hFsub:∀ k ∈ F',k ∈ Fp3 s:=fun k hk=>by rw [hFs]; exact List.mem_cons_of_mem _ hk
  have hblt:b < w.heap.size:=(q1.free s b hbs).1
  have hs4:Sim C S3 (Jp Fp3 s [b]) F' (upd s3 s ⟨.own (.box (.dead 1)),(s3 s).er,(s3 s).ec + 1⟩) a w:=by
   refine q1.change s (.own (.box (.dead 1))) _ _ [b] q1.below (fun _ _ _ q=>q) q1.still.cell q1.sbase (fun t k _ hk=>⟨rfl,(q1.free t k hk).2.1⟩) ⟨⟨_,?_,by simp,c3⟩,_,ht⟩ (.inl ⟨_,ht⟩) (Nat.le_refl _) (Nat.lt_succ_self _) ?_ ?_ hFn ?_ ?_ ?_
   ·simp only [zJ]
    refine ⟨b,ty,l,[],rfl,hb,⟨by rw [hl1]; rfl,fun u hu=>?_,rfl⟩,rfl,hSb⟩
    rw [hl1] at hu
    rw [List.mem_singleton.1 hu]
    exact hone
   ·intro t k hts hk hk'
    rw [List.mem_singleton.1 hk] at hk'
    exact hts (q1.disj t s b hk' hbs)
   ·intro k hk
    rw [List.mem_singleton.1 hk]
    exact q1.base s b hbs
   ·exact fun t k hts hk hk'=>hts (q1.disj t s k hk' (hFsub k hk))
   ·intro k hk hk'
    rw [List.mem_singleton.1 hk'] at hk
    exact hbF hk
   ·exact fun k hk=>q1.base s k (hFsub k hk)
  have hmap:(args.map a.eval).toList=(aL.map fun p=>a.eval p.1) ++ a.eval x :: (aR.map fun p=>a.eval p.1):=by
   have h1:(args.toList.zip tys.toList).map (fun p=>a.eval p.1)=(args.map a.eval).toList:=by
    have:(args.toList.zip tys.toList).map (fun p=>a.eval p.1)=((args.toList.zip tys.toList).map (·.1)).map a.eval:=by rw [List.map_map]; rfl
    rw [this,List.map_fst_zip (by simp [hsz])]
    simp
   rw [← h1,hargs]
   simp
  have hact:=hl (zS z l) S3 w (a.eval f) ((args.map a.eval).toList) F' hs4.still ((g3.1.mono j2).mono q2)
   (by rw [hmap,hev]; exact z3l (hxl _ _ (j3.mono fun _ _ q=>q.mono q2)) ⟨yW.2 ⟨rfl,hone⟩,hxr _ _ q3⟩)
   ⟨F',[],rfl,.inr ⟨l,ci,hFn,rfl⟩,rfl⟩ hFn
  intro rd m K Q hK
  refine zgT ho hact rd m K Q ?_
  rintro v' w' ⟨S',F2,G,b1,b2,b3,b4,b5,b6,b7,b8⟩
  have hs':Sim C S' (Jp Fp3 s [b]) (G ++ F2) (upd s3 s ⟨.own (.box (.dead 1)),(s3 s).er,(s3 s).ec + 1⟩) a w':=(show Sim C S3 (Jp Fp3 s [b]) (F' ++ []) _ a w by rw [List.append_nil]; exact hs4).lentCall b1 b2 b3 b4 b7 b8
  obtain ⟨G1,G2,hG,b9,b10⟩:=b6
  have hG2:G2=[]:=b10
  subst hG2
  rw [List.nil_append] at hG
  subst hG
  have notup:∀ fs,z' ≠ .tup fs:=by rintro fs rfl; simp [z3h] at hz'
  obtain ⟨cz,z1,z2,z3⟩:=b9.cells notup
  have hcz:=Qa hz' z1
  have hczl:cz=l:=by rw [hcz,hl1]; exact congrArg (fun q=>[q]) z3.symm
  subst hczl
  have hnb:¬ (w.heap.size ≤ b ∨ b ∈ F'):=by
   rintro (q | q)
   ·omega
   ·exact hbF q
  have hbG:b ∉ G:=fun hk=>hnb (b8 b (List.mem_append_left _ hk))
  have hheap:=b1.block b hnb
  have hu4:(upd s3 s ⟨.own (.box (.dead 1)),(s3 s).er,(s3 s).ec + 1⟩ s).t=.own (.box (.dead 1)):=by rw [wP]
  obtain ⟨xn1,xn2,xn3⟩:=List.nodup_append.1 b7
  have hub:b ∈ Jp Fp3 s [b] s:=by unfold Jp; rw [if_pos rfl]; exact List.mem_singleton.2 rfl
  have hs5:Sim C S' (Jp (Jp Fp3 s [b]) s (b :: G)) F2 (upd (upd s3 s ⟨.own (.box (.dead 1)),(s3 s).er,(s3 s).ec + 1⟩) s ⟨.own (.box z'),(s3 s).er,(s3 s).ec + 2⟩) a w':=by
   refine hs'.change s (.own (.box z')) _ _ (b :: G) hs'.below (fun _ _ _ q=>q) hs'.still.cell hs'.sbase (fun t k _ hk=>⟨rfl,(hs'.free t k hk).2.1⟩) ⟨⟨[.pointer (some ⟨b,0,none⟩)],?_,List.nodup_cons.2 ⟨hbG,xn1⟩,hvs⟩,_,hu4⟩ (.inl ⟨_,hu4⟩) ?_ ?_ ?_ ?_ xn2 ?_ ?_ ?_
   ·simp only [zJ]
    exact ⟨b,ty,cz,G,rfl,by rw [hheap]; exact hb,z1,rfl,fun o=>by rw [b3 b o hblt hbF]; exact hSb o⟩
   ·rw [wP]; exact Nat.le_refl _
   ·rw [wP]; exact Nat.lt_succ_self _
   ·intro t k hts hk hk'
    rcases List.mem_cons.1 hk with rfl | hk
    ·exact hts (hs'.disj t s _ hk' hub)
    ·exact hs'.xd t k (List.mem_append_left _ hk) hk'
   ·intro k hk
    rcases List.mem_cons.1 hk with rfl | hk
    ·exact hs'.base s _ hub
    ·exact hs'.xb k (List.mem_append_left _ hk)
   ·exact fun t k hts hk=>hs'.xd t k (List.mem_append_right _ hk)
   ·intro k hk hk'
    rcases List.mem_cons.1 hk' with rfl | hk'
    ·exact hs'.xd s _ (List.mem_append_right _ hk) hub
    ·exact xn3 k hk' k hk rfl
   ·exact fun k hk=>hs'.xb k (List.mem_append_right _ hk)
  obtain ⟨Fp5,m2⟩:=z3o (X:=[]) (by simpa using hs5) e14 b5
  exact hK _ _ _ _ m2
 ·exact (z7 e10).elim
end
def zqv (d i:Nat) (o:Oper):Option (Operand × List (Operand × Nat) × Operand × List (Operand × Nat)):=match o.op with
 | .call ⟨.value f,args,tys⟩=>if o.dst=some d ∧ args.size=tys.size then (match (args.toList.zip tys.toList).drop i with | (x,_) :: aR=>some (f,(args.toList.zip tys.toList).take i,x,aR) | []=>none) else none
 | _=>none
def zb2 (tt:TT) (s i:Nat) {fa z z' r:A}  (hz:z3h z=true) (hz':z3h z'=true) (hl:∀ v,qK P fa (xl ++ .atom v :: xr) [(v,z)] r [z']) (d:Nat):XH P :=
 xAt P (zqv d i) (fun n o b=>lentI tt n o.dst b.1 b.2.1 b.2.2.1 b.2.2.2 s fa xl xr z z' r) (fun n o b=>zgJ tt n o.dst b.1 b.2.1 b.2.2.1 b.2.2.2 s fa xl xr z z' r)
  (by
   intro C S Fp st a w o b hp h u R U e
   unfold zqv at hp
   split at hp
   ·rename_i f args tys ho
    split at hp
    ·rename_i hc
     split at hp
     ·rename_i x tx0 aR hd
      cases hp
      exact zfF h hz hz' hl ho hc.2 (by rw [← hd,List.take_append_drop]) e
     ·cases hp
    ·cases hp
   ·cases hp)
  (fun n o b=>Loc.lentI _ _ _ _ _ _ _ _ _ _ _ _ _ _) (fun n o b=>zhN _ _ _ _ _ _ _ _ _ _ _ _ _ _)
theorem leP {xs ys:List A} (h:z0s xs ys):LeP xs ys:=h.all
def blM (y:T):Option (Nat × Bool × List A):=match y with | .own (.osl z b l)=>some (z,b,l) | _=>none
theorem zgd {y:T} {q:Nat × Bool × List A} (h:blM y=some q):y=.own (.osl q.1 q.2.1 q.2.2):=by
 unfold blM at h
 split at h
 ·cases h; rfl
 ·cases h
def blO (tt:TT) (n:Fr) (dst:Option Nat) (d t len:Nat) (ps:List (Nat × Operand)):SM Unit :=
 vC tt n dst t len ps >>= fun _=>rdE d >>= fun e=>ofO (blM e.t) >>= fun q=>wrE d ⟨.own (.osl q.1 false q.2.2),e.er + 1,e.ec + 1⟩
def blH (tt:TT) (n:Fr) (dst:Option Nat) (d t len:Nat) (ps:List (Nat × Operand)):HM Unit :=
 WN tt n dst t len ps >>= fun _=>y3 (rdE d) >>= fun e=>y3 (ofO (blM e.t)) >>= fun q=>y3 (wrE d ⟨.own (.osl q.1 false q.2.2),e.er + 1,e.ec + 1⟩)
theorem zrg (tt:TT) (n:Fr) (dst:Option Nat) (d t len:Nat) (ps:List (Nat × Operand)):Snd (blO tt n dst d t len ps) (blH tt n dst d t len ps) :=
 zh (JK _ _ _ _ _ _) fun _=>zh (zk _) fun _=>zh (zk _) fun _=>zk _
theorem Loc.blO (tt:TT) (n:Fr) (dst:Option Nat) (d t len:Nat) (ps:List (Nat × Operand)):Loc (blO tt n dst d t len ps) :=
 Loc.bind (by have q:=Loc.stepO tt Kw n ⟨dst,.buildSlice t len ⟨ps⟩,0,default,default,none⟩; exact q) fun _=>Loc.bind (Loc.rdE _) fun _=>Loc.bind (Loc.ofO _) fun _=>Loc.wrE _ _
theorem zoR (hT:xq P tt)       (h:Sim C S Fp [] st a w)  {d t len:Nat}  (ho:o.op=.buildSlice t len ps)    (e0:blO tt C.n o.dst d t len ps.toList st=some (u,R,U)):vF P C o a w (ze U st):=by
 obtain ⟨y,R1,U1,R2,U2,h1,e1,rfl,rfl⟩:=bind_some e0
 have g:=Qn hT h ho h1
 rw [zw]
 generalize ze U1 st=s1 at g e1 ⊢
 obtain ⟨e,R7,U7,R8,U8,h7,e4,rfl,rfl⟩:=bind_some e1
 obtain ⟨rfl,rfl,rfl⟩:=y7 h7
 simp only [ze,List.nil_append] at e4 ⊢
 obtain ⟨q,R9,U9,R10,U10,h9,e5,rfl,rfl⟩:=bind_some e4
 obtain ⟨hq,rfl,rfl⟩:=uk h9
 simp only [ze,List.nil_append] at e5 ⊢
 obtain ⟨rfl,rfl⟩:=xH e5
 exact g.retag d _ _ (zgd hq) (@LeA.osl _ _ _ _ (z74.refl _))
def xBl (hT:xq P tt) (d:Nat):XH P :=
 xAt P (znS d) (fun n o b=>blO tt n o.dst d b.1 b.2.1 b.2.2.toList) (fun n o b=>blH tt n o.dst d b.1 b.2.1 b.2.2.toList)
  (by
   intro C S Fp st a w o b hp h u R U e
   unfold znS at hp
   split at hp
   ·rename_i ho; cases z2J hp; exact zoR hT h ho e
   ·cases hp)
  (fun n o b=>Loc.blO _ _ _ _ _ _ _) (fun n o b=>zrg _ _ _ _ _ _ _)
abbrev z3Z (b:Nat):Value:=.pointer (some ⟨b,0,none⟩)
theorem ziQ (k:Nat)  (hk:∃ z,(st k).t=.own (.box z)) (hp:z0u n.pin k=some v) (h:∀ b,v=z3Z b → AWP P n c st Q):AWP P n c st Q:=by
 intro rd m df w0 S0 M S Fp a w hc hs
 obtain ⟨z,hz⟩:=hk
 obtain ⟨b,hb⟩:=zdh hs hz
 exact h b (by rw [← hs.pin k v (qa hp),hb]) rd m df w0 S0 M S Fp a w hc hs
section
variable {C:Ctx} {S:zl} {Fp:Nat → List Nat} {st:St} {a:Act} {w:World}
open Classical in
def nrO (n:Fr) (dst:Option Nat) (b:Nat) (x:Operand):SM Unit:=do
 let tx ← opnd x
 if tx=.d (.atom (z3Z b)) then wrT n dst (.d (.atom (z3Z b))) else zp
def nrH (n:Fr) (dst:Option Nat) (b:Nat) (x:Operand):HM Unit:=y3 (opnd x) >>= fun tx=>Zg (tx=.d (.atom (z3Z b))) (y3 (wrT n dst (.d (.atom (z3Z b)))))
open Classical in
theorem zr8 (n:Fr) (dst:Option Nat) (b:Nat) (x:Operand):Snd (nrO n dst b x) (nrH n dst b x):=zh (zk _) fun _=>wd (zk _)
open Classical in
theorem Loc.nrO (n:Fr) (dst:Option Nat) (b:Nat) (x:Operand):Loc (nrO n dst b x):=by
 unfold Go.Own.nrO
 exact Loc.bind (Loc.opnd _) fun _=>Loc.ite (Loc.wrT _ _ _) Loc.fail
theorem zov (h:Sim C S Fp [] st a w)  {b:Nat} {x:Operand} (ho:o.op=.nilCheck x)    (e:nrO C.n o.dst b x st=some (u,R,U)):vF P C o a w (ze U st):=by
 unfold nrO at e
 obtain ⟨tx,R1,U1,R2,U2,h1,e1,rfl,rfl⟩:=bind_some e
 obtain ⟨rfl,hx⟩:=zC h h1
 simp only [ze,List.nil_append] at e1 ⊢
 split at e1
 ·rename_i hc
  subst hc
  obtain ⟨Fp',hs'⟩:=xL h e1 (x:=.d (.atom (z3Z b))) (v:=z3Z b) (zy.2 ⟨rfl,rfl⟩)
  refine zn ?_ hs'
  have ex:a.eval x=z3Z b:=(zy.1 hx).1
  simp [execOp,ho,ex]
 ·exact (z7 e1).elim
open Classical in
def riK (tt:TT) (n:Fr) (dst:Option Nat) (t m sz b:Nat) (tx:T):A → SM Unit
 | .atom (.int _ j)=>if tx=.d (.atom (z3Z b)) ∧ 0 ≤ j ∧ j.toNat < m then (if z8k tt t=some (m,sz) then wrT n dst (.d (.atom (.pointer (some ⟨b,j.toNat * sz,none⟩)))) else zp) else zp
 | _=>zp
def zqf (tt:TT) (n:Fr) (dst:Option Nat) (t m sz b:Nat) (tx:T):A → HM Unit
 | .atom (.int _ j)=>Zg (tx=.d (.atom (z3Z b)) ∧ 0 ≤ j ∧ j.toNat < m) (if z8k tt t=some (m,sz) then y3 (wrT n dst (.d (.atom (.pointer (some ⟨b,j.toNat * sz,none⟩))))) else zK)
 | _=>zK
def riO (tt:TT) (n:Fr) (dst:Option Nat) (t m sz b:Nat) (x y:Operand):SM Unit:=do
 let tx ← opnd x
 let ty ← opnd y
 let vi ← val ty
 riK tt n dst t m sz b tx vi
def riH (tt:TT) (n:Fr) (dst:Option Nat) (t m sz b:Nat) (x y:Operand):HM Unit:=y3 (opnd x) >>= fun tx=>y3 (opnd y) >>= fun ty=>z0t ty >>= fun vi=>zqf tt n dst t m sz b tx vi
open Classical in
theorem zr5 (tt:TT) (n:Fr) (dst:Option Nat) (t m sz b:Nat) (x y:Operand):Snd (riO tt n dst t m sz b x y) (riH tt n dst t m sz b x y):=by
 refine zh (zk _) fun tx=>zh (zk _) fun ty=>zh (Zy _) fun vi=>?_
 unfold riK zqf
 cases vi with
 | atom v=>
  cases v with
  | int k j=>exact wd (vU (zk _) (zq _))
  | _=>exact zq _
 | _=>exact zq _
open Classical in
theorem Loc.riO (tt:TT) (n:Fr) (dst:Option Nat) (t m sz b:Nat) (x y:Operand):Loc (riO tt n dst t m sz b x y):=by
 unfold Go.Own.riO
 refine Loc.bind (Loc.opnd _) fun _=>Loc.bind (Loc.opnd _) fun _=>Loc.bind (Loc.val _) fun _=>?_
 unfold Go.Own.riK
 split
 ·exact Loc.ite (Loc.ite (Loc.wrT _ _ _) Loc.fail) Loc.fail
 ·exact Loc.fail
theorem zon (hT:xq P tt) (h:Sim C S Fp [] st a w)  {t m sz b:Nat} {x y:Operand} (ho:o.op=.indexAddr t x y)    (e0:riO tt C.n o.dst t m sz b x y st=some (u,R,U)):vF P C o a w (ze U st):=by
 unfold riO at e0
 obtain ⟨tx,R1,U1,R2,U2,h1,e1,rfl,rfl⟩:=bind_some e0
 obtain ⟨rfl,hx⟩:=zC h h1
 obtain ⟨ty,R3,U3,R4,U4,h3,e2,rfl,rfl⟩:=bind_some e1
 obtain ⟨rfl,hy⟩:=zC h h3
 obtain ⟨vi,R5,U5,R6,U6,h5,e4,rfl,rfl⟩:=bind_some e2
 obtain ⟨rfl,qi⟩:=vM h hy h5
 simp only [ze,List.nil_append] at e4 ⊢
 unfold riK at e4
 cases vi with
 | atom v=>
  cases v with
  | int k j=>
   simp only at e4
   split at e4
   ·rename_i hc
    obtain ⟨rfl,j0,jm⟩:=hc
    split at e4
    ·rename_i ha
     obtain ⟨Fp',hs'⟩:=xL h e4 (x:=.d (.atom (.pointer (some ⟨b,j.toNat * sz,none⟩)))) (v:=.pointer (some ⟨b,j.toNat * sz,none⟩)) (zy.2 ⟨rfl,rfl⟩)
     refine zn ?_ hs'
     have ex:a.eval x=z3Z b:=(zy.1 hx).1
     have ey:a.eval y=.int k j:=(zy.1 qi).1
     have hl:((List.replicate m (A.dead sz)).length)=m:=List.length_replicate
     have hk:Zb tt t (List.replicate m (A.dead sz)) j=true:=by
      unfold Zb
      rw [ha]
      simp only [hl,beq_self_eq_true,Bool.true_and,j0,decide_true]
      rw [List.all_eq_true]
      intro z hz
      rw [List.eq_of_mem_replicate hz]
      exact beq_self_eq_true _
     have hr:=JM hT hk (by rw [hl]; exact jm) k b 0 w
     have hz:A.sizes ((List.replicate m (A.dead sz)).take j.toNat)=j.toNat * sz:=by
      rw [A.sizes_const (sz:=sz) (fun z hz=>by rw [List.eq_of_mem_replicate (List.mem_of_mem_take hz)]; rfl),List.length_take,hl,Nat.min_eq_left (Nat.le_of_lt jm)]
     rw [hz,Nat.zero_add] at hr
     simp [execOp,ho,ex,ey,hr]
    ·exact (z7 e4).elim
   ·exact (z7 e4).elim
  | _=>exact (z7 e4).elim
 | _=>exact (z7 e4).elim
open Classical in
def irK (tt:TT) (n:Fr) (dst:Option Nat) (t r i b:Nat) (tx:T) (vi:A) (e:Ent):SM Unit :=
 match e.t with
 | .own (.box (.agg fs))=>if (tx=.d (.atom (.pointer (some ⟨b,A.sizes (fs.take i),none⟩))) ∧ i < fs.length) ∧ z0u n.pin r=some (z3Z b) then indexArrA tt n dst t (.ptr r [.deref,.fld i] e.er e.ec) vi else zp
 | _=>zp
def irO (tt:TT) (n:Fr) (dst:Option Nat) (t r i b:Nat) (x y:Operand):SM Unit:=do
 let tx ← opnd x
 let ty ← opnd y
 let vi ← val ty
 let e ← rdE r
 irK tt n dst t r i b tx vi e
def irH (tt:TT) (n:Fr) (dst:Option Nat) (t r i b:Nat) (x y:Operand):HM Unit:=y3 (opnd x) >>= fun tx=>y3 (opnd y) >>= fun ty=>z0t ty >>= fun vi=>y3 (rdE r) >>= fun e=>
 match e.t with
 | .own (.box (.agg fs))=>Zg ((tx=.d (.atom (.pointer (some ⟨b,A.sizes (fs.take i),none⟩))) ∧ i < fs.length) ∧ z0u n.pin r=some (z3Z b)) (z1J tt n dst t (.ptr r [.deref,.fld i] e.er e.ec) vi)
 | _=>zK
open Classical in
theorem zre (tt:TT) (n:Fr) (dst:Option Nat) (t r i b:Nat) (x y:Operand):Snd (irO tt n dst t r i b x y) (irH tt n dst t r i b x y):=by
 refine zh (zk _) fun tx=>zh (zk _) fun ty=>zh (Zy _) fun vi=>zh (zk _) fun e=>?_
 unfold irK
 cases e.t with
 | own q=>
  cases q with
  | box z=>
   cases z with
   | agg fs=>exact wd (z3N _ _ _ _ _ _)
   | _=>exact zq _
  | _=>exact zq _
 | _=>exact zq _
open Classical in
theorem Loc.irO (tt:TT) (n:Fr) (dst:Option Nat) (t r i b:Nat) (x y:Operand):Loc (irO tt n dst t r i b x y):=by
 unfold Go.Own.irO
 refine Loc.bind (Loc.opnd _) fun _=>Loc.bind (Loc.opnd _) fun _=>Loc.bind (Loc.val _) fun _=>Loc.bind (Loc.rdE _) fun _=>?_
 unfold Go.Own.irK
 split
 ·exact Loc.ite (Loc.indexArrA _ _ _ _ _ _) Loc.fail
 ·exact Loc.fail
theorem zoE (hT:xq P tt) (h:Sim C S Fp [] st a w)  {t r i b:Nat} {x y:Operand} (ho:o.op=.indexAddr t x y)    (e0:irO tt C.n o.dst t r i b x y st=some (u,R,U)):vF P C o a w (ze U st):=by
 unfold irO at e0
 obtain ⟨tx,R1,U1,R2,U2,h1,e1,rfl,rfl⟩:=bind_some e0
 obtain ⟨rfl,hx⟩:=zC h h1
 obtain ⟨ty,R3,U3,R4,U4,h3,e2,rfl,rfl⟩:=bind_some e1
 obtain ⟨rfl,hy⟩:=zC h h3
 obtain ⟨vi,R5,U5,R6,U6,h5,e3,rfl,rfl⟩:=bind_some e2
 obtain ⟨rfl,qi⟩:=vM h hy h5
 obtain ⟨en,R7,U7,R8,U8,h7,e4,rfl,rfl⟩:=bind_some e3
 obtain ⟨rfl,rfl,rfl⟩:=y7 h7
 simp only [ze,List.nil_append] at e4 ⊢
 unfold irK at e4
 cases ht:(st r).t with
 | own y0=>
  cases y0 with
  | box z0=>
   cases z0 with
   | agg fs=>
    simp only [ht] at e4
    split at e4
    ·rename_i hc
     obtain ⟨⟨rfl,hi⟩,c2⟩:=hc
     have hs:Act.tv a r=z3Z b:=h.pin r _ (qa c2)
     obtain ⟨z,hz⟩:∃ z,fs[i]?=some z:=⟨_,List.getElem?_eq_getElem hi⟩
     refine z4h hT h ho (y:=.ptr r [.deref,.fld i] (st r).er (st r).ec) ⟨Nat.le_refl _,Nat.le_refl _,?_⟩ qi e4
     simp only [ht]
     rw [(zy.1 hx).1,hs]
     refine fun _ _=>⟨rfl,z,b,A.sizes (fs.take i),?_,?_,rfl⟩
     ·simp [we,hz]
     ·simp [wz,z2l,hz]
    ·exact (z7 e4).elim
   | _=>simp only [ht] at e4; exact (z7 e4).elim
  | _=>simp only [ht] at e4; exact (z7 e4).elim
 | _=>simp only [ht] at e4; exact (z7 e4).elim
end
def xNr (P:Program) (d b:Nat):XH P :=
 xAt P (znR d) (fun n o x=>nrO n o.dst b x) (fun n o x=>nrH n o.dst b x)
  (by
   intro C S Fp st a w o x hp h u R U e
   unfold znR at hp
   split at hp
   ·rename_i ho; cases z2J hp; exact zov h ho e
   ·cases hp)
  (fun n o x=>Loc.nrO _ _ _ _) (fun n o x=>zr8 _ _ _ _)
def xRi (hT:xq P tt) (d m sz b:Nat):XH P :=
 xAt P (zgK d) (fun n o q=>riO tt n o.dst q.1 m sz b q.2.1 q.2.2) (fun n o q=>riH tt n o.dst q.1 m sz b q.2.1 q.2.2)
  (by
   intro C S Fp st a w o q hp h u R U e
   unfold zgK at hp
   split at hp
   ·rename_i ho; cases z2J hp; exact zon hT h ho e
   ·cases hp)
  (fun n o b=>Loc.riO _ _ _ _ _ _ _ _ _) (fun n o b=>zr5 _ _ _ _ _ _ _ _ _)
def xIr (hT:xq P tt) (d r i b:Nat):XH P :=
 xAt P (zgK d) (fun n o q=>irO tt n o.dst q.1 r i b q.2.1 q.2.2) (fun n o q=>irH tt n o.dst q.1 r i b q.2.1 q.2.2)
  (by
   intro C S Fp st a w o q hp h u R U e
   unfold zgK at hp
   split at hp
   ·rename_i ho; cases z2J hp; exact zoE hT h ho e
   ·cases hp)
  (fun n o b=>Loc.irO _ _ _ _ _ _ _ _ _) (fun n o b=>zre _ _ _ _ _ _ _ _ _)
theorem zgS {n:Nat} {x:ArN n α}  {u:α} (h:idx x.l i=some u):i.toNat < n:=by
 have:=(List.getElem?_eq_some_iff.1 (iE h)).1
 rwa [x.len] at this
theorem ziS {n:Nat} {f:α → A}  [h:zj9 f s] (x:ArN n α)  {u:α} (k:idx x.l i=some u):A.sizes ((x.l.map f).take i.toNat)=i.toNat * s:=by
 have hl:=zgS k
 rw [A.sizes_const (sz:=s) (fun z hz=>by obtain ⟨v,_,rfl⟩:=List.mem_map.1 (List.mem_of_mem_take hz); exact h.sz v),List.length_take,List.length_map,x.len,Nat.min_eq_left (Nat.le_of_lt hl)]
theorem ixV {k:IntKind}  {e:Nat} {l:List Int} {j u:Int} (hf:∀ x,jQ tt e (eI k x)=true) (h:idx l j=some u)  (hm:l.length=m) :
  0 ≤ j ∧ j < (m:Int) ∧ jQ tt e (eI k u)=true ∧ (eI k u).isD=true ∧ ((l.map (eI k)).take j.toNat).all (fun z=>z.size == (eI k u).size)=true:=by
 have h1:=i0 h
 have h2:=(List.getElem?_eq_some_iff.1 (iE h)).1
 refine ⟨h1,by omega,hf u,rfl,?_⟩
 rw [← List.map_take,List.all_map,List.all_eq_true]
 intro x _
 simp [eI,A.size]
def zl1 (d:Nat) (o:Oper):Option (Nat × Operand × Operand):=match o.op with | .index t x i=>if o.dst=some d then some (t,x,i) else none | _=>none
def zcJ (tt:TT) (n:Fr) (dst:Option Nat) (t:Nat) (x i:Operand):HM Unit:=y3 (opnd x) >>= fun tx=>z0t tx >>= fun vx=>y3 (opnd i) >>= fun ti=>z0t ti >>= fun vi=>
 match vx,vi with
 | .agg fs,.atom (.int _ j)=>
  match zgR tt t with
  | some (m,e)=>z9h (fs[j.toNat]?) >>= fun y=>Zg (0 ≤ j ∧ j < (m:Int) ∧ jQ tt e y=true ∧ y.isD=true ∧ (fs.take j.toNat).all (fun z=>z.size == y.size)=true) (y3 (wrT n dst (.d y)))
  | none=>zK
 | _,_=>zK
theorem zeY (tt:TT) (n:Fr) (dst:Option Nat) (t:Nat) (x i:Operand):Snd (indexO tt n dst t x i) (zcJ tt n dst t x i):=by
 refine zh (zk _) fun tx=>zh (Zy _) fun vx=>zh (zk _) fun ti=>zh (Zy _) fun vi=>?_
 have main:∀ fs k j,vx=.agg fs → vi=.atom (.int k j) → Snd (match vx,vi with
   | .agg fs,.atom (.int _ j)=>
    match zgR tt t with
    | some (m,e)=>match fs[j.toNat]? with
     | some y=>if 0 ≤ j ∧ j < (m:Int) ∧ jQ tt e y=true ∧ y.isD=true ∧ (fs.take j.toNat).all (fun z=>z.size == y.size)=true then wrT n dst (.d y) else zp
     | none=>zp
    | none=>zp
   | _,_=>zp) (match vx,vi with
   | .agg fs,.atom (.int _ j)=>
    match zgR tt t with
    | some (m,e)=>z9h (fs[j.toNat]?) >>= fun y=>Zg (0 ≤ j ∧ j < (m:Int) ∧ jQ tt e y=true ∧ y.isD=true ∧ (fs.take j.toNat).all (fun z=>z.size == y.size)=true) (y3 (wrT n dst (.d y)))
    | none=>zK
   | _,_=>zK):=by
  rintro fs k j rfl rfl
  simp only
  cases zgR tt t with
  | none=>exact zq _
  | some q=>
   obtain ⟨m,e⟩:=q
   simp only
   refine Kd (m':=ofO (fs[j.toNat]?) >>= fun y=>if 0 ≤ j ∧ j < (m:Int) ∧ jQ tt e y=true ∧ y.isD=true ∧ (fs.take j.toNat).all (fun z=>z.size == y.size)=true then wrT n dst (.d y) else zp) ?_ (zh (z0O _) fun _=>wd (zk _))
   generalize fs[j.toNat]?=z
   cases z with
   | none=>rfl
   | some y=>rw [zff,zX]
 cases vx with
 | agg fs=>
  cases vi with
  | atom v=>
   cases v with
   | int k j=>exact main _ _ _ rfl rfl
   | _=>exact zq _
  | _=>exact zq _
 | _=>exact zq _
def zpH (hT:xq P tt) (d:Nat):XH P :=
 xAt P (zl1 d) (fun n o b=>indexO tt n o.dst b.1 b.2.1 b.2.2) (fun n o b=>zcJ tt n o.dst b.1 b.2.1 b.2.2)
  (by
   intro C S Fp st a w o b hp h u R U e
   unfold zl1 at hp
   split at hp
   ·rename_i ho; cases z2J hp; exact z9Q hT h ho e
   ·cases hp)
  (fun n o b=>Loc.indexO _ _ _ _ _ _) (fun n o b=>zeY _ _ _ _ _ _)
end Go.Own
end
