/- -/
import Derived.Test.YtcodjgfoodacaaaGreatDoorPartH
import Derived.Test.YtcodjgfoodacaaaGreatDoorPartE
import Derived.Test.YtcodjgfoodacaaaGreatDoorPartB
import Derived.OpenShut
import Derived.ChangeShapes
import Derived.Stop.LaidErr
import Derived.Test.YtcodjgfoodacaaaGreatDoorPartC
import Derived.WalkKit
import Derived.ProofKit
import Derived.Carry
import Derived.Test.YtcodjgfoodacaaaGreatDoorPartG
import Derived.Test.YtcodjgfoodacaaaGreatDoorRows
import Derived.Test.YtcodjgfoodacaaaGreatDoorChecked
import Derived.LaidMore
import Derived.Stop.Joined
import Derived.SevenTiedAt
import Derived.Test.YtcodjgfoodacaaaGreatDoorCards
import Derived.Test.YtcodjgfoodacaaaGreatDoorTie
import Derived.MakeChecks
set_option linter.unusedVariables false
set_option linter.unusedSimpArgs false
namespace Go.Own
section
variable {m:z6}(h:VM m)(hc:Cpl m)(hd:ziA m)(hG:GG (kk m) (m.Rows.length+2)<=1000000000)
include h hc hd hG
theorem zex {s t:Nat}(hs:s<m.Rows.length)(ht:t<m.Rows.length)(hst:s≠t):wb m (s:Int) (t:Int)=some (lwI m s t,true):=by
 have hw:=zcK h hc hd hs ht hst;obtain⟨o,e,w,rfl,w2⟩:=zc0 h hG hs ht hw.1;rw [e,w2.uniq hw]
def pP (z:Int)(a b:Nat):Prop:=z<0\/(a:Int)=z\/(b:Int)=z
theorem z6h (hN:m.Rows.length<=30)(z:Int):Ret (X7 m z) fun o=>∃out,Wx m (pP z) (fun _ _=>True) out/\out.length<=1000/\o=srt out:=by
 have hw:∀k:Nat,k<=1000->w64 ((k:Int)+1)=((k+1:Nat):Int):=fun k hk=>by rw [zV (by omega) (by omega)];rfl
 unfold X7;rw [zu];refine Ret.mono (Q:=fun out=>Wx m (pP z) (fun _ _=>True) out/\out.length<=1000) ?_ fun out ho=>?_
 ·refine zR (fun q => ∃ s : Nat, q.2 = (s : Int) ∧ s ≤ m.Rows.length ∧ Wx m (pP z) (fun a b => a < s) q.1 ∧ q.1.length ≤ 31 * s) (fun q => 1000 - q.2.toNat) ⟨0, rfl, Nat.zero_le _, fun x => ?_, by simp⟩ (by simp) ?_
  ·constructor
   ·intro q;simp at q
   ·rintro⟨a,b,h1,h2,h3,_⟩;omega
  rintro⟨out,q⟩ ⟨s,e2,hs,ho,hl⟩;simp only at e2 ho hl;subst e2;unfold Xp;rw [zz];refine⟨fun c=>?_,fun c=>?_⟩
  ·have hs' : s < m.Rows.length := by simpa using c
   rw [zu,hw s (by omega)]
   have inner:Ret (loop (fun q=>Zi m z (s:Int) q.1 q.2) (out,((s+1:Nat):Int))) fun out'=>Wx m (pP z) (fun a b=>a<s+1) out'/\out'.length<=31*(s+1):=by
    refine zR (fun q=>∃t:Nat,q.2=(t:Int)/\s<t/\t<=m.Rows.length/\Wx m (pP z) (fun a b=>a<s\/(a=s/\b<t)) q.1/\q.1.length<=31*s+t) (fun q=>1000 - q.2.toNat) ⟨s+1,rfl,by omega,by omega,ho.congr fun a b _ _=>by omega,by simp only;omega⟩ (by simp only;omega) ?_
    rintro⟨out,q⟩ ⟨t,e2,hst,ht,ho,hl⟩;simp only at e2 ho hl;subst e2;unfold Zi;rw [zz];refine⟨fun c=>?_,fun c=>?_⟩
    ·have ht' : t < m.Rows.length := by simpa using c
     have yes:pP z s t->Ret (Option.bind (wb m (s:Int) (t:Int)) fun r=>gd (out.length+([r.1]:List (List Int)).length<=4294967296) <| wa (t:Int) (out++([r.1]:List (List Int))))
       (LRP (fun s'=>(∃t:Nat,s'.2=(t:Int)/\s<t/\t<=m.Rows.length/\Wx m (pP z) (fun a b=>a<s\/(a=s/\b<t)) s'.1/\s'.1.length<=31*s+t)/\1000 - s'.2.toNat<1000 - (t:Int).toNat) fun out'=>Wx m (pP z) (fun a b=>a<s+1) out'/\out'.length<=31*(s+1)):=by
      intro hp;unfold wa;rw [bdT (zex h hc hd hG hs' ht' (by omega)),XE,hw t (by omega)]
      exact⟨by simp;omega,ze.2 ⟨⟨t+1,rfl,by omega,ht',ho.add hst ht' (fun a b=>by omega) hp,by simp;omega⟩,by simp only [Int.toNat_natCast];omega⟩⟩
     rw [zz];refine⟨fun c=>yes (.inl (of_decide_eq_true c)),fun c=>?_⟩;rw [zz];refine⟨fun c1=>yes (.inr (.inl (by simpa using c1))),fun c1=>?_⟩
     rw [zz];refine⟨fun c2=>yes (.inr (.inr (by simpa using c2))),fun c2=>?_⟩
     have hno:¬pP z s t:=by
      have a1:¬z<0:=of_decide_eq_false c;have a2:¬(s:Int)=z:=by simpa using c1
      have a3:¬(t:Int)=z:=by simpa using c2
      intro g;rcases g with g|g|g
      ·exact a1 g
      ·exact a2 g
      ·exact a3 g
     unfold wa;rw [hw t (by omega)]
     exact ze.2 ⟨⟨t+1,rfl,by omega,ht',ho.skip (s:=s) (t:=t) (fun a b=>by omega) hno,by simp only;omega⟩,by simp only [Int.toNat_natCast];omega⟩
    ·have ht' : ¬ t < m.Rows.length := by simpa using c
     exact ze.2 ⟨ho.congr fun a b _ _=>by omega,by show out.length<=31*(s+1);omega⟩
   refine inner.mono fun out' ho'=>?_;unfold Xq;rw [hw s (by omega)]
   exact ze.2 ⟨⟨s+1,rfl,hs',ho'.1,ho'.2⟩,by simp only [Int.toNat_natCast];omega⟩
  ·have hs' : ¬ s < m.Rows.length := by simpa using c
   exact ze.2 ⟨ho.congr fun a b _ _=>by simp;omega,by show out.length<=1000;omega⟩
 ·unfold Xr
  rw [bdT (zat (by omega) fun x q=>by have:=(ho.1.len h hc hd q).1;omega)]
  exact ze.2 ⟨out,ho.1,ho.2,rfl⟩
end
structure KM (m:z6):Prop where
 vm:VM m
 cpl:Cpl m
 dist:ziA m
 rall:zkR m
 inp:m.Inputs<=4
 len:m.Rows.length<=6
theorem KM.gg {m:z6}(h:KM m):GG (kk m) (m.Rows.length+2)<=1000000000:=by
 have h1:=h.vm.kk_pos;have h2:=h.vm.kk_eq;have h3:=h.inp;have h4:=h.len;have e:kk m=1\/kk m=2\/kk m=3\/kk m=4:=by omega
 have hm:GG (kk m) (m.Rows.length+2)<=GG (kk m) 8:=z32 (by omega)
 rcases e with e|e|e|e <;> rw [e]at hm ⊢ <;> exact Nat.le_trans hm (by decide)
theorem KM.proper {m:z6}(h:KM m):xR m=some 0:=by
 obtain⟨e,e1,e2⟩:=zbc h.vm;rw [e1,e2.uniq (.inr (.inr (.inr ⟨rfl,h.cpl,h.rall,h.dist⟩)))]
theorem znX {x:uE}(h:zmw x.C):Ret (UY x) KM:=by
 unfold UY;rw [gdT (by decide),zu]
 have h':zmw (zD.mk (Int.tmod x.C.States 5) x.C.Inputs x.C.Outputs x.C.Tree x.C.Edges):=⟨Int.tmod_nonneg _ h.s0,h.i0,h.o0,h.t0,h.e0⟩;refine(zhy h').mono fun m hm=>?_;obtain⟨h1,h2,h3,h4,h5⟩:=hm;have k1:=h1.kk_pos;have k2:=h1.kk_eq;have hG:GG (kk m) m.Rows.length<=1000000000:=by
  have e:kk m=1\/kk m=2\/kk m=3:=by omega
  have hm:GG (kk m) m.Rows.length<=GG (kk m) 8:=z32 (by omega)
  rcases e with e|e|e <;> rw [e]at hm ⊢ <;> exact Nat.le_trans hm (by decide)
 rw [zu];refine(z9H h1 hG).mono fun p hp=>?_;obtain⟨F,hF,hp⟩:=hp;have hc:Cpl m:=h4;have hl:=hF.len;exact ze.2 ⟨zjV h1 hc hF hp,zhE hc hF hp,zeX hF hp,zeW h1 hc hF hp,by rw [hp.inp];omega,by rw [hp.len];omega⟩
theorem z8I:Qv=some true:=by kernel_rfl
def Ok5 (a:Int):Prop:=(0)<=a/\a<=255
def zoY (l:List Int):Prop:=∀a∈l,Ok5 a
def zik (a:Int):Prop:=(0)<=a/\a<=65535
def zoX (l:List Int):Prop:=∀a∈l,zik a
def zoW (a:zD):Prop:=Ok5 a.States/\Ok5 a.Inputs/\Ok5 a.Outputs/\zoY a.Tree/\zoX a.Edges
def zoV (a:uE):Prop:=zoW a.C
theorem zc9 (a:List (List Int))(hl:a.length<=1000000)(hw:∀x∈a,x.length<=1000000):wU a a=some true:=by
 unfold wU;rw [bdT (zeQ a a (by omega) fun x q=>by have:=hw x q;omega),decide_eq_true rfl,cond_true,beq_self_eq_true]
theorem znM {m:z6}(h:KM m){s:Nat}(hs:s<m.Rows.length):Ret (XP m (s:Int)) fun o=>∃out,Wx m (fun a b=>a=s\/b=s) (fun _ _=>True) out/\out.length<=1000/\o=(srt out,0):=by
 have hl:=h.len;unfold XP;rw [bdT h.proper,show((0:Int) != 0)=false from rfl,cond_false,decide_eq_false (by omega),cond_false,decide_eq_false (by omega),cond_false,zu]
 refine(zb4 h.vm h.cpl h.dist (by omega) s).mono fun o ho=>?_
 obtain⟨out,h1,h2,rfl⟩:=ho;exact ze.2 ⟨out,h1,h2,rfl⟩
theorem zfh {x:uE}(hx:zoV x):YA x=some true:=by
 obtain⟨m,e0,h⟩:=znX (x:=x) ⟨hx.1.1,hx.2.1.1,hx.2.2.1.1,hx.2.2.2.1,hx.2.2.2.2⟩;have hl:=h.len;have hl1:=h.vm.len1;obtain⟨o,e1,out,o1,o2,rfl⟩:=zbH h.vm h.cpl h.dist (by omega)
 have eA:Xe m=some (srt out,0):=by
  unfold Xe;rw [bdT h.proper,show((0:Int) != 0)=false from rfl,cond_false,bdT e1]
 obtain⟨q,e2,out2,p1,p2,rfl⟩:=z6h h.vm h.cpl h.dist h.gg (by omega) (-1)
 have hso:srt out2=srt out:=z1a fun y=>by
  rw [p1 y,o1 y];constructor
  ·rintro⟨a,b,g1,g2,_,_,g5⟩;exact⟨a,b,g1,g2,trivial,trivial,g5⟩
  ·rintro⟨a,b,g1,g2,_,_,g5⟩;exact⟨a,b,g1,g2,trivial,.inl (by omega),g5⟩
 have hlen:∀y∈srt out,y.length+1<=m.Rows.length:=fun y hy=>(o1.len h.vm h.cpl h.dist (JI.1 hy)).1;have hsl:=z4q out;refine Ret.eq ?_;unfold YA z1h;rw [bdT e0,bdT eA,show(((srt out,(0:Int)).2) != 0)=false from rfl,cond_false,e2,Option.bind_some,Option.bind_some,hso,bdT (zc9 (srt out) (by omega) fun y hy=>by have:=hlen y hy;omega),show(!true)=false from rfl,cond_false,zu]
 have hw:∀k:Nat,k<=1000->w64 ((k:Int)+1)=((k+1:Nat):Int):=fun k hk=>by rw [zV (by omega) (by omega)];rfl
 have main:Ret (loop (fun s=>vP m s.1 s.2) (([]:List (List Int)),0)) fun r=>∃u,r=.inl u/\u.length<=10000/\Wx m (fun _ _=>True) (fun _ _=>True) u:=by
  refine zR (fun q=>∃s:Nat,q.2=(s:Int)/\s<=m.Rows.length/\Wx m (fun a b=>a<s\/b<s) (fun _ _=>True) q.1/\q.1.length<=1000*s) (fun q=>1000 - q.2.toNat) ⟨0,rfl,Nat.zero_le _,fun y=>?_,by simp⟩ (by simp) ?_
  ·constructor
   ·intro q;simp at q
   ·rintro⟨a,b,_,_,_,g,_⟩;omega
  rintro⟨u,q⟩ ⟨s,e3,hs,hu,hul⟩;simp only at e3 hu hul;subst e3;unfold vP;rw [zz];refine⟨fun c=>?_,fun c=>?_⟩
  ·have hs' : s < m.Rows.length := by simpa using c
   obtain⟨o3,e4,out3,t1,t2,rfl⟩:=znM h hs';obtain⟨q3,e5,out4,u1,u2,rfl⟩:=z6h h.vm h.cpl h.dist h.gg (by omega) (s:Int)
   have hso3:srt out4=srt out3:=z1a fun y=>by
    rw [u1 y,t1 y];constructor
    ·rintro ⟨a, b, g1, g2, _, g4, g5⟩
     refine⟨a,b,g1,g2,trivial,?_,g5⟩;rcases g4 with g|g|g
     ·omega
     ·exact .inl (by omega)
     ·exact .inr (by omega)
    ·rintro ⟨a, b, g1, g2, _, g4, g5⟩
     refine⟨a,b,g1,g2,trivial,?_,g5⟩;rcases g4 with g|g
     ·exact .inr (.inl (by omega))
     ·exact .inr (.inr (by omega))
   have hl3:=z4q out3;have hlen3:∀y∈srt out3,y.length+1<=m.Rows.length:=fun y hy=>(t1.len h.vm h.cpl h.dist (JI.1 hy)).1;unfold z3W;rw [bdT e4,show(((srt out3,(0:Int)).2) != 0)=false from rfl,cond_false,e5,Option.bind_some,Option.bind_some,hso3,bdT (zc9 (srt out3) (by omega) fun y hy=>by have:=hlen3 y hy;omega),show(!true)=false from rfl,cond_false,XE,hw s (by omega)]
   refine⟨by simp only;omega,ze.2 ⟨⟨s+1,rfl,hs',fun y=>?_,by simp only [List.length_append];omega⟩,by simp only [Int.toNat_natCast];omega⟩⟩
   simp only;rw [List.mem_append,hu y,JI,t1 y];constructor
   ·rintro (⟨a, b, g1, g2, _, g4, g5⟩ | ⟨a, b, g1, g2, _, g4, g5⟩)
    ·exact⟨a,b,g1,g2,trivial,by omega,g5⟩
    ·exact⟨a,b,g1,g2,trivial,by omega,g5⟩
   ·rintro ⟨a, b, g1, g2, _, g4, g5⟩
    by_cases e:a<s\/b<s
    ·exact .inl ⟨a,b,g1,g2,trivial,e,g5⟩
    ·exact .inr ⟨a,b,g1,g2,trivial,by omega,g5⟩
  ·have hs' : ¬ s < m.Rows.length := by simpa using c
   refine ze.2 ⟨u,rfl,by omega,fun y=>?_⟩
   rw [hu y];constructor
   ·rintro⟨a,b,g1,g2,_,_,g5⟩;exact⟨a,b,g1,g2,trivial,trivial,g5⟩
   ·rintro⟨a,b,g1,g2,_,_,g5⟩;exact⟨a,b,g1,g2,trivial,by omega,g5⟩
 refine main.mono fun r hr=>?_;obtain⟨u,rfl,u1,u2⟩:=hr;unfold qZ;simp only;have hL3:loop (fun s=>xM m (srt out,0) s) 0=some (.inl ()):=by
  rw [vO (srt out) (by omega) (step:=fun s=>xM m (srt out,0) s) (fun _ _=>none) ?_ ?_,Qy (fun _ _ _=>rfl)]
  ·rfl
  ·intro i y hy
   have hlt:=(List.getElem?_eq_some_iff.1 hy).1;have hyl:=hlen y (List.mem_of_getElem? hy);unfold xM;rw [decide_eq_true (by simp only;omega),cond_true,zQ]
   simp only;rw [bdT hy,zV (by omega) (by omega),decide_eq_false (by omega),cond_false]
   rfl
  ·unfold xM
   rw [decide_eq_false (by simp only;omega),cond_false]
 rw [bdT hL3];simp only;unfold qY;have hsu:srt u=srt out:=z1a fun y=>by rw [u2 y,o1 y]
 rw [bdT (zat (by omega) fun y hy=>by have:=(u2.len h.vm h.cpl h.dist hy).1;omega),hsu,bdT (zc9 (srt out) (by omega) fun y hy=>by have:=hlen y hy;omega),cond_true,z8I]
 exact ze.2 rfl
def z7O (w:World):zj:=fun b o=>ya w.heap b o
theorem z9V {w:World}{a:Addr}{v:Value}(h:w.cell? a=some v):a.spot=none/\ya w.heap a.block a.off=some v:=by
 unfold World.cell? at h;unfold ya;split at h
 ·rename_i c ty fr he
  rw [he];split at h
  ·cases h
  ·rename_i hs
   exact⟨by simpa using hs,h⟩
 ·cases h
section
variable {H:Type}{enc:TypeId×Value->H}{P:Program}{w:World}{base:Nat}{spare:Nat->Bool}{held:Bool}
theorem zdj {a:Addr}{n:Nat}{cs:List Value}(h:w.cells? base a n=some cs)(hn:0<n):a.spot=none/\cs.length=n/\z67 (z7O w) a.block a.off cs:=by
 obtain⟨_,h2,h3⟩:=World.cells?_some h;have h0:a.spot=none:=by
  have h4:=h3 0 hn;cases hc:cs[0]? with
  | none=>rw [List.getElem?_eq_none_iff]at hc;omega
  | some v=>
   rw [hc]at h4;have:=(z9V h4).1;simpa [Addr.add] using this
 refine⟨h0,h2,fun j v hj=>?_⟩;have hlt:=(List.getElem?_eq_some_iff.1 hj).1;have h4:=h3 j (by omega)
 rw [hj]at h4;have q:=(z9V h4).2;unfold Addr.add at q;split at q
 ·rename_i e;subst e;exact q
 ·exact q
theorem z8p {S:zj}:∀{bs:List A}{cs:List Value}{a:A}{c:List Value},ym S bs cs->Rep S a c->ym S (bs++[a]) (cs++c)
 | [],cs,a,c,h1,h2=>by
  simp only [ym]at h1;subst h1;simp only [List.nil_append,ym];exact⟨c,[],by simp,h2,rfl⟩
 | x::bs,cs,a,c,h1,h2=>by
  simp only [ym]at h1;obtain⟨c1,c2,rfl,r1,r2⟩:=h1;simp only [List.cons_append,ym];exact⟨c1,c2++c,by simp,r1,z8p r2 h2⟩
theorem zfa {S:zj}{b o:Nat}{c1 c2:List Value}(h1:z67 S b o c1)(h2:z67 S b (o+c1.length) c2):z67 S b o (c1++c2):=by
 intro j v hj;rcases Nat.lt_or_ge j c1.length with q|q
 ·rw [List.getElem?_append_left q] at hj
  exact h1 j v hj
 ·rw [List.getElem?_append_right q] at hj
  have:=h2 _ _ hj;rwa [show o+c1.length+(j - c1.length)=o+j by omega]at this
theorem z8d {α:Type}{t e sz:Nat}(f:α->A)(ok:α->Prop)(ht:P.underlying t=some (.slice e))(hsz:P.cellsOf e=sz)(h0:0<sz)(hf:∀a,(f a).size=sz)
    (hel:∀n cs x,DataW.trod enc P w base spare held n e cs=some x->∃a,ok a/\Rep (z7O w) (f a) cs)
    {fuel:Nat}{cs:List Value}{x:DataW H×List MemPlace}(h:DataW.trod enc P w base spare held fuel t cs=some x):∃l:List α,(∀a∈l,ok a)/\Rep (z7O w) (.sl sz false (l.map f)) cs:=by
  rcases DataW.trod_slice ht h with⟨rfl,_⟩|⟨a,len,cap,elems,rest,n,_,rfl,_,_,hlc,_,hlen,hall,_,_⟩
  · refine ⟨[], by simp, ?_⟩
    simp only [Rep,List.map_nil,List.length_nil];exact⟨none,0,rfl,by simp,Nat.le_refl _,by simp,.inl trivial⟩
  · have key:∀k,k<=len->∃(l:List α) (cells:List Value),l.length=k/\(∀a∈l,ok a)/\ym (z7O w) (l.map f) cells/\cells.length=k*sz/\(0<k->a.spot=none)/\z67 (z7O w) a.block a.off cells:=by
      intro k
      induction k with
      | zero=>intro _;exact⟨[],[],rfl,by simp,by simp [ym],by simp,by simp,fun j v h=>by simp at h⟩
      | succ k ih =>
        intro hk;obtain⟨l,cells,q1,q2,q3,q4,q5,q6⟩:=ih (by omega)
        have hk':=hall k (by omega)
        have hsome:elems[k]?=some elems[k]:=List.getElem?_eq_getElem (by omega)
        rw [hsome,Option.bind_eq_some_iff,hsz]at hk';obtain⟨c,hc,htr⟩:=hk';obtain⟨y,hy,hr⟩:=hel _ _ _ htr;obtain⟨g1,g2,g3⟩:=zdj hc h0;refine⟨l++[y],cells++c,by simp [q1],?_,?_,?_,?_,?_⟩
        · intro z hz
          rcases List.mem_append.1 hz with q|q
          · exact q2 z q
          · simp only [List.mem_cons,List.not_mem_nil,or_false]at q;subst q;exact hy
        · rw [List.map_append];exact z8p q3 hr
        · rw [List.length_append,q4,g2,Nat.succ_mul]
        · intro _
          rcases Nat.eq_zero_or_pos k with rfl|hk0
          · simpa [Addr.add] using g1
          · exact q5 hk0
        · refine zfa q6 ?_
          rw [q4];unfold Addr.add at g3;split at g3
          · rename_i e0
            rw [e0,Nat.add_zero];exact g3
          · exact g3
    obtain⟨l,cells,q1,q2,q3,q4,q5,q6⟩:=key len (Nat.le_refl _);refine⟨l,q2,?_⟩;simp only [Rep,List.length_map];refine⟨some a,cap,by rw [q1],by simp,by omega,?_,?_⟩
    · intro y hy
      obtain⟨z,_,rfl⟩:=List.mem_map.1 hy;exact hf z
    · rcases Nat.eq_zero_or_pos len with rfl | hl
      · left;rw [List.length_eq_zero_iff.1 q1];rfl
      · right
        refine⟨a.block,a.off,cells,?_,q3,q6⟩;have:=q5 hl;obtain⟨b,o,s⟩:=a;simp only at this;subst this;rfl
theorem zcU {t:Nat}{k:IntKind}{lo hi:Int}(ht:P.underlying t=some (.int k))(hlo:k.min=lo)(hhi:k.max=hi){fuel:Nat}{cs:List Value}{x:DataW H×List MemPlace}(h:DataW.trod enc P w base spare held fuel t cs=some x) :
  ∃n:Int,(lo<=n/\n<=hi)/\cs=[.int k n]/\Rep (z7O w) (.atom (.int k n)) cs:=by
 obtain⟨n,rfl,_,hw⟩:=DataW.trod_int ht h;simp only [Lit.wf,Bool.and_eq_true,decide_eq_true_eq,hlo,hhi]at hw;exact⟨n,hw,rfl,by simp only [Rep];exact⟨trivial,rfl⟩⟩
theorem z19 {t:Nat}{fs:List Field}(ht:P.underlying t=some (.struct ⟨fs⟩)){fuel:Nat}{cs:List Value}{x:DataW H×List MemPlace}(h:DataW.trod enc P w base spare held fuel t cs=some x) :
  cs.length=P.cellsOf t/\∀(i:Nat) (f:Field),fs[i]?=some f->∃n y,DataW.trod enc P w base spare held n f.type ((cs.drop f.offset).take (P.cellsOf f.type))=some y:=by
 obtain⟨xs,n,_,_,hl,hxl,hall⟩:=DataW.trod_struct ht h;refine⟨hl,fun i f hf=>?_⟩;have hlt:=(List.getElem?_eq_some_iff.1 hf).1;have:=hall i f (by simpa using hf)
 rw [List.getElem?_eq_getElem (by rw [hxl];simpa using hlt)]at this
 exact⟨n,_,this⟩
end
theorem UR {S:zj}{a:A}{bs:List A}{cs:List Value}{n:Nat}(h1:Rep S a (cs.take n))(h2:ym S bs (cs.drop n)):ym S (a::bs) cs:=by
 simp only [ym];exact⟨cs.take n,cs.drop n,(List.take_append_drop n cs).symm,h1,h2⟩
open Go.RowKit Go.ChangeShapes
theorem z8r {S:zj}(k:IntKind):∀l:List Int,ym S (l.map fun n=>A.atom (.int k n)) (l.map fun n=>Value.int k n)
 | []=>by simp [ym]
 | n::l=>by
  simp only [List.map_cons,ym,Rep];exact⟨[.int k n],_,rfl,⟨rfl,rfl⟩,z8r k l⟩
theorem zej {P:Program}{W:World}{n:String}{l:List Int}{r:List (String×DataW Unit)}{g:Nat}{t e:TypeId}{k:IntKind}{N:Nat}(h:laidMet P ((n,.agg (l.map fun x=>.lit (.int k x)))::r) W)
  (hg:P.globalNamed n=some g) (ht:(P.globals[g]?).map (·.type)=some t) (hu:P.underlying t=some (.array N e)) (he:P.underlying e=some (.int k)) (hc:P.cellsOf e=1) :
  ∀(j:Nat) (x:Int),l[j]?=some x->z7O W g j=some (.int k x):=by
 obtain⟨ps,⟨g0,t0,cs0,f0,p0,q0,hg0,ht0,hv0,hd0,_,_⟩,_,_⟩:=h;obtain rfl:=Option.some.inj (hg.symm.trans hg0);obtain rfl:=Option.some.inj (ht.symm.trans ht0);obtain⟨xs,m,_,hxs,hlen,hxl,hall⟩:=DataW.trod_array hu hd0;have hx1:l.map (fun x=>(DataW.lit (.int k x):DataW Unit))=xs.map (·.1):=by
  have:=(Prod.mk.inj hxs).1;injection this
 intro j x hj;have hjl:j<l.length:=(List.getElem?_eq_some_iff.1 hj).1;have hll:l.length=xs.length:=by simpa using congrArg List.length hx1
 have hjx:j<xs.length:=by omega
 have hy:xs[j]?=some xs[j]:=List.getElem?_eq_getElem hjx;have h1:=hall j (by omega)
 rw [hy,hc,Nat.mul_one]at h1;obtain⟨v,e1,e2,_⟩:=DataW.trod_int he h1;have e3:(xs.map (·.1))[j]?=some (.lit (.int k x)):=by rw [<-hx1,List.getElem?_map,hj];rfl
 rw [List.getElem?_map,hy,e2]at e3;have e4:v=x:=by
  simp only [Option.map_some,Option.some.injEq]at e3;injection e3 with e3;injection e3
 subst e4;have h2:cs0.toList[j]?=some (.int k v):=by
  have:=congrArg (fun q=>q[0]?) e1;simpa [List.getElem?_take,List.getElem?_drop] using this
 have h3:=World.var?_cell hg hv0 j;rw [show cs0[j]?=some (.int k v) by simpa using h2]at h3
 exact(z9V h3).2
section
open Go Go.ChangeShapes Go.WideShapes Go.ChangeAt Go.RowKit
theorem zcr {P:Program}{H:Type}{enc:TypeId×Value->H}{f:Func}{s:ChangeSpec}{apart fresh handsOn again:Bool}{W W':World}{args:Array Value}{v:Value}{ds:List (DataW H)}{pa:List MemPlace}
  (hvar:s.vars=[]) (hvars2:(s.fn H (ds++[])).vars=[]) (hW:DataW.Whole enc P f.params.toList s.vars apart W args.toList ds [] (pa++[])) (hb:Below W.heap.size W W')
  (hres:∀(b:Nat) (sp:Nat->Bool) (hd:Bool),DataW.TrodAll enc P W' b sp hd f.resultTypes.toList (v.resultList f.resultTypes.size) (s.fn H (ds++[])).results [])
  (hargs:∀sp:Nat->Bool,(∀p∈pa++[],sp p.block=true)->DataW.TrodAll enc P W' 0 sp true f.params.toList args.toList (s.fn H (ds++[])).args pa)
  (hok:∀(j:Nat) (t:TypeId) (r:Value),f.resultTypes[j]?=some t->(v.resultList f.resultTypes.size)[j]?=some r->Value.okWide P W' .any 0 t r) :
  s.post enc P f apart fresh handsOn again W args v W':=by
 have hlt:∀p∈pa++[],p.block<W.heap.size:=fun p hp=>by simpa using hW.lt p hp
 have hvr:∀sp:Nat->Bool,DataW.TrodVars enc P W' sp s.vars (s.fn H (ds++[])).vars []:=fun sp=>by rw [hvar,hvars2];rfl
 refine⟨ds,[],pa++[],[],pa,[],hW,hres _ _ _,hargs _ (fun p hp=>by simpa using hlt p hp),hvr _,World.keptBut_mono (fun _ q=>q.elim) (hb.frame fun _=>False),fun _=>?_⟩
 obtain⟨_,_,_,_,_,hz,hn⟩:=hW;refine⟨hok,_,_,([]++pa)++[],⟨[]++pa,[],trodAll_append (hargs _ (fun _ _=>rfl)) (hres _ _ _),hvr _,rfl,?_,?_⟩,?_⟩
 ·intro b off hp
  have hp':MemPlace.cell b off∈pa++[]:=by simpa using hp
  rw [hb.frozen (p:=⟨b,off,none⟩) (hlt _ hp')];exact hz b off hp'
 ·intro ha
  simpa using hn ha
 ·intro p hp _
  simpa using hp
end
theorem zer {P:Program}{k:Nat}{α ρ:Type}{enc:α->List A}{encR:ρ->A}{F:α->Option ρ}{gives:List Bool}{inj:∀x y,enc x=enc y->x=y}(h:(spF k enc encR F gives inj).Ok P){x:α}{r:ρ}(hr:F x=some r):Ur P k (enc x) (encR r):=by
 have:=h x ⟨r,hr⟩;simpa only [spF,hr] using this
section
variable {P:Program}{w:World}{r:Reach}{base t:Nat}{v:Value}
theorem zb2 {fs:Array Field}(hu:P.underlying t=some (.struct fs))(h:Value.okWide P w r base t v):v=.agg v.cells.toList.toArray:=by
 unfold Value.okWide at h;rw [hu]at h;obtain⟨cs,rfl,_⟩:=h;rfl
theorem z9y {fs:Array Field}{S:zj}{a:A}(hu:P.underlying t=some (.struct fs))(hr:Rep S a v.cells.toList)(h:Value.okWide P w r base t v)(ha:a.isAgg=true):uH S a v:=⟨_,hr,by cases a <;> first|exact zb2 hu h|cases ha⟩
theorem zfm {S:zj}{h:Array Obj}{v:Value}{F:List Nat}(q:Has S h (.atom (.bool true)) v F):v=.bool true:=by
 rcases q with⟨q,_⟩|⟨cs,q,_,rfl⟩
 ·rw [(zq.1 q).1]
 ·simp only [zK, Rep] at q
  obtain⟨⟨rfl,_⟩,_⟩:=q;rfl
end
open Go.Proofs
section
variable {H:Type}{enc:TypeId×Value->H}{w:World}{base:Nat}{spare:Nat->Bool}{held:Bool}
theorem zgn:Tryz.prog.cellsOf 5=1:=by kernel_rfl
theorem rd5 {fuel:Nat}{cs:List Value}{x:DataW H×List MemPlace}(h:DataW.trod enc Tryz.prog w base spare held fuel 5 cs=some x):∃a:Int,Ok5 a/\Rep (z7O w) ((eI .u8) a) cs:=by
 obtain⟨n,h1,_,h2⟩:=zcU Tryz.underlying5 (lo:=0) (hi:=255) rfl rfl h;exact⟨n,h1,h2⟩
theorem zi5:Tryz.prog.cellsOf 22=1:=by kernel_rfl
theorem zpG {fuel:Nat}{cs:List Value}{x:DataW H×List MemPlace}(h:DataW.trod enc Tryz.prog w base spare held fuel 22 cs=some x):∃a:List Int,zoY a/\Rep (z7O w) ((eSl 1 false (eI .u8)) a) cs:=by
 exact z8d (eI .u8) Ok5 Tryz.underlying22 zgn (by omega) (fun _=>rfl) (fun _ _ _ q=>rd5 q) h
theorem zfA:Tryz.prog.cellsOf 117=1:=by kernel_rfl
theorem zmU {fuel:Nat}{cs:List Value}{x:DataW H×List MemPlace}(h:DataW.trod enc Tryz.prog w base spare held fuel 117 cs=some x):∃a:Int,zik a/\Rep (z7O w) ((eI .u16) a) cs:=by
 obtain⟨n,h1,_,h2⟩:=zcU Tryz.underlying117 (lo:=0) (hi:=65535) rfl rfl h;exact⟨n,h1,h2⟩
theorem zi4:Tryz.prog.cellsOf 23=1:=by kernel_rfl
theorem zpF {fuel:Nat}{cs:List Value}{x:DataW H×List MemPlace}(h:DataW.trod enc Tryz.prog w base spare held fuel 23 cs=some x):∃a:List Int,zoX a/\Rep (z7O w) ((eSl 1 false (eI .u16)) a) cs:=by
 exact z8d (eI .u16) zik Tryz.underlying23 zfA (by omega) (fun _=>rfl) (fun _ _ _ q=>zmU q) h
theorem zdk:Tryz.prog.cellsOf 25=5:=by kernel_rfl
theorem zpE {fuel:Nat}{cs:List Value}{x:DataW H×List MemPlace}(h:DataW.trod enc Tryz.prog w base spare held fuel 25 cs=some x):∃a:zD,zoW a/\Rep (z7O w) ((Zo (eI .u8) (eI .u8) (eI .u8) (eSl 1 false (eI .u8)) (eSl 1 false (eI .u16))) a) cs:=by
 obtain⟨hl,hf⟩:=z19 Tryz.underlying25 h;rw [zdk]at hl;obtain⟨_,_,q0⟩:=hf 0 _ rfl;obtain⟨_,_,q1⟩:=hf 1 _ rfl;obtain⟨_,_,q2⟩:=hf 2 _ rfl;obtain⟨_,_,q3⟩:=hf 3 _ rfl;obtain⟨_,_,q4⟩:=hf 4 _ rfl;simp only [zi5,zi4,zgn]at q0 q1 q2 q3 q4;obtain⟨a0,k0,r0⟩:=rd5 q0;obtain⟨a1,k1,r1⟩:=rd5 q1;obtain⟨a2,k2,r2⟩:=rd5 q2;obtain⟨a3,k3,r3⟩:=zpG q3;obtain⟨a4,k4,r4⟩:=zpF q4;refine⟨⟨a0,a1,a2,a3,a4⟩,⟨k0,k1,k2,k3,k4⟩,?_⟩
 show Rep (z7O w) (.agg [(eI .u8) a0,(eI .u8) a1,(eI .u8) a2,(eSl 1 false (eI .u8)) a3,(eSl 1 false (eI .u16)) a4]) cs
 simp only [Rep];refine UR (n:=1) (by simpa [List.drop_drop] using r0) (UR (n:=1) (by simpa [List.drop_drop] using r1) (UR (n:=1) (by simpa [List.drop_drop] using r2) (UR (n:=1) (by simpa [List.drop_drop] using r3) (UR (n:=1) (by simpa [List.drop_drop] using r4) ?_))))
 simp only [List.drop_drop,ym];exact List.drop_eq_nil_of_le (by omega)
theorem zi3:Tryz.prog.cellsOf 27=5:=by kernel_rfl
theorem zpD {fuel:Nat}{cs:List Value}{x:DataW H×List MemPlace}(h:DataW.trod enc Tryz.prog w base spare held fuel 27 cs=some x):∃a:uE,zoV a/\Rep (z7O w) ((Zn (Zo (eI .u8) (eI .u8) (eI .u8) (eSl 1 false (eI .u8)) (eSl 1 false (eI .u16)))) a) cs:=by
 obtain⟨hl,hf⟩:=z19 Tryz.underlying27 h;rw [zi3]at hl;obtain⟨_,_,q0⟩:=hf 0 _ rfl;simp only [zdk]at q0;obtain⟨a0,k0,r0⟩:=zpE q0;refine⟨⟨a0⟩,k0,?_⟩
 show Rep (z7O w) (.agg [(Zo (eI .u8) (eI .u8) (eI .u8) (eSl 1 false (eI .u8)) (eSl 1 false (eI .u16))) a0]) cs
 simp only [Rep];refine UR (n:=5) (by simpa [List.drop_drop] using r0) ?_
 simp only [ym];exact List.drop_eq_nil_of_le (by omega)
end
end Go.Own
namespace Go.Proofs.YtcodjgfoodacaaaGreatDoor.identsAll
open Go Go.ChangeShapes Go.WideShapes Go.ChangeAt Go.RowKit
theorem own:ownKnob Tryz.prog.godebug=none:=by kernel_rfl
theorem zhM:laidOutB Tryz.prog=true:=by kernel_rfl
section
variable {H:Type}{enc:TypeId×Value->H}{W:World}
theorem zfo {W:World}(hL:laidMetH Tryz.prog Rows.identsAllRow.laid W):Go.Own.Gok (Go.Own.z7O W):=by
 rw [MakeChecks.laidMetH_plain _ _ _ (by kernel_rfl)]at hL
 obtain⟨x0,hx⟩:∃x0,Rows.identsAllRow.laid=x0::[("math/bits.deBruijn64tab",.agg (Go.Own.zng.map fun n=>.lit (.int .u8 n)))]:=⟨_,rfl⟩
 rw [hx]at hL;have hl:=Go.Own.zej (hL.tail) (g:=1) (by kernel_rfl) (t:=162) (by kernel_rfl) Tryz.underlying162 Tryz.underlying5 (by kernel_rfl)
 intro g x e;unfold Go.Own.zms at e;split at e
 ·rename_i h0
  subst h0;cases e;refine⟨_,(by simp only [Go.Own.Rep];exact Go.Own.z8r _ _),fun j v hj=>?_⟩
  rw [List.getElem?_map]at hj;obtain⟨y,hy,rfl⟩:=Option.map_eq_some_iff.1 hj;rw [Nat.zero_add];exact hl j y hy
 ·cases e
set_option maxRecDepth 100000 in
theorem zpk {base:Nat}(hL:laidMetH Tryz.prog Rows.identsAllRow.laid W){v0:Value}{d0:DataW H}{p0:List MemPlace}(h0:DataW.Trod enc Tryz.prog W 0 (fun _=>true) true 27 v0 d0 p0)(k0:Value.okWide Tryz.prog W .any base (27:Nat) v0) :
  Calls Tryz.prog 3 #[v0] W fun e w'=>e=.returned (.bool true)/\Go.Own.Up (fun k=>W.heap.size<=k) W w':=by
 obtain⟨n0,h0⟩:=h0;obtain⟨x0,o0,r0⟩:=Go.Own.zpD h0;have q:=(Go.Own.zer (Go.Own.zbm Go.Own.zil List.mem_cons_self:Go.Own.Yd.Ok Tryz.prog) (x:=x0) (r:=true) (Go.Own.zfh o0)).2 (Go.Own.z7O W) W [v0] [] ⟨fun _ _ _ h=>h,zfo hL⟩ ?_ (by simp)
 ·refine Calls.mono q ?_
  rintro e w' ⟨v,S',F',rfl,hk,_,_,_,hr,_,_⟩;refine⟨?_,hk.mono (by rintro k (h|h) <;> simp_all)⟩
  rw [Go.Own.zfm hr]
 ·refine Go.Own.Vy ?_
  have g0:Go.Own.uH (Go.Own.z7O W) ((Go.Own.Zn (Go.Own.Zo (Go.Own.eI .u8) (Go.Own.eI .u8) (Go.Own.eI .u8) (Go.Own.eSl 1 false (Go.Own.eI .u8)) (Go.Own.eSl 1 false (Go.Own.eI .u16)))) x0) v0:=Go.Own.z9y (t:=(27:Nat)) Tryz.underlying27 r0 k0 rfl;exact⟨g0,trivial⟩
end
set_option maxRecDepth 100000 in
theorem zfu (os:Os)(args:Array Value):laidMetH Tryz.prog Rows.identsAllRow.laid ((World.doorLaid Tryz.prog 400 os).forCall (fun _ _=>0) ⟨#[],args,[]⟩).memory :=
 laidMetH_of_parts3 (fuel:=8) (laidMet_of_run' 8 (by kernel_rfl) (by kernel_rfl)) (by kernel_rfl) (by kernel_rfl)
set_option maxRecDepth 100000 in
theorem zjY (os:Os)(started:os.Started)(H:Type)(enc:TypeId×Value->H) :
  ReturnsInHanded {} Tryz.checked os 3 .any (fun w args=>(Rows.identsAllSpec.pre enc Tryz.prog Tryz.f3 Rows.identsAllRow.domain false w args/\laidMetH Tryz.prog Rows.identsAllRow.laid w)/\sizedMet enc Tryz.prog Tryz.f3 (OpenSpec.ofChange Rows.identsAllSpec) false w args) (Rows.identsAllSpec.post enc Tryz.prog Tryz.f3 false true false false):=by
 refine returnsInHanded_of_change_and (C:=Tryz.checked) (X:=fun w _=>laidMetH Tryz.prog Rows.identsAllRow.laid w) (fun _ _ _ hh h=>h.of_heap hh) own started (by kernel_rfl) Tryz.func3
  (ChangeSpec.witness_shaped (enc:=enc) (C:=Tryz.checked) (os:=os) (X:=fun w _=>laidMetH Tryz.prog Rows.identsAllRow.laid w) false (World.doorLaid Tryz.prog 400 os) #[.agg #[.int .u8 0,.int .u8 0,.int .u8 0,.slice none 0 0,.slice none 0 0]] 8 rfl (World.shaped_of_RefB (by kernel_rfl) (by kernel_rfl)) (by kernel_rfl) (by kernel_rfl) (by kernel_rfl) (zfu os _)) ?_
 intro W base args ds gs before hval0 hW hcnd _ hL _;have hval:∀(j:Nat) t v,Tryz.f3.params[j]?=some t->args[j]?=some v->Value.okWide Tryz.prog W .any base t v:=hval0;have hW':=hW;obtain⟨p,q,hA0,hV,rfl,hfz,hnd⟩:=hW;have hA:DataW.TrodAll enc Tryz.prog W 0 (fun _=>true) true Tryz.f3.params.toList args.toList ds p:=hA0;rw [Tryz.params3]at hA hval;obtain⟨v0,d0,rfl,rfl,h0⟩:=trodAll_one hA;obtain⟨rfl,rfl⟩:=trodVars_none hV;clear hA0 hval0
 refine(zpk hL h0 (hval 0 (27:Nat) v0 rfl rfl)).mono fun e W' ⟨he,hk⟩=>?_;subst he;have hb:Below W.heap.size W W':=⟨hk.os,hk.tape,hk.output,hk.size,fun k q=>hk.block k (by omega)⟩
 have hlt:∀x∈p,x.block<W.heap.size:=fun x hx=>by simpa using hW'.lt x (by simpa using hx)
 refine⟨_,rfl,Go.Own.zcr rfl rfl hW' hb (fun _ _ _=>trodAll_cons_mk (shut_bool Tryz.underlying4 _) trodAll_mk0) (fun sp hsp=>?_) (ok_one (by kernel_rfl) rfl (okWide_bool_mk Tryz.underlying4 _))⟩
 have st:∀{t:Nat}{v:Value}{d:DataW H}{p':List MemPlace},DataW.Trod enc Tryz.prog W 0 (fun _=>true) true t v d p'->Tryz.prog.readableRec t=true->t<Tryz.prog.types.size->(∀x∈p',x∈p)->DataW.Trod enc Tryz.prog W' 0 sp true t v d p':=by
  intro t v d p' hd h1 h2 hp;exact WideElems.Trod_stays zhM h1 h2 hd (fun x hx=>hb.same (hlt x (hp x hx))) (fun x hx=>hsp x (by simpa using hp x hx))
 have:=trodAll_mk1 (st h0 (by kernel_rfl) (of_decide_eq_true (by kernel_rfl)) (fun x hx=>by simp [hx]))
 rw [Tryz.params3];exact this
theorem JE:Rows.identsAllRow.holds Tryz.pinned (OpenSpec.ofChange Rows.identsAllSpec) :=
 OpenClaim.holds_of_wide 3 Tryz.f3 rfl rfl rfl rfl rfl rfl rfl ⟨rfl,rfl,rfl,rfl,rfl⟩ rfl rfl rfl rfl rfl (by kernel_rfl) Tryz.func3 (by kernel_rfl)
  (of_decide_eq_true (by kernel_rfl)) (by unfold Func.isWrapper;first|(rw [if_pos (by decide +kernel)];kernel_rfl)|(rw [if_neg (by decide +kernel)];exact⟨rfl,rfl⟩))
  (fun os started H enc _=>zjY os started H enc)
theorem proved:Rows.IdentsAllCardSaid :=
 Claim7.holds_tied_plain_at .later [] [.data,.data] true (true,"715c2141db8d2242eb7f34f812cc2666e7c04bdf1baf18ebf980598cb96d27b9") false
  JE (fun _ h=>by cases h) (by kernel_rfl) (fun _ h=>by cases h) identsAll_row_tie rfl ⟨rfl,rfl⟩ (by kernel_rfl) rfl
  (fun f fn hf hfn => by
   obtain rfl:f=3:=Option.some.inj ((show Tryz.prog.funcNamed "gauntlet/gauntletlaw14.IdentsAll"=some 3 by kernel_rfl).symm.trans hf) |>.symm
   obtain rfl:fn=Tryz.f3:=(Option.some.inj (Tryz.func3.symm.trans hfn)).symm;exact⟨by kernel_rfl,fun j t ht=>by
    rw [Tryz.params3]at ht;have hm:t∈[27]:=by simpa using Array.mem_of_getElem? ht
    have hall:([27].all fun u=>!Tryz.prog.wantsStandIn u)=true:=by kernel_rfl
    exact(show Tryz.prog.wantsStandIn t=false by simpa using List.all_eq_true.1 hall t hm)⟩)
  (by kernel_rfl)
#print axioms proved
end Go.Proofs.YtcodjgfoodacaaaGreatDoor.identsAll
