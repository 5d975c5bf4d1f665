/- -/
import Derived.Test.YtkalhfmehmcofaaGreatPartB
import Derived.OpenShut
import Derived.ChangeShapes
import Derived.Test.YtkalhfmehmcofaaGreatPartC
import Derived.WalkKit
import Derived.ProofKit
import Derived.Carry
import Derived.Test.YtkalhfmehmcofaaGreatPartG
import Derived.Test.YtkalhfmehmcofaaGreatPartI
import Derived.Test.YtkalhfmehmcofaaGreatRows
import Derived.Test.YtkalhfmehmcofaaGreatChecked
set_option linter.unusedVariables false
set_option linter.defProp false
set_option linter.unusedSimpArgs false
namespace Go.Own
open Go.Proofs.Tryz
def z2k (w:World):zf:=λb o=>zU w.heap b o
variable {v:Value}
def zdb {w:World}{a:Addr}  (h:w.cell? a=some v):a.spot=none/\zU w.heap a.block a.off=some v:=by
 unfold World.cell? at h;unfold zU;split at h
 ·rename_i c ty fr he;rw[he];split at h
  ·cases h
  rename_i hs;exact⟨ξ hs,h⟩
 cases h
variable {cs:TE}{S:zf}{n:Nat}
section
variable {H:Type}{enc:TypeId×Value->H}{P:Program}{w:World}{base:Nat}{spare:Nat->Bool}{held:Bool}
def zd8 {a:Addr}   (h:w.cells? base a n=some cs)(hn:0<n):a.spot=none/\cs.length=n/\z4h (z2k w) a.block a.off cs:=by
 have ⟨_,h2,h3⟩:=World.cells?_some h;have h0:a.spot=none:=by
  have h4:=h3 0 hn;cases hc:cs[0]? with
  |none=>rw[List.getElem?_eq_none_iff]at hc;omega
  |some v=>rw[hc]at h4;have:=(zdb h4).1;simpa[Addr.add] using this
 refine⟨h0,h2,λj v hj=>?_⟩;have hlt:=(pC.1 hj).1;have h4:=h3 j ω;rw[hj]at h4;have q:=(zdb h4).2;unfold Addr.add at q;split at q
 ·rename_i e;subst e;exact q
 exact q
def z6X:∀{bs:List A} {cs:TE} {a:A} {c:TE},zX S bs cs->Rep S a c->zX S (bs++[a]) (cs++c)
 |[],cs,a,c,h1,h2=>by simp only[zX]at h1;subst h1;simp only[mA,zX];exact⟨c,[],ς,h2,rfl⟩
 |x::bs,cs,a,c,h1,h2=>by simp only[zX]at h1;obtain⟨c1,c2,rfl,r1,r2⟩:=h1;simp only[gX,zX];exact⟨c1,c2++c,ς,r1,z6X r2 h2⟩
def zfN {b o:Nat}{c1 c2:TE}(h1:z4h S b o c1)(h2:z4h S b (o+c1.length) c2):z4h S b o (c1++c2):=by
 intro j v hj;rcases pM j c1.length with q|q
 ·rw[pI q]at hj;exact h1 j v hj
 rw[pH q]at hj;have:=h2 _ _ hj;rwa[show o+c1.length+(j-c1.length)=o+j by omega]at this
def z2L {α:Type}{t e sz:Nat}(f:α->A)(ok:α->Prop)(ht:P.underlying t=some (.slice e))(hsz:P.cellsOf e=sz)(h0:0<sz)(hf:∀a,(f a).size=sz)
    (hel:∀n cs x,DataW.trod enc P w base spare held n e cs=some x->∃a,ok a/\Rep (z2k w) (f a) cs)
    {Vn:Nat} {cs:TE} {x:DataW H×List MemPlace} (h:DataW.trod enc P w base spare held Vn t cs=some x):∃l:List α,(∀a∈l,ok a)/\Rep (z2k w) (.sl sz false (l.map f)) cs:=by
  rcases DataW.trod_slice ht h with⟨rfl,_⟩|⟨a,len,cap,elems,rest,n,_,rfl,_,_,hlc,_,hlen,hall,_,_⟩
  · refine⟨[],ς,?_⟩;simp only[Rep,rB,List.length_nil];exact⟨none,0,rfl,ς,pF _,ς,.inl trivial⟩
  have key:∀k,k<=len->∃(l:List α) (cells:TE),l.length=k/\(∀a∈l,ok a)/\zX (z2k w) (l.map f) cells/\cells.length=k*sz/\(0<k->a.spot=none)/\z4h (z2k w) a.block a.off cells:=by
    intro k;induction k with
    |zero=>intro _;exact⟨[],[],rfl,ς,by simp[zX],ς,ς,λj v h=>by simp at h⟩
    | succ k ih=>
      intro hk;have ⟨l,cells,q1,q2,q3,q4,q5,q6⟩:=ih ω;have hk':=hall k ω;have hsome:elems[k]?=some elems[k]:=pB ω;rw[hsome,Option.bind_eq_some_iff,hsz]at hk';have ⟨c,hc,htr⟩:=hk';have ⟨y,hy,hr⟩:=hel _ _ _ htr;have ⟨g1,g2,g3⟩:=zd8 hc h0;refine⟨l++[y],cells++c,by simp[q1],?_,?_,?_,?_,?_⟩
      · intro z hz;rcases pD.1 hz with q|q
        · exact q2 z q
        simp only[pG,gF,or_false]at q;subst q;exact hy
      · rw[gU];exact z6X q3 hr
      · rw[pW,q4,g2,sI]
      · intro _;rcases rG k with rfl|hk0
        · simpa[Addr.add] using g1
        exact q5 hk0
      refine zfN q6 ?_;rw[q4];unfold Addr.add at g3;split at g3
      · rename_i e0;rw[e0,mV];exact g3
      exact g3
  have ⟨l,cells,q1,q2,q3,q4,q5,q6⟩:=key len (pF _);refine⟨l,q2,?_⟩;simp only[Rep,gD];refine⟨some a,cap,by rw[q1],ς,ω,?_,?_⟩
  · intro y hy;obtain⟨z,_,rfl⟩:=pY.1 hy;exact hf z
  rcases rG len with rfl|hl
  · left;rw[ri.1 q1];rfl
  right;refine⟨a.block,a.off,cells,?_,q3,q6⟩;have:=q5 hl;have ⟨b,o,s⟩:=a;simp only at this;subst this;rfl
def zcG {t:Nat}{k:IntKind}{lo hi:Int}(ht:P.underlying t=some (.int k))(hlo:k.min=lo)(hhi:k.max=hi){Vn:Nat}  {x:DataW H×List MemPlace}(h:DataW.trod enc P w base spare held Vn t cs=some x) :
  ∃n:Int,(lo<=n/\n<=hi)/\cs=[.int k n]/\Rep (z2k w) (.atom (.int k n)) cs:=by
 obtain⟨n,rfl,_,hw⟩:=DataW.trod_int ht h;simp only[Lit.wf,pN,decide_eq_true_eq,hlo,hhi]at hw;exact⟨n,hw,rfl,by simp only[Rep];exact⟨trivial,rfl⟩⟩
def Ud {t:Nat}{fs:List Field}(ht:P.underlying t=some (.struct ⟨fs⟩)){Vn:Nat}  {x:DataW H×List MemPlace}(h:DataW.trod enc P w base spare held Vn t cs=some x) :
  cs.length=P.cellsOf t/\∀(i:Nat) (f:Field),fs[i]?=some f->∃n y,DataW.trod enc P w base spare held n f.type ((cs.drop f.offset).take (P.cellsOf f.type))=some y:=by
 have ⟨xs,n,_,_,hl,hxl,hall⟩:=DataW.trod_struct ht h;refine⟨hl,λi f hf=>?_⟩;have hlt:=(pC.1 hf).1;have:=hall i f (ξ hf);rw[pB (by rw[hxl];simpa using hlt)]at this;exact⟨n,_,this⟩
end
variable {a:A}
def q9 {bs:List A}   (h1:Rep S a (cs.take n))(h2:zX S bs (cs.drop n)):zX S (a::bs) cs:=by simp[zX];exact⟨cs.take n,cs.drop n,(mE n cs).symm,h1,h2⟩
variable {P:Program}
section
open Go Go.ChangeShapes Go.WideShapes Go.ChangeAt Go.RowKit
def zbZ {P:Program}{H:Type}{enc:TypeId×Value->H}{f:Func}{s:ChangeSpec}{apart fresh handsOn again:Bool}{W W':World}{args:Array Value}{v:Value}{ds:List (DataW H)}{pa:List MemPlace}
  (hvar:s.vars=[]) (hvars2:(s.fn H (ds++[])).vars=[]) (hW:DataW.Whole enc P f.params.toList s.vars apart W args.toList ds [] (pa++[])) (hb:Below W.heap.size W W')
  (hres:∀(b:Nat) (sp:Nat->Bool) (hd:Bool),DataW.TrodAll enc P W' b sp hd f.resultTypes.toList (v.resultList f.resultTypes.size) (s.fn H (ds++[])).results [])
  (hargs:∀sp:Nat->Bool,(∀p∈pa++[],sp p.block=true)->DataW.TrodAll enc P W' 0 sp true f.params.toList args.toList (s.fn H (ds++[])).args pa)
  (hok:∀(j:Nat) (t:TypeId) (r:Value),f.resultTypes[j]?=some t->(v.resultList f.resultTypes.size)[j]?=some r->Value.okWide P W' .any 0 t r) :
  s.post enc P f apart fresh handsOn again W args v W':=by
 have hlt:∀p∈pa++[],p.block<W.heap.size:=λp hp=>by simpa using hW.lt p hp
 have hvr:∀sp:Nat->Bool,DataW.TrodVars enc P W' sp s.vars (s.fn H (ds++[])).vars []:=λsp=>by rw[hvar,hvars2];rfl
 refine⟨ds,[],pa++[],[],pa,[],hW,hres _ _ _,hargs _ (λp hp=>by simpa using hlt p hp),hvr _,World.keptBut_mono (λ_ q=>q.elim) (hb.frame λ_=>False),λ_=>?_⟩;have ⟨_,_,_,_,_,hz,hn⟩:=hW;refine⟨hok,_,_,([]++pa)++[],⟨[]++pa,[],trodAll_append (hargs _ (λ_ _=>rfl)) (hres _ _ _),hvr _,rfl,?_,?_⟩,?_⟩
 ·intro b off hp;have hp':MemPlace.cell b off∈pa++[]:=ξ hp
  rw[hb.frozen (p:=⟨b,off,none⟩) (hlt _ hp')];exact hz b off hp'
 ·intro ha;simpa using hn ha
 intro p hp _;simpa using hp
end
def zf7 {k:Nat}{α ρ:Type}{enc:α->List A}{encR:ρ->A}{F:α->Option ρ}{gives:List Bool}{inj:∀x y,enc x=enc y->x=y}(h:(spF k enc encR F gives inj).Ok P){x:α}{r:ρ}(hr:F x=some r):uR P k (enc x) (encR r):=by have:=h x ⟨r,hr⟩;simpa only[spF,hr] using this
variable {fs:Array Field}{e:TypeId}
section
variable {P:Program}{w:World}{r:Reach}{base t:Nat}{v:Value}
def zaw (hu:P.underlying t=some (.struct fs))(h:Value.okWide P w r base t v):v=.agg v.cells.toList.toArray:=by unfold Value.okWide at h;rw[hu]at h;obtain⟨cs,rfl,_⟩:=h;rfl
def zbg (hu:P.underlying t=some (.array n e))(h:Value.okWide P w r base t v):v=.agg v.cells.toList.toArray:=by unfold Value.okWide at h;rw[hu]at h;obtain⟨cs,rfl,_⟩:=h;rfl
def z2V (hu:P.underlying t=some (.struct fs))(hr:Rep S a v.cells.toList)(h:Value.okWide P w r base t v)(ha:a.isAgg=true):wX S a v:=⟨_,hr,by cases a<;>first|exact zaw hu h|cases ha⟩
def zaJ (hu:P.underlying t=some (.array n e))(hr:Rep S a v.cells.toList)(h:Value.okWide P w r base t v)(ha:a.isAgg=true):wX S a v:=⟨_,hr,by cases a<;>first|exact zbg hu h|cases ha⟩
def zfX {h:Array Obj}  {F:TC}(q:Has S h (.atom (.bool true)) v F):v=.bool true:=by
 rcases q with⟨q,_⟩|⟨cs,q,_,rfl⟩
 ·rw[(zo.1 q).1]
 simp[zD,Rep]at q;obtain⟨⟨rfl,_⟩,_⟩:=q;rfl
end
open Go.Proofs
section
variable {H:Type}{enc:TypeId×Value->H}{w:World}{base:Nat}{spare:Nat->Bool}{held:Bool}
def za9:prog.cellsOf 5=1:=by kernel_rfl
def rd5 {Vn:Nat}  {x:DataW H×List MemPlace}(h:DataW.trod enc prog w base spare held Vn 5 cs=some x):∃a:Int,Ok5 a/\Rep (z2k w) ((eI .u8) a) cs:=by obtain⟨n,h1,_,h2⟩:=zcG underlying5 (lo:=0) (hi:=255) rfl rfl h;exact⟨n,h1,h2⟩
def zda:prog.cellsOf 22=1:=by kernel_rfl
def zpM {Vn:Nat}  {x:DataW H×List MemPlace}(h:DataW.trod enc prog w base spare held Vn 22 cs=some x):∃a:TB,zng a/\Rep (z2k w) ((eSl 1 false (eI .u8)) a) cs:=by exact z2L (eI .u8) Ok5 underlying22 za9 ω (λ_=>rfl) (λ_ _ _ q=>rd5 q) h
def zgh:prog.cellsOf 121=1:=by kernel_rfl
def znM {Vn:Nat}  {x:DataW H×List MemPlace}(h:DataW.trod enc prog w base spare held Vn 121 cs=some x):∃a:Int,zjR a/\Rep (z2k w) ((eI .u16) a) cs:=by obtain⟨n,h1,_,h2⟩:=zcG underlying121 (lo:=0) (hi:=65535) rfl rfl h;exact⟨n,h1,h2⟩
def zjw:prog.cellsOf 23=1:=by kernel_rfl
def zqz {Vn:Nat}  {x:DataW H×List MemPlace}(h:DataW.trod enc prog w base spare held Vn 23 cs=some x):∃a:TB,zqi a/\Rep (z2k w) ((eSl 1 false (eI .u16)) a) cs:=by exact z2L (eI .u16) zjR underlying23 zgh ω (λ_=>rfl) (λ_ _ _ q=>znM q) h
def zd9:prog.cellsOf 25=5:=by kernel_rfl
def zqy {Vn:Nat}  {x:DataW H×List MemPlace}(h:DataW.trod enc prog w base spare held Vn 25 cs=some x):∃a:yf,zqh a/\Rep (z2k w) ((jQ (eI .u8) (eI .u8) (eI .u8) (eSl 1 false (eI .u8)) (eSl 1 false (eI .u16))) a) cs:=by obtain⟨hl,hf⟩:=Ud underlying25 h;rw[zd9]at hl;obtain⟨_,_,q0⟩:=hf 0 _ rfl;obtain⟨_,_,q1⟩:=hf 1 _ rfl;obtain⟨_,_,q2⟩:=hf 2 _ rfl;obtain⟨_,_,q3⟩:=hf 3 _ rfl;obtain⟨_,_,q4⟩:=hf 4 _ rfl;simp only[zda,zjw,za9]at q0 q1 q2 q3 q4;obtain⟨a0,k0,r0⟩:=rd5 q0;obtain⟨a1,k1,r1⟩:=rd5 q1;obtain⟨a2,k2,r2⟩:=rd5 q2;obtain⟨a3,k3,r3⟩:=zpM q3;obtain⟨a4,k4,r4⟩:=zqz q4;refine⟨⟨a0,a1,a2,a3,a4⟩,⟨k0,k1,k2,k3,k4⟩,?_⟩;show Rep (z2k w) (.agg [(eI .u8) a0,(eI .u8) a1,(eI .u8) a2,(eSl 1 false (eI .u8)) a3,(eSl 1 false (eI .u16)) a4]) cs;simp only[Rep];refine q9 (n:=1) (by simpa[mF] using r0) (q9 (n:=1) (by simpa[mF] using r1) (q9 (n:=1) (by simpa[mF] using r2) (q9 (n:=1) (by simpa[mF] using r3) (q9 (n:=1) (by simpa[mF] using r4) ?_))));simp only[mF,zX];exact mI ω
def zjv:prog.cellsOf 27=5:=by kernel_rfl
def zqx {Vn:Nat}  {x:DataW H×List MemPlace}(h:DataW.trod enc prog w base spare held Vn 27 cs=some x):∃a:ZL,zqg a/\Rep (z2k w) ((ZI (jQ (eI .u8) (eI .u8) (eI .u8) (eSl 1 false (eI .u8)) (eSl 1 false (eI .u16)))) a) cs:=by obtain⟨hl,hf⟩:=Ud underlying27 h;rw[zjv]at hl;obtain⟨_,_,q0⟩:=hf 0 _ rfl;simp only[zd9]at q0;obtain⟨a0,k0,r0⟩:=zqy q0;refine⟨⟨a0⟩,k0,?_⟩;show Rep (z2k w) (.agg [(jQ (eI .u8) (eI .u8) (eI .u8) (eSl 1 false (eI .u8)) (eSl 1 false (eI .u16))) a0]) cs;simp only[Rep];refine q9 (n:=5) (by simpa[mF] using r0) ?_;simp only[zX];exact mI ω
def zju:prog.cellsOf 28=1:=by kernel_rfl
def zqw {Vn:Nat}  {x:DataW H×List MemPlace}(h:DataW.trod enc prog w base spare held Vn 28 cs=some x):∃a:TA,zqf a/\Rep (z2k w) ((eSl 1 false (eSl 1 false (eI .u8))) a) cs:=by exact z2L (eSl 1 false (eI .u8)) zng underlying28 zda ω (λ_=>rfl) (λ_ _ _ q=>zpM q) h
def zjt:prog.cellsOf 30=2:=by kernel_rfl
def zqv {Vn:Nat}  {x:DataW H×List MemPlace}(h:DataW.trod enc prog w base spare held Vn 30 cs=some x):∃a:xQ,zqe a/\Rep (z2k w) ((YP (eI .u8) (eSl 1 false (eSl 1 false (eI .u8)))) a) cs:=by obtain⟨hl,hf⟩:=Ud underlying30 h;rw[zjt]at hl;obtain⟨_,_,q0⟩:=hf 0 _ rfl;obtain⟨_,_,q1⟩:=hf 1 _ rfl;simp only[zju,za9]at q0 q1;obtain⟨a0,k0,r0⟩:=rd5 q0;obtain⟨a1,k1,r1⟩:=zqw q1;refine⟨⟨a0,a1⟩,⟨k0,k1⟩,?_⟩;show Rep (z2k w) (.agg [(eI .u8) a0,(eSl 1 false (eSl 1 false (eI .u8))) a1]) cs;simp only[Rep];refine q9 (n:=1) (by simpa[mF] using r0) (q9 (n:=1) (by simpa[mF] using r1) ?_);simp only[mF,zX];exact mI ω
def zjs:prog.cellsOf 58=3:=by kernel_rfl
def zqu {Vn:Nat}  {x:DataW H×List MemPlace}(h:DataW.trod enc prog w base spare held Vn 58 cs=some x):∃a:zdS Int,zqd a/\Rep (z2k w) ((z4c (eI .u8)) a) cs:=by
 obtain⟨xs,m,_,_,hl,hx,hall⟩:=DataW.trod_array underlying58 h;rw[zjs]at hl;rw[za9]at hall;have get:∀i,i<3->∃n:Int,Ok5 n/\Rep (z2k w) ((eI .u8) n) ((cs.drop (i*1)).take 1):=by intro i hi;have q:=hall i hi;rw[pB ω]at q;exact rd5 q
 obtain⟨a0,k0,r0⟩:=get 0 ω;obtain⟨a1,k1,r1⟩:=get 1 ω;obtain⟨a2,k2,r2⟩:=get 2 ω;refine⟨⟨a0,a1,a2⟩,⟨k0,k1,k2⟩,?_⟩;show Rep (z2k w) (.agg [(eI .u8) a0,(eI .u8) a1,(eI .u8) a2]) cs;simp only[Rep];refine q9 (n:=1) (by simpa[mF] using r0) (q9 (n:=1) (by simpa[mF] using r1) (q9 (n:=1) (by simpa[mF] using r2) ?_));simp only[mF,zX];exact mI ω
end
end Go.Own
namespace Go.Proofs.YtkalhfmehmcofaaGreat.gapsSuite
open Go.Proofs.Tryz
open Go Go.ChangeShapes Go.WideShapes Go.ChangeAt Go.RowKit
def own:ownKnob prog.godebug=none:=by kernel_rfl
def zj3:laidOutB prog=true:=by kernel_rfl
section
variable {H:Type}{enc:TypeId×Value->H}{W:World}
set_option maxRecDepth 100000 in
def zqq {base:Nat}{v0:Value}{d0:DataW H}{p0:List MemPlace}{v1:Value}{d1:DataW H}{p1:List MemPlace}{v2:Value}{d2:DataW H}{p2:List MemPlace}(h0:DataW.Trod enc prog W 0 (λ_=>true) true 27 v0 d0 p0)(h1:DataW.Trod enc prog W 0 (λ_=>true) true 30 v1 d1 p1)(h2:DataW.Trod enc prog W 0 (λ_=>true) true 58 v2 d2 p2)(k0:Value.okWide prog W .any base (27:Nat) v0)(k1:Value.okWide prog W .any base (30:Nat) v1)(k2:Value.okWide prog W .any base (58:Nat) v2) :
  Calls prog 5 #[v0,v1,v2] W λe w'=>e=.returned (.bool true)/\Go.Own.YT (λk=>W.heap.size<=k) W w':=by
 obtain⟨n0,h0⟩:=h0;obtain⟨x0,o0,r0⟩:=Go.Own.zqx h0;obtain⟨n1,h1⟩:=h1;obtain⟨x1,o1,r1⟩:=Go.Own.zqv h1;obtain⟨n2,h2⟩:=h2;obtain⟨x2,o2,r2⟩:=Go.Own.zqu h2;have q:=(Go.Own.zf7 (Go.Own.zaW Go.Own.zjT re:Go.Own.OkH Go.Own.zo7) (x:=(x0,x1,x2)) (r:=true) (Go.Own.zfW o0 o1 o2)).2 (Go.Own.z2k W) W [v0,v1,v2] [] ⟨λ_ _ _ h=>h,λ_ _ e=>(by cases e),λ_ _ e=>(by cases e)⟩ ?_ ς
 ·refine Calls.mono q ?_;rintro e w' ⟨v,S',F',rfl,hk,_,_,_,hr,_,_⟩;refine⟨?_,hk.mono (by rintro k (h|h)<;>simp_all)⟩;rw[Go.Own.zfX hr]
 refine Go.Own.Jn ?_;have g0:Go.Own.wX (Go.Own.z2k W) ((Go.Own.ZI (Go.Own.jQ (Go.Own.eI .u8) (Go.Own.eI .u8) (Go.Own.eI .u8) (Go.Own.eSl 1 false (Go.Own.eI .u8)) (Go.Own.eSl 1 false (Go.Own.eI .u16)))) x0) v0:=Go.Own.z2V (t:=(27:Nat)) underlying27 r0 k0 rfl;have g1:Go.Own.wX (Go.Own.z2k W) ((Go.Own.YP (Go.Own.eI .u8) (Go.Own.eSl 1 false (Go.Own.eSl 1 false (Go.Own.eI .u8)))) x1) v1:=Go.Own.z2V (t:=(30:Nat)) underlying30 r1 k1 rfl;have g2:Go.Own.wX (Go.Own.z2k W) ((Go.Own.z4c (Go.Own.eI .u8)) x2) v2:=Go.Own.zaJ (t:=(58:Nat)) underlying58 r2 k2 rfl;exact⟨g0,g1,g2,trivial⟩
end
set_option maxRecDepth 100000 in
def zm4 (os:Os)(started:os.Started)(H:Type)(enc:TypeId×Value->H) :
  ReturnsInHanded {} checked os 5 .any (Rows.gapsSuiteSpec.pre6 enc prog Tryz.f5 Rows.gapsSuiteRow.domain false) (Rows.gapsSuiteSpec.post enc prog Tryz.f5 false true false false):=by
 refine returnsInHanded_of_change (C:=checked) own started κ func5
  (ChangeSpec.witness6 (enc:=enc) (C:=checked) false ⟨#[],#[.agg #[.int .u8 0,.int .u8 0,.int .u8 0,.slice none 0 0,.slice none 0 0],.agg #[.int .u8 0,.slice none 0 0],.agg #[.int .u8 0,.int .u8 0,.int .u8 0]],[]⟩ 8 κ κ κ κ) ?_
 intro W base args ds gs before hval0 hW hcnd _;have hval:∀(j:Nat) t v,Tryz.f5.params[j]?=some t->args[j]?=some v->Value.okWide prog W .any base t v:=hval0;have hW':=hW;obtain⟨p,q,hA0,hV,rfl,hfz,hnd⟩:=hW;have hA:DataW.TrodAll enc prog W 0 (λ_=>true) true Tryz.f5.params.toList args.toList ds p:=hA0;rw[params5]at hA hval;obtain⟨v0,v1,v2,d0,d1,d2,p0,p1,p2,rfl,rfl,rfl,h0,h1,h2⟩:=trodAll_three hA;obtain⟨rfl,rfl⟩:=trodVars_none hV;clear hA0 hval0;refine(zqq h0 h1 h2 (hval 0 (27:Nat) v0 rfl rfl) (hval 1 (30:Nat) v1 rfl rfl) (hval 2 (58:Nat) v2 rfl rfl)).mono λe W' ⟨he,hk⟩=>?_;subst he;have hb:Below W.heap.size W W':=⟨hk.os,hk.tape,hk.output,hk.size,λk q=>hk.block k ω⟩;have hlt:∀x∈p0++p1++p2,x.block<W.heap.size:=λx hx=>by simpa using hW'.lt x (ξ hx)
 refine⟨_,rfl,Go.Own.zbZ rfl rfl hW' hb (λ_ _ _=>trodAll_cons_mk (shut_bool underlying4 _) trodAll_mk0) (λsp hsp=>?_) (ok_one κ rfl (okWide_bool_mk underlying4 _))⟩;have st:∀{t:Nat} {v:Value} {d:DataW H} {p':List MemPlace},DataW.Trod enc prog W 0 (λ_=>true) true t v d p'->prog.readableRec t=true->t<prog.types.size->(∀x∈p',x∈p0++p1++p2)->DataW.Trod enc prog W' 0 sp true t v d p':=by intro t v d p' hd h1 h2 hp;exact WideElems.Trod_stays zj3 h1 h2 hd (λx hx=>hb.same (hlt x (hp x hx))) (λx hx=>hsp x (by simpa using hp x hx))
 have:=trodAll_mk3 (st h0 κ (of_decide_eq_true κ) (λx hx=>by simp[hx])) (st h1 κ (of_decide_eq_true κ) (λx hx=>by simp[hx])) (st h2 κ (of_decide_eq_true κ) (λx hx=>by simp[hx]));rw[<-pP]at this;rw[params5];exact this
def Ur:Rows.gapsSuiteRow.holds Tryz.pinned (OpenSpec.ofChange Rows.gapsSuiteSpec) :=
 OpenClaim.holds_of_wide 5 Tryz.f5 rfl rfl rfl rfl rfl rfl rfl ⟨rfl,rfl,rfl,rfl,rfl⟩ rfl rfl rfl rfl rfl κ func5 κ
  (of_decide_eq_true κ) (by unfold Func.isWrapper;first|(rw[if_pos (by decide +kernel)];kernel_rfl)|(rw[if_neg (by decide +kernel)];exact⟨rfl,rfl⟩))
  (λos started H enc _=>zm4 os started H enc)
theorem proved:Rows.GapsSuiteSaid :=
 Ur
#print axioms proved
end Go.Proofs.YtkalhfmehmcofaaGreat.gapsSuite
