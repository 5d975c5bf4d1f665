/- -/
import Derived.Test.YtcodjgfoodacaaaGreatDoorPartG
import Derived.Test.YtcodjgfoodacaaaGreatDoorPartH
import Derived.Test.YtcodjgfoodacaaaGreatDoorRows
import Derived.Test.YtcodjgfoodacaaaGreatDoorChecked
import Derived.WalkKit
import Derived.ProofKit
import Derived.OpenShut
import Derived.Carry
import Derived.LaidMore
import Derived.Stop.Joined
import Derived.SevenTiedAt
import Derived.Test.YtcodjgfoodacaaaGreatDoorCards
import Derived.Test.YtcodjgfoodacaaaGreatDoorTie
import Derived.Stop.LaidErr
import Derived.MakeChecks
set_option linter.unusedVariables false
set_option linter.unusedSimpArgs false
namespace Go.Own
open Go.Proofs
variable {cs:List Value}
section
variable {H:Type}{enc:TypeId×Value->H}{w:World}{base:Nat}{spare:Nat->Bool}{held:Bool}
theorem zbm:Tryz.prog.cellsOf 5=1:=by kernel_rfl
theorem rd5 {fuel:Nat}  {x:DataW H×List MemPlace}(h:DataW.trod enc Tryz.prog w base spare held fuel 5 cs=some x):∃a:Int,Ok5 a/\Rep (z3O w) ((eI .u8) a) cs:=by
 obtain⟨n,h1,_,h2⟩:=zdi Tryz.underlying5 (lo:=0) (hi:=255) rfl rfl h
 exact⟨n,h1,h2⟩
theorem zdL:Tryz.prog.cellsOf 22=1:=by kernel_rfl
theorem zpa {fuel:Nat}  {x:DataW H×List MemPlace}(h:DataW.trod enc Tryz.prog w base spare held fuel 22 cs=some x):∃a:List Int,zn1 a/\Rep (z3O w) ((eSl 1 false (eI .u8)) a) cs:=by
 exact z4S (eI .u8) Ok5 Tryz.underlying22 zbm (by omega) (fun _=>rfl) (fun _ _ _ q=>rd5 q) h
theorem zg1:Tryz.prog.cellsOf 117=1:=by kernel_rfl
theorem znr {fuel:Nat}  {x:DataW H×List MemPlace}(h:DataW.trod enc Tryz.prog w base spare held fuel 117 cs=some x):∃a:Int,ziN a/\Rep (z3O w) ((eI .u16) a) cs:=by
 obtain⟨n,h1,_,h2⟩:=zdi Tryz.underlying117 (lo:=0) (hi:=65535) rfl rfl h
 exact⟨n,h1,h2⟩
theorem ziy:Tryz.prog.cellsOf 23=1:=by kernel_rfl
theorem zqk {fuel:Nat}  {x:DataW H×List MemPlace}(h:DataW.trod enc Tryz.prog w base spare held fuel 23 cs=some x):∃a:List Int,zpB a/\Rep (z3O w) ((eSl 1 false (eI .u16)) a) cs:=by
 exact z4S (eI .u16) ziN Tryz.underlying23 zg1 (by omega) (fun _=>rfl) (fun _ _ _ q=>znr q) h
theorem zdK:Tryz.prog.cellsOf 25=5:=by kernel_rfl
theorem zqj {fuel:Nat}  {x:DataW H×List MemPlace}(h:DataW.trod enc Tryz.prog w base spare held fuel 25 cs=some x):∃a:zC,zpA a/\Rep (z3O w) ((ZI (eI .u8) (eI .u8) (eI .u8) (eSl 1 false (eI .u8)) (eSl 1 false (eI .u16))) a) cs:=by
 obtain⟨hl,hf⟩:=QL Tryz.underlying25 h
 rw [zdK]at hl
 obtain⟨_,_,q0⟩:=hf 0 _ rfl
 obtain⟨_,_,q1⟩:=hf 1 _ rfl
 obtain⟨_,_,q2⟩:=hf 2 _ rfl
 obtain⟨_,_,q3⟩:=hf 3 _ rfl
 obtain⟨_,_,q4⟩:=hf 4 _ rfl
 simp only [zdL,ziy,zbm]at q0 q1 q2 q3 q4
 obtain⟨a0,k0,r0⟩:=rd5 q0
 obtain⟨a1,k1,r1⟩:=rd5 q1
 obtain⟨a2,k2,r2⟩:=rd5 q2
 obtain⟨a3,k3,r3⟩:=zpa q3
 obtain⟨a4,k4,r4⟩:=zqk q4
 refine⟨⟨a0,a1,a2,a3,a4⟩,⟨k0,k1,k2,k3,k4⟩,?_⟩
 show Rep (z3O w) (.agg [(eI .u8) a0,(eI .u8) a1,(eI .u8) a2,(eSl 1 false (eI .u8)) a3,(eSl 1 false (eI .u16)) a4]) cs
 simp only [Rep]
 refine k7 (n:=1) (by simpa [List.drop_drop] using r0) (k7 (n:=1) (by simpa [List.drop_drop] using r1) (k7 (n:=1) (by simpa [List.drop_drop] using r2) (k7 (n:=1) (by simpa [List.drop_drop] using r3) (k7 (n:=1) (by simpa [List.drop_drop] using r4) ?_))))
 simp only [List.drop_drop,yg]
 exact List.drop_eq_nil_of_le (by omega)
theorem zix:Tryz.prog.cellsOf 27=5:=by kernel_rfl
theorem zqi {fuel:Nat}  {x:DataW H×List MemPlace}(h:DataW.trod enc Tryz.prog w base spare held fuel 27 cs=some x):∃a:vT,zpz a/\Rep (z3O w) ((ZH (ZI (eI .u8) (eI .u8) (eI .u8) (eSl 1 false (eI .u8)) (eSl 1 false (eI .u16)))) a) cs:=by
 obtain⟨hl,hf⟩:=QL Tryz.underlying27 h
 rw [zix]at hl
 obtain⟨_,_,q0⟩:=hf 0 _ rfl
 simp only [zdK]at q0
 obtain⟨a0,k0,r0⟩:=zqj q0
 refine⟨⟨a0⟩,k0,?_⟩
 show Rep (z3O w) (.agg [(ZI (eI .u8) (eI .u8) (eI .u8) (eSl 1 false (eI .u8)) (eSl 1 false (eI .u16))) a0]) cs
 simp only [Rep]
 refine k7 (n:=5) (by simpa [List.drop_drop] using r0) ?_
 simp only [yg]
 exact List.drop_eq_nil_of_le (by omega)
theorem ziw:Tryz.prog.cellsOf 46=1:=by kernel_rfl
theorem zqh {fuel:Nat}  {x:DataW H×List MemPlace}(h:DataW.trod enc Tryz.prog w base spare held fuel 46 cs=some x):∃a:List (List Int),zpy a/\Rep (z3O w) ((eSl 1 false (eSl 1 false (eI .u8))) a) cs:=by
 exact z4S (eSl 1 false (eI .u8)) zn1 Tryz.underlying46 zdL (by omega) (fun _=>rfl) (fun _ _ _ q=>zpa q) h
theorem ziv:Tryz.prog.cellsOf 48=2:=by kernel_rfl
theorem zqg {fuel:Nat}  {x:DataW H×List MemPlace}(h:DataW.trod enc Tryz.prog w base spare held fuel 48 cs=some x):∃a:yU,zpx a/\Rep (z3O w) ((Wb (eI .u8) (eSl 1 false (eSl 1 false (eI .u8)))) a) cs:=by
 obtain⟨hl,hf⟩:=QL Tryz.underlying48 h
 rw [ziv]at hl
 obtain⟨_,_,q0⟩:=hf 0 _ rfl
 obtain⟨_,_,q1⟩:=hf 1 _ rfl
 simp only [ziw,zbm]at q0 q1
 obtain⟨a0,k0,r0⟩:=rd5 q0
 obtain⟨a1,k1,r1⟩:=zqh q1
 refine⟨⟨a0,a1⟩,⟨k0,k1⟩,?_⟩
 show Rep (z3O w) (.agg [(eI .u8) a0,(eSl 1 false (eSl 1 false (eI .u8))) a1]) cs
 simp only [Rep]
 refine k7 (n:=1) (by simpa [List.drop_drop] using r0) (k7 (n:=1) (by simpa [List.drop_drop] using r1) ?_)
 simp only [List.drop_drop,yg]
 exact List.drop_eq_nil_of_le (by omega)
theorem ziu:Tryz.prog.cellsOf 49=3:=by kernel_rfl
theorem zqf {fuel:Nat}  {x:DataW H×List MemPlace}(h:DataW.trod enc Tryz.prog w base spare held fuel 49 cs=some x):∃a:zj2 Int,zpw a/\Rep (z3O w) ((zbP (eI .u8)) a) cs:=by
 obtain⟨xs,m,_,_,hl,hx,hall⟩:=DataW.trod_array Tryz.underlying49 h
 rw [ziu]at hl
 rw [zbm]at hall
 have get:∀i,i<3->∃n:Int,Ok5 n/\Rep (z3O w) ((eI .u8) n) ((cs.drop (i*1)).take 1):=by
  intro i hi
  have q:=hall i hi
  rw [List.getElem?_eq_getElem (by omega)]at q
  exact rd5 q
 obtain⟨a0,k0,r0⟩:=get 0 (by omega)
 obtain⟨a1,k1,r1⟩:=get 1 (by omega)
 obtain⟨a2,k2,r2⟩:=get 2 (by omega)
 refine⟨⟨a0,a1,a2⟩,⟨k0,k1,k2⟩,?_⟩
 show Rep (z3O w) (.agg [(eI .u8) a0,(eI .u8) a1,(eI .u8) a2]) cs
 simp only [Rep]
 refine k7 (n:=1) (by simpa [List.drop_drop] using r0) (k7 (n:=1) (by simpa [List.drop_drop] using r1) (k7 (n:=1) (by simpa [List.drop_drop] using r2) ?_))
 simp only [List.drop_drop,yg]
 exact List.drop_eq_nil_of_le (by omega)
end
end Go.Own
namespace Go.Proofs.YtcodjgfoodacaaaGreatDoor.identsIdentify
open Go Go.ChangeShapes Go.WideShapes Go.ChangeAt Go.RowKit
theorem own:ownKnob Tryz.prog.godebug=none:=by kernel_rfl
theorem zic:laidOutB Tryz.prog=true:=by kernel_rfl
section
variable {H:Type}{enc:TypeId×Value->H}{W:World}
theorem zfL {W:World}(hL:laidMetH Tryz.prog Rows.identsIdentifyRow.laid W):Go.Own.Gok (Go.Own.z3O W):=by
 rw [MakeChecks.laidMetH_plain _ _ _ (by kernel_rfl)]at hL
 obtain⟨x0,hx⟩:∃x0,Rows.identsIdentifyRow.laid=x0::[("math/bits.deBruijn64tab",.agg (Go.Own.znL.map fun n=>.lit (.int .u8 n)))]:=⟨_,rfl⟩
 rw [hx]at hL
 have hl:=Go.Own.zeN (hL.tail) (g:=1) (by kernel_rfl) (t:=162) (by kernel_rfl) Tryz.underlying162 Tryz.underlying5 (by kernel_rfl)
 intro g x e
 unfold Go.Own.zmY at e
 split at e
 ·rename_i h0
  subst h0
  cases e
  refine⟨_,(by simp only [Go.Own.Rep];exact Go.Own.z8N _ _),fun j v hj=>?_⟩
  rw [List.getElem?_map]at hj
  obtain⟨y,hy,rfl⟩:=Option.map_eq_some_iff.1 hj
  rw [Nat.zero_add]
  exact hl j y hy
 ·cases e
set_option maxRecDepth 100000 in
theorem zpW {base:Nat}(hL:laidMetH Tryz.prog Rows.identsIdentifyRow.laid W){v0:Value}{d0:DataW H}{p0:List MemPlace}{v1:Value}{d1:DataW H}{p1:List MemPlace}{v2:Value}{d2:DataW H}{p2:List MemPlace}(h0:DataW.Trod enc Tryz.prog W 0 (fun _=>true) true 27 v0 d0 p0)(h1:DataW.Trod enc Tryz.prog W 0 (fun _=>true) true 48 v1 d1 p1)(h2:DataW.Trod enc Tryz.prog W 0 (fun _=>true) true 49 v2 d2 p2)(k0:Value.okWide Tryz.prog W .any base (27:Nat) v0)(k1:Value.okWide Tryz.prog W .any base (48:Nat) v1)(k2:Value.okWide Tryz.prog W .any base (49:Nat) v2) :
  Calls Tryz.prog 5 #[v0,v1,v2] W fun e w'=>e=.returned (.bool true)/\Go.Own.Uo (fun k=>W.heap.size<=k) W w':=by
 obtain⟨n0,h0⟩:=h0
 obtain⟨x0,o0,r0⟩:=Go.Own.zqi h0
 obtain⟨n1,h1⟩:=h1
 obtain⟨x1,o1,r1⟩:=Go.Own.zqg h1
 obtain⟨n2,h2⟩:=h2
 obtain⟨x2,o2,r2⟩:=Go.Own.zqf h2
 have q:=(Go.Own.zeT (Go.Own.zbR Go.Own.ziO List.mem_cons_self:Go.Own.uV.Ok Tryz.prog) (x:=(x0,x1,x2)) (r:=true) (Go.Own.zfF o0 o1 o2)).2 (Go.Own.z3O W) W [v0,v1,v2] [] ⟨fun _ _ _ h=>h,zfL hL⟩ ?_ (by simp)
 ·refine Calls.mono q ?_
  rintro e w' ⟨v,S',F',rfl,hk,_,_,_,hr,_,_⟩
  refine⟨?_,hk.mono (by rintro k (h|h) <;> simp_all)⟩
  rw [Go.Own.zfK hr]
 ·refine Go.Own.Ub ?_
  have g0:Go.Own.vA (Go.Own.z3O W) ((Go.Own.ZH (Go.Own.ZI (Go.Own.eI .u8) (Go.Own.eI .u8) (Go.Own.eI .u8) (Go.Own.eSl 1 false (Go.Own.eI .u8)) (Go.Own.eSl 1 false (Go.Own.eI .u16)))) x0) v0:=Go.Own.z59 (t:=(27:Nat)) Tryz.underlying27 r0 k0 rfl
  have g1:Go.Own.vA (Go.Own.z3O W) ((Go.Own.Wb (Go.Own.eI .u8) (Go.Own.eSl 1 false (Go.Own.eSl 1 false (Go.Own.eI .u8)))) x1) v1:=Go.Own.z59 (t:=(48:Nat)) Tryz.underlying48 r1 k1 rfl
  have g2:Go.Own.vA (Go.Own.z3O W) ((Go.Own.zbP (Go.Own.eI .u8)) x2) v2:=Go.Own.zbD (t:=(49:Nat)) Tryz.underlying49 r2 k2 rfl
  exact⟨g0,g1,g2,trivial⟩
end
set_option maxRecDepth 100000 in
theorem zfV (os:Os)(args:Array Value):laidMetH Tryz.prog Rows.identsIdentifyRow.laid ((World.doorLaid Tryz.prog 400 os).forCall (fun _ _=>0) ⟨#[],args,[]⟩).memory :=
 laidMetH_of_parts3 (fuel:=8) (laidMet_of_run' 8 (by kernel_rfl) (by kernel_rfl)) (by kernel_rfl) (by kernel_rfl)
set_option maxRecDepth 100000 in
theorem zkr (os:Os)(started:os.Started)(H:Type)(enc:TypeId×Value->H) :
  ReturnsInHanded {} Tryz.checked os 5 .any (fun w args=>(Rows.identsIdentifySpec.pre enc Tryz.prog Tryz.f5 Rows.identsIdentifyRow.domain false w args/\laidMetH Tryz.prog Rows.identsIdentifyRow.laid w)/\sizedMet enc Tryz.prog Tryz.f5 (OpenSpec.ofChange Rows.identsIdentifySpec) false w args) (Rows.identsIdentifySpec.post enc Tryz.prog Tryz.f5 false true false false):=by
 refine returnsInHanded_of_change_and (C:=Tryz.checked) (X:=fun w _=>laidMetH Tryz.prog Rows.identsIdentifyRow.laid w) (fun _ _ _ hh h=>h.of_heap hh) own started (by kernel_rfl) Tryz.func5
  (ChangeSpec.witness_shaped (enc:=enc) (C:=Tryz.checked) (os:=os) (X:=fun w _=>laidMetH Tryz.prog Rows.identsIdentifyRow.laid w) false (World.doorLaid Tryz.prog 400 os) #[.agg #[.int .u8 0,.int .u8 0,.int .u8 0,.slice none 0 0,.slice none 0 0],.agg #[.int .u8 0,.slice none 0 0],.agg #[.int .u8 0,.int .u8 0,.int .u8 0]] 8 rfl (World.shaped_of_RefB (by kernel_rfl) (by kernel_rfl)) (by kernel_rfl) (by kernel_rfl) (by kernel_rfl) (zfV os _)) ?_
 intro W base args ds gs before hval0 hW hcnd _ hL _
 have hval:∀(j:Nat) t v,Tryz.f5.params[j]?=some t->args[j]?=some v->Value.okWide Tryz.prog W .any base t v:=hval0
 have hW':=hW
 obtain⟨p,q,hA0,hV,rfl,hfz,hnd⟩:=hW
 have hA:DataW.TrodAll enc Tryz.prog W 0 (fun _=>true) true Tryz.f5.params.toList args.toList ds p:=hA0
 rw [Tryz.params5]at hA hval
 obtain⟨v0,v1,v2,d0,d1,d2,p0,p1,p2,rfl,rfl,rfl,h0,h1,h2⟩:=trodAll_three hA
 obtain⟨rfl,rfl⟩:=trodVars_none hV
 clear hA0 hval0
 refine(zpW hL h0 h1 h2 (hval 0 (27:Nat) v0 rfl rfl) (hval 1 (48:Nat) v1 rfl rfl) (hval 2 (49:Nat) v2 rfl rfl)).mono fun e W' ⟨he,hk⟩=>?_
 subst he
 have hb:Below W.heap.size W W':=⟨hk.os,hk.tape,hk.output,hk.size,fun k q=>hk.block k (by omega)⟩
 have hlt:∀x∈p0++p1++p2,x.block<W.heap.size:=fun x hx=>by simpa using hW'.lt x (by simpa using hx)
 refine⟨_,rfl,Go.Own.zcP rfl rfl hW' hb (fun _ _ _=>trodAll_cons_mk (shut_bool Tryz.underlying4 _) trodAll_mk0) (fun sp hsp=>?_) (ok_one (by kernel_rfl) rfl (okWide_bool_mk Tryz.underlying4 _))⟩
 have st:∀{t:Nat} {v:Value} {d:DataW H} {p':List MemPlace},DataW.Trod enc Tryz.prog W 0 (fun _=>true) true t v d p'->Tryz.prog.readableRec t=true->t<Tryz.prog.types.size->(∀x∈p',x∈p0++p1++p2)->DataW.Trod enc Tryz.prog W' 0 sp true t v d p':=by
  intro t v d p' hd h1 h2 hp
  exact WideElems.Trod_stays zic h1 h2 hd (fun x hx=>hb.same (hlt x (hp x hx))) (fun x hx=>hsp x (by simpa using hp x hx))
 have:=trodAll_mk3 (st h0 (by kernel_rfl) (of_decide_eq_true (by kernel_rfl)) (fun x hx=>by simp [hx])) (st h1 (by kernel_rfl) (of_decide_eq_true (by kernel_rfl)) (fun x hx=>by simp [hx])) (st h2 (by kernel_rfl) (of_decide_eq_true (by kernel_rfl)) (fun x hx=>by simp [hx]))
 rw [<-List.append_assoc]at this
 rw [Tryz.params5]
 exact this
theorem Kf:Rows.identsIdentifyRow.holds Tryz.pinned (OpenSpec.ofChange Rows.identsIdentifySpec) :=
 OpenClaim.holds_of_wide 5 Tryz.f5 rfl rfl rfl rfl rfl rfl rfl ⟨rfl,rfl,rfl,rfl,rfl⟩ rfl rfl rfl rfl rfl (by kernel_rfl) Tryz.func5 (by kernel_rfl)
  (of_decide_eq_true (by kernel_rfl)) (by unfold Func.isWrapper;first|(rw [if_pos (by decide +kernel)];kernel_rfl)|(rw [if_neg (by decide +kernel)];exact⟨rfl,rfl⟩))
  (fun os started H enc _=>zkr os started H enc)
theorem proved:Rows.IdentsIdentifyCardSaid :=
 Claim7.holds_tied_plain_at .later [] [.data,.data] true (true,"715c2141db8d2242eb7f34f812cc2666e7c04bdf1baf18ebf980598cb96d27b9") false
  Kf (fun _ h=>by cases h) (by kernel_rfl) (fun _ h=>by cases h) identsIdentify_row_tie rfl ⟨rfl,rfl⟩ (by kernel_rfl) rfl
  (fun f fn hf hfn=>by
   obtain rfl:f=5:=Option.some.inj ((show Tryz.prog.funcNamed "gauntlet/gauntletlaw14.IdentsIdentify"=some 5 by kernel_rfl).symm.trans hf) |>.symm
   obtain rfl:fn=Tryz.f5:=(Option.some.inj (Tryz.func5.symm.trans hfn)).symm
   exact⟨by kernel_rfl,fun j t ht=>by
    rw [Tryz.params5]at ht
    have hm:t∈[27,48,49]:=by simpa using Array.mem_of_getElem? ht
    have hall:([27,48,49].all fun u=>!Tryz.prog.wantsStandIn u)=true:=by kernel_rfl
    exact(show Tryz.prog.wantsStandIn t=false by simpa using List.all_eq_true.1 hall t hm)⟩)
  (by kernel_rfl)
#print axioms proved
end Go.Proofs.YtcodjgfoodacaaaGreatDoor.identsIdentify
