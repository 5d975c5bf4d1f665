/- -/
import Derived.Test.YtkalhfmehmcofaaGreatPartC
noncomputable section
set_option linter.unusedVariables false
set_option linter.unusedSimpArgs false
namespace Go.Own
def zev : Dpq:=⟨fun _ v => v.oneCell' = true,fun h => h,fun _ h => h⟩
def eAn (_ : Unit) : A:=.dop zev
instance : Uj eAn eAn:=⟨fun _ => rfl⟩
instance : Yp eAn:=⟨fun _ _ _ => rfl⟩
instance LeA.any (f : Nat) (caps : List A) : LeA (.fn f caps) (.dop zev):={
 rep:=fun S cs q => by
  simp only [Rep] at q ⊢
  obtain ⟨vs,_,_,rfl⟩:=q
  exact ⟨_,rfl,rfl⟩
 conc:=fun S h cs F q => by
  simp only [zz] at q ⊢
  refine ⟨?_,q.2⟩
  have q:=q.1
  simp only [Rep] at q ⊢
  obtain ⟨vs,_,_,rfl⟩:=q
  exact ⟨_,rfl,rfl⟩
 val:=fun _ => rfl
 tup:=fun _ e => by cases e }
instance (f : Nat) (caps : List A) (q : Dpq) : SzA (.fn f caps) (.dop q):=⟨rfl⟩
def z41 (sz : Nat) (v : Value) (q : Int × Int × Int) : Value :=
 match v with
 | .slice a _ _ => .slice (if q.2.2.toNat = q.1.toNat then a else a.map (·.add (q.1.toNat * sz))) (q.2.1.toNat - q.1.toNat) (q.2.2.toNat - q.1.toNat)
 | _ => .slice none 0 0
variable {v : Value}{sz : Nat}
theorem zb6 {q : Int × Int × Int} : (z41 sz v q).oneCell' = true:=by
 unfold z41
 split <;> rfl
def eqQ (v : Value) : Dpq:=⟨fun _ u => u = v ∧ v.oneCell' = true,fun h => by rw [h.1]; exact h.2,fun _ h => h⟩
variable {S : zb}
theorem zfZ (h : v.oneCell' = true) : xw S (.dop (eqQ v)) v:=by
 simp only [xw,ud,Rep]
 exact ⟨[v],⟨v,rfl,rfl,h⟩,rfl⟩
def eNv (sz : Nat) (v : Value) : Option (Int × Int × Int) → A
 | none => .osl sz true []
 | some q => .dop (eqQ (z41 sz v q))
variable {α : Type}
theorem nvR (sz : Nat) (v : Value) (f : α → A) (n : Nat) : (List.replicate n ([] : List α)).map (eOs sz true f) = (List.replicate n none).map (eNv sz v):=by
 simp [List.map_replicate,eOs,eNv]
theorem iMn (sz : Nat) (v : Value) {l : List (Option (Int × Int × Int))} {i : Int} {u : Option (Int × Int × Int)} (h : idx l i = some u) (h2 : u = none) : (l.map (eNv sz v))[i.toNat]? = some (.osl sz true []):=by
 subst h2
 exact iM (eNv sz v) h
instance LeA.nv {α : Type} (s sz : Nat) (v : Value) (f : α → A) (n : Nat) : LeA (eOs s true (eOs sz true f) (List.replicate n ([] : List α))) (eOs s true (eNv sz v) (List.replicate n none)):=by
 unfold eOs
 have:=nvR sz v f n
 unfold eOs at this
 rw [this]
 infer_instance
instance {α : Type} (s s' sz : Nat) (b b' : Bool) (v : Value) (f : α → A) (l : List α) (l' : List (Option (Int × Int × Int))) : SzA (eOs s b f l) (eOs s' b' (eNv sz v) l'):=⟨rfl⟩
variable {P : Program}{U : List (Nat × Ent)}{tt : TT}{R : List Nat}{o : Oper}{u : Unit}{t r : Nat}
section
variable {C : Ctx} {S : zb} {Fp : Nat → List Nat} {X : List Nat} {st : St} {a : Act} {w : World}
open Classical in
def s3K (tt : TT) (n : Fr) (dst : Option Nat) (ty r : Nat) (v : Value) (tx : T) (va vb vc : A) (e : Ent) : SM Unit :=
 match va,vb,vc with
 | .atom (.int _ i),.atom (.int _ j),.atom (.int _ k) =>
  if tx = .als r [] e.er e.ec ∧ z5e n.pin r = some v then
   match e.t with
   | .own (.osl sz _ es) => if wF tt ty = some sz ∧ 0 ≤ i ∧ i ≤ j ∧ j ≤ k ∧ k.toNat ≤ es.length then wrT n dst (.d (.dop (eqQ (z41 sz v (i,j,k))))) else zk
   | _ => zk
  else zk
 | _,_,_ => zk
def zjB (tt : TT) (n : Fr) (dst : Option Nat) (ty r : Nat) (v : Value) (tx : T) (va vb vc : A) (e : Ent) : HM Unit :=
 match va,vb,vc with
 | .atom (.int _ i),.atom (.int _ j),.atom (.int _ k) =>
  WZ (tx = .als r [] e.er e.ec ∧ z5e n.pin r = some v)
   (match e.t with
   | .own (.osl sz _ es) => if wF tt ty = some sz then WZ (0 ≤ i ∧ i ≤ j ∧ j ≤ k ∧ k.toNat ≤ es.length) (zU (wrT n dst (.d (.dop (eqQ (z41 sz v (i,j,k))))))) else zE
   | _ => zE)
 | _,_,_ => zE
def s3O (tt : TT) (n : Fr) (dst : Option Nat) (ty r : Nat) (v : Value) (x lo hi mx : Operand) : SM Unit:=do
 let tx ← opnd x
 let ta ← opnd lo
 let va ← val ta
 let tb ← opnd hi
 let vb ← val tb
 let tc ← opnd mx
 let vc ← val tc
 let e ← rdE r
 s3K tt n dst ty r v tx va vb vc e
def s3H (tt : TT) (n : Fr) (dst : Option Nat) (ty r : Nat) (v : Value) (x lo hi mx : Operand) : HM Unit:=zU (opnd x) >>= fun tx => zU (opnd lo) >>= fun ta => z2D ta >>= fun va => zU (opnd hi) >>= fun tb => z2D tb >>= fun vb => zU (opnd mx) >>= fun tc => z2D tc >>= fun vc => zU (rdE r) >>= fun e => zjB tt n dst ty r v tx va vb vc e
open Classical in
theorem zkh (tt : TT) (n : Fr) (dst : Option Nat) (ty r : Nat) (v : Value) (x lo hi mx : Operand) : Snd (s3O tt n dst ty r v x lo hi mx) (s3H tt n dst ty r v x lo hi mx):=by
 refine z9 (zf _) fun tx => z9 (zf _) fun ta => z9 (XU _) fun va => z9 (zf _) fun tb => z9 (XU _) fun vb => z9 (zf _) fun tc => z9 (XU _) fun vc => z9 (zf _) fun e => ?_
 unfold s3K zjB
 split
 ·refine Y9 ?_
  cases e.t with
  | own y =>
   cases y with
   | osl sz tg es => exact z2L (fun h1 h2 => ⟨h1,h2⟩) (zf _)
   | _ => exact zj _
  | _ => exact zj _
 ·exact zj _
open Classical in
theorem Loc.s3O (tt : TT) (n : Fr) (dst : Option Nat) (ty r : Nat) (v : Value) (x lo hi mx : Operand) : Loc (s3O tt n dst ty r v x lo hi mx):=by
 unfold Go.Own.s3O
 refine Loc.bind (Loc.opnd _) fun _ => Loc.bind (Loc.opnd _) fun _ => Loc.bind (Loc.val _) fun _ => Loc.bind (Loc.opnd _) fun _ => Loc.bind (Loc.val _) fun _ => Loc.bind (Loc.opnd _) fun _ => Loc.bind (Loc.val _) fun _ => Loc.bind (Loc.rdE _) fun _ => ?_
 unfold Go.Own.s3K
 split
 ·refine Loc.ite ?_ Loc.fail
  split
  ·exact Loc.ite (Loc.wrT _ _ _) Loc.fail
  ·exact Loc.fail
 ·exact Loc.fail
open Classical in
theorem ziD {P : Program}  (hT : wR P tt) (h : Sim C S Fp [] st a w)   {v : Value} {x lo hi mx : Operand} (ho : o.op = .slice t x (some lo) (some hi) (some mx))    (e0 : s3O tt C.n o.dst t r v x lo hi mx st = some (u,R,U)) : qo P C o a w (za U st):=by
 unfold s3O at e0
 have ⟨tx,_,hx,e1⟩:=bR (zD h) e0
 have ⟨ta,_,ha,e2⟩:=bR (zD h) e1
 have ⟨va,_,qa,e3⟩:=bR (qe h ha) e2
 have ⟨tb,_,hb,e4⟩:=bR (zD h) e3
 have ⟨vb,_,qb,e5⟩:=bR (qe h hb) e4
 have ⟨tc,_,hc,e6⟩:=bR (zD h) e5
 have ⟨vc,_,qc,e7⟩:=bR (qe h hc) e6
 have ⟨_,e8⟩:=bD e7
 unfold s3K at e8
 split at e8
 ·rename_i k1 i k2 j k3 k
  have hq:=zep e8
  clear e8
  obtain ⟨⟨rfl,c2⟩,e8⟩:=hq
  have hs:=h.pin r v (We c2)
  cases ht : (st r).t with
  | own y =>
   cases y with
   | osl sz tg es =>
    simp only [ht] at e8
    have hq:=zep e8
    clear e8
    obtain ⟨⟨d1,d2,d3,d4,d5⟩,e8⟩:=hq
    have ⟨p,c,ev,hlc,_,_⟩:=zar h ht
    have hxv : a.eval x = .slice p es.length c:=by rw [← ev]; exact zam hx ht rfl
    have ⟨el,he,hsz⟩:=q9 hT d1 w
    have ⟨ela,_⟩:=zo.1 qa
    have ⟨elb,_⟩:=zo.1 qb
    have ⟨elc,_⟩:=zo.1 qc
    have hrun:=Vt (P:=P) (w:=w) he hsz (p:=p) (len:=es.length) (c:=c) (m:=k.toNat) (lo:=some (.int k1 i)) (hi:=some (.int k2 j)) (mx:=some (.int k3 k)) (.inr ⟨k1,i,rfl,d2,rfl⟩) (.inr ⟨k2,j,rfl,by omega,rfl⟩) (.inr ⟨k3,k,rfl,by omega,rfl⟩) (by omega) (by omega) (by omega) (by simp)
    have hvv : v = .slice p es.length c:=by rw [← hs,ev]
    have ⟨Fp',hs'⟩:=wI h e8 (x:=.d (.dop (eqQ (z41 sz v (i,j,k))))) (v:=z41 sz v (i,j,k)) (zfZ zb6)
    refine zl ?_ hs'
    rw [hvv]
    simp [execOp,ho,hxv,ela,elb,elc,hrun,z41]
   | _ => simp only [ht] at e8; cases e8
  | _ => simp only [ht] at e8; cases e8
 ·cases e8
def zjK (d : Nat) (o : Oper) : Option (Nat × Operand × Operand × Operand × Operand):=match o.op with | .slice t x (some lo) (some hi) (some mx) => if o.dst = some d then some (t,x,lo,hi,mx) else none | _ => none
def xS3 (hT : wR P tt) (d r : Nat) (v : Value) : XH P :=
 xAt P (zjK d) (fun n o b => s3O tt n o.dst b.1 r v b.2.1 b.2.2.1 b.2.2.2.1 b.2.2.2.2) (fun n o b => s3H tt n o.dst b.1 r v b.2.1 b.2.2.1 b.2.2.2.1 b.2.2.2.2)
  (by
   intro C S Fp st a w o b hp h u R U e
   unfold zjK at hp
   split at hp
   ·rename_i ho; cases zbK hp; exact ziD hT h ho e
   ·cases hp)
  (fun n o b => Loc.s3O _ _ _ _ _ _ _ _ _ _) (fun n o b => zkh _ _ _ _ _ _ _ _ _ _)
open Classical in
def paK (tt : TT) (n : Fr) (dst : Option Nat) (ty r : Nat) (v : Value) (tx : T) (vi : A) (e : Ent) : SM Unit :=
 match vi with
 | .atom (.int _ j) =>
  if tx = .als r [] e.er e.ec ∧ z5e n.pin r = some v then
   match e.t with
   | .own (.osl sz _ es) => if wF tt ty = some sz ∧ 0 ≤ j ∧ j.toNat < es.length then wrT n dst (.d (.atom (KZ sz v j))) else zk
   | _ => zk
  else zk
 | _ => zk
def zjE (tt : TT) (n : Fr) (dst : Option Nat) (ty r : Nat) (v : Value) (tx : T) (vi : A) (e : Ent) : HM Unit :=
 match vi with
 | .atom (.int _ j) =>
  WZ (tx = .als r [] e.er e.ec ∧ z5e n.pin r = some v)
   (match e.t with
   | .own (.osl sz _ es) => if wF tt ty = some sz then WZ (0 ≤ j ∧ j.toNat < es.length) (zU (wrT n dst (.d (.atom (KZ sz v j))))) else zE
   | _ => zE)
 | _ => zE
def paO (tt : TT) (n : Fr) (dst : Option Nat) (ty r : Nat) (v : Value) (x i : Operand) : SM Unit:=do
 let tx ← opnd x
 let ti ← opnd i
 let vi ← val ti
 let e ← rdE r
 paK tt n dst ty r v tx vi e
def paH (tt : TT) (n : Fr) (dst : Option Nat) (ty r : Nat) (v : Value) (x i : Operand) : HM Unit:=zU (opnd x) >>= fun tx => zU (opnd i) >>= fun ti => z2D ti >>= fun vi => zU (rdE r) >>= fun e => zjE tt n dst ty r v tx vi e
open Classical in
theorem zkj (tt : TT) (n : Fr) (dst : Option Nat) (ty r : Nat) (v : Value) (x i : Operand) : Snd (paO tt n dst ty r v x i) (paH tt n dst ty r v x i):=by
 refine z9 (zf _) fun tx => z9 (zf _) fun ti => z9 (XU _) fun vi => z9 (zf _) fun e => ?_
 unfold paK zjE
 split
 ·refine Y9 ?_
  cases e.t with
  | own y =>
   cases y with
   | osl sz tg es => exact z2L (fun h1 h2 => ⟨h1,h2⟩) (zf _)
   | _ => exact zj _
  | _ => exact zj _
 ·exact zj _
open Classical in
theorem Loc.paO (tt : TT) (n : Fr) (dst : Option Nat) (ty r : Nat) (v : Value) (x i : Operand) : Loc (paO tt n dst ty r v x i):=by
 unfold Go.Own.paO
 refine Loc.bind (Loc.opnd _) fun _ => Loc.bind (Loc.opnd _) fun _ => Loc.bind (Loc.val _) fun _ => Loc.bind (Loc.rdE _) fun _ => ?_
 unfold Go.Own.paK
 split
 ·refine Loc.ite ?_ Loc.fail
  split
  ·exact Loc.ite (Loc.wrT _ _ _) Loc.fail
  ·exact Loc.fail
 ·exact Loc.fail
open Classical in
theorem ziJ {P : Program}  (hT : wR P tt) (h : Sim C S Fp [] st a w) {o : Oper}  {v : Value} {x i : Operand} (ho : o.op = .indexAddr t x i)    (e0 : paO tt C.n o.dst t r v x i st = some (u,R,U)) : qo P C o a w (za U st):=by
 unfold paO at e0
 have ⟨tx,_,hx,e1⟩:=bR (zD h) e0
 have ⟨ti,_,hi,e2⟩:=bR (zD h) e1
 have ⟨vi,_,qi,e3⟩:=bR (qe h hi) e2
 have ⟨_,e8⟩:=bD e3
 unfold paK at e8
 split at e8
 ·rename_i k j
  have hq:=zep e8
  clear e8
  obtain ⟨⟨rfl,c2⟩,e8⟩:=hq
  have hs:=h.pin r v (We c2)
  cases ht : (st r).t with
  | own y =>
   cases y with
   | osl sz tg es =>
    simp only [ht] at e8
    have hq:=zep e8
    clear e8
    obtain ⟨⟨d1,d2,d3⟩,e8⟩:=hq
    have ⟨p,c,ev,hlc,_,hb⟩:=zar h ht
    obtain ⟨b,rfl⟩:=hb (by omega)
    have hxv : a.eval x = .slice (some ⟨b,0,none⟩) es.length c:=by rw [← ev]; exact zam hx ht rfl
    have ⟨el,he,hsz⟩:=q9 hT d1 w
    have ⟨ei,_⟩:=zo.1 qi
    have hvv : v = .slice (some ⟨b,0,none⟩) es.length c:=by rw [← hs,ev]
    have hrun:=QC (P:=P) (b:=b) (o:=0) (n:=es.length) (c:=c) (k:=k) he hsz d2 d3
    have ⟨Fp',hs'⟩:=wI h e8 (x:=.d (.atom (KZ sz v j))) (v:=KZ sz v j) (zo.2 ⟨rfl,zcQ⟩)
    refine zl ?_ hs'
    rw [hvv]
    simp [execOp,ho,ei,hxv,hrun,KZ,Addr.add_lit]
   | _ => simp only [ht] at e8; cases e8
  | _ => simp only [ht] at e8; cases e8
 ·cases e8
def zjM (d : Nat) (o : Oper) : Option (Nat × Operand × Operand):=match o.op with | .indexAddr t x i => if o.dst = some d then some (t,x,i) else none | _ => none
def xPa (hT : wR P tt) (d r : Nat) (v : Value) : XH P :=
 xAt P (zjM d) (fun n o b => paO tt n o.dst b.1 r v b.2.1 b.2.2) (fun n o b => paH tt n o.dst b.1 r v b.2.1 b.2.2)
  (by
   intro C S Fp st a w o b hp h u R U e
   unfold zjM at hp
   split at hp
   ·rename_i ho; cases zbK hp; exact ziJ hT h ho e
   ·cases hp)
  (fun n o b => Loc.paO _ _ _ _ _ _ _ _) (fun n o b => zkj _ _ _ _ _ _ _ _)
open Classical in
def pmO (n : Fr) (dst : Option Nat) (r sz : Nat) (v : Value) (j : Int) (x : Operand) : SM Unit:=do
 let tx ← opnd x
 let e ← rdE r
 if tx = .d (.atom (KZ sz v j)) ∧ z5e n.pin r = some v then
  match e.t with
  | .own (.osl sz' _ es) => if sz' = sz ∧ j.toNat < es.length then wrT n dst (.ptr r [.idx j.toNat] e.er e.ec) else zk
  | _ => zk
 else zk
def pmH (n : Fr) (dst : Option Nat) (r sz : Nat) (v : Value) (j : Int) (x : Operand) : HM Unit:=zU (opnd x) >>= fun tx => zU (rdE r) >>= fun e => WZ (tx = .d (.atom (KZ sz v j)) ∧ z5e n.pin r = some v)
  (match e.t with
  | .own (.osl sz' _ es) => if sz' = sz then WZ (j.toNat < es.length) (zU (wrT n dst (.ptr r [.idx j.toNat] e.er e.ec))) else zE
  | _ => zE)
open Classical in
theorem zki (n : Fr) (dst : Option Nat) (r sz : Nat) (v : Value) (j : Int) (x : Operand) : Snd (pmO n dst r sz v j x) (pmH n dst r sz v j x):=by
 refine z9 (zf _) fun tx => z9 (zf _) fun e => Y9 ?_
 cases e.t with
 | own y =>
  cases y with
  | osl sz tg es => exact z2L (fun h1 h2 => ⟨h1,h2⟩) (zf _)
  | _ => exact zj _
 | _ => exact zj _
open Classical in
theorem Loc.pmO (n : Fr) (dst : Option Nat) (r sz : Nat) (v : Value) (j : Int) (x : Operand) : Loc (pmO n dst r sz v j x):=by
 unfold Go.Own.pmO
 refine Loc.bind (Loc.opnd _) fun _ => Loc.bind (Loc.rdE _) fun _ => Loc.ite ?_ Loc.fail
 split
 ·exact Loc.ite (Loc.wrT _ _ _) Loc.fail
 ·exact Loc.fail
open Classical in
theorem ziI (h : Sim C S Fp [] st a w)  {r sz : Nat}  {j : Int} {x : Operand} (ho : o.op = .move x)    (e0 : pmO C.n o.dst r sz v j x st = some (u,R,U)) : qo P C o a w (za U st):=by
 unfold pmO at e0
 have ⟨tx,_,hx,e1⟩:=bR (zD h) e0
 have ⟨_,e8⟩:=bD e1
 have hq:=zep e8
 clear e8
 obtain ⟨⟨rfl,c2⟩,e8⟩:=hq
 have hs:=h.pin r v (We c2)
 cases ht : (st r).t with
 | own y =>
  cases y with
  | osl sz' tg es =>
   simp only [ht] at e8
   have hq:=zep e8
   clear e8
   obtain ⟨⟨rfl,d3⟩,e8⟩:=hq
   have hals : Zu w.heap st (Act.tv a) r [] (st r).er (st r).ec (Act.tv a r):=by
    refine ⟨Nat.le_refl _,Nat.le_refl _,?_⟩
    simp [ht]
   have ⟨b,c,ev,hp⟩:=zbw h hals ht rfl (.inl rfl) rfl d3
   have hp' : TOk S w.heap st (Act.tv a) (T.ptr r [YH.idx j.toNat] (st r).er (st r).ec) (.pointer (some ⟨b,j.toNat * sz',none⟩)):=hp
   have ⟨Fp',hs'⟩:=wI h e8 hp'
   refine zl ?_ hs'
   have hxv:=(zo.1 hx).1
   rw [← hs,ev] at hxv
   simp [execOp,ho,hxv,KZ,Addr.add_lit]
  | _ => simp only [ht] at e8; cases e8
 | _ => simp only [ht] at e8; cases e8
def zjL (d : Nat) (o : Oper) : Option Operand:=match o.op with | .move x => if o.dst = some d then some x else none | _ => none
def xPm (d r sz : Nat) (v : Value) (j : Int) : XH P :=
 xAt P (zjL d) (fun n o b => pmO n o.dst r sz v j b) (fun n o b => pmH n o.dst r sz v j b)
  (by
   intro C S Fp st a w o b hp h u R U e
   unfold zjL at hp
   split at hp
   ·rename_i ho; cases zbK hp; exact ziI h ho e
   ·cases hp)
  (fun n o b => Loc.pmO _ _ _ _ _ _ _) (fun n o b => zki _ _ _ _ _ _ _)
end
variable {σ β : Type}
def WkY (Y : σ → Qt) (y : σ → β → Option (σ × Bool)) : Prop :=
 ∀ s x s',y s x = some (s',true) → ∀ (S S1 S' : zb) (h h' : Array Obj) (v : Value) (F F' : List Nat),(∀ b o u,S b o = some u → S1 b o = some u) → (∀ k ∈ F',∀ o,S1 k o = none) → (Y s).holds S h v F → (Y s').holds S' h' v F' → (Y s').holds S1 h' v F'
def zgt (P : Program) (f : A) {β : Type} (enc : β → Bool → Value → List A) (F : ∀ {σ : Type},(σ → β → Option (σ × Bool)) → σ → Option σ) : Prop :=
 ∀ (σ : Type) (yv : Value) (Y : σ → Qt) (y : σ → β → Option (σ × Bool)),YOk P yv Y enc y → WkY Y y → ∀ s s',F y s = some s' → xx P f [.atom yv] [(yv,.opq (Y s).q)] (.tup []) [.opq (Y s').q]
variable {caps : List A}{body : Code}{fn : Func}
theorem zfQ {k : Nat}   {nt : Nat} {caps : List A} {β : Type} {enc : β → Bool → Value → List A} {F : ∀ {σ : Type},(σ → β → Option (σ × Bool)) → σ → Option σ} (hT : wR P tt) (hf : P.funcs[k]? = some fn) (hnm : (fn.name == "runtime.NumGoroutine") = false) (hb : fn.body = some body)
  (hn : nt = fn.ntmps) (hr : fn.results = #[]) (ha : caps.length + 1 ≤ fn.ntmps)
  (h : ∀ (σ : Type) (yv : Value) (Y : σ → Qt) (y : σ → β → Option (σ × Bool)),YOk P yv Y enc y → WkY Y y → ∀ s s',F y s = some s' → ∀ E : Exit → St → Prop,(∀ ex st,(ex = .normal ∨ ex = .ret) → canon [0] st = ofL [(0,.own (.opq (Y s').q))] → E ex st) →
   AWP P ⟨nt,[(0,yv)]⟩ body (ofL (z73 0 (.opq (Y s).q :: caps))) (Qf P ⟨nt,[(0,yv)]⟩ [] E)) : zgt P (.fn k caps) enc F:=fun σ yv Y y hy hw s s' hs =>
 z6A hT hf hnm hb hn hr ha (h σ yv Y y hy hw s s' hs)
def z2Q (es : List α) : List (Option (Int × Int × Int)) → Option (List (List α))
 | [] => some []
 | some q :: l => gd (0 ≤ q.1 ∧ q.1 ≤ q.2.1 ∧ q.2.2 = q.2.1 ∧ q.2.1.toNat ≤ es.length) <| Option.bind (z2Q es l) fun r => some ((es.drop q.1.toNat).take (q.2.1.toNat - q.1.toNat) :: r)
 | none :: _ => none
variable {pv : Value}{tg : Bool}
theorem zbS {es : List A}  (h : Rep S (.sl sz tg es) [pv]) {lo hi : Int} (h0 : 0 ≤ lo) (h1 : lo ≤ hi) (h2 : hi.toNat ≤ es.length) : Rep S (.sl sz true ((es.drop lo.toNat).take (hi.toNat - lo.toNat))) [z41 sz pv (lo,hi,hi)]:=by
 simp only [Rep] at h ⊢
 obtain ⟨p,c,e,h3,h4,h5,h6⟩:=h
 obtain rfl : pv = .slice p es.length c:=by simpa using e
 have hlen : ((es.drop lo.toNat).take (hi.toNat - lo.toNat)).length = hi.toNat - lo.toNat:=by simp; omega
 refine ⟨if hi.toNat = lo.toNat then p else p.map (·.add (lo.toNat * sz)),hi.toNat - lo.toNat,by simp only [z41,hlen],fun _ => hlen.symm,by omega,fun x hx => h5 x (List.mem_of_mem_drop (List.mem_of_mem_take hx)),?_⟩
 by_cases hh : hi.toNat = lo.toNat
 ·exact .inl (by rw [hh]; simp)
 ·rw [if_neg hh]
  rcases h6 with rfl | ⟨b,o,l,rfl,g,k⟩
  ·simp at h2; omega
  ·obtain ⟨ds,d1,d2⟩:=z8k (k:=hi.toNat - lo.toNat) g h5 (l:=lo.toNat) (by omega)
   refine .inr ⟨b,o + lo.toNat * sz,ds,by simp [Addr.add_lit],d1,fun j v hj => ?_⟩
   rw [Nat.add_assoc]
   exact k _ _ (d2 j v hj)
theorem z8f {f : α → A} {es : List α}  (h : Rep S (.sl sz tg (es.map f)) [pv]) : ∀ {rows : List (Option (Int × Int × Int))} {r : List (List α)} {cs : List Value},z2Q es rows = some r → y9 S (A.shuts (rows.map (eNv sz pv))) cs → y9 S (r.map (eSl sz true f)) cs
 | [],r,cs,e,q => by
  cases e
  simpa only [List.map_nil,A.shuts] using q
 | none :: _,_,_,e,_ => by cases e
 | some (lo,hi,mx) :: l,r,cs,e,q => by
  simp only [z2Q] at e
  obtain ⟨⟨g1,g2,g3,g4⟩,e⟩:=gdE e
  obtain ⟨r1,e1,e⟩:=z8 e
  cases e
  replace g3 : mx = hi:=g3
  subst g3
  simp only [List.map_cons,A.shuts,y9] at q ⊢
  obtain ⟨c1,c2,rfl,q1,q2⟩:=q
  refine ⟨c1,c2,rfl,?_,z8f h e1 q2⟩
  simp only [eNv,A.shut,Rep] at q1
  obtain ⟨_,rfl,rfl,_⟩:=q1
  have:=zbS h g1 g2 (by simpa using g4)
  simpa only [eSl,List.map_take,List.map_drop] using this
variable {x : A}
section
variable {C : Ctx} {S : zb} {Fp : Nat → List Nat} {X : List Nat} {st : St} {a : Act} {w : World}
theorem zhZ (h : Sim C S Fp X st a w) {r : Nat}  (hr : (st r).t = .own (.box x)) : ∃ B ty l F',Act.tv a r = .pointer (some ⟨B,0,none⟩) ∧ w.heap[B]? = some (.cells l.toArray ty (0,0)) ∧ zz S w.heap x l F' ∧ Fp r = B :: F' ∧
  ∀ {er ec : Nat} {v : Value},Zu w.heap st (Act.tv a) r [.deref] er ec v → (st r).er = er → (st r).ec = ec → v = zT x l:=by
 have hq:=h.ent r
 unfold yx at hq
 simp only [hr] at hq
 obtain ⟨cs,c1,c2,c3⟩:=hq
 simp only [zz] at c1
 obtain ⟨B,ty,l,F',rfl,e1,e2,e3,e4⟩:=c1
 have c3' : Act.tv a r = .pointer (some ⟨B,0,none⟩):=c3
 refine ⟨B,ty,l,F',c3',e1,e2,e3,?_⟩
 intro er ec v ha he1 he2
 have q:=ha.2.2
 simp only [hr] at q
 rcases q he1 (.inr he2) with ⟨q,_⟩ | ⟨_,y,b,o,cs,g1,g2,g3,g4,g5⟩
 ·cases q
 ·simp only [xv,Option.some.injEq] at g1
  subst g1
  rw [c3'] at g2
  simp only [w5,z1g,Option.some.injEq,Prod.mk.injEq] at g2
  obtain ⟨rfl,rfl⟩:=g2
  have hl : l = cs:=by
   apply List.ext_getElem?
   intro i
   rcases Nat.lt_or_ge i cs.length with hi | hi
   ·have:=g4 i _ (List.getElem?_eq_getElem hi)
    simp only [zR,e1,Nat.zero_add] at this
    rw [List.getElem?_eq_getElem hi]
    simpa using this
   ·rw [List.getElem?_eq_none hi,List.getElem?_eq_none (by rw [e2.len,← g3]; exact hi)]
  rw [g5,hl]
end
theorem z5g (sz : Nat) (pv : Value) : ∀ rows : List (Option (Int × Int × Int)),A.lives (rows.map (eNv sz pv)) = true
 | [] => rfl
 | none :: l => by simp [A.lives,eNv,A.live,z5g sz pv l]
 | some _ :: l => by simp [A.lives,eNv,A.live,z5g sz pv l]
theorem z6g {es : List α} : ∀ {rows : List (Option (Int × Int × Int))} {r : List (List α)},z2Q es rows = some r → r.length = rows.length
 | [],r,e => by cases e; rfl
 | none :: _,_,e => by cases e
 | some _ :: l,r,e => by
  simp only [z2Q] at e
  obtain ⟨_,e⟩:=gdE e
  obtain ⟨r1,e1,e⟩:=z8 e
  cases e
  simp [z6g e1]
variable {rows : List (Option (Int × Int × Int))}{tys : Array TypeId}{X : List Nat}{op : Oper}
section
variable {C : Ctx} {S : zb} {Fp : Nat → List Nat} {st : St} {a : Act} {w : World}
open Classical in
def tyO (tt : TT) (n : Fr) (dst : Option Nat) (r4 r5 sz : Nat) (pv yv : Value) (o o' : Qt) (b : Bool) (u1 u2 : Value) (tg tg5 : Bool) (rows : List (Option (Int × Int × Int))) (es : List A) (f x : Operand) : SM Unit:=do
 let fs ← refArgs tt n [(f,0)]
 let ls ← lentsA n [0]
 let tx ← opnd x
 let e4 ← rdE r4
 let e5 ← rdE r5
 if fs = [.atom yv] ∧ ls = [(yv,.opq o.q)] ∧ tx = .als r4 [.deref] e4.er e4.ec ∧ e4.t = .own (.box (.agg [.atom u1,.atom u2,.osl 1 tg (rows.map (eNv sz pv))])) ∧ e5.t = .own (.osl sz tg5 es) ∧ z5e n.pin r5 = some pv then
  cond b (pure ()) (wrE r4 ⟨.gone,e4.er + 1,e4.ec + 1⟩ >>= fun _ => wrE r5 ⟨.gone,e5.er + 1,e5.ec + 1⟩) >>= fun _ => backsA [0] [.opq o'.q] >>= fun _ => wrT n dst (.d (.atom (.bool b)))
 else zk
def tyH (tt : TT) (n : Fr) (dst : Option Nat) (r4 r5 sz : Nat) (pv yv : Value) (o o' : Qt) (b : Bool) (u1 u2 : Value) (tg tg5 : Bool) (rows : List (Option (Int × Int × Int))) (es : List A) (f x : Operand) : HM Unit :=
 W4 tt n [(f,0)] >>= fun fs => zU (lentsA n [0]) >>= fun ls => zU (opnd x) >>= fun tx => zU (rdE r4) >>= fun e4 => zU (rdE r5) >>= fun e5 =>
 WZ (fs = [.atom yv] ∧ ls = [(yv,.opq o.q)] ∧ tx = .als r4 [.deref] e4.er e4.ec ∧ e4.t = .own (.box (.agg [.atom u1,.atom u2,.osl 1 tg (rows.map (eNv sz pv))])) ∧ e5.t = .own (.osl sz tg5 es) ∧ z5e n.pin r5 = some pv)
  (zU (cond b (pure ()) (wrE r4 ⟨.gone,e4.er + 1,e4.ec + 1⟩ >>= fun _ => wrE r5 ⟨.gone,e5.er + 1,e5.ec + 1⟩) >>= fun _ => backsA [0] [.opq o'.q] >>= fun _ => wrT n dst (.d (.atom (.bool b)))))
open Classical in
theorem zkg (tt : TT) (n : Fr) (dst : Option Nat) (r4 r5 sz : Nat) (pv yv : Value) (o o' : Qt) (b : Bool) (u1 u2 : Value) (tg tg5 : Bool) (rows : List (Option (Int × Int × Int))) (es : List A) (f x : Operand) : Snd (tyO tt n dst r4 r5 sz pv yv o o' b u1 u2 tg tg5 rows es f x) (tyH tt n dst r4 r5 sz pv yv o o' b u1 u2 tg tg5 rows es f x) :=
 z9 (Xw _ _ _) fun _ => z9 (zf _) fun _ => z9 (zf _) fun _ => z9 (zf _) fun _ => z9 (zf _) fun _ => Y9 (zf _)
open Classical in
theorem Loc.tyO (tt : TT) (n : Fr) (dst : Option Nat) (r4 r5 sz : Nat) (pv yv : Value) (o o' : Qt) (b : Bool) (u1 u2 : Value) (tg tg5 : Bool) (rows : List (Option (Int × Int × Int))) (es : List A) (f x : Operand) : Loc (tyO tt n dst r4 r5 sz pv yv o o' b u1 u2 tg tg5 rows es f x):=by
 unfold Go.Own.tyO
 refine Loc.bind (Loc.refArgs _ _ _) fun _ => Loc.bind (Loc.lentsA _ _) fun _ => Loc.bind (Loc.opnd _) fun _ => Loc.bind (Loc.rdE _) fun _ => Loc.bind (Loc.rdE _) fun _ => Loc.ite ?_ Loc.fail
 refine Loc.bind ?_ fun _ => Loc.bind (Loc.backsA _ _) fun _ => Loc.wrT _ _ _
 cases b
 ·exact Loc.bind (Loc.wrE _ _) fun _ => Loc.wrE _ _
 ·exact Loc.pure _
theorem Sim.drop (h : Sim C S Fp X st a w) (r : Nat)  (hr : (st r).t = .own x) : Sim C S (KH Fp r []) X (upd st r ⟨.gone,(st r).er + 1,(st r).ec + 1⟩) a w :=
 h.change r .gone _ _ [] h.below (fun _ _ _ q => q) h.still.cell h.sbase (fun t k _ hk => ⟨rfl,(h.free t k hk).2.1⟩) rfl (.inl ⟨x,hr⟩) (Nat.le_succ _) (Nat.lt_succ_self _) (by simp) (by simp) h.xn (fun t k _ hk => h.xd t k hk) (by simp) h.xb
theorem Sim.seaT (h : Sim C S Fp X st a w) (T : List Nat) (hT : ∀ k ∈ T,(∀ o,S k o = none) ∧ C.M k ∧ k ∉ X ∧ ∀ t,k ∉ Fp t) : Sim C (zF S w.heap T) Fp X st a w:=by
 refine h.mem h.below (Qp fun k hk => (hT k hk).1) ?_ ?_ ?_ h.xn h.xd h.xb
 ·intro b o u q
  unfold zF at q
  split at q
  ·exact q
  ·exact h.still b o u q
 ·intro b o hb
  unfold zF
  rw [if_neg (fun q => hb (hT b q).2.1)]
  exact h.sbase b o hb
 ·intro t k hk
  refine ⟨rfl,fun o => ?_⟩
  unfold zF
  rw [if_neg (fun q => (hT k q).2.2.2 t hk)]
  exact (h.free t k hk).2.1 o
open Classical in
theorem ziv {P : Program} {tt : TT} (h : Sim C S Fp [] st a w) {op : Oper} {f x : Operand} {tys : Array TypeId} {r4 r5 sz : Nat} {pv yv u1 u2 : Value} {o o' : Qt} {b tg tg5 : Bool}   {g : α → A} [z92 g g] {es : List α} {r : List (List α)} (hr : z2Q es rows = some r) (hne : r4 ≠ r5)
  (hy : xx P (.atom yv) [.agg [.atom u1,.atom u2,eSl 1 tg (eSl sz true g) r]] [(yv,.opq o.q)] (.atom (.bool b)) [.opq o'.q])
  (hw : b = true → ∀ (S S1 S' : zb) (h h' : Array Obj) (v : Value) (F F' : List Nat),(∀ b o u,S b o = some u → S1 b o = some u) → (∀ k ∈ F',∀ o,S1 k o = none) → o.holds S h v F → o'.holds S' h' v F' → o'.holds S1 h' v F')
  (ho : op.op = .call { callee:=.value f,args:=#[x],argTypes:=tys }) {u : Unit} {R : List Nat} {U : List (Nat × Ent)}
  (e : tyO tt C.n op.dst r4 r5 sz pv yv o o' b u1 u2 tg tg5 rows (es.map g) f x st = some (u,R,U)) : qo P C op a w (za U st):=by
 unfold tyO at e
 obtain ⟨fs,R1,U1,R2,U2,e1,e2,rfl,rfl⟩:=bind_some e
 obtain ⟨S1,Fp1,g1,g2,g3⟩:=ZG h e1
 obtain ⟨ls,R5,U5,R6,U6,e5,e6,rfl,rfl⟩:=bind_some e2
 obtain ⟨Fp3,F,k1,k2,k3⟩:=z38 g1 e5
 rw [zi,zi]
 have ⟨tx,_,hx,e7⟩:=bR (zD k1) e6
 have ⟨_,e8⟩:=bD e7
 have ⟨_,e9⟩:=bD e8
 have hq:=zep e9
 clear e9 e8 e7 e6 e5 e2 e1 e h g1
 obtain ⟨⟨rfl,rfl,rfl,ht4,ht5,hp5⟩,e⟩:=hq
 generalize za U5 (za U1 st) = s2 at *
 have k2:=Y4 k2
 obtain ⟨B,ty,l,F4,hv4,hb4,hc4,hF4,hval⟩:=zhZ k1 ht4
 have hev : a.eval x = zT (.agg [.atom u1,.atom u2,.osl 1 tg (rows.map (eNv sz pv))]) l:=hval hx rfl rfl
 have hq5:=k1.ent r5
 unfold yx at hq5
 simp only [ht5] at hq5
 obtain ⟨cs5,c5,n5,v5⟩:=hq5
 have hfree : ∀ k ∈ Fp3 r4 ++ Fp3 r5,∀ o,S1 k o = none:=fun k hk => (List.mem_append.1 hk).elim (fun q => (k1.free r4 k q).2.1) (fun q => (k1.free r5 k q).2.1)
 obtain ⟨T,hT⟩ : ∃ T,T = Fp3 r4 ++ Fp3 r5:=⟨_,rfl⟩
 rw [← hT] at hfree
 have hmono:=Qp (S:=S1) (h:=w.heap) hfree
 have hin : ∀ k ∈ T,∀ o,zF S1 w.heap T k o = zR w.heap k o:=fun k hk o => by unfold zF; rw [if_pos hk]
 have hr4:=hc4.shut hmono (by simp [A.live,A.lives,z5g]) (fun k hk => hin k (by rw [hT,hF4]; simp [hk]))
 have hr5:=c5.shut hmono (by simp only [A.live]; exact JP g es (z92.live (f:=g) (g:=g))) (fun k hk => hin k (by rw [hT]; simp [hk]))
 have hcs : cs5 = [pv]:=by rw [UZ (y:=.osl sz tg5 (es.map g)) rfl c5,← v5,k1.pin r5 pv (We hp5)]
 subst hcs
 simp only [A.shut,A.shuts,(shM g g es).2] at hr4 hr5
 have hF0 : F.Nodup:=by simpa using k1.xn
 have hoff : ∀ k ∈ F,k ∉ T:=fun k hk q => by
  rw [hT] at q
  exact (List.mem_append.1 q).elim (k1.xd r4 k (by simp [hk])) (k1.xd r5 k (by simp [hk]))
 have hdata : Rep (zF S1 w.heap T) (.agg [.atom u1,.atom u2,eSl 1 tg (eSl sz true g) r]) l:=by
  simp only [Rep,y9] at hr4 ⊢
  obtain ⟨a1,a2,ha,p1,a3,a4,ha2,p2,a5,a6,ha3,⟨p,c,hc,t1,t2,t3,t4⟩,rfl⟩:=hr4
  have hl:=z6g hr
  refine ⟨a1,a2,ha,p1,a3,a4,ha2,p2,a5,[],ha3,?_,rfl⟩
  simp only [eSl,Rep,List.length_map,Uo] at hc t1 t2 ⊢
  refine ⟨p,c,by rw [hl]; exact hc,fun q => by rw [hl]; exact t1 q,by rw [hl]; exact t2,?_,?_⟩
  ·intro y hy
   obtain ⟨_,_,rfl⟩:=List.mem_map.1 hy
   rfl
  ·rcases t4 with t4 | ⟨b1,o1,l1,q1,q2,q3⟩
   ·refine .inl ?_
    have : rows.length = 0:=by simpa [Uo] using congrArg List.length t4
    rw [← hl] at this
    rw [List.length_eq_zero_iff.1 this]
    rfl
   ·exact .inr ⟨b1,o1,l1,q1,z8f hr5 hr q2,q3⟩
 have hS2 : w9 (zF S1 w.heap T) w:=by
  refine ⟨fun b o u q => ?_,k1.still.gok.mono hmono,k1.still.blk.of hmono fun _ _ _ => rfl⟩
  unfold zF at q
  split at q
  ·exact q
  ·exact k1.still b o u q
 have hY:=k2.frame (h':=w.heap) hmono (fun k hk => ⟨rfl,fun o => by unfold zF; rw [if_neg (hoff k hk)]; exact (k1.xb k (by simp [hk]) |> fun _ => (k2.own k hk).2 o)⟩)
 have hmap : (Array.map a.eval #[x]).toList = [a.eval x]:=by simp
 have hact:=hy (zF S1 w.heap T) w (a.eval f) [a.eval x] F hS2 (g3.1.mono hmono) ⟨⟨l,hdata,hev⟩,trivial⟩ (YV hY) hF0
 rw [← hmap] at hact
 intro rd m K Q hK
 refine zbD (args:=#[x]) ho hact rd m K Q ?_
 rintro v' w' ⟨S',F',G,b1,b2,b3,b4,b5,b6,b7,b8⟩
 have hv : v' = .bool b ∧ F' = []:=by
  have q:=z5j (a:=.atom (.bool b)) rfl b5
  exact ⟨(vp.1 q.1).1,q.2⟩
 obtain ⟨rfl,rfl⟩:=hv
 simp only [List.append_nil] at b7 b8
 obtain ⟨u5,R7,U7,R8,U8,q1,q2,rfl,rfl⟩:=bind_some e
 obtain ⟨u6,R9,U9,R10,U10,q3,q4,rfl,rfl⟩:=bind_some q2
 rw [zi,zi] at hK
 have k3' : Act.tv a 0 = yv:=by simpa using k3.symm
 cases b with
 | true =>
  obtain ⟨_,rfl,rfl⟩:=vB q1
  simp only [za] at hK q3 q4
  obtain ⟨S3,hS3⟩ : ∃ S3 : zb,S3 = fun b o => if b ∈ T then none else S' b o:=⟨_,rfl⟩
  have hm3 : ∀ b o u,S1 b o = some u → S3 b o = some u:=fun b o u q => by
   have hb : b ∉ T:=fun k => by rw [hfree b k o] at q; cases q
   rw [hS3]
   show (if b ∈ T then none else S' b o) = _
   rw [if_neg hb]
   exact b2 b o u (hmono b o u q)
  have hG : ∀ k ∈ G,k ∉ T:=fun k hk q => by
   rcases b8 k hk with q2 | q2
   ·have : k < w.heap.size:=by
     rw [hT] at q
     exact (List.mem_append.1 q).elim (fun q => (k1.free r4 k q).1) (fun q => (k1.free r5 k q).1)
    omega
   ·exact hoff k q2 q
  have hb6:=Ux (Y4 b6)
  have hGn : ∀ k ∈ G,∀ o,S3 k o = none:=fun k hk o => by
   rw [hS3]
   show (if k ∈ T then none else S' k o) = _
   rw [if_neg (hG k hk)]
   exact ((Y4 b6).own k hk).2 o
  have hs':=k1.lentCall (S':=S3) (Y:=G) b1 hm3 (fun b o hb hbF => by
    rw [hS3]
    show (if b ∈ T then none else S' b o) = _
    split
    ·rename_i q; exact (hfree b q o).symm
    ·rename_i q
     rw [b3 b o hb hbF]
     unfold zF
     rw [if_neg q]) ⟨fun b o u q => by
    rw [hS3] at q
    have q' : (if b ∈ T then none else S' b o) = some u:=q
    split at q'
    ·cases q'
    ·exact b4 b o u q',k1.still.gok.mono hm3,k1.still.blk.of hm3 fun g x e => b1.block g (by
     rintro (q | q)
     ·have:=k1.still.blk.lt e; omega
     ·exact k1.still.blk.ne ((k2.own g q).2 0) x e)⟩ b7 b8
  have hY3:=hw rfl S1 S3 S' w.heap w'.heap yv F G hm3 hGn (Ux k2) hb6
  obtain ⟨Fp4,m1⟩:=JX (F:=G) (X:=[]) (by simpa using hs') (by simpa [k3'] using YV (QH hY3 b7)) q3
  obtain ⟨Fp5,m2⟩:=wI m1 q4 (v:=.bool true) (zo.2 ⟨rfl,rfl⟩)
  exact hK _ _ _ _ m2
 | false =>
  obtain ⟨u7,R11,U11,R12,U12,q5,q6,rfl,rfl⟩:=bind_some q1
  obtain ⟨rfl,rfl⟩:=z4M q5
  obtain ⟨rfl,rfl⟩:=z4M q6
  simp only [List.cons_append,List.nil_append,za] at hK q3 q4
  have j1:=k1.drop r4 ht4
  have j2:=j1.drop r5 (x:=.osl sz tg5 (es.map g)) (by rw [Y8 _ _ (Ne.symm hne)]; exact ht5)
  rw [Y8 _ _ (Ne.symm hne)] at j2
  have hTF : ∀ t k,k ∈ KH (KH Fp3 r4 []) r5 [] t → k ∉ T:=by
   intro t k hk q
   rw [hT] at q
   unfold KH at hk
   split at hk
   ·cases hk
   ·split at hk
    ·cases hk
    ·rename_i n5' n4'
     exact (List.mem_append.1 q).elim (fun q => n4' (k1.disj t r4 k hk q)) (fun q => n5' (k1.disj t r5 k hk q))
  have j3:=j2.seaT T (fun k hk => ⟨hfree k hk,by
    rw [hT] at hk
    exact (List.mem_append.1 hk).elim (k1.base r4 k) (k1.base r5 k),fun q => hoff k (by simpa using q) hk,fun t q => hTF t k q hk⟩)
  have hs':=j3.lentCall (S':=S') (Y:=G) b1 b2 b3 b4 b7 b8
  obtain ⟨Fp4,m1⟩:=JX (F:=G) (X:=[]) (by simpa using hs') (by simpa [k3'] using b6) q3
  obtain ⟨Fp5,m2⟩:=wI m1 q4 (v:=.bool false) (zo.2 ⟨rfl,rfl⟩)
  exact hK _ _ _ _ m2
def zjJ (d : Nat) (o : Oper) : Option (Operand × Operand):=match o.op with | .call ⟨.value f,⟨[x]⟩,_⟩ => if o.dst = some d then some (f,x) else none | _ => none
def xTy (tt : TT) {yv : Value}  {Y : σ → Qt} {enc : β → Bool → Value → List A} {y : σ → β → Option (σ × Bool)} (hy : YOk P yv Y enc y) (hw : WkY Y y) (d r4 r5 sz : Nat) (pv : Value) {u1 u2 : Value} {tg tg5 : Bool}   (g : α → A) [z92 g g] {es : List α} {r : List (List α)} (hr : z2Q es rows = some r) (hne : r4 ≠ r5)
    {s s' : σ} {x : β} {b : Bool} (h : y s x = some (s',b)) (he : ∀ v,z4I [.agg [.atom u1,.atom u2,eSl 1 tg (eSl sz true g) r]] (enc x b v)) : XH P :=
  xAt P (zjJ d) (fun n o q => tyO tt n o.dst r4 r5 sz pv yv (Y s) (Y s') b u1 u2 tg tg5 rows (es.map g) q.1 q.2) (fun n o q => tyH tt n o.dst r4 r5 sz pv yv (Y s) (Y s') b u1 u2 tg tg5 rows (es.map g) q.1 q.2)
    (by
      intro C S Fp st a w o q hp hs u R U e
      unfold zjJ at hp
      split at hp
      · rename_i ho
        cases zbK hp
        exact ziv hs hr hne (fun S w fv vs F q1 q2 q3 => hy s x s' b h .nilFunc S w fv vs F q1 q2 ((he .nilFunc).all _ _ q3)) (fun hb => hw s x s' (by rw [← hb]; exact h)) ho e
      · cases hp)
    (fun n o q => Loc.tyO _ _ _ _ _ _ _ _ _ _ _ _ _ _ _ _ _ _ _) (fun n o q => zkg _ _ _ _ _ _ _ _ _ _ _ _ _ _ _ _ _ _ _)
end
def ghQ (p : Prop) (v : Value) (x : A) : Opq:={
 holds:=fun S h u F => p ∧ u = undef ∧ zz S h x [v] F
 multi:=true
 one:=fun q => .inr ⟨rfl,#[],by rw [q.2.1]; rfl⟩
 frame:=fun hS hF q => ⟨q.1,q.2.1,q.2.2.frame hS hF⟩
 own:=fun q k hk => ⟨(q.2.2.own k hk).1,(q.2.2.own k hk).2.1⟩
 idx:=0 }
variable {st : St}{p : Prop}
theorem z8I {h : Array Obj}  {tv : Nat → Value} {F : List Nat} {e : Ent} {u v : Value}   (he : e.t = .own (.opq (ghQ p v x))) : yx S h st tv F e u ↔ p ∧ u = undef ∧ zz S h x [v] F ∧ F.Nodup:=by
 unfold yx
 simp only [he]
 constructor
 ·rintro ⟨cs,c1,c2,c3⟩
  simp only [zz] at c1
  obtain ⟨u',rfl,q0,q1,q2⟩:=c1
  have : u = u':=c3
  subst this
  exact ⟨q0,q1,q2,c2⟩
 ·rintro ⟨q0,rfl,q1,q2⟩
  exact ⟨[undef],by simp only [zz]; exact ⟨_,rfl,q0,rfl,q1⟩,q2,rfl⟩
variable {Q : Exit → St → Prop}{n : Fr}{c : Code}
theorem zi2 {g : Nat}    (he : (st g).t = .own (.opq (ghQ p v x))) (h : p → AWP P n c st Q) : AWP P n c st Q :=
 fun rd m df w0 S0 M S Fp a w hc hs => h ((z8I he).1 (hs.ent g)).1 rd m df w0 S0 M S Fp a w hc hs
variable {xs0 : List A}
section
variable {C : Ctx} {S : zb} {Fp : Nat → List Nat} {X : List Nat} {st : St} {a : Act} {w : World}
open Classical in
def ghO (tt : TT) (n : Fr) (dst : Option Nat) (g : Nat) (p p' : Prop) (v : Value) (x x' fa r : A) (xs0 : List A) (f : Operand) (as_ : List (Operand × Nat)) : SM Unit:=do
 let fs ← refArgs tt n [(f,0)]
 let xs ← refArgs tt n as_
 let e ← rdE g
 if fs = [fa] ∧ z4I xs xs0 ∧ e.t = .own (.opq (ghQ p v x)) then
  wrE g ⟨.own (.opq (ghQ p' v x')),e.er,e.ec + 2⟩ >>= fun _ => wrT n dst (.d r)
 else zk
def ghH (tt : TT) (n : Fr) (dst : Option Nat) (g : Nat) (p p' : Prop) (v : Value) (x x' fa r : A) (xs0 : List A) (f : Operand) (as_ : List (Operand × Nat)) : HM Unit :=
 W4 tt n [(f,0)] >>= fun fs => W4 tt n as_ >>= fun xs => zU (rdE g) >>= fun e => WZ (fs = [fa] ∧ z4I xs xs0 ∧ e.t = .own (.opq (ghQ p v x))) (zU (wrE g ⟨.own (.opq (ghQ p' v x')),e.er,e.ec + 2⟩ >>= fun _ => wrT n dst (.d r)))
open Classical in
theorem zko (tt : TT) (n : Fr) (dst : Option Nat) (g : Nat) (p p' : Prop) (v : Value) (x x' fa r : A) (xs0 : List A) (f : Operand) (as_ : List (Operand × Nat)) : Snd (ghO tt n dst g p p' v x x' fa r xs0 f as_) (ghH tt n dst g p p' v x x' fa r xs0 f as_) :=
 z9 (Xw _ _ _) fun _ => z9 (Xw _ _ _) fun _ => z9 (zf _) fun _ => Y9 (zf _)
open Classical in
theorem Loc.ghO (tt : TT) (n : Fr) (dst : Option Nat) (g : Nat) (p p' : Prop) (v : Value) (x x' fa r : A) (xs0 : List A) (f : Operand) (as_ : List (Operand × Nat)) : Loc (ghO tt n dst g p p' v x x' fa r xs0 f as_):=by
 unfold Go.Own.ghO
 exact Loc.bind (Loc.refArgs _ _ _) fun _ => Loc.bind (Loc.refArgs _ _ _) fun _ => Loc.bind (Loc.rdE _) fun _ => Loc.ite (Loc.bind (Loc.wrE _ _) fun _ => Loc.wrT _ _ _) Loc.fail
open Classical in
theorem ziR {P : Program} {tt : TT} (h : Sim C S Fp [] st a w) {op : Oper} {f : Operand} {args : Array Operand} {tys : Array TypeId} {g : Nat} {p p' : Prop} {v : Value} {x x' fa r : A} {xs0 : List A} (hp : p → p') (hrd : r.isD = true)
  (hl : xx P fa xs0 [(v,.box x)] r [.box x']) (ho : op.op = .call { callee:=.value f,args:=args,argTypes:=tys }) (hsz : args.size = tys.size) {u : Unit} {R : List Nat} {U : List (Nat × Ent)}
  (e : ghO tt C.n op.dst g p p' v (.box x) (.box x') fa r xs0 f (args.toList.zip tys.toList) st = some (u,R,U)) : qo P C op a w (za U st):=by
 unfold ghO at e
 obtain ⟨fs,R1,U1,R2,U2,e1,e2,rfl,rfl⟩:=bind_some e
 obtain ⟨S1,Fp1,g1,g2,g3⟩:=ZG h e1
 obtain ⟨xs,R3,U3,R4,U4,e3,e4,rfl,rfl⟩:=bind_some e2
 obtain ⟨S2,Fp2,j1,j2,j3⟩:=ZG g1 e3
 have ⟨_,e5⟩:=bD e4
 have hq:=zep e5
 clear e5 e4 e3 e2 e1 e h
 obtain ⟨⟨rfl,hle,hg⟩,e⟩:=hq
 rw [zi,zi]
 have hmap : (args.toList.zip tys.toList).map (fun p => a.eval p.1) = (args.map a.eval).toList:=by
  have : (args.toList.zip tys.toList).map (fun p => a.eval p.1) = ((args.toList.zip tys.toList).map (·.1)).map a.eval:=by rw [List.map_map]; rfl
  rw [this,List.map_fst_zip (by simp [hsz])]
  simp
 rw [hmap] at j3
 generalize za U3 (za U1 st) = s2 at *
 obtain ⟨hp0,hu,hc,hn⟩:=(z8I hg).1 (j1.ent g)
 obtain ⟨F,hF⟩ : ∃ F,F = Fp2 g:=⟨_,rfl⟩
 rw [← hF] at hc hn
 have hv : v.oneCell' = true:=hc.one1 rfl _ (by simp)
 have k1 : Sim C S2 (KH Fp2 g []) (F ++ []) (upd s2 g ⟨.own (.opq (ghQ p v (.dead 1))),(s2 g).er,(s2 g).ec + 1⟩) a w:=by
  refine j1.change g (.own (.opq (ghQ p v (.dead 1)))) _ _ [] j1.below (fun _ _ _ q => q) j1.still.cell j1.sbase (fun t k _ hk => ⟨rfl,(j1.free t k hk).2.1⟩) ⟨?_,_,hg⟩ (.inl ⟨_,hg⟩) (Nat.le_refl _) (Nat.lt_succ_self _) (by simp) (by simp) (by simpa using hn) ?_ (by simp) ?_
  ·exact ⟨[undef],by simp only [zz]; exact ⟨_,rfl,hp0,rfl,rfl,by simpa using hv,rfl⟩,List.nodup_nil,hu⟩
  ·intro t k ht hk
   rw [List.append_nil,hF] at hk
   exact fun q => ht (j1.disj t g k q hk)
  ·intro k hk
   rw [List.append_nil,hF] at hk
   exact j1.base g k hk
 have hact:=hl S2 w (a.eval f) _ F j1.still (g3.1.mono j2) (hle.all _ _ j3) (YV (.inr ⟨[v],hc,hn,rfl⟩)) hn
 intro rd m K Q hK
 refine zbD ho hact rd m K Q ?_
 rintro v' w' ⟨S',F',G,b1,b2,b3,b4,b5,b6,b7,b8⟩
 obtain ⟨b5r,rfl⟩:=z5j hrd b5
 simp only [List.append_nil] at b7 b8
 have hs':=k1.lentCall (Y:=G) b1 b2 b3 b4 b7 b8
 obtain ⟨u5,R7,U7,R8,U8,q1,q2,rfl,rfl⟩:=bind_some e
 obtain ⟨rfl,rfl⟩:=z4M q1
 rw [zi] at hK
 obtain ⟨cs,c1,c2,c3⟩:=(Y4 b6).cells (by rintro fs q; cases q)
 have hcs : cs = [v]:=by rw [UZ (y:=.box x') rfl c1,← c3]
 subst hcs
 have k2 : Sim C S' (KH (KH Fp2 g []) g G) [] (upd s2 g ⟨.own (.opq (ghQ p' v (.box x'))),(s2 g).er,(s2 g).ec + 2⟩) a w':=by
  have:=hs'.change (X':=[]) g (.own (.opq (ghQ p' v (.box x')))) (s2 g).er ((s2 g).ec + 2) G hs'.below (fun _ _ _ q => q) hs'.still.cell hs'.sbase (fun t k _ hk => ⟨rfl,(hs'.free t k hk).2.1⟩)
   ⟨⟨[undef],by simp only [zz]; exact ⟨_,rfl,hp hp0,rfl,c1⟩,b7,hu⟩,_,by rw [wa]⟩ (.inl ⟨_,by rw [wa]⟩) (by rw [wa]; exact Nat.le_refl _) (by rw [wa]; exact Nat.lt_succ_self _) (fun t k _ hk => hs'.xd t k hk) hs'.xb (by simp) (by simp) (by simp) (by simp)
  have e : upd (upd s2 g ⟨.own (.opq (ghQ p v (.dead 1))),(s2 g).er,(s2 g).ec + 1⟩) g ⟨.own (.opq (ghQ p' v (.box x'))),(s2 g).er,(s2 g).ec + 2⟩ = upd s2 g ⟨.own (.opq (ghQ p' v (.box x'))),(s2 g).er,(s2 g).ec + 2⟩:=by
   funext t
   unfold upd
   split <;> rfl
  rw [← e]
  exact this
 obtain ⟨Fp5,m2⟩:=wI k2 q2 (v:=v') b5r.repV
 exact hK _ _ _ _ m2
def zjQ (d : Nat) (o : Oper) : Option (Operand × List (Operand × Nat)):=match o.op with | .call ⟨.value f,args,tys⟩ => if o.dst = some d then (if args.size = tys.size then some (f,args.toList.zip tys.toList) else none) else none | _ => none
def xGh (tt : TT) (d g : Nat) {p p' : Prop}  {x x' fa r : A}  (hp' : p → p') (hrd : r.isD = true) (hl : xx P fa xs0 [(v,.box x)] r [.box x']) : XH P :=
 xAt P (zjQ d) (fun n o q => ghO tt n o.dst g p p' v (.box x) (.box x') fa r xs0 q.1 q.2) (fun n o q => ghH tt n o.dst g p p' v (.box x) (.box x') fa r xs0 q.1 q.2)
  (by
   intro C S Fp st a w o q hp hs u R U e
   unfold zjQ at hp
   split at hp
   ·rename_i ho
    have hp:=zbK hp
    split at hp
    ·rename_i hsz; cases hp; exact ziR hs hp' hrd hl ho hsz e
    ·cases hp
   ·cases hp)
  (fun n o q => Loc.ghO _ _ _ _ _ _ _ _ _ _ _ _ _ _) (fun n o q => zko _ _ _ _ _ _ _ _ _ _ _ _ _ _)
end
theorem z8V : ∀ {l : List A},A.areD l = true → ∀ y ∈ l,y.isD = true
 | x :: l,h,y,hy => by
  simp only [A.areD,Bool.and_eq_true] at h
  rcases List.mem_cons.1 hy with rfl | hy
  ·exact h.1
  ·exact z8V h.2 y hy
theorem z8X {α β : Type} {R : α → β → Prop} : ∀ {l : List α} {m : List β} {i : Nat} {x : α},WI R l m → l[i]? = some x → ∃ y,m[i]? = some y ∧ R x y
 | a :: l,b :: m,0,x,h,e => ⟨b,rfl,by cases e; exact h.1⟩
 | a :: l,b :: m,i + 1,x,h,e => z8X (l:=l) (m:=m) (i:=i) h.2 (by simpa using e)
 | _ :: _,[],_,_,h,_ => h.elim
 | [],_,_,_,_,e => by simp at e
variable {args : List A}
theorem zaH {k : Nat}   {nt : Nat} (g : Nat) {args : List A} {x x' : A} {cv : Value}  (hp : p) (hf : P.funcs[k]? = some fn) (hnm : (fn.name == "runtime.NumGoroutine") = false) (hb : fn.body = some body)
  (hn : nt = fn.ntmps) (hr : fn.results = #[]) (ha : args.length ≤ g) (hg : g < nt) (hD : A.areD args = true)
  (h : ∀ E : Exit → St → Prop,(∀ l st,¬ E (.goto l) st) → (∀ ex st,(ex = .normal ∨ ex = .ret) → (∃ q,(st g).t = .own (.opq (ghQ q cv (.box x')))) → E ex st) →
   AWP P ⟨nt,[]⟩ body (ofL ((g,.own (.opq (ghQ p cv (.box x)))) :: z73 0 args)) (Qf P ⟨nt,[]⟩ [] E)) : xx P (.fn k []) args [(cv,.box x)] (.tup []) [.box x']:=by
 subst hn
 intro S w fv vs F hS hfv havs hls hF
 obtain ⟨cs0,hfv,rfl⟩:=hfv
 simp only [Rep] at hfv
 obtain ⟨us,k1,k2,rfl⟩:=hfv
 have hus : us = []:=by simpa only [y9] using k1
 subst hus
 obtain ⟨cs,c1,c2,c3⟩:=(Y4 hls).cells (by rintro fs q; cases q)
 have hcs : cs = [cv]:=by rw [UZ (y:=.box x) rfl c1]; exact congrArg (fun v => [v]) c3.symm
 subst hcs
 refine .inl ⟨k,#[],fn,rfl,hf,hnm,by rw [hb]; rfl,?_⟩
 have hw : Calls P k vs.toArray w fun e w' => ∃ v,e = .returned v ∧ ∃ S' F' G,Ui (fun k => w.heap.size ≤ k ∨ k ∈ F) w w' ∧ (∀ b o u,S b o = some u → S' b o = some u) ∧ (∀ b o,b < w.heap.size → b ∉ F → S' b o = S b o) ∧ w9 S' w' ∧ Has S' w'.heap (.tup []) v F' ∧
   Vc S' w'.heap [.box x'] [cv] G ∧ (G ++ F').Nodup ∧ ∀ k ∈ G ++ F',w.heap.size ≤ k ∨ k ∈ F:=by
  refine (callsIn_wide (n:=0)).1 (callsIn_of_wp_marks hf hb trivial ?_ rfl)
  have hlen:=z2n havs
  have htv : ∀ t,Act.tv { tmps:=vs.toArray ++ Array.replicate (fn.ntmps - vs.toArray.size) undef,defers:=[] } t = (vs[t]?).getD undef:=by
   intro t
   simp only [Act.tv,Array.getD_eq_getD_getElem?]
   by_cases ht : t < vs.length
   ·rw [Array.getElem?_append_left (by simpa using ht)]
    simp
   ·rw [Array.getElem?_append_right (by simpa using ht),List.getElem?_eq_none (by omega),Array.getElem?_replicate]
    split <;> rfl
  have hs : Sim ⟨⟨fn.ntmps,[]⟩,[],w,S,fun k => w.heap.size ≤ k ∨ k ∈ F⟩ S (fun t => if t = g then F else []) [] (ofL ((g,.own (.opq (ghQ p cv (.box x)))) :: z73 0 args)) { tmps:=vs.toArray ++ Array.replicate (fn.ntmps - vs.toArray.size) undef,defers:=[] } w:=by
   refine { size:=by simp; omega,pin:=by simp,defers:=rfl,below:=Ui.refl _ _,mine:=⟨fun k hk => .inl hk,?_⟩,still:=hS,sinc:=fun _ _ _ q => q,sbase:=fun _ _ _ => rfl,ent:=?_,disj:=?_,base:=?_,xn:=by simp,xd:=by simp,xb:=by simp }
   ·rintro b y e (hk | hk)
    ·have:=hS.blk.lt e; omega
    ·exact hS.blk.ne ((c1.own b hk).2.1 0) y e
   ·intro t
    rw [htv]
    by_cases ht : t = g
    ·subst ht
     rw [if_pos rfl]
     refine (z8I (by simp only [ofL,if_pos])).2 ⟨hp,?_,c1,c2⟩
     rw [List.getElem?_eq_none (by omega)]; rfl
    ·rw [if_neg ht]
     have e1 : ofL ((g,.own (.opq (ghQ p cv (.box x)))) :: z73 0 args) t = ini args t:=by rw [z6D]; simp only [ofL,if_neg ht]
     rw [e1]
     unfold ini
     cases hat : args[t]? with
     | none => rfl
     | some y =>
      dsimp only
      have hy : y.isD = true:=z8V hD y (List.mem_of_getElem? hat)
      obtain ⟨u,hu,hr1⟩:=z8X havs hat
      rw [hu]
      have : mkT y = .d y:=by cases y <;> first | rfl | (simp [A.isD] at hy; done) | (simp only [mkT]; rw [if_pos hy])
      unfold yx
      simp only [this]
      exact ⟨hr1.repV,by trivial⟩
   ·intro t u k ht hu
    split at ht <;> split at hu <;> simp_all
   ·intro t k hk
    split at hk
    ·exact .inr hk
    ·cases hk
  refine wpIn_mono (h (fun ex st => (ex = .normal ∨ ex = .ret) ∧ ∃ q,(st g).t = .own (.opq (ghQ q cv (.box x')))) (fun l st q => by rcases q.1 with q | q <;> cases q) (fun ex st h1 h2 => ⟨h1,h2⟩) none 0 [] w S _ S _ _ w ⟨by simp,by simp,by simp⟩ hs) ?_
  rintro ex a' w' ⟨df',st',S',Fp',h1,h2,hx,_,hgt⟩
  have fin : LeavesInM Fence.wide 0 P fn a'.tmps (fun e w' => ∃ v,e = .returned v ∧ ∃ S' F' G,Ui (fun k => w.heap.size ≤ k ∨ k ∈ F) w w' ∧ (∀ b o u,S b o = some u → S' b o = some u) ∧ (∀ b o,b < w.heap.size → b ∉ F → S' b o = S b o) ∧ w9 S' w' ∧ Has S' w'.heap (.tup []) v F' ∧
   Vc S' w'.heap [.box x'] [cv] G ∧ (G ++ F').Nodup ∧ ∀ k ∈ G ++ F',w.heap.size ≤ k ∨ k ∈ F) a'.defers .returning w':=by
   rw [h1.defers]
   refine z7H (C:=⟨⟨fn.ntmps,[]⟩,df',w,S,fun k => w.heap.size ≤ k ∨ k ∈ F⟩) (fun w2 hw2 => ?_) df' w' h1 h2.nodup fun D hD => ⟨(h2.old D hD).elim (fun q => by simp at q) id,h2.ent D hD,h2.off D hD⟩
   obtain ⟨_,q1,q2,q3⟩:=(z8I hgt).1 (hw2.ent g)
   refine ⟨.tuple #[],by simp [results,hr],_,rfl,S',[],Fp' g,hw2.below,hw2.sinc,fun b o hb hbF => hw2.sbase b o (by rintro (q | q) <;> first | omega | exact hbF q),hw2.still,.inl ⟨by simp only [xw]; exact ⟨[],rfl,trivial⟩,rfl⟩,YV (.inr ⟨[cv],q2,q3,rfl⟩),by simpa using q3,fun k hk => hw2.base g k (by simpa using hk)⟩
  rcases hx with rfl | rfl
  ·exact fin
  ·exact fin
 simpa using hw
def WkA (x : A) : Prop:=∀ (S S1 : zb) (h : Array Obj) (cs : List Value) (F : List Nat),zz S h x cs F → (∀ k ∈ F,∀ o,S1 k o = none) → zz S1 h x cs F
theorem z29 (h : x.indep = true) : WkA x:=fun _ _ _ _ _ q hF => zz.indep h q hF
theorem zit (h : WkA x) : WkA (.opq (ghQ p v x)):=fun S S1 hp cs F q hF => by
 simp only [zz] at q ⊢
 obtain ⟨u,e,q0,q1,q2⟩:=q
 exact ⟨u,e,q0,q1,h _ _ _ _ _ q2 hF⟩
inductive WkL : List (Nat × T) → List (Nat × T) → Prop
 | nil : WkL [] []
 | d (k : Nat) (a : A) {l m : List (Nat × T)} : WkL l m → WkL ((k,.d a) :: l) ((k,.d a) :: m)
 | own (k : Nat) {x y : A} {l m : List (Nat × T)} : WkA y → WkL l m → WkL ((k,.own x) :: l) ((k,.own y) :: m)
theorem WkL.ent {l m : List (Nat × T)} (h : WkL l m) (t : Nat) : (ofL m t).t = .gone ∨ (∃ a,(ofL l t).t = .d a ∧ (ofL m t).t = .d a) ∨ ∃ y,(ofL m t).t = .own y ∧ WkA y:=by
 induction h with
 | nil => exact .inl rfl
 | d k a _ ih =>
  simp only [ofL]
  split
  ·exact .inr (.inl ⟨a,rfl,rfl⟩)
  ·exact ih
 | own k hy _ ih =>
  simp only [ofL]
  split
  ·exact .inr (.inr ⟨_,rfl,hy⟩)
  ·exact ih
def zie (o : Qt) (p : Prop) : Qt:=⟨fun S h v F => p ∧ o.holds S h v F,fun q => o.one q.2,fun a b q => ⟨q.1,o.frame a b q.2⟩,fun q => o.own q.2,o.idx⟩
def zif {σ τ : Type} (inv : σ → Prop) : LR σ τ → Prop
 | .next s => inv s
 | .done _ => True
theorem zaM {P : Program} {K : Nat} {caps : List A} {σ τ β : Type} {enc : β → Bool → Value → List A} {F : ∀ {σ : Type},(σ → β → Option (σ × Bool)) → σ → Option σ} {stF : σ → List (Nat × T)} {stD : τ → List (Nat × T)} {jc : τ → Code} {step : σ → β → Option (LR σ τ)} {s0 : σ} {lr : LR σ τ}
  (hit : zgt P (.fn K caps) enc F) (inv : σ → Prop) (h0 : inv s0) (hs : ∀ s x s',inv s → step s x = some (.next s') → inv s' ∧ WkL (stF s) (stF s')) (hF : F (yOf step) (.next s0) = some lr) (L : Nat) (rec : Loop) (tv : Nat → Value) (hp : ∀ l t,((z2G (fun s => ofL (stF s)) (fun t => ofL (stD t)) l) t).t.plain = true)
  (hY : YOk P (.func (.yield L) #[] #[]) (fun l => (QL L (WV rec jc l) tv (z2G (fun s => ofL (stF s)) (fun t => ofL (stD t)) l) (hp l) 0).single rfl) enc (yOf step)) :
  xx P (.fn K caps) [.atom (.func (.yield L) #[] #[])] [(.func (.yield L) #[] #[],.opq (QL L (WV rec jc (LR.next s0 : LR σ τ)) tv (z2G (fun s => ofL (stF s)) (fun t => ofL (stD t)) (.next s0)) (hp (.next s0)) 0))] (.tup []) [.opq (QL L (WV rec jc lr) tv (z2G (fun s => ofL (stF s)) (fun t => ofL (stD t)) lr) (hp lr) 0)]:=by
 obtain ⟨Y,hYd⟩ : ∃ Y : LR σ τ → Qt,Y = fun l => (QL L (WV rec jc l) tv (z2G (fun s => ofL (stF s)) (fun t => ofL (stD t)) l) (hp l) 0).single rfl:=⟨_,rfl⟩
 rw [← hYd] at hY
 have h1 : YOk P (.func (.yield L) #[] #[]) (fun l => zie (Y l) (zif inv l)) enc (yOf step):=by
  intro l x l' b hy v S w fv vs G hS hfv hvs hls hG
  have q:=Ux (Y4 hls)
  refine zgu.mono (hY l x l' b hy v S w fv vs G hS hfv hvs (YV (QH (o:=(Y l).q) q.2 hG)) hG) ?_
  rintro u w' ⟨S',F',G',k1,k2,k3,k4,k5,k6,k7,k8⟩
  refine ⟨S',F',G',k1,k2,k3,k4,k5,YV (QH (o:=(zie (Y l') (zif inv l')).q) ⟨?_,Ux (Y4 k6)⟩ (List.nodup_append.1 k7).1),k7,k8⟩
  obtain ⟨s,rfl,hst,_⟩:=z4K hy
  cases l' with
  | done t => trivial
  | next s' => exact (hs s x s' q.1 hst).1
 have h2 : WkY (fun l => zie (Y l) (zif inv l)) (yOf step):=by
  intro l x l' hy S S1 S' h h' v F F' hm hn q q'
  obtain ⟨s,rfl,hst,hb⟩:=z4K hy
  cases l' with
  | done t => cases hb
  | next s' =>
   subst hYd
   obtain ⟨i1,_,_,_,Fp,q4,_,_,_⟩:=q
   obtain ⟨i2,p1,p2,p3,Fp',p4,p5,p6,p7⟩:=q'
   refine ⟨i2,p1,p2,hn L ((p7 L).2 (.inl rfl)),Fp',fun t => ?_,p5,p6,p7⟩
   have hF : ∀ k ∈ Fp' t,∀ o,S1 k o = none:=fun k hk => hn k ((p7 k).2 (.inr ⟨t,hk⟩))
   have e1:=p4 t
   have e0:=q4 t
   unfold yx at e1 e0 ⊢
   simp only [z2G] at e1 e0 ⊢
   rcases (hs s x s' i1 hst).2.ent t with k | ⟨a,k1,k2⟩ | ⟨y,k1,k2⟩
   ·simp only [k] at e1 ⊢; exact e1
   ·simp only [k1] at e0
    simp only [k2] at e1 ⊢
    exact ⟨e0.1.mono hm,e1.2⟩
   ·simp only [k1] at e1 ⊢
    obtain ⟨cs,c1,c2,c3⟩:=e1
    exact ⟨cs,k2 _ _ _ _ _ c1 hF,c2,c3⟩
 intro S w fv vs G hS hfv hvs hls hG
 have q:=Ux (Y4 hls)
 subst hYd
 refine zgu.mono (hit _ _ _ _ h1 h2 _ _ hF S w fv vs G hS hfv hvs (YV (QH (o:=(zie _ (zif inv (.next s0))).q) ⟨h0,q⟩ hG)) hG) ?_
 rintro u w' ⟨S',F',G',k1,k2,k3,k4,k5,k6,k7,k8⟩
 exact ⟨S',F',G',k1,k2,k3,k4,k5,YV (QH (Ux (Y4 k6)).2 (List.nodup_append.1 k7).1),k7,k8⟩
variable {l : Nat}{w : World}
section
variable {P : Program}
theorem z98 {a : Act}  {b : Frame} {k : List Item} {cs : List Frame} : step P (lone (b.atR a (.code .skip :: k)) cs w) = .next (lone (b.atR a k) cs w) :=
 step_lone_go (by simp [Go.stepG,Go.stepG.exec,Frame.atR])
theorem z75 {F : Fence} {n : Nat} {Q : Exit → Act → World → Prop} {a : Act}    (hf : findLabel c l = some .skip) (h : c.wpIn F n P (fun e a w => match e with | .goto l' => l' = l ∧ Q .normal a w | e => Q e a w) a w) : (Code.scope c).wpIn F n P Q a w:=by
 intro b k cs hro hb hr
 have h0 : (lone (b.atR a (.code (.scope c) :: k)) cs w).fenced P F:=fenced_calm hb hr rfl
 have ⟨e,a₁,w₁,hq,harr⟩:=h b (.inScope c :: k) cs hro hb hr
 cases e with
 | normal => exact ⟨.normal,a₁,w₁,hq,.head h0 qW (StepsIn.trans harr (.one (fenced_calm hb hr rfl) JD))⟩
 | exit id =>
  have hx : exitTo id (.inScope c :: k) = exitTo id k:=by simp [exitTo]
  exact ⟨.exit id,a₁,w₁,hq,fun k' hk => .head h0 qW (harr.1 k' (by rw [hx]; exact hk)),
   fun hr' hk => let ⟨k₁,h1,h2⟩:=harr.2 hr' (by rw [hx]; exact hk); ⟨k₁,h1,.head h0 qW h2⟩⟩
 | goto l' =>
  obtain ⟨rfl,hq⟩:=hq
  have hg : gotoIn l' (.inScope c :: k) = some (.code .skip :: .inScope c :: k):=by simp [gotoIn,hf]
  exact ⟨.normal,a₁,w₁,hq,.head h0 qW (StepsIn.trans (harr.1 _ hg) (.head (fenced_calm hb hr rfl) z98 (.one (fenced_calm hb hr rfl) JD)))⟩
 | ret => exact ⟨_,a₁,w₁,hq,.of_steps (.one h0 qW) harr⟩
 | panic ch => exact ⟨_,a₁,w₁,hq,.of_steps (.one h0 qW) harr⟩
 | outgrown => exact ⟨_,a₁,w₁,hq,.of_steps (.one h0 qW) harr⟩
def scQ (l : Nat) (Q : Exit → St → Prop) : Exit → St → Prop
 | .goto l',st => l' = l ∧ Q .normal st
 | e,st => Q e st
theorem AWP.scopeL (hf : findLabel c l = some .skip) (h : AWP P n c st (scQ l Q)) : AWP P n (.scope c) st Q:=by
 intro rd m df w0 S0 M S Fp a w hc hs
 refine z75 hf (wpIn_mono (h rd m df w0 S0 M S Fp a w hc hs) ?_)
 rintro e a' w' ⟨df',st1,S1,Fp1,h1,h2,h3⟩
 cases e with
 | goto l' => exact ⟨h3.1,df',st1,S1,Fp1,h1,h2,h3.2⟩
 | _ => exact ⟨df',st1,S1,Fp1,h1,h2,h3⟩
theorem AWP.goto (h : Q (.goto l) st) : AWP P n (.goto l) st Q:=fun _ _ _ _ _ _ _ _ _ _ hc hs => wpIn_goto (hc.fin hs h)
theorem KY : ∀ fs : List Fm,Q (.goto l) st → Qf P n fs Q (.goto l) st
 | [],h => h
 | .seq _ :: fs,h => KY fs h
 | .blk _ :: fs,h => KY fs h
 | .pre _ :: fs,h => KY fs h
 | .rnd _ _ :: fs,h => KY fs h
theorem zbp {c c' : Code} {fs : List Fm}  (e : c = .scope c') (hf : findLabel c' l = some .skip) (h : AWP P n c' st (Qf P n [] (scQ l (Qf P n fs Q)))) : AWP P n c st (Qf P n fs Q):=by
 subst e
 exact AWP.scopeL hf h
theorem xx.pre {f : A}   {x x0 r : A} {ys : List A} (hx : LeA x0 x) (h : xx P f args [(v,x)] r ys) : xx P f args [(v,x0)] r ys:=fun S w fv vs F hS hfv hvs hls hF =>
 h S w fv vs F hS hfv hvs (YV ((LeV.one x0 x).has _ _ _ _ (Y4 hls))) hF
theorem s3B (f : α → A) {l : List α} {m : Int} (h : m ≤ ((l.length : Nat) : Int)) : m.toNat ≤ (l.map f).length:=by
 rw [List.length_map]; omega
end
end Go.Own
end
