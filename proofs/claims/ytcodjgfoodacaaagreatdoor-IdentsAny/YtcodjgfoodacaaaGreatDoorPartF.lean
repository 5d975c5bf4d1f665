/- -/
import Derived.Test.YtcodjgfoodacaaaGreatDoorPartE
noncomputable section
set_option linter.unusedVariables false
set_option linter.unusedSimpArgs false
namespace Go.Own
open Go.Proofs
set_option maxRecDepth 100000
set_option maxHeartbeats 8000000
def X0:XH Tryz.prog:=xB zy
theorem UQ:Tryz.prog.follows .mixedOrders = true:=by kernel_rfl
section
variable {ctr:Ctr} {n:Fr} {Q:Exit → St → Prop} {c:Code} {fs:List Fm} {st:St}
theorem yE (X:XH Tryz.prog) (hC:zw Tryz.prog ctr) {E:St → Prop} {r:A} {keep:Bool} {rs:List (Nat × Option Nat)} (hE:∀ st x R U,z9H yN keep rs st = some (x,R,U) → LeV x r → E st) (L:List HO) (e:zfC X yN ctr n keep rs 4000 c fs st (hoH L) = some (r,hoO L):=by kernel_rfl):AWP Tryz.prog n c st (Qf Tryz.prog n fs (z8A E)):=yE6 X zy hC UQ hE L e
theorem yEx (X:XH Tryz.prog) (hC:zw Tryz.prog ctr) {E:St → Prop} {r:A} {keep:Bool} {rs:List (Nat × Option Nat)} (hE:∀ st x R U,z9H yN keep rs st = some (x,R,U) → LeV x r → E st) (L:List HO) (x:A) (hle:LeV x r) (e:zfC X yN ctr n keep rs 4000 c fs st (hoH L) = some (x,hoO L):=by kernel_rfl):AWP Tryz.prog n c st (Qf Tryz.prog n fs (z8A E)):=zm0 X zy hC UQ hE L x hle e
theorem yB (X:XH Tryz.prog) (hC:zw Tryz.prog ctr) {τ:Type} {J:St → Prop} {live:List Nat} {S:τ → List (Nat × T)} {Inv:τ → Prop} (hJ:∀ st' l' z,Inv z → Own.canon live st' = ofL l' → LeL l' (S z) → J st') (z:τ) (hz:Inv z) (L:List HO) (e:z3S X yN ctr n live 4000 c fs st (hoH L) = some (.back J,ofL (S z),hoO L):=by kernel_rfl):AWP Tryz.prog n c st (Qf Tryz.prog n fs Q):=yB6 X zy hC UQ hJ z hz L e
theorem yBx (X:XH Tryz.prog) (hC:zw Tryz.prog ctr) {τ:Type} {J:St → Prop} {live:List Nat} {S:τ → List (Nat × T)} {Inv:τ → Prop} (hJ:∀ st' l' z,Inv z → Own.canon live st' = ofL l' → LeL l' (S z) → J st') (z:τ) (hz:Inv z) (l:List (Nat × T)) (hl:LeL l (S z)) (L:List HO) (e:z3S X yN ctr n live 4000 c fs st (hoH L) = some (.back J,ofL l,hoO L):=by kernel_rfl):AWP Tryz.prog n c st (Qf Tryz.prog n fs Q):=zm1 X zy hC UQ hJ z hz l hl L e
theorem yA (X:XH Tryz.prog) (hC:zw Tryz.prog ctr) (bd:Code) (path:List Nat) (Js:List (St → Prop)) (l:List (Nat × T)) (L:List HO) (h:AWP Tryz.prog n (sub path bd) (ofL l) (Qf Tryz.prog n (frs path Js bd []) Q)) (e:z3S X yN ctr n (Jy l) 4000 c fs st (hoH L) = some (.at (sub path bd) (frs path Js bd []),ofL l,hoO L):=by kernel_rfl):AWP Tryz.prog n c st (Qf Tryz.prog n fs Q):=yA6 X zy hC UQ bd path Js l L e h
theorem yAt (X:XH Tryz.prog) (hC:zw Tryz.prog ctr) (c':Code) (fs':List Fm) (l:List (Nat × T)) (L:List HO) (h:∀ st0,Own.canon (Jy l) st0 = ofL l → AWP Tryz.prog n c' st0 (Qf Tryz.prog n fs' Q)) (e:z3S X yN ctr n (Jy l) 4000 c fs st (hoH L) = some (.at c' fs',ofL l,hoO L):=by kernel_rfl):AWP Tryz.prog n c st (Qf Tryz.prog n fs Q):=zm2 X zy hC UQ c' fs' l L e h
theorem yLx (X:XH Tryz.prog) (hC:zw Tryz.prog ctr) (bd:Code) (path:List Nat) (Js:List (St → Prop)) {σ τ:Type} (f:σ → Option (LR σ τ)) (S:σ → List (Nat × T)) (x0:σ) {t:τ} (ht:loop f x0 = some t) (l:List (Nat × T)) (hl:LeL l (S x0)) (L:List HO) (round:∀ x m lr,f x = some lr → zjv f m t lr → ∀ J:St → Prop,(∀ st' l' x',Jx f m x' = some t → Own.canon (Jy l) st' = ofL l' → LeL l' (S x') → J st') → AWP Tryz.prog n (sub (path ++ [0]) bd) (ofL (S x)) (Qf Tryz.prog n (.pre J :: frs path Js bd []) Q)) (e:z3S X yN ctr n (Jy l) 4000 c fs st (hoH L) = some (.at (sub path bd) (frs path Js bd []),ofL l,hoO L):=by kernel_rfl) (e2:sub path bd = .loop (sub (path ++ [0]) bd):=by kernel_rfl) (hk:∀ x,Jy (S x) = Jy l:=by exact fun _ => rfl):AWP Tryz.prog n c st (Qf Tryz.prog n fs Q):=yL6 X zy hC UQ bd path Js f S x0 ht l hl L hk e e2 round
theorem yL (X:XH Tryz.prog) (hC:zw Tryz.prog ctr) (bd:Code) (path:List Nat) (Js:List (St → Prop)) {σ τ:Type} (f:σ → Option (LR σ τ)) (S:σ → List (Nat × T)) (x0:σ) {t:τ} (ht:loop f x0 = some t) (L:List HO) (round:∀ x m lr,f x = some lr → zjv f m t lr → ∀ J:St → Prop,(∀ st' l' x',Jx f m x' = some t → Own.canon (Jy (S x0)) st' = ofL l' → LeL l' (S x') → J st') → AWP Tryz.prog n (sub (path ++ [0]) bd) (ofL (S x)) (Qf Tryz.prog n (.pre J :: frs path Js bd []) Q)) (e:z3S X yN ctr n (Jy (S x0)) 4000 c fs st (hoH L) = some (.at (sub path bd) (frs path Js bd []),ofL (S x0),hoO L):=by kernel_rfl) (e2:sub path bd = .loop (sub (path ++ [0]) bd):=by kernel_rfl) (hk:∀ x,Jy (S x) = Jy (S x0):=by exact fun _ => rfl):AWP Tryz.prog n c st (Qf Tryz.prog n fs Q):=yL6 X zy hC UQ bd path Js f S x0 ht _ (LeL.refl _) L hk e e2 round
theorem yJ (X:XH Tryz.prog) (hC:zw Tryz.prog ctr) (bd:Code) (path:List Nat) (Js:List (St → Prop)) {σ:Type} (live:List Nat) (Inv:σ → Prop) (S:σ → List (Nat × T)) (l:List (Nat × T)) (L:List HO) (h1:∀ z,Inv z → AWP Tryz.prog n (sub (path ++ [1]) bd) (ofL (S z)) (Qf Tryz.prog n (frs path Js bd []) Q)) (h2:∀ J:St → Prop,(∀ st' l' z,Inv z → Own.canon live st' = ofL l' → LeL l' (S z) → J st') → AWP Tryz.prog n (sub (path ++ [2]) bd) (ofL l) (Qf Tryz.prog n (.pre J :: frs path Js bd []) Q)) (e:z3S X yN ctr n (Jy l) 4000 c fs st (hoH L) = some (.at (sub path bd) (frs path Js bd []),ofL l,hoO L):=by kernel_rfl) (e2:sub path bd = .seq (sub (path ++ [2]) bd) (sub (path ++ [1]) bd):=by kernel_rfl):AWP Tryz.prog n c st (Qf Tryz.prog n fs Q):=yJ6 X zy hC UQ bd path Js live Inv S l L e e2 h1 h2
theorem yF (X:XH Tryz.prog) (hC:zw Tryz.prog ctr) (ex:Exit) (l:List (Nat × T)) (L:List HO) (h:∀ st0,Own.canon (Jy l) st0 = ofL l → Q ex st0) (e:z3S X yN ctr n (Jy l) 4000 c fs st (hoH L) = some (.fin ex,ofL l,hoO L):=by kernel_rfl):AWP Tryz.prog n c st (Qf Tryz.prog n fs Q):=yF6 X zy hC UQ ex l L e h
theorem yO {k:Nat} {fn:Func} {r:A} {ls:List A} (keep:Bool) (rs:List (Nat × Option Nat)) (body:Code) (nt:Nat) (hf:Tryz.prog.funcs[k]? = some fn) (h:∀ E:St → Prop,(∀ st x R U,z9H yN keep rs st = some (x,R,U) → LeV x r → E st) → AWP Tryz.prog ⟨nt,[]⟩ body (ofL (z8E 0 ls)) (Qf Tryz.prog ⟨nt,[]⟩ [] (z8A E))) (hb:fn.body = some body:=by kernel_rfl) (hn:nt = fn.ntmps:=by exact rfl) (hr:fn.results = (rs.map z5B).toArray:=by exact rfl) (hnm:(fn.name == "runtime.NumGoroutine") = false:=by exact rfl) (ha:Nat.ble ls.length nt = true:=by kernel_rfl):Vz Tryz.prog k ls r:=yO6 zy keep rs body nt hf hb hn hr hnm ha h
end
theorem z65:zd2 Tryz.prog 188 193 3 (z2J [.i64,.i64,.i64,.i64,.i64,.i64,.i64,.i64,.i64,.i64,.i64,.i64,.i64,.i64,.i64,.i64,.i64,.i64,.i64,.i64,.i64,.i64,.i64,.i64,.i64,.i64,.i64,.i64,.i64,.i64,.i64,.i64,.i64]) (.atom (.int .i64 0)):=zc9 Tryz.underlying188 _ Tryz.underlying193 (Go.Ex.zae.eqn rfl) (z7r.eqn rfl) rfl ⟨.int .i64 0,fun w => zb6 (f:=Tryz.t3) (by kernel_rfl) rfl w,fun S => uD.2 ⟨rfl,rfl⟩⟩ rfl
theorem zgr:zfq Tryz.prog 118 1 false:=zbL zy (t:=40) Tryz.so118 rfl rfl (by kernel_rfl) (by decide)
def Vh:Code:=(Tryz.f28.body).getD .skip
def V1:zN:=spF (α:=z6) (ρ:=Int) 28 (fun x => [zI x]) (fun r => (eI .i64) r) (fun x => W3 x) [] (Wn)
abbrev z15:List (Nat × T):=[]
abbrev z14 (m_:z6) (s_:Int):List (Nat × T):=[(1,.own (.box (zI m_))),(3,.d (I s_))]
theorem z4v {ctr:Ctr} (hC:zw Tryz.prog ctr):V1.Ok Tryz.prog:=by
 refine zx ?_
 rintro m_ r0 hf0
 try unfold W3 at hf0
 refine yO true [(2,none)] Vh 22 Tryz.func28 fun E hE => ?_
 let Z0:List HO:=[Ha (lnM wS m_.Rows)]
 rcases zC hf0 with ⟨c0,hf0⟩ | ⟨c0,hf0⟩
 ·obtain rfl:=z8 hf0
  exact yE X0 hC hE (Z0 ++ [Hq c0])
 ·refine yJ X0 hC Vh [1,1] [] [] (fun z:Unit => V9 = some r0) (fun z => z15) [(1,.own (.box (zI m_)))] (Z0 ++ [Hq c0,Hh (.cut 0)]) ?_ fun J1 hJ1 => ?_
  ·rintro ⟨⟩ hf0
   unfold V9 at hf0
   obtain rfl:=z8 hf0
   exact yE X0 hC hE []
  ·obtain ⟨t2,ht2,hf0⟩:=zb hf0
   refine yL X0 hC Vh [1,1,2,1,0] [J1] (fun s => j5 m_ s) (fun x => z14 m_ x) 0 ht2  [] ?_
   rintro s_ m2 lr1 hf1 hl1 J2 hJ2
   try unfold j5 at hf1
   let Z1:List HO:=[Ha (lnM wS m_.Rows)]
   rcases zC hf1 with ⟨c1,hf1⟩ | ⟨c1,hf1⟩
   ·obtain ⟨Row_e,h0,hf1⟩:=zb hf1
    let Z2:List HO:=(Z1 ++ [Hq c1,Hi wS h0,Ha (lnM F6_ Row_e)])
    rcases zC hf1 with ⟨c2,hf1⟩ | ⟨c2,hf1⟩
    ·obtain rfl:=z8 hf1
     obtain rfl:=hl1
     obtain rfl:=z8 hf0
     exact yE X0 hC hE (Z2 ++ [Hq c2])
    ·obtain rfl:=z8 hf1
     exact yB X0 hC hJ2 (w64 (s_ + 1)) hl1 (Z2 ++ [Hq c2])
   ·obtain rfl:=z8 hf1
    obtain rfl:=hl1
    exact yB X0 hC hJ1 () hf0 (Z1 ++ [Hq c1])
def Ve:Code:=(Tryz.f59.body).getD .skip
def Yx:zN:=spF (α:=List (List Int)) (ρ:=Int) 59 (fun x => [w8 x]) (fun r => (eI .i64) r) (fun x => Yk x) [] (Wn)
abbrev z0Q (n_:Int):List (Nat × T):=[(3,.d (I n_))]
abbrev z0P (l_:List (List Int)) (n_1:Int) (i_:Int):List (Nat × T):=[(0,.d (eSl 1 false F3_ l_)),(3,.d (I n_1)),(4,.d (I i_))]
theorem z4q {ctr:Ctr} (hC:zw Tryz.prog ctr):Yx.Ok Tryz.prog:=by
 refine zx ?_
 rintro l_ r0 hf0
 try unfold Yk at hf0
 refine yO true [(2,none)] Ve 19 Tryz.func59 fun E hE => ?_
 refine yJ X0 hC Ve [1,1] [] [3] (fun z:Int => V3 z = some r0) (fun z => z0Q z) [(0,.d (eSl 1 false F3_ l_)),(3,.d (I 0))] [Hh (.cut 2)] ?_ fun J1 hJ1 => ?_
 ·rintro n_ hf0
  unfold V3 at hf0
  obtain rfl:=z8 hf0
  exact yE X0 hC hE []
 ·obtain ⟨t2,ht2,hf0⟩:=zb hf0
  refine yL X0 hC Ve [1,1,2,1,0] [J1] (fun s => qV l_ s.1 s.2) (fun x => z0P l_ x.1 x.2) (0,0) ht2  [] ?_
  rintro ⟨n_1,i_⟩ m2 lr1 hf1 hl1 J2 hJ2
  try unfold qV at hf1
  let Z0:List HO:=[Ha (lnM F3_ l_)]
  rcases zC hf1 with ⟨c0,hf1⟩ | ⟨c0,hf1⟩
  ·obtain ⟨l__e,h0,hf1⟩:=zb hf1
   obtain rfl:=z8 hf1
   exact yB X0 hC hJ2 (w64 (n_1 + ((l__e.length:Nat):Int)),w64 (i_ + 1)) hl1 (Z0 ++ [Hq c0,Hi F3_ h0,Ha (lnM (eI .i64) l__e)])
  ·obtain rfl:=z8 hf1
   obtain rfl:=hl1
   exact yB X0 hC hJ1 n_1 hf0 (Z0 ++ [Hq c0])
def z6x:Code:=(Tryz.f29.body).getD .skip
def UJ:zN:=spF (α:=List (List Int)) (ρ:=Int) 29 (fun x => [w8 x]) (fun r => (eI .i64) r) (fun x => Vq x) [] (Wn)
theorem z6G {ctr:Ctr} (hC:zw Tryz.prog ctr) (h0o:ctr.Has Yx):UJ.Ok Tryz.prog:=by
 refine zx ?_
 rintro l_ r0 hf0
 try unfold Vq at hf0
 refine yO true [(2,none)] z6x 11 Tryz.func29 fun E hE => ?_
 let Z0:List HO:=[Ha (lnM F3_ l_)]
 rcases zC hf0 with ⟨c0,hf0⟩ | ⟨c0,hf0⟩
 ·obtain rfl:=z8 hf0
  exact yE X0 hC hE (Z0 ++ (rpN 4 (Hq c0) [qT]))
 ·obtain ⟨r_,h0,hf0⟩:=zb hf0
  let Z1:List HO:=(Z0 ++ [Hq c0,Hq c0,Hc h0o (x:=l_) h0 (loC w8 l_ <| loN),Hq c0,Hq c0])
  rcases zC hf0 with ⟨c1,hf0⟩ | ⟨c1,hf0⟩
  ·obtain rfl:=z8 hf0
   exact yE X0 hC hE (Z1 ++ [Hq c1])
  ·obtain rfl:=z8 hf0
   exact yE X0 hC hE (Z1 ++ [Hq c1])
def uo:Code:=(Tryz.f60.body).getD .skip
def V0:zN:=spF (α:=z6) (ρ:=Int) 60 (fun x => [zI x]) (fun r => (eI .i64) r) (fun x => XY x) [] (Wn)
abbrev z13:List (Nat × T):=[]
abbrev z12 (m_:z6) (s_:Int):List (Nat × T):=[(1,.own (.box (zI m_))),(3,.d (I s_))]
abbrev z11 (m_:z6) (s_:Int) (i_:Int):List (Nat × T):=[(1,.own (.box (zI m_))),(3,.d (I s_)),(4,.d (I i_))]
abbrev z10 (m_:z6) (s_:Int) (i_:Int) (Row_e_e:zh):List (Nat × T):=[(1,.own (.box (zI m_))),(3,.d (I s_)),(4,.d (I i_)),(5,.own (.box (F6_ Row_e_e)))]
abbrev z0Y (m_:z6) (s_:Int) (i_:Int):List (Nat × T):=[(1,.own (.box (zI m_))),(3,.d (I s_)),(4,.d (I i_))]
abbrev z0Z (m_:z6) (s_:Int):List (Nat × T):=[(1,.own (.box (zI m_))),(3,.d (I s_))]
theorem z4u {ctr:Ctr} (hC:zw Tryz.prog ctr):V0.Ok Tryz.prog:=by
 refine zx ?_
 rintro m_ r0 hf0
 try unfold XY at hf0
 refine yO true [(2,none)] uo 95 Tryz.func60 fun E hE => ?_
 rcases zC hf0 with ⟨c0,hf0⟩ | ⟨c0,hf0⟩
 ·obtain rfl:=z8 hf0
  exact yE X0 hC hE (rpN 4 (Hq c0) (rpN 6 qT []))
 ·let Z0:List HO:=(rpN 4 (Hq c0) [])
  rcases zC hf0 with ⟨c1,hf0⟩ | ⟨c1,hf0⟩
  ·obtain rfl:=z8 hf0
   exact yE X0 hC hE (Z0 ++ (rpN 5 (Hq c1) [qT]))
  ·let Z1:List HO:=(Z0 ++ [Hq c1,Hq c1,Hq c1,Ha (lnM wS m_.Rows),Hq c1,Hq c1])
   rcases zC hf0 with ⟨c2,hf0⟩ | ⟨c2,hf0⟩
   ·obtain rfl:=z8 hf0
    exact yE X0 hC hE (Z1 ++ [Hq c2])
   ·rcases zC hf0 with ⟨c3,hf0⟩ | ⟨c3,hf0⟩
    ·obtain rfl:=z8 hf0
     exact yE X0 hC hE (Z1 ++ (Hq c2 :: (rpN 4 (Hq c3) (rpN 6 qT []))))
    ·let Z2:List HO:=(Z1 ++ (Hq c2 :: (rpN 4 (Hq c3) [])))
     rcases zC hf0 with ⟨c4,hf0⟩ | ⟨c4,hf0⟩
     ·obtain rfl:=z8 hf0
      exact yE X0 hC hE (Z2 ++ (rpN 5 (Hq c4) [qT]))
     ·let Z3:List HO:=(Z2 ++ [Hq c4,Hq c4,Hq c4,Ha (lnM wS m_.Rows),Hq c4,Hq c4])
      rcases zC hf0 with ⟨c5,hf0⟩ | ⟨c5,hf0⟩
      ·obtain rfl:=z8 hf0
       exact yE X0 hC hE (Z3 ++ [Hq c5])
      ·refine yJ X0 hC uo [1,1,1] [] [] (fun z:Unit => V7 = some r0) (fun z => z13) [(1,.own (.box (zI m_)))] (Z3 ++ [Hq c5,Hh (.cut 0)]) ?_ fun J1 hJ1 => ?_
       ·rintro ⟨⟩ hf0
        unfold V7 at hf0
        obtain rfl:=z8 hf0
        exact yE X0 hC hE []
       ·obtain ⟨t2,ht2,hf0⟩:=zb hf0
        refine yL X0 hC uo [1,1,1,2,1,0] [J1] (fun s => j4 m_ s) (fun x => z0Z m_ x) 0 ht2  [] ?_
        rintro s_ m2 lr1 hf1 hl1 J2 hJ2
        try unfold j4 at hf1
        let Z4:List HO:=[Ha (lnM wS m_.Rows)]
        rcases zC hf1 with ⟨c6,hf1⟩ | ⟨c6,hf1⟩
        ·refine yJ X0 hC uo [1,1,1,2,1,0,0,1] [J1,J2] [1,3] (fun z:Unit => V6 s_ = some lr1) (fun z => z12 m_ s_) [(1,.own (.box (zI m_))),(3,.d (I s_))] (Z4 ++ [Hq c6,Hh (.cut 0)]) ?_ fun J3 hJ3 => ?_
         ·rintro ⟨⟩ hf1
          unfold V6 at hf1
          obtain rfl:=z8 hf1
          exact yB X0 hC hJ2 (w64 (s_ + 1)) hl1 []
         ·obtain ⟨Row_e,h0,hf1⟩:=zb hf1
          let Z5:List HO:=[Hi wS h0,Ha (lnM F6_ Row_e)]
          rcases zC hf1 with ⟨c7,hf1⟩ | ⟨c7,hf1⟩
          ·obtain rfl:=z8 hf1
           obtain rfl:=hl1
           obtain rfl:=z8 hf0
           exact yE X0 hC hE (Z5 ++ [Hq c7])
          ·obtain ⟨t4,ht4,hf1⟩:=zb hf1
           refine yL X0 hC uo [1,1,1,2,1,0,0,1,2,0,1,1,0] [J1,J2,J3] (fun s => uk m_ s_ s) (fun x => z0Y m_ s_ x) 0 ht4  (Z5 ++ [Hq c7]) ?_
           rintro i_ m4 lr2 hf2 hl2 J4 hJ4
           try unfold uk at hf2
           rcases zC hf2 with ⟨c8,hf2⟩ | ⟨c8,hf2⟩
           ·refine yJ X0 hC uo [1,1,1,2,1,0,0,1,2,0,1,1,0,0,1] [J1,J2,J3,J4] [1,3,4] (fun z:Unit => kC i_ = some lr2) (fun z => z11 m_ s_ i_) [(1,.own (.box (zI m_))),(3,.d (I s_)),(4,.d (I i_))] [Hq c8,Hh (.cut 0)] ?_ fun J5 hJ5 => ?_
            ·rintro ⟨⟩ hf2
             unfold kC at hf2
             obtain rfl:=z8 hf2
             exact yB X0 hC hJ4 (w64 (i_ + 1)) hl2 []
            ·obtain ⟨Row_e1,h1,hf2⟩:=zb hf2
             obtain ⟨Row_e_e,h2,hf2⟩:=zb hf2
             refine yJ X0 hC uo [1,1,1,2,1,0,0,1,2,0,1,1,0,0,1,2,0,1] [J1,J2,J3,J4,J5] [1,3,4,5] (fun z:Unit => kB m_ i_ Row_e_e = some lr2) (fun z => z10 m_ s_ i_ Row_e_e) [(1,.own (.box (zI m_))),(3,.d (I s_)),(4,.d (I i_)),(5,.own (.box (F6_ Row_e_e)))] [Hi wS h1,Hi F6_ h2,Hh (.cut 0)] ?_ fun J6 hJ6 => ?_
             ·rintro ⟨⟩ hf2
              unfold kB at hf2
              rcases zC hf2 with ⟨c9,hf2⟩ | ⟨c9,hf2⟩
              ·obtain rfl:=z8 hf2
               obtain rfl:=hl2
               obtain rfl:=z8 hf1
               obtain rfl:=hl1
               obtain rfl:=z8 hf0
               exact yE X0 hC hE (rpN 7 (Hq c9) (rpN 11 qT []))
              ·let Z6:List HO:=(rpN 5 (Hq c9) [Ha (lnM wS m_.Rows),Hq c9,Hq c9])
               rcases zC hf2 with ⟨c10,hf2⟩ | ⟨c10,hf2⟩
               ·obtain rfl:=z8 hf2
                obtain rfl:=hl2
                obtain rfl:=z8 hf1
                obtain rfl:=hl1
                obtain rfl:=z8 hf0
                exact yE X0 hC hE (Z6 ++ (rpN 4 (Hq c10) (rpN 7 qT [])))
               ·let Z7:List HO:=(Z6 ++ (rpN 4 (Hq c10) []))
                rcases zC hf2 with ⟨c11,hf2⟩ | ⟨c11,hf2⟩
                ·obtain rfl:=z8 hf2
                 obtain rfl:=hl2
                 obtain rfl:=z8 hf1
                 obtain rfl:=hl1
                 obtain rfl:=z8 hf0
                 exact yE X0 hC hE (Z7 ++ (rpN 6 (Hq c11) [qT]))
                ·let Z8:List HO:=(Z7 ++ (rpN 6 (Hq c11) []))
                 rcases zC hf2 with ⟨c12,hf2⟩ | ⟨c12,hf2⟩
                 ·obtain rfl:=z8 hf2
                  obtain rfl:=hl2
                  obtain rfl:=z8 hf1
                  obtain rfl:=hl1
                  obtain rfl:=z8 hf0
                  exact yE X0 hC hE (Z8 ++ [Hq c12])
                 ·exact yB X0 hC hJ5 () hf2 (Z8 ++ [Hq c12])
             ·rcases zC hf2 with ⟨c13,hf2⟩ | ⟨c13,hf2⟩
              ·let Z9:List HO:=(rpN 4 (Hq c13) [])
               rcases zC hf2 with ⟨c14,hf2⟩ | ⟨c14,hf2⟩
               ·exact yB X0 hC hJ5 () hf2 (Z9 ++ [Hq c14])
               ·exact yB X0 hC hJ6 () hf2 (Z9 ++ [Hq c14])
              ·exact yB X0 hC hJ6 () hf2 (rpN 4 (Hq c13) [qF])
           ·obtain rfl:=z8 hf2
            obtain rfl:=hl2
            exact yB X0 hC hJ3 () hf1 [Hq c8]
        ·obtain rfl:=z8 hf1
         obtain rfl:=hl1
         exact yB X0 hC hJ1 () hf0 (Z4 ++ [Hq c6])
def vQ:Code:=(Tryz.f85.body).getD .skip
def X4:zN:=spF (α:=z6) (ρ:=Int) 85 (fun x => [zI x]) (fun r => (eI .i64) r) (fun x => Xj x) [] (Wn)
abbrev K0 (n_:Int):List (Nat × T):=[(3,.d (I n_))]
abbrev JZ (m_:z6) (s_:Int) (n_2:Int):List (Nat × T):=[(1,.own (.box (zI m_))),(3,.d (I n_2)),(4,.d (I s_))]
abbrev JY (m_:z6) (s_:Int) (i_:Int) (n_4:Int):List (Nat × T):=[(1,.own (.box (zI m_))),(3,.d (I n_4)),(4,.d (I s_)),(5,.d (I i_))]
abbrev JW (m_:z6) (s_:Int) (n_3:Int) (i_:Int):List (Nat × T):=[(1,.own (.box (zI m_))),(3,.d (I n_3)),(4,.d (I s_)),(5,.d (I i_))]
abbrev JX (m_:z6) (n_1:Int) (s_:Int):List (Nat × T):=[(1,.own (.box (zI m_))),(3,.d (I n_1)),(4,.d (I s_))]
theorem z2a {ctr:Ctr} (hC:zw Tryz.prog ctr):X4.Ok Tryz.prog:=by
 refine zx ?_
 rintro m_ r0 hf0
 try unfold Xj at hf0
 refine yO true [(2,none)] vQ 32 Tryz.func85 fun E hE => ?_
 refine yJ X0 hC vQ [1,1] [] [3] (fun z:Int => kP z = some r0) (fun z => K0 z) [(1,.own (.box (zI m_))),(3,.d (I 0))] [Hh (.cut 2)] ?_ fun J1 hJ1 => ?_
 ·rintro n_ hf0
  unfold kP at hf0
  obtain rfl:=z8 hf0
  exact yE X0 hC hE []
 ·obtain ⟨t2,ht2,hf0⟩:=zb hf0
  refine yL X0 hC vQ [1,1,2,1,0] [J1] (fun s => qH m_ s.1 s.2) (fun x => JX m_ x.1 x.2) (0,0) ht2  [] ?_
  rintro ⟨n_1,s_⟩ m2 lr1 hf1 hl1 J2 hJ2
  try unfold qH at hf1
  let Z0:List HO:=[Ha (lnM wS m_.Rows)]
  rcases zC hf1 with ⟨c0,hf1⟩ | ⟨c0,hf1⟩
  ·refine yJ X0 hC vQ [1,1,2,1,0,0,1] [J1,J2] [1,3,4] (fun z:Int => kO s_ z = some lr1) (fun z => JZ m_ s_ z) [(1,.own (.box (zI m_))),(3,.d (I n_1)),(4,.d (I s_))] (Z0 ++ [Hq c0,Hh (.cut 0)]) ?_ fun J3 hJ3 => ?_
   ·rintro n_2 hf1
    unfold kO at hf1
    obtain rfl:=z8 hf1
    exact yB X0 hC hJ2 (n_2,w64 (s_ + 1)) hl1 []
   ·obtain ⟨t4,ht4,hf1⟩:=zb hf1
    refine yL X0 hC vQ [1,1,2,1,0,0,1,2,0,1,0] [J1,J2,J3] (fun s => vN m_ s_ s.1 s.2) (fun x => JW m_ s_ x.1 x.2) (n_1,0) ht4  [] ?_
    rintro ⟨n_3,i_⟩ m4 lr2 hf2 hl2 J4 hJ4
    try unfold vN at hf2
    rcases zC hf2 with ⟨c1,hf2⟩ | ⟨c1,hf2⟩
    ·refine yJ X0 hC vQ [1,1,2,1,0,0,1,2,0,1,0,0,1] [J1,J2,J3,J4] [1,3,4,5] (fun z:Int => qI i_ z = some lr2) (fun z => JY m_ s_ i_ z) [(1,.own (.box (zI m_))),(3,.d (I n_3)),(4,.d (I s_)),(5,.d (I i_))] [Hq c1,Hh (.cut 0)] ?_ fun J5 hJ5 => ?_
     ·rintro n_4 hf2
      unfold qI at hf2
      obtain rfl:=z8 hf2
      exact yB X0 hC hJ4 (n_4,w64 (i_ + 1)) hl2 []
     ·obtain ⟨Row_e,h0,hf2⟩:=zb hf2
      obtain ⟨Row_e_e,h1,hf2⟩:=zb hf2
      let Z1:List HO:=[Hi wS h0,Hi F6_ h1]
      rcases zC hf2 with ⟨c2,hf2⟩ | ⟨c2,hf2⟩
      ·exact yB X0 hC hJ5 (w64 (n_3 + 1)) hf2 (Z1 ++ [Hq c2])
      ·exact yB X0 hC hJ5 n_3 hf2 (Z1 ++ [Hq c2])
    ·obtain rfl:=z8 hf2
     obtain rfl:=hl2
     exact yB X0 hC hJ3 n_3 hf1 [Hq c1]
  ·obtain rfl:=z8 hf1
   obtain rfl:=hl1
   exact yB X0 hC hJ1 n_1 hf0 (Z0 ++ [Hq c0])
def z0G:Code:=(Tryz.f61.body).getD .skip
def Yf:zN:=spF (α:=z6) (ρ:=Bool) 61 (fun x => [zI x]) (fun r => eB r) (fun x => kA x) [] (Wn)
theorem z1t {ctr:Ctr} (hC:zw Tryz.prog ctr) (h0I:ctr.Has X4):Yf.Ok Tryz.prog:=by
 refine zx ?_
 rintro m_ r0 hf0
 try unfold kA at hf0
 refine yO true [(2,none)] z0G 12 Tryz.func61 fun E hE => ?_
 obtain ⟨r_,h0,hf0⟩:=zb hf0
 obtain rfl:=z8 hf0
 exact yE X0 hC hE [Hc h0I (x:=m_) h0 (loC zI m_ <| loN),Ha (lnM wS m_.Rows)]
def w7:Code:=(Tryz.f86.body).getD .skip
def X3:zN:=spF (α:=z6 × Int) (ρ:=List Bool) 86 (fun x => [zI x.1,(eI .i64) x.2]) (fun r => (eOs 1 true eB) r) (fun x => ZJ x.1 x.2) [] (VA)
abbrev JV (out:List Bool):List (Nat × T):=[(5,.own (eOs 1 true eB out))]
abbrev JU (m_:z6) (round:Int) (out2:List Bool):List (Nat × T):=[(2,.own (.box (zI m_))),(5,.own (eOs 1 true eB out2)),(6,.d (I round))]
abbrev JT (m_:z6) (round:Int) (s_:Int) (out4:List Bool):List (Nat × T):=[(2,.own (.box (zI m_))),(5,.own (eOs 1 true eB out4)),(6,.d (I round)),(7,.d (I s_))]
abbrev JS (m_:z6) (round:Int) (s_:Int) (i_:Int) (out6:List Bool):List (Nat × T):=[(2,.own (.box (zI m_))),(5,.own (eOs 1 true eB out6)),(6,.d (I round)),(7,.d (I s_)),(8,.d (I i_))]
abbrev JP (m_:z6) (round:Int) (s_:Int) (out5:List Bool) (i_:Int):List (Nat × T):=[(2,.own (.box (zI m_))),(5,.own (eOs 1 true eB out5)),(6,.d (I round)),(7,.d (I s_)),(8,.d (I i_))]
abbrev JQ (m_:z6) (round:Int) (out3:List Bool) (s_:Int):List (Nat × T):=[(2,.own (.box (zI m_))),(5,.own (eOs 1 true eB out3)),(6,.d (I round)),(7,.d (I s_))]
abbrev JR (m_:z6) (out1:List Bool) (round:Int):List (Nat × T):=[(2,.own (.box (zI m_))),(5,.own (eOs 1 true eB out1)),(6,.d (I round))]
theorem z29 {ctr:Ctr} (hC:zw Tryz.prog ctr):X3.Ok Tryz.prog:=by
 refine zx ?_
 rintro ⟨m_,from_⟩ r0 hf0
 try unfold ZJ at hf0
 refine yO true [(4,none)] w7 58 Tryz.func86 fun E hE => ?_
 obtain ⟨g0,hf0⟩:=gdE hf0
 obtain ⟨u_e,h0,hf0⟩:=zb hf0
 refine yJ X0 hC w7 [1,1,1] [] [5] (fun z:List Bool => kN z = some r0) (fun z => JV z) [(2,.own (.box (zI m_))),(5,.own (eOs 1 true eB ((List.replicate ((m_.Rows.length:Nat):Int).toNat false).set from_.toNat true)))] [Ha (lnM wS m_.Rows),Hn (rL g0),Ha (rM 1 eB ((m_.Rows.length:Nat):Int) false),Hn (iL eB h0),Hs (iM eB h0),Hs (iM eB h0),Hl (sM eB (List.replicate ((m_.Rows.length:Nat):Int).toNat false) from_ true),Hh (.cut 0)] ?_ fun J1 hJ1 => ?_
 ·rintro out hf0
  unfold kN at hf0
  obtain rfl:=z8 hf0
  exact yE X0 hC hE []
 ·obtain ⟨t2,ht2,hf0⟩:=zb hf0
  refine yL X0 hC w7 [1,1,1,2,1,0] [J1] (fun s => kK m_ s.1 s.2) (fun x => JR m_ x.1 x.2) (((List.replicate ((m_.Rows.length:Nat):Int).toNat false).set from_.toNat true),0) ht2  [] ?_
  rintro ⟨out1,round⟩ m2 lr1 hf1 hl1 J2 hJ2
  try unfold kK at hf1
  let Z0:List HO:=[Ha (lnM wS m_.Rows)]
  rcases zC hf1 with ⟨c0,hf1⟩ | ⟨c0,hf1⟩
  ·refine yJ X0 hC w7 [1,1,1,2,1,0,0,1] [J1,J2] [2,5,6] (fun z:List Bool => kM round z = some lr1) (fun z => JU m_ round z) [(2,.own (.box (zI m_))),(5,.own (eOs 1 true eB out1)),(6,.d (I round))] (Z0 ++ [Hq c0,Hh (.cut 0)]) ?_ fun J3 hJ3 => ?_
   ·rintro out2 hf1
    unfold kM at hf1
    obtain rfl:=z8 hf1
    exact yB X0 hC hJ2 (out2,w64 (round + 1)) hl1 []
   ·obtain ⟨t4,ht4,hf1⟩:=zb hf1
    refine yL X0 hC w7 [1,1,1,2,1,0,0,1,2,0,1,0] [J1,J2,J3] (fun s => qG m_ s.1 s.2) (fun x => JQ m_ round x.1 x.2) (out1,0) ht4  [] ?_
    rintro ⟨out3,s_⟩ m4 lr2 hf2 hl2 J4 hJ4
    try unfold qG at hf2
    let Z1:List HO:=[Ha (lnM wS m_.Rows)]
    rcases zC hf2 with ⟨c1,hf2⟩ | ⟨c1,hf2⟩
    ·refine yJ X0 hC w7 [1,1,1,2,1,0,0,1,2,0,1,0,0,1] [J1,J2,J3,J4] [2,5,6,7] (fun z:List Bool => kL s_ z = some lr2) (fun z => JT m_ round s_ z) [(2,.own (.box (zI m_))),(5,.own (eOs 1 true eB out3)),(6,.d (I round)),(7,.d (I s_))] (Z1 ++ [Hq c1,Hh (.cut 0)]) ?_ fun J5 hJ5 => ?_
     ·rintro out4 hf2
      unfold kL at hf2
      obtain rfl:=z8 hf2
      exact yB X0 hC hJ4 (out4,w64 (s_ + 1)) hl2 []
     ·obtain ⟨t6,ht6,hf2⟩:=zb hf2
      refine yL X0 hC w7 [1,1,1,2,1,0,0,1,2,0,1,0,0,1,2,0,1,0] [J1,J2,J3,J4,J5] (fun s => qE m_ s_ s.1 s.2) (fun x => JP m_ round s_ x.1 x.2) (out3,0) ht6  [] ?_
      rintro ⟨out5,i_⟩ m6 lr3 hf3 hl3 J6 hJ6
      try unfold qE at hf3
      rcases zC hf3 with ⟨c2,hf3⟩ | ⟨c2,hf3⟩
      ·refine yJ X0 hC w7 [1,1,1,2,1,0,0,1,2,0,1,0,0,1,2,0,1,0,0,1] [J1,J2,J3,J4,J5,J6] [2,5,6,7,8] (fun z:List Bool => vM i_ z = some lr3) (fun z => JS m_ round s_ i_ z) [(2,.own (.box (zI m_))),(5,.own (eOs 1 true eB out5)),(6,.d (I round)),(7,.d (I s_)),(8,.d (I i_))] [Hq c2,Hh (.cut 0)] ?_ fun J7 hJ7 => ?_
       ·rintro out6 hf3
        unfold vM at hf3
        obtain rfl:=z8 hf3
        exact yB X0 hC hJ6 (out6,w64 (i_ + 1)) hl3 []
       ·obtain ⟨Row_e,h1,hf3⟩:=zb hf3
        obtain ⟨Row_e_e,h2,hf3⟩:=zb hf3
        obtain ⟨out_e,h3,hf3⟩:=zb hf3
        let Z2:List HO:=[Hi wS h1,Hi F6_ h2,Hn (iL eB h3),Hs (iM eB h3)]
        rcases zC hf3 with ⟨c3,hf3⟩ | ⟨c3,hf3⟩
        ·rcases zC hf3 with ⟨c4,hf3⟩ | ⟨c4,hf3⟩
         ·obtain ⟨out_e1,h4,hf3⟩:=zb hf3
          exact yB X0 hC hJ7 (out5.set Row_e_e.To.toNat true) hf3 (Z2 ++ [Hq c3,Hq c3,Hq c3,Hq c4,Hn (iL eB h4),Hs (iM eB h4),Hs (iM eB h4),Hl (sM eB out5 Row_e_e.To true)])
         ·exact yB X0 hC hJ7 out5 hf3 (Z2 ++ [Hq c3,Hq c3,Hq c3,Hq c4])
        ·exact yB X0 hC hJ7 out5 hf3 (Z2 ++ [Hq c3,Hq c3,Hq c3,qF])
      ·obtain rfl:=z8 hf3
       obtain rfl:=hl3
       exact yB X0 hC hJ5 out5 hf2 [Hq c2]
    ·obtain rfl:=z8 hf2
     obtain rfl:=hl2
     exact yB X0 hC hJ3 out3 hf1 (Z1 ++ [Hq c1])
  ·obtain rfl:=z8 hf1
   obtain rfl:=hl1
   exact yB X0 hC hJ1 out1 hf0 (Z0 ++ [Hq c0])
def ZX:Code:=(Tryz.f62.body).getD .skip
def Zr:zN:=spF (α:=z6) (ρ:=Bool) 62 (fun x => [zI x]) (fun r => eB r) (fun x => jO x) [] (Wn)
abbrev Qj:List (Nat × T):=[]
abbrev Qi (r_:List Bool) (s_:Int):List (Nat × T):=[(3,.own (eOs 1 true eB r_)),(4,.d (I s_))]
theorem z0i {ctr:Ctr} (hC:zw Tryz.prog ctr) (h0J:ctr.Has X3):Zr.Ok Tryz.prog:=by
 refine zx ?_
 rintro m_ r0 hf0
 try unfold jO at hf0
 refine yO true [(2,none)] ZX 18 Tryz.func62 fun E hE => ?_
 obtain ⟨r_,h0,hf0⟩:=zb hf0
 refine yJ X0 hC ZX [1,1] [] [] (fun z:Unit => jk = some r0) (fun z => Qj) [(3,.own (eOs 1 true eB r_))] [Hc h0J (x:=(m_,0)) h0 (loC zI m_ <| loC (eI .i64) 0 <| loN),Hh (.cut 0)] ?_ fun J1 hJ1 => ?_
 ·rintro ⟨⟩ hf0
  unfold jk at hf0
  obtain rfl:=z8 hf0
  exact yE X0 hC hE []
 ·obtain ⟨t2,ht2,hf0⟩:=zb hf0
  refine yL X0 hC ZX [1,1,2,1,0] [J1] (fun s => wL r_ s) (fun x => Qi r_ x) 0 ht2  [] ?_
  rintro s_ m2 lr1 hf1 hl1 J2 hJ2
  try unfold wL at hf1
  rcases zC hf1 with ⟨c0,hf1⟩ | ⟨c0,hf1⟩
  ·obtain ⟨r__e,h1,hf1⟩:=zb hf1
   let Z0:List HO:=[Ha (lnM eB r_),Hq c0,Hn (iL eB h1),Hs (iM eB h1)]
   rcases zC hf1 with ⟨c1,hf1⟩ | ⟨c1,hf1⟩
   ·obtain rfl:=z8 hf1
    obtain rfl:=hl1
    obtain rfl:=z8 hf0
    exact yE X0 hC hE (Z0 ++ [Hq c1])
   ·obtain rfl:=z8 hf1
    exact yB X0 hC hJ2 (w64 (s_ + 1)) hl1 (Z0 ++ [Hq c1])
  ·obtain rfl:=z8 hf1
   obtain rfl:=hl1
   exact yB X0 hC hJ1 () hf0 [Ha (lnM eB r_),Hq c0]
def YC:Code:=(Tryz.f137.body).getD .skip
def WZ:zN:=spF (α:=z6 × List (List Bool) × Int × Int) (ρ:=Int) 137 (fun x => [zI x.1,(eSl 1 false (eSl 1 false eB)) x.2.1,(eI .i64) x.2.2.1,(eI .i64) x.2.2.2]) (fun r => (eI .i64) r) (fun x => XX x.1 x.2.1 x.2.2.1 x.2.2.2) [] (zmz)
abbrev z0X:List (Nat × T):=[]
abbrev z0W (m_:z6) (marked:List (List Bool)) (s_:Int) (t_:Int) (i_:Int) (x41:Int) (x42:Bool) (x43:Bool) (x47:Bool) (x48:Bool) (x58:Bool):List (Nat × T):=[(1,.d (eSl 1 false (eSl 1 false eB) marked)),(2,.d (I s_)),(3,.d (I t_)),(4,.own (.box (zI m_))),(9,.d (I i_)),(41,.d (I x41)),(42,.d (B x42)),(43,.d (B x43)),(47,.d (B x47)),(48,.d (B x48)),(58,.d (B x58))]
abbrev z0V (m_:z6) (marked:List (List Bool)) (s_:Int) (t_:Int) (i_:Int):List (Nat × T):=[(1,.d (eSl 1 false (eSl 1 false eB) marked)),(2,.d (I s_)),(3,.d (I t_)),(4,.own (.box (zI m_))),(9,.d (I i_))]
theorem z4t {ctr:Ctr} (hC:zw Tryz.prog ctr):WZ.Ok Tryz.prog:=by
 refine zx ?_
 rintro ⟨m_,marked,s_,t_⟩ r0 hf0
 try unfold XX at hf0
 refine yO true [(8,none)] YC 60 Tryz.func137 fun E hE => ?_
 refine yJ X0 hC YC [1] [] [] (fun z:Unit => V5 = some r0) (fun z => z0X) [(1,.d (eSl 1 false (eSl 1 false eB) marked)),(2,.d (I s_)),(3,.d (I t_)),(4,.own (.box (zI m_)))] [Hh (.cut 1)] ?_ fun J1 hJ1 => ?_
 ·rintro ⟨⟩ hf0
  unfold V5 at hf0
  obtain rfl:=z8 hf0
  exact yE X0 hC hE []
 ·obtain ⟨t2,ht2,hf0⟩:=zb hf0
  refine yL X0 hC YC [1,2,1,0] [J1] (fun s => qY m_ marked s_ t_ s) (fun x => z0V m_ marked s_ t_ x) 0 ht2  [] ?_
  rintro i_ m2 lr1 hf1 hl1 J2 hJ2
  try unfold qY at hf1
  rcases zC hf1 with ⟨c0,hf1⟩ | ⟨c0,hf1⟩
  ·refine yJ X0 hC YC [1,2,1,0,0,1] [J1,J2] [1,2,3,4,9,41,42,43,47,48,58] (fun z:Int × Bool × Bool × Bool × Bool × Bool => qZ i_ z.1 z.2.1 z.2.2.1 z.2.2.2.1 z.2.2.2.2.1 z.2.2.2.2.2 = some lr1) (fun z => z0W m_ marked s_ t_ i_ z.1 z.2.1 z.2.2.1 z.2.2.2.1 z.2.2.2.2.1 z.2.2.2.2.2) [(1,.d (eSl 1 false (eSl 1 false eB) marked)),(2,.d (I s_)),(3,.d (I t_)),(4,.own (.box (zI m_))),(9,.d (I i_))] [Hq c0,Hh (.cut 0)] ?_ fun J3 hJ3 => ?_
   ·rintro ⟨x41,x42,x43,x47,x48,x58⟩ hf1
    unfold qZ at hf1
    obtain rfl:=z8 hf1
    exact yB X0 hC hJ2 (w64 (i_ + 1)) hl1 []
   ·obtain ⟨Row_e,h0,hf1⟩:=zb hf1
    obtain ⟨Row_e_e,h1,hf1⟩:=zb hf1
    obtain ⟨Row_e1,h2,hf1⟩:=zb hf1
    obtain ⟨Row_e_e1,h3,hf1⟩:=zb hf1
    let Z0:List HO:=[Hi wS h0,Hi F6_ h1,Hi wS h2,Hi F6_ h3]
    rcases zC hf1 with ⟨c1,hf1⟩ | ⟨c1,hf1⟩
    ·obtain rfl:=z8 hf1
     obtain rfl:=hl1
     obtain rfl:=z8 hf0
     exact yE X0 hC hE (Z0 ++ (rpN 8 (Hq c1) [qT]))
    ·let Z1:List HO:=(Z0 ++ (rpN 4 (Hq c1) []))
     rcases zC hf1 with ⟨c2,hf1⟩ | ⟨c2,hf1⟩
     ·let Z2:List HO:=(Z1 ++ [Hq c2,Hq c2,Hq c2,Hq c1,Hq c2,Hq c1])
      rcases zC hf1 with ⟨c3,hf1⟩ | ⟨c3,hf1⟩
      ·obtain ⟨marked_e,h4,hf1⟩:=zb hf1
       obtain ⟨marked_e_e,h5,hf1⟩:=zb hf1
       let Z3:List HO:=(Z2 ++ (rpN 4 (Hq c3) (Hi (eSl 1 false eB) h4 :: (rpN 4 (Hq c3) [Hi eB h5,Hq c3,Hq c1,Hq c3,Hq c1]))))
       rcases zC hf1 with ⟨c4,hf1⟩ | ⟨c4,hf1⟩
       ·obtain rfl:=z8 hf1
        obtain rfl:=hl1
        obtain rfl:=z8 hf0
        exact yE X0 hC hE (Z3 ++ [Hq c4])
       ·exact yB X0 hC hJ3 (Row_e_e.To,decide (Row_e_e.To ≥ 0),decide (Row_e_e.To ≥ 0),decide (Row_e_e1.To ≥ 0),decide (Row_e_e1.To ≥ 0),marked_e_e) hf1 (Z3 ++ [Hq c4])
      ·exact yB X0 hC hJ3 (Row_e_e.To,decide (Row_e_e.To ≥ 0),decide (Row_e_e.To ≥ 0),decide (Row_e_e1.To ≥ 0),decide (Row_e_e1.To ≥ 0),false) hf1 (Z2 ++ (rpN 9 (Hq c3) [Hq c1,Hq c3,Hq c1,qF]))
     ·exact yB X0 hC hJ3 (Row_e_e.To,decide (Row_e_e.To ≥ 0),decide (Row_e_e.To ≥ 0),false,false,false) hf1 (Z1 ++ (Hq c2 :: Hq c2 :: Hq c2 :: Hq c1 :: Hq c2 :: Hq c1 :: (rpN 9 qF [Hq c1,qF,Hq c1,qF])))
  ·obtain rfl:=z8 hf1
   obtain rfl:=hl1
   exact yB X0 hC hJ1 () hf0 [Hq c0]
def xH:Code:=(Tryz.f116.body).getD .skip
def XK:zN:=spF (α:=z6 × Int) (ρ:=List (List Bool)) 116 (fun x => [zI x.1,(eI .i64) x.2]) (fun r => (eOs 1 false (eOs 1 true eB)) r) (fun x => YI x.1 x.2) [] (VA)
abbrev z00 (marked1:List (List Bool)):List (Nat × T):=[(6,.own (eOs 1 false (eOs 1 true eB) marked1))]
abbrev KZ (m_:z6) (k_:Int) (round:Int) (marked3:List (List Bool)):List (Nat × T):=[(1,.d (I k_)),(2,.own (.box (zI m_))),(5,.d (I ((m_.Rows.length:Nat):Int))),(6,.own (eOs 1 false (eOs 1 true eB) marked3)),(8,.d (I round))]
abbrev KY (m_:z6) (k_:Int) (round:Int) (next:List (List Bool)):List (Nat × T):=[(1,.d (I k_)),(2,.own (.box (zI m_))),(5,.d (I ((m_.Rows.length:Nat):Int))),(8,.d (I round)),(9,.own (eOs 1 false (eOs 1 true eB) next))]
abbrev KX (m_:z6) (k_:Int) (marked2:List (List Bool)) (round:Int) (s_:Int) (next2:List (List Bool)):List (Nat × T):=[(1,.d (I k_)),(2,.own (.box (zI m_))),(5,.d (I ((m_.Rows.length:Nat):Int))),(6,.d (eSl 1 false (eSl 1 true eB) marked2)),(8,.d (I round)),(9,.own (eOs 1 false (eOs 1 true eB) next2)),(10,.d (I s_))]
abbrev KU (m_:z6) (k_:Int) (marked2:List (List Bool)) (round:Int) (s_:Int) (next3:List (List Bool)) (t_:Int):List (Nat × T):=[(1,.d (I k_)),(2,.own (.box (zI m_))),(5,.d (I ((m_.Rows.length:Nat):Int))),(6,.d (eSl 1 false (eSl 1 true eB) marked2)),(8,.d (I round)),(9,.own (eOs 1 false (eOs 1 true eB) next3)),(10,.d (I s_)),(11,.d (I t_))]
abbrev KV (m_:z6) (k_:Int) (marked2:List (List Bool)) (round:Int) (next1:List (List Bool)) (s_:Int):List (Nat × T):=[(1,.d (I k_)),(2,.own (.box (zI m_))),(5,.d (I ((m_.Rows.length:Nat):Int))),(6,.d (eSl 1 false (eSl 1 true eB) marked2)),(8,.d (I round)),(9,.own (eOs 1 false (eOs 1 true eB) next1)),(10,.d (I s_))]
abbrev KW (m_:z6) (k_:Int) (marked2:List (List Bool)) (round:Int):List (Nat × T):=[(1,.d (I k_)),(2,.own (.box (zI m_))),(5,.d (I ((m_.Rows.length:Nat):Int))),(6,.own (eOs 1 false (eOs 1 true eB) marked2)),(8,.d (I round))]
abbrev z01 (m_:z6) (k_:Int) (marked:List (List Bool)):List (Nat × T):=[(1,.d (I k_)),(2,.own (.box (zI m_))),(5,.d (I ((m_.Rows.length:Nat):Int))),(6,.own (eOs 1 false (eOs 1 true eB) marked))]
abbrev KT (m_:z6) (k_:Int) (marked4:List (List Bool)) (s_1:Int):List (Nat × T):=[(1,.d (I k_)),(2,.own (.box (zI m_))),(5,.d (I ((m_.Rows.length:Nat):Int))),(6,.own (eOs 1 false (eOs 1 true eB) marked4)),(7,.d (I s_1))]
theorem z3r {ctr:Ctr} (hC:zw Tryz.prog ctr) (h0K:ctr.Has WZ):XK.Ok Tryz.prog:=by
 refine zx ?_
 rintro ⟨m_,k_⟩ r0 hf0
 try unfold YI at hf0
 refine yO true [(4,none)] xH 68 Tryz.func116 fun E hE => ?_
 refine yJ X0 hC xH [1,1,1] [] [1,2,5,6] (fun z:List (List Bool) => ZH m_ k_ z = some r0) (fun z => z01 m_ k_ z) [(1,.d (I k_)),(2,.own (.box (zI m_))),(5,.d (I ((m_.Rows.length:Nat):Int))),(6,.own (eOs 1 true (eSl 1 false eB) []))] [Ha (lnM wS m_.Rows),Hh (.cut 1)] ?_ fun J1 hJ1 => ?_
 ·rintro marked hf0
  unfold ZH at hf0
  refine yJ X0 hC xH [1,1,1,1] [] [6] (fun z:List (List Bool) => ZG z = some r0) (fun z => z00 z) [(1,.d (I k_)),(2,.own (.box (zI m_))),(5,.d (I ((m_.Rows.length:Nat):Int))),(6,.own (eOs 1 false (eOs 1 true eB) marked))] [Hh (.cut 0)] ?_ fun J2 hJ2 => ?_
  ·rintro marked1 hf0
   unfold ZG at hf0
   obtain rfl:=z8 hf0
   exact yE X0 hC hE []
  ·obtain ⟨t3,ht3,hf0⟩:=zb hf0
   refine yL X0 hC xH [1,1,1,1,2,1,0] [J2] (fun s => vA m_ k_ s.1 s.2) (fun x => KW m_ k_ x.1 x.2) (marked,0) ht3  [] ?_
   rintro ⟨marked2,round⟩ m3 lr1 hf1 hl1 J3 hJ3
   try unfold vA at hf1
   rcases zC hf1 with ⟨c0,hf1⟩ | ⟨c0,hf1⟩
   ·refine yJ X0 hC xH [1,1,1,1,2,1,0,0,1] [J2,J3] [1,2,5,6,8] (fun z:List (List Bool) => ZF round z = some lr1) (fun z => KZ m_ k_ round z) [(1,.d (I k_)),(2,.own (.box (zI m_))),(5,.d (I ((m_.Rows.length:Nat):Int))),(6,.own (eOs 1 false (eOs 1 true eB) marked2)),(8,.d (I round))] [Hq c0,Hh (.cut 0)] ?_ fun J4 hJ4 => ?_
    ·rintro marked3 hf1
     unfold ZF at hf1
     obtain rfl:=z8 hf1
     exact yB X0 hC hJ3 (marked3,w64 (round + 1)) hl1 []
    ·refine yJ X0 hC xH [1,1,1,1,2,1,0,0,1,2,0,1] [J2,J3,J4] [1,2,5,8,9] (fun z:List (List Bool) => ZD round z = some lr1) (fun z => KY m_ k_ round z) [(1,.d (I k_)),(2,.own (.box (zI m_))),(5,.d (I ((m_.Rows.length:Nat):Int))),(6,.own (eOs 1 false (eOs 1 true eB) marked2)),(8,.d (I round)),(9,.own (eOs 1 true (eSl 1 false eB) []))] [Hh (.cut 1)] ?_ fun J5 hJ5 => ?_
     ·rintro next hf1
      unfold ZD at hf1
      exact yB X0 hC hJ4 next hf1 []
     ·obtain ⟨t6,ht6,hf1⟩:=zb hf1
      refine yLx X0 hC xH [1,1,1,1,2,1,0,0,1,2,0,1,2,1,0] [J2,J3,J4,J5] (fun s => vz m_ marked2 s.1 s.2) (fun x => KV m_ k_ marked2 round x.1 x.2) (([]:List (List Bool)),0) ht6 [(1,.d (I k_)),(2,.own (.box (zI m_))),(5,.d (I ((m_.Rows.length:Nat):Int))),(6,.d (eSl 1 false (eSl 1 true eB) marked2)),(8,.d (I round)),(9,.own (eOs 1 true (eOs 1 true eB) [])),(10,.d (I 0))] inferInstance [Hh (.n 3 [6]),Hm (shM (eOs 1 true eB) (eSl 1 true eB) marked2)] ?_
      rintro ⟨next1,s_⟩ m6 lr2 hf2 hl2 J6 hJ6
      try unfold vz at hf2
      rcases zC hf2 with ⟨c1,hf2⟩ | ⟨c1,hf2⟩
      ·refine yJ X0 hC xH [1,1,1,1,2,1,0,0,1,2,0,1,2,1,0,0,1] [J2,J3,J4,J5,J6] [1,2,5,6,8,9,10] (fun z:List (List Bool) => ZC s_ z = some lr2) (fun z => KX m_ k_ marked2 round s_ z) [(1,.d (I k_)),(2,.own (.box (zI m_))),(5,.d (I ((m_.Rows.length:Nat):Int))),(6,.d (eSl 1 false (eSl 1 true eB) marked2)),(8,.d (I round)),(9,.own (eOs 1 false (eOs 1 true eB) next1)),(10,.d (I s_))] [Hq c1,Hh (.cut 0)] ?_ fun J7 hJ7 => ?_
       ·rintro next2 hf2
        unfold ZC at hf2
        obtain rfl:=z8 hf2
        exact yB X0 hC hJ6 (next2,w64 (s_ + 1)) hl2 []
       ·obtain ⟨g0,hf2⟩:=gdE hf2
        obtain ⟨g1,hf2⟩:=gdE hf2
        obtain ⟨t8,ht8,hf2⟩:=zb hf2
        refine yL X0 hC xH [1,1,1,1,2,1,0,0,1,2,0,1,2,1,0,0,1,2,0,1,1,0] [J2,J3,J4,J5,J6,J7] (fun s => vw m_ marked2 s_ s.1 s.2) (fun x => KU m_ k_ marked2 round s_ x.1 x.2) ((next1 ++ ([(List.replicate ((m_.Rows.length:Nat):Int).toNat false)]:List (List Bool))),0) ht8  [Hn (rL g0),Ha (rM 1 eB ((m_.Rows.length:Nat):Int) false),Hq (oC (eOs 1 true eB) (List.replicate ((m_.Rows.length:Nat):Int).toNat false) []),Hn (aL (eOs 1 true eB) (eOs 1 true eB) g1),Hl (aM (eOs 1 true eB) next1 ([(List.replicate ((m_.Rows.length:Nat):Int).toNat false)]:List (List Bool)))] ?_
        rintro ⟨next3,t_⟩ m8 lr3 hf3 hl3 J8 hJ8
        try unfold vw at hf3
        rcases zC hf3 with ⟨c2,hf3⟩ | ⟨c2,hf3⟩
        ·obtain ⟨next_e,h0,hf3⟩:=zb hf3
         obtain ⟨marked_e,h1,hf3⟩:=zb hf3
         obtain ⟨marked_e_e,h2,hf3⟩:=zb hf3
         let Z0:List HO:=[Hq c2,Hn (iL (eOs 1 true eB) h0),Hs (iM (eOs 1 true eB) h0),Hi (eSl 1 true eB) h1,Hi eB h2]
         rcases zC hf3 with ⟨c3,hf3⟩ | ⟨c3,hf3⟩
         ·obtain ⟨next_e_e,h3,hf3⟩:=zb hf3
          obtain rfl:=z8 hf3
          exact yB X0 hC hJ8 ((next3.set s_.toNat (next_e.set t_.toNat true)),w64 (t_ + 1)) hl3 (Z0 ++ (rpN 7 (Hq c3) [Hs (iM (eOs 1 true eB) h0),Hn (iL eB h3),Hs (iM (eOs 1 true eB) h0),Hs (iM eB h3),Hs (iM (eOs 1 true eB) h0),Hs (iM eB h3),Hl (sM eB next_e t_ true),Hl (sM (eOs 1 true eB) next3 s_ (next_e.set t_.toNat true))]))
         ·obtain ⟨r_,h4,hf3⟩:=zb hf3
          obtain ⟨next_e_e1,h5,hf3⟩:=zb hf3
          obtain rfl:=z8 hf3
          exact yB X0 hC hJ8 ((next3.set s_.toNat (next_e.set t_.toNat (r_ == 1))),w64 (t_ + 1)) hl3 (Z0 ++ (rpN 5 (Hq c3) [Hc h0K (x:=(m_,marked2,s_,t_)) h4 (loC zI m_ <| loC (eSl 1 false (eSl 1 true eB)) marked2 <| loC (eI .i64) s_ <| loC (eI .i64) t_ <| loN),Hq c3,Hq c3,Hs (iM (eOs 1 true eB) h0),Hn (iL eB h5),Hs (iM (eOs 1 true eB) h0),Hs (iM eB h5),Hs (iM (eOs 1 true eB) h0),Hs (iM eB h5),Hl (sM eB next_e t_ (r_ == 1)),Hl (sM (eOs 1 true eB) next3 s_ (next_e.set t_.toNat (r_ == 1)))]))
        ·obtain rfl:=z8 hf3
         obtain rfl:=hl3
         exact yB X0 hC hJ7 next3 hf2 [Hq c2]
      ·obtain rfl:=z8 hf2
       obtain rfl:=hl2
       exact yB X0 hC hJ5 next1 hf1 [Hq c1]
   ·obtain rfl:=z8 hf1
    obtain rfl:=hl1
    exact yB X0 hC hJ2 marked2 hf0 [Hq c0]
 ·obtain ⟨t9,ht9,hf0⟩:=zb hf0
  refine yLx X0 hC xH [1,1,1,2,1,0] [J1] (fun s => vu m_ s.1 s.2) (fun x => KT m_ k_ x.1 x.2) (([]:List (List Bool)),0) ht9 [(1,.d (I k_)),(2,.own (.box (zI m_))),(5,.d (I ((m_.Rows.length:Nat):Int))),(6,.own (eOs 1 true (eOs 1 true eB) [])),(7,.d (I 0))] inferInstance [] ?_
  rintro ⟨marked4,s_1⟩ m9 lr1 hf1 hl1 J9 hJ9
  try unfold vu at hf1
  rcases zC hf1 with ⟨c4,hf1⟩ | ⟨c4,hf1⟩
  ·obtain ⟨g2,hf1⟩:=gdE hf1
   obtain ⟨g3,hf1⟩:=gdE hf1
   obtain rfl:=z8 hf1
   exact yB X0 hC hJ9 ((marked4 ++ ([(List.replicate ((m_.Rows.length:Nat):Int).toNat false)]:List (List Bool))),w64 (s_1 + 1)) hl1 [Hq c4,Hn (rL g2),Ha (rM 1 eB ((m_.Rows.length:Nat):Int) false),Hq (oC (eOs 1 true eB) (List.replicate ((m_.Rows.length:Nat):Int).toNat false) []),Hn (aL (eOs 1 true eB) (eOs 1 true eB) g3),Hl (aM (eOs 1 true eB) marked4 ([(List.replicate ((m_.Rows.length:Nat):Int).toNat false)]:List (List Bool)))]
  ·obtain rfl:=z8 hf1
   obtain rfl:=hl1
   exact yB X0 hC hJ1 marked4 hf0 [Hq c4]
def xx:Code:=(Tryz.f115.body).getD .skip
def Zq:zN:=spF (α:=List (List Bool)) (ρ:=List Int) 115 (fun x => [(eSl 1 false (eSl 1 false eB)) x]) (fun r => F4_ r) (fun x => jN x) [] (Wn)
abbrev Qh (out:List Int):List (Nat × T):=[(3,.own (eOs 1 false (eI .i64) out))]
abbrev Qg (marked:List (List Bool)) (s_:Int) (out2:List Int) (n_1:Int):List (Nat × T):=[(0,.d (eSl 1 false (eSl 1 false eB) marked)),(3,.own (eOs 1 false (eI .i64) out2)),(4,.d (I n_1)),(5,.d (I s_))]
abbrev Qd (marked:List (List Bool)) (out1:List Int) (s_:Int) (n_2:Int) (b_1:Int):List (Nat × T):=[(0,.d (eSl 1 false (eSl 1 false eB) marked)),(3,.own (eOs 1 false (eI .i64) out1)),(4,.d (I n_2)),(5,.d (I s_)),(6,.d (I b_1))]
abbrev Qe (marked:List (List Bool)) (out1:List Int) (n_:Int) (s_:Int) (b_:Int):List (Nat × T):=[(0,.d (eSl 1 false (eSl 1 false eB) marked)),(3,.own (eOs 1 false (eI .i64) out1)),(4,.d (I n_)),(5,.d (I s_)),(6,.d (I b_))]
abbrev Qc (marked:List (List Bool)) (out1:List Int) (n_:Int) (s_:Int) (t_:Int) (b_3:Int):List (Nat × T):=[(0,.d (eSl 1 false (eSl 1 false eB) marked)),(3,.own (eOs 1 false (eI .i64) out1)),(4,.d (I n_)),(5,.d (I s_)),(6,.d (I b_3)),(7,.d (I t_))]
abbrev Qa (marked:List (List Bool)) (out1:List Int) (n_:Int) (s_:Int) (b_2:Int) (t_:Int):List (Nat × T):=[(0,.d (eSl 1 false (eSl 1 false eB) marked)),(3,.own (eOs 1 false (eI .i64) out1)),(4,.d (I n_)),(5,.d (I s_)),(6,.d (I b_2)),(7,.d (I t_))]
abbrev Qb (marked:List (List Bool)) (out1:List Int) (n_:Int) (s_:Int):List (Nat × T):=[(0,.d (eSl 1 false (eSl 1 false eB) marked)),(3,.own (eOs 1 false (eI .i64) out1)),(4,.d (I n_)),(5,.d (I s_))]
theorem z0h {ctr:Ctr} (hC:zw Tryz.prog ctr):Zq.Ok Tryz.prog:=by
 refine zx ?_
 rintro marked r0 hf0
 try unfold jN at hf0
 refine yO true [(2,none)] xx 41 Tryz.func115 fun E hE => ?_
 refine yJ X0 hC xx [1,1,1] [] [3] (fun z:List Int => ZB z = some r0) (fun z => Qh z) [(0,.d (eSl 1 false (eSl 1 false eB) marked)),(3,.own (eOs 1 true (eI .i64) [])),(4,.d (I 0))] [Hh (.cut 3)] ?_ fun J1 hJ1 => ?_
 ·rintro out hf0
  unfold ZB at hf0
  obtain rfl:=z8 hf0
  exact yE X0 hC hE []
 ·obtain ⟨t2,ht2,hf0⟩:=zb hf0
  refine yLx X0 hC xx [1,1,1,2,1,0] [J1] (fun s => jh marked s.1 s.2.1 s.2.2) (fun x => Qb marked x.1 x.2.1 x.2.2) (([]:List Int),0,0) ht2 [(0,.d (eSl 1 false (eSl 1 false eB) marked)),(3,.own (eOs 1 true (eI .i64) [])),(4,.d (I 0)),(5,.d (I 0))] inferInstance [] ?_
  rintro ⟨out1,n_,s_⟩ m2 lr1 hf1 hl1 J2 hJ2
  try unfold jh at hf1
  let Z0:List HO:=[Ha (lnM (eSl 1 false eB) marked)]
  rcases zC hf1 with ⟨c0,hf1⟩ | ⟨c0,hf1⟩
  ·refine yJ X0 hC xx [1,1,1,2,1,0,0,1] [J1,J2] [0,3,4,5] (fun z:List Int × Int => jj s_ z.1 z.2 = some lr1) (fun z => Qg marked s_ z.1 z.2) [(0,.d (eSl 1 false (eSl 1 false eB) marked)),(3,.own (eOs 1 false (eI .i64) out1)),(4,.d (I n_)),(5,.d (I s_))] (Z0 ++ [Hq c0,Hh (.cut 0)]) ?_ fun J3 hJ3 => ?_
   ·rintro ⟨out2,n_1⟩ hf1
    unfold jj at hf1
    obtain rfl:=z8 hf1
    exact yB X0 hC hJ2 (out2,n_1,w64 (s_ + 1)) hl1 []
   ·refine yJ X0 hC xx [1,1,1,2,1,0,0,1,2,0,1] [J1,J2,J3] [0,3,4,5,6] (fun z:Int => ji out1 n_ s_ z = some lr1) (fun z => Qe marked out1 n_ s_ z) [(0,.d (eSl 1 false (eSl 1 false eB) marked)),(3,.own (eOs 1 false (eI .i64) out1)),(4,.d (I n_)),(5,.d (I s_)),(6,.d (I (-1)))] [Hh (.cut 1)] ?_ fun J4 hJ4 => ?_
    ·rintro b_ hf1
     unfold ji at hf1
     refine yJ X0 hC xx [1,1,1,2,1,0,0,1,2,0,1,1] [J1,J2,J3] [0,3,4,5,6] (fun z:Int × Int => wK out1 s_ z.1 z.2 = some lr1) (fun z => Qd marked out1 s_ z.1 z.2) [(0,.d (eSl 1 false (eSl 1 false eB) marked)),(3,.own (eOs 1 false (eI .i64) out1)),(4,.d (I n_)),(5,.d (I s_)),(6,.d (I b_))] [Hh (.cut 0)] ?_ fun J5 hJ5 => ?_
     ·rintro ⟨n_2,b_1⟩ hf1
      unfold wK at hf1
      obtain ⟨g0,hf1⟩:=gdE hf1
      exact yB X0 hC hJ3 ((out1 ++ ([b_1]:List Int)),n_2) hf1 [Hq (dM (eI .i64) ([b_1]:List Int)),Hn (dM (eI .i64) ([b_1]:List Int)),Hn (aL (eI .i64) (eI .i64) g0),Hl (aM (eI .i64) out1 ([b_1]:List Int))]
     ·rcases zC hf1 with ⟨c1,hf1⟩ | ⟨c1,hf1⟩
      ·exact yB X0 hC hJ5 (w64 (n_ + 1),n_) hf1 [Hq c1]
      ·exact yB X0 hC hJ5 (n_,b_) hf1 [Hq c1]
    ·obtain ⟨t6,ht6,hf1⟩:=zb hf1
     refine yL X0 hC xx [1,1,1,2,1,0,0,1,2,0,1,2,1,0] [J1,J2,J3,J4] (fun s => vY marked out1 s_ s.1 s.2) (fun x => Qa marked out1 n_ s_ x.1 x.2) ((-1),0) ht6  [] ?_
     rintro ⟨b_2,t_⟩ m6 lr2 hf2 hl2 J6 hJ6
     try unfold vY at hf2
     rcases zC hf2 with ⟨c2,hf2⟩ | ⟨c2,hf2⟩
     ·refine yJ X0 hC xx [1,1,1,2,1,0,0,1,2,0,1,2,1,0,0,1] [J1,J2,J3,J4,J6] [0,3,4,5,6,7] (fun z:Int => vZ t_ z = some lr2) (fun z => Qc marked out1 n_ s_ t_ z) [(0,.d (eSl 1 false (eSl 1 false eB) marked)),(3,.own (eOs 1 false (eI .i64) out1)),(4,.d (I n_)),(5,.d (I s_)),(6,.d (I b_2)),(7,.d (I t_))] [Hq c2,Hh (.cut 0)] ?_ fun J7 hJ7 => ?_
      ·rintro b_3 hf2
       unfold vZ at hf2
       obtain rfl:=z8 hf2
       exact yB X0 hC hJ6 (b_3,w64 (t_ + 1)) hl2 []
      ·obtain ⟨marked_e,h0,hf2⟩:=zb hf2
       obtain ⟨marked_e_e,h1,hf2⟩:=zb hf2
       let Z1:List HO:=[Hi (eSl 1 false eB) h0,Hi eB h1]
       rcases zC hf2 with ⟨c3,hf2⟩ | ⟨c3,hf2⟩
       ·obtain ⟨out_e,h2,hf2⟩:=zb hf2
        exact yB X0 hC hJ7 out_e hf2 (Z1 ++ [Hq c3,Hn (iL (eI .i64) h2),Hs (iM (eI .i64) h2)])
       ·exact yB X0 hC hJ7 b_2 hf2 (Z1 ++ [Hq c3])
     ·obtain rfl:=z8 hf2
      obtain rfl:=hl2
      exact yB X0 hC hJ4 b_2 hf1 [Hq c2]
  ·obtain rfl:=z8 hf1
   obtain rfl:=hl1
   exact yB X0 hC hJ1 out1 hf0 (Z0 ++ [Hq c0])
def z34:Code:=(Tryz.f87.body).getD .skip
def XJ:zN:=spF (α:=z6 × Int) (ρ:=List Int) 87 (fun x => [zI x.1,(eI .i64) x.2]) (fun r => F4_ r) (fun x => WH x.1 x.2) [] (VA)
theorem z3q {ctr:Ctr} (hC:zw Tryz.prog ctr) (h0L:ctr.Has XK) (h0z:ctr.Has Zq):XJ.Ok Tryz.prog:=by
 refine zx ?_
 rintro ⟨m_,k_⟩ r0 hf0
 try unfold WH at hf0
 refine yO true [(4,none)] z34 9 Tryz.func87 fun E hE => ?_
 obtain ⟨r_,h0,hf0⟩:=zb hf0
 obtain ⟨r_1,h1,hf0⟩:=zb hf0
 obtain rfl:=z8 hf0
 exact yE X0 hC hE [Hc h0L (x:=(m_,k_)) h0 (loC zI m_ <| loC (eI .i64) k_ <| loN),Hg (z1T h0z),Hm (shM (eOs 1 true eB) (eSl 1 true eB) r_),Hs (z1U h0z (x:=r_) h1 (loC (eSl 1 false (eSl 1 true eB)) r_ <| loN)),Hm (shM (eOs 1 true eB) (eSl 1 true eB) r_)]
def z1A:Code:=(Tryz.f63.body).getD .skip
def X2:zN:=spF (α:=z6) (ρ:=List Int) 63 (fun x => [zI x]) (fun r => F4_ r) (fun x => ZI x) [] (Wn)
theorem z28 {ctr:Ctr} (hC:zw Tryz.prog ctr) (h0M:ctr.Has XJ):X2.Ok Tryz.prog:=by
 refine zx ?_
 rintro m_ r0 hf0
 try unfold ZI at hf0
 refine yO true [(2,none)] z1A 8 Tryz.func63 fun E hE => ?_
 obtain ⟨r_,h0,hf0⟩:=zb hf0
 obtain rfl:=z8 hf0
 exact yE X0 hC hE [Ha (lnM wS m_.Rows),Hc h0M (x:=(m_,((m_.Rows.length:Nat):Int))) h0 (loC zI m_ <| loC (eI .i64) ((m_.Rows.length:Nat):Int) <| loN)]
def jV:Code:=(Tryz.f30.body).getD .skip
def XI:zN:=spF (α:=z6) (ρ:=Int) 30 (fun x => [zI x]) (fun r => (eI .i64) r) (fun x => jM x) [] (Wn)
abbrev KS:List (Nat × T):=[]
abbrev KR (r_3:List Int) (s_:Int):List (Nat × T):=[(4,.own (eOs 1 false (eI .i64) r_3)),(5,.d (I s_))]
abbrev KP (r_3:List Int) (s_:Int) (t_:Int):List (Nat × T):=[(4,.own (eOs 1 false (eI .i64) r_3)),(5,.d (I s_)),(6,.d (I t_))]
abbrev KQ (r_3:List Int) (s_:Int):List (Nat × T):=[(4,.own (eOs 1 false (eI .i64) r_3)),(5,.d (I s_))]
theorem z3p {ctr:Ctr} (hC:zw Tryz.prog ctr) (h0N:ctr.Has V0) (h0O:ctr.Has Yf) (h0P:ctr.Has Zr) (h0Q:ctr.Has X2):XI.Ok Tryz.prog:=by
 refine zx ?_
 rintro m_ r0 hf0
 try unfold jM at hf0
 refine yO true [(2,none)] jV 40 Tryz.func30 fun E hE => ?_
 obtain ⟨r_,h0,hf0⟩:=zb hf0
 let Z0:List HO:=[Hc h0N (x:=m_) h0 (loC zI m_ <| loN)]
 rcases zC hf0 with ⟨c0,hf0⟩ | ⟨c0,hf0⟩
 ·obtain rfl:=z8 hf0
  exact yE X0 hC hE (Z0 ++ [Hq c0])
 ·obtain ⟨r_1,h1,hf0⟩:=zb hf0
  let Z1:List HO:=(Z0 ++ [Hq c0,Hc h0O (x:=m_) h1 (loC zI m_ <| loN)])
  rcases zC hf0 with ⟨c1,hf0⟩ | ⟨c1,hf0⟩
  ·obtain rfl:=z8 hf0
   exact yE X0 hC hE (Z1 ++ [Hq c1])
  ·obtain ⟨r_2,h2,hf0⟩:=zb hf0
   let Z2:List HO:=(Z1 ++ [Hq c1,Hc h0P (x:=m_) h2 (loC zI m_ <| loN)])
   rcases zC hf0 with ⟨c2,hf0⟩ | ⟨c2,hf0⟩
   ·obtain rfl:=z8 hf0
    exact yE X0 hC hE (Z2 ++ [Hq c2])
   ·obtain ⟨r_3,h3,hf0⟩:=zb hf0
    refine yJ X0 hC jV [1,1,1,1,1] [] [] (fun z:Unit => ZA = some r0) (fun z => KS) [(4,.own (eOs 1 false (eI .i64) r_3))] (Z2 ++ [Hq c2,Hc h0Q (x:=m_) h3 (loC zI m_ <| loN),Hh (.cut 0)]) ?_ fun J1 hJ1 => ?_
    ·rintro ⟨⟩ hf0
     unfold ZA at hf0
     obtain rfl:=z8 hf0
     exact yE X0 hC hE []
    ·obtain ⟨t2,ht2,hf0⟩:=zb hf0
     refine yL X0 hC jV [1,1,1,1,1,2,1,0] [J1] (fun s => uG r_3 s) (fun x => KQ r_3 x) 0 ht2  [] ?_
     rintro s_ m2 lr1 hf1 hl1 J2 hJ2
     try unfold uG at hf1
     rcases zC hf1 with ⟨c3,hf1⟩ | ⟨c3,hf1⟩
     ·refine yJ X0 hC jV [1,1,1,1,1,2,1,0,0,1] [J1,J2] [4,5] (fun z:Unit => Zz s_ = some lr1) (fun z => KR r_3 s_) [(4,.own (eOs 1 false (eI .i64) r_3)),(5,.d (I s_))] [Ha (lnM (eI .i64) r_3),Hq c3,Hh (.cut 0)] ?_ fun J3 hJ3 => ?_
      ·rintro ⟨⟩ hf1
       unfold Zz at hf1
       obtain rfl:=z8 hf1
       exact yB X0 hC hJ2 (w64 (s_ + 1)) hl1 []
      ·obtain ⟨t4,ht4,hf1⟩:=zb hf1
       refine yL X0 hC jV [1,1,1,1,1,2,1,0,0,1,2,0,1,0] [J1,J2,J3] (fun s => uF r_3 s_ s) (fun x => KP r_3 s_ x) 0 ht4  [] ?_
       rintro t_ m4 lr2 hf2 hl2 J4 hJ4
       try unfold uF at hf2
       rcases zC hf2 with ⟨c4,hf2⟩ | ⟨c4,hf2⟩
       ·obtain ⟨r__e,h4,hf2⟩:=zb hf2
        obtain ⟨r__e1,h5,hf2⟩:=zb hf2
        let Z3:List HO:=[Hq c4,Hn (iL (eI .i64) h4),Hs (iM (eI .i64) h4),Hn (iL (eI .i64) h5),Hs (iM (eI .i64) h5)]
        rcases zC hf2 with ⟨c5,hf2⟩ | ⟨c5,hf2⟩
        ·obtain rfl:=z8 hf2
         obtain rfl:=hl2
         obtain rfl:=z8 hf1
         obtain rfl:=hl1
         obtain rfl:=z8 hf0
         exact yE X0 hC hE (Z3 ++ [Hq c5])
        ·obtain rfl:=z8 hf2
         exact yB X0 hC hJ4 (w64 (t_ + 1)) hl2 (Z3 ++ [Hq c5])
       ·obtain rfl:=z8 hf2
        obtain rfl:=hl2
        exact yB X0 hC hJ3 () hf1 [Hq c4]
     ·obtain rfl:=z8 hf1
      obtain rfl:=hl1
      exact yB X0 hC hJ1 () hf0 [Ha (lnM (eI .i64) r_3),Hq c3]
def z1B:Code:=(Tryz.f125.body).getD .skip
def qB:zN:=spF (α:=Unit) (ρ:=zh) 125 (fun x => []) (fun r => F6_ r) (fun x => u7) [] (fun _ _ _ => rfl)
theorem z2b {ctr:Ctr} (hC:zw Tryz.prog ctr):qB.Ok Tryz.prog:=by
 refine zx ?_
 rintro ⟨⟩ r0 hf0
 try unfold u7 at hf0
 refine yO false [(0,some 67)] z1B 2 Tryz.func125 fun E hE => ?_
 obtain rfl:=z8 hf0
 exact yE X0 hC hE []
def z1C:Code:=(Tryz.f94.body).getD .skip
def X5:zN:=spF (α:=z6 × zh) (ρ:=Bool) 94 (fun x => [zI x.1,F6_ x.2]) (fun r => eB r) (fun x => ZO x.1 x.2) [] (VA)
theorem z2c {ctr:Ctr} (hC:zw Tryz.prog ctr) (h0d:ctr.Has qB):X5.Ok Tryz.prog:=by
 refine zx ?_
 rintro ⟨m_,x_⟩ r0 hf0
 try unfold ZO at hf0
 refine yO true [(4,none)] z1C 33 Tryz.func94 fun E hE => ?_
 obtain ⟨r_,h0,hf0⟩:=zb hf0
 let Z0:List HO:=[Hc h0d (x:=()) h0 (loN)]
 rcases zC hf0 with ⟨c0,hf0⟩ | ⟨c0,hf0⟩
 ·obtain rfl:=z8 hf0
  exact yE X0 hC hE (Z0 ++ (rpN 10 (Hq c0) []))
 ·let Z1:List HO:=(Z0 ++ (rpN 4 (Hq c0) []))
  rcases zC hf0 with ⟨c1,hf0⟩ | ⟨c1,hf0⟩
  ·let Z2:List HO:=(Z1 ++ (rpN 5 (Hq c1) [Ha (lnM wS m_.Rows),Hq c1,Hq c0,Hq c1,Hq c0]))
   rcases zC hf0 with ⟨c2,hf0⟩ | ⟨c2,hf0⟩
   ·let Z3:List HO:=(Z2 ++ [Hq c2,Hq c2,Hq c2,Hq c0,Hq c2,Hq c0])
    rcases zC hf0 with ⟨c3,hf0⟩ | ⟨c3,hf0⟩
    ·obtain rfl:=z8 hf0
     exact yE X0 hC hE (Z3 ++ (rpN 5 (Hq c3) [Hq c0,Hq c3,Hq c0]))
    ·obtain rfl:=z8 hf0
     exact yE X0 hC hE (Z3 ++ (rpN 5 (Hq c3) [Hq c0,Hq c3,Hq c0]))
   ·obtain rfl:=z8 hf0
    exact yE X0 hC hE (Z2 ++ (Hq c2 :: Hq c2 :: Hq c2 :: Hq c0 :: Hq c2 :: Hq c0 :: (rpN 5 qF [Hq c0,qF,Hq c0])))
  ·obtain rfl:=z8 hf0
   exact yE X0 hC hE (Z1 ++ (rpN 6 (Hq c1) (Hq c0 :: Hq c1 :: Hq c0 :: qF :: qF :: qF :: Hq c0 :: qF :: Hq c0 :: (rpN 5 qF [Hq c0,qF,Hq c0]))))
def JE:Code:=(Tryz.f93.body).getD .skip
def kZ:zN:=spF (α:=zh × z6) (ρ:=Bool) 93 (fun x => [F6_ x.1,z0b x.2]) (fun r => eB r) (fun x => kR x.1 x.2) [] (VA)
theorem Kj {ctr:Ctr} (hC:zw Tryz.prog ctr) (h0R:ctr.Has X5):kZ.Ok Tryz.prog:=by
 refine zx ?_
 rintro ⟨x_,x1⟩ r0 hf0
 try unfold kR at hf0
 refine yO true [(3,none)] JE 8 Tryz.func93 fun E hE => ?_
 obtain ⟨r_,h0,hf0⟩:=zb hf0
 obtain rfl:=z8 hf0
 exact yE X0 hC hE [Hc h0R (x:=(x1,x_)) h0 (loC zI x1 <| loC F6_ x_ <| loN)]
def xq:Code:=(Tryz.f124.body).getD .skip
def xm:zN:=spF (α:=List zh × z6) (ρ:=Int) 124 (fun x => [wS x.1,(QK 93 z0b) x.2]) (fun r => (eI .i64) r) (fun x => yu x.1 x.2) [] (by
 rintro ⟨a0,a1⟩ ⟨b0,b1⟩ h
 have e0:=Y6.inj (f:=wS) _ _ (List.cons.inj h).1
 replace h:=(List.cons.inj h).2
 have e1:=Y6.inj (f:=(QK 93 z0b)) _ _ (List.cons.inj h).1
 subst e0 e1
 rfl)
abbrev jx:List (Nat × T):=[]
abbrev jw (s_:List zh) (f_:z6) (x8:Int):List (Nat × T):=[(0,.d (eSl 2 false F6_ s_)),(1,.d (.fn 93 [.sptr (.agg [I f_.Inputs,I f_.Outputs,eSl 1 false wS f_.Rows])])),(7,.d (I ((s_.length:Nat):Int))),(8,.d (I x8))]
theorem kx {ctr:Ctr} (hC:zw Tryz.prog ctr) (h0S:ctr.Has kZ):xm.Ok Tryz.prog:=by
 refine zx ?_
 rintro ⟨s_,f_⟩ r0 hf0
 try unfold yu at hf0
 refine yO true [(4,none)] xq 19 Tryz.func124 fun E hE => ?_
 refine yJ X0 hC xq [1] [] [] (fun z:Unit => xo = some r0) (fun z => jx) [(0,.d (eSl 2 false F6_ s_)),(1,.d (.fn 93 [.sptr (.agg [I f_.Inputs,I f_.Outputs,eSl 1 false wS f_.Rows])]))] [Hh (.cut 1)] ?_ fun J1 hJ1 => ?_
 ·rintro ⟨⟩ hf0
  unfold xo at hf0
  obtain rfl:=z8 hf0
  exact yE X0 hC hE []
 ·obtain ⟨t2,ht2,hf0⟩:=zb hf0
  refine yL X0 hC xq [1,2,1,0] [J1] (fun s => zP s_ f_ s) (fun x => jw s_ f_ x) 0 ht2  [Ha (lnM F6_ s_)] ?_
  rintro x8 m2 lr1 hf1 hl1 J2 hJ2
  try unfold zP at hf1
  rcases zC hf1 with ⟨c0,hf1⟩ | ⟨c0,hf1⟩
  ·obtain ⟨s__e,h0,hf1⟩:=zb hf1
   obtain ⟨r_,h1,hf1⟩:=zb hf1
   let Z0:List HO:=[Hq c0,Hi F6_ h0,Hc h0S (x:=(s__e,f_)) h1 (loC F6_ s__e <| loC z0b f_ <| loN)]
   rcases zC hf1 with ⟨c1,hf1⟩ | ⟨c1,hf1⟩
   ·obtain rfl:=z8 hf1
    obtain rfl:=hl1
    obtain rfl:=z8 hf0
    exact yE X0 hC hE (Z0 ++ [Hq c1])
   ·obtain rfl:=z8 hf1
    exact yB X0 hC hJ2 (w64 (x8 + 1)) hl1 (Z0 ++ [Hq c1])
  ·obtain rfl:=z8 hf1
   obtain rfl:=hl1
   exact yB X0 hC hJ1 () hf0 [Hq c0]
def jv:Code:=(Tryz.f92.body).getD .skip
def yI:zN:=spF (α:=List zh × z6) (ρ:=Bool) 92 (fun x => [wS x.1,(QK 93 z0b) x.2]) (fun r => eB r) (fun x => zY x.1 x.2) [] (by
 rintro ⟨a0,a1⟩ ⟨b0,b1⟩ h
 have e0:=Y6.inj (f:=wS) _ _ (List.cons.inj h).1
 replace h:=(List.cons.inj h).2
 have e1:=Y6.inj (f:=(QK 93 z0b)) _ _ (List.cons.inj h).1
 subst e0 e1
 rfl)
theorem jz {ctr:Ctr} (hC:zw Tryz.prog ctr) (h0T:ctr.Has xm):yI.Ok Tryz.prog:=by
 refine zx ?_
 rintro ⟨s_,f_⟩ r0 hf0
 try unfold zY at hf0
 refine yO true [(4,none)] jv 9 Tryz.func92 fun E hE => ?_
 obtain ⟨r_,h0,hf0⟩:=zb hf0
 obtain rfl:=z8 hf0
 exact yE X0 hC hE [Hc h0T (x:=(s_,f_)) h0 (loC wS s_ <| loC (QK 93 z0b) f_ <| loN)]
def Ys:Code:=(Tryz.f70.body).getD .skip
def xM:zN:=spF (α:=z6) (ρ:=Int) 70 (fun x => [zI x]) (fun r => (eI .i64) r) (fun x => xS x) [] (Wn)
abbrev QZ:List (Nat × T):=[]
abbrev QY (m_:z6) (x36:Int):List (Nat × T):=[(1,.d (.sptr (zI m_))),(34,.d (eSl 1 false wS m_.Rows)),(35,.d (I ((m_.Rows.length:Nat):Int))),(36,.d (I x36))]
theorem z1w {ctr:Ctr} (hC:zw Tryz.prog ctr) (h0U:ctr.Has yI):xM.Ok Tryz.prog:=by
 refine zx ?_
 rintro m_ r0 hf0
 try unfold xS at hf0
 refine yO true [(2,none)] Ys 51 Tryz.func70 fun E hE => ?_
 rcases zC hf0 with ⟨c0,hf0⟩ | ⟨c0,hf0⟩
 ·obtain rfl:=z8 hf0
  exact yE X0 hC hE (rpN 4 (Hq c0) (rpN 6 qT []))
 ·let Z0:List HO:=(rpN 4 (Hq c0) [])
  rcases zC hf0 with ⟨c1,hf0⟩ | ⟨c1,hf0⟩
  ·obtain rfl:=z8 hf0
   exact yE X0 hC hE (Z0 ++ (rpN 5 (Hq c1) [qT]))
  ·let Z1:List HO:=(Z0 ++ [Hq c1,Hq c1,Hq c1,Ha (lnM wS m_.Rows),Hq c1,Hq c1])
   rcases zC hf0 with ⟨c2,hf0⟩ | ⟨c2,hf0⟩
   ·obtain rfl:=z8 hf0
    exact yE X0 hC hE (Z1 ++ [Hq c2])
   ·rcases zC hf0 with ⟨c3,hf0⟩ | ⟨c3,hf0⟩
    ·obtain rfl:=z8 hf0
     exact yE X0 hC hE (Z1 ++ (Hq c2 :: (rpN 4 (Hq c3) (rpN 6 qT []))))
    ·let Z2:List HO:=(Z1 ++ (Hq c2 :: (rpN 4 (Hq c3) [])))
     rcases zC hf0 with ⟨c4,hf0⟩ | ⟨c4,hf0⟩
     ·obtain rfl:=z8 hf0
      exact yE X0 hC hE (Z2 ++ (rpN 5 (Hq c4) [qT]))
     ·let Z3:List HO:=(Z2 ++ [Hq c4,Hq c4,Hq c4,Ha (lnM wS m_.Rows),Hq c4,Hq c4])
      rcases zC hf0 with ⟨c5,hf0⟩ | ⟨c5,hf0⟩
      ·obtain rfl:=z8 hf0
       exact yE X0 hC hE (Z3 ++ [Hq c5])
      ·refine yJ X0 hC Ys [1,1,1] [] [] (fun z:Unit => Ym = some r0) (fun z => QZ) [(1,.own (.box (zI m_)))] (Z3 ++ [Hq c5,Hh (.cut 0)]) ?_ fun J1 hJ1 => ?_
       ·rintro ⟨⟩ hf0
        unfold Ym at hf0
        obtain rfl:=z8 hf0
        exact yE X0 hC hE []
       ·obtain ⟨t2,ht2,hf0⟩:=zb hf0
        refine yL X0 hC Ys [1,1,1,2,1,0] [J1] (fun s => vg m_ s) (fun x => QY m_ x) 0 ht2  [Ha (lnM wS m_.Rows),Hh (.n 1 [1])] ?_
        rintro x36 m2 lr1 hf1 hl1 J2 hJ2
        try unfold vg at hf1
        rcases zC hf1 with ⟨c6,hf1⟩ | ⟨c6,hf1⟩
        ·obtain ⟨Row_e,h0,hf1⟩:=zb hf1
         let Z4:List HO:=[Hq c6,Hi wS h0,Ha (lnM F6_ Row_e)]
         rcases zC hf1 with ⟨c7,hf1⟩ | ⟨c7,hf1⟩
         ·obtain rfl:=z8 hf1
          obtain rfl:=hl1
          obtain rfl:=z8 hf0
          exact yE X0 hC hE (Z4 ++ (rpN 4 (Hq c7) [qT]))
         ·obtain ⟨r_,h1,hf1⟩:=zb hf1
          let Z5:List HO:=(Z4 ++ [Hq c7,Hq c7,Hq c7,Hc h0U (x:=(Row_e,m_)) h1 (loC wS Row_e <| loC (QK 93 z0b) m_ <| loN),Hq c7])
          rcases zC hf1 with ⟨c8,hf1⟩ | ⟨c8,hf1⟩
          ·obtain rfl:=z8 hf1
           obtain rfl:=hl1
           obtain rfl:=z8 hf0
           exact yE X0 hC hE (Z5 ++ [Hq c8])
          ·obtain rfl:=z8 hf1
           exact yB X0 hC hJ2 (w64 (x36 + 1)) hl1 (Z5 ++ [Hq c8])
        ·obtain rfl:=z8 hf1
         obtain rfl:=hl1
         exact yB X0 hC hJ1 () hf0 [Hq c6]
def KG:Code:=(Tryz.f71.body).getD .skip
def Zs:zN:=spF (α:=z6) (ρ:=(Int × z6) × (Int × z6) × (Int × z6)) 71 (fun x => [zI x]) (fun r => (zmH (zkc (eI .i64) (QK 95 z0b)) (zkc (eI .i64) (QK 97 z0b)) (zkc (eI .i64) (QK 99 z0b))) r) (fun x => ZK x) [] (Wn)
theorem z0j {ctr:Ctr} (hC:zw Tryz.prog ctr):Zs.Ok Tryz.prog:=by
 refine zx ?_
 rintro m_ r0 hf0
 try unfold ZK at hf0
 refine yO false [(2,some 96)] KG 10 Tryz.func71 fun E hE => ?_
 obtain rfl:=z8 hf0
 exact yEx X0 hC hE [] (.agg [.agg [I 9,.fn 95 [.sptr (.agg [I m_.Inputs,I m_.Outputs,eSl 1 false wS m_.Rows])]],.agg [I 11,.fn 97 [.sptr (.agg [I m_.Inputs,I m_.Outputs,eSl 1 false wS m_.Rows])]],.agg [I 12,.fn 99 [.sptr (.agg [I m_.Inputs,I m_.Outputs,eSl 1 false wS m_.Rows])]]]) (show LeV (.agg [.agg [I 9,.fn 95 [.sptr (.agg [I m_.Inputs,I m_.Outputs,eSl 1 false wS m_.Rows])]],.agg [I 11,.fn 97 [.sptr (.agg [I m_.Inputs,I m_.Outputs,eSl 1 false wS m_.Rows])]],.agg [I 12,.fn 99 [.sptr (.agg [I m_.Inputs,I m_.Outputs,eSl 1 false wS m_.Rows])]]]) (.agg [.agg [I ((((9,m_),(11,m_),(12,m_)).1).1),.fn 95 [.sptr (.agg [I (((((9,m_),(11,m_),(12,m_)).1).2).Inputs),I (((((9,m_),(11,m_),(12,m_)).1).2).Outputs),eSl 1 false wS (((((9,m_),(11,m_),(12,m_)).1).2).Rows)])]],.agg [I ((((9,m_),(11,m_),(12,m_)).2.1).1),.fn 97 [.sptr (.agg [I (((((9,m_),(11,m_),(12,m_)).2.1).2).Inputs),I (((((9,m_),(11,m_),(12,m_)).2.1).2).Outputs),eSl 1 false wS (((((9,m_),(11,m_),(12,m_)).2.1).2).Rows)])]],.agg [I ((((9,m_),(11,m_),(12,m_)).2.2).1),.fn 99 [.sptr (.agg [I (((((9,m_),(11,m_),(12,m_)).2.2).2).Inputs),I (((((9,m_),(11,m_),(12,m_)).2.2).2).Outputs),eSl 1 false wS (((((9,m_),(11,m_),(12,m_)).2.2).2).Rows)])]]]) from inferInstance)
def z0I:Code:=(Tryz.f144.body).getD .skip
def Yh:zN:=spF (α:=z6) (ρ:=z6) 144 (fun x => [zI x]) (fun r => (QK 166 z0b) r) (fun x => YB x) [] (Wn)
theorem z1v {ctr:Ctr} (hC:zw Tryz.prog ctr):Yh.Ok Tryz.prog:=by
 refine zx ?_
 rintro m_ r0 hf0
 try unfold YB at hf0
 refine yO true [(2,none)] z0I 4 Tryz.func144 fun E hE => ?_
 obtain rfl:=z8 hf0
 exact yE X0 hC hE []
def qr:Code:=(Tryz.f166.body).getD .skip
abbrev Uw {σ:Type} (x0:z6) (YY:σ → z4i) (x10:Int) (sg2:σ):List (Nat × T):=[(0,.own (.opq (YY sg2).q)),(8,.d (eSl 1 false wS x0.Rows)),(9,.d (I ((x0.Rows.length:Nat):Int))),(10,.d (I x10))]
abbrev Uu {σ:Type} (x0:z6) (YY:σ → z4i) (x10:Int) (Row_e:List zh) (sg3:σ) (x17:Int):List (Nat × T):=[(0,.own (.opq (YY sg3).q)),(3,.d (I x10)),(8,.d (eSl 1 false wS x0.Rows)),(9,.d (I ((x0.Rows.length:Nat):Int))),(10,.d (I x10)),(15,.d (eSl 2 false F6_ Row_e)),(16,.d (I ((Row_e.length:Nat):Int))),(17,.d (I x17))]
abbrev Uv {σ:Type} (x0:z6) (YY:σ → z4i) (sg1:σ) (x10:Int):List (Nat × T):=[(0,.own (.opq (YY sg1).q)),(8,.d (eSl 1 false wS x0.Rows)),(9,.d (I ((x0.Rows.length:Nat):Int))),(10,.d (I x10))]
theorem Ki {ctr:Ctr} (hC:zw Tryz.prog ctr) (x0:z6):z7p Tryz.prog (.fn 166 [.sptr (.agg [I x0.Inputs,I x0.Outputs,eSl 1 false wS x0.Rows])]) (fun (x:wz Int × zh) (_:Bool) (_:Value) => [F0_ x.1,F6_ x.2]) (@qJ x0):=by
 refine z4X (tt:=yN) (nt:=31) (body:=qr) zy Tryz.func166 rfl (by kernel_rfl) rfl rfl (by show (2:Nat) ≤ 31; decide) ?_
 intro σ yv YY yy hy sg r0 hf0 E hE
 unfold qJ at hf0
 obtain ⟨t1,ht1,hf0⟩:=zb hf0
 refine yL X0 hC qr [1,0] [] (fun s => vC x0 yy s.1 s.2) (fun x => Uv x0 YY x.1 x.2) (sg,0) ht1  [Ha (lnM wS x0.Rows)] ?_
 rintro ⟨sg1,x10⟩ m1 lr1 hf1 hl1 J1 hJ1
 try unfold vC at hf1
 rcases zC hf1 with ⟨c0,hf1⟩ | ⟨c0,hf1⟩
 ·refine yJ X0 hC qr [1,0,0,1,1] [J1] [0,8,9,10] (fun z:σ => qh x10 z = some lr1) (fun z => Uw x0 YY x10 z) [(0,.own (.opq (YY sg1).q)),(8,.d (eSl 1 false wS x0.Rows)),(9,.d (I ((x0.Rows.length:Nat):Int))),(10,.d (I x10))] [Hq c0,Hh (.cut 0)] ?_ fun J2 hJ2 => ?_
  ·rintro sg2 hf1
   unfold qh at hf1
   obtain rfl:=z8 hf1
   exact yB X0 hC hJ1 (sg2,w64 (x10 + 1)) hl1 []
  ·obtain ⟨Row_e,h0,hf1⟩:=zb hf1
   obtain ⟨t3,ht3,hf1⟩:=zb hf1
   refine yL X0 hC qr [1,0,0,1,1,2,0,1,1,0] [J1,J2] (fun s => wh yy x10 Row_e s.1 s.2) (fun x => Uu x0 YY x10 Row_e x.1 x.2) (sg1,0) ht3  [Hi wS h0,Ha (lnM F6_ Row_e)] ?_
   rintro ⟨sg3,x17⟩ m3 lr2 hf2 hl2 J3 hJ3
   try unfold wh at hf2
   rcases zC hf2 with ⟨c1,hf2⟩ | ⟨c1,hf2⟩
   ·obtain ⟨Row_e_e,h1,hf2⟩:=zb hf2
    obtain ⟨yr,h2,hf2⟩:=zb hf2
    let Z0:List HO:=[Hq c1,Hi F6_ h1,Hn (z4A (yv:=yv) (Y:=YY) (enc:=(fun (x:wz Int × zh) (_:Bool) (_:Value) => [F0_ x.1,F6_ x.2])) (s:=sg3) (x:=((wz.mk x10 x17),Row_e_e)) (s':=yr.1) (b:=yr.2) (v:=.nilFunc) [F0_ (wz.mk x10 x17),F6_ Row_e_e] (show z09 [F0_ (wz.mk x10 x17),F6_ Row_e_e] [F0_ (wz.mk x10 x17),F6_ Row_e_e] from inferInstance))]
    rcases zC hf2 with ⟨c2,hf2⟩ | ⟨c2,hf2⟩
    ·obtain rfl:=z8 hf2
     obtain rfl:=hl2
     obtain rfl:=z8 hf1
     obtain rfl:=hl1
     obtain rfl:=z8 hf0
     exact yF ((Kc (P:=Tryz.prog) yN hy 27 (s:=sg3) (x:=((wz.mk x10 x17),Row_e_e)) (s':=yr.1) (b:=yr.2) .nilFunc h2).or X0) hC .ret [(0,.own (.opq (YY yr.1).q))] (Z0 ++ [Hq c2]) fun st0 h0 => hE _ st0 (.inr rfl) h0
    ·obtain rfl:=z8 hf2
     exact yB ((Kc (P:=Tryz.prog) yN hy 27 (s:=sg3) (x:=((wz.mk x10 x17),Row_e_e)) (s':=yr.1) (b:=yr.2) .nilFunc h2).or X0) hC hJ3 (yr.1,w64 (x17 + 1)) hl2 (Z0 ++ [Hq c2])
   ·obtain rfl:=z8 hf2
    obtain rfl:=hl2
    exact yB X0 hC hJ2 sg3 hf1 [Hq c1]
 ·obtain rfl:=z8 hf1
  obtain rfl:=hl1
  obtain rfl:=z8 hf0
  exact yF X0 hC .normal [(0,.own (.opq (YY sg1).q))] [Hq c0] fun st0 h0 => hE _ st0 (.inl rfl) h0
def Wv:Code:=(Tryz.f145.body).getD .skip
def vJ:zN:=spF (α:=List (wz Int)) (ρ:=List (wz Int)) 145 (fun x => [(eSl 2 false F0_) x]) (fun r => (eSl 2 true F0_) r) (fun x => wX x) [] (Wn)
theorem WR {ctr:Ctr} (hC:zw Tryz.prog ctr):vJ.Ok Tryz.prog:=by
 refine zx ?_
 rintro s_ r0 hf0
 try unfold wX at hf0
 refine yO true [(2,none)] Wv 9 Tryz.func145 fun E hE => ?_
 obtain ⟨g0,hf0⟩:=gdE hf0
 obtain rfl:=z8 hf0
 exact yE X0 hC hE [Ha (lnM F0_ s_),Ha (lnM F0_ s_),Hn (slB g0),Hn (slC g0),Hn (zgu F0_ g0),Ha (zln 2 F0_ s_ 0 ((s_.length:Nat):Int).toNat)]
def xQ:Code:=(Tryz.f126.body).getD .skip
def jB:zN:=spF (α:=z6) (ρ:=List (wz Int)) 126 (fun x => [zI x]) (fun r => (eSl 2 true F0_) r) (fun x => jn x) [] (Wn)
abbrev Vy (out:List (wz Int)):List (Nat × T):=[(3,.own (.box (eOs 2 false F0_ out)))]
abbrev uW (r_1:z6) (out1:List (wz Int)):List (Nat × T):=[(3,.own (.box (eOs 2 false F0_ out1))),(7,.d (.fn 166 [.sptr (.agg [I r_1.Inputs,I r_1.Outputs,eSl 1 false wS r_1.Rows])]))]
theorem QF {ctr:Ctr} (hC:zw Tryz.prog ctr) (h0V:ctr.Has Yh) (h0d:ctr.Has qB) (h0A:ctr.Has vJ):jB.Ok Tryz.prog:=by
 refine zx ?_
 rintro m_ r0 hf0
 try unfold jn at hf0
 refine yO true [(2,none)] xQ 19 Tryz.func126 fun E hE => ?_
 refine yJ X0 hC xQ [1,1] [] [3] (fun z:List (wz Int) => u6 z = some r0) (fun z => Vy z) [(1,.own (.box (zI m_))),(3,.own (.box (eOs 2 true F0_ [])))] [Hh (.cut 2)] ?_ fun J1 hJ1 => ?_
 ·rintro out hf0
  unfold u6 at hf0
  obtain ⟨r_,h0,hf0⟩:=zb hf0
  obtain rfl:=z8 hf0
  exact yE X0 hC hE [Hg (z1T h0A),Hm (shM F0_ F0_ out),Hs (z1U h0A (x:=out) h0 (loC (eSl 2 false F0_) out <| loN)),Hm (shM F0_ F0_ out)]
 ·obtain ⟨r_1,h1,hf0⟩:=zb hf0
  obtain ⟨t2,ht2,hf0⟩:=zb hf0
  refine yAt X0 hC (sub [1,1,2,1,0] xQ) (frs [1,1,2,1,0] [J1] xQ []) [(3,.own (.box (eOs 2 true F0_ []))),(7,.d (.fn 166 [.sptr (.agg [I r_1.Inputs,I r_1.Outputs,eSl 1 false wS r_1.Rows])]))] [Hc h0V (x:=m_) h1 (loC zI m_ <| loN)] fun st0 h0 => ?_
  refine JH (g:=.tmp 7) (ps:=[8,9]) (assign:=(sub [1,1,2,1,0,0] xQ)) (body:=(sub [1,1,2,1,0,1] xQ)) (K:=166) (caps:=[.sptr (.agg [I r_1.Inputs,I r_1.Outputs,eSl 1 false wS r_1.Rows])]) (by kernel_rfl) [3,7] (fun s => uW r_1 s) (fun z => nomatch z) (fun z => nomatch z) ((fun (x:wz Int × zh) (_:Bool) (_:Value) => [F0_ x.1,F6_ x.2])) (F:=@qJ r_1) (fun s x => yn s x.1 x.2) ([]:List (wz Int)) t2 _ h0 inferInstance (by kernel_rfl) (by decide) (fun _ => rfl) (by rintro ⟨⟩) (by kernel_rfl) (fun _ _ _ => rfl) (Ki hC r_1) ht2 ?_ ?_
  ·rintro tv2 out1 ⟨x8,x9⟩ vr lr1 hf1
   replace hf1:yn out1 x8 x9 = some lr1:=hf1
   unfold yn at hf1
   refine yF X0 hC .normal [(3,.own (.box (eOs 2 false F0_ out1))),(4,.own (.box (F0_ x8))),(5,.own (.box (F6_ x9))),(7,.d (.fn 166 [.sptr (.agg [I r_1.Inputs,I r_1.Outputs,eSl 1 false wS r_1.Rows])]))] [] fun st0 h0 => ⟨rfl,z5h h0 ?_⟩
   obtain ⟨r_2,h2,hf1⟩:=zb hf1
   let Z0:List HO:=[Hc h0d (x:=()) h2 (loN)]
   rcases zC hf1 with ⟨c0,hf1⟩ | ⟨c0,hf1⟩
   ·obtain ⟨g0,hf1⟩:=gdE hf1
    obtain rfl:=z8 hf1
    exact yF X0 hC .normal (uW r_1 (out1 ++ ([x8]:List (wz Int)))) (Z0 ++ [Hq c0,Hq (dM F0_ ([x8]:List (wz Int))),Hn (dM F0_ ([x8]:List (wz Int))),Hn (aL F0_ F0_ g0),Hl (aM F0_ out1 ([x8]:List (wz Int)))]) fun st0 h0 => ⟨rfl,_,h0,LeL.refl _⟩
   ·obtain rfl:=z8 hf1
    exact yF X0 hC .normal (uW r_1 out1) (Z0 ++ [Hq c0]) fun st0 h0 => ⟨rfl,_,h0,LeL.refl _⟩
  ·rcases t2 with out1 | z
   ·dsimp only at hf0
    exact YR (by kernel_rfl) (hJ1 _ [(3,.own (.box (eOs 2 false F0_ out1)))] out1 hf0 (show Own.canon [3] _ = ofL _ by kernel_rfl) inferInstance)
   ·cases z
def QO:Code:=(Tryz.f96.body).getD .skip
def kw:zN:=spF (α:=z6) (ρ:=Bool × Int) 96 (fun x => [zI x]) (fun r => .tup [eB r.1,(eI .i64) r.2]) (fun x => uO x) [] (Wn)
theorem Jl {ctr:Ctr} (hC:zw Tryz.prog ctr) (h02:ctr.Has xM) (h0W:ctr.Has jB):kw.Ok Tryz.prog:=by
 refine zx ?_
 rintro m_ r0 hf0
 try unfold uO at hf0
 refine yO false [(2,none),(3,none)] QO 14 Tryz.func96 fun E hE => ?_
 obtain ⟨r_,h0,hf0⟩:=zb hf0
 let Z0:List HO:=[Hc h02 (x:=m_) h0 (loC zI m_ <| loN)]
 rcases zC hf0 with ⟨c0,hf0⟩ | ⟨c0,hf0⟩
 ·obtain rfl:=z8 hf0
  exact yE X0 hC hE (Z0 ++ [Hq c0])
 ·obtain ⟨r_1,h1,hf0⟩:=zb hf0
  obtain rfl:=z8 hf0
  exact yE X0 hC hE (Z0 ++ [Hq c0,Hc h0W (x:=m_) h1 (loC zI m_ <| loN),Ha (lnM F0_ r_1)])
def QN:Code:=(Tryz.f95.body).getD .skip
def ku:zN:=spF (α:=z6) (ρ:=Bool) 95 (fun x => [z0b x]) (fun r => eB r) (fun x => ke x) [] (Wn)
theorem Jk {ctr:Ctr} (hC:zw Tryz.prog ctr) (h0X:ctr.Has kw):ku.Ok Tryz.prog:=by
 refine zx ?_
 rintro x0 r0 hf0
 try unfold ke at hf0
 refine yO true [(1,none)] QN 10 Tryz.func95 fun E hE => ?_
 obtain ⟨r_,h0,hf0⟩:=zb hf0
 obtain rfl:=z8 hf0
 exact yE X0 hC hE [Hc h0X (x:=x0) h0 (loC zI x0 <| loN)]
def ZZ:Code:=(Tryz.f127.body).getD .skip
abbrev WC (cv0:Value) (cv1:Value) (cv2:Value) (Row_e:List zh) (x1:List Bool) (x2_Inputs:Int) (x2_Outputs:Int) (x2_Rows:List (List zh)) (x24:Int):List (Nat × T):=[(1,.own (.box (eOs 1 true eB x1))),(2,.own (.box (.agg [I x2_Inputs,I x2_Outputs,eSl 1 false wS x2_Rows]))),(3,.own (.box (.fn 127 [.atom cv0,.atom cv1,.atom cv2]))),(22,.d (eSl 2 false F6_ Row_e)),(23,.d (I ((Row_e.length:Nat):Int))),(24,.d (I x24))]
theorem Uj {ctr:Ctr} (hC:zw Tryz.prog ctr) (cv0:Value) (cv1:Value) (cv2:Value):∀ (fu:Nat) (s_:Int) (y0:List Bool) (y1:z6) (r0:List Bool × z6),yd fu s_ y0 y1 = some r0 → kp Tryz.prog (.fn 127 [.atom cv0,.atom cv1,.atom cv2]) [I s_] ([cv0,cv1,cv2].zip [.box (eOs 1 true eB y0),.box (.agg [I y1.Inputs,I y1.Outputs,eSl 1 false wS y1.Rows]),.box (.fn 127 [.atom cv0,.atom cv1,.atom cv2])]) (.tup []) [.box (eOs 1 true eB r0.1),.box (.agg [I r0.2.Inputs,I r0.2.Outputs,eSl 1 false wS r0.2.Rows]),.box (.fn 127 [.atom cv0,.atom cv1,.atom cv2])]:=by
 intro fu
 induction fu with
 | zero => intro s_ y0 y1 r0 hf0; exact nomatch (show none = some r0 from hf0)
 | succ fu ih =>
  intro s_ y0 y1 r0 hf0
  replace hf0:wa (yd fu) s_ y0 y1 = some r0:=hf0
  generalize yd fu = rc_ at ih hf0
  refine z85 (tt:=yN) (nt:=33) (body:=ZZ) [1,2,3] zy Tryz.func127 rfl (by kernel_rfl) rfl rfl (by show (4:Nat) ≤ 33; decide) (by decide) rfl rfl (fun E hE => ?_) rfl
  unfold wa at hf0
  rcases zC hf0 with ⟨c0,hf0⟩ | ⟨c0,hf0⟩
  ·obtain rfl:=z8 hf0
   exact yF X0 hC .ret [(1,.own (.box (eOs 1 true eB y0))),(2,.own (.box (.agg [I y1.Inputs,I y1.Outputs,eSl 1 false wS y1.Rows]))),(3,.own (.box (.fn 127 [.atom cv0,.atom cv1,.atom cv2])))] (rpN 5 (Hq c0) [qT]) fun st0 h0 => hE _ st0 (.inr rfl) (Jr h0 ⟨⟨rfl,rfl⟩,⟨⟨rfl,rfl⟩,⟨⟨rfl,rfl⟩,trivial⟩⟩⟩)
  ·obtain ⟨y_e,h0,hf0⟩:=zb hf0
   let Z0:List HO:=[Hq c0,Hq c0,Hq c0,Hn (iL eB h0),Hq c0,Hs (iM eB h0),Hq c0]
   rcases zC hf0 with ⟨c1,hf0⟩ | ⟨c1,hf0⟩
   ·obtain rfl:=z8 hf0
    exact yF X0 hC .ret [(1,.own (.box (eOs 1 true eB y0))),(2,.own (.box (.agg [I y1.Inputs,I y1.Outputs,eSl 1 false wS y1.Rows]))),(3,.own (.box (.fn 127 [.atom cv0,.atom cv1,.atom cv2])))] (Z0 ++ [Hq c1]) fun st0 h0 => hE _ st0 (.inr rfl) (Jr h0 ⟨⟨rfl,rfl⟩,⟨⟨rfl,rfl⟩,⟨⟨rfl,rfl⟩,trivial⟩⟩⟩)
   ·obtain ⟨y_e1,h1,hf0⟩:=zb hf0
    obtain ⟨Row_e,h2,hf0⟩:=zb hf0
    obtain ⟨t1,ht1,hf0⟩:=zb hf0
    refine yL X0 hC ZZ [1,1,1,0] [] (fun s => xc rc_ Row_e s.1 s.2.1 s.2.2.1 s.2.2.2.1 s.2.2.2.2) (fun x => WC cv0 cv1 cv2 Row_e x.1 x.2.1 x.2.2.1 x.2.2.2.1 x.2.2.2.2) ((y0.set s_.toNat true),y1.Inputs,y1.Outputs,y1.Rows,0) ht1  (Z0 ++ [Hq c1,Hn (iL eB h1),Hs (iM eB h1),Hs (iM eB h1),Hl (sM eB y0 s_ true),Hi wS h2,Ha (lnM F6_ Row_e)]) ?_
    rintro ⟨x1,x2_Inputs,x2_Outputs,x2_Rows,x24⟩ m1 lr1 hf1 hl1 J1 hJ1
    try unfold xc at hf1
    rcases zC hf1 with ⟨c2,hf1⟩ | ⟨c2,hf1⟩
    ·obtain ⟨Row_e_e,h3,hf1⟩:=zb hf1
     obtain ⟨r_,h4,hf1⟩:=zb hf1
     obtain rfl:=z8 hf1
     exact yB ((j8 (P:=Tryz.prog) yN [1,2,3] (ih _ _ _ _ h4) 31).or X0) hC hJ1 (r_.1,r_.2.Inputs,r_.2.Outputs,r_.2.Rows,w64 (x24 + 1)) hl1 [Hq c2,Hi F6_ h3,Hn (YX (f:=.fn 127 [.atom cv0,.atom cv1,.atom cv2]) (xs:=[(eI .i64) Row_e_e.To]) (ls:=[(cv0,.box (eOs 1 true eB x1)),(cv1,.box (.agg [I x2_Inputs,I x2_Outputs,eSl 1 false wS x2_Rows])),(cv2,.box (.fn 127 [.atom cv0,.atom cv1,.atom cv2]))]) (r:=.tup []) (ys:=[.box (eOs 1 true eB r_.1),.box (.agg [I r_.2.Inputs,I r_.2.Outputs,eSl 1 false wS r_.2.Rows]),.box (.fn 127 [.atom cv0,.atom cv1,.atom cv2])]) [(eI .i64) Row_e_e.To] (show z09 [(eI .i64) Row_e_e.To] [(eI .i64) Row_e_e.To] from inferInstance))]
    ·obtain rfl:=z8 hf1
     obtain rfl:=hl1
     obtain rfl:=z8 hf0
     exact yF X0 hC .normal [(1,.own (.box (eOs 1 true eB x1))),(2,.own (.box (.agg [I x2_Inputs,I x2_Outputs,eSl 1 false wS x2_Rows]))),(3,.own (.box (.fn 127 [.atom cv0,.atom cv1,.atom cv2])))] [Hq c2] fun st0 h0 => hE _ st0 (.inl rfl) (Jr h0 ⟨⟨rfl,rfl⟩,⟨⟨rfl,rfl⟩,⟨⟨rfl,rfl⟩,trivial⟩⟩⟩)
def ul:Code:=(Tryz.f146.body).getD .skip
def uh:zN:=spF (α:=List Bool × Bool) (ρ:=Int) 146 (fun x => [(eSl 1 false eB) x.1,eB x.2]) (fun r => (eI .i64) r) (fun x => vG x.1 x.2) [] (VA)
abbrev Xr:List (Nat × T):=[]
abbrev Xq (s_:List Bool) (v_:Bool) (x8:Int):List (Nat × T):=[(0,.d (eSl 1 false eB s_)),(1,.d (B v_)),(7,.d (I ((s_.length:Nat):Int))),(8,.d (I x8))]
theorem Vi {ctr:Ctr} (hC:zw Tryz.prog ctr):uh.Ok Tryz.prog:=by
 refine zx ?_
 rintro ⟨s_,v_⟩ r0 hf0
 try unfold vG at hf0
 refine yO true [(4,none)] ul 19 Tryz.func146 fun E hE => ?_
 refine yJ X0 hC ul [1] [] [] (fun z:Unit => uj = some r0) (fun z => Xr) [(0,.d (eSl 1 false eB s_)),(1,.d (B v_))] [Hh (.cut 1)] ?_ fun J1 hJ1 => ?_
 ·rintro ⟨⟩ hf0
  unfold uj at hf0
  obtain rfl:=z8 hf0
  exact yE X0 hC hE []
 ·obtain ⟨t2,ht2,hf0⟩:=zb hf0
  refine yL X0 hC ul [1,2,1,0] [J1] (fun s => yw s_ v_ s) (fun x => Xq s_ v_ x) 0 ht2  [Ha (lnM eB s_)] ?_
  rintro x8 m2 lr1 hf1 hl1 J2 hJ2
  try unfold yw at hf1
  rcases zC hf1 with ⟨c0,hf1⟩ | ⟨c0,hf1⟩
  ·obtain ⟨s__e,h0,hf1⟩:=zb hf1
   rcases zC hf1 with ⟨c1,hf1⟩ | ⟨c1,hf1⟩
   ·obtain rfl:=z8 hf1
    obtain rfl:=hl1
    obtain rfl:=z8 hf0
    exact yE X0 hC hE [Hq c0,Hi eB h0,Hq c1]
   ·obtain rfl:=z8 hf1
    exact yB X0 hC hJ2 (w64 (x8 + 1)) hl1 [Hq c0,Hi eB h0,Hq c1]
  ·obtain rfl:=z8 hf1
   obtain rfl:=hl1
   exact yB X0 hC hJ1 () hf0 [Hq c0]
def Xo:Code:=(Tryz.f128.body).getD .skip
def wT:zN:=spF (α:=List Bool × Bool) (ρ:=Bool) 128 (fun x => [(eSl 1 false eB) x.1,eB x.2]) (fun r => eB r) (fun x => xD x.1 x.2) [] (VA)
theorem Xy {ctr:Ctr} (hC:zw Tryz.prog ctr) (h0Y:ctr.Has uh):wT.Ok Tryz.prog:=by
 refine zx ?_
 rintro ⟨s_,v_⟩ r0 hf0
 try unfold xD at hf0
 refine yO true [(4,none)] Xo 9 Tryz.func128 fun E hE => ?_
 obtain ⟨r_,h0,hf0⟩:=zb hf0
 obtain rfl:=z8 hf0
 exact yE X0 hC hE [Hc h0Y (x:=(s_,v_)) h0 (loC (eSl 1 false eB) s_ <| loC eB v_ <| loN)]
def YQ:Code:=(Tryz.f98.body).getD .skip
def jC:zN:=spF (α:=z6) (ρ:=Bool × Int) 98 (fun x => [zI x]) (fun r => .tup [eB r.1,(eI .i64) r.2]) (fun x => u9 x) [] (Wn)
theorem QG {ctr:Ctr} (hC:zw Tryz.prog ctr) (h02:ctr.Has xM) (h0B:ctr.Has wT):jC.Ok Tryz.prog:=by
 refine zx ?_
 rintro m_ r0 hf0
 try unfold u9 at hf0
 refine yO false [(2,none),(3,none)] YQ 22 Tryz.func98 fun E hE => ?_
 obtain ⟨r_,h0,hf0⟩:=zb hf0
 let Z0:List HO:=[Hc h02 (x:=m_) h0 (loC zI m_ <| loN)]
 rcases zC hf0 with ⟨c0,hf0⟩ | ⟨c0,hf0⟩
 ·obtain rfl:=z8 hf0
  exact yE X0 hC hE (Z0 ++ [Hq c0])
 ·obtain ⟨g0,hf0⟩:=gdE hf0
  refine yA X0 hC YQ [1,1,1,1] [] [(1,.own (.box (zI m_))),(5,.own (.box (eOs 1 true eB (List.replicate ((m_.Rows.length:Nat):Int).toNat false)))),(6,.own (.box (.atom .nilFunc)))] (Z0 ++ [Hq c0,Ha (lnM wS m_.Rows),Hn (rL g0),Ha (rM 1 eB ((m_.Rows.length:Nat):Int) false),Hh (.cut 1)]) ?_
  refine zaM (by kernel_rfl) 5 fun pv5 => ?_
  refine zaM (by kernel_rfl) 1 fun pv1 => ?_
  refine zaM (by kernel_rfl) 6 fun pv6 => ?_
  obtain ⟨r_1,h1,hf0⟩:=zb hf0
  obtain ⟨r_2,h2,hf0⟩:=zb hf0
  obtain rfl:=z8 hf0
  exact yE ((j8 (P:=Tryz.prog) yN [5,1,6] (Uj hC pv5 pv1 pv6 fuel _ _ _ _ h1) 18).or ((xMk Tryz.prog yN).or X0)) hC hE [Hn (YX (f:=.fn 127 [.atom pv5,.atom pv1,.atom pv6]) (xs:=[(eI .i64) 0]) (ls:=[(pv5,.box (eOs 1 true eB (List.replicate ((m_.Rows.length:Nat):Int).toNat false))),(pv1,.box (.agg [I m_.Inputs,I m_.Outputs,eSl 1 false wS m_.Rows])),(pv6,.box (.fn 127 [.atom pv5,.atom pv1,.atom pv6]))]) (r:=.tup []) (ys:=[.box (eOs 1 true eB r_1.1),.box (.agg [I r_1.2.Inputs,I r_1.2.Outputs,eSl 1 false wS r_1.2.Rows]),.box (.fn 127 [.atom pv5,.atom pv1,.atom pv6])]) [(eI .i64) 0] (show z09 [(eI .i64) 0] [(eI .i64) 0] from inferInstance)),Hg (z1T h0B),Hm (shM eB eB r_1.1),Hs (z1U h0B (x:=(r_1.1,false)) h2 (loC (eSl 1 true eB) r_1.1 <| loC eB false <| loN))]
def QM:Code:=(Tryz.f97.body).getD .skip
def kr:zN:=spF (α:=z6) (ρ:=Bool) 97 (fun x => [z0b x]) (fun r => eB r) (fun x => kc x) [] (Wn)
theorem Jj {ctr:Ctr} (hC:zw Tryz.prog ctr) (h0Z:ctr.Has jC):kr.Ok Tryz.prog:=by
 refine zx ?_
 rintro x0 r0 hf0
 try unfold kc at hf0
 refine yO true [(1,none)] QM 10 Tryz.func97 fun E hE => ?_
 obtain ⟨r_,h0,hf0⟩:=zb hf0
 obtain rfl:=z8 hf0
 exact yE X0 hC hE [Hc h0Z (x:=x0) h0 (loC zI x0 <| loN)]
def z0F:Code:=(Tryz.f129.body).getD .skip
def Yd:zN:=spF (α:=z6) (ρ:=z6) 129 (fun x => [zI x]) (fun r => (QK 147 z0b) r) (fun x => Yz x) [] (Wn)
theorem z1r {ctr:Ctr} (hC:zw Tryz.prog ctr):Yd.Ok Tryz.prog:=by
 refine zx ?_
 rintro m_ r0 hf0
 try unfold Yz at hf0
 refine yO true [(2,none)] z0F 4 Tryz.func129 fun E hE => ?_
 obtain rfl:=z8 hf0
 exact yE X0 hC hE []
def ZV:Code:=(Tryz.f167.body).getD .skip
def XG:zN:=spF (α:=z6 × List Int × Int) (ρ:=xh (wz Int)) 167 (fun x => [zI x.1,F3_ x.2.1,(eI .i64) x.2.2]) (fun r => F5_ r) (fun x => jI x.1 x.2.1 x.2.2) [] (z8V)
abbrev KO (out:xh (wz Int)):List (Nat × T):=[(6,.own (.box (.agg [.agg [I 0,I 0],.agg [I 0,I 0],.agg [I 0,I 0],.agg [I 0,I 0],.agg [I 0,I 0],.agg [I 0,I 0],.agg [I 0,I 0],.agg [I 0,I 0],.agg [I 0,I 0],.agg [I 0,I 0],.agg [I 0,I 0],.agg [I 0,I 0],.agg [I 0,I 0],.agg [I 0,I 0],.agg [I 0,I 0],.agg [I 0,I 0]]))),(7,.own (.box (F5_ out)))]
abbrev KN (p_:List Int) (Row_e:List zh) (x16:Int) (out2:xh (wz Int)):List (Nat × T):=[(1,.d (eSl 1 false (eI .i64) p_)),(6,.own (.box (.agg [.agg [I 0,I 0],.agg [I 0,I 0],.agg [I 0,I 0],.agg [I 0,I 0],.agg [I 0,I 0],.agg [I 0,I 0],.agg [I 0,I 0],.agg [I 0,I 0],.agg [I 0,I 0],.agg [I 0,I 0],.agg [I 0,I 0],.agg [I 0,I 0],.agg [I 0,I 0],.agg [I 0,I 0],.agg [I 0,I 0],.agg [I 0,I 0]]))),(7,.own (.box (F5_ out2))),(14,.d (eSl 2 false F6_ Row_e)),(15,.d (I ((Row_e.length:Nat):Int))),(16,.d (I x16))]
abbrev KL (p_:List Int) (Row_e:List zh) (out1:xh (wz Int)) (x16:Int):List (Nat × T):=[(1,.d (eSl 1 false (eI .i64) p_)),(6,.own (.box (.agg [.agg [I 0,I 0],.agg [I 0,I 0],.agg [I 0,I 0],.agg [I 0,I 0],.agg [I 0,I 0],.agg [I 0,I 0],.agg [I 0,I 0],.agg [I 0,I 0],.agg [I 0,I 0],.agg [I 0,I 0],.agg [I 0,I 0],.agg [I 0,I 0],.agg [I 0,I 0],.agg [I 0,I 0],.agg [I 0,I 0],.agg [I 0,I 0]]))),(7,.own (.box (F5_ out1))),(14,.d (eSl 2 false F6_ Row_e)),(15,.d (I ((Row_e.length:Nat):Int))),(16,.d (I x16))]
theorem z3o {ctr:Ctr} (hC:zw Tryz.prog ctr):XG.Ok Tryz.prog:=by
 refine zx ?_
 rintro ⟨m_,p_,s_⟩ r0 hf0
 try unfold jI at hf0
 refine yO false [(6,some 190)] ZV 39 Tryz.func167 fun E hE => ?_
 refine yJ X0 hC ZV [1,1] [] [6,7] (fun z:xh (wz Int) => Zx z = some r0) (fun z => KO z) [(1,.d (eSl 1 false (eI .i64) p_)),(2,.d (I s_)),(3,.own (.box (zI m_))),(6,.own (.box (.agg [.agg [I 0,I 0],.agg [I 0,I 0],.agg [I 0,I 0],.agg [I 0,I 0],.agg [I 0,I 0],.agg [I 0,I 0],.agg [I 0,I 0],.agg [I 0,I 0],.agg [I 0,I 0],.agg [I 0,I 0],.agg [I 0,I 0],.agg [I 0,I 0],.agg [I 0,I 0],.agg [I 0,I 0],.agg [I 0,I 0],.agg [I 0,I 0]]))),(7,.own (.box (.agg [.agg [I 0,I 0],.agg [I 0,I 0],.agg [I 0,I 0],.agg [I 0,I 0],.agg [I 0,I 0],.agg [I 0,I 0],.agg [I 0,I 0],.agg [I 0,I 0],.agg [I 0,I 0],.agg [I 0,I 0],.agg [I 0,I 0],.agg [I 0,I 0],.agg [I 0,I 0],.agg [I 0,I 0],.agg [I 0,I 0],.agg [I 0,I 0]])))] [Hh (.cut 2)] ?_ fun J1 hJ1 => ?_
 ·rintro out hf0
  unfold Zx at hf0
  obtain rfl:=z8 hf0
  exact yE X0 hC hE []
 ·obtain ⟨Row_e,h0,hf0⟩:=zb hf0
  obtain ⟨t2,ht2,hf0⟩:=zb hf0
  refine yL X0 hC ZV [1,1,2,1,0] [J1] (fun s => jG p_ Row_e s.1 s.2) (fun x => KL p_ Row_e x.1 x.2) ((xh.mk (wz.mk 0 0) (wz.mk 0 0) (wz.mk 0 0) (wz.mk 0 0) (wz.mk 0 0) (wz.mk 0 0) (wz.mk 0 0) (wz.mk 0 0) (wz.mk 0 0) (wz.mk 0 0) (wz.mk 0 0) (wz.mk 0 0) (wz.mk 0 0) (wz.mk 0 0) (wz.mk 0 0) (wz.mk 0 0)),0) ht2  [Hi wS h0,Ha (lnM F6_ Row_e)] ?_
  rintro ⟨out1,x16⟩ m2 lr1 hf1 hl1 J2 hJ2
  try unfold jG at hf1
  rcases zC hf1 with ⟨c0,hf1⟩ | ⟨c0,hf1⟩
  ·refine yJ X0 hC ZV [1,1,2,1,0,0,1,1] [J1,J2] [1,6,7,14,15,16] (fun z:xh (wz Int) => jH x16 z = some lr1) (fun z => KN p_ Row_e x16 z) [(1,.d (eSl 1 false (eI .i64) p_)),(6,.own (.box (.agg [.agg [I 0,I 0],.agg [I 0,I 0],.agg [I 0,I 0],.agg [I 0,I 0],.agg [I 0,I 0],.agg [I 0,I 0],.agg [I 0,I 0],.agg [I 0,I 0],.agg [I 0,I 0],.agg [I 0,I 0],.agg [I 0,I 0],.agg [I 0,I 0],.agg [I 0,I 0],.agg [I 0,I 0],.agg [I 0,I 0],.agg [I 0,I 0]]))),(7,.own (.box (F5_ out1))),(14,.d (eSl 2 false F6_ Row_e)),(15,.d (I ((Row_e.length:Nat):Int))),(16,.d (I x16))] [Hq c0,Hh (.cut 0)] ?_ fun J3 hJ3 => ?_
   ·rintro out2 hf1
    unfold jH at hf1
    obtain rfl:=z8 hf1
    exact yB X0 hC hJ2 (out2,w64 (x16 + 1)) hl1 []
   ·obtain ⟨Row_e_e,h1,hf1⟩:=zb hf1
    obtain ⟨cell,h2,hf1⟩:=zb hf1
    obtain ⟨arr,h3,hf1⟩:=zb hf1
    replace h3:=z8 h3
    let Z0:List HO:=[Hi F6_ h1,Hn (⟨arJ (by kernel_rfl) (i0 h2),(iL F0_ h2).2⟩:Y7 yN 190 ((xh.toL out1).map F0_) x16 = true ∧ x16.toNat < ((xh.toL out1).map F0_).length),Hh (.op 9),Hh (.f),Hs (iM F0_ h2),Hh (.f),Hs (iM F0_ h2),Hx (.l ((xh.toL arr).map F0_)) ((xh.setL F0_ out1 x16 (wz.mk Row_e_e.Out (-1))).trans (congrArg (fun q => (xh.toL q).map F0_) h3))]
    rcases zC hf1 with ⟨c1,hf1⟩ | ⟨c1,hf1⟩
    ·obtain ⟨p__e,h4,hf1⟩:=zb hf1
     obtain ⟨cell1,h5,hf1⟩:=zb hf1
     obtain ⟨arr1,h6,hf1⟩:=zb hf1
     replace h6:=z8 h6
     exact yB X0 hC hJ3 arr1 hf1 (Z0 ++ [Hq c1,Hi (eI .i64) h4,Hn (⟨arJ (by kernel_rfl) (i0 h5),(iL F0_ h5).2⟩:Y7 yN 190 ((xh.toL arr).map F0_) x16 = true ∧ x16.toNat < ((xh.toL arr).map F0_).length),Hh (.op 2),Hh (.f),Hs (iM F0_ h5),Hn (⟨rfl,by decide⟩:true = true ∧ 1 < 2),Hh (.op 0),Hh (.f),Hs (iM F0_ h5),Hh (.f),Hx (.a (I cell1.e1)) (rfl:some (I cell1.e1:A) = some (I cell1.e1)),Hh (.f),Hs (iM F0_ h5),Hh (.f),Hx (.a (I cell1.e1)) (rfl:some (I cell1.e1:A) = some (I cell1.e1)),Hx (.l [I cell1.e0,I p__e]) (rfl:([I cell1.e0,I p__e]:List A) = [I cell1.e0,I p__e]),Hx (.l ((xh.toL arr1).map F0_)) ((xh.setL F0_ arr x16 (wz.mk cell1.e0 p__e)).trans (congrArg (fun q => (xh.toL q).map F0_) h6))])
    ·exact yB X0 hC hJ3 arr hf1 (Z0 ++ [Hq c1])
  ·obtain rfl:=z8 hf1
   obtain rfl:=hl1
   exact yB X0 hC hJ1 out1 hf0 [Hq c0]
def js:Code:=(Tryz.f148.body).getD .skip
def ja:zN:=spF (α:=z6 × List Int) (ρ:=List Int) 148 (fun x => [zI x.1,F3_ x.2]) (fun r => F1_ r) (fun x => jJ x.1 x.2) [] (VA)
abbrev Q6 (out:List Int):List (Nat × T):=[(6,.own (eOs 1 true (eI .i64) out))]
abbrev Q5 (m_:z6) (p_:List Int) (out1:List Int) (x18:Int) (p__e:Int) (r_:xh (wz Int)) (names1:List (zz × Int)):List (Nat × T):=[(1,.d (eSl 1 false (eI .i64) p_)),(2,.own (.box (zI m_))),(5,.own (.opq (z1d (Vs z0c (eI .i64) names1)))),(6,.own (eOs 1 true (eI .i64) out1)),(7,.d (I x18)),(9,.own (.box (.agg [I p__e,F5_ r_]))),(16,.d (eSl 1 false (eI .i64) p_)),(17,.d (I ((p_.length:Nat):Int))),(18,.d (I x18))]
abbrev Q4 (m_:z6) (p_:List Int) (names:List (zz × Int)) (out1:List Int) (x18:Int):List (Nat × T):=[(1,.d (eSl 1 false (eI .i64) p_)),(2,.own (.box (zI m_))),(5,.own (.opq (z1d (Vs z0c (eI .i64) names)))),(6,.own (eOs 1 true (eI .i64) out1)),(16,.d (eSl 1 false (eI .i64) p_)),(17,.d (I ((p_.length:Nat):Int))),(18,.d (I x18))]
theorem z0e {ctr:Ctr} (hC:zw Tryz.prog ctr) (h1a:ctr.Has XG):ja.Ok Tryz.prog:=by
 refine zx ?_
 rintro ⟨m_,p_⟩ r0 hf0
 try unfold jJ at hf0
 refine yO true [(4,none)] js 49 Tryz.func148 fun E hE => ?_
 obtain ⟨g0,hf0⟩:=gdE hf0
 refine yJ ((zjy Tryz.prog 12).or X0) hC js [1,1,1] [] [6] (fun z:List Int => je z = some r0) (fun z => Q6 z) [(1,.d (eSl 1 false (eI .i64) p_)),(2,.own (.box (zI m_))),(5,.own (.opq (z1d (Vs z0c (eI .i64) ([]:List (zz × Int)))))),(6,.own (eOs 1 true (eI .i64) (List.replicate ((p_.length:Nat):Int).toNat (0:Int))))] [Ha (lnM (eI .i64) p_),Hn (rL g0),Ha (rM 1 (eI .i64) ((p_.length:Nat):Int) (0:Int)),Hh (.cut 0)] ?_ fun J1 hJ1 => ?_
 ·rintro out hf0
  unfold je at hf0
  obtain rfl:=z8 hf0
  exact yE X0 hC hE []
 ·obtain ⟨t2,ht2,hf0⟩:=zb hf0
  refine yL X0 hC js [1,1,1,2,1,0] [J1] (fun s => vX m_ p_ s.1 s.2.1 s.2.2) (fun x => Q4 m_ p_ x.1 x.2.1 x.2.2) (([]:List (zz × Int)),(List.replicate ((p_.length:Nat):Int).toNat (0:Int)),0) ht2  [Ha (lnM (eI .i64) p_)] ?_
  rintro ⟨names,out1,x18⟩ m2 lr1 hf1 hl1 J2 hJ2
  try unfold vX at hf1
  rcases zC hf1 with ⟨c0,hf1⟩ | ⟨c0,hf1⟩
  ·obtain ⟨p__e,h0,hf1⟩:=zb hf1
   obtain ⟨r_,h1,hf1⟩:=zb hf1
   refine yJ X0 hC js [1,1,1,2,1,0,0,1,1,0,0,1,1] [J1,J2] [1,2,5,6,7,9,16,17,18] (fun z:List (zz × Int) => wI out1 x18 p__e r_ z = some lr1) (fun z => Q5 m_ p_ out1 x18 p__e r_ z) [(1,.d (eSl 1 false (eI .i64) p_)),(2,.own (.box (zI m_))),(5,.own (.opq (z1d (Vs z0c (eI .i64) names)))),(6,.own (eOs 1 true (eI .i64) out1)),(7,.d (I x18)),(9,.own (.box (.agg [I p__e,F5_ r_]))),(16,.d (eSl 1 false (eI .i64) p_)),(17,.d (I ((p_.length:Nat):Int))),(18,.d (I x18))] [Hq c0,Hi (eI .i64) h0,Hc h1a (x:=(m_,p_,x18)) h1 (loC zI m_ <| loC F3_ p_ <| loC (eI .i64) x18 <| loN),Hh (.cut 0)] ?_ fun J3 hJ3 => ?_
   ·rintro names1 hf1
    unfold wI at hf1
    obtain ⟨val,h2,hf1⟩:=zb hf1
    replace h2:=z8 h2
    obtain ⟨out_e,h3,hf1⟩:=zb hf1
    obtain rfl:=z8 hf1
    exact yB ((zdG z65 45 (Vs z0c (eI .i64) names1)).or X0) hC hJ2 (names1,(out1.set x18.toNat val),w64 (x18 + 1)) hl1 [Hn (⟨rfl,rfl,zat (fun _ => rfl) names1⟩:A.opq (z1d (Vs z0c (eI .i64) names1)) = A.opq (z1d (Vs z0c (eI .i64) names1)) ∧ (z2J [.i64,.i64,.i64,.i64,.i64,.i64,.i64,.i64,.i64,.i64,.i64,.i64,.i64,.i64,.i64,.i64,.i64,.i64,.i64,.i64,.i64,.i64,.i64,.i64,.i64,.i64,.i64,.i64,.i64,.i64,.i64,.i64,.i64]) (z0c (zz.mk p__e r_)) = true ∧ ∀ p ∈ Vs z0c (eI .i64) names1,(z2J [.i64,.i64,.i64,.i64,.i64,.i64,.i64,.i64,.i64,.i64,.i64,.i64,.i64,.i64,.i64,.i64,.i64,.i64,.i64,.i64,.i64,.i64,.i64,.i64,.i64,.i64,.i64,.i64,.i64,.i64,.i64,.i64,.i64]) p.1 = true),Hx (.a ((eI .i64) val)) ((zmG (f:=z0c) (g:=(eI .i64)) (z0:=0) (z:=.atom (.int .i64 0)) rfl (zz.mk p__e r_) names1).trans (congrArg (eI .i64) h2)),Hn (iL (eI .i64) h3),Hs (iM (eI .i64) h3),Hs (iM (eI .i64) h3),Hl (sM (eI .i64) out1 x18 val)]
   ·obtain ⟨val1,h4,hf1⟩:=zb hf1
    replace h4:=z8 h4
    let Z0:List HO:=[Hn (⟨rfl,rfl,zat (fun _ => rfl) names⟩:A.opq (z1d (Vs z0c (eI .i64) names)) = A.opq (z1d (Vs z0c (eI .i64) names)) ∧ (z2J [.i64,.i64,.i64,.i64,.i64,.i64,.i64,.i64,.i64,.i64,.i64,.i64,.i64,.i64,.i64,.i64,.i64,.i64,.i64,.i64,.i64,.i64,.i64,.i64,.i64,.i64,.i64,.i64,.i64,.i64,.i64,.i64,.i64]) (z0c (zz.mk p__e r_)) = true ∧ ∀ p ∈ Vs z0c (eI .i64) names,(z2J [.i64,.i64,.i64,.i64,.i64,.i64,.i64,.i64,.i64,.i64,.i64,.i64,.i64,.i64,.i64,.i64,.i64,.i64,.i64,.i64,.i64,.i64,.i64,.i64,.i64,.i64,.i64,.i64,.i64,.i64,.i64,.i64,.i64]) p.1 = true),Hx (.a (.tup [I val1,B ((z1c names (zz.mk p__e r_)).isSome)])) ((zmF (f:=z0c) (g:=(eI .i64)) (z0:=0) (z:=.atom (.int .i64 0)) rfl (zz.mk p__e r_) names).trans (congrArg (fun x => A.tup [(eI .i64) x,.atom (.bool (z1c names (zz.mk p__e r_)).isSome)]) h4))]
    rcases zC hf1 with ⟨c1,hf1⟩ | ⟨c1,hf1⟩
    ·exact yB ((zm3 z65 37 (Vs z0c (eI .i64) names) (Vs z0c (eI .i64) (z8B names (zz.mk p__e r_) ((names.length:Nat):Int)))).or ((zjz z65 40 (Vs z0c (eI .i64) names)).or ((zdG z65 32 (Vs z0c (eI .i64) names)).or X0))) hC hJ3 (z8B names (zz.mk p__e r_) ((names.length:Nat):Int)) hf1 (Z0 ++ [Hq c1,Hn (rfl:A.opq (z1d (Vs z0c (eI .i64) names)) = A.opq (z1d (Vs z0c (eI .i64) names))),Hx (aLn names.length) (zf2 z0c (eI .i64) names),Hn (⟨rfl,rfl,rfl,rfl,zat (fun _ => rfl) names⟩:T.own (.opq (z1d (Vs z0c (eI .i64) names))) = T.own (.opq (z1d (Vs z0c (eI .i64) names))) ∧ 0 = 0 ∧ (z2J [.i64,.i64,.i64,.i64,.i64,.i64,.i64,.i64,.i64,.i64,.i64,.i64,.i64,.i64,.i64,.i64,.i64,.i64,.i64,.i64,.i64,.i64,.i64,.i64,.i64,.i64,.i64,.i64,.i64,.i64,.i64,.i64,.i64]) (z0c (zz.mk p__e r_)) = true ∧ ((eI .i64) ((names.length:Nat):Int)).isD = true ∧ ∀ p ∈ Vs z0c (eI .i64) names,(z2J [.i64,.i64,.i64,.i64,.i64,.i64,.i64,.i64,.i64,.i64,.i64,.i64,.i64,.i64,.i64,.i64,.i64,.i64,.i64,.i64,.i64,.i64,.i64,.i64,.i64,.i64,.i64,.i64,.i64,.i64,.i64,.i64,.i64]) p.1 = true),Hn (zeD (f:=z0c) (g:=(eI .i64)) (zz.mk p__e r_) ((names.length:Nat):Int) names)])
    ·exact yB ((zdG z65 32 (Vs z0c (eI .i64) names)).or X0) hC hJ3 names hf1 (Z0 ++ [Hq c1])
  ·obtain rfl:=z8 hf1
   obtain rfl:=hl1
   exact yB X0 hC hJ1 out1 hf0 [Hq c0]
def qq:Code:=(Tryz.f82.body).getD .skip
def xU:zN:=spF (α:=List Int × List Int) (ρ:=Bool) 82 (fun x => [F3_ x.1,F3_ x.2]) (fun r => eB r) (fun x => w5 x.1 x.2) [] (VA)
abbrev WB:List (Nat × T):=[]
abbrev WA (s1:List Int) (s2:List Int) (x13:Int):List (Nat × T):=[(0,.d (eSl 1 false (eI .i64) s1)),(1,.d (eSl 1 false (eI .i64) s2)),(12,.d (I ((s1.length:Nat):Int))),(13,.d (I x13))]
theorem Uh {ctr:Ctr} (hC:zw Tryz.prog ctr):xU.Ok Tryz.prog:=by
 refine zx ?_
 rintro ⟨s1,s2⟩ r0 hf0
 try unfold w5 at hf0
 refine yO true [(4,none)] qq 26 Tryz.func82 fun E hE => ?_
 let Z0:List HO:=[Ha (lnM (eI .i64) s1),Ha (lnM (eI .i64) s2)]
 rcases zC hf0 with ⟨c0,hf0⟩ | ⟨c0,hf0⟩
 ·obtain rfl:=z8 hf0
  exact yE X0 hC hE (Z0 ++ [Hq c0])
 ·refine yJ X0 hC qq [1,1] [] [] (fun z:Unit => wW = some r0) (fun z => WB) [(0,.d (eSl 1 false (eI .i64) s1)),(1,.d (eSl 1 false (eI .i64) s2))] (Z0 ++ [Hq c0,Hh (.cut 0)]) ?_ fun J1 hJ1 => ?_
  ·rintro ⟨⟩ hf0
   unfold wW at hf0
   obtain rfl:=z8 hf0
   exact yE X0 hC hE []
  ·obtain ⟨t2,ht2,hf0⟩:=zb hf0
   refine yL X0 hC qq [1,1,2,1,0] [J1] (fun s => yZ s1 s2 s) (fun x => WA s1 s2 x) 0 ht2  [Ha (lnM (eI .i64) s1)] ?_
   rintro x13 m2 lr1 hf1 hl1 J2 hJ2
   try unfold yZ at hf1
   rcases zC hf1 with ⟨c1,hf1⟩ | ⟨c1,hf1⟩
   ·obtain ⟨s_e,h0,hf1⟩:=zb hf1
    obtain ⟨s_e1,h1,hf1⟩:=zb hf1
    let Z1:List HO:=[Hq c1,Hi (eI .i64) h0,Hi (eI .i64) h1]
    rcases zC hf1 with ⟨c2,hf1⟩ | ⟨c2,hf1⟩
    ·obtain rfl:=z8 hf1
     obtain rfl:=hl1
     obtain rfl:=z8 hf0
     exact yE X0 hC hE (Z1 ++ [Hq c2])
    ·obtain rfl:=z8 hf1
     exact yB X0 hC hJ2 (w64 (x13 + 1)) hl1 (Z1 ++ [Hq c2])
   ·obtain rfl:=z8 hf1
    obtain rfl:=hl1
    exact yB X0 hC hJ1 () hf0 [Hq c1]
def W8:Code:=(Tryz.f147.body).getD .skip
abbrev Us {σ:Type} (x0:z6) (YY:σ → z4i) (sg1:σ) (p_:List Int):List (Nat × T):=[(0,.own (.opq (YY sg1).q)),(1,.d (.sptr (zI x0))),(3,.own (eOs 1 true (eI .i64) p_))]
theorem Kg {ctr:Ctr} (hC:zw Tryz.prog ctr) (h0p:ctr.Has ja) (h0a:ctr.Has xU) (x0:z6):z7p Tryz.prog (.fn 147 [.sptr (.agg [I x0.Inputs,I x0.Outputs,eSl 1 false wS x0.Rows])]) (fun (x:List Int) (_:Bool) (_:Value) => [F3_ x]) (@qC x0):=by
 refine z4X (tt:=yN) (nt:=19) (body:=W8) zy Tryz.func147 rfl (by kernel_rfl) rfl rfl (by show (2:Nat) ≤ 19; decide) ?_
 intro σ yv YY yy hy sg r0 hf0 E hE
 unfold qC at hf0
 obtain ⟨g0,hf0⟩:=gdE hf0
 obtain ⟨t1,ht1,hf0⟩:=zb hf0
 refine yL X0 hC W8 [1,0] [] (fun s => vt x0 yy s.1 s.2) (fun x => Us x0 YY x.1 x.2) (sg,(List.replicate ((x0.Rows.length:Nat):Int).toNat (0:Int))) ht1  [Ha (lnM wS x0.Rows),Hn (rL g0),Ha (rM 1 (eI .i64) ((x0.Rows.length:Nat):Int) (0:Int))] ?_
 rintro ⟨sg1,p_⟩ m1 lr1 hf1 hl1 J1 hJ1
 try unfold vt at hf1
 obtain ⟨yr,h0,hf1⟩:=zb hf1
 let Z0:List HO:=[Hm (shM (eI .i64) (eI .i64) p_),Hn (z4A (yv:=yv) (Y:=YY) (enc:=(fun (x:List Int) (_:Bool) (_:Value) => [F3_ x])) (s:=sg1) (x:=p_) (s':=yr.1) (b:=yr.2) (v:=.nilFunc) [F2_ p_] (show z09 [F2_ p_] [F3_ p_] from inferInstance))]
 rcases zC hf1 with ⟨c0,hf1⟩ | ⟨c0,hf1⟩
 ·obtain ⟨r_,h1,hf1⟩:=zb hf1
  obtain ⟨r_1,h2,hf1⟩:=zb hf1
  let Z1:List HO:=(Z0 ++ [Hq c0,Hc h0p (x:=(x0,p_)) h1 (loC zI x0 <| loC F2_ p_ <| loN),Hg (z1T h0a),Hm (shM (eI .i64) (eI .i64) r_),Hs (z1U h0a (x:=(p_,r_)) h2 (loC F2_ p_ <| loC F2_ r_ <| loN))])
  rcases zC hf1 with ⟨c1,hf1⟩ | ⟨c1,hf1⟩
  ·obtain rfl:=z8 hf1
   obtain rfl:=hl1
   obtain rfl:=z8 hf0
   exact yF ((Kc (P:=Tryz.prog) yN hy 11 (s:=sg1) (x:=p_) (s':=yr.1) (b:=yr.2) .nilFunc h0).or X0) hC .ret [(0,.own (.opq (YY yr.1).q))] (Z1 ++ [Hq c1]) fun st0 h0 => hE _ st0 (.inr rfl) h0
  ·obtain rfl:=z8 hf1
   exact yB ((Kc (P:=Tryz.prog) yN hy 11 (s:=sg1) (x:=p_) (s':=yr.1) (b:=yr.2) .nilFunc h0).or X0) hC hJ1 (yr.1,r_) hl1 (Z1 ++ [Hq c1])
 ·obtain rfl:=z8 hf1
  obtain rfl:=hl1
  obtain rfl:=z8 hf0
  exact yF ((Kc (P:=Tryz.prog) yN hy 11 (s:=sg1) (x:=p_) (s':=yr.1) (b:=yr.2) .nilFunc h0).or X0) hC .normal [(0,.own (.opq (YY yr.1).q))] (Z0 ++ [Hq c0]) fun st0 h0 => hE _ st0 (.inl rfl) h0
def wN:Code:=(Tryz.f100.body).getD .skip
def Zn:zN:=spF (α:=z6) (ρ:=List Int × Int × Int) 100 (fun x => [zI x]) (fun r => .tup [F3_ r.1,(eI .i64) r.2.1,(eI .i64) r.2.2]) (fun x => jK x) [] (Wn)
abbrev Q7 (p_:List Int) (n_:Int):List (Nat × T):=[(2,.own (.box (eSl 1 false (eI .i64) p_))),(3,.own (.box (I n_)))]
abbrev YU (r_1:z6) (p_1:List Int) (n_1:Int):List (Nat × T):=[(2,.own (.box (eSl 1 false (eI .i64) p_1))),(3,.own (.box (I n_1))),(13,.d (.fn 147 [.sptr (.agg [I r_1.Inputs,I r_1.Outputs,eSl 1 false wS r_1.Rows])]))]
theorem z0f {ctr:Ctr} (hC:zw Tryz.prog ctr) (h02:ctr.Has xM) (h1b:ctr.Has Yd) (h0p:ctr.Has ja) (h0a:ctr.Has xU):Zn.Ok Tryz.prog:=by
 refine zx ?_
 rintro m_ r0 hf0
 try unfold jK at hf0
 refine yO false [(2,some 40),(3,some 3),(4,none)] wN 20 Tryz.func100 fun E hE => ?_
 obtain ⟨r_,h0,hf0⟩:=zb hf0
 let Z0:List HO:=[Hh (.v 2 [2]),Hm (shM (eI .i64) (eI .i64) []),Hc h02 (x:=m_) h0 (loC zI m_ <| loN)]
 rcases zC hf0 with ⟨c0,hf0⟩ | ⟨c0,hf0⟩
 ·obtain rfl:=z8 hf0
  exact yEx X0 hC hE (Z0 ++ [Hq c0,Hm (shM (eI .i64) (eI .i64) [])]) (.tup [eSl 1 true (eI .i64) [],I 0,I r_]) (show LeV (.tup [eSl 1 true (eI .i64) [],I 0,I r_]) (.tup [eSl 1 false (eI .i64) ([]:List Int),I 0,I r_]) from inferInstance)
 ·refine yJ X0 hC wN [1,1,1] [] [2,3] (fun z:List Int × Int => jf z.1 z.2 = some r0) (fun z => Q7 z.1 z.2) [(1,.own (.box (zI m_))),(2,.own (.box (eSl 1 true (eI .i64) []))),(3,.own (.box (I (-1))))] (Z0 ++ [Hq c0,Hh (.cut 1)]) ?_ fun J1 hJ1 => ?_
  ·rintro ⟨p_,n_⟩ hf0
   unfold jf at hf0
   obtain rfl:=z8 hf0
   exact yE X0 hC hE []
  ·obtain ⟨r_1,h1,hf0⟩:=zb hf0
   obtain ⟨t2,ht2,hf0⟩:=zb hf0
   refine yAt X0 hC (sub [1,1,1,2,1,0] wN) (frs [1,1,1,2,1,0] [J1] wN []) [(2,.own (.box (eSl 1 true (eI .i64) []))),(3,.own (.box (I (-1)))),(13,.d (.fn 147 [.sptr (.agg [I r_1.Inputs,I r_1.Outputs,eSl 1 false wS r_1.Rows])]))] [Hc h1b (x:=m_) h1 (loC zI m_ <| loN)] fun st0 h0 => ?_
   refine JH (g:=.tmp 13) (ps:=[14]) (assign:=(sub [1,1,1,2,1,0,0] wN)) (body:=(sub [1,1,1,2,1,0,1] wN)) (K:=147) (caps:=[.sptr (.agg [I r_1.Inputs,I r_1.Outputs,eSl 1 false wS r_1.Rows])]) (by kernel_rfl) [2,3,13] (fun s => YU r_1 s.1 s.2) (fun z => nomatch z) (fun z => nomatch z) ((fun (x:List Int) (_:Bool) (_:Value) => [F3_ x])) (F:=@qC r_1) (fun s x => wJ s.1 s.2 x) (([]:List Int),(-1)) t2 _ h0 inferInstance (by kernel_rfl) (by decide) (fun _ => rfl) (by rintro ⟨⟩) (by kernel_rfl) (fun _ _ _ => rfl) (Kg hC h0p h0a r_1) ht2 ?_ ?_
   ·rintro tv2 ⟨p_1,n_1⟩ x14 vr lr1 hf1
    replace hf1:wJ p_1 n_1 x14 = some lr1:=hf1
    unfold wJ at hf1
    refine yF X0 hC .normal [(2,.own (.box (eSl 1 false (eI .i64) p_1))),(3,.own (.box (I n_1))),(6,.d (eSl 1 false (eI .i64) x14)),(13,.d (.fn 147 [.sptr (.agg [I r_1.Inputs,I r_1.Outputs,eSl 1 false wS r_1.Rows])]))] [] fun st0 h0 => ⟨rfl,z5h h0 ?_⟩
    obtain rfl:=z8 hf1
    exact yF X0 hC .normal (YU r_1 x14 (w64 (n_1 + 1))) [] fun st0 h0 => ⟨rfl,_,h0,LeL.refl _⟩
   ·rcases t2 with ⟨p_1,n_1⟩ | z
    ·dsimp only at hf0
     exact YR (by kernel_rfl) (hJ1 _ [(2,.own (.box (eSl 1 false (eI .i64) p_1))),(3,.own (.box (I n_1)))] (p_1,n_1) hf0 (show Own.canon [2,3] _ = ofL _ by kernel_rfl) inferInstance)
    ·cases z
def jU:Code:=(Tryz.f101.body).getD .skip
def jA:zN:=spF (α:=List Int) (ρ:=Int) 101 (fun x => [F3_ x]) (fun r => (eI .i64) r) (fun x => vV x) [] (Wn)
abbrev Vx (m_:Int):List (Nat × T):=[(3,.d (I m_))]
abbrev Vw (x_:List Int) (m_1:Int) (i_:Int):List (Nat × T):=[(0,.d (eSl 1 false (eI .i64) x_)),(3,.d (I m_1)),(4,.d (I i_))]
theorem QE {ctr:Ctr} (hC:zw Tryz.prog ctr):jA.Ok Tryz.prog:=by
 refine zx ?_
 rintro x_ r0 hf0
 try unfold vV at hf0
 refine yO true [(2,none)] jU 25 Tryz.func101 fun E hE => ?_
 rcases zC hf0 with ⟨c0,hf0⟩ | ⟨c0,hf0⟩
 ·cases hf0
 ·obtain ⟨x__e,h0,hf0⟩:=zb hf0
  refine yJ X0 hC jU [1,1,1] [] [3] (fun z:Int => vU z = some r0) (fun z => Vx z) [(0,.d (eSl 1 false (eI .i64) x_)),(3,.d (I x__e))] [Ha (lnM (eI .i64) x_),Hq c0,Hi (eI .i64) h0,Hh (.cut 0)] ?_ fun J1 hJ1 => ?_
  ·rintro m_ hf0
   unfold vU at hf0
   obtain rfl:=z8 hf0
   exact yE X0 hC hE []
  ·obtain ⟨t2,ht2,hf0⟩:=zb hf0
   refine yL X0 hC jU [1,1,1,2,1,0] [J1] (fun s => ws x_ s.1 s.2) (fun x => Vw x_ x.1 x.2) (x__e,1) ht2  [] ?_
   rintro ⟨m_1,i_⟩ m2 lr1 hf1 hl1 J2 hJ2
   try unfold ws at hf1
   rcases zC hf1 with ⟨c1,hf1⟩ | ⟨c1,hf1⟩
   ·obtain ⟨x__e1,h1,hf1⟩:=zb hf1
    obtain rfl:=z8 hf1
    exact yB X0 hC hJ2 ((mx m_1 x__e1),w64 (i_ + 1)) hl1 [Ha (lnM (eI .i64) x_),Hq c1,Hi (eI .i64) h1]
   ·obtain rfl:=z8 hf1
    obtain rfl:=hl1
    exact yB X0 hC hJ1 m_1 hf0 [Ha (lnM (eI .i64) x_),Hq c1]
def QL:Code:=(Tryz.f99.body).getD .skip
def kq:zN:=spF (α:=z6) (ρ:=Bool) 99 (fun x => [z0b x]) (fun r => eB r) (fun x => kb x) [] (Wn)
theorem Ji {ctr:Ctr} (hC:zw Tryz.prog ctr) (h1d:ctr.Has Zn) (h1e:ctr.Has jA):kq.Ok Tryz.prog:=by
 refine zx ?_
 rintro x0 r0 hf0
 try unfold kb at hf0
 refine yO true [(1,none)] QL 17 Tryz.func99 fun E hE => ?_
 obtain ⟨r_,h0,hf0⟩:=zb hf0
 obtain ⟨r_1,h1,hf0⟩:=zb hf0
 obtain rfl:=z8 hf0
 exact yE X0 hC hE [Hc h1d (x:=x0) h0 (loC zI x0 <| loN),Hc h1e (x:=r_.1) h1 (loC F3_ r_.1 <| loN),Ha (lnM (eI .i64) r_.1)]
def W9:Code:=(Tryz.f36.body).getD .skip
def vn:zN:=spF (α:=z6) (ρ:=Int) 36 (fun x => [zI x]) (fun r => (eI .i64) r) (fun x => yV x) [] (Wn)
abbrev Ut:List (Nat × T):=[]
theorem Kh {ctr:Ctr} (hC:zw Tryz.prog ctr) (h02:ctr.Has xM) (h1f:ctr.Has Zs) (h1g:ctr.Has ku) (h1h:ctr.Has kr) (h1i:ctr.Has kq):vn.Ok Tryz.prog:=by
 refine zx ?_
 rintro m_ r0 hf0
 try unfold yV at hf0
 refine yO true [(2,none)] W9 23 Tryz.func36 fun E hE => ?_
 obtain ⟨r_,h0,hf0⟩:=zb hf0
 let Z0:List HO:=[Hc h02 (x:=m_) h0 (loC zI m_ <| loN)]
 rcases zC hf0 with ⟨c0,hf0⟩ | ⟨c0,hf0⟩
 ·obtain rfl:=z8 hf0
  exact yE X0 hC hE (Z0 ++ [Hq c0])
 ·refine yJ X0 hC W9 [1,1] [] [] (fun z:Unit => qg = some r0) (fun z => Ut) [(1,.own (.box (zI m_)))] (Z0 ++ [Hq c0,Hh (.cut 0)]) ?_ fun J1 hJ1 => ?_
  ·rintro ⟨⟩ hf0
   unfold qg at hf0
   obtain rfl:=z8 hf0
   exact yE X0 hC hE []
  ·obtain ⟨r_1,h1,hf0⟩:=zb hf0
   obtain ⟨r_2,h2,hf0⟩:=zb hf0
   let Z1:List HO:=[Hc h1f (x:=m_) h1 (loC zI m_ <| loN),Hh (.u 70),qT,Hc h1g (x:=r_1.1.2) h2 (loC z0b r_1.1.2 <| loN)]
   rcases zC hf0 with ⟨c1,hf0⟩ | ⟨c1,hf0⟩
   ·obtain rfl:=z8 hf0
    exact yE X0 hC hE (Z1 ++ [Hq c1])
   ·obtain ⟨r_3,h3,hf0⟩:=zb hf0
    let Z2:List HO:=(Z1 ++ [Hq c1,qT,Hc h1h (x:=r_1.2.1.2) h3 (loC z0b r_1.2.1.2 <| loN)])
    rcases zC hf0 with ⟨c2,hf0⟩ | ⟨c2,hf0⟩
    ·obtain rfl:=z8 hf0
     exact yE X0 hC hE (Z2 ++ [Hq c2])
    ·obtain ⟨r_4,h4,hf0⟩:=zb hf0
     let Z3:List HO:=(Z2 ++ [Hq c2,qT,Hc h1i (x:=r_1.2.2.2) h4 (loC z0b r_1.2.2.2 <| loN)])
     rcases zC hf0 with ⟨c3,hf0⟩ | ⟨c3,hf0⟩
     ·obtain rfl:=z8 hf0
      exact yE X0 hC hE (Z3 ++ [Hq c3])
     ·exact yB X0 hC hJ1 () hf0 (Z3 ++ [Hq c3,qF])
def z37:Code:=(Tryz.f51.body).getD .skip
def vo:zN:=spF (α:=Int) (ρ:=Int) 51 (fun x => [(eI .i64) x]) (fun r => (QK 80 (eSp (eI .i64))) r) (fun x => vb x) [] (Wn)
theorem z3w {ctr:Ctr} (hC:zw Tryz.prog ctr):vo.Ok Tryz.prog:=by
 refine zx ?_
 rintro n_ r0 hf0
 try unfold vb at hf0
 refine yO true [(2,none)] z37 4 Tryz.func51 fun E hE => ?_
 obtain rfl:=z8 hf0
 exact yE X0 hC hE []
def kn:Code:=(Tryz.f80.body).getD .skip
abbrev Jb {σ:Type} (x0:Int) (YY:σ → z4i) (x6:Int) (sg2:σ):List (Nat × T):=[(0,.own (.opq (YY sg2).q)),(1,.d (.sptr (I x0))),(5,.d (I x0)),(6,.d (I x6))]
abbrev J0 {σ:Type} (x0:Int) (YY:σ → z4i) (x6:Int) (sg3:σ) (b_:Int):List (Nat × T):=[(0,.own (.opq (YY sg3).q)),(1,.d (.sptr (I x0))),(3,.d (I x6)),(4,.d (I b_)),(5,.d (I x0)),(6,.d (I x6))]
abbrev Ja {σ:Type} (x0:Int) (YY:σ → z4i) (sg1:σ) (x6:Int):List (Nat × T):=[(0,.own (.opq (YY sg1).q)),(1,.d (.sptr (I x0))),(5,.d (I x0)),(6,.d (I x6))]
theorem kG {ctr:Ctr} (hC:zw Tryz.prog ctr) (x0:Int):z7p Tryz.prog (.fn 80 [.sptr (I x0)]) (fun (x:Int × Int) (_:Bool) (_:Value) => [(eI .i64) x.1,(eI .i64) x.2]) (@yW x0):=by
 refine z4X (tt:=yN) (nt:=22) (body:=kn) zy Tryz.func80 rfl (by kernel_rfl) rfl rfl (by show (2:Nat) ≤ 22; decide) ?_
 intro σ yv YY yy hy sg r0 hf0 E hE
 unfold yW at hf0
 obtain ⟨t1,ht1,hf0⟩:=zb hf0
 refine yL X0 hC kn [1,0] [] (fun s => kh x0 yy s.1 s.2) (fun x => Ja x0 YY x.1 x.2) (sg,0) ht1  [] ?_
 rintro ⟨sg1,x6⟩ m1 lr1 hf1 hl1 J1 hJ1
 try unfold kh at hf1
 rcases zC hf1 with ⟨c0,hf1⟩ | ⟨c0,hf1⟩
 ·refine yJ X0 hC kn [1,0,0,1,1] [J1] [0,1,5,6] (fun z:σ => ki x6 z = some lr1) (fun z => Jb x0 YY x6 z) [(0,.own (.opq (YY sg1).q)),(1,.d (.sptr (I x0))),(5,.d (I x0)),(6,.d (I x6))] [Hq c0,Hh (.cut 0)] ?_ fun J2 hJ2 => ?_
  ·rintro sg2 hf1
   unfold ki at hf1
   obtain rfl:=z8 hf1
   exact yB X0 hC hJ1 (sg2,w64 (x6 + 1)) hl1 []
  ·obtain ⟨t3,ht3,hf1⟩:=zb hf1
   refine yL X0 hC kn [1,0,0,1,1,2,0,1,1,0] [J1,J2] (fun s => uQ x0 yy x6 s.1 s.2) (fun x => J0 x0 YY x6 x.1 x.2) (sg1,w64 (x6 + 1)) ht3  [] ?_
   rintro ⟨sg3,b_⟩ m3 lr2 hf2 hl2 J3 hJ3
   try unfold uQ at hf2
   rcases zC hf2 with ⟨c1,hf2⟩ | ⟨c1,hf2⟩
   ·obtain ⟨yr,h0,hf2⟩:=zb hf2
    let Z0:List HO:=[Hq c1,Hn (z4A (yv:=yv) (Y:=YY) (enc:=(fun (x:Int × Int) (_:Bool) (_:Value) => [(eI .i64) x.1,(eI .i64) x.2])) (s:=sg3) (x:=(x6,b_)) (s':=yr.1) (b:=yr.2) (v:=.nilFunc) [(eI .i64) x6,(eI .i64) b_] (show z09 [(eI .i64) x6,(eI .i64) b_] [(eI .i64) x6,(eI .i64) b_] from inferInstance))]
    rcases zC hf2 with ⟨c2,hf2⟩ | ⟨c2,hf2⟩
    ·obtain rfl:=z8 hf2
     obtain rfl:=hl2
     obtain rfl:=z8 hf1
     obtain rfl:=hl1
     obtain rfl:=z8 hf0
     exact yF ((Kc (P:=Tryz.prog) yN hy 19 (s:=sg3) (x:=(x6,b_)) (s':=yr.1) (b:=yr.2) .nilFunc h0).or X0) hC .ret [(0,.own (.opq (YY yr.1).q))] (Z0 ++ [Hq c2]) fun st0 h0 => hE _ st0 (.inr rfl) h0
    ·obtain rfl:=z8 hf2
     exact yB ((Kc (P:=Tryz.prog) yN hy 19 (s:=sg3) (x:=(x6,b_)) (s':=yr.1) (b:=yr.2) .nilFunc h0).or X0) hC hJ3 (yr.1,w64 (b_ + 1)) hl2 (Z0 ++ [Hq c2])
   ·obtain rfl:=z8 hf2
    obtain rfl:=hl2
    exact yB X0 hC hJ2 sg3 hf1 [Hq c1]
 ·obtain rfl:=z8 hf1
  obtain rfl:=hl1
  obtain rfl:=z8 hf0
  exact yF X0 hC .normal [(0,.own (.opq (YY sg1).q))] [Hq c0] fun st0 h0 => hE _ st0 (.inl rfl) h0
def z3a:Code:=(Tryz.f38.body).getD .skip
def XQ:zN:=spF (α:=Int × Int) (ρ:=Bool) 38 (fun x => [(eI .i64) x.1,(eI .i64) x.2]) (fun r => eB r) (fun x => WL x.1 x.2) [] (VA)
theorem z3z {ctr:Ctr} (hC:zw Tryz.prog ctr):XQ.Ok Tryz.prog:=by
 refine zx ?_
 rintro ⟨a_,b_⟩ r0 hf0
 try unfold WL at hf0
 refine yO true [(4,none)] z3a 5 Tryz.func38 fun E hE => ?_
 obtain rfl:=z8 hf0
 exact yE X0 hC hE []
def z0E:Code:=(Tryz.f131.body).getD .skip
def uz:zN:=spF (α:=Int × z6) (ρ:=Bool) 131 (fun x => [(eI .i64) x.1,z0b x.2]) (fun r => eB r) (fun x => ky x.1 x.2) [] (VA)
theorem z1p {ctr:Ctr} (hC:zw Tryz.prog ctr):uz.Ok Tryz.prog:=by
 refine zx ?_
 rintro ⟨s_,x1⟩ r0 hf0
 try unfold ky at hf0
 refine yO true [(3,none)] z0E 13 Tryz.func131 fun E hE => ?_
 rcases zC hf0 with ⟨c0,hf0⟩ | ⟨c0,hf0⟩
 ·obtain rfl:=z8 hf0
  exact yE X0 hC hE (rpN 6 (Hq c0) [])
 ·obtain rfl:=z8 hf0
  exact yE X0 hC hE (rpN 4 (Hq c0) [Ha (lnM wS x1.Rows),Hq c0,Hq c0])
def wj:Code:=(Tryz.f149.body).getD .skip
def uA:zN:=spF (α:=List Int × z6) (ρ:=Int) 149 (fun x => [F3_ x.1,(QK 131 z0b) x.2]) (fun r => (eI .i64) r) (fun x => yD x.1 x.2) [] (by
 rintro ⟨a0,a1⟩ ⟨b0,b1⟩ h
 have e0:=Y6.inj (f:=F3_) _ _ (List.cons.inj h).1
 replace h:=(List.cons.inj h).2
 have e1:=Y6.inj (f:=(QK 131 z0b)) _ _ (List.cons.inj h).1
 subst e0 e1
 rfl)
abbrev Zj:List (Nat × T):=[]
abbrev Zi (s_:List Int) (f_:z6) (x8:Int):List (Nat × T):=[(0,.d (eSl 1 false (eI .i64) s_)),(1,.d (.fn 131 [.sptr (.agg [I f_.Inputs,I f_.Outputs,eSl 1 false wS f_.Rows])])),(7,.d (I ((s_.length:Nat):Int))),(8,.d (I x8))]
theorem YE {ctr:Ctr} (hC:zw Tryz.prog ctr) (h0b:ctr.Has uz):uA.Ok Tryz.prog:=by
 refine zx ?_
 rintro ⟨s_,f_⟩ r0 hf0
 try unfold yD at hf0
 refine yO true [(4,none)] wj 19 Tryz.func149 fun E hE => ?_
 refine yJ X0 hC wj [1] [] [] (fun z:Unit => wg = some r0) (fun z => Zj) [(0,.d (eSl 1 false (eI .i64) s_)),(1,.d (.fn 131 [.sptr (.agg [I f_.Inputs,I f_.Outputs,eSl 1 false wS f_.Rows])]))] [Hh (.cut 1)] ?_ fun J1 hJ1 => ?_
 ·rintro ⟨⟩ hf0
  unfold wg at hf0
  obtain rfl:=z8 hf0
  exact yE X0 hC hE []
 ·obtain ⟨t2,ht2,hf0⟩:=zb hf0
  refine yL X0 hC wj [1,2,1,0] [J1] (fun s => zZ s_ f_ s) (fun x => Zi s_ f_ x) 0 ht2  [Ha (lnM (eI .i64) s_)] ?_
  rintro x8 m2 lr1 hf1 hl1 J2 hJ2
  try unfold zZ at hf1
  rcases zC hf1 with ⟨c0,hf1⟩ | ⟨c0,hf1⟩
  ·obtain ⟨s__e,h0,hf1⟩:=zb hf1
   obtain ⟨r_,h1,hf1⟩:=zb hf1
   let Z0:List HO:=[Hq c0,Hi (eI .i64) h0,Hc h0b (x:=(s__e,f_)) h1 (loC (eI .i64) s__e <| loC z0b f_ <| loN)]
   rcases zC hf1 with ⟨c1,hf1⟩ | ⟨c1,hf1⟩
   ·obtain rfl:=z8 hf1
    obtain rfl:=hl1
    obtain rfl:=z8 hf0
    exact yE X0 hC hE (Z0 ++ [Hq c1])
   ·obtain rfl:=z8 hf1
    exact yB X0 hC hJ2 (w64 (x8 + 1)) hl1 (Z0 ++ [Hq c1])
  ·obtain rfl:=z8 hf1
   obtain rfl:=hl1
   exact yB X0 hC hJ1 () hf0 [Hq c0]
def Zh:Code:=(Tryz.f130.body).getD .skip
def vI:zN:=spF (α:=List Int × z6) (ρ:=Bool) 130 (fun x => [F3_ x.1,(QK 131 z0b) x.2]) (fun r => eB r) (fun x => xa x.1 x.2) [] (by
 rintro ⟨a0,a1⟩ ⟨b0,b1⟩ h
 have e0:=Y6.inj (f:=F3_) _ _ (List.cons.inj h).1
 replace h:=(List.cons.inj h).2
 have e1:=Y6.inj (f:=(QK 131 z0b)) _ _ (List.cons.inj h).1
 subst e0 e1
 rfl)
theorem vR {ctr:Ctr} (hC:zw Tryz.prog ctr) (h0b:ctr.Has uz):vI.Ok Tryz.prog:=by
 refine zx ?_
 rintro ⟨s_,f_⟩ r0 hf0
 try unfold xa at hf0
 refine yO true [(4,none)] Zh 9 Tryz.func130 fun E hE => ?_
 obtain ⟨r_,h0,hf0⟩:=zb hf0
 obtain rfl:=z8 hf0
 exact yE ((z1n zy (YE hC h0b) 7).or X0) hC hE [Hc (Ctr.add_has Jf uA) (x:=(s_,f_)) h0 (loC F3_ s_ <| loC (QK 131 z0b) f_ <| loN)]
def z32:Code:=(Tryz.f102.body).getD .skip
def XE:zN:=spF (α:=z6 × List Int) (ρ:=Int) 102 (fun x => [zI x.1,F3_ x.2]) (fun r => (eI .i64) r) (fun x => YG x.1 x.2) [] (VA)
theorem z3m {ctr:Ctr} (hC:zw Tryz.prog ctr) (h02:ctr.Has xM) (h0b:ctr.Has uz):XE.Ok Tryz.prog:=by
 refine zx ?_
 rintro ⟨m_,l_⟩ r0 hf0
 try unfold YG at hf0
 refine yO true [(4,none)] z32 14 Tryz.func102 fun E hE => ?_
 obtain ⟨r_,h0,hf0⟩:=zb hf0
 let Z0:List HO:=[Hc h02 (x:=m_) h0 (loC zI m_ <| loN)]
 rcases zC hf0 with ⟨c0,hf0⟩ | ⟨c0,hf0⟩
 ·obtain rfl:=z8 hf0
  exact yE X0 hC hE (Z0 ++ [Hq c0])
 ·obtain ⟨r_1,h1,hf0⟩:=zb hf0
  let Z1:List HO:=(Z0 ++ [Hq c0,Hc (Ctr.add_has Jf vI) (x:=(l_,m_)) h1 (loC F3_ l_ <| loC (QK 131 z0b) m_ <| loN)])
  rcases zC hf0 with ⟨c1,hf0⟩ | ⟨c1,hf0⟩
  ·obtain rfl:=z8 hf0
   exact yE ((z1n zy (vR hC h0b) 13).or X0) hC hE (Z1 ++ [Hq c1])
  ·obtain rfl:=z8 hf0
   exact yE ((z1n zy (vR hC h0b) 13).or X0) hC hE (Z1 ++ [Hq c1])
def z33:Code:=(Tryz.f132.body).getD .skip
def XF:zN:=spF (α:=z6) (ρ:=z6) 132 (fun x => [zI x]) (fun r => (QK 150 z0b) r) (fun x => WD x) [] (Wn)
theorem z3n {ctr:Ctr} (hC:zw Tryz.prog ctr):XF.Ok Tryz.prog:=by
 refine zx ?_
 rintro m_ r0 hf0
 try unfold WD at hf0
 refine yO true [(2,none)] z33 4 Tryz.func132 fun E hE => ?_
 obtain rfl:=z8 hf0
 exact yE X0 hC hE []
def kl:Code:=(Tryz.f150.body).getD .skip
abbrev QT {σ:Type} (x0:z6) (YY:σ → z4i) (x8:Int) (sg2:σ):List (Nat × T):=[(0,.own (.opq (YY sg2).q)),(1,.d (.sptr (zI x0))),(7,.d (I ((x0.Rows.length:Nat):Int))),(8,.d (I x8))]
abbrev QR {σ:Type} (x0:z6) (YY:σ → z4i) (x8:Int) (sg3:σ) (t_:Int):List (Nat × T):=[(0,.own (.opq (YY sg3).q)),(1,.d (.sptr (zI x0))),(3,.d (I x8)),(4,.d (I t_)),(7,.d (I ((x0.Rows.length:Nat):Int))),(8,.d (I x8))]
abbrev QS {σ:Type} (x0:z6) (YY:σ → z4i) (sg1:σ) (x8:Int):List (Nat × T):=[(0,.own (.opq (YY sg1).q)),(1,.d (.sptr (zI x0))),(7,.d (I ((x0.Rows.length:Nat):Int))),(8,.d (I x8))]
theorem z1q {ctr:Ctr} (hC:zw Tryz.prog ctr) (x0:z6):z7p Tryz.prog (.fn 150 [.sptr (.agg [I x0.Inputs,I x0.Outputs,eSl 1 false wS x0.Rows])]) (fun (x:Int × Int) (_:Bool) (_:Value) => [(eI .i64) x.1,(eI .i64) x.2]) (@ug x0):=by
 refine z4X (tt:=yN) (nt:=26) (body:=kl) zy Tryz.func150 rfl (by kernel_rfl) rfl rfl (by show (2:Nat) ≤ 26; decide) ?_
 intro σ yv YY yy hy sg r0 hf0 E hE
 unfold ug at hf0
 obtain ⟨t1,ht1,hf0⟩:=zb hf0
 refine yL X0 hC kl [1,0] [] (fun s => jY x0 yy s.1 s.2) (fun x => QS x0 YY x.1 x.2) (sg,0) ht1  [Ha (lnM wS x0.Rows)] ?_
 rintro ⟨sg1,x8⟩ m1 lr1 hf1 hl1 J1 hJ1
 try unfold jY at hf1
 rcases zC hf1 with ⟨c0,hf1⟩ | ⟨c0,hf1⟩
 ·refine yJ X0 hC kl [1,0,0,1,1] [J1] [0,1,7,8] (fun z:σ => jZ x8 z = some lr1) (fun z => QT x0 YY x8 z) [(0,.own (.opq (YY sg1).q)),(1,.d (.sptr (zI x0))),(7,.d (I ((x0.Rows.length:Nat):Int))),(8,.d (I x8))] [Hq c0,Hh (.cut 0)] ?_ fun J2 hJ2 => ?_
  ·rintro sg2 hf1
   unfold jZ at hf1
   obtain rfl:=z8 hf1
   exact yB X0 hC hJ1 (sg2,w64 (x8 + 1)) hl1 []
  ·obtain ⟨t3,ht3,hf1⟩:=zb hf1
   refine yL X0 hC kl [1,0,0,1,1,2,0,1,1,0] [J1,J2] (fun s => uu x0 yy x8 s.1 s.2) (fun x => QR x0 YY x8 x.1 x.2) (sg1,w64 (x8 + 1)) ht3  [] ?_
   rintro ⟨sg3,t_⟩ m3 lr2 hf2 hl2 J3 hJ3
   try unfold uu at hf2
   let Z0:List HO:=[Ha (lnM wS x0.Rows)]
   rcases zC hf2 with ⟨c1,hf2⟩ | ⟨c1,hf2⟩
   ·obtain ⟨yr,h0,hf2⟩:=zb hf2
    let Z1:List HO:=(Z0 ++ [Hq c1,Hn (z4A (yv:=yv) (Y:=YY) (enc:=(fun (x:Int × Int) (_:Bool) (_:Value) => [(eI .i64) x.1,(eI .i64) x.2])) (s:=sg3) (x:=(x8,t_)) (s':=yr.1) (b:=yr.2) (v:=.nilFunc) [(eI .i64) x8,(eI .i64) t_] (show z09 [(eI .i64) x8,(eI .i64) t_] [(eI .i64) x8,(eI .i64) t_] from inferInstance))])
    rcases zC hf2 with ⟨c2,hf2⟩ | ⟨c2,hf2⟩
    ·obtain rfl:=z8 hf2
     obtain rfl:=hl2
     obtain rfl:=z8 hf1
     obtain rfl:=hl1
     obtain rfl:=z8 hf0
     exact yF ((Kc (P:=Tryz.prog) yN hy 23 (s:=sg3) (x:=(x8,t_)) (s':=yr.1) (b:=yr.2) .nilFunc h0).or X0) hC .ret [(0,.own (.opq (YY yr.1).q))] (Z1 ++ [Hq c2]) fun st0 h0 => hE _ st0 (.inr rfl) h0
    ·obtain rfl:=z8 hf2
     exact yB ((Kc (P:=Tryz.prog) yN hy 23 (s:=sg3) (x:=(x8,t_)) (s':=yr.1) (b:=yr.2) .nilFunc h0).or X0) hC hJ3 (yr.1,w64 (t_ + 1)) hl2 (Z1 ++ [Hq c2])
   ·obtain rfl:=z8 hf2
    obtain rfl:=hl2
    exact yB X0 hC hJ2 sg3 hf1 (Z0 ++ [Hq c1])
 ·obtain rfl:=z8 hf1
  obtain rfl:=hl1
  obtain rfl:=z8 hf0
  exact yF X0 hC .normal [(0,.own (.opq (YY sg1).q))] [Hq c0] fun st0 h0 => hE _ st0 (.inl rfl) h0
def xj:zN:=spR (α:=List Int × Int) (ρ:=List Int) 168 (fun x:List Int × Int => [F2_ x.1,(eI .i64) x.2]) (fun r:List Int => F4_ r) (fun x:List Int × Int => xV x.1 x.2) [] (VA)
theorem Wr:∀ x r,(fun x:List Int × Int => xV x.1 x.2) x = some r → (Jf.add xj).run 168 ((Jf.add xj).norm 168 ((fun x:List Int × Int => [F2_ x.1,(eI .i64) x.2]) x)) = some ((fun r:List Int => F4_ r) r):=fun x r h => zka (F:=fun x:List Int × Int => xV x.1 x.2) (x:=x) h rfl
theorem Wt:(Jf.add xj).lend 168 = none ∧ (Jf.add xj).gives 168 = []:=zeY
theorem WQ {ctr:Ctr} (hC:zw Tryz.prog ctr):xj.Ok Tryz.prog:=by
 refine z9g ?_
 rintro ⟨l,n⟩ r0 hf0
 cases l with
 | cons a l => cases hf0
 | nil =>
  have h1:0 < n ∧ n ≤ 1000000:=by
   have h2:(decide (0 < n) && decide (n ≤ 1000000)) = true:=by
    cases h:(decide (0 < n) && decide (n ≤ 1000000)) with
    | true => rfl
    | false => have h3:(bif (true && (decide (0 < n) && decide (n ≤ 1000000))) then some [] else none) = some r0:=hf0; rw [h] at h3; cases h3
   simpa using h2
  have h3:(bif (true && (decide (0 < n) && decide (n ≤ 1000000))) then some ([]:List Int) else none) = some r0:=hf0
  rw [decide_eq_true h1.1,decide_eq_true h1.2] at h3
  cases h3
  exact zah n h1.1 h1.2
def xP:Code:=(Tryz.f151.body).getD .skip
def wC:zN:=spF (α:=List (List Int)) (ρ:=List Int) 151 (fun x => [w8 x]) (fun r => F4_ r) (fun x => wt x) [] (Wn)
abbrev We (newslice:List Int):List (Nat × T):=[(6,.own (eOs 1 false (eI .i64) newslice))]
abbrev Wc (slices:List (List Int)) (newslice1:List Int) (x27:Int):List (Nat × T):=[(6,.own (eOs 1 false (eI .i64) newslice1)),(25,.d (eSl 1 false F3_ slices)),(26,.d (I ((slices.length:Nat):Int))),(27,.d (I x27))]
abbrev Wf (slices:List (List Int)) (size:Int):List (Nat × T):=[(0,.d (eSl 1 false F3_ slices)),(3,.d (I size))]
abbrev Wb (slices:List (List Int)) (size1:Int) (x11:Int):List (Nat × T):=[(0,.d (eSl 1 false F3_ slices)),(3,.d (I size1)),(9,.d (eSl 1 false F3_ slices)),(10,.d (I ((slices.length:Nat):Int))),(11,.d (I x11))]
theorem VB {ctr:Ctr} (hC:zw Tryz.prog ctr):wC.Ok Tryz.prog:=by
 refine zx ?_
 rintro slices r0 hf0
 try unfold wt at hf0
 refine yO true [(2,none)] xP 36 Tryz.func151 fun E hE => ?_
 refine yJ X0 hC xP [1,1] [] [0,3] (fun z:Int => wG slices z = some r0) (fun z => Wf slices z) [(0,.d (eSl 1 false F3_ slices)),(3,.d (I 0))] [Hh (.cut 2)] ?_ fun J1 hJ1 => ?_
 ·rintro size hf0
  unfold wG at hf0
  obtain ⟨r_,h0,hf0⟩:=zb hf0
  refine yJ ((z1n zy (WQ hC) 24).or X0) hC xP [1,1,1,1] [] [6] (fun z:List Int => wF z = some r0) (fun z => We z) [(0,.d (eSl 1 false F3_ slices)),(6,.own (eOs 1 false (eI .i64) r_))] [Hh (.g []),Hn Wt,Hx (.a (F4_ r_)) (Wr ([],size) _ h0),Hh (.cut 0)] ?_ fun J2 hJ2 => ?_
  ·rintro newslice hf0
   unfold wF at hf0
   obtain rfl:=z8 hf0
   exact yE X0 hC hE []
  ·obtain ⟨t3,ht3,hf0⟩:=zb hf0
   refine yL X0 hC xP [1,1,1,1,2,1,0] [J2] (fun s => zK slices s.1 s.2) (fun x => Wc slices x.1 x.2) (r_,0) ht3  [Ha (lnM F3_ slices)] ?_
   rintro ⟨newslice1,x27⟩ m3 lr1 hf1 hl1 J3 hJ3
   try unfold zK at hf1
   rcases zC hf1 with ⟨c0,hf1⟩ | ⟨c0,hf1⟩
   ·obtain ⟨slice_e,h1,hf1⟩:=zb hf1
    obtain ⟨g0,hf1⟩:=gdE hf1
    obtain rfl:=z8 hf1
    exact yB X0 hC hJ3 ((newslice1 ++ slice_e),w64 (x27 + 1)) hl1 [Hq c0,Hi F3_ h1,Hn (dM (eI .i64) slice_e),Hn (aL (eI .i64) (eI .i64) g0),Hl (aM (eI .i64) newslice1 slice_e)]
   ·obtain rfl:=z8 hf1
    obtain rfl:=hl1
    exact yB X0 hC hJ2 newslice1 hf0 [Hq c0]
 ·obtain ⟨t4,ht4,hf0⟩:=zb hf0
  refine yL X0 hC xP [1,1,2,1,0] [J1] (fun s => zJ slices s.1 s.2) (fun x => Wb slices x.1 x.2) (0,0) ht4  [Ha (lnM F3_ slices)] ?_
  rintro ⟨size1,x11⟩ m4 lr1 hf1 hl1 J4 hJ4
  try unfold zJ at hf1
  rcases zC hf1 with ⟨c1,hf1⟩ | ⟨c1,hf1⟩
  ·obtain ⟨slice_e1,h2,hf1⟩:=zb hf1
   let Z0:List HO:=[Hq c1,Hi F3_ h2,Ha (lnM (eI .i64) slice_e1)]
   rcases zC hf1 with ⟨c2,hf1⟩ | ⟨c2,hf1⟩
   ·cases hf1
   ·obtain rfl:=z8 hf1
    exact yB X0 hC hJ4 (w64 (size1 + ((slice_e1.length:Nat):Int)),w64 (x11 + 1)) hl1 (Z0 ++ [Hq c2])
  ·obtain rfl:=z8 hf1
   obtain rfl:=hl1
   exact yB X0 hC hJ1 size1 hf0 [Hq c1]
def Ul:Code:=(Tryz.f58.body).getD .skip
def yC:zN:=spF (α:=List Int) (ρ:=List Int) 58 (fun x => [F3_ x]) (fun r => F2_ r) (fun x => yb x) [] (Wn)
theorem UF {ctr:Ctr} (hC:zw Tryz.prog ctr):yC.Ok Tryz.prog:=by
 refine zx ?_
 rintro s_ r0 hf0
 try unfold yb at hf0
 refine yO true [(2,none)] Ul 9 Tryz.func58 fun E hE => ?_
 obtain ⟨g0,hf0⟩:=gdE hf0
 obtain rfl:=z8 hf0
 exact yE X0 hC hE [Ha (lnM (eI .i64) s_),Ha (lnM (eI .i64) s_),Hn (slB g0),Hn (slC g0),Hn (zgu (eI .i64) g0),Ha (zln 1 (eI .i64) s_ 0 ((s_.length:Nat):Int).toNat)]
def w6:Code:=(Tryz.f133.body).getD .skip
abbrev Ue (n_:Int) (f_:ArN 64 (ArN 64 (List Int))) (out:List Int):List (Nat × T):=[(0,.own (.box (xT 64 (xT 64 (eNl 1 (eI .i64))) f_))),(4,.d (I n_)),(11,.own (eOs 1 false (eI .i64) out))]
abbrev Ud (m_:z6) (t_:Int) (n_:Int) (f_:ArN 64 (ArN 64 (List Int))) (Row_e:List zh) (x21:Int):List (Nat × T):=[(0,.own (.box (xT 64 (xT 64 (eNl 1 (eI .i64))) f_))),(3,.d (I t_)),(4,.d (I n_)),(6,.own (.box (zI m_))),(11,.own (eOs 1 true (eI .i64) [])),(19,.d (eSl 2 false F6_ Row_e)),(20,.d (I ((Row_e.length:Nat):Int))),(21,.d (I x21))]
abbrev Uc (m_:z6) (t_:Int) (n_:Int) (f_:ArN 64 (ArN 64 (List Int))) (Row_e:List zh) (x21:Int):List (Nat × T):=[(0,.own (.box (xT 64 (xT 64 (eNl 1 (eI .i64))) f_))),(3,.d (I t_)),(4,.d (I n_)),(6,.own (.box (zI m_))),(11,.own (eOs 1 true (eI .i64) [])),(19,.d (eSl 2 false F6_ Row_e)),(20,.d (I ((Row_e.length:Nat):Int))),(21,.d (I x21))]
theorem Xx {ctr:Ctr} (hC:zw Tryz.prog ctr) (h0e:ctr.Has wC) (h01:ctr.Has yC) (cv0:Value):∀ (m_:z6) (s_:Int) (t_:Int) (n_:Int) (f_:ArN 64 (ArN 64 (List Int))) (r0:List Int × ArN 64 (ArN 64 (List Int))),uv m_ s_ t_ n_ f_ = some r0 → kp Tryz.prog (.fn 133 []) [.atom cv0,.agg [I m_.Inputs,I m_.Outputs,eSl 1 false wS m_.Rows],I s_,I t_,I n_] ([cv0].zip [.box (xT 64 (xT 64 (eNl 1 (eI .i64))) f_)]) (eNl 1 (eI .i64) r0.1) [.box (xT 64 (xT 64 (eNl 1 (eI .i64))) r0.2)]:=by
 intro m_ s_ t_ n_ f_ r0 hf0
 refine za8 (tt:=yN) (nt:=85) (body:=w6) [0] zy Tryz.func133 rfl (by kernel_rfl) rfl rfl (by show (5:Nat) ≤ 85; decide) (by decide) rfl rfl rfl rfl (fun E hG hE => ?_) rfl
 unfold uv at hf0
 refine yA ((xRe Tryz.prog 10 (.atom (.slice none 0 0)) (eNl 1 (eI .i64) ([]:List Int)) (zdj 1)).or ((Kd zy (.inl 76) [66]).or X0)) hC w6 [1] [] [(0,.own (.box (xT 64 (xT 64 (eNl 1 (eI .i64))) f_))),(2,.d (I s_)),(3,.d (I t_)),(4,.d (I n_)),(6,.own (.box (zI m_)))] [Hn (rfl:T.d (.atom (.slice none 0 0)) = T.d (.atom (.slice none 0 0)))] ?_
 refine z8n (c':=(sub [1,0] w6)) (by kernel_rfl) hG ?_
 refine yJ ((Kd zy (.inl 76) [66]).or X0) hC w6 [1,0,1,1] [] [0,4,11] (fun z:List Int => uq n_ f_ z = some r0) (fun z => Ue n_ f_ z) [(0,.own (.box (xT 64 (xT 64 (eNl 1 (eI .i64))) f_))),(2,.d (I s_)),(3,.d (I t_)),(4,.d (I n_)),(6,.own (.box (zI m_))),(11,.own (eOs 1 true (eI .i64) []))] [Hh (.cut 2)] ?_ fun J1 hJ1 => ?_
 ·rintro out hf0
  unfold uq at hf0
  rcases zC hf0 with ⟨c0,hf0⟩ | ⟨c0,hf0⟩
  ·obtain rfl:=z8 hf0
   exact yF ((xRe Tryz.prog 10 (.atom (.slice none 0 0)) (eNl 1 (eI .i64) ([]:List Int)) (zdj 1)).or ((Kd zy (.inl 76) [66]).or X0)) hC .ret [(0,.own (.box (xT 64 (xT 64 (eNl 1 (eI .i64))) f_))),(10,.d (eNl 1 (eI .i64) ([]:List Int)))] [Ha (lnM (eI .i64) out),Hq c0,Hn (rfl:T.d (.atom (.slice none 0 0)) = T.d (.atom (.slice none 0 0)))] fun st0 h0 => hE _ st0 (.inr rfl) (Jr h0 ⟨⟨rfl,rfl⟩,trivial⟩) (zlM h0 rfl rfl)
  ·obtain ⟨r_,h0,hf0⟩:=zb hf0
   obtain ⟨g0,hf0⟩:=gdE hf0
   obtain rfl:=z8 hf0
   exact yF ((xRe Tryz.prog 10 (eSl 1 true (eI .i64) r_) (eNl 1 (eI .i64) r_) (fun S v q => (LeA.slNl 1 true (eI .i64) g0).repV q)).or ((Kd zy (.inl 76) [66]).or X0)) hC .ret [(0,.own (.box (xT 64 (xT 64 (eNl 1 (eI .i64))) f_))),(10,.d (eNl 1 (eI .i64) r_))] [Ha (lnM (eI .i64) out),Hq c0,Hg (z1T h01),Hm (shM (eI .i64) (eI .i64) out),Hs (z1U h01 (x:=out) h0 (loC F3_ out <| loN)),Hm (shM (eI .i64) (eI .i64) out),Hn (rfl:T.d (eSl 1 true (eI .i64) r_) = T.d (eSl 1 true (eI .i64) r_))] fun st0 h0 => hE _ st0 (.inr rfl) (Jr h0 ⟨⟨rfl,rfl⟩,trivial⟩) (zlM h0 rfl rfl)
 ·obtain ⟨Row_e,h1,hf0⟩:=zb hf0
  obtain ⟨t2,ht2,hf0⟩:=zb hf0
  refine yL ((Kd zy (.inl 76) [66]).or X0) hC w6 [1,0,1,1,2,1,0] [J1] (fun s => wR m_ t_ n_ f_ Row_e s) (fun x => Uc m_ t_ n_ f_ Row_e x) 0 ht2  [Hi wS h1,Ha (lnM F6_ Row_e)] ?_
  rintro x21 m2 lr1 hf1 hl1 J2 hJ2
  try unfold wR at hf1
  rcases zC hf1 with ⟨c1,hf1⟩ | ⟨c1,hf1⟩
  ·refine yJ ((Kd zy (.inl 76) [66]).or X0) hC w6 [1,0,1,1,2,1,0,0,1,1] [J1,J2] [0,3,4,6,11,19,20,21] (fun z:Unit => xZ x21 = some lr1) (fun z => Ud m_ t_ n_ f_ Row_e x21) [(0,.own (.box (xT 64 (xT 64 (eNl 1 (eI .i64))) f_))),(3,.d (I t_)),(4,.d (I n_)),(6,.own (.box (zI m_))),(11,.own (eOs 1 true (eI .i64) [])),(19,.d (eSl 2 false F6_ Row_e)),(20,.d (I ((Row_e.length:Nat):Int))),(21,.d (I x21))] [Hq c1,Hh (.cut 0)] ?_ fun J3 hJ3 => ?_
   ·rintro ⟨⟩ hf1
    unfold xZ at hf1
    obtain rfl:=z8 hf1
    exact yB ((Kd zy (.inl 76) [66]).or X0) hC hJ2 (w64 (x21 + 1)) hl1 []
   ·obtain ⟨Row_e_e,h2,hf1⟩:=zb hf1
    obtain ⟨Row_e1,h3,hf1⟩:=zb hf1
    obtain ⟨Row_e_e1,h4,hf1⟩:=zb hf1
    let Z0:List HO:=[Hi F6_ h2,Hi wS h3,Hi F6_ h4]
    rcases zC hf1 with ⟨c2,hf1⟩ | ⟨c2,hf1⟩
    ·obtain rfl:=z8 hf1
     obtain rfl:=hl1
     exact yBx ((Kd zy (.inl 76) [66]).or X0) hC hJ1 ([x21]:List Int) hf0 [(0,.own (.box (xT 64 (xT 64 (eNl 1 (eI .i64))) f_))),(4,.d (I n_)),(11,.own (eOs 1 true (eI .i64) ([x21])))] inferInstance (Z0 ++ [Hq c2])
    ·rcases zC hf1 with ⟨c3,hf1⟩ | ⟨c3,hf1⟩
     ·let Z1:List HO:=(Z0 ++ (Hq c2 :: (rpN 4 (Hq c3) [])))
      rcases zC hf1 with ⟨c4,hf1⟩ | ⟨c4,hf1⟩
      ·obtain ⟨cell,h5,hf1⟩:=zb hf1
       obtain ⟨cell1,h6,hf1⟩:=zb hf1
       let Z2:List HO:=(Z1 ++ (rpN 7 (Hq c4) (Hn (⟨Ug (by kernel_rfl) f_ (i0 h5),(iL (xT 64 (eNl 1 (eI .i64))) h5).2⟩:Y7 yN 154 ((f_.l).map (xT 64 (eNl 1 (eI .i64)))) Row_e_e.To = true ∧ Row_e_e.To.toNat < ((f_.l).map (xT 64 (eNl 1 (eI .i64)))).length) :: Hq c4 :: Hh (.f) :: Hs (iM (xT 64 (eNl 1 (eI .i64))) h5) :: Hn (⟨Ug (by kernel_rfl) cell (i0 h6),(iL (eNl 1 (eI .i64)) h6).2⟩:Y7 yN 125 ((cell.l).map (eNl 1 (eI .i64))) Row_e_e1.To = true ∧ Row_e_e1.To.toNat < ((cell.l).map (eNl 1 (eI .i64))).length) :: Hq c4 :: Hh (.f) :: Hs (iM (xT 64 (eNl 1 (eI .i64))) h5) :: Hh (.f) :: Hs (iM (eNl 1 (eI .i64)) h6) :: Hn (rfl:T.d (eNl 1 (eI .i64) cell1) = T.d (eNl 1 (eI .i64) cell1)) :: Hq c4 :: Ha (lnM (eI .i64) cell1) :: (rpN 4 (Hq c4) []))))
       rcases zC hf1 with ⟨c5,hf1⟩ | ⟨c5,hf1⟩
       ·obtain ⟨cell2,h7,hf1⟩:=zb hf1
        obtain ⟨cell3,h8,hf1⟩:=zb hf1
        obtain ⟨r_1,h9,hf1⟩:=zb hf1
        obtain rfl:=z8 hf1
        obtain rfl:=hl1
        exact yB ((xLs zy 75 (eNl 1 (eI .i64) cell3) (eSl 1 false (eI .i64) cell3) inferInstance).or ((xBl zy 66).or ((xLs zy 59 (eNl 1 (eI .i64) cell1) (eSl 1 false (eI .i64) cell1) inferInstance).or ((Kd zy (.inl 76) [66]).or X0)))) hC hJ1 r_1 hf0 (Z2 ++ [Hq c5,Hn (⟨Ug (by kernel_rfl) f_ (i0 h7),(iL (xT 64 (eNl 1 (eI .i64))) h7).2⟩:Y7 yN 154 ((f_.l).map (xT 64 (eNl 1 (eI .i64)))) Row_e_e.To = true ∧ Row_e_e.To.toNat < ((f_.l).map (xT 64 (eNl 1 (eI .i64)))).length),Hh (.op 9),Hh (.f),Hs (iM (xT 64 (eNl 1 (eI .i64))) h7),Hn (⟨Ug (by kernel_rfl) cell2 (i0 h8),(iL (eNl 1 (eI .i64)) h8).2⟩:Y7 yN 125 ((cell2.l).map (eNl 1 (eI .i64))) Row_e_e1.To = true ∧ Row_e_e1.To.toNat < ((cell2.l).map (eNl 1 (eI .i64))).length),Hh (.op 0),Hh (.f),Hs (iM (xT 64 (eNl 1 (eI .i64))) h7),Hh (.f),Hs (iM (eNl 1 (eI .i64)) h8),Hn (rfl:T.d (eNl 1 (eI .i64) cell3) = T.d (eNl 1 (eI .i64) cell3)),Hm (shM (eI .i64) (eI .i64) ([x21])),Hg (z1T h0e),Hm (shM F3_ F3_ ([[x21],cell3])),Hs (z1U h0e (x:=[[x21],cell3]) h9 (loC F9_ ([[x21],cell3]:List (List Int)) <| loN)),Hm (shM F3_ F3_ ([[x21],cell3]))])
       ·exact yB ((xLs zy 59 (eNl 1 (eI .i64) cell1) (eSl 1 false (eI .i64) cell1) inferInstance).or ((Kd zy (.inl 76) [66]).or X0)) hC hJ3 () hf1 (Z2 ++ [Hq c5])
      ·exact yB ((Kd zy (.inl 76) [66]).or X0) hC hJ3 () hf1 (Z1 ++ (rpN 14 (Hq c4) [qF]))
     ·exact yB ((Kd zy (.inl 76) [66]).or X0) hC hJ3 () hf1 (Z0 ++ (Hq c2 :: (rpN 4 (Hq c3) (rpN 15 qF []))))
  ·obtain rfl:=z8 hf1
   obtain rfl:=hl1
   exact yBx ((Kd zy (.inl 76) [66]).or X0) hC hJ1 ([]:List Int) hf0 [(0,.own (.box (xT 64 (xT 64 (eNl 1 (eI .i64))) f_))),(4,.d (I n_)),(11,.own (eOs 1 true (eI .i64) []))] inferInstance [Hq c1]
def JD:Code:=(Tryz.f134.body).getD .skip
theorem Kf {ctr:Ctr} (hC:zw Tryz.prog ctr) (cv0:Value):∀ (s_:Int) (t_:Int) (w_:List Int) (f_:ArN 64 (ArN 64 (List Int))) (r0:ArN 64 (ArN 64 (List Int))),qz s_ t_ w_ f_ = some r0 → kp Tryz.prog (.fn 134 []) [.atom cv0,I s_,I t_,eNl 1 (eI .i64) w_] ([cv0].zip [.box (xT 64 (xT 64 (eNl 1 (eI .i64))) f_)]) (.tup []) [.box (xT 64 (xT 64 (eNl 1 (eI .i64))) r0)]:=by
 intro s_ t_ w_ f_ r0 hf0
 refine z85 (tt:=yN) (nt:=22) (body:=JD) [0] zy Tryz.func134 rfl (by kernel_rfl) rfl rfl (by show (4:Nat) ≤ 22; decide) (by decide) rfl rfl (fun E hE => ?_) rfl
 unfold qz at hf0
 refine zfl 0 (v:=cv0) ⟨_,rfl⟩ (by kernel_rfl) fun b0 hb0 => ?_
 subst hb0
 obtain ⟨cell,h0,hf0⟩:=zb hf0
 obtain ⟨cell1,h1,hf0⟩:=zb hf0
 obtain ⟨arr,h2,hf0⟩:=zb hf0
 replace h2:=z8 h2
 obtain ⟨arr1,h3,hf0⟩:=zb hf0
 replace h3:=z8 h3
 obtain ⟨cell2,h4,hf0⟩:=zb hf0
 obtain ⟨cell3,h5,hf0⟩:=zb hf0
 obtain ⟨arr2,h6,hf0⟩:=zb hf0
 replace h6:=z8 h6
 obtain ⟨arr3,h7,hf0⟩:=zb hf0
 replace h7:=z8 h7
 obtain rfl:=z8 hf0
 exact yF ((xIr zy 21 0 t_.toNat b0).or ((xRi zy 20 64 64 b0).or ((xNr Tryz.prog 19 b0).or ((xMv Tryz.prog 11 0 (z2A b0) rfl).or X0)))) hC .normal [(0,.own (.box (xT 64 (xT 64 (eNl 1 (eI .i64))) arr3)))] [Hn (rfl:some (z2A b0) = some (z2A b0)),Hn (⟨Ug (by kernel_rfl) f_ (i0 h0),(iL (xT 64 (eNl 1 (eI .i64))) h0).2⟩:Y7 yN 154 ((f_.l).map (xT 64 (eNl 1 (eI .i64)))) s_ = true ∧ s_.toNat < ((f_.l).map (xT 64 (eNl 1 (eI .i64)))).length),Hh (.op 10),Hh (.f),Hs (iM (xT 64 (eNl 1 (eI .i64))) h0),Hn (⟨Ug (by kernel_rfl) cell (i0 h1),(iL (eNl 1 (eI .i64)) h1).2⟩:Y7 yN 125 ((cell.l).map (eNl 1 (eI .i64))) t_ = true ∧ t_.toNat < ((cell.l).map (eNl 1 (eI .i64))).length),Hh (.op 0),Hh (.f),Hs (iM (xT 64 (eNl 1 (eI .i64))) h0),Hh (.f),Hs (iM (eNl 1 (eI .i64)) h1),Hh (.f),Hs (iM (xT 64 (eNl 1 (eI .i64))) h0),Hh (.f),Hs (iM (eNl 1 (eI .i64)) h1),Hx (.l ((arr.l).map (eNl 1 (eI .i64)))) ((ArN.setL (eNl 1 (eI .i64)) cell t_ w_).trans (congrArg (fun q => (ArN.l q).map (eNl 1 (eI .i64))) h2)),Hx (.l ((arr1.l).map (xT 64 (eNl 1 (eI .i64))))) ((ArN.setL (xT 64 (eNl 1 (eI .i64))) f_ s_ arr).trans (congrArg (fun q => (ArN.l q).map (xT 64 (eNl 1 (eI .i64)))) h3)),Hn (rfl:T.d (.atom (z2A b0)) = T.d (.atom (z2A b0))),Hn (⟨rfl,i0 h4,zdy (x:=arr1) h4⟩:T.d (.atom (z2A b0)) = T.d (.atom (z2A b0)) ∧ 0 ≤ t_ ∧ t_.toNat < 64),Hn (⟨⟨congrArg (fun k => T.d (.atom (.pointer (some ⟨b0,k,none⟩)))) (zfo (f:=(xT 64 (eNl 1 (eI .i64)))) arr1 h4).symm,(iL (xT 64 (eNl 1 (eI .i64))) h4).2⟩,rfl⟩:(T.d (.atom (.pointer (some ⟨b0,t_.toNat * 64,none⟩))) = T.d (.atom (.pointer (some ⟨b0,A.sizes (((arr1.l).map (xT 64 (eNl 1 (eI .i64)))).take t_.toNat),none⟩))) ∧ t_.toNat < ((arr1.l).map (xT 64 (eNl 1 (eI .i64)))).length) ∧ some (z2A b0) = some (z2A b0)),Hh (.op 2),Hh (.f),Hs (iM (xT 64 (eNl 1 (eI .i64))) h4),Hn (⟨Ug (by kernel_rfl) cell2 (i0 h5),(iL (eNl 1 (eI .i64)) h5).2⟩:Y7 yN 125 ((cell2.l).map (eNl 1 (eI .i64))) s_ = true ∧ s_.toNat < ((cell2.l).map (eNl 1 (eI .i64))).length),Hh (.op 0),Hh (.f),Hs (iM (xT 64 (eNl 1 (eI .i64))) h4),Hh (.f),Hs (iM (eNl 1 (eI .i64)) h5),Hh (.f),Hs (iM (xT 64 (eNl 1 (eI .i64))) h4),Hh (.f),Hs (iM (eNl 1 (eI .i64)) h5),Hx (.l ((arr2.l).map (eNl 1 (eI .i64)))) ((ArN.setL (eNl 1 (eI .i64)) cell2 s_ w_).trans (congrArg (fun q => (ArN.l q).map (eNl 1 (eI .i64))) h6)),Hx (.l ((arr3.l).map (xT 64 (eNl 1 (eI .i64))))) ((ArN.setL (xT 64 (eNl 1 (eI .i64))) arr1 t_ arr2).trans (congrArg (fun q => (ArN.l q).map (xT 64 (eNl 1 (eI .i64)))) h7))] fun st0 h0 => hE _ st0 (.inl rfl) (Jr h0 ⟨⟨rfl,rfl⟩,trivial⟩)
def yc:Code:=(Tryz.f104.body).getD .skip
def kY:zN:=spF (α:=z6) (ρ:=ArN 64 (ArN 64 (List Int))) 104 (fun x => [zI x]) (fun r => (eBx (xT 64 (xT 64 (eNl 1 (eI .i64))))) r) (fun x => qw x) [] (Wn)
abbrev Ur (f_:ArN 64 (ArN 64 (List Int))):List (Nat × T):=[(3,.own (.box (.box (xT 64 (xT 64 (eNl 1 (eI .i64))) f_))))]
abbrev Uq (m_:z6) (n_:Int) (f_2:ArN 64 (ArN 64 (List Int))):List (Nat × T):=[(1,.own (.box (zI m_))),(3,.own (.box (.box (xT 64 (xT 64 (eNl 1 (eI .i64))) f_2)))),(4,.own (.box (I n_)))]
abbrev Un (m_:z6) (n_:Int) (now:List zG) (f_4:ArN 64 (ArN 64 (List Int))) (x50:Int):List (Nat × T):=[(1,.own (.box (zI m_))),(3,.own (.box (.box (xT 64 (xT 64 (eNl 1 (eI .i64))) f_4)))),(4,.own (.box (I n_))),(48,.d (eSl 4 false (zR (eI .i64) (eI .i64) (eNl 1 (eI .i64)) eB) now)),(49,.d (I ((now.length:Nat):Int))),(50,.d (I x50))]
abbrev Up (m_:z6) (n_:Int) (f_3:ArN 64 (ArN 64 (List Int))) (now:List zG):List (Nat × T):=[(1,.own (.box (zI m_))),(3,.own (.box (.box (xT 64 (xT 64 (eNl 1 (eI .i64))) f_3)))),(4,.own (.box (I n_))),(5,.own (.box (eOs 4 false (zR (eI .i64) (eI .i64) (eNl 1 (eI .i64)) eB) now)))]
abbrev vH (m_:z6) (n_:Int) (r_1:z6) (f_5:ArN 64 (ArN 64 (List Int))) (now1:List zG):List (Nat × T):=[(1,.own (.box (zI m_))),(3,.own (.box (.box (xT 64 (xT 64 (eNl 1 (eI .i64))) f_5)))),(4,.own (.box (I n_))),(5,.own (.box (eOs 4 false (zR (eI .i64) (eI .i64) (eNl 1 (eI .i64)) eB) now1))),(22,.d (.fn 150 [.sptr (.agg [I r_1.Inputs,I r_1.Outputs,eSl 1 false wS r_1.Rows])]))]
abbrev Uo (m_:z6) (f_1:ArN 64 (ArN 64 (List Int))) (n_:Int):List (Nat × T):=[(1,.own (.box (zI m_))),(3,.own (.box (.box (xT 64 (xT 64 (eNl 1 (eI .i64))) f_1)))),(4,.own (.box (I n_)))]
theorem Ke {ctr:Ctr} (hC:zw Tryz.prog ctr) (h1j:ctr.Has XF) (h0e:ctr.Has wC) (h01:ctr.Has yC):kY.Ok Tryz.prog:=by
 refine zx ?_
 rintro m_ r0 hf0
 try unfold qw at hf0
 refine zcN (tt:=yN) (rs:=[(true,2,none)]) (n:=⟨65,[]⟩) (body:=yc) zy Tryz.func104 rfl (by kernel_rfl) rfl rfl (by show (1:Nat) ≤ 65; decide) fun E hE => ?_
 refine yJ X0 hC yc [1,1] [] [3] (fun z:ArN 64 (ArN 64 (List Int)) => qd z = some r0) (fun z => Ur z) [(1,.own (.box (zI m_))),(3,.own (.box (.box (xT 64 (xT 64 (eNl 1 (eI .i64))) (ArN.rep 64 (ArN.rep 64 ([]:List Int)))))))] [Hh (.cut 2)] ?_ fun J1 hJ1 => ?_
 ·rintro f_ hf0
  unfold qd at hf0
  obtain rfl:=z8 hf0
  let ZE:List HO:=[]
  exact zfn X0 zy hC UQ hE 4000 (hs:=hoH ZE) (x:=(.box (xT 64 (xT 64 (eNl 1 (eI .i64))) f_))) (hoB ZE) (by kernel_rfl) (LeV.refl _)
 ·obtain ⟨t2,ht2,hf0⟩:=zb hf0
  refine yL X0 hC yc [1,1,2,1,0] [J1] (fun s => q9 m_ s.1 s.2) (fun x => Uo m_ x.1 x.2) ((ArN.rep 64 (ArN.rep 64 ([]:List Int))),1) ht2  [] ?_
  rintro ⟨f_1,n_⟩ m2 lr1 hf1 hl1 J2 hJ2
  try unfold q9 at hf1
  let Z0:List HO:=[Ha (lnM wS m_.Rows)]
  rcases zC hf1 with ⟨c0,hf1⟩ | ⟨c0,hf1⟩
  ·refine yJ X0 hC yc [1,1,2,1,0,0,1] [J1,J2] [1,3,4] (fun z:ArN 64 (ArN 64 (List Int)) => qb n_ z = some lr1) (fun z => Uq m_ n_ z) [(1,.own (.box (zI m_))),(3,.own (.box (.box (xT 64 (xT 64 (eNl 1 (eI .i64))) f_1)))),(4,.own (.box (I n_)))] (Z0 ++ [Hq c0,Hh (.cut 0)]) ?_ fun J3 hJ3 => ?_
   ·rintro f_2 hf1
    unfold qb at hf1
    obtain rfl:=z8 hf1
    exact yB X0 hC hJ2 (f_2,w64 (n_ + 1)) hl1 []
   ·refine yJ X0 hC yc [1,1,2,1,0,0,1,2,0,1] [J1,J2,J3] [1,3,4,5] (fun z:ArN 64 (ArN 64 (List Int)) × List zG => qa n_ z.1 z.2 = some lr1) (fun z => Up m_ n_ z.1 z.2) [(1,.own (.box (zI m_))),(3,.own (.box (.box (xT 64 (xT 64 (eNl 1 (eI .i64))) f_1)))),(4,.own (.box (I n_))),(5,.own (.box (eOs 4 true (zR (eI .i64) (eI .i64) F3_ eB) [])))] [Hh (.cut 1)] ?_ fun J4 hJ4 => ?_
    ·rintro ⟨f_3,now⟩ hf1
     unfold qa at hf1
     obtain ⟨t5,ht5,hf1⟩:=zb hf1
     refine yL X0 hC yc [1,1,2,1,0,0,1,2,0,1,1,1,0] [J1,J2,J3] (fun s => vh now s.1 s.2) (fun x => Un m_ n_ now x.1 x.2) (f_3,0) ht5  [Hh (.v 0 [5]),Hm (shM (zR (eI .i64) (eI .i64) (eNl 1 (eI .i64)) eB) (zR (eI .i64) (eI .i64) (eNl 1 (eI .i64)) eB) now),Hh (.v 1 [5]),Ha (lnM (zR (eI .i64) (eI .i64) (eNl 1 (eI .i64)) eB) now)] ?_
     rintro ⟨f_4,x50⟩ m5 lr2 hf2 hl2 J5 hJ5
     try unfold vh at hf2
     rcases zC hf2 with ⟨c1,hf2⟩ | ⟨c1,hf2⟩
     ·obtain ⟨now_e,h0,hf2⟩:=zb hf2
      obtain ⟨r_,h1,hf2⟩:=zb hf2
      obtain rfl:=z8 hf2
      exact yB ((z8Y (P:=Tryz.prog) yN 3 0 (fa:=.fn 134 []) (z:=.box (xT 64 (xT 64 (eNl 1 (eI .i64))) f_4)) (z':=.box (xT 64 (xT 64 (eNl 1 (eI .i64))) r_)) (r:=.tup []) (xl:=[]) (xr:=[(eI .i64) now_e.S,(eI .i64) now_e.T,(eNl 1 (eI .i64)) now_e.Word]) rfl rfl (fun v => Kf hC v _ _ _ _ _ h1) 61).or X0) hC hJ5 (r_,w64 (x50 + 1)) hl2 [Hq c1,Hi (zR (eI .i64) (eI .i64) (eNl 1 (eI .i64)) eB) h0,Hn (⟨rfl,leP (show z09 [] [] from inferInstance),leP (show z09 [(eI .i64) now_e.S,(eI .i64) now_e.T,(eNl 1 (eI .i64)) now_e.Word] [(eI .i64) now_e.S,(eI .i64) now_e.T,(eNl 1 (eI .i64)) now_e.Word] from inferInstance),rfl,rfl⟩:([.fn 134 []]:List A) = [.fn 134 []] ∧ LeP [] [] ∧ LeP [(eI .i64) now_e.S,(eI .i64) now_e.T,(eNl 1 (eI .i64)) now_e.Word] [(eI .i64) now_e.S,(eI .i64) now_e.T,(eNl 1 (eI .i64)) now_e.Word] ∧ T.als 3 [.deref] 0 0 = T.als 3 [.deref] 0 0 ∧ T.own (.box (.box (xT 64 (xT 64 (eNl 1 (eI .i64))) f_4))) = T.own (.box (.box (xT 64 (xT 64 (eNl 1 (eI .i64))) f_4))))]
     ·obtain rfl:=z8 hf2
      obtain rfl:=hl2
      exact yB X0 hC hJ3 f_4 hf1 [Hq c1]
    ·obtain ⟨r_1,h2,hf1⟩:=zb hf1
     obtain ⟨t6,ht6,hf1⟩:=zb hf1
     refine yAt X0 hC (sub [1,1,2,1,0,0,1,2,0,1,2,1,0] yc) (frs [1,1,2,1,0,0,1,2,0,1,2,1,0] [J1,J2,J3,J4] yc []) [(1,.own (.box (zI m_))),(3,.own (.box (.box (xT 64 (xT 64 (eNl 1 (eI .i64))) f_1)))),(4,.own (.box (I n_))),(5,.own (.box (eOs 4 true (zR (eI .i64) (eI .i64) (eNl 1 (eI .i64)) eB) []))),(22,.d (.fn 150 [.sptr (.agg [I r_1.Inputs,I r_1.Outputs,eSl 1 false wS r_1.Rows])]))] [Hc h1j (x:=m_) h2 (loC zI m_ <| loN)] fun st0 h0 => ?_
     refine JH (g:=.tmp 22) (ps:=[23,24]) (assign:=(sub [1,1,2,1,0,0,1,2,0,1,2,1,0,0] yc)) (body:=(sub [1,1,2,1,0,0,1,2,0,1,2,1,0,1] yc)) (K:=150) (caps:=[.sptr (.agg [I r_1.Inputs,I r_1.Outputs,eSl 1 false wS r_1.Rows])]) (by kernel_rfl) [1,3,4,5,22] (fun s => vH m_ n_ r_1 s.1 s.2) (fun z => nomatch z) (fun z => nomatch z) ((fun (x:Int × Int) (_:Bool) (_:Value) => [(eI .i64) x.1,(eI .i64) x.2])) (F:=@ug r_1) (fun s x => xL m_ n_ s.1 s.2 x.1 x.2) (f_1,([]:List zG)) t6 _ h0 inferInstance (by kernel_rfl) (by decide) (fun _ => rfl) (by rintro ⟨⟩) (by kernel_rfl) (fun _ _ _ => rfl) (z1q hC r_1) ht6 ?_ ?_
     ·rintro tv6 ⟨f_5,now1⟩ ⟨x23,x24⟩ vr lr2 hf2
      replace hf2:xL m_ n_ f_5 now1 x23 x24 = some lr2:=hf2
      unfold xL at hf2
      refine yF X0 hC .normal [(1,.own (.box (zI m_))),(3,.own (.box (.box (xT 64 (xT 64 (eNl 1 (eI .i64))) f_5)))),(4,.own (.box (I n_))),(5,.own (.box (eOs 4 false (zR (eI .i64) (eI .i64) (eNl 1 (eI .i64)) eB) now1))),(6,.d (I x23)),(7,.d (I x24)),(22,.d (.fn 150 [.sptr (.agg [I r_1.Inputs,I r_1.Outputs,eSl 1 false wS r_1.Rows])]))] [] fun st0 h0 => ⟨rfl,z5h h0 ?_⟩
      obtain ⟨cell,h3,hf2⟩:=zb hf2
      obtain ⟨cell1,h4,hf2⟩:=zb hf2
      let Z1:List HO:=[Hn (⟨Ug (by kernel_rfl) f_5 (i0 h3),(iL (xT 64 (eNl 1 (eI .i64))) h3).2⟩:Y7 yN 154 ((f_5.l).map (xT 64 (eNl 1 (eI .i64)))) x23 = true ∧ x23.toNat < ((f_5.l).map (xT 64 (eNl 1 (eI .i64)))).length),Hh (.op 5),Hh (.f),Hs (iM (xT 64 (eNl 1 (eI .i64))) h3),Hn (⟨Ug (by kernel_rfl) cell (i0 h4),(iL (eNl 1 (eI .i64)) h4).2⟩:Y7 yN 125 ((cell.l).map (eNl 1 (eI .i64))) x24 = true ∧ x24.toNat < ((cell.l).map (eNl 1 (eI .i64))).length),Hh (.op 0),Hh (.f),Hs (iM (xT 64 (eNl 1 (eI .i64))) h3),Hh (.f),Hs (iM (eNl 1 (eI .i64)) h4),Hn (⟨rfl,rfl⟩:T.d (eNl 1 (eI .i64) cell1) = T.d (eNl 1 (eI .i64) cell1) ∧ T.d (.atom (.slice none 0 0)) = T.d (.atom (.slice none 0 0)))]
      rcases zC hf2 with ⟨c2,hf2⟩ | ⟨c2,hf2⟩
      ·obtain rfl:=z8 hf2
       exact yF ((zfL zy 32 40 1 (cell1.map (eI .i64)) true (!cell1.isEmpty) (by kernel_rfl) (nlB true (eI .i64) cell1)).or X0) hC .normal (vH m_ n_ r_1 f_5 now1) (Z1 ++ [Hq c2]) fun st0 h0 => ⟨rfl,_,h0,LeL.refl _⟩
      ·obtain ⟨r_2,h5,hf2⟩:=zb hf2
       let Z2:List HO:=(Z1 ++ [Hq c2,Hn (⟨rfl,leP (show z09 [] [] from inferInstance),leP (show z09 [zI m_,(eI .i64) x23,(eI .i64) x24,(eI .i64) n_] [zI m_,(eI .i64) x23,(eI .i64) x24,(eI .i64) n_] from inferInstance),rfl,rfl⟩:([.fn 133 []]:List A) = [.fn 133 []] ∧ LeP [] [] ∧ LeP [zI m_,(eI .i64) x23,(eI .i64) x24,(eI .i64) n_] [zI m_,(eI .i64) x23,(eI .i64) x24,(eI .i64) n_] ∧ T.als 3 [.deref] 0 0 = T.als 3 [.deref] 0 0 ∧ T.own (.box (.box (xT 64 (xT 64 (eNl 1 (eI .i64))) f_5))) = T.own (.box (.box (xT 64 (xT 64 (eNl 1 (eI .i64))) f_5)))),Hn (⟨rfl,rfl⟩:T.d (eNl 1 (eI .i64) r_2.1) = T.d (eNl 1 (eI .i64) r_2.1) ∧ T.d (.atom (.slice none 0 0)) = T.d (.atom (.slice none 0 0)))])
       rcases zC hf2 with ⟨c3,hf2⟩ | ⟨c3,hf2⟩
       ·obtain ⟨g0,hf2⟩:=gdE hf2
        obtain rfl:=z8 hf2
        exact yF ((zfL zy 40 40 1 (r_2.1.map (eI .i64)) true (!r_2.1.isEmpty) (by kernel_rfl) (nlB true (eI .i64) r_2.1)).or ((z8Y (P:=Tryz.prog) yN 3 0 (fa:=.fn 133 []) (z:=.box (xT 64 (xT 64 (eNl 1 (eI .i64))) f_5)) (z':=.box (xT 64 (xT 64 (eNl 1 (eI .i64))) r_2.2)) (r:=eNl 1 (eI .i64) r_2.1) (xl:=[]) (xr:=[zI m_,(eI .i64) x23,(eI .i64) x24,(eI .i64) n_]) rfl rfl (fun v => Xx hC h0e h01 v _ _ _ _ _ _ h5) 38).or ((zfL zy 32 40 1 (cell1.map (eI .i64)) true (!cell1.isEmpty) (by kernel_rfl) (nlB true (eI .i64) cell1)).or X0))) hC .normal (vH m_ n_ r_1 r_2.2 (now1 ++ ([(zG.mk x23 x24 r_2.1 false)]:List zG))) (Z2 ++ [Hq c3,Hq (dM (zR (eI .i64) (eI .i64) (eNl 1 (eI .i64)) eB) ([(zG.mk x23 x24 r_2.1 false)]:List zG)),Hn (dM (zR (eI .i64) (eI .i64) (eNl 1 (eI .i64)) eB) ([(zG.mk x23 x24 r_2.1 false)]:List zG)),Hn (aL (zR (eI .i64) (eI .i64) (eNl 1 (eI .i64)) eB) (zR (eI .i64) (eI .i64) (eNl 1 (eI .i64)) eB) g0),Hl (aM (zR (eI .i64) (eI .i64) (eNl 1 (eI .i64)) eB) now1 ([(zG.mk x23 x24 r_2.1 false)]:List zG))]) fun st0 h0 => ⟨rfl,_,h0,LeL.refl _⟩
       ·obtain rfl:=z8 hf2
        exact yF ((zfL zy 40 40 1 (r_2.1.map (eI .i64)) true (!r_2.1.isEmpty) (by kernel_rfl) (nlB true (eI .i64) r_2.1)).or ((z8Y (P:=Tryz.prog) yN 3 0 (fa:=.fn 133 []) (z:=.box (xT 64 (xT 64 (eNl 1 (eI .i64))) f_5)) (z':=.box (xT 64 (xT 64 (eNl 1 (eI .i64))) r_2.2)) (r:=eNl 1 (eI .i64) r_2.1) (xl:=[]) (xr:=[zI m_,(eI .i64) x23,(eI .i64) x24,(eI .i64) n_]) rfl rfl (fun v => Xx hC h0e h01 v _ _ _ _ _ _ h5) 38).or ((zfL zy 32 40 1 (cell1.map (eI .i64)) true (!cell1.isEmpty) (by kernel_rfl) (nlB true (eI .i64) cell1)).or X0))) hC .normal (vH m_ n_ r_1 r_2.2 now1) (Z2 ++ [Hq c3]) fun st0 h0 => ⟨rfl,_,h0,LeL.refl _⟩
     ·rcases t6 with ⟨f_5,now1⟩ | z
      ·dsimp only at hf1
       exact YR (by kernel_rfl) (hJ4 _ [(1,.own (.box (zI m_))),(3,.own (.box (.box (xT 64 (xT 64 (eNl 1 (eI .i64))) f_5)))),(4,.own (.box (I n_))),(5,.own (.box (eOs 4 false (zR (eI .i64) (eI .i64) (eNl 1 (eI .i64)) eB) now1)))] (f_5,now1) hf1 (show Own.canon [1,3,4,5] _ = ofL _ by kernel_rfl) inferInstance)
      ·cases z
  ·obtain rfl:=z8 hf1
   obtain rfl:=hl1
   exact yB X0 hC hJ1 f_1 hf0 (Z0 ++ [Hq c0])
def VZ:Code:=(Tryz.f103.body).getD .skip
def wU:zN:=spF (α:=List Int) (ρ:=List Int) 103 (fun x => [F3_ x]) (fun r => F4_ r) (fun x => yz x) [] (Wn)
theorem Ui {ctr:Ctr} (hC:zw Tryz.prog ctr):wU.Ok Tryz.prog:=by
 refine zx ?_
 rintro s_ r0 hf0
 try unfold yz at hf0
 refine yO true [(2,none)] VZ 8 Tryz.func103 fun E hE => ?_
 refine zaK rfl 0 (sz:=1) (t:=false) (es:=s_.map (eI .i64)) (by kernel_rfl) fun pv0 hv0 hn => ?_
 rcases hn with ⟨hn0,he0⟩ | hn0
 ·obtain ⟨_,hf0⟩:=gdE hf0
  rw [show s_ = [] from List.map_eq_nil_iff.1 he0] at hf0
  obtain rfl:=z8 hf0
  exact yEx ((zjp zy 4 40 (by kernel_rfl) hn0).or ((xMv Tryz.prog 3 0 pv0 hv0).or X0)) hC hE [Hn (rfl:some pv0 = some pv0),Hn (⟨rfl,rfl⟩:T.d (.atom pv0) = T.d (.atom pv0) ∧ T.d (.atom (.slice none 0 0)) = T.d (.atom (.slice none 0 0))),qT] (eOs 1 true (eI .i64) []) (show LeV (eOs 1 true (eI .i64) []) (eOs 1 false (eI .i64) ([]:List Int)) from inferInstance)
 ·obtain ⟨g0,hf0⟩:=gdE hf0
  obtain rfl:=z8 hf0
  exact yE ((zjp zy 4 40 (by kernel_rfl) hn0).or ((xMv Tryz.prog 3 0 pv0 hv0).or X0)) hC hE [Hn (rfl:some pv0 = some pv0),Hn (⟨rfl,rfl⟩:T.d (.atom pv0) = T.d (.atom pv0) ∧ T.d (.atom (.slice none 0 0)) = T.d (.atom (.slice none 0 0))),qF,Hn (dM (eI .i64) s_),Hn (aL (eI .i64) (eI .i64) g0),Hl (aM0 (eI .i64) s_)]
def KF:Code:=(Tryz.f72.body).getD .skip
def vT:zN:=spF (α:=z6 × Int × Int) (ρ:=List Int × Bool × Int) 72 (fun x => [zI x.1,(eI .i64) x.2.1,(eI .i64) x.2.2]) (fun r => .tup [F2_ r.1,eB r.2.1,(eI .i64) r.2.2]) (fun x => uw x.1 x.2.1 x.2.2) [] (z8V)
theorem z0d {ctr:Ctr} (hC:zw Tryz.prog ctr) (h0C:ctr.Has XE) (h1k:ctr.Has kY) (h0q:ctr.Has wU) (h01:ctr.Has yC):vT.Ok Tryz.prog:=by
 refine zx ?_
 rintro ⟨m_,s_,t_⟩ r0 hf0
 try unfold uw at hf0
 refine yO false [(6,none),(7,none),(8,none)] KF 33 Tryz.func72 fun E hE => ?_
 obtain ⟨r_,h0,hf0⟩:=zb hf0
 let Z0:List HO:=[Hg (z1T h0C),Hm (shM (eI .i64) (eI .i64) ([s_,t_])),Hs (z1U h0C (x:=(m_,[s_,t_])) h0 (loC zI m_ <| loC F2_ ([s_,t_]:List Int) <| loN))]
 rcases zC hf0 with ⟨c0,hf0⟩ | ⟨c0,hf0⟩
 ·obtain rfl:=z8 hf0
  exact yEx X0 hC hE (Z0 ++ [Hq c0,Hm (shM (eI .i64) (eI .i64) [])]) (.tup [eSl 1 true (eI .i64) [],B false,I r_]) (show LeV (.tup [eSl 1 true (eI .i64) [],B false,I r_]) (.tup [eSl 1 true (eI .i64) ([]:List Int),B false,I r_]) from inferInstance)
 ·obtain ⟨r_1,h1,hf0⟩:=zb hf0
  obtain ⟨cell,h2,hf0⟩:=zb hf0
  obtain ⟨cell1,h3,hf0⟩:=zb hf0
  obtain ⟨r_2,h4,hf0⟩:=zb hf0
  obtain ⟨r_3,h5,hf0⟩:=zb hf0
  obtain rfl:=z8 hf0
  exact yE ((xLs zy 26 (eNl 1 (eI .i64) cell1) (eSl 1 false (eI .i64) cell1) inferInstance).or X0) hC hE (Z0 ++ [Hq c0,Hc h1k (x:=m_) h1 (loC zI m_ <| loN),Hn (⟨Ug (by kernel_rfl) r_1 (i0 h2),(iL (xT 64 (eNl 1 (eI .i64))) h2).2⟩:Y7 yN 154 ((r_1.l).map (xT 64 (eNl 1 (eI .i64)))) s_ = true ∧ s_.toNat < ((r_1.l).map (xT 64 (eNl 1 (eI .i64)))).length),Hh (.op 4),Hh (.f),Hs (iM (xT 64 (eNl 1 (eI .i64))) h2),Hn (⟨Ug (by kernel_rfl) cell (i0 h3),(iL (eNl 1 (eI .i64)) h3).2⟩:Y7 yN 125 ((cell.l).map (eNl 1 (eI .i64))) t_ = true ∧ t_.toNat < ((cell.l).map (eNl 1 (eI .i64))).length),Hh (.op 0),Hh (.f),Hs (iM (xT 64 (eNl 1 (eI .i64))) h2),Hh (.f),Hs (iM (eNl 1 (eI .i64)) h3),Hn (rfl:T.d (eNl 1 (eI .i64) cell1) = T.d (eNl 1 (eI .i64) cell1)),Hc h0q (x:=cell1) h4 (loC F3_ cell1 <| loN),Hg (z1T h01),Hm (shM (eI .i64) (eI .i64) r_2),Hs (z1U h01 (x:=r_2) h5 (loC F3_ r_2 <| loN)),Hm (shM (eI .i64) (eI .i64) r_2),Ha (lnM (eI .i64) r_3)])
def z1z:Code:=(Tryz.f136.body).getD .skip
def YZ:zN:=spF (α:=Int × Int) (ρ:=Bool) 136 (fun x => [(eI .i64) x.1,(eSp (eI .i64)) x.2]) (fun r => eB r) (fun x => Xg x.1 x.2) [] (VA)
theorem z23 {ctr:Ctr} (hC:zw Tryz.prog ctr):YZ.Ok Tryz.prog:=by
 refine zx ?_
 rintro ⟨c_,x1⟩ r0 hf0
 try unfold Xg at hf0
 refine yO true [(3,none)] z1z 11 Tryz.func136 fun E hE => ?_
 rcases zC hf0 with ⟨c0,hf0⟩ | ⟨c0,hf0⟩
 ·obtain rfl:=z8 hf0
  exact yE X0 hC hE (rpN 4 (Hq c0) [])
 ·obtain rfl:=z8 hf0
  exact yE X0 hC hE (rpN 4 (Hq c0) [])
def vF:Code:=(Tryz.f149.body).getD .skip
def vj:zN:=spF (α:=List Int × Int) (ρ:=Int) 149 (fun x => [F3_ x.1,(QK 136 (eSp (eI .i64))) x.2]) (fun r => (eI .i64) r) (fun x => wD x.1 x.2) [] (by
 rintro ⟨a0,a1⟩ ⟨b0,b1⟩ h
 have e0:=Y6.inj (f:=F3_) _ _ (List.cons.inj h).1
 replace h:=(List.cons.inj h).2
 have e1:=Y6.inj (f:=(QK 136 (eSp (eI .i64)))) _ _ (List.cons.inj h).1
 subst e0 e1
 rfl)
abbrev YT:List (Nat × T):=[]
abbrev YS (s_:List Int) (f_:Int) (x8:Int):List (Nat × T):=[(0,.d (eSl 1 false (eI .i64) s_)),(1,.d (.fn 136 [.sptr (I f_)])),(7,.d (I ((s_.length:Nat):Int))),(8,.d (I x8))]
theorem Wo {ctr:Ctr} (hC:zw Tryz.prog ctr) (h1l:ctr.Has YZ):vj.Ok Tryz.prog:=by
 refine zx ?_
 rintro ⟨s_,f_⟩ r0 hf0
 try unfold wD at hf0
 refine yO true [(4,none)] vF 19 Tryz.func149 fun E hE => ?_
 refine yJ X0 hC vF [1] [] [] (fun z:Unit => vq = some r0) (fun z => YT) [(0,.d (eSl 1 false (eI .i64) s_)),(1,.d (.fn 136 [.sptr (I f_)]))] [Hh (.cut 1)] ?_ fun J1 hJ1 => ?_
 ·rintro ⟨⟩ hf0
  unfold vq at hf0
  obtain rfl:=z8 hf0
  exact yE X0 hC hE []
 ·obtain ⟨t2,ht2,hf0⟩:=zb hf0
  refine yL X0 hC vF [1,2,1,0] [J1] (fun s => yf s_ f_ s) (fun x => YS s_ f_ x) 0 ht2  [Ha (lnM (eI .i64) s_)] ?_
  rintro x8 m2 lr1 hf1 hl1 J2 hJ2
  try unfold yf at hf1
  rcases zC hf1 with ⟨c0,hf1⟩ | ⟨c0,hf1⟩
  ·obtain ⟨s__e,h0,hf1⟩:=zb hf1
   obtain ⟨r_,h1,hf1⟩:=zb hf1
   let Z0:List HO:=[Hq c0,Hi (eI .i64) h0,Hc h1l (x:=(s__e,f_)) h1 (loC (eI .i64) s__e <| loC (eSp (eI .i64)) f_ <| loN)]
   rcases zC hf1 with ⟨c1,hf1⟩ | ⟨c1,hf1⟩
   ·obtain rfl:=z8 hf1
    obtain rfl:=hl1
    obtain rfl:=z8 hf0
    exact yE X0 hC hE (Z0 ++ [Hq c1])
   ·obtain rfl:=z8 hf1
    exact yB X0 hC hJ2 (w64 (x8 + 1)) hl1 (Z0 ++ [Hq c1])
  ·obtain rfl:=z8 hf1
   obtain rfl:=hl1
   exact yB X0 hC hJ1 () hf0 [Hq c0]
def YP:Code:=(Tryz.f130.body).getD .skip
def wq:zN:=spF (α:=List Int × Int) (ρ:=Bool) 130 (fun x => [F3_ x.1,(QK 136 (eSp (eI .i64))) x.2]) (fun r => eB r) (fun x => xW x.1 x.2) [] (by
 rintro ⟨a0,a1⟩ ⟨b0,b1⟩ h
 have e0:=Y6.inj (f:=F3_) _ _ (List.cons.inj h).1
 replace h:=(List.cons.inj h).2
 have e1:=Y6.inj (f:=(QK 136 (eSp (eI .i64)))) _ _ (List.cons.inj h).1
 subst e0 e1
 rfl)
theorem YV {ctr:Ctr} (hC:zw Tryz.prog ctr) (h1m:ctr.Has vj):wq.Ok Tryz.prog:=by
 refine zx ?_
 rintro ⟨s_,f_⟩ r0 hf0
 try unfold xW at hf0
 refine yO true [(4,none)] YP 9 Tryz.func130 fun E hE => ?_
 obtain ⟨r_,h0,hf0⟩:=zb hf0
 obtain rfl:=z8 hf0
 exact yE X0 hC hE [Hc h1m (x:=(s_,f_)) h0 (loC F3_ s_ <| loC (QK 136 (eSp (eI .i64))) f_ <| loN)]
def z3F:Code:=(Tryz.f113.body).getD .skip
def Yu:zN:=spF (α:=List Int × Int) (ρ:=Int) 113 (fun x => [F3_ x.1,(eI .i64) x.2]) (fun r => (eI .i64) r) (fun x => jy x.1 x.2) [] (VA)
theorem z4l {ctr:Ctr} (hC:zw Tryz.prog ctr) (h1n:ctr.Has wq):Yu.Ok Tryz.prog:=by
 refine zx ?_
 rintro ⟨w_,inputs⟩ r0 hf0
 try unfold jy at hf0
 refine yO true [(4,none)] z3F 19 Tryz.func113 fun E hE => ?_
 rcases zC hf0 with ⟨c0,hf0⟩ | ⟨c0,hf0⟩
 ·obtain rfl:=z8 hf0
  exact yE X0 hC hE (rpN 4 (Hq c0) [qT])
 ·let Z0:List HO:=[Hq c0,Hq c0,Ha (lnM (eI .i64) w_),Hq c0,Hq c0]
  rcases zC hf0 with ⟨c1,hf0⟩ | ⟨c1,hf0⟩
  ·obtain rfl:=z8 hf0
   exact yE X0 hC hE (Z0 ++ [Hq c1])
  ·rcases zC hf0 with ⟨c2,hf0⟩ | ⟨c2,hf0⟩
   ·obtain rfl:=z8 hf0
    exact yE X0 hC hE (Z0 ++ (Hq c1 :: (rpN 4 (Hq c2) [qT])))
   ·obtain ⟨r_,h0,hf0⟩:=zb hf0
    let Z1:List HO:=(Z0 ++ [Hq c1,Hq c2,Hq c2,Hq c2,Hc h1n (x:=(w_,inputs)) h0 (loC F3_ w_ <| loC (QK 136 (eSp (eI .i64))) inputs <| loN),Hq c2])
    rcases zC hf0 with ⟨c3,hf0⟩ | ⟨c3,hf0⟩
    ·obtain rfl:=z8 hf0
     exact yE X0 hC hE (Z1 ++ [Hq c3])
    ·obtain rfl:=z8 hf0
     exact yE X0 hC hE (Z1 ++ [Hq c3])
def Vc:Code:=(Tryz.f105.body).getD .skip
def Yw:zN:=spF (α:=List (List Int) × Int) (ρ:=Int) 105 (fun x => [w8 x.1,(eI .i64) x.2]) (fun r => (eI .i64) r) (fun x => Ya x.1 x.2) [] (VA)
abbrev z0M:List (Nat × T):=[]
abbrev z0L (l_:List (List Int)) (inputs:Int) (x19:Int):List (Nat × T):=[(1,.d (I inputs)),(17,.d (eSl 1 false F3_ l_)),(18,.d (I ((l_.length:Nat):Int))),(19,.d (I x19))]
theorem z4n {ctr:Ctr} (hC:zw Tryz.prog ctr) (h0r:ctr.Has Yu):Yw.Ok Tryz.prog:=by
 refine zx ?_
 rintro ⟨l_,inputs⟩ r0 hf0
 try unfold Ya at hf0
 refine yO true [(4,none)] Vc 30 Tryz.func105 fun E hE => ?_
 rcases zC hf0 with ⟨c0,hf0⟩ | ⟨c0,hf0⟩
 ·obtain rfl:=z8 hf0
  exact yE X0 hC hE (rpN 4 (Hq c0) [qT])
 ·let Z0:List HO:=[Hq c0,Hq c0,Ha (lnM F3_ l_),Hq c0,Hq c0]
  rcases zC hf0 with ⟨c1,hf0⟩ | ⟨c1,hf0⟩
  ·obtain rfl:=z8 hf0
   exact yE X0 hC hE (Z0 ++ [Hq c1])
  ·rcases zC hf0 with ⟨c2,hf0⟩ | ⟨c2,hf0⟩
   ·obtain rfl:=z8 hf0
    exact yE X0 hC hE (Z0 ++ [Hq c1,Hq c2])
   ·refine yJ X0 hC Vc [1,1,1] [] [] (fun z:Unit => WU = some r0) (fun z => z0M) [(0,.d (eSl 1 false F3_ l_)),(1,.d (I inputs))] (Z0 ++ [Hq c1,Hq c2,Hh (.cut 0)]) ?_ fun J1 hJ1 => ?_
    ·rintro ⟨⟩ hf0
     unfold WU at hf0
     obtain rfl:=z8 hf0
     exact yE X0 hC hE []
    ·obtain ⟨t2,ht2,hf0⟩:=zb hf0
     refine yL X0 hC Vc [1,1,1,2,1,0] [J1] (fun s => qS l_ inputs s) (fun x => z0L l_ inputs x) 0 ht2  [Ha (lnM F3_ l_)] ?_
     rintro x19 m2 lr1 hf1 hl1 J2 hJ2
     try unfold qS at hf1
     rcases zC hf1 with ⟨c3,hf1⟩ | ⟨c3,hf1⟩
     ·obtain ⟨l__e,h0,hf1⟩:=zb hf1
      obtain ⟨r_,h1,hf1⟩:=zb hf1
      let Z1:List HO:=[Hq c3,Hi F3_ h0,Hc h0r (x:=(l__e,inputs)) h1 (loC F3_ l__e <| loC (eI .i64) inputs <| loN)]
      rcases zC hf1 with ⟨c4,hf1⟩ | ⟨c4,hf1⟩
      ·obtain rfl:=z8 hf1
       obtain rfl:=hl1
       obtain rfl:=z8 hf0
       exact yE X0 hC hE (Z1 ++ [Hq c4])
      ·obtain rfl:=z8 hf1
       exact yB X0 hC hJ2 (w64 (x19 + 1)) hl1 (Z1 ++ [Hq c4])
     ·obtain rfl:=z8 hf1
      obtain rfl:=hl1
      exact yB X0 hC hJ1 () hf0 [Hq c3]
def Vv:Code:=(Tryz.f117.body).getD .skip
def uB:zN:=spF (α:=List (List Int)) (ρ:=List (List Int)) 117 (fun x => [w8 x]) (fun r => zfx r) (fun x => vW x) [] (Wn)
theorem VC {ctr:Ctr} (hC:zw Tryz.prog ctr):uB.Ok Tryz.prog:=by
 refine zx ?_
 rintro s_ r0 hf0
 try unfold vW at hf0
 refine yO true [(2,none)] Vv 8 Tryz.func117 fun E hE => ?_
 refine zaK rfl 0 (sz:=1) (t:=false) (es:=s_.map F3_) (by kernel_rfl) fun pv0 hv0 hn => ?_
 rcases hn with ⟨hn0,he0⟩ | hn0
 ·obtain ⟨_,hf0⟩:=gdE hf0
  rw [show s_ = [] from List.map_eq_nil_iff.1 he0] at hf0
  obtain rfl:=z8 hf0
  exact yEx ((zjp zy 4 32 (by kernel_rfl) hn0).or ((xMv Tryz.prog 3 0 pv0 hv0).or X0)) hC hE [Hn (rfl:some pv0 = some pv0),Hn (⟨rfl,rfl⟩:T.d (.atom pv0) = T.d (.atom pv0) ∧ T.d (.atom (.slice none 0 0)) = T.d (.atom (.slice none 0 0))),qT] (eOs 1 true F3_ []) (show LeV (eOs 1 true F3_ []) (eOs 1 false F3_ ([]:List (List Int))) from inferInstance)
 ·obtain ⟨g0,hf0⟩:=gdE hf0
  obtain rfl:=z8 hf0
  exact yE ((zjp zy 4 32 (by kernel_rfl) hn0).or ((xMv Tryz.prog 3 0 pv0 hv0).or X0)) hC hE [Hn (rfl:some pv0 = some pv0),Hn (⟨rfl,rfl⟩:T.d (.atom pv0) = T.d (.atom pv0) ∧ T.d (.atom (.slice none 0 0)) = T.d (.atom (.slice none 0 0))),qF,Hn (dM F3_ s_),Hn (aL F3_ F3_ g0),Hl (aM0 F3_ s_)]
def z1E:Code:=(Tryz.f163.body).getD .skip
def X7:zN:=spF (α:=Int) (ρ:=Bool) 163 (fun x => [(eI .i64) x]) (fun r => eB r) (fun x => ZU x) [] (Wn)
theorem z2f {ctr:Ctr} (hC:zw Tryz.prog ctr):X7.Ok Tryz.prog:=by
 refine zx ?_
 rintro x_ r0 hf0
 try unfold ZU at hf0
 refine yO true [(2,none)] z1E 6 Tryz.func163 fun E hE => ?_
 obtain rfl:=z8 hf0
 exact yE X0 hC hE []
def KH:Code:=(Tryz.f141.body).getD .skip
def jd:zN:=spF (α:=Int × Int) (ρ:=Int) 141 (fun x => [(eI .i64) x.1,(eI .i64) x.2]) (fun r => (eI .i64) r) (fun x => uU x.1 x.2) [] (VA)
theorem z0m {ctr:Ctr} (hC:zw Tryz.prog ctr) (h0D:ctr.Has X7):jd.Ok Tryz.prog:=by
 refine zx ?_
 rintro ⟨x_,y_⟩ r0 hf0
 try unfold uU at hf0
 refine yO true [(4,none)] KH 20 Tryz.func141 fun E hE => ?_
 obtain ⟨r_,h0,hf0⟩:=zb hf0
 obtain ⟨r_1,h1,hf0⟩:=zb hf0
 let Z0:List HO:=[Hc h0D (x:=x_) h0 (loC (eI .i64) x_ <| loN),Hc h0D (x:=y_) h1 (loC (eI .i64) y_ <| loN)]
 rcases zC hf0 with ⟨c0,hf0⟩ | ⟨c0,hf0⟩
 ·rcases zC hf0 with ⟨c1,hf0⟩ | ⟨c1,hf0⟩
  ·obtain rfl:=z8 hf0
   exact yE X0 hC hE (Z0 ++ [Hq c0,Hq c1])
  ·obtain rfl:=z8 hf0
   exact yE X0 hC hE (Z0 ++ [Hq c0,Hq c1])
 ·rcases zC hf0 with ⟨c2,hf0⟩ | ⟨c2,hf0⟩
  ·obtain rfl:=z8 hf0
   exact yE X0 hC hE (Z0 ++ [Hq c0,Hq c2])
  ·rcases zC hf0 with ⟨c3,hf0⟩ | ⟨c3,hf0⟩
   ·obtain rfl:=z8 hf0
    exact yE X0 hC hE (Z0 ++ [Hq c0,Hq c2,Hq c3])
   ·rcases zC hf0 with ⟨c4,hf0⟩ | ⟨c4,hf0⟩
    ·obtain rfl:=z8 hf0
     exact yE X0 hC hE (Z0 ++ [Hq c0,Hq c2,Hq c3,Hq c4])
    ·obtain rfl:=z8 hf0
     exact yE X0 hC hE (Z0 ++ [Hq c0,Hq c2,Hq c3,Hq c4])
def um:Code:=(Tryz.f142.body).getD .skip
def ui:zN:=spF (α:=List Int × List Int) (ρ:=Int) 142 (fun x => [F3_ x.1,F3_ x.2]) (fun r => (eI .i64) r) (fun x => w9 x.1 x.2) [] (VA)
abbrev Xt (s1:List Int) (s2:List Int):List (Nat × T):=[(0,.d (eSl 1 false (eI .i64) s1)),(1,.d (eSl 1 false (eI .i64) s2))]
abbrev Xs (s1:List Int) (s2:List Int) (x11:Int):List (Nat × T):=[(0,.d (eSl 1 false (eI .i64) s1)),(1,.d (eSl 1 false (eI .i64) s2)),(9,.d (eSl 1 false (eI .i64) s1)),(10,.d (I ((s1.length:Nat):Int))),(11,.d (I x11))]
theorem Vj {ctr:Ctr} (hC:zw Tryz.prog ctr) (h0s:ctr.Has jd):ui.Ok Tryz.prog:=by
 refine zx ?_
 rintro ⟨s1,s2⟩ r0 hf0
 try unfold w9 at hf0
 refine yO true [(4,none)] um 36 Tryz.func142 fun E hE => ?_
 refine yJ X0 hC um [1] [] [0,1] (fun z:Unit => wn s1 s2 = some r0) (fun z => Xt s1 s2) [(0,.d (eSl 1 false (eI .i64) s1)),(1,.d (eSl 1 false (eI .i64) s2))] [Hh (.cut 1)] ?_ fun J1 hJ1 => ?_
 ·rintro ⟨⟩ hf0
  unfold wn at hf0
  let Z0:List HO:=[Ha (lnM (eI .i64) s1),Ha (lnM (eI .i64) s2)]
  rcases zC hf0 with ⟨c0,hf0⟩ | ⟨c0,hf0⟩
  ·obtain rfl:=z8 hf0
   exact yE X0 hC hE (Z0 ++ [Hq c0])
  ·obtain rfl:=z8 hf0
   exact yE X0 hC hE (Z0 ++ [Hq c0])
 ·obtain ⟨t2,ht2,hf0⟩:=zb hf0
  refine yL X0 hC um [1,2,1,0] [J1] (fun s => yx s1 s2 s) (fun x => Xs s1 s2 x) 0 ht2  [Ha (lnM (eI .i64) s1)] ?_
  rintro x11 m2 lr1 hf1 hl1 J2 hJ2
  try unfold yx at hf1
  rcases zC hf1 with ⟨c1,hf1⟩ | ⟨c1,hf1⟩
  ·obtain ⟨s_e,h0,hf1⟩:=zb hf1
   let Z1:List HO:=[Hq c1,Hi (eI .i64) h0,Ha (lnM (eI .i64) s2)]
   rcases zC hf1 with ⟨c2,hf1⟩ | ⟨c2,hf1⟩
   ·obtain rfl:=z8 hf1
    obtain rfl:=hl1
    obtain rfl:=z8 hf0
    exact yE X0 hC hE (Z1 ++ [Hq c2])
   ·obtain ⟨s_e1,h1,hf1⟩:=zb hf1
    obtain ⟨r_,h2,hf1⟩:=zb hf1
    let Z2:List HO:=(Z1 ++ [Hq c2,Hi (eI .i64) h1,Hc h0s (x:=(s_e,s_e1)) h2 (loC (eI .i64) s_e <| loC (eI .i64) s_e1 <| loN)])
    rcases zC hf1 with ⟨c3,hf1⟩ | ⟨c3,hf1⟩
    ·obtain rfl:=z8 hf1
     obtain rfl:=hl1
     obtain rfl:=z8 hf0
     exact yE X0 hC hE (Z2 ++ [Hq c3])
    ·obtain rfl:=z8 hf1
     exact yB X0 hC hJ2 (w64 (x11 + 1)) hl1 (Z2 ++ [Hq c3])
  ·obtain rfl:=z8 hf1
   obtain rfl:=hl1
   exact yB X0 hC hJ1 () hf0 [Hq c1]
def Ub:Code:=(Tryz.f140.body).getD .skip
def VL:zN:=spF (α:=List Int) (ρ:=Int) 140 (fun x => [F3_ x]) (fun r => (eI .i64) r) (fun x => Vt x) [] (Wn)
abbrev z1L:List (Nat × T):=[(3,.d (I 0))]
abbrev z1K (vals:List Int) (x8:Int):List (Nat × T):=[(3,.d (I 0)),(6,.d (eSl 1 false (eI .i64) vals)),(7,.d (I ((vals.length:Nat):Int))),(8,.d (I x8))]
theorem z5y {ctr:Ctr} (hC:zw Tryz.prog ctr):VL.Ok Tryz.prog:=by
 refine zx ?_
 rintro vals r0 hf0
 try unfold Vt at hf0
 refine yO true [(2,none)] Ub 18 Tryz.func140 fun E hE => ?_
 refine yJ X0 hC Ub [1,1] [] [3] (fun z:Unit => Xl = some r0) (fun z => z1L) [(0,.d (eSl 1 false (eI .i64) vals)),(3,.d (I 0))] [Hh (.cut 2)] ?_ fun J1 hJ1 => ?_
 ·rintro ⟨⟩ hf0
  unfold Xl at hf0
  obtain rfl:=z8 hf0
  exact yE X0 hC hE []
 ·obtain ⟨t2,ht2,hf0⟩:=zb hf0
  refine yL X0 hC Ub [1,1,2,1,0] [J1] (fun s => kj vals s) (fun x => z1K vals x) 0 ht2  [Ha (lnM (eI .i64) vals)] ?_
  rintro x8 m2 lr1 hf1 hl1 J2 hJ2
  try unfold kj at hf1
  rcases zC hf1 with ⟨c0,hf1⟩ | ⟨c0,hf1⟩
  ·obtain ⟨val_e,h0,hf1⟩:=zb hf1
   rcases zC hf1 with ⟨c1,hf1⟩ | ⟨c1,hf1⟩
   ·obtain rfl:=z8 hf1
    obtain rfl:=hl1
    obtain rfl:=z8 hf0
    exact yE X0 hC hE [Hq c0,Hi (eI .i64) h0,Hq c1]
   ·obtain rfl:=z8 hf1
    exact yB X0 hC hJ2 (w64 (x8 + 1)) hl1 [Hq c0,Hi (eI .i64) h0,Hq c1]
  ·obtain rfl:=z8 hf1
   obtain rfl:=hl1
   exact yB X0 hC hJ1 () hf0 [Hq c0]
def z1y:Code:=(Tryz.f119.body).getD .skip
def qA:zN:=spF (α:=List Int × List Int) (ρ:=Int) 119 (fun x => [F3_ x.1,F3_ x.2]) (fun r => (eI .i64) r) (fun x => xI x.1 x.2) [] (VA)
theorem z21 {ctr:Ctr} (hC:zw Tryz.prog ctr) (h0s:ctr.Has jd) (h1o:ctr.Has ui) (h0E:ctr.Has VL):qA.Ok Tryz.prog:=by
 refine zx ?_
 rintro ⟨a_,b_⟩ r0 hf0
 try unfold xI at hf0
 refine yO true [(4,none)] z1y 15 Tryz.func119 fun E hE => ?_
 obtain ⟨r_,h0,hf0⟩:=zb hf0
 obtain ⟨r_1,h1,hf0⟩:=zb hf0
 obtain ⟨r_2,h2,hf0⟩:=zb hf0
 obtain rfl:=z8 hf0
 exact yE X0 hC hE [Ha (lnM (eI .i64) a_),Ha (lnM (eI .i64) b_),Hc h0s (x:=(((a_.length:Nat):Int),((b_.length:Nat):Int))) h0 (loC (eI .i64) ((a_.length:Nat):Int) <| loC (eI .i64) ((b_.length:Nat):Int) <| loN),Hc h1o (x:=(a_,b_)) h1 (loC F3_ a_ <| loC F3_ b_ <| loN),Hg (z1T h0E),Hm (shM (eI .i64) (eI .i64) ([r_,r_1])),Hs (z1U h0E (x:=[r_,r_1]) h2 (loC F2_ ([r_,r_1]:List Int) <| loN))]
def z0D:Code:=(Tryz.f121.body).getD .skip
def Yc:zN:=spF (α:=List Int × List Int) (ρ:=Bool) 121 (fun x => [F3_ x.1,F3_ x.2]) (fun r => eB r) (fun x => qR x.1 x.2) [] (VA)
theorem z1o {ctr:Ctr} (hC:zw Tryz.prog ctr) (h0f:ctr.Has qA):Yc.Ok Tryz.prog:=by
 refine zx ?_
 rintro ⟨a_,b_⟩ r0 hf0
 try unfold qR at hf0
 refine yO true [(4,none)] z0D 9 Tryz.func121 fun E hE => ?_
 obtain ⟨r_,h0,hf0⟩:=zb hf0
 obtain rfl:=z8 hf0
 exact yE X0 hC hE [Hc h0f (x:=(a_,b_)) h0 (loC F3_ a_ <| loC F3_ b_ <| loN)]
def zU:Code:=(Tryz.f120.body).getD .skip
def wr:zN:=spF (α:=List (List Int) × Unit) (ρ:=List (List Int)) 120 (fun x => [zfx x.1,(z7e 121) x.2]) (fun r => zfx r) (fun x => yR x.1 x.2) [true,false] (by
 rintro ⟨a0,a1⟩ ⟨b0,b1⟩ h
 have e0:=Y6.inj (f:=zfx) _ _ (List.cons.inj h).1
 replace h:=(List.cons.inj h).2
 have e1:=Y6.inj (f:=(z7e 121)) _ _ (List.cons.inj h).1
 subst e0 e1
 rfl)
abbrev Y5 (s_:List (List Int)):List (Nat × T):=[(0,.own (eOs 1 false F3_ s_))]
abbrev Y4 (s_:List (List Int)) (k_:Int):List (Nat × T):=[(0,.own (eOs 1 false F3_ s_)),(1,.d (.fn 121 [])),(5,.d (I k_))]
abbrev Y3 (s_1:List (List Int)) (k_1:Int):List (Nat × T):=[(0,.own (eOs 1 false F3_ s_1)),(5,.d (I k_1))]
abbrev Y2 (pv0:Value) (k_:Int) (k2:Int) (s_3:List (List Int)) (k_3:Int):List (Nat × T):=[(0,.own (eOs 1 false F3_ s_3)),(1,.d (.fn 121 [])),(5,.d (I k_3)),(6,.d (.atom (Va 1 pv0 k_))),(7,.d (I k2))]
abbrev Y0 (pv0:Value) (k_:Int) (s_2:List (List Int)) (k_2:Int) (k2:Int):List (Nat × T):=[(0,.own (eOs 1 false F3_ s_2)),(1,.d (.fn 121 [])),(5,.d (I k_2)),(6,.d (.atom (Va 1 pv0 k_))),(7,.d (I k2))]
abbrev Y1 (s_:List (List Int)) (k_:Int):List (Nat × T):=[(0,.own (eOs 1 false F3_ s_)),(1,.d (.fn 121 [])),(5,.d (I k_))]
def zm:XH Tryz.prog:=((zm4 zy 64).or X0)
theorem YW {ctr:Ctr} (hC:zw Tryz.prog ctr) (h0F:ctr.Has Yc):wr.Ok Tryz.prog:=by
 refine zx ?_
 rintro ⟨s_,eq⟩ r0 hf0
 try unfold yR at hf0
 refine yO true [(4,none)] zU 66 Tryz.func120 fun E hE => ?_
 refine zaL (y:=eOs 1 false F3_ s_) rfl 0 (by kernel_rfl) (by kernel_rfl) fun pv0 hv0 => ?_
 let Z0:List HO:=[Ha (lnM F3_ s_)]
 rcases zC hf0 with ⟨c0,hf0⟩ | ⟨c0,hf0⟩
 ·obtain rfl:=z8 hf0
  exact yE zm hC hE (Z0 ++ [Hq c0])
 ·refine yJ zm hC zU [1,1] [] [0] (fun z:Unit => wu s_ = some r0) (fun z => Y5 s_) [(0,.own (eOs 1 false F3_ s_)),(1,.d (.fn 121 []))] (Z0 ++ [Hq c0,Hh (.cut 0)]) ?_ fun J1 hJ1 => ?_
  ·rintro ⟨⟩ hf0
   unfold wu at hf0
   obtain rfl:=z8 hf0
   exact yE zm hC hE []
  ·obtain ⟨t2,ht2,hf0⟩:=zb hf0
   refine yL zm hC zU [1,1,2,1,0] [J1] (fun s => ym s_ s) (fun x => Y1 s_ x) 1 ht2  [] ?_
   rintro k_ m2 lr1 hf1 hl1 J2 hJ2
   try unfold ym at hf1
   let Z1:List HO:=[Ha (lnM F3_ s_)]
   rcases zC hf1 with ⟨c1,hf1⟩ | ⟨c1,hf1⟩
   ·refine yJ zm hC zU [1,1,2,1,0,0,1] [J1,J2] [0,1,5] (fun z:Unit => xu k_ = some lr1) (fun z => Y4 s_ k_) [(0,.own (eOs 1 false F3_ s_)),(1,.d (.fn 121 [])),(5,.d (I k_))] (Z1 ++ [Hq c1,Hh (.cut 0)]) ?_ fun J3 hJ3 => ?_
    ·rintro ⟨⟩ hf1
     unfold xu at hf1
     obtain rfl:=z8 hf1
     exact yB zm hC hJ2 (w64 (k_ + 1)) hl1 []
    ·obtain ⟨s__e,h0,hf1⟩:=zb hf1
     obtain ⟨s__e1,h1,hf1⟩:=zb hf1
     obtain ⟨r_,h2,hf1⟩:=zb hf1
     let Z2:List HO:=[Hn (iL F3_ h0),Hs (iM F3_ h0),Hn (iL F3_ h1),Hs (iM F3_ h1),Hc h0F (x:=(s__e,s__e1)) h2 (loC F3_ s__e <| loC F3_ s__e1 <| loN)]
     rcases zC hf1 with ⟨c2,hf1⟩ | ⟨c2,hf1⟩
     ·obtain ⟨g0,hf1⟩:=gdE hf1
      refine yJ ((xAs Tryz.prog 6 (Va 1 pv0 k_)).or ((xVw zy 31 0 pv0).or zm)) hC zU [1,1,2,1,0,0,1,2,0,1,0,1] [J1,J2,J3] [0,5] (fun z:List (List Int) × Int => y6 z.1 z.2 = some lr1) (fun z => Y3 z.1 z.2) [(0,.own (eOs 1 false F3_ s_)),(1,.d (.fn 121 [])),(5,.d (I k_)),(6,.d (.atom (Va 1 pv0 k_)))] (Z2 ++ [Hq c2,Hn (⟨.inl rfl,rfl⟩:(T.als 0 [] 0 0 = T.als 0 [] 0 0 ∨ T.als 0 [] 0 0 = T.d (.atom pv0)) ∧ some pv0 = some pv0),Hn (⟨g0.1,cuB F3_ g0⟩:(0:Int) ≤ k_ ∧ k_.toNat ≤ (s_.map F3_).length),Hn (rfl:T.d (.atom (Va 1 pv0 k_)) = T.d (.atom (Va 1 pv0 k_))),Hh (.cut 1)]) ?_ fun J4 hJ4 => ?_
      ·rintro ⟨s_1,k_1⟩ hf1
       unfold y6 at hf1
       obtain ⟨g1,hf1⟩:=gdE hf1
       obtain ⟨g2,hf1⟩:=gdE hf1
       obtain ⟨g3,hf1⟩:=gdE hf1
       obtain rfl:=z8 hf1
       obtain rfl:=hl1
       obtain rfl:=z8 hf0
       exact yE ((xVc zy 61 1 0 pv0 k_1).or ((xVw zy 61 0 pv0).or zm)) hC hE [Hn (⟨.inl rfl,rfl⟩:(T.als 0 [] 0 0 = T.als 0 [] 0 0 ∨ T.als 0 [] 0 0 = T.d (.atom pv0)) ∧ some pv0 = some pv0),Hn (⟨g1.1,cuB F3_ g1⟩:(0:Int) ≤ k_1 ∧ k_1.toNat ≤ (s_1.map F3_).length),Hn (⟨rfl,rfl⟩:T.d (.atom (Va 1 pv0 k_1)) = T.d (.atom (Va 1 pv0 k_1)) ∧ some pv0 = some pv0),Hn (⟨g2.1,cuB F3_ g2,dM F3_ s_1⟩:(0:Int) ≤ k_1 ∧ k_1.toNat ≤ (s_1.map F3_).length ∧ A.areD (s_1.map F3_) = true),Hx (.l ((s_1.take k_1.toNat ++ List.replicate (s_1.length - k_1.toNat) []).map F3_)) (vcM F3_ s_1 k_1.toNat ([]:List Int)),Hn g3.1,Hn (cuB F3_ g3),Hl (cuM F3_ (s_1.take k_1.toNat ++ List.replicate (s_1.length - k_1.toNat) []) k_1)]
      ·obtain ⟨t5,ht5,hf1⟩:=zb hf1
       refine yL zm hC zU [1,1,2,1,0,0,1,2,0,1,0,1,2,1,0] [J1,J2,J3,J4] (fun s => y4 k_ s.1 s.2.1 s.2.2) (fun x => Y0 pv0 k_ x.1 x.2.1 x.2.2) (s_,k_,1) ht5  [] ?_
       rintro ⟨s_2,k_2,k2⟩ m5 lr2 hf2 hl2 J5 hJ5
       try unfold y4 at hf2
       let Z3:List HO:=[Hn (⟨rfl,rfl⟩:T.d (.atom (Va 1 pv0 k_)) = T.d (.atom (Va 1 pv0 k_)) ∧ some pv0 = some pv0),Hx (.a (.atom (.int .i64 ((s_2.length - k_.toNat:Nat):Int)))) (vlM F3_ s_2 k_.toNat)]
       rcases zC hf2 with ⟨c3,hf2⟩ | ⟨c3,hf2⟩
       ·refine yJ ((xVl zy 34 32 1 0 pv0 k_ (by kernel_rfl)).or zm) hC zU [1,1,2,1,0,0,1,2,0,1,0,1,2,1,0,0,1] [J1,J2,J3,J4,J5] [0,1,5,6,7] (fun z:List (List Int) × Int => y5 k2 z.1 z.2 = some lr2) (fun z => Y2 pv0 k_ k2 z.1 z.2) [(0,.own (eOs 1 false F3_ s_2)),(1,.d (.fn 121 [])),(5,.d (I k_2)),(6,.d (.atom (Va 1 pv0 k_))),(7,.d (I k2))] (Z3 ++ [Hq c3,Hh (.cut 0)]) ?_ fun J6 hJ6 => ?_
        ·rintro ⟨s_3,k_3⟩ hf2
         unfold y5 at hf2
         obtain rfl:=z8 hf2
         exact yB zm hC hJ5 (s_3,k_3,w64 (k2 + 1)) hl2 []
        ·obtain ⟨g4,hf2⟩:=gdE hf2
         obtain ⟨s__e2,h3,hf2⟩:=zb hf2
         obtain ⟨g5,hf2⟩:=gdE hf2
         obtain ⟨s__e3,h4,hf2⟩:=zb hf2
         obtain ⟨r_1,h5,hf2⟩:=zb hf2
         let Z4:List HO:=[Hn (⟨rfl,rfl⟩:T.d (.atom (Va 1 pv0 k_)) = T.d (.atom (Va 1 pv0 k_)) ∧ some pv0 = some pv0),Hn (⟨g4.1,g4.2,(iL F3_ h3).2⟩:(0:Int) ≤ k_ ∧ (0:Int) ≤ k2 ∧ (k_ + k2).toNat < (s_2.map F3_).length),Hs (iM F3_ h3),Hn (⟨rfl,rfl⟩:T.d (.atom (Va 1 pv0 k_)) = T.d (.atom (Va 1 pv0 k_)) ∧ some pv0 = some pv0),Hn (⟨g5.1,g5.2,(iL F3_ h4).2⟩:(0:Int) ≤ k_ ∧ (0:Int) ≤ w64 (k2 - 1) ∧ (k_ + (w64 (k2 - 1))).toNat < (s_2.map F3_).length),Hs (iM F3_ h4),Hc h0F (x:=(s__e2,s__e3)) h5 (loC F3_ s__e2 <| loC F3_ s__e3 <| loN)]
         rcases zC hf2 with ⟨c4,hf2⟩ | ⟨c4,hf2⟩
         ·obtain ⟨g6,hf2⟩:=gdE hf2
          obtain ⟨s__e4,h6,hf2⟩:=zb hf2
          obtain ⟨s__e5,h7,hf2⟩:=zb hf2
          exact yB ((xVi zy 54 1 0 pv0 k_).or ((xVi zy 46 1 0 pv0 k_).or ((xVi zy 41 1 0 pv0 k_).or zm))) hC hJ6 ((s_2.set k_2.toNat s__e4),w64 (k_2 + 1)) hf2 (Z4 ++ [Hq c4,Hn (⟨rfl,rfl⟩:T.d (.atom (Va 1 pv0 k_)) = T.d (.atom (Va 1 pv0 k_)) ∧ some pv0 = some pv0),Hn (⟨g6.1,g6.2,(iL F3_ h6).2⟩:(0:Int) ≤ k_ ∧ (0:Int) ≤ k2 ∧ (k_ + k2).toNat < (s_2.map F3_).length),Hs (iM F3_ h6),Hn (iL F3_ h7),Hs (iM F3_ h7),Hs (iM F3_ h7),Hl (sM F3_ s_2 k_2 s__e4)])
         ·exact yB ((xVi zy 46 1 0 pv0 k_).or ((xVi zy 41 1 0 pv0 k_).or zm)) hC hJ6 (s_2,k_2) hf2 (Z4 ++ [Hq c4])
       ·obtain rfl:=z8 hf2
        obtain rfl:=hl2
        exact yB ((xVl zy 34 32 1 0 pv0 k_ (by kernel_rfl)).or zm) hC hJ4 (s_2,k_2) hf1 (Z3 ++ [Hq c3])
     ·exact yB zm hC hJ3 () hf1 (Z2 ++ [Hq c2])
   ·obtain rfl:=z8 hf1
    obtain rfl:=hl1
    exact yB zm hC hJ1 () hf0 (Z1 ++ [Hq c1])
def Ww:Code:=(Tryz.f48.body).getD .skip
def xk:zN:=spR (α:=List (List Int)) (ρ:=List (List Int)) 48 (fun x => [zfx x]) (fun r => (eOs 1 true F3_) r) (fun x => xX x) [true] (Wn)
theorem Ws:∀ x r,(fun x => xX x) x = some r → (Jf.add xk).run 48 ((Jf.add xk).norm 48 ((fun x => [zfx x]) x)) = some ((fun r => (eOs 1 true F3_) r) r):=fun x r h => zka h rfl
theorem Wu:(Jf.add xk).lend 48 = none ∧ (Jf.add xk).gives 48 = [true]:=zeY
theorem uf {ctr:Ctr} (hC:zw Tryz.prog ctr):xk.Ok Tryz.prog:=by
 refine z9g ?_
 rintro s_ r0 hf0
 try unfold xX at hf0
 refine yO true [(2,none)] Ww 9 Tryz.func48 fun E hE => ?_
 obtain rfl:=z8 hf0
 exact yE ((xCl zy 8).or X0) hC hE [Ha (lnM F3_ s_),Ha (lnM F3_ s_),Hn (Int.natCast_nonneg _:(0:Int) ≤ ((s_.length:Nat):Int)),Hn (Int.natCast_nonneg _:(0:Int) ≤ ((s_.length:Nat):Int)),Hn (clB F3_ s_),Ha (clE 1 F3_ s_)]
def Vb:Code:=(Tryz.f111.body).getD .skip
def Yv:zN:=spF (α:=List (List Int)) (ρ:=Int) 111 (fun x => [w8 x]) (fun r => (eI .i64) r) (fun x => Y9 x) [] (Wn)
abbrev z0K (n_:Int):List (Nat × T):=[(2,.d (I n_))]
abbrev z0J (l_:List (List Int)) (n_1:Int) (x7:Int):List (Nat × T):=[(2,.d (I n_1)),(5,.d (eSl 1 false F3_ l_)),(6,.d (I ((l_.length:Nat):Int))),(7,.d (I x7))]
theorem z4m {ctr:Ctr} (hC:zw Tryz.prog ctr):Yv.Ok Tryz.prog:=by
 refine zx ?_
 rintro l_ r0 hf0
 try unfold Y9 at hf0
 refine yO true [(2,none)] Vb 17 Tryz.func111 fun E hE => ?_
 refine yJ X0 hC Vb [1] [] [2] (fun z:Int => WT z = some r0) (fun z => z0K z) [(0,.d (eSl 1 false F3_ l_)),(2,.d (I 0))] [Hh (.cut 1)] ?_ fun J1 hJ1 => ?_
 ·rintro n_ hf0
  unfold WT at hf0
  obtain rfl:=z8 hf0
  exact yE X0 hC hE []
 ·obtain ⟨t2,ht2,hf0⟩:=zb hf0
  refine yL X0 hC Vb [1,2,1,0] [J1] (fun s => qQ l_ s.1 s.2) (fun x => z0J l_ x.1 x.2) (0,0) ht2  [Ha (lnM F3_ l_)] ?_
  rintro ⟨n_1,x7⟩ m2 lr1 hf1 hl1 J2 hJ2
  try unfold qQ at hf1
  rcases zC hf1 with ⟨c0,hf1⟩ | ⟨c0,hf1⟩
  ·obtain ⟨l__e,h0,hf1⟩:=zb hf1
   obtain rfl:=z8 hf1
   exact yB X0 hC hJ2 (w64 (n_1 + ((l__e.length:Nat):Int)),w64 (x7 + 1)) hl1 [Hq c0,Hi F3_ h0,Ha (lnM (eI .i64) l__e)]
  ·obtain rfl:=z8 hf1
   obtain rfl:=hl1
   exact yB X0 hC hJ1 n_1 hf0 [Hq c0]
def vE:Code:=(Tryz.f90.body).getD .skip
def XD:zN:=spF (α:=List (List Int)) (ρ:=List (List Int) × Int) 90 (fun x => [w8 x]) (fun r => .tup [F7_ r.1,(eI .i64) r.2]) (fun x => YF x) [] (Wn)
abbrev KK (out:List (List Int × Bool)):List (Nat × T):=[(4,.own (eOs 1 true (eFl 1 (eI .i64)) out))]
abbrev KJ (pv4:Value) (r_2:List (List Int)) (out2:List (List Int × Bool)) (x24:Int):List (Nat × T):=[(4,.own (eOs 1 true (eFl 1 (eI .i64)) out2)),(22,.d (.atom (Va 1 pv4 (0:Int)))),(23,.d (I ((r_2.length - (0:Int).toNat:Nat):Int))),(24,.d (I x24))]
theorem z3l {ctr:Ctr} (hC:zw Tryz.prog ctr) (h1p:ctr.Has uB) (h0f:ctr.Has qA) (h1q:ctr.Has wr) (h0l:ctr.Has Yv) (h0q:ctr.Has wU) (h01:ctr.Has yC):XD.Ok Tryz.prog:=by
 refine zx ?_
 rintro l_ r0 hf0
 try unfold YF at hf0
 refine yO false [(2,none),(3,none)] vE 37 Tryz.func90 fun E hE => ?_
 obtain ⟨r_,h0,hf0⟩:=zb hf0
 refine yA X0 hC vE [1,1] [] [(4,.own (eOs 1 false F3_ r_))] [Hc h1p (x:=l_) h0 (loC w8 l_ <| loN),Hh (.cut 0)] ?_
 obtain ⟨sorted,h1,hf0⟩:=zb hf0
 refine zaJ (by kernel_rfl) (x:=(sub [1,1,0] vE)) (y:=(sub [1,1,1] vE)) 4 (fun st1 => Own.canon [4] st1 = ofL [(4,.own (eOs 1 false F3_ sorted))]) (fun pv4 => yF ((j8 (P:=Tryz.prog) yN [4] (z9i zgr (f:=F3_) (t:=false) (v:=pv4) (fun _ => rfl) (fun _ => rfl) (fun x y c h => yU hC h0f (x:=(x,y)) h) h1) 10).or X0) hC .normal [(4,.own (eOs 1 false F3_ sorted))] [Hn (YX (f:=.fn 118 []) (xs:=[.atom pv4,.fn 119 []]) (ls:=[(pv4,eOs 1 false F3_ r_)]) (r:=.tup []) (ys:=[eOs 1 false F3_ sorted]) [.atom pv4,.fn 119 []] (show z09 [.atom pv4,.fn 119 []] [.atom pv4,.fn 119 []] from inferInstance))] fun st0 h0 => ⟨rfl,h0⟩) fun st1 h1 => z5h h1 ?_
 obtain ⟨r_1,h2,hf0⟩:=zb hf0
 obtain ⟨r_2,h3,hf0⟩:=zb hf0
 let Z0:List HO:=[Hc h1q (x:=(sorted,())) h2 (loC zfx sorted <| loC (z7e 121) () <| loN),Hh (.g [true]),Hn Wu,Hx (.a ((eOs 1 true F3_) r_2)) (Ws r_1 _ h3),Ha (lnM F3_ r_2)]
 rcases zC hf0 with ⟨c0,hf0⟩ | ⟨c0,hf0⟩
 ·obtain rfl:=z8 hf0
  exact yEx ((z1n zy (uf hC) 13).or X0) hC hE (Z0 ++ (rpN 4 (Hq c0) [qT,Hm (shM F3_ F3_ [])])) (.tup [eSl 1 true F2_ [],I 3]) (show LeV (.tup [eSl 1 true F2_ [],I 3]) (.tup [eSl 1 true F2_ ([]:List (List Int)),I 3]) from inferInstance)
 ·obtain ⟨r_3,h4,hf0⟩:=zb hf0
  let Z1:List HO:=(Z0 ++ [Hq c0,Hq c0,Hg (z1T h0l),Hm (shM F3_ F3_ r_2),Hs (z1U h0l (x:=r_2) h4 (loC F9_ r_2 <| loN)),Hq c0,Hq c0])
  rcases zC hf0 with ⟨c1,hf0⟩ | ⟨c1,hf0⟩
  ·obtain rfl:=z8 hf0
   exact yEx ((z1n zy (uf hC) 13).or X0) hC hE (Z1 ++ [Hq c1,Hm (shM F3_ F3_ [])]) (.tup [eSl 1 true F2_ [],I 3]) (show LeV (.tup [eSl 1 true F2_ [],I 3]) (.tup [eSl 1 true F2_ ([]:List (List Int)),I 3]) from inferInstance)
  ·refine yA ((z1n zy (uf hC) 13).or X0) hC vE [1,1,1,1,1] [] [(4,.own (eOs 1 true F3_ r_2))] (Z1 ++ [Hq c1,Hh (.cut 0)]) ?_
   refine zaL (y:=eOs 1 true F3_ r_2) (by kernel_rfl) 4 (by kernel_rfl) (by kernel_rfl) fun pv4 hv4 => ?_
   refine yJ X0 hC vE [1,1,1,1,1] [] [4] (fun z:List (List Int × Bool) => Zl z = some r0) (fun z => KK z) [(4,.own (eOs 1 true F3_ r_2))] [Hh (.cut 0)] ?_ fun J1 hJ1 => ?_
   ·rintro out hf0
    unfold Zl at hf0
    obtain ⟨hfl0,hf0⟩:=gdE hf0
    obtain rfl:=z8 hf0
    exact yEx X0 hC hE [Hm (shM (eFl 1 (eI .i64)) (eFl 1 (eI .i64)) out)] (.tup [eSl 1 true (eFl 1 (eI .i64)) out,I 0]) (haveI:=flA (s:=1) (t:=1) (b:=true) (f:=(eI .i64)) hfl0; show LeV (.tup [eSl 1 true (eFl 1 (eI .i64)) out,I 0]) (.tup [eSl 1 true F2_ (out.map (·.1)),I 0]) from inferInstance)
   ·obtain ⟨t2,ht2,hf0⟩:=zb hf0
    refine yLx ((xVl zy 23 32 1 4 pv4 (0:Int) (by kernel_rfl)).or ((xMw Tryz.prog 22 4 1 pv4).or X0)) hC vE [1,1,1,1,1,2,1,0] [J1] (fun s => wp r_2 s.1 s.2) (fun x => KJ pv4 r_2 x.1 x.2) ((r_2.map fun q => (q,false)),0) ht2 [(4,.own (eOs 1 true F3_ r_2)),(22,.d (.atom (Va 1 pv4 (0:Int)))),(23,.d (I ((r_2.length - (0:Int).toNat:Nat):Int))),(24,.d (I 0))] inferInstance [Hn (rfl:some pv4 = some pv4),Hn (⟨rfl,rfl⟩:T.d (.atom (Va 1 pv4 (0:Int))) = T.d (.atom (Va 1 pv4 (0:Int))) ∧ some pv4 = some pv4),Hx (.a (.atom (.int .i64 ((r_2.length - (0:Int).toNat:Nat):Int)))) (vlM F3_ r_2 (0:Int).toNat)] ?_
    rintro ⟨out2,x24⟩ m2 lr1 hf1 hl1 J2 hJ2
    try unfold wp at hf1
    rcases zC hf1 with ⟨c2,hf1⟩ | ⟨c2,hf1⟩
    ·obtain ⟨g0,hf1⟩:=gdE hf1
     obtain ⟨out_e,h5,hf1⟩:=zb hf1
     obtain ⟨r_4,h6,hf1⟩:=zb hf1
     obtain ⟨r_5,h7,hf1⟩:=zb hf1
     obtain ⟨out_e1,h8,hf1⟩:=zb hf1
     obtain rfl:=z8 hf1
     exact yB ((xVi zy 27 1 4 pv4 (0:Int)).or X0) hC hJ2 ((out2.set x24.toNat (r_5,true)),w64 (x24 + 1)) hl1 [Hq c2,Hn (⟨rfl,rfl⟩:T.d (.atom (Va 1 pv4 (0:Int))) = T.d (.atom (Va 1 pv4 (0:Int))) ∧ some pv4 = some pv4),Hn (⟨g0.1,g0.2,(iL (eFl 1 (eI .i64)) h5).2⟩:(0:Int) ≤ 0 ∧ (0:Int) ≤ x24 ∧ (0 + x24).toNat < (out2.map (eFl 1 (eI .i64))).length),Hs (iM (eFl 1 (eI .i64)) h5),Hc h0q (x:=out_e.1) h6 (loC (eSl 1 out_e.2 (eI .i64)) out_e.1 <| loN),Hg (z1T h01),Hm (shM (eI .i64) (eI .i64) r_4),Hs (z1U h01 (x:=r_4) h7 (loC F3_ r_4 <| loN)),Hm (shM (eI .i64) (eI .i64) r_4),Hn (iL (eFl 1 (eI .i64)) h8),Hs (iM (eFl 1 (eI .i64)) h8),Hs (iM (eFl 1 (eI .i64)) h8),Hl (sM (eFl 1 (eI .i64)) out2 x24 (r_5,true))]
    ·obtain rfl:=z8 hf1
     obtain rfl:=hl1
     exact yB X0 hC hJ1 out2 hf0 [Hq c2]
def z5a:Code:=(Tryz.f73.body).getD .skip
def Zm:zN:=spF (α:=List (List Int) × Int) (ρ:=List (List Int) × Int) 73 (fun x => [w8 x.1,(eI .i64) x.2]) (fun r => .tup [F7_ r.1,(eI .i64) r.2]) (fun x => Xv x.1 x.2) [] (VA)
theorem z5p {ctr:Ctr} (hC:zw Tryz.prog ctr) (h0t:ctr.Has Yw) (h1r:ctr.Has XD):Zm.Ok Tryz.prog:=by
 refine zx ?_
 rintro ⟨l_,inputs⟩ r0 hf0
 try unfold Xv at hf0
 refine yO false [(4,none),(5,none)] z5a 17 Tryz.func73 fun E hE => ?_
 obtain ⟨r_,h0,hf0⟩:=zb hf0
 let Z0:List HO:=[Hc h0t (x:=(l_,inputs)) h0 (loC w8 l_ <| loC (eI .i64) inputs <| loN)]
 rcases zC hf0 with ⟨c0,hf0⟩ | ⟨c0,hf0⟩
 ·obtain rfl:=z8 hf0
  exact yEx X0 hC hE (Z0 ++ [Hq c0,Hm (shM F3_ F3_ [])]) (.tup [eSl 1 true F2_ [],I r_]) (show LeV (.tup [eSl 1 true F2_ [],I r_]) (.tup [eSl 1 true F2_ ([]:List (List Int)),I r_]) from inferInstance)
 ·obtain ⟨r_1,h1,hf0⟩:=zb hf0
  obtain rfl:=z8 hf0
  exact yE X0 hC hE (Z0 ++ [Hq c0,Hc h1r (x:=l_) h1 (loC w8 l_ <| loN)])
def uV:Code:=(Tryz.f37.body).getD .skip
def XO:zN:=spF (α:=z6 × Unit) (ρ:=List (List Int) × Int) 37 (fun x => [zI x.1,(z7e 38) x.2]) (fun r => .tup [F7_ r.1,(eI .i64) r.2]) (fun x => YM x.1 x.2) [] (by
 rintro ⟨a0,a1⟩ ⟨b0,b1⟩ h
 have e0:=Y6.inj (f:=zI) _ _ (List.cons.inj h).1
 replace h:=(List.cons.inj h).2
 have e1:=Y6.inj (f:=(z7e 38)) _ _ (List.cons.inj h).1
 subst e0 e1
 rfl)
abbrev z05 (m_:z6) (x5:Int) (out:List (List Int)):List (Nat × T):=[(2,.own (.box (zI m_))),(4,.own (.box (eOs 1 true F3_ []))),(5,.own (.box (I x5))),(6,.own (.box (eOs 1 false F2_ out)))]
abbrev ue (m_:z6) (r_1:Int) (x51:Int) (out1:List (List Int)):List (Nat × T):=[(2,.own (.box (zI m_))),(3,.own (.box (.fn 38 []))),(4,.own (.box (eOs 1 true F3_ []))),(5,.own (.box (I x51))),(6,.own (.box (eOs 1 false F2_ out1))),(15,.d (.fn 80 [.sptr (I r_1)]))]
theorem z3u {ctr:Ctr} (hC:zw Tryz.prog ctr) (h05:ctr.Has vo) (h1s:ctr.Has XQ) (h0g:ctr.Has vT) (h07:ctr.Has Zm):XO.Ok Tryz.prog:=by
 refine zx ?_
 rintro ⟨m_,is⟩ r0 hf0
 try unfold YM at hf0
 refine yO false [(4,some 32),(5,some 33)] uV 44 Tryz.func37 fun E hE => ?_
 refine yJ X0 hC uV [1,1] [] [2,4,5,6] (fun z:Int × List (List Int) => ZQ m_ z.1 z.2 = some r0) (fun z => z05 m_ z.1 z.2) [(2,.own (.box (zI m_))),(3,.own (.box (.fn 38 []))),(4,.own (.box (eOs 1 true F3_ []))),(5,.own (.box (I 0))),(6,.own (.box (eOs 1 true F3_ [])))] [Hh (.cut 2)] ?_ fun J1 hJ1 => ?_
 ·rintro ⟨x5,out⟩ hf0
  unfold ZQ at hf0
  obtain ⟨r_,h0,hf0⟩:=zb hf0
  obtain rfl:=z8 hf0
  exact yE X0 hC hE [Hg (z1T h07),Hm (shM F2_ F2_ out),Hs (z1U h07 (x:=(out,m_.Inputs)) h0 (loC (eSl 1 false F2_) out <| loC (eI .i64) m_.Inputs <| loN)),Hm (shM F2_ F2_ out)]
 ·obtain ⟨r_1,h1,hf0⟩:=zb hf0
  obtain ⟨t2,ht2,hf0⟩:=zb hf0
  refine yAt X0 hC (sub [1,1,2,1,0] uV) (frs [1,1,2,1,0] [J1] uV []) [(2,.own (.box (zI m_))),(3,.own (.box (.fn 38 []))),(4,.own (.box (eOs 1 true F3_ []))),(5,.own (.box (I 0))),(6,.own (.box (eOs 1 true F2_ []))),(15,.d (.fn 80 [.sptr (I r_1)]))] [Ha (lnM wS m_.Rows),Hc h05 (x:=((m_.Rows.length:Nat):Int)) h1 (loC (eI .i64) ((m_.Rows.length:Nat):Int) <| loN)] fun st0 h0 => ?_
  refine JH (g:=.tmp 15) (ps:=[16,17]) (assign:=(sub [1,1,2,1,0,0] uV)) (body:=(sub [1,1,2,1,0,1] uV)) (K:=80) (caps:=[.sptr (I r_1)]) (by kernel_rfl) [2,3,4,5,6,15] (fun s => ue m_ r_1 s.1 s.2) (fun s => ue m_ r_1 s.1 s.2) (fun s => Code.ret) ((fun (x:Int × Int) (_:Bool) (_:Value) => [(eI .i64) x.1,(eI .i64) x.2])) (F:=@yW r_1) (fun s x => uP m_ s.1 s.2 x.1 x.2) (0,([]:List (List Int))) t2 _ h0 inferInstance (by kernel_rfl) (by decide) (fun _ => rfl) (fun _ => rfl) (by kernel_rfl) (fun _ _ _ => rfl) (kG hC r_1) ht2 ?_ ?_
  ·rintro tv2 ⟨x51,out1⟩ ⟨x16,x17⟩ vr lr1 hf1
   replace hf1:uP m_ x51 out1 x16 x17 = some lr1:=hf1
   unfold uP at hf1
   refine yF X0 hC .normal [(2,.own (.box (zI m_))),(3,.own (.box (.fn 38 []))),(4,.own (.box (eOs 1 true F3_ []))),(5,.own (.box (I x51))),(6,.own (.box (eOs 1 false F2_ out1))),(7,.d (I x16)),(8,.d (I x17)),(15,.d (.fn 80 [.sptr (I r_1)]))] [] fun st0 h0 => ⟨rfl,z5h h0 ?_⟩
   obtain ⟨r_2,h2,hf1⟩:=zb hf1
   let Z0:List HO:=[Hc h1s (x:=(x16,x17)) h2 (loC (eI .i64) x16 <| loC (eI .i64) x17 <| loN)]
   rcases zC hf1 with ⟨c0,hf1⟩ | ⟨c0,hf1⟩
   ·obtain rfl:=z8 hf1
    exact yF X0 hC .normal (ue m_ r_1 x51 out1) (Z0 ++ [Hq c0]) fun st0 h0 => ⟨rfl,_,h0,LeL.refl _⟩
   ·obtain ⟨r_3,h3,hf1⟩:=zb hf1
    let Z1:List HO:=(Z0 ++ [Hq c0,Hc h0g (x:=(m_,x16,x17)) h3 (loC zI m_ <| loC (eI .i64) x16 <| loC (eI .i64) x17 <| loN)])
    rcases zC hf1 with ⟨c1,hf1⟩ | ⟨c1,hf1⟩
    ·obtain rfl:=z8 hf1
     exact yF X0 hC .ret (ue m_ r_1 r_3.2.2 out1) (Z1 ++ [Hq c1]) fun st0 h0 => ⟨rfl,_,h0,LeL.refl _⟩
    ·obtain ⟨g0,hf1⟩:=gdE hf1
     obtain rfl:=z8 hf1
     exact yF X0 hC .normal (ue m_ r_1 x51 (out1 ++ ([r_3.1]:List (List Int)))) (Z1 ++ [Hq c1,Hq (dM F2_ ([r_3.1]:List (List Int))),Hn (dM F2_ ([r_3.1]:List (List Int))),Hn (aL F2_ F2_ g0),Hl (aM F2_ out1 ([r_3.1]:List (List Int)))]) fun st0 h0 => ⟨rfl,_,h0,LeL.refl _⟩
  ·rcases t2 with ⟨x51,out1⟩ | z
   ·dsimp only at hf0
    exact YR (by kernel_rfl) (hJ1 _ [(2,.own (.box (zI m_))),(4,.own (.box (eOs 1 true F3_ []))),(5,.own (.box (I x51))),(6,.own (.box (eOs 1 false F2_ out1)))] (x51,out1) hf0 (show Own.canon [2,4,5,6] _ = ofL _ by kernel_rfl) inferInstance)
   ·obtain ⟨x51,out1⟩:=z
    dsimp only at hf0
    show AWP _ _ (Code.ret) _ _
    obtain rfl:=z8 hf0
    exact yEx X0 hC hE [Hm (shM F3_ F3_ [])] (.tup [eSl 1 true F2_ [],I x51]) (show LeV (.tup [eSl 1 true F2_ [],I x51]) (.tup [eSl 1 true F2_ ([]:List (List Int)),I x51]) from inferInstance)
def z5g:Code:=(Tryz.f10.body).getD .skip
def Zv:zN:=spF (α:=z6) (ρ:=List (List Int) × Int) 10 (fun x => [zI x]) (fun r => .tup [F7_ r.1,(eI .i64) r.2]) (fun x => j6 x) [] (Wn)
theorem z5x {ctr:Ctr} (hC:zw Tryz.prog ctr) (h0h:ctr.Has vn) (h1t:ctr.Has XO):Zv.Ok Tryz.prog:=by
 refine zx ?_
 rintro m_ r0 hf0
 try unfold j6 at hf0
 refine yO false [(2,none),(3,none)] z5g 14 Tryz.func10 fun E hE => ?_
 obtain ⟨r_,h0,hf0⟩:=zb hf0
 let Z0:List HO:=[Hc h0h (x:=m_) h0 (loC zI m_ <| loN)]
 rcases zC hf0 with ⟨c0,hf0⟩ | ⟨c0,hf0⟩
 ·obtain rfl:=z8 hf0
  exact yEx X0 hC hE (Z0 ++ [Hq c0,Hm (shM F3_ F3_ [])]) (.tup [eSl 1 true F2_ [],I r_]) (show LeV (.tup [eSl 1 true F2_ [],I r_]) (.tup [eSl 1 true F2_ ([]:List (List Int)),I r_]) from inferInstance)
 ·obtain ⟨r_1,h1,hf0⟩:=zb hf0
  obtain rfl:=z8 hf0
  exact yE X0 hC hE (Z0 ++ [Hq c0,Hc h1t (x:=(m_,())) h1 (loC zI m_ <| loC (z7e 38) () <| loN)])
def z0H:Code:=(Tryz.f112.body).getD .skip
def Yg:zN:=spF (α:=z6 × Int) (ρ:=Int) 112 (fun x => [zI x.1,(eI .i64) x.2]) (fun r => (eI .i64) r) (fun x => kE x.1 x.2) [] (VA)
theorem z1u {ctr:Ctr} (hC:zw Tryz.prog ctr) (h02:ctr.Has xM):Yg.Ok Tryz.prog:=by
 refine zx ?_
 rintro ⟨m_,s_⟩ r0 hf0
 try unfold kE at hf0
 refine yO true [(4,none)] z0H 20 Tryz.func112 fun E hE => ?_
 obtain ⟨r_,h0,hf0⟩:=zb hf0
 let Z0:List HO:=[Hc h02 (x:=m_) h0 (loC zI m_ <| loN)]
 rcases zC hf0 with ⟨c0,hf0⟩ | ⟨c0,hf0⟩
 ·obtain rfl:=z8 hf0
  exact yE X0 hC hE (Z0 ++ [Hq c0])
 ·rcases zC hf0 with ⟨c1,hf0⟩ | ⟨c1,hf0⟩
  ·obtain rfl:=z8 hf0
   exact yE X0 hC hE (Z0 ++ (Hq c0 :: (rpN 6 (Hq c1) [qT])))
  ·let Z1:List HO:=(Z0 ++ (Hq c0 :: (rpN 4 (Hq c1) [Ha (lnM wS m_.Rows),Hq c1,Hq c1])))
   rcases zC hf0 with ⟨c2,hf0⟩ | ⟨c2,hf0⟩
   ·obtain rfl:=z8 hf0
    exact yE X0 hC hE (Z1 ++ [Hq c2])
   ·obtain rfl:=z8 hf0
    exact yE X0 hC hE (Z1 ++ [Hq c2])
def ZY:Code:=(Tryz.f114.body).getD .skip
def XL:zN:=spF (α:=z6 × Int × List Int) (ρ:=List Int × Int) 114 (fun x => [zI x.1,(eI .i64) x.2.1,F3_ x.2.2]) (fun r => .tup [F2_ r.1,(eI .i64) r.2]) (fun x => YK x.1 x.2.1 x.2.2) [] (z8V)
abbrev z04 (s_1:Int) (out:List Int):List (Nat × T):=[(1,.d (I s_1)),(8,.own (eOs 1 true (eI .i64) out))]
abbrev z03 (m_:z6) (w_:List Int) (out1:List Int) (x17:Int) (x_To:Int) (x_Out:Int):List (Nat × T):=[(3,.own (.box (zI m_))),(8,.own (eOs 1 true (eI .i64) out1)),(9,.d (I x17)),(11,.own (.box (.agg [I x_To,I x_Out]))),(15,.d (eSl 1 false (eI .i64) w_)),(16,.d (I ((w_.length:Nat):Int))),(17,.d (I x17))]
abbrev z02 (m_:z6) (w_:List Int) (s_2:Int) (out1:List Int) (x17:Int):List (Nat × T):=[(1,.d (I s_2)),(3,.own (.box (zI m_))),(8,.own (eOs 1 true (eI .i64) out1)),(15,.d (eSl 1 false (eI .i64) w_)),(16,.d (I ((w_.length:Nat):Int))),(17,.d (I x17))]
theorem z3s {ctr:Ctr} (hC:zw Tryz.prog ctr) (h0d:ctr.Has qB):XL.Ok Tryz.prog:=by
 refine zx ?_
 rintro ⟨m_,s_,w_⟩ r0 hf0
 try unfold YK at hf0
 refine yO false [(6,none),(7,none)] ZY 43 Tryz.func114 fun E hE => ?_
 obtain ⟨g0,hf0⟩:=gdE hf0
 refine yJ X0 hC ZY [1,1] [] [1,8] (fun z:Int × List Int => ZN z.1 z.2 = some r0) (fun z => z04 z.1 z.2) [(1,.d (I s_)),(2,.d (eSl 1 false (eI .i64) w_)),(3,.own (.box (zI m_))),(8,.own (eOs 1 true (eI .i64) (List.replicate ((w_.length:Nat):Int).toNat (0:Int))))] [Ha (lnM (eI .i64) w_),Hn (rL g0),Ha (rM 1 (eI .i64) ((w_.length:Nat):Int) (0:Int)),Hh (.cut 0)] ?_ fun J1 hJ1 => ?_
 ·rintro ⟨s_1,out⟩ hf0
  unfold ZN at hf0
  obtain rfl:=z8 hf0
  exact yE X0 hC hE [Hm (shM (eI .i64) (eI .i64) out)]
 ·obtain ⟨t2,ht2,hf0⟩:=zb hf0
  refine yL X0 hC ZY [1,1,2,1,0] [J1] (fun s => ZM m_ w_ s.1 s.2.1 s.2.2) (fun x => z02 m_ w_ x.1 x.2.1 x.2.2) (s_,(List.replicate ((w_.length:Nat):Int).toNat (0:Int)),0) ht2  [Ha (lnM (eI .i64) w_)] ?_
  rintro ⟨s_2,out1,x17⟩ m2 lr1 hf1 hl1 J2 hJ2
  try unfold ZM at hf1
  rcases zC hf1 with ⟨c0,hf1⟩ | ⟨c0,hf1⟩
  ·obtain ⟨w__e,h0,hf1⟩:=zb hf1
   obtain ⟨r_,h1,hf1⟩:=zb hf1
   refine yJ X0 hC ZY [1,1,2,1,0,0,1,1,0,0,1,1] [J1,J2] [3,8,9,11,15,16,17] (fun z:Int × Int => jQ out1 x17 z.1 z.2 = some lr1) (fun z => z03 m_ w_ out1 x17 z.1 z.2) [(1,.d (I s_2)),(3,.own (.box (zI m_))),(8,.own (eOs 1 true (eI .i64) out1)),(9,.d (I x17)),(10,.d (I w__e)),(11,.own (.box (F6_ r_))),(15,.d (eSl 1 false (eI .i64) w_)),(16,.d (I ((w_.length:Nat):Int))),(17,.d (I x17))] [Hq c0,Hi (eI .i64) h0,Hc h0d (x:=()) h1 (loN),Hh (.cut 0)] ?_ fun J3 hJ3 => ?_
   ·rintro ⟨x_To,x_Out⟩ hf1
    unfold jQ at hf1
    obtain ⟨out_e,h2,hf1⟩:=zb hf1
    obtain rfl:=z8 hf1
    exact yB X0 hC hJ2 (x_To,(out1.set x17.toNat x_Out),w64 (x17 + 1)) hl1 [Hn (iL (eI .i64) h2),Hs (iM (eI .i64) h2),Hs (iM (eI .i64) h2),Hl (sM (eI .i64) out1 x17 x_Out)]
   ·rcases zC hf1 with ⟨c1,hf1⟩ | ⟨c1,hf1⟩
    ·obtain ⟨Row_e,h3,hf1⟩:=zb hf1
     obtain ⟨Row_e_e,h4,hf1⟩:=zb hf1
     exact yB X0 hC hJ3 (Row_e_e.To,Row_e_e.Out) hf1 [Hq c1,Hi wS h3,Hi F6_ h4]
    ·exact yB X0 hC hJ3 (r_.To,r_.Out) hf1 [Hq c1]
  ·obtain rfl:=z8 hf1
   obtain rfl:=hl1
   exact yB X0 hC hJ1 (s_2,out1) hf0 [Hq c0]
def z35:Code:=(Tryz.f79.body).getD .skip
def XM:zN:=spF (α:=z6 × Int × List Int) (ρ:=List Int × Int) 79 (fun x => [zI x.1,(eI .i64) x.2.1,F3_ x.2.2]) (fun r => .tup [F2_ r.1,(eI .i64) r.2]) (fun x => YL x.1 x.2.1 x.2.2) [] (z8V)
theorem z3t {ctr:Ctr} (hC:zw Tryz.prog ctr) (h1u:ctr.Has Yg) (h0r:ctr.Has Yu) (h1v:ctr.Has XL):XM.Ok Tryz.prog:=by
 refine zx ?_
 rintro ⟨m_,s_,w_⟩ r0 hf0
 try unfold YL at hf0
 refine yO false [(6,none),(7,none)] z35 33 Tryz.func79 fun E hE => ?_
 obtain ⟨r_,h0,hf0⟩:=zb hf0
 let Z0:List HO:=[Hc h1u (x:=(m_,s_)) h0 (loC zI m_ <| loC (eI .i64) s_ <| loN)]
 rcases zC hf0 with ⟨c0,hf0⟩ | ⟨c0,hf0⟩
 ·obtain rfl:=z8 hf0
  exact yEx X0 hC hE (Z0 ++ [Hq c0,Hm (shM (eI .i64) (eI .i64) [])]) (.tup [eSl 1 true (eI .i64) [],I r_]) (show LeV (.tup [eSl 1 true (eI .i64) [],I r_]) (.tup [eSl 1 true (eI .i64) ([]:List Int),I r_]) from inferInstance)
 ·obtain ⟨r_1,h1,hf0⟩:=zb hf0
  let Z1:List HO:=(Z0 ++ [Hq c0,Hc h0r (x:=(w_,m_.Inputs)) h1 (loC F3_ w_ <| loC (eI .i64) m_.Inputs <| loN)])
  rcases zC hf0 with ⟨c1,hf0⟩ | ⟨c1,hf0⟩
  ·obtain rfl:=z8 hf0
   exact yEx X0 hC hE (Z1 ++ [Hq c1,Hm (shM (eI .i64) (eI .i64) [])]) (.tup [eSl 1 true (eI .i64) [],I r_1]) (show LeV (.tup [eSl 1 true (eI .i64) [],I r_1]) (.tup [eSl 1 true (eI .i64) ([]:List Int),I r_1]) from inferInstance)
  ·obtain ⟨r_2,h2,hf0⟩:=zb hf0
   obtain rfl:=z8 hf0
   exact yE X0 hC hE (Z1 ++ [Hq c1,Hc h1v (x:=(m_,s_,w_)) h2 (loC zI m_ <| loC (eI .i64) s_ <| loC F3_ w_ <| loN)])
def W7:Code:=(Tryz.f48.body).getD .skip
def yQ:zN:=spR (α:=List (List Int)) (ρ:=List (List Int)) 48 (fun x => [(eOs 1 false F2_) x]) (fun r => F8_ r) (fun x => yg x) [true] (Wn)
theorem jR:∀ x r,(fun x => yg x) x = some r → (Jf.add yQ).run 48 ((Jf.add yQ).norm 48 ((fun x => [(eOs 1 false F2_) x]) x)) = some ((fun r => F8_ r) r):=fun x r h => zka h rfl
theorem jS:(Jf.add yQ).lend 48 = none ∧ (Jf.add yQ).gives 48 = [true]:=zeY
theorem ko {ctr:Ctr} (hC:zw Tryz.prog ctr):yQ.Ok Tryz.prog:=by
 refine z9g ?_
 rintro s_ r0 hf0
 try unfold yg at hf0
 refine yO true [(2,none)] W7 9 Tryz.func48 fun E hE => ?_
 obtain rfl:=z8 hf0
 exact yE ((xCl zy 8).or X0) hC hE [Ha (lnM F2_ s_),Ha (lnM F2_ s_),Hn (Int.natCast_nonneg _:(0:Int) ≤ ((s_.length:Nat):Int)),Hn (Int.natCast_nonneg _:(0:Int) ≤ ((s_.length:Nat):Int)),Hn (clB F2_ s_),Ha (clE 1 F2_ s_)]
def Zd:Code:=(Tryz.f50.body).getD .skip
def we:zN:=spF (α:=z6 × List (List Int) × Int) (ρ:=List (List Int)) 50 (fun x => [zI x.1,w8 x.2.1,(eI .i64) x.2.2]) (fun r => F8_ r) (fun x => xJ x.1 x.2.1 x.2.2) [] (z8V)
abbrev Uz (out:List (List Int)):List (Nat × T):=[(7,.own (eOs 1 false F2_ out))]
abbrev Uy (m_:z6) (l_:List (List Int)) (s_:Int) (out1:List (List Int)) (x14:Int):List (Nat × T):=[(2,.d (I s_)),(3,.own (.box (zI m_))),(7,.own (eOs 1 false F2_ out1)),(12,.d (eSl 1 false F3_ l_)),(13,.d (I ((l_.length:Nat):Int))),(14,.d (I x14))]
theorem Kl {ctr:Ctr} (hC:zw Tryz.prog ctr) (h1w:ctr.Has XM):we.Ok Tryz.prog:=by
 refine zx ?_
 rintro ⟨m_,l_,s_⟩ r0 hf0
 try unfold xJ at hf0
 refine yO true [(6,none)] Zd 32 Tryz.func50 fun E hE => ?_
 refine yJ X0 hC Zd [1,1] [] [7] (fun z:List (List Int) => qm z = some r0) (fun z => Uz z) [(1,.d (eSl 1 false F3_ l_)),(2,.d (I s_)),(3,.own (.box (zI m_))),(7,.own (eOs 1 true F3_ []))] [Hh (.cut 2)] ?_ fun J1 hJ1 => ?_
 ·rintro out hf0
  unfold qm at hf0
  obtain ⟨r_,h0,hf0⟩:=zb hf0
  obtain rfl:=z8 hf0
  exact yE ((z1n zy (ko hC) 31).or X0) hC hE [Hh (.g [true]),Hn jS,Hx (.a (F8_ r_)) (jR out _ h0)]
 ·obtain ⟨t2,ht2,hf0⟩:=zb hf0
  refine yLx X0 hC Zd [1,1,2,1,0] [J1] (fun s => yT m_ l_ s_ s.1 s.2) (fun x => Uy m_ l_ s_ x.1 x.2) (([]:List (List Int)),0) ht2 [(2,.d (I s_)),(3,.own (.box (zI m_))),(7,.own (eOs 1 true F2_ [])),(12,.d (eSl 1 false F3_ l_)),(13,.d (I ((l_.length:Nat):Int))),(14,.d (I 0))] inferInstance [Ha (lnM F3_ l_)] ?_
  rintro ⟨out1,x14⟩ m2 lr1 hf1 hl1 J2 hJ2
  try unfold yT at hf1
  rcases zC hf1 with ⟨c0,hf1⟩ | ⟨c0,hf1⟩
  ·obtain ⟨l__e,h1,hf1⟩:=zb hf1
   obtain ⟨r_1,h2,hf1⟩:=zb hf1
   obtain ⟨g0,hf1⟩:=gdE hf1
   obtain rfl:=z8 hf1
   exact yB X0 hC hJ2 ((out1 ++ ([r_1.1]:List (List Int))),w64 (x14 + 1)) hl1 [Hq c0,Hi F3_ h1,Hc h1w (x:=(m_,s_,l__e)) h2 (loC zI m_ <| loC (eI .i64) s_ <| loC F3_ l__e <| loN),Hq (dM F2_ ([r_1.1]:List (List Int))),Hn (dM F2_ ([r_1.1]:List (List Int))),Hn (aL F2_ F2_ g0),Hl (aM F2_ out1 ([r_1.1]:List (List Int)))]
  ·obtain rfl:=z8 hf1
   obtain rfl:=hl1
   exact yB X0 hC hJ1 out1 hf0 [Hq c0]
def Q3:Code:=(Tryz.f81.body).getD .skip
def jE:zN:=spF (α:=List Int × List Int) (ρ:=Bool) 81 (fun x => [F3_ x.1,F3_ x.2]) (fun r => eB r) (fun x => jp x.1 x.2) [] (VA)
theorem QH {ctr:Ctr} (hC:zw Tryz.prog ctr) (h0a:ctr.Has xU):jE.Ok Tryz.prog:=by
 refine zx ?_
 rintro ⟨x_,y_⟩ r0 hf0
 try unfold jp at hf0
 refine yO true [(4,none)] Q3 8 Tryz.func81 fun E hE => ?_
 obtain ⟨r_,h0,hf0⟩:=zb hf0
 obtain rfl:=z8 hf0
 exact yE X0 hC hE [Hc h0a (x:=(x_,y_)) h0 (loC F3_ x_ <| loC F3_ y_ <| loN)]
def xG:Code:=(Tryz.f56.body).getD .skip
def xA:zN:=spF (α:=List (List Int) × List (List Int) × Unit) (ρ:=Bool) 56 (fun x => [w8 x.1,w8 x.2.1,(z7e 81) x.2.2]) (fun r => eB r) (fun x => yG x.1 x.2.1 x.2.2) [] (by
 rintro ⟨a0,a1,a2⟩ ⟨b0,b1,b2⟩ h
 have e0:=Y6.inj (f:=w8) _ _ (List.cons.inj h).1
 replace h:=(List.cons.inj h).2
 have e1:=Y6.inj (f:=w8) _ _ (List.cons.inj h).1
 replace h:=(List.cons.inj h).2
 have e2:=Y6.inj (f:=(z7e 81)) _ _ (List.cons.inj h).1
 subst e0 e1 e2
 rfl)
abbrev jX:List (Nat × T):=[]
abbrev jW (s1:List (List Int)) (s2:List (List Int)) (x17:Int):List (Nat × T):=[(1,.d (eSl 1 false F3_ s2)),(2,.d (.fn 81 [])),(15,.d (eSl 1 false F3_ s1)),(16,.d (I ((s1.length:Nat):Int))),(17,.d (I x17))]
theorem kX {ctr:Ctr} (hC:zw Tryz.prog ctr) (h1x:ctr.Has jE):xA.Ok Tryz.prog:=by
 refine zx ?_
 rintro ⟨s1,s2,eq⟩ r0 hf0
 try unfold yG at hf0
 refine yO true [(6,none)] xG 32 Tryz.func56 fun E hE => ?_
 let Z0:List HO:=[Ha (lnM F3_ s1),Ha (lnM F3_ s2)]
 rcases zC hf0 with ⟨c0,hf0⟩ | ⟨c0,hf0⟩
 ·obtain rfl:=z8 hf0
  exact yE X0 hC hE (Z0 ++ [Hq c0])
 ·refine yJ X0 hC xG [1,1] [] [] (fun z:Unit => xC = some r0) (fun z => jX) [(0,.d (eSl 1 false F3_ s1)),(1,.d (eSl 1 false F3_ s2)),(2,.d (.fn 81 []))] (Z0 ++ [Hq c0,Hh (.cut 0)]) ?_ fun J1 hJ1 => ?_
  ·rintro ⟨⟩ hf0
   unfold xC at hf0
   obtain rfl:=z8 hf0
   exact yE X0 hC hE []
  ·obtain ⟨t2,ht2,hf0⟩:=zb hf0
   refine yL X0 hC xG [1,1,2,1,0] [J1] (fun s => zQ s1 s2 s) (fun x => jW s1 s2 x) 0 ht2  [Ha (lnM F3_ s1)] ?_
   rintro x17 m2 lr1 hf1 hl1 J2 hJ2
   try unfold zQ at hf1
   rcases zC hf1 with ⟨c1,hf1⟩ | ⟨c1,hf1⟩
   ·obtain ⟨s_e,h0,hf1⟩:=zb hf1
    obtain ⟨s_e1,h1,hf1⟩:=zb hf1
    obtain ⟨r_,h2,hf1⟩:=zb hf1
    let Z1:List HO:=[Hq c1,Hi F3_ h0,Hi F3_ h1,Hc h1x (x:=(s_e,s_e1)) h2 (loC F3_ s_e <| loC F3_ s_e1 <| loN)]
    rcases zC hf1 with ⟨c2,hf1⟩ | ⟨c2,hf1⟩
    ·obtain rfl:=z8 hf1
     obtain rfl:=hl1
     obtain rfl:=z8 hf0
     exact yE X0 hC hE (Z1 ++ [Hq c2])
    ·obtain rfl:=z8 hf1
     exact yB X0 hC hJ2 (w64 (x17 + 1)) hl1 (Z1 ++ [Hq c2])
   ·obtain rfl:=z8 hf1
    obtain rfl:=hl1
    exact yB X0 hC hJ1 () hf0 [Hq c1]
def JF:Code:=(Tryz.f52.body).getD .skip
def vp:zN:=spF (α:=List (List Int) × List (List Int)) (ρ:=Bool) 52 (fun x => [w8 x.1,w8 x.2]) (fun r => eB r) (fun x => wP x.1 x.2) [] (VA)
theorem Kn {ctr:Ctr} (hC:zw Tryz.prog ctr) (h1y:ctr.Has xA):vp.Ok Tryz.prog:=by
 refine zx ?_
 rintro ⟨a_,b_⟩ r0 hf0
 try unfold wP at hf0
 refine yO true [(4,none)] JF 8 Tryz.func52 fun E hE => ?_
 obtain ⟨r_,h0,hf0⟩:=zb hf0
 obtain rfl:=z8 hf0
 exact yE X0 hC hE [Hc h1y (x:=(a_,b_,())) h0 (loC w8 a_ <| loC w8 b_ <| loC (z7e 81) () <| loN)]
end Go.Own
end
