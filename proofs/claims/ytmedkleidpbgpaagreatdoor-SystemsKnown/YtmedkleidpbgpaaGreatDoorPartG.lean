/- Walks, further. -/
import Derived.Test.YtmedkleidpbgpaaGreatDoorPartF
import Derived.Test.YtmedkleidpbgpaaGreatDoorPartC
import Derived.Test.YtmedkleidpbgpaaGreatDoorPartE
noncomputable section
set_option linter.unusedVariables false
set_option linter.unusedSimpArgs false
namespace Go.Own
theorem oB {α : Type _} {β : Type _} (a : α) (f : α → Option β) : Option.bind (some a) f = f a := rfl
open Go.Proofs
set_option maxRecDepth 100000
set_option maxHeartbeats 8000000
def Wi : Code := (Tryz.f44.body).getD .skip
def ZN : wI := spF (α := z8 × z8) (ρ := Int) 44 (fun x => [uK x.1, uK x.2]) (fun r => (eI .i64) r) (fun x => Va x.1 x.2) [] (Uz)
abbrev Jn : List (Nat × T) := []
abbrev Jm (a_ : z8) (b_ : z8) (i_ : Int) : List (Nat × T) := [(2, .own (.box (uK a_))), (3, .own (.box (uK b_))), (5, .d (I i_))]
variable {ctr : Ctr}
theorem z1z (hC : zO Tryz.prog ctr) (h0m : ctr.Has ZO) : ZN.Ok Tryz.prog := by
 refine zY ?_
 rintro ⟨a_, b_⟩ r0 aa
 try unfold Va at aa
 refine yO true [(4, none)] Wi 40 Tryz.func44 fun E hE => ?_
 obtain ⟨r_, h0, aa⟩ := zj aa
 let Z0 : List HO := [Hc h0m (x := (a_.States, b_.States)) h0 (loC F3_ a_.States <| loC F3_ b_.States <| loN)]
 rcases zJ aa with ⟨c0, aa⟩ | ⟨c0, aa⟩
 ·obtain rfl := zi aa
  exact yE X0 hC hE (Z0 ++ (rpN 8 (Hq c0) [qT]))
 ·let Z1 : List HO := (Z0 ++ [Hq c0, Hq c0, Hq c0, Ha (lnM F3_ a_.Queues), Hq c0, Hq c0, Hq c0, Ha (lnM F3_ b_.Queues), Hq c0, Hq c0])
  rcases zJ aa with ⟨c1, aa⟩ | ⟨c1, aa⟩
  ·obtain rfl := zi aa
   exact yE X0 hC hE (Z1 ++ [Hq c1])
  ·refine yJ X0 hC Wi [1,1] [] [] (fun z : Unit => W0 = some r0) (fun z => Jn) [(2, .own (.box (uK a_))), (3, .own (.box (uK b_)))] (Z1 ++ [Hq c1, Hh (.cut 0)]) ?_ fun J1 a8 => ?_
   ·rintro ⟨⟩ aa
    unfold W0 at aa
    obtain rfl := zi aa
    exact yE X0 hC hE []
   ·obtain ⟨t2, ht2, aa⟩ := zj aa
    refine yL X0 hC Wi [1,1,2,1,0] [J1] (fun s => XZ a_ b_ s) (fun x => Jm a_ b_ x) 0 ht2  [] ?_
    rintro i_ m2 bh ae hl1 J2 ba
    try unfold XZ at ae
    let Z2 : List HO := [Ha (lnM F3_ a_.Queues)]
    rcases zJ ae with ⟨c2, ae⟩ | ⟨c2, ae⟩
    ·obtain ⟨a7, h1, ae⟩ := zj ae
     obtain ⟨ee, h2, ae⟩ := zj ae
     obtain ⟨al, h3, ae⟩ := zj ae
     let Z3 : List HO := (Z2 ++ [Hq c2, Hi F3_ h1, Hi F3_ h2, Hc h0m (x := (a7, ee)) h3 (loC F3_ a7 <| loC F3_ ee <| loN)])
     rcases zJ ae with ⟨c3, ae⟩ | ⟨c3, ae⟩
     ·obtain rfl := zi ae
      obtain rfl := hl1
      obtain rfl := zi aa
      exact yE X0 hC hE (Z3 ++ [Hq c3])
     ·obtain rfl := zi ae
      exact yB X0 hC ba (w64 (i_ + 1)) hl1 (Z3 ++ [Hq c3])
    ·obtain rfl := zi ae
     obtain rfl := hl1
     exact yB X0 hC a8 () aa (Z2 ++ [Hq c2])
def vC : Code := (Tryz.f41.body).getD .skip
def YU : wI := spF (α := List z8 × List (List z7) × List z8 × List (List z7)) (ρ := Int) 41 (fun x => [z6I x.1, z3w x.2.1, zaR x.2.2.1, zcg x.2.2.2]) (fun r => (eI .i64) r) (fun x => W8 x.1 x.2.1 x.2.2.1 x.2.2.2) [] (zed)
abbrev QN : List (Nat × T) := []
abbrev QM (s_ : List (List z7)) (bg : List (List z7)) (i_ : Int) (lq : List z7) (lu : List z7) (lv : Int) (lw : List z7) (ly : List z7) (lz : Int) (l4 : Bool) : List (Nat × T) := [(1, .d (eSl 1 true wq s_)), (3, .d (eSl 1 false V7 bg)), (10, .d (I i_)), (72, .d (eSl 1 true wq s_)), (73, .d (I i_)), (74, .d (.sptr (eSl 5 true Zi lq))), (75, .d (eSl 5 true Zi lu)), (76, .d (I lv)), (77, .d (eSl 1 true wq s_)), (78, .d (I i_)), (79, .d (.sptr (eSl 5 true Zi lw))), (80, .d (eSl 5 true Zi ly)), (81, .d (I lz)), (82, .d (B l4))]
abbrev QK (s_ : List (List z7)) (bg : List (List z7)) (i_ : Int) (ca : List z7) (ce : List z7) (k_ : Int) : List (Nat × T) := [(1, .d (eSl 1 true wq s_)), (3, .d (eSl 1 false V7 bg)), (10, .d (I i_)), (11, .d (I k_)), (72, .d (eSl 1 true wq s_)), (73, .d (I i_)), (74, .d (.sptr (eSl 5 true Zi ca))), (75, .d (eSl 5 true Zi ca)), (76, .d (I ((ca.length : Nat) : Int))), (77, .d (eSl 1 true wq s_)), (78, .d (I i_)), (79, .d (.sptr (eSl 5 true Zi ce))), (80, .d (eSl 5 true Zi ce)), (81, .d (I ((ce.length : Nat) : Int))), (82, .d (B (((ca.length : Nat) : Int) != ((ce.length : Nat) : Int))))]
abbrev QL (s_ : List (List z7)) (bg : List (List z7)) (i_ : Int) : List (Nat × T) := [(1, .d (eSl 1 true wq s_)), (3, .d (eSl 1 false V7 bg)), (10, .d (I i_))]
abbrev QO (s_ : List (List z7)) (bg : List (List z7)) : List (Nat × T) := [(1, .d (eSl 1 true wq s_)), (3, .d (eSl 1 false V7 bg))]
abbrev QJ (c_ : List z8) (s_ : List (List z7)) (list : List z8) (bg : List (List z7)) (cm : Int) : List (Nat × T) := [(0, .d (eSl 2 true uK c_)), (1, .d (eSl 1 true wq s_)), (2, .d (eSl 2 false uK list)), (3, .d (eSl 1 false V7 bg)), (9, .d (I cm))]
theorem z0K (hC : zO Tryz.prog ctr) (h0p : ctr.Has ZN) : YU.Ok Tryz.prog := by
 refine zY ?_
 rintro ⟨c_, s_, list, bg⟩ r0 aa
 try unfold W8 at aa
 refine yO true [(8, none)] vC 108 Tryz.func41 fun E hE => ?_
 let Z0 : List HO := [Ha (lnM uK c_), Ha (lnM uK list)]
 rcases zJ aa with ⟨c0, aa⟩ | ⟨c0, aa⟩
 ·obtain rfl := zi aa
  exact yE X0 hC hE (Z0 ++ (rpN 6 (Hq c0) (rpN 13 qT [])))
 ·let Z1 : List HO := (Z0 ++ [Hq c0, Hq c0, Ha (lnM wq s_), Hq c0, Hq c0, Ha (lnM V7 bg), Hq c0, Hq c0])
  rcases zJ aa with ⟨c1, aa⟩ | ⟨c1, aa⟩
  ·obtain rfl := zi aa
   exact yE X0 hC hE (Z1 ++ (rpN 6 (Hq c1) (rpN 7 qT [])))
  ·let Z2 : List HO := (Z1 ++ [Hq c1, Hq c1, Ha (lnM uK c_), Hq c1, Hq c1, Ha (lnM uK c_), Hq c1, Hq c1])
   rcases zJ aa with ⟨c2, aa⟩ | ⟨c2, aa⟩
   ·obtain rfl := zi aa
    exact yE X0 hC hE (Z2 ++ (rpN 6 (Hq c2) [qT]))
   ·let Z3 : List HO := (Z2 ++ [Hq c2, Hq c2, Ha (lnM wq s_), Hq c2, Hq c2, Ha (lnM wq s_), Hq c2, Hq c2])
    rcases zJ aa with ⟨c3, aa⟩ | ⟨c3, aa⟩
    ·obtain rfl := zi aa
     exact yE X0 hC hE (Z3 ++ [Hq c3])
    ·refine yJ X0 hC vC [1,1] [] [1,3] (fun z : Unit => Xe s_ bg = some r0) (fun z => QO s_ bg) [(0, .d (eSl 2 true uK c_)), (1, .d (eSl 1 true wq s_)), (2, .d (eSl 2 false uK list)), (3, .d (eSl 1 false V7 bg))] (Z3 ++ [Hq c3, Hh (.cut 0)]) ?_ fun J1 a8 => ?_
     ·rintro ⟨⟩ aa
      unfold Xe at aa
      refine yJ X0 hC vC [1,1,1] [] [] (fun z : Unit => Xd = some r0) (fun z => QN) [(1, .d (eSl 1 true wq s_)), (3, .d (eSl 1 false V7 bg))] [Hh (.cut 0)] ?_ fun J2 ba => ?_
      ·rintro ⟨⟩ aa
       unfold Xd at aa
       obtain rfl := zi aa
       exact yE X0 hC hE []
      ·obtain ⟨t3, ht3, aa⟩ := zj aa
       refine yL X0 hC vC [1,1,1,2,1,0] [J2] (fun s => Xb s_ bg s) (fun x => QL s_ bg x) 0 ht3  [] ?_
       rintro i_ m3 bh ae hl1 J3 cp
       try unfold Xb at ae
       let Z4 : List HO := [Ha (lnM wq s_)]
       rcases zJ ae with ⟨c4, ae⟩ | ⟨c4, ae⟩
       ·refine yJ X0 hC vC [1,1,1,2,1,0,0,1] [J2, J3] [1,3,10,72,73,74,75,76,77,78,79,80,81,82] (fun z : List z7 × List z7 × Int × List z7 × List z7 × Int × Bool => Xc i_ z.1 z.2.1 z.2.2.1 z.2.2.2.1 z.2.2.2.2.1 z.2.2.2.2.2.1 z.2.2.2.2.2.2 = some bh) (fun z => QM s_ bg i_ z.1 z.2.1 z.2.2.1 z.2.2.2.1 z.2.2.2.2.1 z.2.2.2.2.2.1 z.2.2.2.2.2.2) [(1, .d (eSl 1 true wq s_)), (3, .d (eSl 1 false V7 bg)), (10, .d (I i_))] (Z4 ++ [Hq c4, Hh (.cut 0)]) ?_ fun J4 dv => ?_
        ·rintro ⟨lq, lu, lv, lw, ly, lz, l4⟩ ae
         unfold Xc at ae
         obtain rfl := zi ae
         exact yB X0 hC cp (w64 (i_ + 1)) hl1 []
        ·obtain ⟨bo, h0, ae⟩ := zj ae
         obtain ⟨kb, h1, ae⟩ := zj ae
         let Z5 : List HO := [Hi wq h0, Ha (lnM Zi bo), Hi V7 h1, Ha (lnM Zi kb)]
         rcases zJ ae with ⟨c5, ae⟩ | ⟨c5, ae⟩
         ·obtain rfl := zi ae
          obtain rfl := hl1
          obtain rfl := zi aa
          exact yE X0 hC hE (Z5 ++ (rpN 12 (Hq c5) [qT]))
         ·obtain ⟨ca, h2, ae⟩ := zj ae
          obtain ⟨ce, h3, ae⟩ := zj ae
          let Z6 : List HO := (Z5 ++ [Hq c5, Hq c5, Hq c5, Hi wq h2, Hq c5, Hq c5, Ha (lnM Zi ca), Hq c5, Hq c5, Hq c5, Hi wq h3, Hq c5, Hq c5, Ha (lnM Zi ce), Hq c5, Hq c5])
          rcases zJ ae with ⟨c6, ae⟩ | ⟨c6, ae⟩
          ·obtain rfl := zi ae
           obtain rfl := hl1
           obtain rfl := zi aa
           exact yE X0 hC hE (Z6 ++ [Hq c6])
          ·obtain ⟨t5, ht5, ae⟩ := zj ae
           refine yL X0 hC vC [1,1,1,2,1,0,0,1,2,0,1,1,0] [J2, J3, J4] (fun s => Xa s_ bg i_ ca ce s) (fun x => QK s_ bg i_ ca ce x) 0 ht5  (Z6 ++ [Hq c6]) ?_
           rintro k_ m5 fp ak hl2 J5 gh
           try unfold Xa at ak
           obtain ⟨gr, h4, ak⟩ := zj ak
           let Z7 : List HO := [Hi wq h4, Ha (lnM Zi gr)]
           rcases zJ ak with ⟨c7, ak⟩ | ⟨c7, ak⟩
           ·obtain ⟨gw, h5, ak⟩ := zj ak
            obtain ⟨gu, h6, ak⟩ := zj ak
            obtain ⟨ki, h7, ak⟩ := zj ak
            obtain ⟨ft, h8, ak⟩ := zj ak
            let Z8 : List HO := (Z7 ++ [Hq c7, Hi wq h5, Hi Zi h6, Hi V7 h7, Hi Zi h8])
            rcases zJ ak with ⟨c8, ak⟩ | ⟨c8, ak⟩
            ·obtain rfl := zi ak
             obtain rfl := hl2
             obtain rfl := zi ae
             obtain rfl := hl1
             obtain rfl := zi aa
             exact yE ((zcy zC 107).or X0) hC hE (Z8 ++ [Hq c8])
            ·obtain rfl := zi ak
             exact yB ((zcy zC 107).or X0) hC gh (w64 (k_ + 1)) hl2 (Z8 ++ [Hq c8])
           ·obtain rfl := zi ak
            obtain rfl := hl2
            exact yB X0 hC dv (ca, ca, ((ca.length : Nat) : Int), ce, ce, ((ce.length : Nat) : Int), ((ca.length : Nat) : Int) != ((ce.length : Nat) : Int)) ae (Z7 ++ [Hq c7])
       ·obtain rfl := zi ae
        obtain rfl := hl1
        exact yB X0 hC ba () aa (Z4 ++ [Hq c4])
     ·obtain ⟨t6, ht6, aa⟩ := zj aa
      refine yL X0 hC vC [1,1,2,1,0] [J1] (fun s => X9 c_ list s) (fun x => QJ c_ s_ list bg x) 0 ht6  [] ?_
      rintro cm m6 bh ae hl1 J6 gb
      try unfold X9 at ae
      let Z9 : List HO := [Ha (lnM uK c_)]
      rcases zJ ae with ⟨c9, ae⟩ | ⟨c9, ae⟩
      ·obtain ⟨kn, h9, ae⟩ := zj ae
       obtain ⟨fh, h10, ae⟩ := zj ae
       obtain ⟨r_, h11, ae⟩ := zj ae
       let Z10 : List HO := (Z9 ++ [Hq c9, Hi uK h9, Hi uK h10, Hc h0p (x := (kn, fh)) h11 (loC uK kn <| loC uK fh <| loN)])
       rcases zJ ae with ⟨c10, ae⟩ | ⟨c10, ae⟩
       ·obtain rfl := zi ae
        obtain rfl := hl1
        obtain rfl := zi aa
        exact yE X0 hC hE (Z10 ++ [Hq c10])
       ·obtain rfl := zi ae
        exact yB X0 hC gb (w64 (cm + 1)) hl1 (Z10 ++ [Hq c10])
      ·obtain rfl := zi ae
       obtain rfl := hl1
       exact yB X0 hC a8 () aa (Z9 ++ [Hq c9])
def uG : Code := (Tryz.f42.body).getD .skip
def ZA : wI := spF (α := zB × zB) (ρ := Int) 42 (fun x => [z4M x.1, z4M x.2]) (fun r => (eI .i64) r) (fun x => ZQ x.1 x.2) [] (Uz)
abbrev Un : List (Nat × T) := []
abbrev Um (a_ : zB) (b_ : zB) (i_ : Int) : List (Nat × T) := [(2, .own (.box (z4M a_))), (3, .own (.box (z4M b_))), (5, .d (I i_))]
abbrev Uk (a_ : zB) (b_ : zB) (i_ : Int) (k_ : Int) : List (Nat × T) := [(2, .own (.box (z4M a_))), (3, .own (.box (z4M b_))), (5, .d (I i_)), (6, .d (I k_))]
abbrev Ul (a_ : zB) (b_ : zB) (i_ : Int) : List (Nat × T) := [(2, .own (.box (z4M a_))), (3, .own (.box (z4M b_))), (5, .d (I i_))]
theorem JL (hC : zO Tryz.prog ctr) : ZA.Ok Tryz.prog := by
 refine zY ?_
 rintro ⟨a_, b_⟩ r0 aa
 try unfold ZQ at aa
 refine yO true [(4, none)] uG 75 Tryz.func42 fun E hE => ?_
 rcases zJ aa with ⟨c0, aa⟩ | ⟨c0, aa⟩
 ·obtain rfl := zi aa
  exact yE X0 hC hE (rpN 6 (Hq c0) (rpN 9 qT []))
 ·let Z0 : List HO := (rpN 6 (Hq c0) [])
  rcases zJ aa with ⟨c1, aa⟩ | ⟨c1, aa⟩
  ·obtain rfl := zi aa
   exact yE X0 hC hE (Z0 ++ (rpN 8 (Hq c1) [qT]))
  ·let Z1 : List HO := (Z0 ++ [Hq c1, Hq c1, Hq c1, Ha (lnM Yu a_.Rows), Hq c1, Hq c1, Hq c1, Ha (lnM Yu b_.Rows), Hq c1, Hq c1])
   rcases zJ aa with ⟨c2, aa⟩ | ⟨c2, aa⟩
   ·obtain rfl := zi aa
    exact yE X0 hC hE (Z1 ++ [Hq c2])
   ·refine yJ X0 hC uG [1,1] [] [] (fun z : Unit => ZF = some r0) (fun z => Un) [(2, .own (.box (z4M a_))), (3, .own (.box (z4M b_)))] (Z1 ++ [Hq c2, Hh (.cut 0)]) ?_ fun J1 a8 => ?_
    ·rintro ⟨⟩ aa
     unfold ZF at aa
     obtain rfl := zi aa
     exact yE X0 hC hE []
    ·obtain ⟨t2, ht2, aa⟩ := zj aa
     refine yL X0 hC uG [1,1,2,1,0] [J1] (fun s => ZC a_ b_ s) (fun x => Ul a_ b_ x) 0 ht2  [] ?_
     rintro i_ m2 bh ae hl1 J2 ba
     try unfold ZC at ae
     let Z2 : List HO := [Ha (lnM Yu a_.Rows)]
     rcases zJ ae with ⟨c3, ae⟩ | ⟨c3, ae⟩
     ·refine yJ X0 hC uG [1,1,2,1,0,0,1] [J1, J2] [2,3,5] (fun z : Unit => ZD i_ = some bh) (fun z => Um a_ b_ i_) [(2, .own (.box (z4M a_))), (3, .own (.box (z4M b_))), (5, .d (I i_))] (Z2 ++ [Hq c3, Hh (.cut 0)]) ?_ fun J3 cp => ?_
      ·rintro ⟨⟩ ae
       unfold ZD at ae
       obtain rfl := zi ae
       exact yB X0 hC ba (w64 (i_ + 1)) hl1 []
      ·obtain ⟨ko, h0, ae⟩ := zj ae
       obtain ⟨ke, h1, ae⟩ := zj ae
       let Z3 : List HO := [Hi Yu h0, Ha (lnM F8_ ko), Hi Yu h1, Ha (lnM F8_ ke)]
       rcases zJ ae with ⟨c4, ae⟩ | ⟨c4, ae⟩
       ·obtain rfl := zi ae
        obtain rfl := hl1
        obtain rfl := zi aa
        exact yE X0 hC hE (Z3 ++ [Hq c4])
       ·obtain ⟨t4, ht4, ae⟩ := zj ae
        refine yL X0 hC uG [1,1,2,1,0,0,1,2,0,1,1,0] [J1, J2, J3] (fun s => ZB a_ b_ i_ s) (fun x => Uk a_ b_ i_ x) 0 ht4  (Z3 ++ [Hq c4]) ?_
        rintro k_ m4 fp ak hl2 J4 dv
        try unfold ZB at ak
        obtain ⟨kc, h2, ak⟩ := zj ak
        let Z4 : List HO := [Hi Yu h2, Ha (lnM F8_ kc)]
        rcases zJ ak with ⟨c5, ak⟩ | ⟨c5, ak⟩
        ·obtain ⟨k0, h3, ak⟩ := zj ak
         obtain ⟨i7, h4, ak⟩ := zj ak
         obtain ⟨k9, h5, ak⟩ := zj ak
         obtain ⟨ia, h6, ak⟩ := zj ak
         let Z5 : List HO := (Z4 ++ [Hq c5, Hi Yu h3, Hi F8_ h4, Hi Yu h5, Hi F8_ h6])
         rcases zJ ak with ⟨c6, ak⟩ | ⟨c6, ak⟩
         ·obtain rfl := zi ak
          obtain rfl := hl2
          obtain rfl := zi ae
          obtain rfl := hl1
          obtain rfl := zi aa
          exact yE X0 hC hE (Z5 ++ [Hq c6])
         ·obtain rfl := zi ak
          exact yB X0 hC dv (w64 (k_ + 1)) hl2 (Z5 ++ [Hq c6])
        ·obtain rfl := zi ak
         obtain rfl := hl2
         exact yB X0 hC cp () ae (Z4 ++ [Hq c5])
     ·obtain rfl := zi ae
      obtain rfl := hl1
      exact yB X0 hC a8 () aa (Z2 ++ [Hq c3])
def Xf : Code := (Tryz.f43.body).getD .skip
def YS : wI := spF (α := List ze × List ze) (ρ := Int) 43 (fun x => [z8D x.1, zci x.2]) (fun r => (eI .i64) r) (fun x => VN x.1 x.2) [] (Uz)
abbrev QG : List (Nat × T) := []
abbrev QF (a_ : List ze) (b_ : List ze) (i_ : Int) : List (Nat × T) := [(0, .d (eSl 4 true xc a_)), (1, .d (eSl 4 false xc b_)), (5, .d (I i_))]
theorem z0H (hC : zO Tryz.prog ctr) : YS.Ok Tryz.prog := by
 refine zY ?_
 rintro ⟨a_, b_⟩ r0 aa
 try unfold VN at aa
 refine yO true [(4, none)] Xf 33 Tryz.func43 fun E hE => ?_
 let Z0 : List HO := [Ha (lnM xc a_), Ha (lnM xc b_)]
 rcases zJ aa with ⟨c0, aa⟩ | ⟨c0, aa⟩
 ·obtain rfl := zi aa
  exact yE X0 hC hE (Z0 ++ (rpN 6 (Hq c0) [qT]))
 ·let Z1 : List HO := (Z0 ++ [Hq c0, Hq c0, Ha (lnM xc a_), Hq c0, Hq c0, Ha (lnM xc a_), Hq c0, Hq c0])
  rcases zJ aa with ⟨c1, aa⟩ | ⟨c1, aa⟩
  ·obtain rfl := zi aa
   exact yE X0 hC hE (Z1 ++ [Hq c1])
  ·refine yJ X0 hC Xf [1,1] [] [] (fun z : Unit => X6 = some r0) (fun z => QG) [(0, .d (eSl 4 true xc a_)), (1, .d (eSl 4 false xc b_))] (Z1 ++ [Hq c1, Hh (.cut 0)]) ?_ fun J1 a8 => ?_
   ·rintro ⟨⟩ aa
    unfold X6 at aa
    obtain rfl := zi aa
    exact yE X0 hC hE []
   ·obtain ⟨t2, ht2, aa⟩ := zj aa
    refine yL X0 hC Xf [1,1,2,1,0] [J1] (fun s => X5 a_ b_ s) (fun x => QF a_ b_ x) 0 ht2  [] ?_
    rintro i_ m2 bh ae hl1 J2 ba
    try unfold X5 at ae
    let Z2 : List HO := [Ha (lnM xc a_)]
    rcases zJ ae with ⟨c2, ae⟩ | ⟨c2, ae⟩
    ·obtain ⟨ik, h0, ae⟩ := zj ae
     obtain ⟨il, h1, ae⟩ := zj ae
     let Z3 : List HO := (Z2 ++ [Hq c2, Hi xc h0, Hi xc h1])
     rcases zJ ae with ⟨c3, ae⟩ | ⟨c3, ae⟩
     ·obtain rfl := zi ae
      obtain rfl := hl1
      obtain rfl := zi aa
      exact yE X0 hC hE (Z3 ++ [Hq c3])
     ·obtain rfl := zi ae
      exact yB X0 hC ba (w64 (i_ + 1)) hl1 (Z3 ++ [Hq c3])
    ·obtain rfl := zi ae
     obtain rfl := hl1
     exact yB X0 hC a8 () aa (Z2 ++ [Hq c2])
def VB : Code := (Tryz.f14.body).getD .skip
def Zf : wI := spF (α := Unit) (ρ := Bool) 14 (fun x => []) (fun r => eB r) (fun x => wm) [] (fun _ _ _ => rfl)
theorem z0I (hC : zO Tryz.prog ctr) (h00 : ctr.Has ZP) (h0e : ctr.Has uB) (h01 : ctr.Has kM) (h08 : ctr.Has XR) (h03 : ctr.Has YU) (h09 : ctr.Has vo) (h0q : ctr.Has ZA) (h0a : ctr.Has wR) (h0r : ctr.Has YS) (h0p : ctr.Has ZN) : Zf.Ok Tryz.prog := by
 refine zY ?_
 rintro ⟨⟩ r0 aa
 try unfold wm at aa
 refine yO true [(0, none)] VB 166 Tryz.func14 fun E hE => ?_
 obtain ⟨r_, h0, aa⟩ := zj aa
 obtain ⟨al, h1, aa⟩ := zj aa
 obtain ⟨ai, h2, aa⟩ := zj aa
 obtain ⟨aj, h3, aa⟩ := zj aa
 obtain ⟨cg, h4, aa⟩ := zj aa
 obtain ⟨bu, h5, aa⟩ := zj aa
 obtain ⟨dc, h6, aa⟩ := zj aa
 obtain ⟨dj, h7, aa⟩ := zj aa
 obtain ⟨bt, h8, aa⟩ := zj aa
 obtain ⟨bw, h9, aa⟩ := zj aa
 obtain ⟨bj, h10, aa⟩ := zj aa
 refine yA ((qo (P := Tryz.prog) qd [] (lentCall (xo hC h00 (x := (1, ([(zb.mk 0 2 0 0 0)] : List zb))) h0)) 19).or X0) hC VB [1,1,1,1,1,0] [] [(1, .own (.box (z4H r_))), (2, .d (eSl 2 true uK al.1)), (3, .d (eSl 1 true wq al.2.1)), (4, .d (I al.2.2)), (5, .own (eOs 2 true z6J ([ai, aj, cg, bu]))), (6, .own (eOs 1 true (eOs 5 true Zi) ([[(z7.mk dc 1)], [(z7.mk dj 2), (z7.mk bt 3)], [(z7.mk bw 0)], [(z7.mk bj 0)]])))] [Hm (shM qD qD ([(zb.mk 0 2 0 0 0)])), Hn (YQ (f := .fn 12 []) (xs := [(eI .i64) 1, KU ([(zb.mk 0 2 0 0 0)] : List zb)]) (ls := []) (r := .agg [I r_.Messages, I r_.Labels, eSl 1 true (eI .i64) r_.Channels, eSl 3 true z0E r_.Parts]) (ys := []) [(eI .i64) 1, KU ([(zb.mk 0 2 0 0 0)] : List zb)] (show KO [(eI .i64) 1, KU ([(zb.mk 0 2 0 0 0)] : List zb)] [(eI .i64) 1, KU ([(zb.mk 0 2 0 0 0)] : List zb)] from inferInstance)), Hc h0e (x := r_) h1 (loC z4H r_ <| loN), Hc h01 (x := (0,0, [])) h2 (loC (eI .i64) 0 <| loC (eI .i64) 0 <| loC F1_ ([] : List Int) <| loN), Hg (Ko h01), Hm (shM (eI .i64) (eI .i64) ([0])), Hs (Kp h01 (x := (1,0, [0])) h3 (loC (eI .i64) 1 <| loC (eI .i64) 0 <| loC F1_ ([0] : List Int) <| loN)), Hm (shM (eI .i64) (eI .i64) ([0])), Hg (Ko h01), Hm (shM (eI .i64) (eI .i64) ([0])), Hs (Kp h01 (x := (0,0, [0])) h4 (loC (eI .i64) 0 <| loC (eI .i64) 0 <| loC F1_ ([0] : List Int) <| loN)), Hm (shM (eI .i64) (eI .i64) ([0])), Hc h01 (x := (1,0, [])) h5 (loC (eI .i64) 1 <| loC (eI .i64) 0 <| loC F1_ ([] : List Int) <| loN), Hc h08 (x := (0,0)) h6 (loC (eI .i64) 0 <| loC (eI .i64) 0 <| loN), Hc h08 (x := (0,1)) h7 (loC (eI .i64) 0 <| loC (eI .i64) 1 <| loN), Hc h08 (x := (1,0)) h8 (loC (eI .i64) 1 <| loC (eI .i64) 0 <| loN), Hc h08 (x := (1,0)) h9 (loC (eI .i64) 1 <| loC (eI .i64) 0 <| loN), Hc h08 (x := (0,1)) h10 (loC (eI .i64) 0 <| loC (eI .i64) 1 <| loN), Hh (.cut 1)] ?_
 rcases zJ aa with ⟨c0, aa⟩ | ⟨c0, aa⟩
 ·obtain rfl := zi aa
  exact yE X0 hC hE (rpN 7 (Hq c0) [qT])
 ·obtain ⟨bc, h11, aa⟩ := zj aa
  let Z0 : List HO := (rpN 5 (Hq c0) [Hm (shM z6J z6J ([ai, aj, cg, bu])), Hm (shM (eOs 5 true Zi) wq ([[(z7.mk dc 1)], [(z7.mk dj 2), (z7.mk bt 3)], [(z7.mk bw 0)], [(z7.mk bj 0)]])), Hn (YQ (f := .fn 41 []) (xs := [z6I al.1, z3w al.2.1, zaR [ai, aj, cg, bu], zcg ([[(z7.mk dc 1)], [(z7.mk dj 2), (z7.mk bt 3)], [(z7.mk bw 0)], [(z7.mk bj 0)]] : List (List z7))]) (ls := []) (r := I bc) (ys := []) [z6I al.1, z3w al.2.1, zct [ai, aj, cg, bu], z3w ([[(z7.mk dc 1)], [(z7.mk dj 2), (z7.mk bt 3)], [(z7.mk bw 0)], [(z7.mk bj 0)]] : List (List z7))] (show KO [z6I al.1, z3w al.2.1, zct [ai, aj, cg, bu], z3w ([[(z7.mk dc 1)], [(z7.mk dj 2), (z7.mk bt 3)], [(z7.mk bw 0)], [(z7.mk bj 0)]] : List (List z7))] [z6I al.1, z3w al.2.1, zaR [ai, aj, cg, bu], zcg ([[(z7.mk dc 1)], [(z7.mk dj 2), (z7.mk bt 3)], [(z7.mk bw 0)], [(z7.mk bj 0)]] : List (List z7))] from inferInstance)), Hq c0, Hq c0])
  rcases zJ aa with ⟨c1, aa⟩ | ⟨c1, aa⟩
  ·obtain rfl := zi aa
   exact yE ((qo (P := Tryz.prog) qd [] (lentCall (xo hC h03 (x := (al.1, al.2.1, [ai, aj, cg, bu], ([[(z7.mk dc 1)], [(z7.mk dj 2), (z7.mk bt 3)], [(z7.mk bw 0)], [(z7.mk bj 0)]] : List (List z7)))) h11)) 55).or X0) hC hE (Z0 ++ [Hq c1])
  ·obtain ⟨ay, h12, aa⟩ := zj aa
   obtain ⟨ar, h13, aa⟩ := zj aa
   let Z1 : List HO := (Z0 ++ [Hq c1, Hc h09 (x := (r_, [])) h12 (loC z4H r_ <| loC F1_ ([] : List Int) <| loN), Hg (Ko h09), Hm (shM (eI .i64) (eI .i64) ([0])), Hs (Kp h09 (x := (r_, [0])) h13 (loC z4H r_ <| loC F1_ ([0] : List Int) <| loN)), Hm (shM (eI .i64) (eI .i64) ([0]))])
   rcases zJ aa with ⟨c2, aa⟩ | ⟨c2, aa⟩
   ·obtain rfl := zi aa
    exact yE ((qo (P := Tryz.prog) qd [] (lentCall (xo hC h03 (x := (al.1, al.2.1, [ai, aj, cg, bu], ([[(z7.mk dc 1)], [(z7.mk dj 2), (z7.mk bt 3)], [(z7.mk bw 0)], [(z7.mk bj 0)]] : List (List z7)))) h11)) 55).or X0) hC hE (Z1 ++ (Hq c2 :: Hq c2 :: Hq c2 :: (rpN 10 qT [])))
   ·rcases zJ aa with ⟨c3, aa⟩ | ⟨c3, aa⟩
    ·obtain rfl := zi aa
     exact yE ((qo (P := Tryz.prog) qd [] (lentCall (xo hC h03 (x := (al.1, al.2.1, [ai, aj, cg, bu], ([[(z7.mk dc 1)], [(z7.mk dj 2), (z7.mk bt 3)], [(z7.mk bw 0)], [(z7.mk bj 0)]] : List (List z7)))) h11)) 55).or X0) hC hE (Z1 ++ (Hq c2 :: Hq c2 :: Hq c2 :: (rpN 9 (Hq c3) [qT])))
    ·obtain ⟨cj, h14, aa⟩ := zj aa
     obtain ⟨io, h15, aa⟩ := zj aa
     let Z2 : List HO := (Z1 ++ [Hq c2, Hq c2, Hq c2, Hq c3, Hq c3, Hq c3, Hg (Ko h0q), Hm (shM (eOs 3 true F8_) UZ ([[(zf.mk 0 0 1)], [(zf.mk 0 0 3), (zf.mk 2 0 2)], [(zf.mk 0 0 0)], [(zf.mk 2 0 0)]])), Hs (Kp h0q (x := (ay.1, (zB.mk 0 1 ([[(zf.mk 0 0 1)], [(zf.mk 0 0 3), (zf.mk 2 0 2)], [(zf.mk 0 0 0)], [(zf.mk 2 0 0)]])))) h14 (loC z8C ay.1 <| loC (ut (eI .i64) (eI .i64) (eSl 1 true UZ)) (zB.mk 0 1 ([[(zf.mk 0 0 1)], [(zf.mk 0 0 3), (zf.mk 2 0 2)], [(zf.mk 0 0 0)], [(zf.mk 2 0 0)]])) <| loN)), Hq c3, Hq c3, Hq c3, Hg (Ko h0q), Hm (shM (eOs 3 true F8_) UZ ([[(zf.mk 0 0 1)], [(zf.mk 0 0 2), (zf.mk 0 0 3)], [(zf.mk 0 0 0)], [(zf.mk 0 0 0)]])), Hs (Kp h0q (x := (ar.1, (zB.mk 0 1 ([[(zf.mk 0 0 1)], [(zf.mk 0 0 2), (zf.mk 0 0 3)], [(zf.mk 0 0 0)], [(zf.mk 0 0 0)]])))) h15 (loC z8C ar.1 <| loC (ut (eI .i64) (eI .i64) (eSl 1 true UZ)) (zB.mk 0 1 ([[(zf.mk 0 0 1)], [(zf.mk 0 0 2), (zf.mk 0 0 3)], [(zf.mk 0 0 0)], [(zf.mk 0 0 0)]])) <| loN)), Hq c3, Hq c3, Hq c3])
     rcases zJ aa with ⟨c4, aa⟩ | ⟨c4, aa⟩
     ·obtain rfl := zi aa
      exact yE ((qo (P := Tryz.prog) qd [] (lentCall (xo hC h03 (x := (al.1, al.2.1, [ai, aj, cg, bu], ([[(z7.mk dc 1)], [(z7.mk dj 2), (z7.mk bt 3)], [(z7.mk bw 0)], [(z7.mk bj 0)]] : List (List z7)))) h11)) 55).or X0) hC hE (Z2 ++ [Hq c4])
     ·obtain ⟨aw, h16, aa⟩ := zj aa
      obtain ⟨dp, h17, aa⟩ := zj aa
      obtain ⟨au, h18, aa⟩ := zj aa
      obtain ⟨fk, h19, aa⟩ := zj aa
      obtain ⟨cu, h20, aa⟩ := zj aa
      let Z3 : List HO := (Z2 ++ [Hq c4, Hc h0a (x := r_) h16 (loC z4H r_ <| loN), Hn (⟨rfl, rfl⟩ : T.own (.opq (Zm [some (eOs 4 true xc aw.1), some (.agg [eOs 1 true (eI .i64) aw.2.1.States, eOs 1 true F2_ aw.2.1.Queues]), some (I aw.2.2)])) = T.own (.opq (Zm [some (eOs 4 true xc aw.1), some (.agg [eOs 1 true (eI .i64) aw.2.1.States, eOs 1 true F2_ aw.2.1.Queues]), some (I aw.2.2)])) ∧ 1 = 1), Hn (⟨rfl, rfl⟩ : T.own (.opq (Zm [none, some (.agg [eOs 1 true (eI .i64) aw.2.1.States, eOs 1 true F2_ aw.2.1.Queues]), some (I aw.2.2)])) = T.own (.opq (Zm [none, some (.agg [eOs 1 true (eI .i64) aw.2.1.States, eOs 1 true F2_ aw.2.1.Queues]), some (I aw.2.2)])) ∧ 1 = 1), Hn (⟨rfl, rfl⟩ : T.own (.opq (Zm [none, none, some (I aw.2.2)])) = T.own (.opq (Zm [none, none, some (I aw.2.2)])) ∧ 1 = 1), Hn (YQ (f := .fn 12 []) (xs := [(eI .i64) 1, KU ([] : List zb)]) (ls := []) (r := .agg [I dp.Messages, I dp.Labels, eSl 1 true (eI .i64) dp.Channels, eSl 3 true z0E dp.Parts]) (ys := []) [(eI .i64) 1, KU ([] : List zb)] (show KO [(eI .i64) 1, KU ([] : List zb)] [(eI .i64) 1, KU ([] : List zb)] from inferInstance)), Hc h0a (x := dp) h18 (loC z4H dp <| loN), Hn (⟨rfl, rfl⟩ : T.own (.opq (Zm [some (eOs 4 true xc au.1), some (.agg [eOs 1 true (eI .i64) au.2.1.States, eOs 1 true F2_ au.2.1.Queues]), some (I au.2.2)])) = T.own (.opq (Zm [some (eOs 4 true xc au.1), some (.agg [eOs 1 true (eI .i64) au.2.1.States, eOs 1 true F2_ au.2.1.Queues]), some (I au.2.2)])) ∧ 1 = 1), Hn (⟨rfl, rfl⟩ : T.own (.opq (Zm [none, some (.agg [eOs 1 true (eI .i64) au.2.1.States, eOs 1 true F2_ au.2.1.Queues]), some (I au.2.2)])) = T.own (.opq (Zm [none, some (.agg [eOs 1 true (eI .i64) au.2.1.States, eOs 1 true F2_ au.2.1.Queues]), some (I au.2.2)])) ∧ 1 = 1), Hn (⟨rfl, rfl⟩ : T.own (.opq (Zm [none, none, some (I au.2.2)])) = T.own (.opq (Zm [none, none, some (I au.2.2)])) ∧ 1 = 1), Hm (shM qD qD ([(zb.mk 0 2 0 0 0)])), Hn (YQ (f := .fn 12 []) (xs := [(eI .i64) 0, KU ([(zb.mk 0 2 0 0 0)] : List zb)]) (ls := []) (r := .agg [I fk.Messages, I fk.Labels, eSl 1 true (eI .i64) fk.Channels, eSl 3 true z0E fk.Parts]) (ys := []) [(eI .i64) 0, KU ([(zb.mk 0 2 0 0 0)] : List zb)] (show KO [(eI .i64) 0, KU ([(zb.mk 0 2 0 0 0)] : List zb)] [(eI .i64) 0, KU ([(zb.mk 0 2 0 0 0)] : List zb)] from inferInstance)), Hc h0e (x := fk) h20 (loC z4H fk <| loN)])
      rcases zJ aa with ⟨c5, aa⟩ | ⟨c5, aa⟩
      ·obtain rfl := zi aa
       exact yE ((qo (P := Tryz.prog) qd [] (lentCall (xo hC h00 (x := (0, ([(zb.mk 0 2 0 0 0)] : List zb))) h19)) 122).or ((xz Tryz.prog 118 [none, none, some (I au.2.2)]).or ((xz Tryz.prog 117 [none, some (.agg [eOs 1 true (eI .i64) au.2.1.States, eOs 1 true F2_ au.2.1.Queues]), some (I au.2.2)]).or ((xz Tryz.prog 116 [some (eOs 4 true xc au.1), some (.agg [eOs 1 true (eI .i64) au.2.1.States, eOs 1 true F2_ au.2.1.Queues]), some (I au.2.2)]).or ((qo (P := Tryz.prog) qd [] (lentCall (xo hC h00 (x := (1, ([] : List zb))) h17)) 114).or ((xz Tryz.prog 112 [none, none, some (I aw.2.2)]).or ((xz Tryz.prog 111 [none, some (.agg [eOs 1 true (eI .i64) aw.2.1.States, eOs 1 true F2_ aw.2.1.Queues]), some (I aw.2.2)]).or ((xz Tryz.prog 110 [some (eOs 4 true xc aw.1), some (.agg [eOs 1 true (eI .i64) aw.2.1.States, eOs 1 true F2_ aw.2.1.Queues]), some (I aw.2.2)]).or ((qo (P := Tryz.prog) qd [] (lentCall (xo hC h03 (x := (al.1, al.2.1, [ai, aj, cg, bu], ([[(z7.mk dc 1)], [(z7.mk dj 2), (z7.mk bt 3)], [(z7.mk bw 0)], [(z7.mk bj 0)]] : List (List z7)))) h11)) 55).or X0))))))))) hC hE (Z3 ++ (Hq c5 :: Hq c5 :: Hq c5 :: (rpN 17 qT [])))
      ·rcases zJ aa with ⟨c6, aa⟩ | ⟨c6, aa⟩
       ·obtain rfl := zi aa
        exact yE ((qo (P := Tryz.prog) qd [] (lentCall (xo hC h00 (x := (0, ([(zb.mk 0 2 0 0 0)] : List zb))) h19)) 122).or ((xz Tryz.prog 118 [none, none, some (I au.2.2)]).or ((xz Tryz.prog 117 [none, some (.agg [eOs 1 true (eI .i64) au.2.1.States, eOs 1 true F2_ au.2.1.Queues]), some (I au.2.2)]).or ((xz Tryz.prog 116 [some (eOs 4 true xc au.1), some (.agg [eOs 1 true (eI .i64) au.2.1.States, eOs 1 true F2_ au.2.1.Queues]), some (I au.2.2)]).or ((qo (P := Tryz.prog) qd [] (lentCall (xo hC h00 (x := (1, ([] : List zb))) h17)) 114).or ((xz Tryz.prog 112 [none, none, some (I aw.2.2)]).or ((xz Tryz.prog 111 [none, some (.agg [eOs 1 true (eI .i64) aw.2.1.States, eOs 1 true F2_ aw.2.1.Queues]), some (I aw.2.2)]).or ((xz Tryz.prog 110 [some (eOs 4 true xc aw.1), some (.agg [eOs 1 true (eI .i64) aw.2.1.States, eOs 1 true F2_ aw.2.1.Queues]), some (I aw.2.2)]).or ((qo (P := Tryz.prog) qd [] (lentCall (xo hC h03 (x := (al.1, al.2.1, [ai, aj, cg, bu], ([[(z7.mk dc 1)], [(z7.mk dj 2), (z7.mk bt 3)], [(z7.mk bw 0)], [(z7.mk bj 0)]] : List (List z7)))) h11)) 55).or X0))))))))) hC hE (Z3 ++ (Hq c5 :: Hq c5 :: Hq c5 :: (rpN 7 (Hq c6) (rpN 10 qT []))))
       ·obtain ⟨fc, h21, aa⟩ := zj aa
        obtain ⟨fl, h22, aa⟩ := zj aa
        obtain ⟨jn, h23, aa⟩ := zj aa
        let Z4 : List HO := (Z3 ++ [Hq c5, Hq c5, Hq c5, Hq c6, Hq c6, Hc h08 (x := (0,0)) h21 (loC (eI .i64) 0 <| loC (eI .i64) 0 <| loN), Hq c6, Hc h08 (x := (0,1)) h22 (loC (eI .i64) 0 <| loC (eI .i64) 1 <| loN), Hq c6, Hq c6, Hm (shM xc xc au.1), Hm (shM xc xc ([fc, fl])), Hn (YQ (f := .fn 43 []) (xs := [z8D au.1, zci [fc, fl]]) (ls := []) (r := I jn) (ys := []) [z8D au.1, z8D [fc, fl]] (show KO [z8D au.1, z8D [fc, fl]] [z8D au.1, zci [fc, fl]] from inferInstance)), Hq c6, Hq c6])
        rcases zJ aa with ⟨c7, aa⟩ | ⟨c7, aa⟩
        ·obtain rfl := zi aa
         exact yE ((qo (P := Tryz.prog) qd [] (lentCall (xo hC h0r (x := (au.1, [fc, fl])) h23)) 138).or ((qo (P := Tryz.prog) qd [] (lentCall (xo hC h00 (x := (0, ([(zb.mk 0 2 0 0 0)] : List zb))) h19)) 122).or ((xz Tryz.prog 118 [none, none, some (I au.2.2)]).or ((xz Tryz.prog 117 [none, some (.agg [eOs 1 true (eI .i64) au.2.1.States, eOs 1 true F2_ au.2.1.Queues]), some (I au.2.2)]).or ((xz Tryz.prog 116 [some (eOs 4 true xc au.1), some (.agg [eOs 1 true (eI .i64) au.2.1.States, eOs 1 true F2_ au.2.1.Queues]), some (I au.2.2)]).or ((qo (P := Tryz.prog) qd [] (lentCall (xo hC h00 (x := (1, ([] : List zb))) h17)) 114).or ((xz Tryz.prog 112 [none, none, some (I aw.2.2)]).or ((xz Tryz.prog 111 [none, some (.agg [eOs 1 true (eI .i64) aw.2.1.States, eOs 1 true F2_ aw.2.1.Queues]), some (I aw.2.2)]).or ((xz Tryz.prog 110 [some (eOs 4 true xc aw.1), some (.agg [eOs 1 true (eI .i64) aw.2.1.States, eOs 1 true F2_ aw.2.1.Queues]), some (I aw.2.2)]).or ((qo (P := Tryz.prog) qd [] (lentCall (xo hC h03 (x := (al.1, al.2.1, [ai, aj, cg, bu], ([[(z7.mk dc 1)], [(z7.mk dj 2), (z7.mk bt 3)], [(z7.mk bw 0)], [(z7.mk bj 0)]] : List (List z7)))) h11)) 55).or X0)))))))))) hC hE (Z4 ++ (rpN 6 (Hq c7) (rpN 4 qT [])))
        ·obtain ⟨kp, h24, aa⟩ := zj aa
         obtain ⟨l5, h25, aa⟩ := zj aa
         let Z5 : List HO := (Z4 ++ [Hq c7, Hq c7, Hq c7, Hg (Ko h01), Hm (shM (eI .i64) (eI .i64) ([0])), Hs (Kp h01 (x := (0,0, [0])) h24 (loC (eI .i64) 0 <| loC (eI .i64) 0 <| loC F1_ ([0] : List Int) <| loN)), Hm (shM (eI .i64) (eI .i64) ([0])), Hq c7, Hg (Ko h0p), Hm (shM (eI .i64) (eI .i64) au.2.1.States), Hm (shM F2_ F1_ au.2.1.Queues), Hs (Kp h0p (x := (au.2.1, kp)) h25 (loC zch au.2.1 <| loC z6J kp <| loN)), Hq c7, Hq c7])
         rcases zJ aa with ⟨c8, aa⟩ | ⟨c8, aa⟩
         ·obtain rfl := zi aa
          exact yE ((qo (P := Tryz.prog) qd [] (lentCall (xo hC h0r (x := (au.1, [fc, fl])) h23)) 138).or ((qo (P := Tryz.prog) qd [] (lentCall (xo hC h00 (x := (0, ([(zb.mk 0 2 0 0 0)] : List zb))) h19)) 122).or ((xz Tryz.prog 118 [none, none, some (I au.2.2)]).or ((xz Tryz.prog 117 [none, some (.agg [eOs 1 true (eI .i64) au.2.1.States, eOs 1 true F2_ au.2.1.Queues]), some (I au.2.2)]).or ((xz Tryz.prog 116 [some (eOs 4 true xc au.1), some (.agg [eOs 1 true (eI .i64) au.2.1.States, eOs 1 true F2_ au.2.1.Queues]), some (I au.2.2)]).or ((qo (P := Tryz.prog) qd [] (lentCall (xo hC h00 (x := (1, ([] : List zb))) h17)) 114).or ((xz Tryz.prog 112 [none, none, some (I aw.2.2)]).or ((xz Tryz.prog 111 [none, some (.agg [eOs 1 true (eI .i64) aw.2.1.States, eOs 1 true F2_ aw.2.1.Queues]), some (I aw.2.2)]).or ((xz Tryz.prog 110 [some (eOs 4 true xc aw.1), some (.agg [eOs 1 true (eI .i64) aw.2.1.States, eOs 1 true F2_ aw.2.1.Queues]), some (I aw.2.2)]).or ((qo (P := Tryz.prog) qd [] (lentCall (xo hC h03 (x := (al.1, al.2.1, [ai, aj, cg, bu], ([[(z7.mk dc 1)], [(z7.mk dj 2), (z7.mk bt 3)], [(z7.mk bw 0)], [(z7.mk bj 0)]] : List (List z7)))) h11)) 55).or X0)))))))))) hC hE (Z5 ++ [Hq c8, Hq c8, Hq c8, qT])
         ·rcases zJ aa with ⟨c9, aa⟩ | ⟨c9, aa⟩
          ·obtain rfl := zi aa
           exact yE ((qo (P := Tryz.prog) qd [] (lentCall (xo hC h0r (x := (au.1, [fc, fl])) h23)) 138).or ((qo (P := Tryz.prog) qd [] (lentCall (xo hC h00 (x := (0, ([(zb.mk 0 2 0 0 0)] : List zb))) h19)) 122).or ((xz Tryz.prog 118 [none, none, some (I au.2.2)]).or ((xz Tryz.prog 117 [none, some (.agg [eOs 1 true (eI .i64) au.2.1.States, eOs 1 true F2_ au.2.1.Queues]), some (I au.2.2)]).or ((xz Tryz.prog 116 [some (eOs 4 true xc au.1), some (.agg [eOs 1 true (eI .i64) au.2.1.States, eOs 1 true F2_ au.2.1.Queues]), some (I au.2.2)]).or ((qo (P := Tryz.prog) qd [] (lentCall (xo hC h00 (x := (1, ([] : List zb))) h17)) 114).or ((xz Tryz.prog 112 [none, none, some (I aw.2.2)]).or ((xz Tryz.prog 111 [none, some (.agg [eOs 1 true (eI .i64) aw.2.1.States, eOs 1 true F2_ aw.2.1.Queues]), some (I aw.2.2)]).or ((xz Tryz.prog 110 [some (eOs 4 true xc aw.1), some (.agg [eOs 1 true (eI .i64) aw.2.1.States, eOs 1 true F2_ aw.2.1.Queues]), some (I aw.2.2)]).or ((qo (P := Tryz.prog) qd [] (lentCall (xo hC h03 (x := (al.1, al.2.1, [ai, aj, cg, bu], ([[(z7.mk dc 1)], [(z7.mk dj 2), (z7.mk bt 3)], [(z7.mk bw 0)], [(z7.mk bj 0)]] : List (List z7)))) h11)) 55).or X0)))))))))) hC hE (Z5 ++ [Hq c8, Hq c8, Hq c8, Hq c9])
          ·obtain ⟨ip, h26, aa⟩ := zj aa
           obtain ⟨iq, h27, aa⟩ := zj aa
           obtain ⟨ir, h28, aa⟩ := zj aa
           obtain ⟨lc, h29, aa⟩ := zj aa
           obtain rfl := zi aa
           exact yE ((qo (P := Tryz.prog) qd [] (lentCall (xo hC h03 (x := (cu.1, cu.2.1, [ip, iq], ([[(z7.mk (ze.mk 0 0 1 0) 1)], [(z7.mk ir 0)]] : List (List z7)))) h29)) 164).or ((qo (P := Tryz.prog) qd [] (lentCall (xo hC h0r (x := (au.1, [fc, fl])) h23)) 138).or ((qo (P := Tryz.prog) qd [] (lentCall (xo hC h00 (x := (0, ([(zb.mk 0 2 0 0 0)] : List zb))) h19)) 122).or ((xz Tryz.prog 118 [none, none, some (I au.2.2)]).or ((xz Tryz.prog 117 [none, some (.agg [eOs 1 true (eI .i64) au.2.1.States, eOs 1 true F2_ au.2.1.Queues]), some (I au.2.2)]).or ((xz Tryz.prog 116 [some (eOs 4 true xc au.1), some (.agg [eOs 1 true (eI .i64) au.2.1.States, eOs 1 true F2_ au.2.1.Queues]), some (I au.2.2)]).or ((qo (P := Tryz.prog) qd [] (lentCall (xo hC h00 (x := (1, ([] : List zb))) h17)) 114).or ((xz Tryz.prog 112 [none, none, some (I aw.2.2)]).or ((xz Tryz.prog 111 [none, some (.agg [eOs 1 true (eI .i64) aw.2.1.States, eOs 1 true F2_ aw.2.1.Queues]), some (I aw.2.2)]).or ((xz Tryz.prog 110 [some (eOs 4 true xc aw.1), some (.agg [eOs 1 true (eI .i64) aw.2.1.States, eOs 1 true F2_ aw.2.1.Queues]), some (I aw.2.2)]).or ((qo (P := Tryz.prog) qd [] (lentCall (xo hC h03 (x := (al.1, al.2.1, [ai, aj, cg, bu], ([[(z7.mk dc 1)], [(z7.mk dj 2), (z7.mk bt 3)], [(z7.mk bw 0)], [(z7.mk bj 0)]] : List (List z7)))) h11)) 55).or X0))))))))))) hC hE (Z5 ++ [Hq c8, Hq c8, Hq c8, Hq c9, Hc h01 (x := (0,0, [])) h26 (loC (eI .i64) 0 <| loC (eI .i64) 0 <| loC F1_ ([] : List Int) <| loN), Hc h01 (x := (1,0, [])) h27 (loC (eI .i64) 1 <| loC (eI .i64) 0 <| loC F1_ ([] : List Int) <| loN), Hc h08 (x := (0,1)) h28 (loC (eI .i64) 0 <| loC (eI .i64) 1 <| loN), Hm (shM z6J z6J ([ip, iq])), Hm (shM (eOs 5 true Zi) wq ([[(z7.mk (ze.mk 0 0 1 0) 1)], [(z7.mk ir 0)]])), Hn (YQ (f := .fn 41 []) (xs := [z6I cu.1, z3w cu.2.1, zaR [ip, iq], zcg ([[(z7.mk (ze.mk 0 0 1 0) 1)], [(z7.mk ir 0)]] : List (List z7))]) (ls := []) (r := I lc) (ys := []) [z6I cu.1, z3w cu.2.1, zct [ip, iq], z3w ([[(z7.mk (ze.mk 0 0 1 0) 1)], [(z7.mk ir 0)]] : List (List z7))] (show KO [z6I cu.1, z3w cu.2.1, zct [ip, iq], z3w ([[(z7.mk (ze.mk 0 0 1 0) 1)], [(z7.mk ir 0)]] : List (List z7))] [z6I cu.1, z3w cu.2.1, zaR [ip, iq], zcg ([[(z7.mk (ze.mk 0 0 1 0) 1)], [(z7.mk ir 0)]] : List (List z7))] from inferInstance))])
def KG : Code := (Tryz.f64.body).getD .skip
def Y1 : wI := spF (α := Int × Int) (ρ := Int) 64 (fun x => [(eI .i64) x.1, (eI .i64) x.2]) (fun r => (eI .i64) r) (fun x => Zg x.1 x.2) [] (Uz)
abbrev z06 : List (Nat × T) := []
theorem z4r (hC : zO Tryz.prog ctr) : Y1.Ok Tryz.prog := by
 refine zY ?_
 rintro ⟨n_, many⟩ r0 aa
 try unfold Zg at aa
 refine yO true [(4, none)] KG 12 Tryz.func64 fun E hE => ?_
 refine yJ X0 hC KG [1] [] [] (fun z : Unit => XY = some r0) (fun z => z06) [(0, .d (I n_)), (1, .d (I many))] [Hh (.cut 1)] ?_ fun J1 a8 => ?_
 ·rintro ⟨⟩ aa
  unfold XY at aa
  obtain rfl := zi aa
  exact yE X0 hC hE []
 ·rcases zJ aa with ⟨c0, aa⟩ | ⟨c0, aa⟩
  ·let Z0 : List HO := (rpN 4 (Hq c0) [])
   rcases zJ aa with ⟨c1, aa⟩ | ⟨c1, aa⟩
   ·obtain rfl := zi aa
    exact yE X0 hC hE (Z0 ++ [Hq c1])
   ·exact yB X0 hC a8 () aa (Z0 ++ [Hq c1])
  ·exact yB X0 hC a8 () aa (rpN 4 (Hq c0) [qF])
def kT : Code := (Tryz.f39.body).getD .skip
def kL : wI := spF (α := List Int × Int) (ρ := Int) 39 (fun x => [F3_ x.1, (eI .i64) x.2]) (fun r => (eI .i64) r) (fun x => YJ x.1 x.2) [] (Uz)
abbrev UM : List (Nat × T) := []
abbrev UL (l_ : List Int) (many : Int) (i_ : Int) (jr : Bool) : List (Nat × T) := [(0, .d (eSl 1 false (eI .i64) l_)), (1, .d (I many)), (5, .d (I i_)), (20, .d (I i_)), (21, .d (B (decide (i_ > 0)))), (22, .d (B (decide (i_ > 0)))), (33, .d (B jr))]
abbrev UK (l_ : List Int) (many : Int) (i_ : Int) : List (Nat × T) := [(0, .d (eSl 1 false (eI .i64) l_)), (1, .d (I many)), (5, .d (I i_))]
theorem KX (hC : zO Tryz.prog ctr) (h05 : ctr.Has Y1) : kL.Ok Tryz.prog := by
 refine zY ?_
 rintro ⟨l_, many⟩ r0 aa
 try unfold YJ at aa
 refine yO true [(4, none)] kT 35 Tryz.func39 fun E hE => ?_
 refine yJ X0 hC kT [1] [] [] (fun z : Unit => Y7 = some r0) (fun z => UM) [(0, .d (eSl 1 false (eI .i64) l_)), (1, .d (I many))] [Hh (.cut 1)] ?_ fun J1 a8 => ?_
 ·rintro ⟨⟩ aa
  unfold Y7 at aa
  obtain rfl := zi aa
  exact yE X0 hC hE []
 ·obtain ⟨t2, ht2, aa⟩ := zj aa
  refine yL X0 hC kT [1,2,1,0] [J1] (fun s => Y6 l_ many s) (fun x => UK l_ many x) 0 ht2  [] ?_
  rintro i_ m2 bh ae hl1 J2 ba
  try unfold Y6 at ae
  rcases zJ ae with ⟨c0, ae⟩ | ⟨c0, ae⟩
  ·refine yJ X0 hC kT [1,2,1,0,0,1] [J1, J2] [0,1,5,20,21,22,33] (fun z : Bool => kP i_ z = some bh) (fun z => UL l_ many i_ z) [(0, .d (eSl 1 false (eI .i64) l_)), (1, .d (I many)), (5, .d (I i_))] [Ha (lnM (eI .i64) l_), Hq c0, Hh (.cut 0)] ?_ fun J3 cp => ?_
   ·rintro jr ae
    unfold kP at ae
    obtain rfl := zi ae
    exact yB X0 hC ba (w64 (i_ + 1)) hl1 []
   ·obtain ⟨gc, h0, ae⟩ := zj ae
    obtain ⟨r_, h1, ae⟩ := zj ae
    let Z0 : List HO := [Hi (eI .i64) h0, Hc h05 (x := (gc, many)) h1 (loC (eI .i64) gc <| loC (eI .i64) many <| loN)]
    rcases zJ ae with ⟨c1, ae⟩ | ⟨c1, ae⟩
    ·obtain rfl := zi ae
     obtain rfl := hl1
     obtain rfl := zi aa
     exact yE X0 hC hE (Z0 ++ (rpN 5 (Hq c1) [qT]))
    ·rcases zJ ae with ⟨c2, ae⟩ | ⟨c2, ae⟩
     ·obtain ⟨gj, h2, ae⟩ := zj ae
      obtain ⟨jy, h3, ae⟩ := zj ae
      let Z1 : List HO := (Z0 ++ (Hq c1 :: Hq c1 :: Hq c1 :: Hq c2 :: Hq c2 :: Hq c2 :: Hi (eI .i64) h2 :: (rpN 5 (Hq c2) [Hi (eI .i64) h3, Hq c2, Hq c2, Hq c1, Hq c2, Hq c1])))
      rcases zJ ae with ⟨c3, ae⟩ | ⟨c3, ae⟩
      ·obtain rfl := zi ae
       obtain rfl := hl1
       obtain rfl := zi aa
       exact yE X0 hC hE (Z1 ++ [Hq c3])
      ·exact yB X0 hC cp (decide (gj ≤ jy)) ae (Z1 ++ [Hq c3])
     ·exact yB X0 hC cp false ae (Z0 ++ (Hq c1 :: Hq c1 :: Hq c1 :: (rpN 10 (Hq c2) [Hq c1, Hq c2, Hq c1, qF])))
  ·obtain rfl := zi ae
   obtain rfl := hl1
   exact yB X0 hC a8 () aa [Ha (lnM (eI .i64) l_), Hq c0]
def yV : Code := (Tryz.f34.body).getD .skip
def YR : wI := spF (α := z6) (ρ := Int) 34 (fun x => [yq x]) (fun r => (eI .i64) r) (fun x => VJ x) [] (Q1)
abbrev QB (jj : Int) : List (Nat × T) := [(3, .d (I jj))]
abbrev QA (x_ : z6) (i_ : Int) (iu : Int) : List (Nat × T) := [(1, .own (.box (yq x_))), (3, .d (I iu)), (6, .d (I i_))]
abbrev Qy (x_ : z6) (i_ : Int) (am : zh) (k_ : Int) (iv : Int) : List (Nat × T) := [(1, .own (.box (yq x_))), (3, .d (I iv)), (6, .d (I i_)), (7, .own (.box (ws am))), (8, .d (I k_))]
abbrev UW (x_ : z6) (i_ : Int) (am : zh) (co : Int) (k_ : Int) (az : zb) (kq : Int) : List (Nat × T) := [(1, .own (.box (yq x_))), (3, .d (I co)), (6, .d (I i_)), (7, .own (.box (ws am))), (8, .d (I k_)), (9, .own (.box (qD az))), (10, .d (I kq))]
abbrev Qw (x_ : z6) (i_ : Int) (am : zh) (co : Int) (k_ : Int) : List (Nat × T) := [(1, .own (.box (yq x_))), (3, .d (I co)), (6, .d (I i_)), (7, .own (.box (ws am))), (8, .d (I k_))]
abbrev Qz (x_ : z6) (i_ : Int) (am : zh) (iw : Int) : List (Nat × T) := [(1, .own (.box (yq x_))), (3, .d (I iw)), (6, .d (I i_)), (7, .own (.box (ws am)))]
abbrev Qx (x_ : z6) (fm : Int) (i_ : Int) : List (Nat × T) := [(1, .own (.box (yq x_))), (3, .d (I fm)), (6, .d (I i_))]
abbrev QC (x_ : z6) (gv : Int) : List (Nat × T) := [(1, .own (.box (yq x_))), (3, .d (I gv))]
abbrev QD (x_ : z6) (dm : Int) : List (Nat × T) := [(1, .own (.box (yq x_))), (3, .d (I dm))]
abbrev UU (x_ : z6) (dm : Int) (cm : Int) : List (Nat × T) := [(1, .own (.box (yq x_))), (3, .d (I dm)), (5, .d (I cm))]
abbrev QE (x_ : z6) (dm : Int) : List (Nat × T) := [(1, .own (.box (yq x_))), (3, .d (I dm))]
abbrev UV (x_ : z6) (gg : Int) (ix : Int) : List (Nat × T) := [(1, .own (.box (yq x_))), (3, .d (I ix)), (4, .d (I gg))]
abbrev UT (x_ : z6) (fz : Int) (gg : Int) : List (Nat × T) := [(1, .own (.box (yq x_))), (3, .d (I fz)), (4, .d (I gg))]
theorem z0G (hC : zO Tryz.prog ctr) (h0u : ctr.Has kL) (h05 : ctr.Has Y1) : YR.Ok Tryz.prog := by
 refine zY ?_
 rintro x_ r0 aa
 try unfold VJ at aa
 refine yO true [(2, none)] yV 167 Tryz.func34 fun E hE => ?_
 rcases zJ aa with ⟨c0, aa⟩ | ⟨c0, aa⟩
 ·obtain rfl := zi aa
  exact yE X0 hC hE (rpN 4 (Hq c0) (rpN 11 qT []))
 ·let Z0 : List HO := (rpN 4 (Hq c0) [])
  rcases zJ aa with ⟨c1, aa⟩ | ⟨c1, aa⟩
  ·obtain rfl := zi aa
   exact yE X0 hC hE (Z0 ++ (rpN 5 (Hq c1) (rpN 6 qT [])))
  ·let Z1 : List HO := (Z0 ++ [Hq c1, Hq c1, Hq c1, Ha (lnM (eI .i64) x_.Channels), Hq c1, Hq c1])
   rcases zJ aa with ⟨c2, aa⟩ | ⟨c2, aa⟩
   ·obtain rfl := zi aa
    exact yE X0 hC hE (Z1 ++ (rpN 5 (Hq c2) [qT]))
   ·let Z2 : List HO := (Z1 ++ [Hq c2, Hq c2, Hq c2, Ha (lnM ws x_.Parts), Hq c2, Hq c2])
    rcases zJ aa with ⟨c3, aa⟩ | ⟨c3, aa⟩
    ·obtain rfl := zi aa
     exact yE X0 hC hE (Z2 ++ [Hq c3])
    ·refine yJ X0 hC yV [1,1,1] [] [1,3] (fun z : Int => X3 x_ z = some r0) (fun z => QE x_ z) [(1, .own (.box (yq x_))), (3, .d (I 0))] (Z2 ++ [Hq c3, Hh (.cut 1)]) ?_ fun J1 a8 => ?_
     ·rintro dm aa
      unfold X3 at aa
      refine yJ X0 hC yV [1,1,1,1] [] [1,3] (fun z : Unit => X2 x_ dm = some r0) (fun z => QD x_ dm) [(1, .own (.box (yq x_))), (3, .d (I dm))] [Hh (.cut 0)] ?_ fun J2 ba => ?_
      ·rintro ⟨⟩ aa
       unfold X2 at aa
       refine yJ X0 hC yV [1,1,1,1,1] [] [1,3] (fun z : Int => uH x_ z = some r0) (fun z => QC x_ z) [(1, .own (.box (yq x_))), (3, .d (I dm))] [Hh (.cut 0)] ?_ fun J3 cp => ?_
       ·rintro gv aa
        unfold uH at aa
        refine yJ X0 hC yV [1,1,1,1,1,1] [] [3] (fun z : Int => X1 z = some r0) (fun z => QB z) [(1, .own (.box (yq x_))), (3, .d (I gv))] [Hh (.cut 0)] ?_ fun J4 dv => ?_
        ·rintro jj aa
         unfold X1 at aa
         rcases zJ aa with ⟨c4, aa⟩ | ⟨c4, aa⟩
         ·obtain rfl := zi aa
          exact yE X0 hC hE [Hq c4]
         ·obtain rfl := zi aa
          exact yE X0 hC hE [Hq c4]
        ·obtain ⟨t5, ht5, aa⟩ := zj aa
         refine yL X0 hC yV [1,1,1,1,1,1,2,1,0] [J4] (fun s => YX x_ s.1 s.2) (fun x => Qx x_ x.1 x.2) (gv,0) ht5  [] ?_
         rintro ⟨fm, i_⟩ m5 bh ae hl1 J5 gh
         try unfold YX at ae
         let Z3 : List HO := [Ha (lnM ws x_.Parts)]
         rcases zJ ae with ⟨c5, ae⟩ | ⟨c5, ae⟩
         ·refine yJ X0 hC yV [1,1,1,1,1,1,2,1,0,0,1] [J4, J5] [1,3,6] (fun z : Int => YZ i_ z = some bh) (fun z => QA x_ i_ z) [(1, .own (.box (yq x_))), (3, .d (I fm)), (6, .d (I i_))] (Z3 ++ [Hq c5, Hh (.cut 0)]) ?_ fun J6 gb => ?_
          ·rintro iu ae
           unfold YZ at ae
           obtain rfl := zi ae
           exact yB X0 hC gh (iu, w64 (i_ + 1)) hl1 []
          ·obtain ⟨am, h0, ae⟩ := zj ae
           refine yJ X0 hC yV [1,1,1,1,1,1,2,1,0,0,1,2,0,1] [J4, J5, J6] [1,3,6,7] (fun z : Int => qZ x_ i_ am z = some bh) (fun z => Qz x_ i_ am z) [(1, .own (.box (yq x_))), (3, .d (I fm)), (6, .d (I i_)), (7, .own (.box (ws am)))] [Hi ws h0, Hh (.cut 0)] ?_ fun J7 la => ?_
           ·rintro iw ae
            unfold qZ at ae
            obtain ⟨t8, ht8, ae⟩ := zj ae
            refine yL X0 hC yV [1,1,1,1,1,1,2,1,0,0,1,2,0,1,1,1,0] [J4, J5, J6] (fun s => YW x_ am s.1 s.2) (fun x => Qw x_ i_ am x.1 x.2) (iw,0) ht8  [] ?_
            rintro ⟨co, k_⟩ m8 fp ak hl2 J8 l6
            try unfold YW at ak
            let Z4 : List HO := [Ha (lnM qD am.Arcs)]
            rcases zJ ak with ⟨c6, ak⟩ | ⟨c6, ak⟩
            ·refine yJ X0 hC yV [1,1,1,1,1,1,2,1,0,0,1,2,0,1,1,1,0,0,1] [J4, J5, J6, J8] [1,3,6,7,8] (fun z : Int => qY k_ z = some fp) (fun z => Qy x_ i_ am k_ z) [(1, .own (.box (yq x_))), (3, .d (I co)), (6, .d (I i_)), (7, .own (.box (ws am))), (8, .d (I k_))] (Z4 ++ [Hq c6, Hh (.cut 0)]) ?_ fun J9 lb => ?_
             ·rintro iv ak
              unfold qY at ak
              obtain rfl := zi ak
              exact yB X0 hC l6 (iv, w64 (k_ + 1)) hl2 []
             ·obtain ⟨az, h1, ak⟩ := zj ak
              obtain ⟨r_, h2, ak⟩ := zj ak
              obtain ⟨al, h3, ak⟩ := zj ak
              refine yJ X0 hC yV [1,1,1,1,1,1,2,1,0,0,1,2,0,1,1,1,0,0,1,2,0,1,1] [J4, J5, J6, J8, J9] [1,3,6,7,8,9,10] (fun z : Int => qA am co k_ az z = some fp) (fun z => UW x_ i_ am co k_ az z) [(1, .own (.box (yq x_))), (3, .d (I co)), (6, .d (I i_)), (7, .own (.box (ws am))), (8, .d (I k_)), (9, .own (.box (qD az))), (10, .d (I (w64 (r_ * al))))] [Hi qD h1, Ha (lnM (eI .i64) x_.Channels), Hc h05 (x := (az.Channel, ((x_.Channels.length : Nat) : Int))) h2 (loC (eI .i64) az.Channel <| loC (eI .i64) ((x_.Channels.length : Nat) : Int) <| loN), Hc h05 (x := (az.Message, x_.Messages)) h3 (loC (eI .i64) az.Message <| loC (eI .i64) x_.Messages <| loN), Hh (.cut 0)] ?_ fun J10 hJ10 => ?_
              ·rintro kq ak
               unfold qA at ak
               rcases zJ ak with ⟨c7, ak⟩ | ⟨c7, ak⟩
               ·exact yB X0 hC lb 1 ak (rpN 15 (Hq c7) [qT])
               ·obtain ⟨ai, h4, ak⟩ := zj ak
                obtain ⟨aj, h5, ak⟩ := zj ak
                let Z5 : List HO := (rpN 5 (Hq c7) (Hc h05 (x := (az.From, am.States)) h4 (loC (eI .i64) az.From <| loC (eI .i64) am.States <| loN) :: (rpN 5 (Hq c7) (Hc h05 (x := (az.To, am.States)) h5 (loC (eI .i64) az.To <| loC (eI .i64) am.States <| loN) :: (rpN 5 (Hq c7) [])))))
                rcases zJ ak with ⟨c8, ak⟩ | ⟨c8, ak⟩
                ·exact yB X0 hC lb 1 ak (Z5 ++ [Hq c8])
                ·exact yB X0 hC lb co ak (Z5 ++ [Hq c8])
              ·rcases zJ ak with ⟨c9, ak⟩ | ⟨c9, ak⟩
               ·obtain ⟨cg, h6, ak⟩ := zj ak
                let Z6 : List HO := [Hq c9, Hc h05 (x := (az.Message, x_.Labels)) h6 (loC (eI .i64) az.Message <| loC (eI .i64) x_.Labels <| loN)]
                rcases zJ ak with ⟨c10, ak⟩ | ⟨c10, ak⟩
                ·exact yB X0 hC hJ10 0 ak (Z6 ++ [Hq c10])
                ·exact yB X0 hC hJ10 cg ak (Z6 ++ [Hq c10])
               ·exact yB X0 hC hJ10 (w64 (r_ * al)) ak [Hq c9]
            ·obtain rfl := zi ak
             obtain rfl := hl2
             exact yB X0 hC gb co ae (Z4 ++ [Hq c6])
           ·rcases zJ ae with ⟨c11, ae⟩ | ⟨c11, ae⟩
            ·exact yB X0 hC la 1 ae (rpN 7 (Hq c11) [qT])
            ·obtain ⟨bu, h7, ae⟩ := zj ae
             let Z7 : List HO := (rpN 5 (Hq c11) [Hc h0u (x := (am.Final, am.States)) h7 (loC F3_ am.Final <| loC (eI .i64) am.States <| loN), Hq c11, Hq c11])
             rcases zJ ae with ⟨c12, ae⟩ | ⟨c12, ae⟩
             ·exact yB X0 hC la 1 ae (Z7 ++ [Hq c12])
             ·exact yB X0 hC la fm ae (Z7 ++ [Hq c12])
         ·obtain rfl := zi ae
          obtain rfl := hl1
          exact yB X0 hC dv fm aa (Z3 ++ [Hq c5])
       ·rcases zJ aa with ⟨c13, aa⟩ | ⟨c13, aa⟩
        ·exact yB X0 hC cp 1 aa (rpN 4 (Hq c13) (rpN 6 qT []))
        ·let Z8 : List HO := (rpN 4 (Hq c13) [])
         rcases zJ aa with ⟨c14, aa⟩ | ⟨c14, aa⟩
         ·exact yB X0 hC cp 1 aa (Z8 ++ (rpN 5 (Hq c14) [qT]))
         ·let Z9 : List HO := (Z8 ++ [Hq c14, Hq c14, Hq c14, Ha (lnM ws x_.Parts), Hq c14, Hq c14])
          rcases zJ aa with ⟨c15, aa⟩ | ⟨c15, aa⟩
          ·exact yB X0 hC cp 1 aa (Z9 ++ [Hq c15])
          ·exact yB X0 hC cp dm aa (Z9 ++ [Hq c15])
      ·obtain ⟨mb, ht11, aa⟩ := zj aa
       refine yL X0 hC yV [1,1,1,1,2,1,0] [J2] (fun s => Yf x_ s) (fun x => UU x_ dm x) 0 ht11  [] ?_
       rintro cm ml bh ae hl1 mp md
       try unfold Yf at ae
       let Z10 : List HO := [Ha (lnM ws x_.Parts)]
       rcases zJ ae with ⟨c16, ae⟩ | ⟨c16, ae⟩
       ·obtain ⟨fq, h8, ae⟩ := zj ae
        let Z11 : List HO := (Z10 ++ [Hq c16, Hi ws h8])
        rcases zJ ae with ⟨c17, ae⟩ | ⟨c17, ae⟩
        ·obtain rfl := zi ae
         obtain rfl := hl1
         obtain rfl := zi aa
         exact yE X0 hC hE (Z11 ++ (rpN 9 (Hq c17) [qT]))
        ·obtain ⟨jo, h9, ae⟩ := zj ae
         let Z12 : List HO := (Z11 ++ (rpN 4 (Hq c17) [Hi ws h9, Hq c17, Hq c17, Hq c17, Ha (lnM qD jo.Arcs), Hq c17, Hq c17]))
         rcases zJ ae with ⟨c18, ae⟩ | ⟨c18, ae⟩
         ·obtain rfl := zi ae
          obtain rfl := hl1
          obtain rfl := zi aa
          exact yE X0 hC hE (Z12 ++ [Hq c18])
         ·obtain rfl := zi ae
          exact yB X0 hC md (w64 (cm + 1)) hl1 (Z12 ++ [Hq c18])
       ·obtain rfl := zi ae
        obtain rfl := hl1
        exact yB X0 hC ba () aa (Z10 ++ [Hq c16])
     ·obtain ⟨t12, ht12, aa⟩ := zj aa
      refine yL X0 hC yV [1,1,1,2,1,0] [J1] (fun s => Ye x_ s.1 s.2) (fun x => UT x_ x.1 x.2) (0,0) ht12  [] ?_
      rintro ⟨fz, gg⟩ mq bh ae hl1 mh me
      try unfold Ye at ae
      let Z13 : List HO := [Ha (lnM (eI .i64) x_.Channels)]
      rcases zJ ae with ⟨c19, ae⟩ | ⟨c19, ae⟩
      ·refine yJ X0 hC yV [1,1,1,2,1,0,0,1] [J1, mh] [1,3,4] (fun z : Int => kQ gg z = some bh) (fun z => UV x_ gg z) [(1, .own (.box (yq x_))), (3, .d (I fz)), (4, .d (I gg))] (Z13 ++ [Hq c19, Hh (.cut 0)]) ?_ fun J13 hJ13 => ?_
       ·rintro ix ae
        unfold kQ at ae
        obtain rfl := zi ae
        exact yB X0 hC me (ix, w64 (gg + 1)) hl1 []
       ·obtain ⟨ap, h10, ae⟩ := zj ae
        rcases zJ ae with ⟨c20, ae⟩ | ⟨c20, ae⟩
        ·obtain rfl := zi ae
         obtain rfl := hl1
         obtain rfl := zi aa
         exact yE X0 hC hE [Hi (eI .i64) h10, Hq c20]
        ·obtain ⟨dx, h11, ae⟩ := zj ae
         let Z14 : List HO := [Hi (eI .i64) h10, Hq c20, Hi (eI .i64) h11]
         rcases zJ ae with ⟨c21, ae⟩ | ⟨c21, ae⟩
         ·exact yB X0 hC hJ13 1 ae (Z14 ++ [Hq c21])
         ·exact yB X0 hC hJ13 fz ae (Z14 ++ [Hq c21])
      ·obtain rfl := zi ae
       obtain rfl := hl1
       exact yB X0 hC a8 fz aa (Z13 ++ [Hq c19])
def XG : Code := (Tryz.f66.body).getD .skip
def xP : wI := spF (α := Int × z6) (ρ := Bool) 66 (fun x => [(eI .i64) x.1, z1w x.2]) (fun r => eB r) (fun x => qr x.1 x.2) [] (Uz)
theorem XL (hC : zO Tryz.prog ctr) (h02 : ctr.Has qH) : xP.Ok Tryz.prog := by
 refine zY ?_
 rintro ⟨m_, x1⟩ r0 aa
 try unfold qr at aa
 refine yO true [(3, none)] XG 9 Tryz.func66 fun E hE => ?_
 obtain ⟨r_, h0, aa⟩ := zj aa
 obtain rfl := zi aa
 exact yE X0 hC hE [Hc h02 (x := (m_, x1.Messages)) h0 (loC (eI .i64) m_ <| loC (eI .i64) x1.Messages <| loN)]
def wn : Code := (Tryz.f70.body).getD .skip
def vS : wI := spF (α := List Int × z6) (ρ := Int) 70 (fun x => [F3_ x.1, (z6k 66 z1w) x.2]) (fun r => (eI .i64) r) (fun x => wM x.1 x.2) [] (by
 rintro ⟨a0, a1⟩ ⟨b0, b1⟩ h
 have e0 := vD.inj (f := F3_) _ _ (List.cons.inj h).1
 replace h := (List.cons.inj h).2
 have e1 := vD.inj (f := (z6k 66 z1w)) _ _ (List.cons.inj h).1
 subst e0 e1
 rfl)
abbrev jZ : List (Nat × T) := []
abbrev jY (s_ : List Int) (f_ : z6) (x8 : Int) : List (Nat × T) := [(0, .d (eSl 1 false (eI .i64) s_)), (1, .d (.fn 66 [.sptr (.agg [I f_.Messages, I f_.Labels, eSl 1 false (eI .i64) f_.Channels, eSl 3 false ws f_.Parts])])), (7, .d (I ((s_.length : Nat) : Int))), (8, .d (I x8))]
theorem Zj (hC : zO Tryz.prog ctr) (h0h : ctr.Has xP) : vS.Ok Tryz.prog := by
 refine zY ?_
 rintro ⟨s_, f_⟩ r0 aa
 try unfold wM at aa
 refine yO true [(4, none)] wn 19 Tryz.func70 fun E hE => ?_
 refine yJ X0 hC wn [1] [] [] (fun z : Unit => wi = some r0) (fun z => jZ) [(0, .d (eSl 1 false (eI .i64) s_)), (1, .d (.fn 66 [.sptr (.agg [I f_.Messages, I f_.Labels, eSl 1 false (eI .i64) f_.Channels, eSl 3 false ws f_.Parts])]))] [Hh (.cut 1)] ?_ fun J1 a8 => ?_
 ·rintro ⟨⟩ aa
  unfold wi at aa
  obtain rfl := zi aa
  exact yE X0 hC hE []
 ·obtain ⟨t2, ht2, aa⟩ := zj aa
  refine yL X0 hC wn [1,2,1,0] [J1] (fun s => wh s_ f_ s) (fun x => jY s_ f_ x) 0 ht2  [Ha (lnM (eI .i64) s_)] ?_
  rintro x8 m2 bh ae hl1 J2 ba
  try unfold wh at ae
  rcases zJ ae with ⟨c0, ae⟩ | ⟨c0, ae⟩
  ·obtain ⟨bo, h0, ae⟩ := zj ae
   obtain ⟨r_, h1, ae⟩ := zj ae
   let Z0 : List HO := [Hq c0, Hi (eI .i64) h0, Hc h0h (x := (bo, f_)) h1 (loC (eI .i64) bo <| loC z1w f_ <| loN)]
   rcases zJ ae with ⟨c1, ae⟩ | ⟨c1, ae⟩
   ·obtain rfl := zi ae
    obtain rfl := hl1
    obtain rfl := zi aa
    exact yE X0 hC hE (Z0 ++ [Hq c1])
   ·obtain rfl := zi ae
    exact yB X0 hC ba (w64 (x8 + 1)) hl1 (Z0 ++ [Hq c1])
  ·obtain rfl := zi ae
   obtain rfl := hl1
   exact yB X0 hC a8 () aa [Hq c0]
def jU : Code := (Tryz.f46.body).getD .skip
def wY : wI := spF (α := List Int × z6) (ρ := Bool) 46 (fun x => [F3_ x.1, (z6k 66 z1w) x.2]) (fun r => eB r) (fun x => wl x.1 x.2) [] (by
 rintro ⟨a0, a1⟩ ⟨b0, b1⟩ h
 have e0 := vD.inj (f := F3_) _ _ (List.cons.inj h).1
 replace h := (List.cons.inj h).2
 have e1 := vD.inj (f := (z6k 66 z1w)) _ _ (List.cons.inj h).1
 subst e0 e1
 rfl)
theorem ve (hC : zO Tryz.prog ctr) (h0h : ctr.Has xP) : wY.Ok Tryz.prog := by
 refine zY ?_
 rintro ⟨s_, f_⟩ r0 aa
 try unfold wl at aa
 refine yO true [(4, none)] jU 9 Tryz.func46 fun E hE => ?_
 obtain ⟨r_, h0, aa⟩ := zj aa
 obtain rfl := zi aa
 exact yE ((Q3 zC (Zj hC h0h) 7).or X0) hC hE [Hc (Ctr.add_has Qt vS) (x := (s_, f_)) h0 (loC F3_ s_ <| loC (z6k 66 z1w) f_ <| loN)]
def wc : Code := (Tryz.f37.body).getD .skip
def wb : wI := spF (α := z6 × z8) (ρ := Int) 37 (fun x => [yq x.1, uK x.2]) (fun r => (eI .i64) r) (fun x => wQ x.1 x.2) [] (Uz)
abbrev Xl : List (Nat × T) := []
abbrev Xk (x_ : z6) (c_ : z8) (jt : Int) : List (Nat × T) := [(2, .d (.sptr (yq x_))), (50, .d (eSl 1 false F3_ c_.Queues)), (51, .d (I ((c_.Queues.length : Nat) : Int))), (52, .d (I jt))]
abbrev Xm (x_ : z6) (c_ : z8) : List (Nat × T) := [(2, .own (.box (yq x_))), (3, .own (.box (uK c_)))]
abbrev Xj (x_ : z6) (c_ : z8) (ju : Int) : List (Nat × T) := [(2, .own (.box (yq x_))), (3, .own (.box (uK c_))), (32, .d (eSl 3 false ws x_.Parts)), (33, .d (I ((x_.Parts.length : Nat) : Int))), (34, .d (I ju))]
theorem WJ (hC : zO Tryz.prog ctr) (h06 : ctr.Has wD) (h02 : ctr.Has qH) (h0h : ctr.Has xP) : wb.Ok Tryz.prog := by
 refine zY ?_
 rintro ⟨x_, c_⟩ r0 aa
 try unfold wQ at aa
 refine yO true [(4, none)] wc 71 Tryz.func37 fun E hE => ?_
 obtain ⟨r_, h0, aa⟩ := zj aa
 let Z0 : List HO := [Hc h06 (x := x_) h0 (loC yq x_ <| loN)]
 rcases zJ aa with ⟨c0, aa⟩ | ⟨c0, aa⟩
 ·obtain rfl := zi aa
  exact yE X0 hC hE (Z0 ++ [Hq c0])
 ·let Z1 : List HO := (Z0 ++ [Hq c0, Ha (lnM (eI .i64) c_.States), Ha (lnM ws x_.Parts)])
  rcases zJ aa with ⟨c1, aa⟩ | ⟨c1, aa⟩
  ·obtain rfl := zi aa
   exact yE X0 hC hE (Z1 ++ (rpN 8 (Hq c1) [qT]))
  ·let Z2 : List HO := (Z1 ++ [Hq c1, Hq c1, Hq c1, Ha (lnM F3_ c_.Queues), Hq c1, Hq c1, Hq c1, Ha (lnM (eI .i64) x_.Channels), Hq c1, Hq c1])
   rcases zJ aa with ⟨c2, aa⟩ | ⟨c2, aa⟩
   ·obtain rfl := zi aa
    exact yE X0 hC hE (Z2 ++ [Hq c2])
   ·refine yJ X0 hC wc [1,1,1] [] [2,3] (fun z : Unit => uO x_ c_ = some r0) (fun z => Xm x_ c_) [(2, .own (.box (yq x_))), (3, .own (.box (uK c_)))] (Z2 ++ [Hq c2, Hh (.cut 0)]) ?_ fun J1 a8 => ?_
    ·rintro ⟨⟩ aa
     unfold uO at aa
     refine yJ X0 hC wc [1,1,1,1] [] [] (fun z : Unit => uN = some r0) (fun z => Xl) [(2, .own (.box (yq x_))), (3, .own (.box (uK c_)))] [Hh (.cut 0)] ?_ fun J2 ba => ?_
     ·rintro ⟨⟩ aa
      unfold uN at aa
      obtain rfl := zi aa
      exact yE X0 hC hE []
     ·obtain ⟨t3, ht3, aa⟩ := zj aa
      refine yL X0 hC wc [1,1,1,1,2,1,0] [J2] (fun s => uM x_ c_ s) (fun x => Xk x_ c_ x) 0 ht3  [Ha (lnM F3_ c_.Queues), Hh (.n 1 [2])] ?_
      rintro jt m3 bh ae hl1 J3 cp
      try unfold uM at ae
      rcases zJ ae with ⟨c3, ae⟩ | ⟨c3, ae⟩
      ·obtain ⟨a7, h1, ae⟩ := zj ae
       obtain ⟨ap, h2, ae⟩ := zj ae
       let Z3 : List HO := [Hq c3, Hi F3_ h1, Ha (lnM (eI .i64) a7), Hi (eI .i64) h2]
       rcases zJ ae with ⟨c4, ae⟩ | ⟨c4, ae⟩
       ·obtain rfl := zi ae
        obtain rfl := hl1
        obtain rfl := zi aa
        exact yE X0 hC hE (Z3 ++ (rpN 4 (Hq c4) [qT]))
       ·obtain ⟨al, h3, ae⟩ := zj ae
        let Z4 : List HO := (Z3 ++ [Hq c4, Hq c4, Hq c4, Hc (Ctr.add_has Qt wY) (x := (a7, x_)) h3 (loC F3_ a7 <| loC (z6k 66 z1w) x_ <| loN), Hq c4])
        rcases zJ ae with ⟨c5, ae⟩ | ⟨c5, ae⟩
        ·obtain rfl := zi ae
         obtain rfl := hl1
         obtain rfl := zi aa
         exact yE ((Q3 zC (ve hC h0h) 68).or X0) hC hE (Z4 ++ [Hq c5])
        ·obtain rfl := zi ae
         exact yB ((Q3 zC (ve hC h0h) 68).or X0) hC cp (w64 (jt + 1)) hl1 (Z4 ++ [Hq c5])
      ·obtain rfl := zi ae
       obtain rfl := hl1
       exact yB X0 hC ba () aa [Hq c3]
    ·obtain ⟨t4, ht4, aa⟩ := zj aa
     refine yL X0 hC wc [1,1,1,2,1,0] [J1] (fun s => uL x_ c_ s) (fun x => Xj x_ c_ x) 0 ht4  [Ha (lnM ws x_.Parts)] ?_
     rintro ju m4 bh ae hl1 J4 dv
     try unfold uL at ae
     rcases zJ ae with ⟨c6, ae⟩ | ⟨c6, ae⟩
     ·obtain ⟨am, h4, ae⟩ := zj ae
      obtain ⟨ep, h5, ae⟩ := zj ae
      obtain ⟨ai, h6, ae⟩ := zj ae
      let Z5 : List HO := [Hq c6, Hi ws h4, Hi (eI .i64) h5, Hc h02 (x := (ep, am.States)) h6 (loC (eI .i64) ep <| loC (eI .i64) am.States <| loN)]
      rcases zJ ae with ⟨c7, ae⟩ | ⟨c7, ae⟩
      ·obtain rfl := zi ae
       obtain rfl := hl1
       obtain rfl := zi aa
       exact yE X0 hC hE (Z5 ++ [Hq c7])
      ·obtain rfl := zi ae
       exact yB X0 hC dv (w64 (ju + 1)) hl1 (Z5 ++ [Hq c7])
     ·obtain rfl := zi ae
      obtain rfl := hl1
      exact yB X0 hC a8 () aa [Hq c6]
def vb : Code := (Tryz.f65.body).getD .skip
def jB : wI := spF (α := z8) (ρ := za) 65 (fun x => [uK x]) (fun r => yR r) (fun x => ZL x) [] (Q1)
abbrev Ue (arr : zI Int) (dw : zI zg) : List (Nat × T) := [(2, .own (.box (.agg [F0_ arr, z4N dw])))]
abbrev Ud (c_ : z8) (arr : zI Int) (de : Int) (ga : zI zg) : List (Nat × T) := [(2, .own (.box (.agg [F0_ arr, z4N ga]))), (13, .d (eSl 1 false F3_ c_.Queues)), (14, .d (I ((c_.Queues.length : Nat) : Int))), (15, .d (I de))]
abbrev Ub (c_ : z8) (arr : zI Int) (de : Int) (a7 : List Int) (ah : zI zg) (gp : Int) : List (Nat × T) := [(2, .own (.box (.agg [F0_ arr, z4N ah]))), (3, .d (I de)), (13, .d (eSl 1 false F3_ c_.Queues)), (14, .d (I ((c_.Queues.length : Nat) : Int))), (15, .d (I de)), (20, .d (eSl 1 false (eI .i64) a7)), (21, .d (I ((a7.length : Nat) : Int))), (22, .d (I gp))]
abbrev Uc (c_ : z8) (arr : zI Int) (du : zI zg) (de : Int) : List (Nat × T) := [(2, .own (.box (.agg [F0_ arr, z4N du]))), (13, .d (eSl 1 false F3_ c_.Queues)), (14, .d (I ((c_.Queues.length : Nat) : Int))), (15, .d (I de))]
theorem JG (hC : zO Tryz.prog ctr) (h0t : ctr.Has vK) : jB.Ok Tryz.prog := by
 refine zY ?_
 rintro c_ r0 aa
 try unfold ZL at aa
 refine yO false [(2, some 62)] vb 38 Tryz.func65 fun E hE => ?_
 refine yA X0 hC vb [1] [] [(1, .own (.box (uK c_))), (2, .own (.box (.agg [.agg [I 0, I 0, I 0, I 0], .agg [.agg [I 0, .agg [I 0, I 0, I 0, I 0]], .agg [I 0, .agg [I 0, I 0, I 0, I 0]], .agg [I 0, .agg [I 0, I 0, I 0, I 0]], .agg [I 0, .agg [I 0, I 0, I 0, I 0]]]])))] [Hh (.cut 1)] ?_
 refine z3s (y := .box (.agg [.agg [I 0, I 0, I 0, I 0], .agg [.agg [I 0, .agg [I 0, I 0, I 0, I 0]], .agg [I 0, .agg [I 0, I 0, I 0, I 0]], .agg [I 0, .agg [I 0, I 0, I 0, I 0]], .agg [I 0, .agg [I 0, I 0, I 0, I 0]]]])) (by kernel_rfl) 2 (by kernel_rfl) (by kernel_rfl) fun pv2 hv2 => ?_
 obtain ⟨arr, h0, aa⟩ := zj aa
 replace h0 := zi h0
 refine yJ ((xCp zC 11 2 0 0 pv2 none).or ((xAv zC 8 2 0 0 pv2).or X0)) hC vb [1,1] [] [2] (fun z : zI zg => Zv arr z = some r0) (fun z => Ue arr z) [(1, .own (.box (uK c_))), (2, .own (.box (.agg [F0_ arr, .agg [.agg [I 0, .agg [I 0, I 0, I 0, I 0]], .agg [I 0, .agg [I 0, I 0, I 0, I 0]], .agg [I 0, .agg [I 0, I 0, I 0, I 0]], .agg [I 0, .agg [I 0, I 0, I 0, I 0]]]])))] [Hn (⟨rfl, rfl⟩ : T.ptr 2 [.deref, .fld 0] 0 0 = T.ptr 2 [.deref, .fld 0] 0 0 ∧ some pv2 = some pv2), Hn (⟨rfl, rfl⟩ : T.d (.atom (z1o pv2 0 0 4)) = T.d (.atom (z1o pv2 0 0 4)) ∧ some pv2 = some pv2), Hn (dM (eI .i64) c_.States), Hx (.l ((zI.toL arr).map (eI .i64))) ((z6l (eI .i64) (zI.toL (zI.mk 0 0 0 0)) 0 c_.States).trans (congrArg (fun q => q.map (eI .i64)) ((zI.toL_ofL (cpA (zI.toL (zI.mk 0 0 0 0)) 0 c_.States) (zI.mk 0 0 0 0) (z6m (zI.toL (zI.mk 0 0 0 0)) 0 c_.States (by show (0 : Nat) ≤ 4; decide))).symm.trans (congrArg zI.toL h0)))), Hh (.cut 0)] ?_ fun J1 a8 => ?_
 ·rintro dw aa
  unfold Zv at aa
  obtain rfl := zi aa
  exact yE X0 hC hE []
 ·obtain ⟨t2, ht2, aa⟩ := zj aa
  refine yL X0 hC vb [1,1,2,1,0] [J1] (fun s => Zt c_ s.1 s.2) (fun x => Uc c_ arr x.1 x.2) ((zI.mk (zg.mk 0 (zI.mk 0 0 0 0)) (zg.mk 0 (zI.mk 0 0 0 0)) (zg.mk 0 (zI.mk 0 0 0 0)) (zg.mk 0 (zI.mk 0 0 0 0))), 0) ht2  [Ha (lnM F3_ c_.Queues)] ?_
  rintro ⟨du, de⟩ m2 bh ae hl1 J2 ba
  try unfold Zt at ae
  rcases zJ ae with ⟨c0, ae⟩ | ⟨c0, ae⟩
  ·refine yJ X0 hC vb [1,1,2,1,0,0,1,1] [J1, J2] [2,13,14,15] (fun z : zI zg => Zu de z = some bh) (fun z => Ud c_ arr de z) [(2, .own (.box (.agg [F0_ arr, z4N du]))), (13, .d (eSl 1 false F3_ c_.Queues)), (14, .d (I ((c_.Queues.length : Nat) : Int))), (15, .d (I de))] [Hq c0, Hh (.cut 0)] ?_ fun J3 cp => ?_
   ·rintro ga ae
    unfold Zu at ae
    obtain rfl := zi ae
    exact yB X0 hC ba (ga, w64 (de + 1)) hl1 []
   ·obtain ⟨a7, h1, ae⟩ := zj ae
    obtain ⟨t4, ht4, ae⟩ := zj ae
    refine yL X0 hC vb [1,1,2,1,0,0,1,1,2,0,1,1,0] [J1, J2, J3] (fun s => Zs de a7 s.1 s.2) (fun x => Ub c_ arr de a7 x.1 x.2) (du,0) ht4  [Hi F3_ h1, Ha (lnM (eI .i64) a7)] ?_
    rintro ⟨ah, gp⟩ m4 fp ak hl2 J4 dv
    try unfold Zs at ak
    rcases zJ ak with ⟨c1, ak⟩ | ⟨c1, ak⟩
    ·obtain ⟨dg, h2, ak⟩ := zj ak
     obtain ⟨cell, h3, ak⟩ := zj ak
     obtain ⟨r_, h4, ak⟩ := zj ak
     obtain ⟨bl, h5, ak⟩ := zj ak
     obtain ⟨arr1, h6, ak⟩ := zj ak
     replace h6 := zi h6
     obtain rfl := zi ak
     exact yB X0 hC dv (arr1, w64 (gp + 1)) hl2 [Hq c1, Hi (eI .i64) h2, Hn (⟨arJ (by kernel_rfl) (i0 h3), (iL F9_ h3).2⟩ : Yy qd 60 ((zI.toL ah).map F9_) de = true ∧ de.toNat < ((zI.toL ah).map F9_).length), Hh (.op 6), Hh (.f), Hx (.a (.agg [.agg [I ah.e0.many_, .agg [I ah.e0.l_.e0, I ah.e0.l_.e1, I ah.e0.l_.e2, I ah.e0.l_.e3]], .agg [I ah.e1.many_, .agg [I ah.e1.l_.e0, I ah.e1.l_.e1, I ah.e1.l_.e2, I ah.e1.l_.e3]], .agg [I ah.e2.many_, .agg [I ah.e2.l_.e0, I ah.e2.l_.e1, I ah.e2.l_.e2, I ah.e2.l_.e3]], .agg [I ah.e3.many_, .agg [I ah.e3.l_.e0, I ah.e3.l_.e1, I ah.e3.l_.e2, I ah.e3.l_.e3]]])) (rfl : some (.agg [.agg [I ah.e0.many_, .agg [I ah.e0.l_.e0, I ah.e0.l_.e1, I ah.e0.l_.e2, I ah.e0.l_.e3]], .agg [I ah.e1.many_, .agg [I ah.e1.l_.e0, I ah.e1.l_.e1, I ah.e1.l_.e2, I ah.e1.l_.e3]], .agg [I ah.e2.many_, .agg [I ah.e2.l_.e0, I ah.e2.l_.e1, I ah.e2.l_.e2, I ah.e2.l_.e3]], .agg [I ah.e3.many_, .agg [I ah.e3.l_.e0, I ah.e3.l_.e1, I ah.e3.l_.e2, I ah.e3.l_.e3]]] : A) = some (.agg [.agg [I ah.e0.many_, .agg [I ah.e0.l_.e0, I ah.e0.l_.e1, I ah.e0.l_.e2, I ah.e0.l_.e3]], .agg [I ah.e1.many_, .agg [I ah.e1.l_.e0, I ah.e1.l_.e1, I ah.e1.l_.e2, I ah.e1.l_.e3]], .agg [I ah.e2.many_, .agg [I ah.e2.l_.e0, I ah.e2.l_.e1, I ah.e2.l_.e2, I ah.e2.l_.e3]], .agg [I ah.e3.many_, .agg [I ah.e3.l_.e0, I ah.e3.l_.e1, I ah.e3.l_.e2, I ah.e3.l_.e3]]])), Hh (.f), Hs (iM F9_ h3), Hc h0t (x := (cell, dg)) h4 (loC F9_ cell <| loC (eI .i64) dg <| loN), Hn (⟨arJ (by kernel_rfl) (i0 h5), (iL F9_ h5).2⟩ : Yy qd 60 ((zI.toL ah).map F9_) de = true ∧ de.toNat < ((zI.toL ah).map F9_).length), Hh (.op 2), Hh (.f), Hx (.a (.agg [.agg [I ah.e0.many_, .agg [I ah.e0.l_.e0, I ah.e0.l_.e1, I ah.e0.l_.e2, I ah.e0.l_.e3]], .agg [I ah.e1.many_, .agg [I ah.e1.l_.e0, I ah.e1.l_.e1, I ah.e1.l_.e2, I ah.e1.l_.e3]], .agg [I ah.e2.many_, .agg [I ah.e2.l_.e0, I ah.e2.l_.e1, I ah.e2.l_.e2, I ah.e2.l_.e3]], .agg [I ah.e3.many_, .agg [I ah.e3.l_.e0, I ah.e3.l_.e1, I ah.e3.l_.e2, I ah.e3.l_.e3]]])) (rfl : some (.agg [.agg [I ah.e0.many_, .agg [I ah.e0.l_.e0, I ah.e0.l_.e1, I ah.e0.l_.e2, I ah.e0.l_.e3]], .agg [I ah.e1.many_, .agg [I ah.e1.l_.e0, I ah.e1.l_.e1, I ah.e1.l_.e2, I ah.e1.l_.e3]], .agg [I ah.e2.many_, .agg [I ah.e2.l_.e0, I ah.e2.l_.e1, I ah.e2.l_.e2, I ah.e2.l_.e3]], .agg [I ah.e3.many_, .agg [I ah.e3.l_.e0, I ah.e3.l_.e1, I ah.e3.l_.e2, I ah.e3.l_.e3]]] : A) = some (.agg [.agg [I ah.e0.many_, .agg [I ah.e0.l_.e0, I ah.e0.l_.e1, I ah.e0.l_.e2, I ah.e0.l_.e3]], .agg [I ah.e1.many_, .agg [I ah.e1.l_.e0, I ah.e1.l_.e1, I ah.e1.l_.e2, I ah.e1.l_.e3]], .agg [I ah.e2.many_, .agg [I ah.e2.l_.e0, I ah.e2.l_.e1, I ah.e2.l_.e2, I ah.e2.l_.e3]], .agg [I ah.e3.many_, .agg [I ah.e3.l_.e0, I ah.e3.l_.e1, I ah.e3.l_.e2, I ah.e3.l_.e3]]])), Hh (.f), Hs (iM F9_ h5), Hh (.f), Hx (.a (.agg [.agg [I ah.e0.many_, .agg [I ah.e0.l_.e0, I ah.e0.l_.e1, I ah.e0.l_.e2, I ah.e0.l_.e3]], .agg [I ah.e1.many_, .agg [I ah.e1.l_.e0, I ah.e1.l_.e1, I ah.e1.l_.e2, I ah.e1.l_.e3]], .agg [I ah.e2.many_, .agg [I ah.e2.l_.e0, I ah.e2.l_.e1, I ah.e2.l_.e2, I ah.e2.l_.e3]], .agg [I ah.e3.many_, .agg [I ah.e3.l_.e0, I ah.e3.l_.e1, I ah.e3.l_.e2, I ah.e3.l_.e3]]])) (rfl : some (.agg [.agg [I ah.e0.many_, .agg [I ah.e0.l_.e0, I ah.e0.l_.e1, I ah.e0.l_.e2, I ah.e0.l_.e3]], .agg [I ah.e1.many_, .agg [I ah.e1.l_.e0, I ah.e1.l_.e1, I ah.e1.l_.e2, I ah.e1.l_.e3]], .agg [I ah.e2.many_, .agg [I ah.e2.l_.e0, I ah.e2.l_.e1, I ah.e2.l_.e2, I ah.e2.l_.e3]], .agg [I ah.e3.many_, .agg [I ah.e3.l_.e0, I ah.e3.l_.e1, I ah.e3.l_.e2, I ah.e3.l_.e3]]] : A) = some (.agg [.agg [I ah.e0.many_, .agg [I ah.e0.l_.e0, I ah.e0.l_.e1, I ah.e0.l_.e2, I ah.e0.l_.e3]], .agg [I ah.e1.many_, .agg [I ah.e1.l_.e0, I ah.e1.l_.e1, I ah.e1.l_.e2, I ah.e1.l_.e3]], .agg [I ah.e2.many_, .agg [I ah.e2.l_.e0, I ah.e2.l_.e1, I ah.e2.l_.e2, I ah.e2.l_.e3]], .agg [I ah.e3.many_, .agg [I ah.e3.l_.e0, I ah.e3.l_.e1, I ah.e3.l_.e2, I ah.e3.l_.e3]]])), Hh (.f), Hs (iM F9_ h5), Hx (.l ((zI.toL arr1).map F9_)) ((zI.setL F9_ ah de r_).trans (congrArg (fun q => (zI.toL q).map F9_) h6)), Hx (.l [.agg [I arr.e0, I arr.e1, I arr.e2, I arr.e3], .agg [.agg [I arr1.e0.many_, .agg [I arr1.e0.l_.e0, I arr1.e0.l_.e1, I arr1.e0.l_.e2, I arr1.e0.l_.e3]], .agg [I arr1.e1.many_, .agg [I arr1.e1.l_.e0, I arr1.e1.l_.e1, I arr1.e1.l_.e2, I arr1.e1.l_.e3]], .agg [I arr1.e2.many_, .agg [I arr1.e2.l_.e0, I arr1.e2.l_.e1, I arr1.e2.l_.e2, I arr1.e2.l_.e3]], .agg [I arr1.e3.many_, .agg [I arr1.e3.l_.e0, I arr1.e3.l_.e1, I arr1.e3.l_.e2, I arr1.e3.l_.e3]]]]) (rfl : ([.agg [I arr.e0, I arr.e1, I arr.e2, I arr.e3], .agg [.agg [I arr1.e0.many_, .agg [I arr1.e0.l_.e0, I arr1.e0.l_.e1, I arr1.e0.l_.e2, I arr1.e0.l_.e3]], .agg [I arr1.e1.many_, .agg [I arr1.e1.l_.e0, I arr1.e1.l_.e1, I arr1.e1.l_.e2, I arr1.e1.l_.e3]], .agg [I arr1.e2.many_, .agg [I arr1.e2.l_.e0, I arr1.e2.l_.e1, I arr1.e2.l_.e2, I arr1.e2.l_.e3]], .agg [I arr1.e3.many_, .agg [I arr1.e3.l_.e0, I arr1.e3.l_.e1, I arr1.e3.l_.e2, I arr1.e3.l_.e3]]]] : List A) = [.agg [I arr.e0, I arr.e1, I arr.e2, I arr.e3], .agg [.agg [I arr1.e0.many_, .agg [I arr1.e0.l_.e0, I arr1.e0.l_.e1, I arr1.e0.l_.e2, I arr1.e0.l_.e3]], .agg [I arr1.e1.many_, .agg [I arr1.e1.l_.e0, I arr1.e1.l_.e1, I arr1.e1.l_.e2, I arr1.e1.l_.e3]], .agg [I arr1.e2.many_, .agg [I arr1.e2.l_.e0, I arr1.e2.l_.e1, I arr1.e2.l_.e2, I arr1.e2.l_.e3]], .agg [I arr1.e3.many_, .agg [I arr1.e3.l_.e0, I arr1.e3.l_.e1, I arr1.e3.l_.e2, I arr1.e3.l_.e3]]]])]
    ·obtain rfl := zi ak
     obtain rfl := hl2
     exact yB X0 hC cp ah ae [Hq c1]
  ·obtain rfl := zi ae
   obtain rfl := hl1
   exact yB X0 hC a8 du aa [Hq c0]
def qa : Code := (Tryz.f31.body).getD .skip
def xj : wI := spF (α := List ze) (ρ := List ze) 31 (fun x => [zci x]) (fun r => z8D r) (fun x => xw x) [] (Q1)
theorem qq (hC : zO Tryz.prog ctr) : xj.Ok Tryz.prog := by
 refine zY ?_
 rintro s_ r0 aa
 try unfold xw at aa
 refine yO true [(2, none)] qa 9 Tryz.func31 fun E hE => ?_
 obtain ⟨g0, aa⟩ := gdE aa
 obtain rfl := zi aa
 exact yE X0 hC hE [Ha (lnM xc s_), Ha (lnM xc s_), Hn (slB g0), Hn (slC g0), Hn (z51 xc g0), Ha (zbg 4 xc s_ 0 ((s_.length : Nat) : Int).toNat)]
def vd : Code := (Tryz.f35.body).getD .skip
def Zz : wI := spF (α := z6 × z8) (ρ := List ze × Int) 35 (fun x => [yq x.1, uK x.2]) (fun r => .tup [z8D r.1, (eI .i64) r.2]) (fun x => XN x.1 x.2) [] (Uz)
abbrev Uf (out : List ze) : List (Nat × T) := [(7, .own (.box (eOs 4 false xc out)))]
abbrev Yt (aj : z6 × za) (cq : List ze) : List (Nat × T) := [(7, .own (.box (eOs 4 false xc cq))), (18, .d (.fn 72 [.sptr (.agg [I aj.1.Messages, I aj.1.Labels, eSl 1 false (eI .i64) aj.1.Channels, eSl 3 false ws aj.1.Parts]), .sptr (.agg [.agg [I aj.2.states_.e0, I aj.2.states_.e1, I aj.2.states_.e2, I aj.2.states_.e3], .agg [.agg [I aj.2.queues_.e0.many_, .agg [I aj.2.queues_.e0.l_.e0, I aj.2.queues_.e0.l_.e1, I aj.2.queues_.e0.l_.e2, I aj.2.queues_.e0.l_.e3]], .agg [I aj.2.queues_.e1.many_, .agg [I aj.2.queues_.e1.l_.e0, I aj.2.queues_.e1.l_.e1, I aj.2.queues_.e1.l_.e2, I aj.2.queues_.e1.l_.e3]], .agg [I aj.2.queues_.e2.many_, .agg [I aj.2.queues_.e2.l_.e0, I aj.2.queues_.e2.l_.e1, I aj.2.queues_.e2.l_.e2, I aj.2.queues_.e2.l_.e3]], .agg [I aj.2.queues_.e3.many_, .agg [I aj.2.queues_.e3.l_.e0, I aj.2.queues_.e3.l_.e1, I aj.2.queues_.e3.l_.e2, I aj.2.queues_.e3.l_.e3]]]])]))]
theorem JI (hC : zO Tryz.prog ctr) (h0n : ctr.Has wb) (h0v : ctr.Has jB) (h0i : ctr.Has xY) (h07 : ctr.Has xC) (h0c : ctr.Has xA) (h0d : ctr.Has jS) (h0H : ctr.Has xj) : Zz.Ok Tryz.prog := by
 refine zY ?_
 rintro ⟨x_, c_⟩ r0 aa
 try unfold XN at aa
 refine yO false [(4, none), (5, none)] vd 27 Tryz.func35 fun E hE => ?_
 obtain ⟨r_, h0, aa⟩ := zj aa
 let Z0 : List HO := [Hc h0n (x := (x_, c_)) h0 (loC yq x_ <| loC uK c_ <| loN)]
 rcases zJ aa with ⟨c0, aa⟩ | ⟨c0, aa⟩
 ·obtain rfl := zi aa
  exact yEx X0 hC hE (Z0 ++ [Hq c0, Hm (shM xc xc [])]) (.tup [eSl 4 true xc [], I r_]) (show LeV (.tup [eSl 4 true xc [], I r_]) (.tup [eSl 4 true xc ([] : List ze), I r_]) from inferInstance)
 ·refine yJ X0 hC vd [1,1,1] [] [7] (fun z : List ze => Zw z = some r0) (fun z => Uf z) [(2, .own (.box (yq x_))), (3, .own (.box (uK c_))), (7, .own (.box (eOs 4 true xc [])))] (Z0 ++ [Hq c0, Hh (.cut 1)]) ?_ fun J1 a8 => ?_
  ·rintro out aa
   unfold Zw at aa
   obtain ⟨al, h1, aa⟩ := zj aa
   obtain rfl := zi aa
   exact yE X0 hC hE [Hg (Ko h0H), Hm (shM xc xc out), Hs (Kp h0H (x := out) h1 (loC zci out <| loN)), Hm (shM xc xc out)]
  ·obtain ⟨ai, h2, aa⟩ := zj aa
   obtain ⟨aj, h3, aa⟩ := zj aa
   obtain ⟨t2, ht2, aa⟩ := zj aa
   refine yAt X0 hC (sub [1,1,1,2,1,0] vd) (frs [1,1,1,2,1,0] [J1] vd []) [(7, .own (.box (eOs 4 true xc []))), (18, .d (.fn 72 [.sptr (.agg [I aj.1.Messages, I aj.1.Labels, eSl 1 false (eI .i64) aj.1.Channels, eSl 3 false ws aj.1.Parts]), .sptr (.agg [.agg [I aj.2.states_.e0, I aj.2.states_.e1, I aj.2.states_.e2, I aj.2.states_.e3], .agg [.agg [I aj.2.queues_.e0.many_, .agg [I aj.2.queues_.e0.l_.e0, I aj.2.queues_.e0.l_.e1, I aj.2.queues_.e0.l_.e2, I aj.2.queues_.e0.l_.e3]], .agg [I aj.2.queues_.e1.many_, .agg [I aj.2.queues_.e1.l_.e0, I aj.2.queues_.e1.l_.e1, I aj.2.queues_.e1.l_.e2, I aj.2.queues_.e1.l_.e3]], .agg [I aj.2.queues_.e2.many_, .agg [I aj.2.queues_.e2.l_.e0, I aj.2.queues_.e2.l_.e1, I aj.2.queues_.e2.l_.e2, I aj.2.queues_.e2.l_.e3]], .agg [I aj.2.queues_.e3.many_, .agg [I aj.2.queues_.e3.l_.e0, I aj.2.queues_.e3.l_.e1, I aj.2.queues_.e3.l_.e2, I aj.2.queues_.e3.l_.e3]]]])]))] [Hc h0v (x := c_) h2 (loC uK c_ <| loN), Hc h0i (x := (x_, ai)) h3 (loC yq x_ <| loC yR ai <| loN)] fun st0 h0 => ?_
   refine KJ (g := .tmp 18) (ps := [19,20]) (assign := (sub [1,1,1,2,1,0,0] vd)) (body := (sub [1,1,1,2,1,0,1] vd)) (K := 72) (caps := [.sptr (.agg [I aj.1.Messages, I aj.1.Labels, eSl 1 false (eI .i64) aj.1.Channels, eSl 3 false ws aj.1.Parts]), .sptr (.agg [.agg [I aj.2.states_.e0, I aj.2.states_.e1, I aj.2.states_.e2, I aj.2.states_.e3], .agg [.agg [I aj.2.queues_.e0.many_, .agg [I aj.2.queues_.e0.l_.e0, I aj.2.queues_.e0.l_.e1, I aj.2.queues_.e0.l_.e2, I aj.2.queues_.e0.l_.e3]], .agg [I aj.2.queues_.e1.many_, .agg [I aj.2.queues_.e1.l_.e0, I aj.2.queues_.e1.l_.e1, I aj.2.queues_.e1.l_.e2, I aj.2.queues_.e1.l_.e3]], .agg [I aj.2.queues_.e2.many_, .agg [I aj.2.queues_.e2.l_.e0, I aj.2.queues_.e2.l_.e1, I aj.2.queues_.e2.l_.e2, I aj.2.queues_.e2.l_.e3]], .agg [I aj.2.queues_.e3.many_, .agg [I aj.2.queues_.e3.l_.e0, I aj.2.queues_.e3.l_.e1, I aj.2.queues_.e3.l_.e2, I aj.2.queues_.e3.l_.e3]]]])]) (by kernel_rfl) [7,18] (fun s => Yt aj s) (fun z => nomatch z) (fun z => nomatch z) ((fun (x : ze × za) (_ : Bool) (_ : Value) => [xc x.1, yR x.2])) (F := @y7 aj.1 aj.2) (fun s x => jm s x.1 x.2) ([] : List ze) t2 _ h0 inferInstance (by kernel_rfl) (by decide) (fun _ => rfl) (by rintro ⟨⟩) (by kernel_rfl) (fun _ _ _ => rfl) (vM hC h07 h0c h0d aj.1 aj.2) ht2 ?_ ?_
   ·rintro mi cq ⟨jk, mc⟩ vr bh ae
    replace ae : jm cq jk mc = some bh := ae
    unfold jm at ae
    refine yF X0 hC .normal [(7, .own (.box (eOs 4 false xc cq))), (8, .own (.box (xc jk))), (18, .d (.fn 72 [.sptr (.agg [I aj.1.Messages, I aj.1.Labels, eSl 1 false (eI .i64) aj.1.Channels, eSl 3 false ws aj.1.Parts]), .sptr (.agg [.agg [I aj.2.states_.e0, I aj.2.states_.e1, I aj.2.states_.e2, I aj.2.states_.e3], .agg [.agg [I aj.2.queues_.e0.many_, .agg [I aj.2.queues_.e0.l_.e0, I aj.2.queues_.e0.l_.e1, I aj.2.queues_.e0.l_.e2, I aj.2.queues_.e0.l_.e3]], .agg [I aj.2.queues_.e1.many_, .agg [I aj.2.queues_.e1.l_.e0, I aj.2.queues_.e1.l_.e1, I aj.2.queues_.e1.l_.e2, I aj.2.queues_.e1.l_.e3]], .agg [I aj.2.queues_.e2.many_, .agg [I aj.2.queues_.e2.l_.e0, I aj.2.queues_.e2.l_.e1, I aj.2.queues_.e2.l_.e2, I aj.2.queues_.e2.l_.e3]], .agg [I aj.2.queues_.e3.many_, .agg [I aj.2.queues_.e3.l_.e0, I aj.2.queues_.e3.l_.e1, I aj.2.queues_.e3.l_.e2, I aj.2.queues_.e3.l_.e3]]]])]))] [] fun st0 h0 => ⟨rfl, z1l h0 ?_⟩
    obtain ⟨g0, ae⟩ := gdE ae
    obtain rfl := zi ae
    exact yF X0 hC .normal (Yt aj (cq ++ [jk])) [Hq (dM xc [jk]), Hn (dM xc [jk]), Hn (aL xc xc g0), Hl (aM xc cq [jk])] fun st0 h0 => ⟨rfl, _, h0, LeL.refl _⟩
   ·rcases t2 with cq | z
    ·dsimp only at aa
     exact XI (by kernel_rfl) (a8 _ [(7, .own (.box (eOs 4 false xc cq)))] cq aa (show Own.canon [7] _ = ofL _ by kernel_rfl) inferInstance)
    ·cases z
def qM : Code := (Tryz.f36.body).getD .skip
def XP : wI := spF (α := z6 × z8 × ze) (ρ := z8 × Int) 36 (fun x => [yq x.1, uK x.2.1, xc x.2.2]) (fun r => .tup [zch r.1, (eI .i64) r.2]) (fun x => Qd x.1 x.2.1 x.2.2) [] (zaM)
abbrev Jl (iy : List Int) (iz : List (List Int)) : List (Nat × T) := [(6, .own (.box (.agg [eOs 1 true (eI .i64) iy, eOs 1 true F2_ iz]))), (7, .own (.box (I 0)))]
abbrev jF (x_ : z6) (m_ : ze) (ai : z6 × za) (bp : List Int) (bq : List (List Int)) : List (Nat × T) := [(3, .own (.box (yq x_))), (5, .own (.box (xc m_))), (6, .own (.box (.agg [eOs 1 true (eI .i64) bp, eOs 1 true F2_ bq]))), (7, .own (.box (I 0))), (21, .d (.fn 72 [.sptr (.agg [I ai.1.Messages, I ai.1.Labels, eSl 1 false (eI .i64) ai.1.Channels, eSl 3 false ws ai.1.Parts]), .sptr (.agg [.agg [I ai.2.states_.e0, I ai.2.states_.e1, I ai.2.states_.e2, I ai.2.states_.e3], .agg [.agg [I ai.2.queues_.e0.many_, .agg [I ai.2.queues_.e0.l_.e0, I ai.2.queues_.e0.l_.e1, I ai.2.queues_.e0.l_.e2, I ai.2.queues_.e0.l_.e3]], .agg [I ai.2.queues_.e1.many_, .agg [I ai.2.queues_.e1.l_.e0, I ai.2.queues_.e1.l_.e1, I ai.2.queues_.e1.l_.e2, I ai.2.queues_.e1.l_.e3]], .agg [I ai.2.queues_.e2.many_, .agg [I ai.2.queues_.e2.l_.e0, I ai.2.queues_.e2.l_.e1, I ai.2.queues_.e2.l_.e2, I ai.2.queues_.e2.l_.e3]], .agg [I ai.2.queues_.e3.many_, .agg [I ai.2.queues_.e3.l_.e0, I ai.2.queues_.e3.l_.e1, I ai.2.queues_.e3.l_.e2, I ai.2.queues_.e3.l_.e3]]]])]))]
theorem z1y (hC : zO Tryz.prog ctr) (h0n : ctr.Has wb) (h0v : ctr.Has jB) (h0i : ctr.Has xY) (h07 : ctr.Has xC) (h0c : ctr.Has xA) (h0d : ctr.Has jS) (h0k : ctr.Has xO) : XP.Ok Tryz.prog := by
 refine zY ?_
 rintro ⟨x_, c_, m_⟩ r0 aa
 try unfold Qd at aa
 refine yO false [(6, some 45), (7, some 24)] qM 31 Tryz.func36 fun E hE => ?_
 obtain ⟨r_, h0, aa⟩ := zj aa
 let Z0 : List HO := [Hc h0n (x := (x_, c_)) h0 (loC yq x_ <| loC uK c_ <| loN)]
 rcases zJ aa with ⟨c0, aa⟩ | ⟨c0, aa⟩
 ·obtain rfl := zi aa
  exact yE X0 hC hE (Z0 ++ [Hq c0, Hm (shM (eI .i64) (eI .i64) []), Hm (shM F3_ F3_ [])])
 ·refine yJ X0 hC qM [1,1] [] [6,7] (fun z : List Int × List (List Int) => XO z.1 z.2 = some r0) (fun z => Jl z.1 z.2) [(3, .own (.box (yq x_))), (4, .own (.box (uK c_))), (5, .own (.box (xc m_))), (6, .own (.box (.agg [eOs 1 true (eI .i64) [], eOs 1 true F3_ []]))), (7, .own (.box (I 0)))] (Z0 ++ [Hq c0, Hh (.cut 0)]) ?_ fun J1 a8 => ?_
  ·rintro ⟨iy, iz⟩ aa
   unfold XO at aa
   obtain rfl := zi aa
   exact yE X0 hC hE [Hm (shM (eI .i64) (eI .i64) []), Hm (shM F3_ F3_ [])]
  ·obtain ⟨al, h1, aa⟩ := zj aa
   obtain ⟨ai, h2, aa⟩ := zj aa
   obtain ⟨t2, ht2, aa⟩ := zj aa
   refine yAt X0 hC (sub [1,1,2,1,0] qM) (frs [1,1,2,1,0] [J1] qM []) [(3, .own (.box (yq x_))), (5, .own (.box (xc m_))), (6, .own (.box (.agg [eOs 1 true (eI .i64) [], eOs 1 true F2_ []]))), (7, .own (.box (I 0))), (21, .d (.fn 72 [.sptr (.agg [I ai.1.Messages, I ai.1.Labels, eSl 1 false (eI .i64) ai.1.Channels, eSl 3 false ws ai.1.Parts]), .sptr (.agg [.agg [I ai.2.states_.e0, I ai.2.states_.e1, I ai.2.states_.e2, I ai.2.states_.e3], .agg [.agg [I ai.2.queues_.e0.many_, .agg [I ai.2.queues_.e0.l_.e0, I ai.2.queues_.e0.l_.e1, I ai.2.queues_.e0.l_.e2, I ai.2.queues_.e0.l_.e3]], .agg [I ai.2.queues_.e1.many_, .agg [I ai.2.queues_.e1.l_.e0, I ai.2.queues_.e1.l_.e1, I ai.2.queues_.e1.l_.e2, I ai.2.queues_.e1.l_.e3]], .agg [I ai.2.queues_.e2.many_, .agg [I ai.2.queues_.e2.l_.e0, I ai.2.queues_.e2.l_.e1, I ai.2.queues_.e2.l_.e2, I ai.2.queues_.e2.l_.e3]], .agg [I ai.2.queues_.e3.many_, .agg [I ai.2.queues_.e3.l_.e0, I ai.2.queues_.e3.l_.e1, I ai.2.queues_.e3.l_.e2, I ai.2.queues_.e3.l_.e3]]]])]))] [Hc h0v (x := c_) h1 (loC uK c_ <| loN), Hc h0i (x := (x_, al)) h2 (loC yq x_ <| loC yR al <| loN)] fun st0 h0 => ?_
   refine KJ (g := .tmp 21) (ps := [22,23]) (assign := (sub [1,1,2,1,0,0] qM)) (body := (sub [1,1,2,1,0,1] qM)) (K := 72) (caps := [.sptr (.agg [I ai.1.Messages, I ai.1.Labels, eSl 1 false (eI .i64) ai.1.Channels, eSl 3 false ws ai.1.Parts]), .sptr (.agg [.agg [I ai.2.states_.e0, I ai.2.states_.e1, I ai.2.states_.e2, I ai.2.states_.e3], .agg [.agg [I ai.2.queues_.e0.many_, .agg [I ai.2.queues_.e0.l_.e0, I ai.2.queues_.e0.l_.e1, I ai.2.queues_.e0.l_.e2, I ai.2.queues_.e0.l_.e3]], .agg [I ai.2.queues_.e1.many_, .agg [I ai.2.queues_.e1.l_.e0, I ai.2.queues_.e1.l_.e1, I ai.2.queues_.e1.l_.e2, I ai.2.queues_.e1.l_.e3]], .agg [I ai.2.queues_.e2.many_, .agg [I ai.2.queues_.e2.l_.e0, I ai.2.queues_.e2.l_.e1, I ai.2.queues_.e2.l_.e2, I ai.2.queues_.e2.l_.e3]], .agg [I ai.2.queues_.e3.many_, .agg [I ai.2.queues_.e3.l_.e0, I ai.2.queues_.e3.l_.e1, I ai.2.queues_.e3.l_.e2, I ai.2.queues_.e3.l_.e3]]]])]) (by kernel_rfl) [3,5,6,7,21] (fun s => jF x_ m_ ai s.1 s.2) (fun s => jF x_ m_ ai s.1 s.2) (fun s => Code.ret) ((fun (x : ze × za) (_ : Bool) (_ : Value) => [xc x.1, yR x.2])) (F := @y7 ai.1 ai.2) (fun s x => ZM x_ m_ s.1 s.2 x.1 x.2) (([] : List Int), ([] : List (List Int))) t2 _ h0 inferInstance (by kernel_rfl) (by decide) (fun _ => rfl) (fun _ => rfl) (by kernel_rfl) (fun _ _ _ => rfl) (vM hC h07 h0c h0d ai.1 ai.2) ht2 ?_ ?_
   ·rintro mi ⟨bp, bq⟩ ⟨gp, bf⟩ vr bh ae
    replace ae : ZM x_ m_ bp bq gp bf = some bh := ae
    unfold ZM at ae
    refine yF X0 hC .normal [(3, .own (.box (yq x_))), (5, .own (.box (xc m_))), (6, .own (.box (.agg [eOs 1 true (eI .i64) bp, eOs 1 true F2_ bq]))), (7, .own (.box (I 0))), (9, .own (.box (xc gp))), (10, .own (.box (yR bf))), (21, .d (.fn 72 [.sptr (.agg [I ai.1.Messages, I ai.1.Labels, eSl 1 false (eI .i64) ai.1.Channels, eSl 3 false ws ai.1.Parts]), .sptr (.agg [.agg [I ai.2.states_.e0, I ai.2.states_.e1, I ai.2.states_.e2, I ai.2.states_.e3], .agg [.agg [I ai.2.queues_.e0.many_, .agg [I ai.2.queues_.e0.l_.e0, I ai.2.queues_.e0.l_.e1, I ai.2.queues_.e0.l_.e2, I ai.2.queues_.e0.l_.e3]], .agg [I ai.2.queues_.e1.many_, .agg [I ai.2.queues_.e1.l_.e0, I ai.2.queues_.e1.l_.e1, I ai.2.queues_.e1.l_.e2, I ai.2.queues_.e1.l_.e3]], .agg [I ai.2.queues_.e2.many_, .agg [I ai.2.queues_.e2.l_.e0, I ai.2.queues_.e2.l_.e1, I ai.2.queues_.e2.l_.e2, I ai.2.queues_.e2.l_.e3]], .agg [I ai.2.queues_.e3.many_, .agg [I ai.2.queues_.e3.l_.e0, I ai.2.queues_.e3.l_.e1, I ai.2.queues_.e3.l_.e2, I ai.2.queues_.e3.l_.e3]]]])]))] [] fun st0 h0 => ⟨rfl, z1l h0 ?_⟩
    rcases zJ ae with ⟨c1, ae⟩ | ⟨c1, ae⟩
    ·obtain ⟨aj, h3, ae⟩ := zj ae
     obtain rfl := zi ae
     exact yF X0 hC .ret (jF x_ m_ ai aj.States aj.Queues) [Hq c1, Hc h0k (x := (x_, bf)) h3 (loC yq x_ <| loC yR bf <| loN)] fun st0 h0 => ⟨rfl, _, h0, LeL.refl _⟩
    ·obtain rfl := zi ae
     exact yF X0 hC .normal (jF x_ m_ ai bp bq) [Hq c1] fun st0 h0 => ⟨rfl, _, h0, LeL.refl _⟩
   ·rcases t2 with ⟨bp, bq⟩ | z
    ·dsimp only at aa
     exact XI (by kernel_rfl) (a8 _ [(6, .own (.box (.agg [eOs 1 true (eI .i64) bp, eOs 1 true F2_ bq]))), (7, .own (.box (I 0)))] (bp, bq) aa (show Own.canon [6,7] _ = ofL _ by kernel_rfl) inferInstance)
    ·obtain ⟨bp, bq⟩ := z
     dsimp only at aa
     show AWP _ _ (Code.ret) _ _
     obtain rfl := zi aa
     exact yE X0 hC hE [Hm (shM (eI .i64) (eI .i64) bp), Hm (shM F2_ F1_ bq)]
def wU : Code := (Tryz.f38.body).getD .skip
def Y2 : wI := spF (α := z6 × z8) (ρ := Int) 38 (fun x => [yq x.1, uK x.2]) (fun r => (eI .i64) r) (fun x => WN x.1 x.2) [] (Uz)
abbrev UR : List (Nat × T) := []
abbrev UQ (x_ : z6) (c_ : z8) (i_ : Int) : List (Nat × T) := [(2, .own (.box (yq x_))), (3, .own (.box (uK c_))), (6, .d (I i_))]
abbrev UO (x_ : z6) (c_ : z8) (i_ : Int) (k_ : Int) : List (Nat × T) := [(2, .own (.box (yq x_))), (3, .own (.box (uK c_))), (6, .d (I i_)), (7, .d (I k_))]
abbrev UP (x_ : z6) (c_ : z8) (i_ : Int) : List (Nat × T) := [(2, .own (.box (yq x_))), (3, .own (.box (uK c_))), (6, .d (I i_))]
abbrev US (x_ : z6) (c_ : z8) : List (Nat × T) := [(2, .own (.box (yq x_))), (3, .own (.box (uK c_)))]
abbrev UN (x_ : z6) (c_ : z8) (cm : Int) : List (Nat × T) := [(2, .own (.box (yq x_))), (3, .own (.box (uK c_))), (5, .d (I cm))]
theorem KY (hC : zO Tryz.prog ctr) (h05 : ctr.Has Y1) : Y2.Ok Tryz.prog := by
 refine zY ?_
 rintro ⟨x_, c_⟩ r0 aa
 try unfold WN at aa
 refine yO true [(4, none)] wU 85 Tryz.func38 fun E hE => ?_
 let Z0 : List HO := [Ha (lnM (eI .i64) c_.States), Ha (lnM ws x_.Parts)]
 rcases zJ aa with ⟨c0, aa⟩ | ⟨c0, aa⟩
 ·obtain rfl := zi aa
  exact yE X0 hC hE (Z0 ++ (rpN 8 (Hq c0) [qT]))
 ·let Z1 : List HO := (Z0 ++ [Hq c0, Hq c0, Hq c0, Ha (lnM F3_ c_.Queues), Hq c0, Hq c0, Hq c0, Ha (lnM (eI .i64) x_.Channels), Hq c0, Hq c0])
  rcases zJ aa with ⟨c1, aa⟩ | ⟨c1, aa⟩
  ·obtain rfl := zi aa
   exact yE X0 hC hE (Z1 ++ [Hq c1])
  ·refine yJ X0 hC wU [1,1] [] [2,3] (fun z : Unit => Yd x_ c_ = some r0) (fun z => US x_ c_) [(2, .own (.box (yq x_))), (3, .own (.box (uK c_)))] (Z1 ++ [Hq c1, Hh (.cut 0)]) ?_ fun J1 a8 => ?_
   ·rintro ⟨⟩ aa
    unfold Yd at aa
    refine yJ X0 hC wU [1,1,1] [] [] (fun z : Unit => Yc = some r0) (fun z => UR) [(2, .own (.box (yq x_))), (3, .own (.box (uK c_)))] [Hh (.cut 0)] ?_ fun J2 ba => ?_
    ·rintro ⟨⟩ aa
     unfold Yc at aa
     obtain rfl := zi aa
     exact yE X0 hC hE []
    ·obtain ⟨t3, ht3, aa⟩ := zj aa
     refine yL X0 hC wU [1,1,1,2,1,0] [J2] (fun s => Ya x_ c_ s) (fun x => UP x_ c_ x) 0 ht3  [] ?_
     rintro i_ m3 bh ae hl1 J3 cp
     try unfold Ya at ae
     let Z2 : List HO := [Ha (lnM F3_ c_.Queues)]
     rcases zJ ae with ⟨c2, ae⟩ | ⟨c2, ae⟩
     ·refine yJ X0 hC wU [1,1,1,2,1,0,0,1] [J2, J3] [2,3,6] (fun z : Unit => Yb i_ = some bh) (fun z => UQ x_ c_ i_) [(2, .own (.box (yq x_))), (3, .own (.box (uK c_))), (6, .d (I i_))] (Z2 ++ [Hq c2, Hh (.cut 0)]) ?_ fun J4 dv => ?_
      ·rintro ⟨⟩ ae
       unfold Yb at ae
       obtain rfl := zi ae
       exact yB X0 hC cp (w64 (i_ + 1)) hl1 []
      ·obtain ⟨a7, h0, ae⟩ := zj ae
       obtain ⟨ap, h1, ae⟩ := zj ae
       let Z3 : List HO := [Hi F3_ h0, Ha (lnM (eI .i64) a7), Hi (eI .i64) h1]
       rcases zJ ae with ⟨c3, ae⟩ | ⟨c3, ae⟩
       ·obtain rfl := zi ae
        obtain rfl := hl1
        obtain rfl := zi aa
        exact yE X0 hC hE (Z3 ++ [Hq c3])
       ·obtain ⟨t5, ht5, ae⟩ := zj ae
        refine yL X0 hC wU [1,1,1,2,1,0,0,1,2,0,1,1,0] [J2, J3, J4] (fun s => Y9 x_ c_ i_ s) (fun x => UO x_ c_ i_ x) 0 ht5  (Z3 ++ [Hq c3]) ?_
        rintro k_ m5 fp ak hl2 J5 gh
        try unfold Y9 at ak
        obtain ⟨ee, h2, ak⟩ := zj ak
        let Z4 : List HO := [Hi F3_ h2, Ha (lnM (eI .i64) ee)]
        rcases zJ ak with ⟨c4, ak⟩ | ⟨c4, ak⟩
        ·obtain ⟨kg, h3, ak⟩ := zj ak
         obtain ⟨dg, h4, ak⟩ := zj ak
         obtain ⟨r_, h5, ak⟩ := zj ak
         let Z5 : List HO := (Z4 ++ [Hq c4, Hi F3_ h3, Hi (eI .i64) h4, Hc h05 (x := (dg, x_.Messages)) h5 (loC (eI .i64) dg <| loC (eI .i64) x_.Messages <| loN)])
         rcases zJ ak with ⟨c5, ak⟩ | ⟨c5, ak⟩
         ·obtain rfl := zi ak
          obtain rfl := hl2
          obtain rfl := zi ae
          obtain rfl := hl1
          obtain rfl := zi aa
          exact yE X0 hC hE (Z5 ++ [Hq c5])
         ·obtain rfl := zi ak
          exact yB X0 hC gh (w64 (k_ + 1)) hl2 (Z5 ++ [Hq c5])
        ·obtain rfl := zi ak
         obtain rfl := hl2
         exact yB X0 hC dv () ae (Z4 ++ [Hq c4])
     ·obtain rfl := zi ae
      obtain rfl := hl1
      exact yB X0 hC ba () aa (Z2 ++ [Hq c2])
   ·obtain ⟨t6, ht6, aa⟩ := zj aa
    refine yL X0 hC wU [1,1,2,1,0] [J1] (fun s => Y8 x_ c_ s) (fun x => UN x_ c_ x) 0 ht6  [] ?_
    rintro cm m6 bh ae hl1 J6 gb
    try unfold Y8 at ae
    let Z6 : List HO := [Ha (lnM (eI .i64) c_.States)]
    rcases zJ ae with ⟨c6, ae⟩ | ⟨c6, ae⟩
    ·obtain ⟨ep, h6, ae⟩ := zj ae
     obtain ⟨am, h7, ae⟩ := zj ae
     obtain ⟨al, h8, ae⟩ := zj ae
     let Z7 : List HO := (Z6 ++ [Hq c6, Hi (eI .i64) h6, Hi ws h7, Hc h05 (x := (ep, am.States)) h8 (loC (eI .i64) ep <| loC (eI .i64) am.States <| loN)])
     rcases zJ ae with ⟨c7, ae⟩ | ⟨c7, ae⟩
     ·obtain rfl := zi ae
      obtain rfl := hl1
      obtain rfl := zi aa
      exact yE X0 hC hE (Z7 ++ [Hq c7])
     ·obtain rfl := zi ae
      exact yB X0 hC gb (w64 (cm + 1)) hl1 (Z7 ++ [Hq c7])
    ·obtain rfl := zi ae
     obtain rfl := hl1
     exact yB X0 hC a8 () aa (Z6 ++ [Hq c6])
def wd : Code := (Tryz.f11.body).getD .skip
def uP : wI := spF (α := z6 × z8 × List Int) (ρ := Bool) 11 (fun x => [yq x.1, uK x.2.1, F3_ x.2.2]) (fun r => eB r) (fun x => xm x.1 x.2.1 x.2.2) [] (zaM)
abbrev Xo (x_ : z6) (aq : List Int) (bc : zB × Int) : List (Nat × T) := [(2, .d (eSl 1 false (eI .i64) aq)), (3, .own (.box (yq x_))), (15, .own (.box (z8C bc.1))), (16, .d (I bc.2))]
abbrev Xp (x_ : z6) (aq : List Int) (bt : List ze × Int) (bw : z8 × Int) (bj : Int) (bc : zB × Int) (jb : Int) : List (Nat × T) := [(2, .d (eSl 1 false (eI .i64) aq)), (3, .own (.box (yq x_))), (10, .d (eSl 4 true xc bt.1)), (11, .d (I bt.2)), (13, .d (I bw.2)), (14, .d (I bj)), (15, .own (.box (z8C bc.1))), (16, .d (I bc.2)), (23, .d (I jb))]
abbrev Xq (x_ : z6) (c_ : z8) (aq : List Int) (n_ : Int) : List (Nat × T) := [(2, .d (eSl 1 false (eI .i64) aq)), (3, .own (.box (yq x_))), (4, .own (.box (uK c_))), (7, .d (I n_))]
abbrev Xn (x_ : z6) (c_ : z8) (aq : List Int) (kh : Int) (i_ : Int) : List (Nat × T) := [(2, .d (eSl 1 false (eI .i64) aq)), (3, .own (.box (yq x_))), (4, .own (.box (uK c_))), (7, .d (I kh)), (8, .d (I i_))]
theorem WK (hC : zO Tryz.prog ctr) (h1a : ctr.Has YT) (h04 : ctr.Has Zf) (h1b : ctr.Has YR) (h06 : ctr.Has wD) (h1d : ctr.Has Zz) (h1e : ctr.Has XP) (h0n : ctr.Has wb) (h09 : ctr.Has vo) (h0e : ctr.Has uB) (h0a : ctr.Has wR) (h1f : ctr.Has Y2) (h0u : ctr.Has kL) : uP.Ok Tryz.prog := by
 refine zY ?_
 rintro ⟨x_, c_, aq⟩ r0 aa
 try unfold xm at aa
 refine yO true [(6, none)] wd 233 Tryz.func11 fun E hE => ?_
 obtain ⟨r_, h0, aa⟩ := zj aa
 let Z0 : List HO := [Hc h1a (x := x_) h0 (loC yq x_ <| loN)]
 rcases zJ aa with ⟨c0, aa⟩ | ⟨c0, aa⟩
 ·obtain ⟨al, h1, aa⟩ := zj aa
  obtain rfl := zi aa
  exact yE X0 hC hE (Z0 ++ (rpN 5 (Hq c0) (rpN 10 qT [Hc h04 (x := ()) h1 (loN)])))
 ·let Z1 : List HO := (Z0 ++ [Hq c0, Hq c0, Hq c0, Ha (lnM (eI .i64) c_.States), Hq c0, Hq c0])
  rcases zJ aa with ⟨c1, aa⟩ | ⟨c1, aa⟩
  ·obtain ⟨ai, h2, aa⟩ := zj aa
   obtain rfl := zi aa
   exact yE X0 hC hE (Z1 ++ (rpN 5 (Hq c1) (rpN 5 qT [Hc h04 (x := ()) h2 (loN)])))
  ·let Z2 : List HO := (Z1 ++ [Hq c1, Hq c1, Hq c1, Ha (lnM F3_ c_.Queues), Hq c1, Hq c1])
   rcases zJ aa with ⟨c2, aa⟩ | ⟨c2, aa⟩
   ·obtain ⟨aj, h3, aa⟩ := zj aa
    obtain rfl := zi aa
    exact yE X0 hC hE (Z2 ++ (rpN 4 (Hq c2) [qT, Hc h04 (x := ()) h3 (loN)]))
   ·let Z3 : List HO := (Z2 ++ [Hq c2, Hq c2, Ha (lnM (eI .i64) aq), Hq c2, Hq c2])
    rcases zJ aa with ⟨c3, aa⟩ | ⟨c3, aa⟩
    ·obtain ⟨cg, h4, aa⟩ := zj aa
     obtain rfl := zi aa
     exact yE X0 hC hE (Z3 ++ [Hq c3, Hc h04 (x := ()) h4 (loN)])
    ·refine yJ X0 hC wd [1,1,1] [] [2,3,4,7] (fun z : Int => uR x_ c_ aq z = some r0) (fun z => Xq x_ c_ aq z) [(2, .d (eSl 1 false (eI .i64) aq)), (3, .own (.box (yq x_))), (4, .own (.box (uK c_))), (7, .d (I 0))] (Z3 ++ [Hq c3, Hh (.cut 1)]) ?_ fun J1 a8 => ?_
     ·rintro n_ aa
      unfold uR at aa
      obtain ⟨bu, h5, aa⟩ := zj aa
      let Z4 : List HO := [Hc h1b (x := x_) h5 (loC yq x_ <| loN)]
      rcases zJ aa with ⟨c4, aa⟩ | ⟨c4, aa⟩
      ·obtain ⟨dc, h6, aa⟩ := zj aa
       obtain rfl := zi aa
       exact yE X0 hC hE (Z4 ++ (rpN 5 (Hq c4) [qT, Hq c4, Hc h04 (x := ()) h6 (loN), Hq c4]))
      ·obtain ⟨dj, h7, aa⟩ := zj aa
       let Z5 : List HO := (Z4 ++ [Hq c4, Hq c4, Hc h06 (x := x_) h7 (loC yq x_ <| loN), Hq c4, Hq c4, Hq c4])
       rcases zJ aa with ⟨c5, aa⟩ | ⟨c5, aa⟩
       ·obtain rfl := zi aa
        exact yE X0 hC hE (Z5 ++ [Hq c5, Hq c4, Hq c4])
       ·obtain ⟨bt, h8, aa⟩ := zj aa
        obtain ⟨bw, h9, aa⟩ := zj aa
        obtain ⟨bj, h10, aa⟩ := zj aa
        obtain ⟨bc, h11, aa⟩ := zj aa
        let Z6 : List HO := (Z5 ++ [Hq c5, Hc h1d (x := (x_, c_)) h8 (loC yq x_ <| loC uK c_ <| loN), Hc h1e (x := (x_, c_, (ze.mk (-1) 0 0 0))) h9 (loC yq x_ <| loC uK c_ <| loC xc (ze.mk (-1) 0 0 0) <| loN), Hc h0n (x := (x_, c_)) h10 (loC yq x_ <| loC uK c_ <| loN), Hc h09 (x := (x_, aq)) h11 (loC yq x_ <| loC F3_ aq <| loN)])
        rcases zJ aa with ⟨c6, aa⟩ | ⟨c6, aa⟩
        ·obtain ⟨ay, h12, aa⟩ := zj aa
         obtain ⟨ar, h13, aa⟩ := zj aa
         let Z7 : List HO := (Z6 ++ [Hq c6, Hc h0e (x := x_) h12 (loC yq x_ <| loN), Hc h0a (x := x_) h13 (loC yq x_ <| loN), Hn (⟨rfl, rfl⟩ : T.own (.opq (Zm [some (eOs 4 true xc ar.1), some (.agg [eOs 1 true (eI .i64) ar.2.1.States, eOs 1 true F2_ ar.2.1.Queues]), some (I ar.2.2)])) = T.own (.opq (Zm [some (eOs 4 true xc ar.1), some (.agg [eOs 1 true (eI .i64) ar.2.1.States, eOs 1 true F2_ ar.2.1.Queues]), some (I ar.2.2)])) ∧ 1 = 1), Hn (⟨rfl, rfl⟩ : T.own (.opq (Zm [none, some (.agg [eOs 1 true (eI .i64) ar.2.1.States, eOs 1 true F2_ ar.2.1.Queues]), some (I ar.2.2)])) = T.own (.opq (Zm [none, some (.agg [eOs 1 true (eI .i64) ar.2.1.States, eOs 1 true F2_ ar.2.1.Queues]), some (I ar.2.2)])) ∧ 1 = 1), Hn (⟨rfl, rfl⟩ : T.own (.opq (Zm [none, none, some (I ar.2.2)])) = T.own (.opq (Zm [none, none, some (I ar.2.2)])) ∧ 1 = 1)])
         rcases zJ aa with ⟨c7, aa⟩ | ⟨c7, aa⟩
         ·let Z8 : List HO := (Z7 ++ (rpN 4 (Hq c7) []))
          rcases zJ aa with ⟨c8, aa⟩ | ⟨c8, aa⟩
          ·let Z9 : List HO := (Z8 ++ (rpN 4 (Hq c8) []))
           rcases zJ aa with ⟨c9, aa⟩ | ⟨c9, aa⟩
           ·let Z10 : List HO := (Z9 ++ (rpN 4 (Hq c9) []))
            rcases zJ aa with ⟨c10, aa⟩ | ⟨c10, aa⟩
            ·let Z11 : List HO := (Z10 ++ (rpN 4 (Hq c10) []))
             rcases zJ aa with ⟨c11, aa⟩ | ⟨c11, aa⟩
             ·let Z12 : List HO := (Z11 ++ (rpN 4 (Hq c11) []))
              rcases zJ aa with ⟨c12, aa⟩ | ⟨c12, aa⟩
              ·let Z13 : List HO := (Z12 ++ (Hq c12 :: Hq c12 :: Ha (lnM xc bt.1) :: Hq c12 :: Hq c12 :: Hq c12 :: Ha (lnM (eI .i64) bw.1.States) :: (rpN 4 (Hq c12) (Ha (lnM Yu bc.1.Rows) :: Hq c12 :: Hq c12 :: Hq c12 :: Ha (lnM uK ay.1) :: Hq c12 :: Hq c12 :: Hq c12 :: Ha (lnM wq ay.2.1) :: Hq c12 :: Hq c12 :: Hq c12 :: Ha (lnM xc ar.1) :: (rpN 4 (Hq c12) [Ha (lnM (eI .i64) ar.2.1.States), Hq c12, Hq c12, Hq c12])))))
               rcases zJ aa with ⟨c13, aa⟩ | ⟨c13, aa⟩
               ·obtain ⟨cj, h14, aa⟩ := zj aa
                obtain rfl := zi aa
                exact yE ((xz Tryz.prog 110 [none, none, some (I ar.2.2)]).or ((xz Tryz.prog 109 [none, some (.agg [eOs 1 true (eI .i64) ar.2.1.States, eOs 1 true F2_ ar.2.1.Queues]), some (I ar.2.2)]).or ((xz Tryz.prog 108 [some (eOs 4 true xc ar.1), some (.agg [eOs 1 true (eI .i64) ar.2.1.States, eOs 1 true F2_ ar.2.1.Queues]), some (I ar.2.2)]).or X0))) hC hE (Z13 ++ [Hq c13, Hc h04 (x := ()) h14 (loN), Hq c13])
               ·obtain rfl := zi aa
                exact yE ((xz Tryz.prog 110 [none, none, some (I ar.2.2)]).or ((xz Tryz.prog 109 [none, some (.agg [eOs 1 true (eI .i64) ar.2.1.States, eOs 1 true F2_ ar.2.1.Queues]), some (I ar.2.2)]).or ((xz Tryz.prog 108 [some (eOs 4 true xc ar.1), some (.agg [eOs 1 true (eI .i64) ar.2.1.States, eOs 1 true F2_ ar.2.1.Queues]), some (I ar.2.2)]).or X0))) hC hE (Z13 ++ [Hq c13, Hq c13])
              ·obtain rfl := zi aa
               exact yE ((xz Tryz.prog 110 [none, none, some (I ar.2.2)]).or ((xz Tryz.prog 109 [none, some (.agg [eOs 1 true (eI .i64) ar.2.1.States, eOs 1 true F2_ ar.2.1.Queues]), some (I ar.2.2)]).or ((xz Tryz.prog 108 [some (eOs 4 true xc ar.1), some (.agg [eOs 1 true (eI .i64) ar.2.1.States, eOs 1 true F2_ ar.2.1.Queues]), some (I ar.2.2)]).or X0))) hC hE (Z12 ++ (rpN 25 (Hq c12) [qF, qF]))
             ·obtain rfl := zi aa
              exact yE ((xz Tryz.prog 110 [none, none, some (I ar.2.2)]).or ((xz Tryz.prog 109 [none, some (.agg [eOs 1 true (eI .i64) ar.2.1.States, eOs 1 true F2_ ar.2.1.Queues]), some (I ar.2.2)]).or ((xz Tryz.prog 108 [some (eOs 4 true xc ar.1), some (.agg [eOs 1 true (eI .i64) ar.2.1.States, eOs 1 true F2_ ar.2.1.Queues]), some (I ar.2.2)]).or X0))) hC hE (Z11 ++ (rpN 4 (Hq c11) (rpN 27 qF [])))
            ·obtain rfl := zi aa
             exact yE ((xz Tryz.prog 110 [none, none, some (I ar.2.2)]).or ((xz Tryz.prog 109 [none, some (.agg [eOs 1 true (eI .i64) ar.2.1.States, eOs 1 true F2_ ar.2.1.Queues]), some (I ar.2.2)]).or ((xz Tryz.prog 108 [some (eOs 4 true xc ar.1), some (.agg [eOs 1 true (eI .i64) ar.2.1.States, eOs 1 true F2_ ar.2.1.Queues]), some (I ar.2.2)]).or X0))) hC hE (Z10 ++ (rpN 4 (Hq c10) (rpN 31 qF [])))
           ·obtain rfl := zi aa
            exact yE ((xz Tryz.prog 110 [none, none, some (I ar.2.2)]).or ((xz Tryz.prog 109 [none, some (.agg [eOs 1 true (eI .i64) ar.2.1.States, eOs 1 true F2_ ar.2.1.Queues]), some (I ar.2.2)]).or ((xz Tryz.prog 108 [some (eOs 4 true xc ar.1), some (.agg [eOs 1 true (eI .i64) ar.2.1.States, eOs 1 true F2_ ar.2.1.Queues]), some (I ar.2.2)]).or X0))) hC hE (Z9 ++ (rpN 4 (Hq c9) (rpN 35 qF [])))
          ·obtain rfl := zi aa
           exact yE ((xz Tryz.prog 110 [none, none, some (I ar.2.2)]).or ((xz Tryz.prog 109 [none, some (.agg [eOs 1 true (eI .i64) ar.2.1.States, eOs 1 true F2_ ar.2.1.Queues]), some (I ar.2.2)]).or ((xz Tryz.prog 108 [some (eOs 4 true xc ar.1), some (.agg [eOs 1 true (eI .i64) ar.2.1.States, eOs 1 true F2_ ar.2.1.Queues]), some (I ar.2.2)]).or X0))) hC hE (Z8 ++ (rpN 4 (Hq c8) (rpN 39 qF [])))
         ·obtain rfl := zi aa
          exact yE ((xz Tryz.prog 110 [none, none, some (I ar.2.2)]).or ((xz Tryz.prog 109 [none, some (.agg [eOs 1 true (eI .i64) ar.2.1.States, eOs 1 true F2_ ar.2.1.Queues]), some (I ar.2.2)]).or ((xz Tryz.prog 108 [some (eOs 4 true xc ar.1), some (.agg [eOs 1 true (eI .i64) ar.2.1.States, eOs 1 true F2_ ar.2.1.Queues]), some (I ar.2.2)]).or X0))) hC hE (Z7 ++ (rpN 4 (Hq c7) (rpN 43 qF [])))
        ·refine yJ X0 hC wd [1,1,1,1,1,1,1,1,1,1,1,1] [] [2,3,10,11,13,14,15,16,23] (fun z : Int => wX x_ aq bt bw bj bc z = some r0) (fun z => Xp x_ aq bt bw bj bc z) [(2, .d (eSl 1 false (eI .i64) aq)), (3, .own (.box (yq x_))), (4, .own (.box (uK c_))), (10, .d (eSl 4 true xc bt.1)), (11, .d (I bt.2)), (13, .d (I bw.2)), (14, .d (I bj)), (15, .own (.box (z8C bc.1))), (16, .d (I bc.2)), (23, .d (I 0))] (Z6 ++ [Hq c6, Hh (.cut 1)]) ?_ fun J2 ba => ?_
         ·rintro jb aa
          unfold wX at aa
          refine yJ X0 hC wd [1,1,1,1,1,1,1,1,1,1,1,1,1] [] [2,3,15,16] (fun z : Unit => xD x_ aq bc = some r0) (fun z => Xo x_ aq bc) [(2, .d (eSl 1 false (eI .i64) aq)), (3, .own (.box (yq x_))), (10, .d (eSl 4 true xc bt.1)), (11, .d (I bt.2)), (13, .d (I bw.2)), (14, .d (I bj)), (15, .own (.box (z8C bc.1))), (16, .d (I bc.2)), (23, .d (I jb))] [Hh (.cut 0)] ?_ fun J3 cp => ?_
          ·rintro ⟨⟩ aa
           unfold xD at aa
           obtain ⟨io, h15, aa⟩ := zj aa
           let Z14 : List HO := [Hc h0u (x := (aq, x_.Labels)) h15 (loC F3_ aq <| loC (eI .i64) x_.Labels <| loN)]
           rcases zJ aa with ⟨c14, aa⟩ | ⟨c14, aa⟩
           ·rcases zJ aa with ⟨c15, aa⟩ | ⟨c15, aa⟩
            ·let Z15 : List HO := (Z14 ++ [Hq c14, Hq c15, Hq c15, Hq c15, Ha (lnM Yu bc.1.Rows), Hq c15, Hq c15])
             rcases zJ aa with ⟨c16, aa⟩ | ⟨c16, aa⟩
             ·obtain ⟨aw, h16, aa⟩ := zj aa
              obtain rfl := zi aa
              exact yE X0 hC hE (Z15 ++ [Hq c16, Hc h04 (x := ()) h16 (loN), Hq c16])
             ·obtain rfl := zi aa
              exact yE X0 hC hE (Z15 ++ [Hq c16, Hq c16])
            ·obtain rfl := zi aa
             exact yE X0 hC hE (Z14 ++ (Hq c14 :: (rpN 5 (Hq c15) [qF, qF])))
           ·rcases zJ aa with ⟨c17, aa⟩ | ⟨c17, aa⟩
            ·obtain ⟨dp, h17, aa⟩ := zj aa
             obtain rfl := zi aa
             exact yE X0 hC hE (Z14 ++ (Hq c14 :: (rpN 5 (Hq c17) [qT, Hc h04 (x := ()) h17 (loN), qT])))
            ·let Z16 : List HO := (Z14 ++ [Hq c14, Hq c17, Hq c17, Hq c17])
             rcases zJ aa with ⟨c18, aa⟩ | ⟨c18, aa⟩
             ·let Z17 : List HO := (Z16 ++ [Hq c18, Hq c18, Hq c18, Ha (lnM Yu bc.1.Rows), Hq c18, Hq c17, Hq c18, Hq c17])
              rcases zJ aa with ⟨c19, aa⟩ | ⟨c19, aa⟩
              ·obtain ⟨au, h18, aa⟩ := zj aa
               obtain rfl := zi aa
               exact yE X0 hC hE (Z17 ++ [Hq c19, Hc h04 (x := ()) h18 (loN), Hq c19])
              ·obtain rfl := zi aa
               exact yE X0 hC hE (Z17 ++ [Hq c19, Hq c19])
             ·obtain rfl := zi aa
              exact yE X0 hC hE (Z16 ++ (rpN 4 (Hq c18) [Hq c17, Hq c18, Hq c17, qF, qF]))
          ·rcases zJ aa with ⟨c20, aa⟩ | ⟨c20, aa⟩
           ·obtain rfl := zi aa
            exact yE X0 hC hE (rpN 4 (Hq c20) (rpN 11 qT []))
           ·let Z18 : List HO := (rpN 4 (Hq c20) [])
            rcases zJ aa with ⟨c21, aa⟩ | ⟨c21, aa⟩
            ·obtain rfl := zi aa
             exact yE X0 hC hE (Z18 ++ (rpN 5 (Hq c21) (rpN 6 qT [])))
            ·rcases zJ aa with ⟨c22, aa⟩ | ⟨c22, aa⟩
             ·let Z19 : List HO := (Z18 ++ (Hq c21 :: Hq c21 :: Hq c21 :: (rpN 4 (Hq c22) [])))
              rcases zJ aa with ⟨c23, aa⟩ | ⟨c23, aa⟩
              ·obtain rfl := zi aa
               exact yE X0 hC hE (Z19 ++ (Hq c23 :: Hq c23 :: Hq c23 :: Hq c22 :: Hq c23 :: Hq c21 :: Hq c22 :: Hq c21 :: (rpN 6 qT [])))
              ·let Z20 : List HO := (Z19 ++ [Hq c23, Hq c23, Ha (lnM xc bt.1), Hq c23, Hq c22, Hq c23, Hq c21, Hq c22, Hq c21])
               rcases zJ aa with ⟨c24, aa⟩ | ⟨c24, aa⟩
               ·obtain rfl := zi aa
                exact yE X0 hC hE (Z20 ++ (rpN 5 (Hq c24) [qT]))
               ·rcases zJ aa with ⟨c25, aa⟩ | ⟨c25, aa⟩
                ·let Z21 : List HO := (Z20 ++ [Hq c24, Hq c24, Hq c24, Hq c25, Hq c25, Hq c24, Hq c25, Hq c24])
                 rcases zJ aa with ⟨c26, aa⟩ | ⟨c26, aa⟩
                 ·obtain rfl := zi aa
                  exact yE X0 hC hE (Z21 ++ [Hq c26])
                 ·exact yB X0 hC cp () aa (Z21 ++ [Hq c26])
                ·exact yB X0 hC cp () aa (Z20 ++ [Hq c24, Hq c24, Hq c24, Hq c25, Hq c25, Hq c24, Hq c25, Hq c24, qF])
             ·let Z22 : List HO := (Z18 ++ (Hq c21 :: Hq c21 :: Hq c21 :: (rpN 5 (Hq c22) [Hq c21, Hq c22, Hq c21, qF, qF, qF])))
              rcases zJ aa with ⟨c27, aa⟩ | ⟨c27, aa⟩
              ·let Z23 : List HO := (Z22 ++ [Hq c27, Hq c27, qF, Hq c27, qF])
               rcases zJ aa with ⟨c28, aa⟩ | ⟨c28, aa⟩
               ·obtain rfl := zi aa
                exact yE X0 hC hE (Z23 ++ [Hq c28])
               ·exact yB X0 hC cp () aa (Z23 ++ [Hq c28])
              ·exact yB X0 hC cp () aa (Z22 ++ [Hq c27, Hq c27, qF, Hq c27, qF, qF])
         ·obtain ⟨fk, h19, aa⟩ := zj aa
          let Z24 : List HO := [Hc h1f (x := (x_, c_)) h19 (loC yq x_ <| loC uK c_ <| loN)]
          rcases zJ aa with ⟨c29, aa⟩ | ⟨c29, aa⟩
          ·exact yB X0 hC ba 1 aa (Z24 ++ [Hq c29])
          ·exact yB X0 hC ba 0 aa (Z24 ++ [Hq c29])
     ·obtain ⟨t4, ht4, aa⟩ := zj aa
      refine yL X0 hC wd [1,1,1,2,1,0] [J1] (fun s => uQ c_ s.1 s.2) (fun x => Xn x_ c_ aq x.1 x.2) (0,0) ht4  [] ?_
      rintro ⟨kh, i_⟩ m4 bh ae hl1 J4 dv
      try unfold uQ at ae
      let Z25 : List HO := [Ha (lnM F3_ c_.Queues)]
      rcases zJ ae with ⟨c30, ae⟩ | ⟨c30, ae⟩
      ·obtain ⟨a7, h20, ae⟩ := zj ae
       obtain rfl := zi ae
       exact yB X0 hC dv (w64 (kh + ((a7.length : Nat) : Int)), w64 (i_ + 1)) hl1 (Z25 ++ [Hq c30, Hi F3_ h20, Ha (lnM (eI .i64) a7)])
      ·obtain rfl := zi ae
       obtain rfl := hl1
       exact yB X0 hC a8 kh aa (Z25 ++ [Hq c30])
def qC : Code := (Tryz.f3.body).getD .skip
def qw : wI := spF (α := Unit) (ρ := Bool) 3 (fun x => []) (fun r => eB r) (fun x => uW) [] (fun _ _ _ => rfl)
theorem Vj (hC : zO Tryz.prog ctr) (h0b : ctr.Has XQ) (h0e : ctr.Has uB) (h09 : ctr.Has vo) (h0I : ctr.Has XS) (h0w : ctr.Has YV) (h0a : ctr.Has wR) (h0m : ctr.Has ZO) (h0o : ctr.Has uP) (h00 : ctr.Has ZP) (h01 : ctr.Has kM) (h04 : ctr.Has Zf) : qw.Ok Tryz.prog := by
 refine zY ?_
 rintro ⟨⟩ r0 aa
 try unfold uW at aa
 refine yO true [(0, none)] qC 143 Tryz.func3 fun E hE => ?_
 obtain ⟨r_, h0, aa⟩ := zj aa
 obtain ⟨al, h1, aa⟩ := zj aa
 obtain ⟨ai, h2, aa⟩ := zj aa
 obtain ⟨aj, h3, aa⟩ := zj aa
 obtain ⟨cg, h4, aa⟩ := zj aa
 obtain ⟨bu, h5, aa⟩ := zj aa
 obtain ⟨dc, h6, aa⟩ := zj aa
 obtain ⟨dj, h7, aa⟩ := zj aa
 refine yA X0 hC qC [1,1,1,1,1,0] [] [(1, .d (eSl 2 true uK al.1)), (2, .d (eSl 1 true wq al.2.1)), (3, .d (I al.2.2)), (4, .d (eSl 2 true uK aj.1)), (5, .d (eSl 1 true wq aj.2.1)), (6, .d (I aj.2.2)), (7, .own (.box (z8C bu.1))), (8, .d (I bu.2)), (9, .own (.box (z8C dj.1))), (10, .d (I dj.2))] [Hg (Ko h0b), Hm (shM (eI .i64) (eI .i64) ([32,32])), Hs (Kp h0b (x := [32,32]) h0 (loC F1_ ([32,32] : List Int) <| loN)), Hm (shM (eI .i64) (eI .i64) ([32,32])), Hc h0e (x := r_) h1 (loC zcf r_ <| loN), Hg (Ko h0b), Hm (shM (eI .i64) (eI .i64) ([32,33])), Hs (Kp h0b (x := [32,33]) h2 (loC F1_ ([32,33] : List Int) <| loN)), Hm (shM (eI .i64) (eI .i64) ([32,33])), Hc h0e (x := ai) h3 (loC zcf ai <| loN), Hg (Ko h0b), Hm (shM (eI .i64) (eI .i64) ([8,8])), Hs (Kp h0b (x := [8,8]) h4 (loC F1_ ([8,8] : List Int) <| loN)), Hm (shM (eI .i64) (eI .i64) ([8,8])), Hc h09 (x := (cg, [])) h5 (loC zcf cg <| loC F1_ ([] : List Int) <| loN), Hg (Ko h0b), Hm (shM (eI .i64) (eI .i64) ([13,5])), Hs (Kp h0b (x := [13,5]) h6 (loC F1_ ([13,5] : List Int) <| loN)), Hm (shM (eI .i64) (eI .i64) ([13,5])), Hc h09 (x := (dc, [])) h7 (loC zcf dc <| loC F1_ ([] : List Int) <| loN), Hh (.cut 1)] ?_
 rcases zJ aa with ⟨c0, aa⟩ | ⟨c0, aa⟩
 ·obtain rfl := zi aa
  exact yE X0 hC hE (rpN 4 (Hq c0) (rpN 31 qT []))
 ·let Z0 : List HO := [Hq c0, Hq c0, Ha (lnM uK al.1), Hq c0, Hq c0]
  rcases zJ aa with ⟨c1, aa⟩ | ⟨c1, aa⟩
  ·obtain rfl := zi aa
   exact yE X0 hC hE (Z0 ++ (rpN 4 (Hq c1) (rpN 27 qT [])))
  ·let Z1 : List HO := (Z0 ++ [Hq c1, Hq c1, Ha (lnM wq al.2.1), Hq c1, Hq c1])
   rcases zJ aa with ⟨c2, aa⟩ | ⟨c2, aa⟩
   ·obtain rfl := zi aa
    exact yE X0 hC hE (Z1 ++ (Hq c2 :: Hq c2 :: Hq c2 :: (rpN 24 qT [])))
   ·rcases zJ aa with ⟨c3, aa⟩ | ⟨c3, aa⟩
    ·obtain rfl := zi aa
     exact yE X0 hC hE (Z1 ++ (Hq c2 :: Hq c2 :: Hq c2 :: (rpN 7 (Hq c3) (rpN 17 qT []))))
    ·let Z2 : List HO := (Z1 ++ [Hq c2, Hq c2, Hq c2, Hq c3, Hq c3, Ha (lnM uK aj.1), Hq c3, Hq c3, Ha (lnM wq aj.2.1), Hq c3, Hq c3, Hq c3])
     rcases zJ aa with ⟨c4, aa⟩ | ⟨c4, aa⟩
     ·obtain rfl := zi aa
      exact yE X0 hC hE (Z2 ++ (Hq c4 :: Hq c4 :: Hq c4 :: (rpN 14 qT [])))
     ·rcases zJ aa with ⟨c5, aa⟩ | ⟨c5, aa⟩
      ·obtain rfl := zi aa
       exact yE X0 hC hE (Z2 ++ (Hq c4 :: Hq c4 :: Hq c4 :: (rpN 5 (Hq c5) (rpN 9 qT []))))
      ·let Z3 : List HO := (Z2 ++ [Hq c4, Hq c4, Hq c4, Hq c5, Hq c5, Hq c5, Ha (lnM Yu bu.1.Rows), Hq c5, Hq c5])
       rcases zJ aa with ⟨c6, aa⟩ | ⟨c6, aa⟩
       ·obtain rfl := zi aa
        exact yE X0 hC hE (Z3 ++ (Hq c6 :: Hq c6 :: Hq c6 :: (rpN 6 qT [])))
       ·rcases zJ aa with ⟨c7, aa⟩ | ⟨c7, aa⟩
        ·obtain rfl := zi aa
         exact yE X0 hC hE (Z3 ++ (Hq c6 :: Hq c6 :: Hq c6 :: (rpN 5 (Hq c7) [qT])))
        ·let Z4 : List HO := (Z3 ++ [Hq c6, Hq c6, Hq c6, Hq c7, Hq c7, Hq c7, Ha (lnM Yu dj.1.Rows), Hq c7, Hq c7])
         rcases zJ aa with ⟨c8, aa⟩ | ⟨c8, aa⟩
         ·obtain rfl := zi aa
          exact yE X0 hC hE (Z4 ++ [Hq c8])
         ·obtain ⟨bt, h8, aa⟩ := zj aa
          obtain ⟨bw, h9, aa⟩ := zj aa
          obtain ⟨bj, h10, aa⟩ := zj aa
          obtain ⟨bc, h11, aa⟩ := zj aa
          obtain ⟨ay, h12, aa⟩ := zj aa
          obtain ⟨ar, h13, aa⟩ := zj aa
          obtain ⟨ln, h14, aa⟩ := zj aa
          obtain ⟨cj, h15, aa⟩ := zj aa
          refine yA ((xz Tryz.prog 106 [none, none, some (I cj.2.2)]).or ((xz Tryz.prog 105 [none, some (.agg [eOs 1 true (eI .i64) cj.2.1.States, eOs 1 true F2_ cj.2.1.Queues]), some (I cj.2.2)]).or ((xz Tryz.prog 104 [some (eOs 4 true xc cj.1), some (.agg [eOs 1 true (eI .i64) cj.2.1.States, eOs 1 true F2_ cj.2.1.Queues]), some (I cj.2.2)]).or ((xz Tryz.prog 96 [none, none, some (I ay.2.2)]).or ((xz Tryz.prog 95 [none, some (.agg [eOs 1 true (eI .i64) ay.2.1.States, eOs 1 true F2_ ay.2.1.Queues]), some (I ay.2.2)]).or ((xz Tryz.prog 94 [some (eOs 4 true xc ay.1), some (.agg [eOs 1 true (eI .i64) ay.2.1.States, eOs 1 true F2_ ay.2.1.Queues]), some (I ay.2.2)]).or ((zex (P := Tryz.prog) qd (lentCall (xo hC h0a (x := (z6.mk 1 1 ([0,0,0,0]) ([bt, bw, bj, bc]))) h12)) (r := .opq (Zm [some (z99 ay.1), some (z2S ay.2.1), some ((eI .i64) ay.2.2)])) (zaU (ls := [z99 ay.1, z2S ay.2.1, (eI .i64) ay.2.2]) (.cons (wkN (f := z99) ay.1) (.cons (wkN (f := z2S) ay.2.1) (.cons (wkN (f := (eI .i64)) ay.2.2) (.nil))))) 93).or X0))))))) hC qC [1,1,1,1,1,1,1,1,1,1,0] [] [(3, .d (I ay.2.2)), (6, .d (I cj.2.2)), (12, .own (eOs 4 true xc ay.1)), (13, .own (.box (z2S ay.2.1)))] (Z4 ++ [Hq c8, Hc h0I (x := 0) h8 (loC (eI .i64) 0 <| loN), Hc h0I (x := 1) h9 (loC (eI .i64) 1 <| loN), Hc h0w (x := (0,1)) h10 (loC (eI .i64) 0 <| loC (eI .i64) 1 <| loN), Hc h0w (x := (1,0)) h11 (loC (eI .i64) 1 <| loC (eI .i64) 0 <| loN), Hm (shM (eI .i64) (eI .i64) ([0,0,0,0])), Hm (shM z0E z0E ([bt, bw, bj, bc])), Hn (z9J (f := .fn 9 []) (xs := [yq (z6.mk 1 1 ([0,0,0,0]) ([bt, bw, bj, bc]))]) (r := .opq (Zm [some (z99 ay.1), some (z2S ay.2.1), some ((eI .i64) ay.2.2)])) [z4H (z6.mk 1 1 ([0,0,0,0]) ([bt, bw, bj, bc]))] (show KO [z4H (z6.mk 1 1 ([0,0,0,0]) ([bt, bw, bj, bc]))] [yq (z6.mk 1 1 ([0,0,0,0]) ([bt, bw, bj, bc]))] from inferInstance)), Hn (⟨rfl, rfl⟩ : T.own (.opq (Zm [some (eOs 4 true xc ay.1), some (.agg [eOs 1 true (eI .i64) ay.2.1.States, eOs 1 true F2_ ay.2.1.Queues]), some (I ay.2.2)])) = T.own (.opq (Zm [some (eOs 4 true xc ay.1), some (.agg [eOs 1 true (eI .i64) ay.2.1.States, eOs 1 true F2_ ay.2.1.Queues]), some (I ay.2.2)])) ∧ 1 = 1), Hn (⟨rfl, rfl⟩ : T.own (.opq (Zm [none, some (.agg [eOs 1 true (eI .i64) ay.2.1.States, eOs 1 true F2_ ay.2.1.Queues]), some (I ay.2.2)])) = T.own (.opq (Zm [none, some (.agg [eOs 1 true (eI .i64) ay.2.1.States, eOs 1 true F2_ ay.2.1.Queues]), some (I ay.2.2)])) ∧ 1 = 1), Hn (⟨rfl, rfl⟩ : T.own (.opq (Zm [none, none, some (I ay.2.2)])) = T.own (.opq (Zm [none, none, some (I ay.2.2)])) ∧ 1 = 1), Hc h0w (x := (0,1)) h13 (loC (eI .i64) 0 <| loC (eI .i64) 1 <| loN), Hn (iL z0E h14), Hs (iM z0E h14), Hs (iM z0E h14), Hl (sM z0E ([bt, bw, bj, bc]) 3 ar), Hg (Ko h0a), Hm (shM (eI .i64) (eI .i64) ([0,0,0,0])), Hm (shM z0E z0E (([bt, bw, bj, bc]).set (3 : Int).toNat ar)), Hs (Kp h0a (x := (z6.mk 1 1 ([0,0,0,0]) (([bt, bw, bj, bc]).set (3 : Int).toNat ar))) h15 (loC z4H (z6.mk 1 1 ([0,0,0,0]) (([bt, bw, bj, bc]).set (3 : Int).toNat ar)) <| loN)), Hm (shM (eI .i64) (eI .i64) ([0,0,0,0])), Hm (shM z0E z0E (([bt, bw, bj, bc]).set (3 : Int).toNat ar)), Hn (⟨rfl, rfl⟩ : T.own (.opq (Zm [some (eOs 4 true xc cj.1), some (.agg [eOs 1 true (eI .i64) cj.2.1.States, eOs 1 true F2_ cj.2.1.Queues]), some (I cj.2.2)])) = T.own (.opq (Zm [some (eOs 4 true xc cj.1), some (.agg [eOs 1 true (eI .i64) cj.2.1.States, eOs 1 true F2_ cj.2.1.Queues]), some (I cj.2.2)])) ∧ 1 = 1), Hn (⟨rfl, rfl⟩ : T.own (.opq (Zm [none, some (.agg [eOs 1 true (eI .i64) cj.2.1.States, eOs 1 true F2_ cj.2.1.Queues]), some (I cj.2.2)])) = T.own (.opq (Zm [none, some (.agg [eOs 1 true (eI .i64) cj.2.1.States, eOs 1 true F2_ cj.2.1.Queues]), some (I cj.2.2)])) ∧ 1 = 1), Hn (⟨rfl, rfl⟩ : T.own (.opq (Zm [none, none, some (I cj.2.2)])) = T.own (.opq (Zm [none, none, some (I cj.2.2)])) ∧ 1 = 1), Hh (.cut 1)]) ?_
          rcases zJ aa with ⟨c9, aa⟩ | ⟨c9, aa⟩
          ·obtain rfl := zi aa
           exact yE X0 hC hE (rpN 4 (Hq c9) (rpN 10 qT []))
          ·let Z5 : List HO := [Hq c9, Hq c9, Ha (lnM xc ay.1), Hq c9, Hq c9]
           rcases zJ aa with ⟨c10, aa⟩ | ⟨c10, aa⟩
           ·obtain rfl := zi aa
            exact yE X0 hC hE (Z5 ++ (rpN 6 (Hq c10) (rpN 4 qT [])))
           ·obtain ⟨io, h16, aa⟩ := zj aa
            let Z6 : List HO := (Z5 ++ (rpN 4 (Hq c10) [Hg (Ko h0m), Hm (shM (eI .i64) (eI .i64) ay.2.1.States), Hm (shM (eI .i64) (eI .i64) ([1,1,1,1])), Hs (Kp h0m (x := (ay.2.1.States, [1,1,1,1])) h16 (loC F1_ ay.2.1.States <| loC F1_ ([1,1,1,1] : List Int) <| loN)), Hq c10, Hq c10]))
            rcases zJ aa with ⟨c11, aa⟩ | ⟨c11, aa⟩
            ·obtain rfl := zi aa
             exact yE X0 hC hE (Z6 ++ [Hq c11, Hq c11, Hq c11, qT])
            ·rcases zJ aa with ⟨c12, aa⟩ | ⟨c12, aa⟩
             ·obtain rfl := zi aa
              exact yE X0 hC hE (Z6 ++ [Hq c11, Hq c11, Hq c11, Hq c12])
             ·obtain ⟨aw, h17, aa⟩ := zj aa
              let Z7 : List HO := (Z6 ++ [Hq c11, Hq c11, Hq c11, Hq c12, Hg (Ko h0o), Hm (shM (eI .i64) (eI .i64) []), Hm (shM ws ws []), Hm (shM (eI .i64) (eI .i64) []), Hm (shM F3_ F3_ []), Hs (Kp h0o (x := ((z6.mk 17 0 [] []), (z8.mk [] []), [])) h17 (loC (yz (eI .i64) (eI .i64) F1_ (eSl 3 true ws)) (z6.mk 17 0 [] []) <| loC z6J (z8.mk [] []) <| loC F1_ ([] : List Int) <| loN))])
              rcases zJ aa with ⟨c13, aa⟩ | ⟨c13, aa⟩
              ·obtain ⟨dp, h18, aa⟩ := zj aa
               obtain ⟨au, h19, aa⟩ := zj aa
               obtain ⟨fk, h20, aa⟩ := zj aa
               let Z8 : List HO := (Z7 ++ [Hq c13, Hn (YQ (f := .fn 12 []) (xs := [(eI .i64) 5, KU ([] : List zb)]) (ls := []) (r := .agg [I dp.Messages, I dp.Labels, eSl 1 true (eI .i64) dp.Channels, eSl 3 true z0E dp.Parts]) (ys := []) [(eI .i64) 5, KU ([] : List zb)] (show KO [(eI .i64) 5, KU ([] : List zb)] [(eI .i64) 5, KU ([] : List zb)] from inferInstance)), Hq c13, Hc h01 (x := (0,0, [])) h19 (loC (eI .i64) 0 <| loC (eI .i64) 0 <| loC F1_ ([] : List Int) <| loN), Hq c13, Hc h0o (x := (dp, au, [])) h20 (loC z4H dp <| loC z6J au <| loC F1_ ([] : List Int) <| loN), Hq c13])
               rcases zJ aa with ⟨c14, aa⟩ | ⟨c14, aa⟩
               ·obtain ⟨cu, h21, aa⟩ := zj aa
                obtain ⟨fc, h22, aa⟩ := zj aa
                obtain ⟨fl, h23, aa⟩ := zj aa
                let Z9 : List HO := (Z8 ++ [Hq c14, Hn (YQ (f := .fn 12 []) (xs := [(eI .i64) 1, KU ([] : List zb)]) (ls := []) (r := .agg [I cu.Messages, I cu.Labels, eSl 1 true (eI .i64) cu.Channels, eSl 3 true z0E cu.Parts]) (ys := []) [(eI .i64) 1, KU ([] : List zb)] (show KO [(eI .i64) 1, KU ([] : List zb)] [(eI .i64) 1, KU ([] : List zb)] from inferInstance)), Hq c14, Hq c14, Hg (Ko h01), Hm (shM (eI .i64) (eI .i64) ([0,0])), Hs (Kp h01 (x := (0,0, [0,0])) h22 (loC (eI .i64) 0 <| loC (eI .i64) 0 <| loC F1_ ([0,0] : List Int) <| loN)), Hm (shM (eI .i64) (eI .i64) ([0,0])), Hq c14, Hq c14, Hg (Ko h0o), Hm (shM (eI .i64) (eI .i64) ([1])), Hs (Kp h0o (x := (cu, fc, [1])) h23 (loC z4H cu <| loC z6J fc <| loC F1_ ([1] : List Int) <| loN)), Hq c14])
                rcases zJ aa with ⟨c15, aa⟩ | ⟨c15, aa⟩
                ·obtain ⟨jn, h24, aa⟩ := zj aa
                 obtain rfl := zi aa
                 exact yE ((qo (P := Tryz.prog) qd [] (lentCall (xo hC h00 (x := (1, ([] : List zb))) h21)) 134).or ((qo (P := Tryz.prog) qd [] (lentCall (xo hC h00 (x := (5, ([] : List zb))) h18)) 129).or X0)) hC hE (Z9 ++ [Hq c15, Hc h04 (x := ()) h24 (loN), Hq c15])
                ·obtain rfl := zi aa
                 exact yE ((qo (P := Tryz.prog) qd [] (lentCall (xo hC h00 (x := (1, ([] : List zb))) h21)) 134).or ((qo (P := Tryz.prog) qd [] (lentCall (xo hC h00 (x := (5, ([] : List zb))) h18)) 129).or X0)) hC hE (Z9 ++ [Hq c15, Hq c15])
               ·obtain rfl := zi aa
                exact yE ((qo (P := Tryz.prog) qd [] (lentCall (xo hC h00 (x := (5, ([] : List zb))) h18)) 129).or X0) hC hE (Z8 ++ (rpN 6 (Hq c14) [qF, qF]))
              ·obtain rfl := zi aa
               exact yE X0 hC hE (Z7 ++ (rpN 4 (Hq c13) (rpN 8 qF [])))
theorem zcV {l : List wI} {s : wI} (h : ((l.map wI.k).contains s.k) = false) : ∀ t ∈ l, t.k ≠ s.k := by
 intro t ht e
 have : (l.map wI.k).contains s.k = true := by
  rw [List.contains_iff_mem, ← e]
  exact List.mem_map_of_mem ht
 rw [h] at this
 cases this
theorem hat {l : List wI} {c : Ctr} (H : ∀ t ∈ l, c.Has t) (i : Nat) {s : wI} (h : l[i]? = some s := by rfl) : c.Has s := H _ (List.mem_of_getElem? h)
theorem spc {l : List wI} {s : wI} (w : ∀ {c : Ctr}, zO Tryz.prog c → (∀ t ∈ l, c.Has t) → s.Ok Tryz.prog) (r : Qv Tryz.prog l) (h : ((l.map wI.k).contains s.k) = false := by kernel_rfl) : Qv Tryz.prog (s :: l) := ⟨fun _ a b => w a b, zcV h, r⟩
theorem zce : Qv Tryz.prog [qw, uP, Y2, XP, Zz, xj, jB, wb, xP, YR, kL, Y1, Zf, YS, ZA, YU, ZN, XR, kM, ZP, YT, ZO, Y3, wR, um, v7, un, YV, XS, vo, xL, xU, xu, qS, XT, kO, qU, kN, wt, jO, Y4, jC, uB, yW, xO, uo, xZ, xi, jS, xA, qt, vK, xC, xY, wD, yu, yZ, kK, ul, qG, qH, vp, Zy, ym, yD, kJ, vn, XQ] :=
 spc (fun hC H => Vj hC (hat H 66) (hat H 41) (hat H 28) (hat H 27) (hat H 26) (hat H 22) (hat H 20) (hat H 0) (hat H 18) (hat H 17) (hat H 11)) <|
 spc (fun hC H => WK hC (hat H 18) (hat H 10) (hat H 7) (hat H 52) (hat H 2) (hat H 1) (hat H 5) (hat H 27) (hat H 40) (hat H 21) (hat H 0) (hat H 8)) <|
 spc (fun hC H => KY hC (hat H 8)) <|
 spc (fun hC H => z1y hC (hat H 3) (hat H 2) (hat H 49) (hat H 48) (hat H 45) (hat H 44) (hat H 40)) <|
 spc (fun hC H => JI hC (hat H 2) (hat H 1) (hat H 48) (hat H 47) (hat H 44) (hat H 43) (hat H 0)) <|
 spc (fun hC _ => qq hC) <|
 spc (fun hC H => JG hC (hat H 44)) <|
 spc (fun hC H => WJ hC (hat H 46) (hat H 52) (hat H 0)) <|
 spc (fun hC H => XL hC (hat H 51)) <|
 spc (fun hC H => z0G hC (hat H 0) (hat H 1)) <|
 spc (fun hC H => KX hC (hat H 0)) <|
 spc (fun hC _ => z4r hC) <|
 spc (fun hC H => z0I hC (hat H 6) (hat H 29) (hat H 5) (hat H 4) (hat H 2) (hat H 16) (hat H 1) (hat H 10) (hat H 0) (hat H 3)) <|
 spc (fun hC _ => z0H hC) <|
 spc (fun hC _ => JL hC) <|
 spc (fun hC H => z0K hC (hat H 0)) <|
 spc (fun hC H => z1z hC (hat H 4)) <|
 spc (fun hC _ => z1D hC) <|
 spc (fun hC _ => z00 hC) <|
 spc (fun hC _ => z1C hC) <|
 spc (fun hC _ => z0J hC) <|
 spc (fun hC H => z1A hC (hat H 0)) <|
 spc (fun hC _ => KZ hC) <|
 spc (fun hC H => Up hC (hat H 30) (hat H 22) (hat H 0) (hat H 20)) <|
 spc (fun hC H => Wr hC (hat H 0)) <|
 spc (fun hC H => YP hC (hat H 0)) <|
 spc (fun hC _ => Wu hC) <|
 spc (fun hC _ => z0L hC) <|
 spc (fun hC _ => z1E hC) <|
 spc (fun hC H => Q6 hC (hat H 24) (hat H 29) (hat H 16) (hat H 8) (hat H 3) (hat H 2) (hat H 1) (hat H 0)) <|
 spc (fun hC _ => jT hC) <|
 spc (fun hC _ => kD hC) <|
 spc (fun hC _ => qW hC) <|
 spc (fun hC H => VE hC (hat H 2) (hat H 1) (hat H 0)) <|
 spc (fun hC _ => z1F hC) <|
 spc (fun hC H => Qa hC (hat H 5)) <|
 spc (fun hC H => VF hC (hat H 0)) <|
 spc (fun hC _ => Q9 hC) <|
 spc (fun hC H => Zr hC (hat H 1) (hat H 0)) <|
 spc (fun hC _ => Uq hC) <|
 spc (fun hC H => z01 hC (hat H 0)) <|
 spc (fun hC _ => JM hC) <|
 spc (fun hC H => JJ hC (hat H 11) (hat H 3) (hat H 1) (hat H 0)) <|
 spc (fun hC _ => ug hC) <|
 spc (fun hC H => XK hC (hat H 0)) <|
 spc (fun hC _ => Wv hC) <|
 spc (fun hC H => Wt hC (hat H 6) (hat H 5) (hat H 2) (hat H 1) (hat H 0)) <|
 spc (fun hC _ => qp hC) <|
 spc (fun hC _ => z2U hC) <|
 spc (fun hC H => WH hC (hat H 1) (hat H 0)) <|
 spc (fun hC _ => Vi hC) <|
 spc (fun hC _ => VD hC) <|
 spc (fun hC _ => WI hC) <|
 spc (fun hC _ => Ws hC) <|
 spc (fun hC H => JK hC (hat H 7) (hat H 6) (hat H 4) (hat H 0)) <|
 spc (fun hC H => vN hC (hat H 0)) <|
 spc (fun hC H => uz hC (hat H 0)) <|
 spc (fun hC H => Q7 hC (hat H 0)) <|
 spc (fun hC H => Wq hC (hat H 1)) <|
 spc (fun hC H => Je hC (hat H 0)) <|
 spc (fun hC _ => z1x hC) <|
 spc (fun hC _ => Q8 hC) <|
 spc (fun hC H => JH hC (hat H 3) (hat H 0)) <|
 spc (fun hC H => vA hC (hat H 0)) <|
 spc (fun hC H => u7 hC (hat H 0)) <|
 spc (fun hC _ => Q4 hC) <|
 spc (fun hC _ => Q5 hC) <|
 spc (fun hC _ => z1B hC) <|
 trivial
theorem jR {x : Int} (h1 : -9223372036854775808 ≤ x) (h2 : x ≤ 9223372036854775807) : w64 x = x := by
 simp only [w64, IntKind.wrap, IntKind.bits, IntKind.signed]
 simp
 omega
section
variable {α β σ τ ρ : Type}
def Ret (x : Option α) (Q : α → Prop) : Prop := ∃ a, x = some a ∧ Q a
theorem Ret.mono {x : Option α} {Q R : α → Prop} (h : Ret x Q) (q : ∀ a, Q a → R a) : Ret x R := by
 have ⟨a, e, h⟩ := h
 exact ⟨a, e, q a h⟩
theorem wW {a : α} {Q : α → Prop} : Ret (some a) Q ↔ Q a := ⟨fun ⟨b, e, q⟩ => by cases e; exact q, fun q => ⟨a, rfl, q⟩⟩
theorem z3K {x : Option α} {f : α → Option β} {Q : β → Prop} : Ret (Option.bind x f) Q ↔ Ret x fun a => Ret (f a) Q := by
 cases x with
 | none => exact ⟨fun ⟨b, e, _⟩ => (by cases e), fun ⟨b, e, _⟩ => (by cases e)⟩
 | some a => exact ⟨fun h => ⟨a, rfl, h⟩, fun ⟨b, e, h⟩ => by cases e; exact h⟩
theorem za0 {c : Bool} {x y : Option α} {Q : α → Prop} : Ret (bif c then x else y) Q ↔ (c = true → Ret x Q) ∧ (c = false → Ret y Q) := by
 cases c <;> simp
theorem z3i (l : List α) (i : Nat) : idx l (i : Int) = l[i]? := rfl
theorem gdT {p : Prop} [Decidable p] {x : Option α} (h : p) : gd p x = x := by unfold gd; rw [if_pos h]
theorem bdT {x : Option α} {u : α} {f : α → Option ρ} (h : x = some u) : Option.bind x f = f u := by rw [h]; rfl
theorem ZY (step : σ → Option (LR σ τ)) (n : Nat) (s : σ) : Vo step (n + 1) s = (match step s with | none => none | some (.next s') => Vo step n s' | some (.done t) => some t) := rfl
def LRP (N : σ → Prop) (D : τ → Prop) : LR σ τ → Prop
 | .next s => N s
 | .done t => D t
theorem Uu {step : σ → Option (LR σ τ)} (I : σ → Prop) (m : σ → Nat) {R : τ → Prop} {s : σ} (hs : I s) (hm : m s < 18446744073709551616)
  (h : ∀ s, I s → Ret (step s) (LRP (fun s' => I s' ∧ m s' < m s) R)) : Ret (loop step s) R := by
 have gen : ∀ (n : Nat) (s : σ), I s → m s < n → Ret (Vo step n s) R := by
  intro n
  induction n with
  | zero => intro s _ h; omega
  | succ n ih =>
   intro s hs hm
   have ⟨a, e, q⟩ := h s hs
   rw [ZY, e]
   cases a with
   | next s' => exact ih s' q.1 (by have := q.2; omega)
   | done t => exact ⟨t, rfl, q⟩
 exact gen fuel s hs hm
theorem z17 {step : σ → Option (LR σ τ)} (st : Nat → σ) (n : Nat) {t : τ} (hn : n < 9223372036854775808) (h : ∀ i, i < n → step (st i) = some (.next (st (i + 1)))) (hd : step (st n) = some (.done t)) : loop step (st 0) = some t := by
 have gen : ∀ (k : Nat) (i : Nat), i ≤ n → n - i < k → Vo step k (st i) = some t := by
  intro k
  induction k with
  | zero => intro i _ h; omega
  | succ k ih =>
   intro i hi hk
   rw [ZY]
   rcases Nat.lt_or_ge i n with q | q
   ·rw [h i q]
    exact ih (i + 1) q (by omega)
   ·have : i = n := by omega
    subst this
    rw [hd]
 exact gen fuel 0 (Nat.zero_le _) (by show n - 0 < 18446744073709551616; omega)
def Wo (f : Nat → α → Option ρ) : List α → Nat → Option ρ
 | [], _ => none
 | x :: l, i => match f i x with | some r => some r | none => Wo f l (i + 1)
theorem Ky {f : Nat → α → Option ρ} : ∀ {l : List α} {k : Nat}, (∀ i x, l[i]? = some x → f (k + i) x = none) → Wo f l k = none
 | [], _, _ => rfl
 | x :: l, k, h => by
  have h0 := h 0 x rfl
  simp [Nat.add_zero] at h0
  simp [Wo, h0]
  exact Ky fun i y hy => by have := h (i + 1) y (by simpa using hy); rwa [show k + 1 + i = k + (i + 1) by omega]
theorem Kx {f : Nat → α → Option ρ} {r : ρ} : ∀ {l : List α} {k : Nat}, Wo f l k = some r → ∃ i x, l[i]? = some x ∧ f (k + i) x = some r
 | [], _, h => by cases h
 | x :: l, k, h => by
  simp [Wo] at h
  cases hf : f k x with
  | some r' => rw [hf] at h; exact ⟨0, x, rfl, by rw [Nat.add_zero, hf]; exact h⟩
  | none =>
   rw [hf] at h
   have ⟨i, y, h1, h2⟩ := Kx h
   exact ⟨i + 1, y, by simpa using h1, by rw [← h2]; congr 1; omega⟩
theorem z1c {f : Nat → α → Option ρ} {l : List α} {k : Nat} (h : Wo f l k = none) : ∀ i x, l[i]? = some x → f (k + i) x = none := by
 induction l generalizing k with
 | nil => intro i x h; simp at h
 | cons y l ih =>
  intro i x hx
  simp [Wo] at h
  cases hf : f k y with
  | some r' => rw [hf] at h; cases h
  | none =>
   rw [hf] at h
   cases i with
   | zero => simp at hx; subst hx; simpa using hf
   | succ i => have := ih h i x (by simpa using hx); rwa [show k + (i + 1) = k + 1 + i by omega]
def oS : Option ρ → Unit ⊕ ρ
 | some r => .inr r
 | none => .inl ()
def nS (i : Nat) : Option ρ → LR Int (Unit ⊕ ρ)
 | some r => .done (.inr r)
 | none => .next (w64 ((i : Int) + 1))
theorem Kh (l : List α) (hl : l.length < 4611686018427387904) {step : Int → Option (LR Int (Unit ⊕ ρ))} (f : Nat → α → Option ρ)
  (h : ∀ (i : Nat) (x : α), l[i]? = some x → step (i : Int) = some (nS i (f i x))) (h2 : step (l.length : Int) = some (.done (.inl ()))) :
  loop step 0 = some (oS (Wo f l 0)) := by
 have gen : ∀ (n : Nat) (k : Nat), k ≤ l.length → l.length - k < n → Vo step n (k : Int) = some (oS (Wo f (l.drop k) k)) := by
  intro n
  induction n with
  | zero => intro k _ h; omega
  | succ n ih =>
   intro k hk hn
   rw [ZY]
   rcases Nat.lt_or_ge k l.length with hlt | hge
   ·have hx : l[k]? = some l[k] := List.getElem?_eq_getElem hlt
    rw [h k _ hx, List.drop_eq_getElem_cons hlt]
    simp [Wo]
    cases hf : f k l[k] with
    | some r => rfl
    | none =>
     simp [nS]
     rw [jR (by omega) (by omega)]
     exact ih (k + 1) hlt (by omega)
   ·have : k = l.length := by omega
    subst this
    rw [h2, List.drop_length]
    rfl
 exact gen fuel 0 (Nat.zero_le _) (by show l.length - 0 < 18446744073709551616; omega)
end
variable {α : Type}{i : Nat}
theorem uX {l : List α}  {x : α} (h : l[i]? = some x) : idx l (i : Int) = some x := h
theorem xI {l : List α}  {x : α} (h : l[i]? = some x) : i < l.length := (List.getElem?_eq_some_iff.1 h).1
section
variable {α β σ τ ρ : Type}
def nxt (f : σ → Option (LR τ ρ)) : LR σ ρ → Option (LR τ ρ)
 | .next s => f s
 | .done r => some (.done r)
def z4D (g : Nat → α → σ → Option (LR σ ρ)) : List α → Nat → σ → Option (LR σ ρ)
 | [], _, s => some (.next s)
 | x :: l, k, s => Option.bind (g k x s) (nxt (z4D g l (k + 1)))
def zdU (k : Nat) (fin : LR σ ρ → τ) : LR σ ρ → LR (σ × Int) τ
 | .next s => .next (s, w64 ((k : Int) + 1))
 | .done r => .done (fin (.done r))
theorem Qm (l : List α) (hl : l.length < 4611686018427387904) {step : σ × Int → Option (LR (σ × Int) τ)} (g : Nat → α → σ → Option (LR σ ρ)) (fin : LR σ ρ → τ) (s : σ)
  (h : ∀ (i : Nat) (x : α) (s : σ), l[i]? = some x → step (s, (i : Int)) = (g i x s).map (zdU i fin)) (h2 : ∀ s, step (s, (l.length : Int)) = some (.done (fin (.next s)))) :
  loop step (s, 0) = (z4D g l 0 s).map fin := by
 have gen : ∀ (n : Nat) (k : Nat) (s : σ), k ≤ l.length → l.length - k < n → Vo step n (s, (k : Int)) = (z4D g (l.drop k) k s).map fin := by
  intro n
  induction n with
  | zero => intro k s _ h; omega
  | succ n ih =>
   intro k s hk hn
   rw [ZY]
   rcases Nat.lt_or_ge k l.length with hlt | hge
   ·have hx : l[k]? = some l[k] := List.getElem?_eq_getElem hlt
    rw [h k _ s hx, List.drop_eq_getElem_cons hlt]
    simp only [z4D]
    cases hg : g k l[k] s with
    | none => rfl
    | some r =>
     cases r with
     | done r => rfl
     | next s' =>
      simp only [Option.map_some, zdU, oB, nxt]
      rw [jR (by omega) (by omega)]
      exact ih (k + 1) s' hlt (by omega)
   ·have : k = l.length := by omega
    subst this
    rw [h2, List.drop_length]
    rfl
 exact gen fuel 0 s (Nat.zero_le _) (by show l.length - 0 < 18446744073709551616; omega)
def uF (yy : σ → α → Option (σ × Bool)) : List α → σ → Option (LR σ σ)
 | [], s => some (.next s)
 | x :: l, s => Option.bind (yy s x) fun r => bif r.2 then uF yy l r.1 else some (.done r.1)
theorem QZ (yy : σ → α → Option (σ × Bool)) (l m : List α) (s : σ) : uF yy (l ++ m) s = Option.bind (uF yy l s) (nxt (uF yy m)) := by
 induction l generalizing s with
 | nil => rfl
 | cons x l ih =>
  simp only [List.cons_append, uF]
  cases yy s x with
  | none => rfl
  | some r =>
   simp only [oB]
   cases r.2 with
   | true => exact ih r.1
   | false => rfl
def VT (f : Nat → α → List β) : List α → Nat → List β
 | [], _ => []
 | x :: l, k => f k x ++ VT f l (k + 1)
theorem Ux {f : Nat → α → List β} {y : β} : ∀ {l : List α} {k : Nat}, y ∈ VT f l k ↔ ∃ i x, l[i]? = some x ∧ y ∈ f (k + i) x
 | [], k => by simp [VT]
 | x :: l, k => by
  rw [VT, List.mem_append, Ux (l := l)]
  constructor
  ·rintro (h | ⟨i, z, h1, h2⟩)
   ·exact ⟨0, x, rfl, h⟩
   ·exact ⟨i + 1, z, by simpa using h1, by rwa [show k + (i + 1) = k + 1 + i by omega]⟩
  ·rintro ⟨i, z, h1, h2⟩
   cases i with
   | zero => simp at h1; subst h1; exact .inl h2
   | succ i => exact .inr ⟨i, z, by simpa using h1, by rwa [show k + 1 + i = k + (i + 1) by omega]⟩
theorem UB {f : Nat → α → List β} {b : Nat} : ∀ {l : List α} {k : Nat}, (∀ i x, l[i]? = some x → (f (k + i) x).length ≤ b) → (VT f l k).length ≤ l.length * b
 | [], k, _ => by simp [VT]
 | x :: l, k, h => by
  rw [VT, List.length_append, List.length_cons, Nat.succ_mul]
  have h1 := h 0 x rfl
  have h2 := UB (f := f) (l := l) (k := k + 1) (b := b) fun i z hz => by
   have := h (i + 1) z (by simpa using hz)
   rwa [show k + 1 + i = k + (i + 1) by omega]
  simp only [Nat.add_zero] at h1
  omega
theorem Vg (yy : σ → β → Option (σ × Bool)) (f : Nat → α → List β) {g : Nat → α → σ → Option (LR σ σ)} :
  ∀ {l : List α} {k : Nat} {s : σ}, (∀ i x s, l[i]? = some x → g (k + i) x s = uF yy (f (k + i) x) s) → z4D g l k s = uF yy (VT f l k) s
 | [], k, s, _ => rfl
 | x :: l, k, s, h => by
  rw [VT, QZ, z4D]
  have h0 := h 0 x s rfl
  rw [Nat.add_zero] at h0
  rw [h0]
  congr 1
  funext r
  cases r with
  | done r => rfl
  | next s' =>
   exact Vg yy f fun i z s hz => by
    have := h (i + 1) z s (by simpa using hz)
    rwa [show k + (i + 1) = k + 1 + i by omega] at this
theorem z2C (yy : σ → β → Option (σ × Bool)) (f : α → List β) {step : σ → α → Option (LR σ σ)} :
  ∀ {l : List α} {s : σ}, (∀ x ∈ l, ∀ s, step s x = uF yy (f x) s) → uF (yOf step) l (.next s) = (uF yy (l.flatMap f) s).map (fun r => match r with | .next s => .next (.next s) | .done s => .done (.done s))
 | [], s, _ => rfl
 | x :: l, s, h => by
  rw [List.flatMap_cons, QZ, uF, yOf, h x List.mem_cons_self s]
  cases uF yy (f x) s with
  | none => rfl
  | some r =>
   cases r with
   | done r => rfl
   | next s' => exact z2C yy f fun z hz => h z (List.mem_cons_of_mem _ hz)
end
def InR (n many : Int) : Prop := 0 ≤ n ∧ n < many
instance (n many : Int) : Decidable (InR n many) := by unfold InR; infer_instance
structure zcd (x : z6) (st : Int) (a : zb) : Prop where
 fr : InR a.From st
 to : InR a.To st
 kind : 0 ≤ a.Kind ∧ a.Kind ≤ 2
 inner : a.Kind = 0 → a.Channel = 0 ∧ InR a.Message x.Labels
 other : a.Kind ≠ 0 → InR a.Channel x.Channels.length ∧ InR a.Message x.Messages
def Ris (l : List Int) (many : Int) : Prop := ∀ (i : Nat) (v : Int), l[i]? = some v → InR v many ∧ (0 < i → ∃ u, l[i - 1]? = some u ∧ u < v)
structure zcb (x : z6) (p : zh) : Prop where
 lo : 1 ≤ p.States
 hi : p.States ≤ 64
 arcs : p.Arcs.length ≤ 256
 ris : Ris p.Final p.States
 fin : p.Final.length ≤ 64
 arc : ∀ a ∈ p.Arcs, zcd x p.States a
structure z6P (x : z6) : Prop where
 msg : 0 ≤ x.Messages ∧ x.Messages ≤ 16
 lab : 0 ≤ x.Labels ∧ x.Labels ≤ 16
 chl : x.Channels.length ≤ 4
 ch : ∀ n ∈ x.Channels, 0 ≤ n ∧ n ≤ 4
 pl : 1 ≤ x.Parts.length ∧ x.Parts.length ≤ 4
 part : ∀ p ∈ x.Parts, zcb x p
structure zcc (x : z6) (c : z8) : Prop where
 sl : c.States.length = x.Parts.length
 ql : c.Queues.length = x.Channels.length
 st : ∀ (i : Nat) (p : zh) (v : Int), x.Parts[i]? = some p → c.States[i]? = some v → InR v p.States
 qu : ∀ (i : Nat) (q : List Int) (n : Int), c.Queues[i]? = some q → x.Channels[i]? = some n → (q.length : Int) ≤ n ∧ ∀ m ∈ q, InR m x.Messages
theorem z3W {α ρ : Type} (l : List α) (hl : l.length < 4611686018427387904) {step : Int → Option (LR Int (Unit ⊕ ρ))} (h : ∀ (i : Nat) (x : α), l[i]? = some x → step (i : Int) = some (.next (w64 ((i : Int) + 1)))) (h2 : step (l.length : Int) = some (.done (.inl ()))) :
  loop step 0 = some (.inl ()) := by
 rw [Kh l hl (fun _ _ => (none : Option ρ)) (fun i x hx => h i x hx) h2, Ky (fun _ _ _ => rfl)]
 rfl
theorem z88 {l : List α} (hl : l.length < 4611686018427387904) (p : α → Bool) {step : Int → Option (LR Int (Unit ⊕ Int))} {F : Unit ⊕ Int → Option Int} (hF1 : F (.inl ()) = some (-1)) (hF2 : ∀ n, F (.inr n) = some n)
  (h : ∀ (i : Nat) (x : α), l[i]? = some x → step (i : Int) = some (bif p x then .done (.inr (i : Int)) else .next (w64 ((i : Int) + 1)))) (h2 : step (l.length : Int) = some (.done (.inl ()))) :
  Option.bind (Option.bind (loop step 0) F) (fun r => some (decide (r ≥ 0))) = some (l.any p) := by
 rw [Kh l hl (fun i x => bif p x then some (i : Int) else none) (fun i x hx => by rw [h i x hx]; cases p x <;> rfl) h2]
 cases hf : Wo (fun (i : Nat) x => bif p x then some (i : Int) else none) l 0 with
 | none =>
  have ha : l.any p = false := by
   rw [List.any_eq_false]
   intro x hx
   obtain ⟨i, hi⟩ := List.mem_iff_getElem?.1 hx
   have := z1c hf i x hi
   cases hp : p x with
   | false => simp
   | true => rw [hp] at this; cases this
  rw [ha]
  show Option.bind (F (.inl ())) _ = _
  rw [hF1]; rfl
 | some r =>
  obtain ⟨i, x, h1, h3⟩ := Kx hf
  have hp : p x = true := by
   cases hp : p x with
   | true => rfl
   | false => rw [hp] at h3; cases h3
  rw [hp] at h3
  cases h3
  have ha : l.any p = true := List.any_eq_true.2 ⟨x, List.mem_of_getElem? h1, hp⟩
  rw [ha]
  show Option.bind (F (.inr _)) _ = _
  rw [hF2]
  simp only [oB]
  rw [decide_eq_true (by omega)]
theorem zbY (l : List Int) (hl : l.length < 4611686018427387904) : yM l () = some (l.any fun n => decide (n > 4)) := by
 unfold yM xT
 refine z88 hl (fun n => decide (n > 4)) rfl (fun _ => rfl) (fun i x hx => ?_) ?_
 ·have hi := xI hx
  unfold yI kF
  rw [decide_eq_true (by omega), cond_true, uX hx, oB, oB]
  cases decide (x > 4) <;> rfl
 ·unfold yI
  rw [decide_eq_false (by omega), cond_false]
theorem zd8 (l : List zh) (hl : l.length < 4611686018427387904) : zN l () = some (l.any fun p => decide (p.States > 64) || decide ((p.Arcs.length : Int) > 256)) := by
 unfold zN ye
 refine z88 hl (fun p => decide (p.States > 64) || decide ((p.Arcs.length : Int) > 256)) rfl (fun _ => rfl) (fun i x hx => ?_) ?_
 ·have hi := xI hx
  unfold zM kE
  rw [decide_eq_true (by omega), cond_true, uX hx, oB]
  cases decide (x.States > 64) <;> cases decide ((x.Arcs.length : Int) > 256) <;> rfl
 ·unfold zM
  rw [decide_eq_false (by omega), cond_false]
theorem zbX (l : List Int) (hl : l.length < 4611686018427387904) : yK l () = some (l.any fun n => decide (n < 0)) := by
 unfold yK xS
 refine z88 hl (fun n => decide (n < 0)) rfl (fun _ => rfl) (fun i x hx => ?_) ?_
 ·have hi := xI hx
  unfold yH kI
  rw [decide_eq_true (by omega), cond_true, uX hx, oB, oB]
  cases decide (x < 0) <;> rfl
 ·unfold yH
  rw [decide_eq_false (by omega), cond_false]
theorem z3h (n m : Int) : v8 n m = some (decide (InR n m)) := by
 unfold v8
 by_cases h : n ≥ 0
 ·rw [decide_eq_true h, cond_true]
  exact congrArg some (decide_eq_decide.2 ⟨fun q => ⟨h, q⟩, fun q => q.2⟩)
 ·rw [decide_eq_false h, cond_false]
  exact congrArg some (decide_eq_false (fun q : InR n m => h q.1)).symm
def QU (x : z6) (st : Int) (a : zb) : Bool :=
 decide (InR a.From st) && decide (InR a.To st) && decide (a.Kind ≤ 2) && bif a.Kind == 0 then (a.Channel == 0 && decide (InR a.Message x.Labels)) else (decide (InR a.Channel x.Channels.length) && decide (InR a.Message x.Messages))
theorem z7y (x : z6) (p : zh) (a : zb) : wH x p a = some (QU x p.States a) := by
 unfold wH QU
 rw [z3h, z3h, z3h, z3h, z3h]
 have hk : decide (a.Kind ≤ 2) = !decide (a.Kind > 2) := by
  by_cases h : a.Kind ≤ 2
  ·rw [decide_eq_true h, decide_eq_false (by omega)]; rfl
  ·rw [decide_eq_false h, decide_eq_true (by omega)]; rfl
 rw [hk]
 cases decide (InR a.From p.States) <;> cases decide (InR a.To p.States) <;> cases decide (a.Kind > 2) <;> cases (a.Kind == 0) <;> cases (a.Channel == 0) <;> cases decide (InR a.Channel x.Channels.length) <;> rfl
variable {x : z6}{st : Int}{a : zb}
theorem z4y (h0 : 0 ≤ a.Kind) : QU x st a = true ↔ zcd x st a := by
 unfold QU
 constructor
 ·intro h
  simp only [Bool.and_eq_true, decide_eq_true_eq] at h
  obtain ⟨⟨⟨h1, h2⟩, h3⟩, h4⟩ := h
  refine ⟨h1, h2, ⟨h0, h3⟩, fun q => ?_, fun q => ?_⟩
  ·rw [q] at h4; simpa using h4
  ·rw [beq_false_of_ne q, cond_false] at h4; simpa using h4
 ·intro h
  by_cases q : a.Kind = 0
  ·simp [h.fr, h.to, q, h.inner q]
  ·simp [h.fr, h.to, h.kind.2, q, h.other q]
theorem zd9 (x : z6) (p : zh) (l : List zb) (hl : l.length < 4611686018427387904) : zS l (x, p) = some (l.any fun a => !QU x p.States a) := by
 unfold zS yi
 refine z88 hl (fun a => !QU x p.States a) rfl (fun _ => rfl) (fun i a hx => ?_) ?_
 ·have hi := xI hx
  unfold zR kH
  rw [decide_eq_true (by omega), cond_true, uX hx, oB, z7y, oB, oB]
  cases QU x p.States a <;> rfl
 ·unfold zR
  rw [decide_eq_false (by omega), cond_false]
variable {l : List Int}{many : Int}
theorem z5j (hl : l.length ≤ 64) (h : Ris l many) : wO l many = some true := by
 unfold wO
 rw [bdT (z3W l (by omega) ?_ ?_)]
 ·rfl
 ·intro i v hv
  have hi := xI hv
  obtain ⟨h1, h2⟩ := h i v hv
  unfold wf
  rw [decide_eq_true (by omega), cond_true, uX hv, oB, z3h, oB, decide_eq_true h1, Bool.not_true, cond_false]
  by_cases q : 0 < i
  ·obtain ⟨u, hu, hlt⟩ := h2 q
   rw [decide_eq_true (by omega), cond_true, jR (by omega) (by omega), show (i : Int) - 1 = ((i - 1 : Nat) : Int) by omega, uX hu, oB, decide_eq_false (by omega), cond_false]
   rfl
  ·rw [decide_eq_false (by omega), cond_false]
   rfl
 ·unfold wf
  rw [decide_eq_false (by omega), cond_false]
theorem z1d (h : z6P x) : wL x = some 0 := by
 have habove : kG x = some false := by
  unfold kG
  have h1 := h.chl; have h2 := h.pl.2
  rw [decide_eq_false (by have := h.msg.2; omega), cond_false, decide_eq_false (by have := h.lab.2; omega), cond_false, decide_eq_false (by omega), cond_false, decide_eq_false (by omega), cond_false, zbY _ (by omega), zd8 _ (by omega)]
  have e1 : (x.Channels.any fun n => decide (n > 4)) = false := List.any_eq_false.2 fun n hn => by have := h.ch n hn; simp; omega
  have e2 : (x.Parts.any fun p => decide (p.States > 64) || decide ((p.Arcs.length : Int) > 256)) = false := List.any_eq_false.2 fun p hp => by have q1 := (h.part p hp).hi; have q2 := (h.part p hp).arcs; simp; omega
  rw [e1, e2]
  rfl
 have e3 : (x.Channels.any fun n => decide (n < 0)) = false := List.any_eq_false.2 fun n hn => by have := h.ch n hn; simp; omega
 unfold wL
 rw [habove, oB, cond_false, decide_eq_false (by have := h.msg.1; omega), cond_false, decide_eq_false (by have := h.lab.1; omega), cond_false, decide_eq_false (by have := h.pl.1; omega), cond_false, zbX _ (by have := h.chl; omega), e3, oB, cond_false]
 rw [bdT (z3W x.Parts (by have := h.pl.2; omega) ?_ ?_)]
 ·rfl
 ·intro i p hp
  have hi := xI hp
  have hv := h.part p (List.mem_of_getElem? hp)
  have e4 : (p.Arcs.any fun a => !QU x p.States a) = false := List.any_eq_false.2 fun a ha => by
   have := (z4y (hv.arc a ha).kind.1).2 (hv.arc a ha)
   simp [this]
  unfold uA
  rw [decide_eq_true (by omega), cond_true, uX hp, oB, decide_eq_false (by have := hv.lo; omega), cond_false, z5j hv.fin hv.ris, oB, Bool.not_true, cond_false, zd9 _ _ _ (by have := hv.arcs; omega), e4, oB, cond_false]
 ·unfold uA
  rw [decide_eq_false (by omega), cond_false]
section
variable {α : Type}
theorem zI.ext_toL {a b : zI α} (h : a.toL = b.toL) : a = b := by
 cases a; cases b; simp only [zI.toL, List.cons.injEq, and_true] at h; simp only [zI.mk.injEq]; exact h
theorem zI.toL_setI (a : zI α) (i : Nat) (v : α) : (zI.setI a (i : Int) v).toL = a.toL.set i v := by
 unfold zI.setI
 rw [zI.toL_ofL _ _ (by rw [List.length_set]; rfl)]
 rfl
end
def z2b (z : α) (l : List α) : List α := l ++ List.replicate (4 - l.length) z
theorem z15 {z : α} {l : List α} (h : l.length ≤ 4) : (z2b z l).length = 4 := by
 rw [z2b, List.length_append, List.length_replicate]; omega
theorem z5B {z : α} {l : List α}  {v : α} (h : l[i]? = some v) : (z2b z l)[i]? = some v := by
 rw [z2b, List.getElem?_append_left (xI h)]; exact h
theorem z3T {z : α} {l : List α}  {v : α} (h : i < l.length) : (z2b z l).set i v = z2b z (l.set i v) := by
 rw [z2b, z2b, List.set_append_left _ _ h, List.length_set]
theorem z2a {z : α} {l : List α} : (z2b z l).take l.length = l := by
 rw [z2b, List.take_left]
def pad (l : List Int) : zI Int := zI.ofL (z2b 0 l) ⟨0, 0, 0, 0⟩
theorem Kc (h : l.length ≤ 4) : (pad l).toL = z2b 0 l := zI.toL_ofL _ _ (z15 h)
def qOf (l : List Int) : zg := ⟨l.length, pad l⟩
def za9 (l : List (List Int)) : zI zg := zI.ofL (z2b (qOf []) (l.map qOf)) ⟨qOf [], qOf [], qOf [], qOf []⟩
theorem z14 {l : List (List Int)} (h : l.length ≤ 4) : (za9 l).toL = z2b (qOf []) (l.map qOf) := zI.toL_ofL _ _ (z15 (by simpa using h))
def y5 (c : z8) : za := ⟨pad c.States, za9 c.Queues⟩
theorem z13 {v : Int} (h : l.length ≤ 4) (hi : i < l.length) : zI.setI (pad l) (i : Int) v = pad (l.set i v) := by
 apply zI.ext_toL
 rw [zI.toL_setI, Kc h, Kc (by rw [List.length_set]; exact h), z3T hi]
variable {v : List Int}
theorem z7H {l : List (List Int)}   (h : l.length ≤ 4) (hi : i < l.length) : zI.setI (za9 l) (i : Int) (qOf v) = za9 (l.set i v) := by
 apply zI.ext_toL
 rw [zI.toL_setI, z14 h, z14 (by rw [List.length_set]; exact h), z3T (by simpa using hi), List.map_set]
theorem z0k {v : Int} (h : l.length ≤ 4) (hi : l[i]? = some v) : idx (pad l).toL (i : Int) = some v := by
 rw [Kc h]; exact z5B hi
theorem z5A {l : List (List Int)}   (h : l.length ≤ 4) (hi : l[i]? = some v) : idx (za9 l).toL (i : Int) = some (qOf v) := by
 rw [z14 h]; exact z5B (by rw [List.getElem?_map, hi]; rfl)
theorem zby (m : Int) (h : l.length < 4) : vQ (qOf l) m = some (qOf (l ++ [m])) := by
 match l, h with
 | [], _ => rfl
 | [a], _ => rfl
 | [a, b], _ => rfl
 | [a, b, c], _ => rfl
theorem z7c {a : Int}  (h : l.length < 4) : uT (qOf (a :: l)) = some (qOf l) := by
 match l, h with
 | [], _ => rfl
 | [x], _ => rfl
 | [x, y], _ => rfl
 | [x, y, z], _ => rfl
theorem z4g (h : l.length ≤ 4294967296) : w6 l = some l := by
 unfold w6
 rw [gdT (by simpa using h)]
theorem z4h : xr l = some l := rfl
variable {c : z8}
theorem KE (hs : c.States.length = x.Parts.length) (hq : c.Queues.length = x.Channels.length) (h4 : x.Parts.length ≤ 4) (h5 : x.Channels.length ≤ 4) (hb : ∀ q ∈ c.Queues, q.length ≤ 4) :
  yX x (y5 c) = some c := by
 unfold yX
 have e1 : [(y5 c).states_.e0, (y5 c).states_.e1, (y5 c).states_.e2, (y5 c).states_.e3] = z2b 0 c.States := Kc (by omega)
 rw [gdT (by simp; omega), e1, show (((x.Parts.length : Nat) : Int)).toNat = c.States.length by omega, z2a, z4g (by omega), oB]
 first | rw [clip_eq] | rw [z4h]
 rw [oB, gdT (by omega)]
 have hl : loop (fun s => xl x (y5 c) s.1 s.2) ((List.replicate ((x.Channels.length : Nat) : Int).toNat ([] : List Int)), 0) = some c.Queues := by
  rw [show (((x.Channels.length : Nat) : Int)).toNat = c.Queues.length by omega]
  have e0 : List.replicate c.Queues.length ([] : List Int) = c.Queues.take 0 ++ List.replicate (c.Queues.length - 0) [] := by simp
  rw [e0]
  refine z17 (fun j => (c.Queues.take j ++ List.replicate (c.Queues.length - j) [], (j : Int))) c.Queues.length (by omega) (fun j hj => ?_) ?_
  ·have hv : c.Queues[j]? = some c.Queues[j] := List.getElem?_eq_getElem hj
   have hlen : (c.Queues.take j).length = j := by rw [List.length_take]; omega
   have hql := hb _ (List.mem_of_getElem? hv)
   have e2 : [(qOf c.Queues[j]).l_.e0, (qOf c.Queues[j]).l_.e1, (qOf c.Queues[j]).l_.e2, (qOf c.Queues[j]).l_.e3] = z2b 0 c.Queues[j] := Kc hql
   unfold xl
   dsimp only
   rw [decide_eq_true (by rw [List.length_replicate]; omega), cond_true]
   rw [show idx (y5 c).queues_.toL (j : Int) = some (qOf c.Queues[j]) from z5A (by omega) hv, oB]
   rw [e2]
   rw [show (qOf c.Queues[j]).many_ = ((c.Queues[j].length : Nat) : Int) from rfl]
   rw [gdT (show (0 : Int) ≤ ((c.Queues[j].length : Nat) : Int) ∧ ((c.Queues[j].length : Nat) : Int) ≤ (((z2b 0 c.Queues[j]).length : Nat) : Int) by rw [z15 hql]; omega)]
   rw [Int.toNat_natCast, z2a, z4g (by omega), oB]
   first | rw [clip_eq] | rw [z4h]
   rw [oB]
   have hi : idx (c.Queues.take j ++ List.replicate (c.Queues.length - j) ([] : List Int)) (j : Int) = some [] := by
    show (c.Queues.take j ++ List.replicate (c.Queues.length - j) ([] : List Int))[j]? = some []
    rw [List.getElem?_append_right (by omega), hlen, Nat.sub_self, List.getElem?_replicate, if_pos (by omega)]
   rw [hi, oB, jR (by omega) (by omega), Int.toNat_natCast]
   have : (c.Queues.take j ++ List.replicate (c.Queues.length - j) ([] : List Int)).set j c.Queues[j] = c.Queues.take (j + 1) ++ List.replicate (c.Queues.length - (j + 1)) [] := by
    rw [List.set_append_right _ _ (by omega), hlen, Nat.sub_self, show c.Queues.length - j = (c.Queues.length - (j + 1)) + 1 by omega, List.replicate_succ, List.set_cons_zero, List.take_add_one, hv, List.append_assoc]
    rfl
   rw [this]
   rfl
  ·unfold xl
   dsimp only
   rw [decide_eq_false (by rw [List.length_replicate]; omega), cond_false, List.take_length, Nat.sub_self]
   simp
 rw [bdT hl]
 rfl
def uY (l : List zb) (st : Int) : List (Int × zb) := VT (fun k a => if a.From = st then [((k : Int), a)] else []) l 0
theorem XB {l : List zb}  {e : Int × zb} : e ∈ uY l st ↔ ∃ k : Nat, e.1 = k ∧ l[k]? = some e.2 ∧ e.2.From = st := by
 unfold uY
 rw [Ux]
 constructor
 ·rintro ⟨i, a, h1, h2⟩
  rw [Nat.zero_add] at h2
  split at h2
  ·rename_i h
   simp at h2
   subst h2
   exact ⟨i, rfl, h1, h⟩
  ·simp at h2
 ·rintro ⟨k, h1, h2, h3⟩
  refine ⟨k, e.2, h2, ?_⟩
  rw [if_pos h3, Nat.zero_add, ← h1]
  simp
def stv (c : z8) (o : Nat) : Int := (c.States[o]?).getD 0
def two (c : z8) (p : Nat) (i : Int) (a : zb) (o : Nat) (kb : Int × zb) : List (ze × z8) :=
 if kb.2.Kind = 2 ∧ kb.2.Channel = a.Channel ∧ kb.2.Message = a.Message then [(⟨p, i, o, kb.1⟩, ⟨(c.States.set p a.To).set o kb.2.To, c.Queues⟩)] else []
def z2v (x : z6) (c : z8) (p : Nat) (i : Int) (a : zb) : List (ze × z8) :=
 VT (fun o P => if o = p then [] else (uY P.Arcs (stv c o)).flatMap (two c p i a o)) x.Parts 0
def quv (c : z8) (a : zb) : List Int := (c.Queues[a.Channel.toNat]?).getD []
def rmv (x : z6) (a : zb) : Int := (x.Channels[a.Channel.toNat]?).getD 0
def one (x : z6) (c : z8) (p : Nat) (e : Int × zb) : List (ze × z8) :=
 if e.2.Kind = 0 then [(⟨p, e.1, -1, -1⟩, ⟨c.States.set p e.2.To, c.Queues⟩)]
 else if rmv x e.2 = 0 then (if e.2.Kind = 1 then z2v x c p e.1 e.2 else [])
 else if e.2.Kind = 1 then (if ((quv c e.2).length : Int) < rmv x e.2 then [(⟨p, e.1, -1, -1⟩, ⟨c.States.set p e.2.To, c.Queues.set e.2.Channel.toNat (quv c e.2 ++ [e.2.Message])⟩)] else [])
 else (if (quv c e.2).head? = some e.2.Message then [(⟨p, e.1, -1, -1⟩, ⟨c.States.set p e.2.To, c.Queues.set e.2.Channel.toNat (quv c e.2).tail⟩)] else [])
def mvs (x : z6) (c : z8) : List (ze × z8) :=
 VT (fun p P => (uY P.Arcs (stv c p)).flatMap (one x c p)) x.Parts 0
variable {p : Nat}{P : zh}
section
variable {σ : Type}
def z5S : LR σ σ → σ
 | .next s => s
 | .done s => s
def zbJ : LR σ σ → σ ⊕ σ
 | .next s => .inl s
 | .done s => .inr s
def yeM (yy : σ → (ze × za) → Option (σ × Bool)) (s : σ) (m : ze × z8) : Option (σ × Bool) := yy s (m.1, y5 m.2)
theorem zal (h1 : x.Parts[p]? = some P) (h2 : c.States[p]? = some st) (h3 : P.Arcs.length ≤ 256) (h4 : c.States.length ≤ 4)
  (yy : σ → (Int × zb) → Option (σ × Bool)) (sg : σ) : yl x (p : Int) (y5 c) yy sg = (uF yy (uY P.Arcs st) sg).map z5S := by
 unfold yl
 rw [uX h1, oB]
 have hc : idx (y5 c).states_.toL (p : Int) = some st := z0k h4 h2
 rw [Qm P.Arcs (by omega) (g := fun k a s => if a.From = st then Option.bind (yy s ((k : Int), a)) (fun r => some (bif r.2 then .next r.1 else .done r.1)) else some (.next s)) z5S sg ?_ ?_]
 ·rw [Vg yy (fun k a => if a.From = st then [((k : Int), a)] else [])]
  ·unfold uY
   cases (uF yy (VT (fun k a => if a.From = st then [((k : Int), a)] else []) P.Arcs 0) sg) <;> rfl
  ·intro i a s ha
   rw [Nat.zero_add]
   split
   ·simp only [uF]
    cases yy s ((i : Int), a) with
    | none => rfl
    | some r => obtain ⟨r1, r2⟩ := r; cases r2 <;> rfl
   ·rfl
 ·intro i a s ha
  have hi := xI ha
  unfold xM
  dsimp only
  rw [decide_eq_true (by omega), cond_true, uX ha, oB, hc, oB]
  by_cases q : a.From = st
  ·rw [q, beq_self_eq_true, cond_true, if_pos rfl]
   cases yy s ((i : Int), a) with
   | none => rfl
   | some r => obtain ⟨r1, r2⟩ := r; cases r2 <;> rfl
  ·rw [beq_false_of_ne q, cond_false, if_neg q]
   rfl
 ·intro s
  unfold xM
  dsimp only
  rw [decide_eq_false (by omega), cond_false]
  rfl
theorem z4a {α : Type}      (h1 : x.Parts[p]? = some P) (h2 : c.States[p]? = some st) (h3 : P.Arcs.length ≤ 256) (h4 : c.States.length ≤ 4)
  (yy : σ → α → Option (σ × Bool)) (f : Int × zb → List α) {step : σ → Int × zb → Option (LR σ σ)} (sg : σ) (h : ∀ e ∈ uY P.Arcs st, ∀ s, step s e = uF yy (f e) s) :
  yl x (p : Int) (y5 c) (yOf step) (.next sg) = uF yy ((uY P.Arcs st).flatMap f) sg := by
 rw [zal h1 h2 h3 h4, z2C yy f h]
 cases uF yy ((uY P.Arcs st).flatMap f) sg with
 | none => rfl
 | some r => cases r <;> rfl
theorem zcX (yy : σ → (ze × za) → Option (σ × Bool)) {p o : Nat} (i k : Int) (a b : zb) (h4 : c.States.length ≤ 4) (hp : p < c.States.length) (ho : o < c.States.length) (sg : σ) :
  xg (y5 c) yy (p : Int) i a (o : Int) sg k b = uF (yeM yy) (two c p i a o (k, b)) sg := by
 unfold xg two
 by_cases q1 : b.Kind = 2
 ·rw [q1, bne_self_eq_false, cond_false]
  by_cases q2 : b.Channel = a.Channel
  ·rw [q2, bne_self_eq_false, cond_false]
   by_cases q3 : b.Message = a.Message
   ·rw [q3, bne_self_eq_false, cond_false, if_pos ⟨rfl, rfl, rfl⟩]
    have e1 : idx (y5 c).states_.toL (p : Int) = some c.States[p] := z0k h4 (List.getElem?_eq_getElem hp)
    have e2 : zI.setI (y5 c).states_ (p : Int) a.To = pad (c.States.set p a.To) := z13 h4 hp
    have e3 : idx (pad (c.States.set p a.To)).toL (o : Int) = some ((c.States.set p a.To)[o]'(by rw [List.length_set]; exact ho)) := z0k (by rw [List.length_set]; exact h4) (List.getElem?_eq_getElem _)
    have e4 : zI.setI (pad (c.States.set p a.To)) (o : Int) b.To = pad ((c.States.set p a.To).set o b.To) := z13 (by rw [List.length_set]; exact h4) (by rw [List.length_set]; exact ho)
    rw [e1, oB, oB, e2, e3, oB, oB, e4]
    simp only [uF, yeM]
    show Option.bind (yy sg (_, y5 ⟨(c.States.set p a.To).set o b.To, c.Queues⟩)) _ = _
    cases yy sg (⟨(p : Int), i, (o : Int), k⟩, y5 ⟨(c.States.set p a.To).set o b.To, c.Queues⟩) with
    | none => rfl
    | some r => obtain ⟨r1, r2⟩ := r; cases r2 <;> rfl
   ·rw [if_neg (fun q => q3 q.2.2), bne_iff_ne.2 q3 |> fun h => (h : (b.Message != a.Message) = true), cond_true]
    rfl
  ·rw [if_neg (fun q => q2 q.2.1), bne_iff_ne.2 q2 |> fun h => (h : (b.Channel != a.Channel) = true), cond_true]
   rfl
 ·rw [if_neg (fun q => q1 q.1), bne_iff_ne.2 q1 |> fun h => (h : (b.Kind != 2) = true), cond_true]
  rfl
structure MOk (x : z6) (c : z8) : Prop where
 sys : z6P x
 cfg : zcc x c
theorem MOk.s4 (h : MOk x c) : c.States.length ≤ 4 := by have := h.cfg.sl; have := h.sys.pl; omega
theorem MOk.q4 (h : MOk x c) : c.Queues.length ≤ 4 := by have := h.cfg.ql; have := h.sys.chl; omega
theorem MOk.qb (h : MOk x c) : ∀ q ∈ c.Queues, q.length ≤ 4 := by
 intro q hq
 obtain ⟨i, hi⟩ := List.mem_iff_getElem?.1 hq
 have e0 := h.cfg.ql
 have e1 := xI hi
 have hn : x.Channels[i]? = some (x.Channels[i]'(by omega)) := List.getElem?_eq_getElem _
 have h1 := (h.cfg.qu i q _ hi hn).1
 have h2 := h.sys.ch _ (List.mem_of_getElem? hn)
 omega
theorem MOk.stat (h : MOk x c)   (hp : x.Parts[p]? = some P) : p < c.States.length ∧ c.States[p]? = some (stv c p) := by
 have hl : p < c.States.length := by have := xI hp; have := h.cfg.sl; omega
 refine ⟨hl, ?_⟩
 unfold stv
 rw [List.getElem?_eq_getElem hl]
 rfl
theorem zcU (h : MOk x c) (yy : σ → (ze × za) → Option (σ × Bool))  (i : Int) (a : zb) (hp : p < x.Parts.length) (sg : σ) :
  loop (fun s => xe x (y5 c) yy (p : Int) i a s.1 s.2) (sg, 0) = (uF (yeM yy) (z2v x c p i a) sg).map zbJ := by
 have hpl := h.sys.pl
 rw [Qm x.Parts (by omega) (g := fun o P s => uF (yeM yy) (if o = p then [] else (uY P.Arcs (stv c o)).flatMap (two c p i a o)) s) zbJ sg ?_ ?_]
 ·rw [Vg (yeM yy) (fun o P => if o = p then [] else (uY P.Arcs (stv c o)).flatMap (two c p i a o)) (fun _ _ _ _ => by rw [Nat.zero_add])]
  rfl
 ·intro o P s hP
  have ho := xI hP
  unfold xe
  dsimp only
  rw [decide_eq_true (by omega), cond_true]
  by_cases q : o = p
  ·subst q
   rw [beq_self_eq_true, cond_true, if_pos rfl]
   rfl
  ·rw [beq_false_of_ne (by omega), cond_false, if_neg q]
   unfold wg
   rw [oB]
   dsimp only
   obtain ⟨h1, h2⟩ := h.stat hP
   rw [z4a hP h2 (h.sys.part P (List.mem_of_getElem? hP)).arcs h.s4 (yeM yy) (two c p i a o) s (fun e _ s' => zcX yy i e.1 a e.2 h.s4 (by have := h.cfg.sl; omega) h1 s')]
   cases uF (yeM yy) ((uY P.Arcs (stv c o)).flatMap (two c p i a o)) s with
   | none => rfl
   | some r => cases r <;> rfl
 ·intro s
  unfold xe
  dsimp only
  rw [decide_eq_false (by omega), cond_false]
  rfl
theorem z4u (h : MOk x c)  (hp : p < c.States.length)  (hk : a.Kind = 0) (hc : a.Channel = 0) :
  xK x (y5 c) (p : Int) a = some (y5 ⟨c.States.set p a.To, c.Queues⟩, false) := by
 unfold xK
 have e1 : idx (y5 c).states_.toL (p : Int) = some c.States[p] := z0k h.s4 (List.getElem?_eq_getElem hp)
 have e2 : zI.setI (y5 c).states_ (p : Int) a.To = pad (c.States.set p a.To) := z13 h.s4 hp
 rw [e1, oB, oB, e2, hc, show idx (zI.toL (y5 c).queues_) (mn 0 3) = some (y5 c).queues_.e0 from rfl, oB, hk, beq_self_eq_true, cond_true]
 rfl
theorem MOk.chan (h : MOk x c)   (ha : zcd x st a) (hk : a.Kind ≠ 0) : ∃ n : Nat, a.Channel = (n : Int) ∧ n < 4 ∧ c.Queues[n]? = some (quv c a) ∧ x.Channels[n]? = some (rmv x a) ∧ ((quv c a).length : Int) ≤ rmv x a ∧ rmv x a ≤ 4 := by
 have hr := (ha.other hk).1
 have hql := h.cfg.ql
 have hcl := h.sys.chl
 obtain ⟨r1, r2⟩ := hr
 have e1 : c.Queues[a.Channel.toNat]? = some (quv c a) := by
  unfold quv
  rw [List.getElem?_eq_getElem (by omega)]
  rfl
 have e2 : x.Channels[a.Channel.toNat]? = some (rmv x a) := by
  unfold rmv
  rw [List.getElem?_eq_getElem (by omega)]
  rfl
 refine ⟨a.Channel.toNat, by omega, by omega, e1, e2, (h.cfg.qu _ _ _ e1 e2).1, (h.sys.ch _ (List.mem_of_getElem? e2)).2⟩
theorem z4t (h : MOk x c)  (hp : p < c.States.length)   (ha : zcd x st a) (hk : a.Kind ≠ 0) :
  xK x (y5 c) (p : Int) a = (if rmv x a = 0 then some (⟨pad (c.States.set p a.To), (y5 c).queues_⟩, true)
   else if a.Kind = 1 then (if ((quv c a).length : Int) < rmv x a then some (y5 ⟨c.States.set p a.To, c.Queues.set a.Channel.toNat (quv c a ++ [a.Message])⟩, false) else some (⟨pad (c.States.set p a.To), (y5 c).queues_⟩, true))
   else (if (quv c a).head? = some a.Message then some (y5 ⟨c.States.set p a.To, c.Queues.set a.Channel.toNat (quv c a).tail⟩, false) else some (⟨pad (c.States.set p a.To), (y5 c).queues_⟩, true))) := by
 obtain ⟨n, hn, hn4, e1, e2, hle, h4⟩ := h.chan ha hk
 unfold xK
 have e3 : idx (y5 c).states_.toL (p : Int) = some c.States[p] := z0k h.s4 (List.getElem?_eq_getElem hp)
 have e4 : zI.setI (y5 c).states_ (p : Int) a.To = pad (c.States.set p a.To) := z13 h.s4 hp
 have e5 : idx (zI.toL (y5 c).queues_) (n : Int) = some (qOf (quv c a)) := z5A h.q4 e1
 have e6 : mn (n : Int) 3 = n := by unfold mn; rw [if_neg (by omega)]
 have hset : ∀ q : List Int, zI.setI (y5 c).queues_ (n : Int) (qOf q) = za9 (c.Queues.set n q) := fun q => z7H h.q4 (xI e1)
 rw [e3, oB, oB, e4, hn, e6, e5, oB, beq_false_of_ne hk, cond_false, uX e2, oB, Int.toNat_natCast]
 by_cases q0 : rmv x a = 0
 ·rw [q0, beq_self_eq_true, cond_true, if_pos rfl]
  rfl
 ·rw [beq_false_of_ne q0, cond_false, if_neg q0]
  by_cases q1 : a.Kind = 1
  ·rw [q1, beq_self_eq_true, cond_true, if_pos rfl, oB, show ((1 : Int) == 2) = false from rfl, cond_false]
   by_cases q2 : ((quv c a).length : Int) < rmv x a
   ·rw [if_pos q2, beq_false_of_ne (show (qOf (quv c a)).many_ ≠ rmv x a from by show ((quv c a).length : Int) ≠ _; omega), cond_false]
    unfold zP
    rw [cond_false, q1, beq_self_eq_true, cond_true, zby _ (by omega), oB, hn, e5, oB, oB, hset]
    rfl
   ·rw [if_neg q2, show ((qOf (quv c a)).many_ == rmv x a) = true from beq_iff_eq.2 (by show ((quv c a).length : Int) = _; omega), cond_true]
    rfl
  ·have q2 : a.Kind = 2 := by have := ha.kind; omega
   rw [beq_false_of_ne q1, cond_false, if_neg q1, q2, beq_self_eq_true, cond_true]
   cases hq : quv c a with
   | nil => rfl
   | cons m l =>
    rw [hq] at hle e5
    simp only [List.length_cons] at hle
    rw [show ((qOf (m :: l)).many_ == 0) = false from beq_false_of_ne (by show (((m :: l).length : Nat) : Int) ≠ 0; simp; omega), cond_false]
    have e7 : (qOf (m :: l)).l_.e0 = m := by
     have := z0k (l := m :: l) (i := 0) (v := m) (by simp; omega) rfl
     exact Option.some.inj this
    rw [e7]
    unfold zP
    by_cases q3 : m = a.Message
    ·rw [q3, bne_self_eq_false, cond_false, q2, show ((2 : Int) == 1) = false from rfl, cond_false, if_pos (show (a.Message :: l).head? = some a.Message from rfl)]
     rw [q3] at e5
     rw [z7c (by omega), oB, hn, e5, oB, oB, hset]
     rfl
    ·rw [show (m != a.Message) = true from bne_iff_ne.2 q3, cond_true, if_neg (show ¬(m :: l).head? = some a.Message from fun q => q3 (Option.some.inj q))]
theorem zcZ (h : MOk x c) (yy : σ → (ze × za) → Option (σ × Bool))  (hp : p < x.Parts.length) (i : Int)   (ha : zcd x st a) (sg : σ) :
  xh x (y5 c) yy (p : Int) sg i a = uF (yeM yy) (one x c p (i, a)) sg := by
 have hps : p < c.States.length := by have := h.cfg.sl; omega
 have key : ∀ (m : ze) (to : z8), (Option.bind (yy sg (m, y5 to)) fun yr => bif !yr.2 then some (LR.done yr.1) else some (LR.next yr.1)) = uF (yeM yy) [(m, to)] sg := by
  intro m to
  simp only [uF, yeM]
  cases yy sg (m, y5 to) with
  | none => rfl
  | some r => obtain ⟨r1, r2⟩ := r; cases r2 <;> rfl
 unfold xh one KC
 by_cases q : a.Kind = 0
 ·rw [z4u h hps q (ha.inner q).1, oB, cond_true, oB, Bool.not_false, cond_true, if_pos q]
  exact key _ _
 ·rw [z4t h hps ha q, if_neg q]
  obtain ⟨n, hn, hn4, e1, e2, hle, h4⟩ := h.chan ha q
  have er : idx x.Channels a.Channel = some (rmv x a) := by rw [hn]; exact uX e2
  by_cases q0 : rmv x a = 0
  ·rw [if_pos q0, if_pos q0, oB, cond_true, oB, Bool.not_true, cond_false]
   by_cases q1 : a.Kind = 1
   ·rw [q1, bne_self_eq_false, cond_false, er, oB, decide_eq_false (by omega), cond_false, zcU h yy i a hp]
    show _ = uF (yeM yy) (z2v x c p i a) sg
    cases uF (yeM yy) (z2v x c p i a) sg with
    | none => rfl
    | some r => cases r <;> rfl
   ·rw [show (a.Kind != 1) = true from bne_iff_ne.2 q1, cond_true, if_neg q1]
    rfl
  ·rw [if_neg q0, if_neg q0]
   by_cases q1 : a.Kind = 1
   ·rw [if_pos q1, if_pos q1]
    by_cases q2 : ((quv c a).length : Int) < rmv x a
    ·rw [if_pos q2, if_pos q2, oB, cond_true, oB, Bool.not_false, cond_true]
     exact key _ _
    ·rw [if_neg q2, if_neg q2, oB, cond_true, oB, Bool.not_true, cond_false, q1, bne_self_eq_false, cond_false, er, oB, decide_eq_true (by have : (0 : Int) ≤ (quv c a).length := Int.natCast_nonneg _; omega), cond_true]
     rfl
   ·rw [if_neg q1, if_neg q1]
    by_cases q2 : (quv c a).head? = some a.Message
    ·rw [if_pos q2, if_pos q2, oB, cond_true, oB, Bool.not_false, cond_true]
     exact key _ _
    ·rw [if_neg q2, if_neg q2, oB, cond_true, oB, Bool.not_true, cond_false, show (a.Kind != 1) = true from bne_iff_ne.2 q1, cond_true]
     rfl
theorem z7I (h : MOk x c) (yy : σ → (ze × za) → Option (σ × Bool)) (sg : σ) :
  y7 x (y5 c) yy sg = (uF (yeM yy) (mvs x c) sg).map z5S := by
 unfold y7
 have hpl := h.sys.pl
 rw [Qm x.Parts (by omega) (g := fun p P s => uF (yeM yy) ((uY P.Arcs (stv c p)).flatMap (one x c p)) s) z5S sg ?_ ?_]
 ·rw [Vg (yeM yy) (fun p P => (uY P.Arcs (stv c p)).flatMap (one x c p)) (fun _ _ _ _ => by rw [Nat.zero_add])]
  show Option.bind (Option.map z5S (uF (yeM yy) (mvs x c) sg)) _ = _
  cases uF (yeM yy) (mvs x c) sg <;> rfl
 ·intro p P s hP
  have hp := xI hP
  obtain ⟨h1, h2⟩ := h.stat hP
  have hv := h.sys.part P (List.mem_of_getElem? hP)
  unfold xE wg
  dsimp only
  rw [decide_eq_true (by omega), cond_true, oB]
  rw [z4a hP h2 hv.arcs h.s4 (yeM yy) (one x c p) s (fun e he s' => by
   obtain ⟨k, _, hk, _⟩ := XB.1 he
   exact zcZ h yy hp e.1 (hv.arc e.2 (List.mem_of_getElem? hk)) s')]
  cases uF (yeM yy) ((uY P.Arcs (stv c p)).flatMap (one x c p)) s with
  | none => rfl
  | some r => cases r <;> rfl
 ·intro s
  unfold xE
  dsimp only
  rw [decide_eq_false (by omega), cond_false]
  rfl
end
def dst (c : z8) (p : Nat) (a : zb) : z8 :=
 if a.Kind = 0 then ⟨c.States.set p a.To, c.Queues⟩
 else if a.Kind = 1 then ⟨c.States.set p a.To, c.Queues.set a.Channel.toNat (quv c a ++ [a.Message])⟩
 else ⟨c.States.set p a.To, c.Queues.set a.Channel.toNat (quv c a).tail⟩
def can (x : z6) (c : z8) (a : zb) : Prop :=
 a.Kind = 0 ∨ rmv x a ≠ 0 ∧ (a.Kind = 1 ∧ ((quv c a).length : Int) < rmv x a ∨ a.Kind ≠ 0 ∧ a.Kind ≠ 1 ∧ (quv c a).head? = some a.Message)
def zef (c : z8) (p : Nat) (a : zb) (o : Nat) (b : zb) : z8 := ⟨(c.States.set p a.To).set o b.To, c.Queues⟩
variable {e : ze × z8}
theorem z5P {k : Int}   : e ∈ one x c p (k, a) ↔
  (e = (⟨p, k, -1, -1⟩, dst c p a) ∧ can x c a) ∨ (a.Kind = 1 ∧ rmv x a = 0 ∧ ∃ (o : Nat) (Po : zh) (kk : Nat) (b : zb), o ≠ p ∧ x.Parts[o]? = some Po ∧ Po.Arcs[kk]? = some b ∧ b.From = stv c o ∧ (b.Kind = 2 ∧ b.Channel = a.Channel ∧ b.Message = a.Message) ∧ e = (⟨p, k, o, kk⟩, zef c p a o b)) := by
 have hh : e ∈ z2v x c p k a ↔ ∃ (o : Nat) (Po : zh) (kk : Nat) (b : zb), o ≠ p ∧ x.Parts[o]? = some Po ∧ Po.Arcs[kk]? = some b ∧ b.From = stv c o ∧ (b.Kind = 2 ∧ b.Channel = a.Channel ∧ b.Message = a.Message) ∧ e = (⟨p, k, o, kk⟩, zef c p a o b) := by
  unfold z2v
  rw [Ux]
  constructor
  ·rintro ⟨o, Po, h1, h2⟩
   rw [Nat.zero_add] at h2
   split at h2
   ·simp at h2
   ·rename_i ho
    obtain ⟨kb, h3, h4⟩ := List.mem_flatMap.1 h2
    obtain ⟨kk, h5, h6, h7⟩ := XB.1 h3
    unfold two at h4
    split at h4
    ·rename_i hq
     simp only [List.mem_singleton] at h4
     rw [h5] at h4
     exact ⟨o, Po, kk, kb.2, ho, h1, h6, h7, hq, h4⟩
    ·simp at h4
  ·rintro ⟨o, Po, kk, b, ho, h1, h6, h7, hq, rfl⟩
   refine ⟨o, Po, h1, ?_⟩
   rw [Nat.zero_add, if_neg ho]
   refine List.mem_flatMap.2 ⟨((kk : Int), b), XB.2 ⟨kk, rfl, h6, h7⟩, ?_⟩
   unfold two
   rw [if_pos hq]
   exact List.mem_singleton.2 rfl
 unfold one dst can
 dsimp only
 by_cases q0 : a.Kind = 0
 ·simp [q0]
 ·by_cases q1 : rmv x a = 0
  ·by_cases q2 : a.Kind = 1
   ·rw [if_neg q0, if_pos q1, if_pos q2, hh]
    simp [q1, q2]
   ·simp [q0, q1, q2]
  ·by_cases q2 : a.Kind = 1
   ·by_cases q3 : ((quv c a).length : Int) < rmv x a
    ·simp [q1, q2, q3]
    ·simp [q1, q2, q3]
   ·by_cases q3 : (quv c a).head? = some a.Message
    ·simp [q0, q1, q2, q3]
    ·simp [q0, q1, q2, q3]
theorem z5Q : e ∈ mvs x c ↔
  ∃ (p : Nat) (P : zh) (k : Nat) (a : zb), x.Parts[p]? = some P ∧ P.Arcs[k]? = some a ∧ a.From = stv c p ∧ e ∈ one x c p ((k : Int), a) := by
 unfold mvs
 rw [Ux]
 constructor
 ·rintro ⟨p, P, h1, h2⟩
  rw [Nat.zero_add] at h2
  obtain ⟨e', h3, h4⟩ := List.mem_flatMap.1 h2
  obtain ⟨k, h5, h6, h7⟩ := XB.1 h3
  obtain ⟨k', a⟩ := e'
  simp only at h5 h6 h7
  subst h5
  exact ⟨p, P, k, a, h1, h6, h7, h4⟩
 ·rintro ⟨p, P, k, a, h1, h6, h7, h4⟩
  refine ⟨p, P, h1, ?_⟩
  rw [Nat.zero_add]
  exact List.mem_flatMap.2 ⟨((k : Int), a), XB.2 ⟨k, rfl, h6, h7⟩, h4⟩
theorem z8F (hc : zcc x c)   {t : Int} (hP : x.Parts[p]? = some P) (ht : InR t P.States) : zcc x ⟨c.States.set p t, c.Queues⟩ := by
 refine ⟨by rw [List.length_set]; exact hc.sl, hc.ql, fun i q v h1 h2 => ?_, hc.qu⟩
 dsimp only at h2
 rw [List.getElem?_set] at h2
 split at h2
 ·rename_i hpi
  subst hpi
  split at h2
  ·cases h2
   rw [hP] at h1
   cases h1
   exact ht
  ·cases h2
 ·exact hc.st i q v h1 h2
variable {n : Nat}
theorem zdp (hc : zcc x c)  {q : List Int} (hq : ∀ r, x.Channels[n]? = some r → (q.length : Int) ≤ r ∧ ∀ m ∈ q, InR m x.Messages) : zcc x ⟨c.States, c.Queues.set n q⟩ := by
 refine ⟨hc.sl, by rw [List.length_set]; exact hc.ql, hc.st, fun i q' r h1 h2 => ?_⟩
 dsimp only at h1
 rw [List.getElem?_set] at h1
 split at h1
 ·rename_i hpi
  subst hpi
  split at h1
  ·cases h1
   exact hq r h2
  ·cases h1
 ·exact hc.qu i q' r h1 h2
theorem z8T (h : MOk x c)  (he : e ∈ mvs x c) : MOk x e.2 := by
 refine ⟨h.sys, ?_⟩
 obtain ⟨p, P, k, a, h1, h2, h3, h4⟩ := z5Q.1 he
 have hv := (h.sys.part P (List.mem_of_getElem? h1)).arc a (List.mem_of_getElem? h2)
 have hs := z8F h.cfg h1 hv.to
 rcases z5P.1 h4 with ⟨rfl, hc⟩ | ⟨_, _, o, Po, kk, b, _, h5, h6, _, _, rfl⟩
 ·unfold dst
  dsimp only
  split
  ·exact hs
  ·rename_i q0
   obtain ⟨n, hn, _, e1, e2, hle, _⟩ := h.chan hv q0
   have hqm : ∀ m ∈ quv c a, InR m x.Messages := (h.cfg.qu n _ _ e1 e2).2
   have hnn : a.Channel.toNat = n := by omega
   rw [hnn]
   rcases hc with hc | ⟨_, ⟨q1, q2⟩ | ⟨_, q1, q2⟩⟩
   ·exact absurd hc q0
   ·rw [if_pos q1]
    refine zdp hs (n := n) fun r hr => ?_
    rw [e2] at hr
    cases hr
    refine ⟨by rw [List.length_append, List.length_singleton]; omega, fun m hm => ?_⟩
    rcases List.mem_append.1 hm with hm | hm
    ·exact hqm m hm
    ·rw [List.mem_singleton.1 hm]
     exact (hv.other q0).2
   ·rw [if_neg q1]
    refine zdp hs (n := n) fun r hr => ?_
    rw [e2] at hr
    cases hr
    exact ⟨by rw [List.length_tail]; omega, fun m hm => hqm m (List.mem_of_mem_tail hm)⟩
 ·exact z8F hs h5 ((h.sys.part Po (List.mem_of_getElem? h5)).arc b (List.mem_of_getElem? h6)).to
theorem VS {α β : Type} {f : α → List β} {b : Nat} : ∀ {l : List α}, (∀ x ∈ l, (f x).length ≤ b) → (l.flatMap f).length ≤ l.length * b
 | [], _ => by simp
 | x :: l, h => by
  rw [List.flatMap_cons, List.length_append, List.length_cons, Nat.succ_mul]
  have h1 := h x List.mem_cons_self
  have h2 := VS (f := f) (l := l) (b := b) fun y hy => h y (List.mem_cons_of_mem _ hy)
  omega
theorem z0A {l : List zb}  (h : l.length ≤ 256) : (uY l st).length ≤ 256 := by
 have := UB (f := fun (k : Nat) (a : zb) => if a.From = st then [((k : Int), a)] else []) (l := l) (k := 0) (b := 1) fun i x _ => by split <;> simp
 unfold uY
 omega
theorem z5L (h : z6P x) : (mvs x c).length ≤ 1048576 := by
 have hpl := h.pl.2
 have hh : ∀ p i a, (z2v x c p i a).length ≤ 1024 := by
  intro p i a
  have := UB (f := fun o P => if o = p then [] else (uY P.Arcs (stv c o)).flatMap (two c p i a o)) (l := x.Parts) (k := 0) (b := 256) fun o P hP => by
   split
   ·simp
   ·have h1 := z0A (st := stv c (0 + o)) (h.part P (List.mem_of_getElem? hP)).arcs
    have h2 := VS (f := two c p i a (0 + o)) (l := uY P.Arcs (stv c (0 + o))) (b := 1) fun e _ => by unfold two; split <;> simp
    omega
  unfold z2v
  omega
 have ho : ∀ p e, (one x c p e).length ≤ 1024 := by
  intro p e
  have := hh p e.1 e.2
  unfold one
  split
  ·simp
  ·split
   ·split
    ·exact this
    ·simp
   ·split
    ·split <;> simp
    ·split <;> simp
 have := UB (f := fun p P => (uY P.Arcs (stv c p)).flatMap (one x c p)) (l := x.Parts) (k := 0) (b := 262144) fun p P hP => by
  have h1 := z0A (st := stv c (0 + p)) (h.part P (List.mem_of_getElem? hP)).arcs
  have h2 := VS (f := one x c (0 + p)) (l := uY P.Arcs (stv c (0 + p))) (b := 1024) fun e _ => ho _ e
  omega
 unfold mvs
 omega
def beg (x : z6) : z8 := ⟨List.replicate x.Parts.length 0, List.replicate x.Channels.length []⟩
theorem z93 (h : z6P x) : MOk x (beg x) := by
 refine ⟨h, by simp [beg], by simp [beg], fun i p v hp hv => ?_, fun i q n hq hn => ?_⟩
 ·have := List.mem_of_getElem? hv
  have hv0 : v = 0 := List.eq_of_mem_replicate this
  subst hv0
  exact ⟨Int.le_refl _, by have := (h.part p (List.mem_of_getElem? hp)).lo; omega⟩
 ·have hq0 : q = [] := List.eq_of_mem_replicate (List.mem_of_getElem? hq)
  subst hq0
  exact ⟨(h.ch n (List.mem_of_getElem? hn)).1, fun m hm => by simp at hm⟩
instance decCfg : DecidableEq z8 := fun a b => decidable_of_iff (a.States = b.States ∧ a.Queues = b.Queues) (by cases a; cases b; simp)
def fnd (l : List z8) (c : z8) : Nat := l.findIdx fun y => decide (y = c)
def kR (s : List z8 × List z7) (e : ze × z8) : List z8 × List z7 :=
 (if fnd s.1 e.2 = s.1.length then s.1 ++ [e.2] else s.1, s.2 ++ [⟨e.1, (fnd s.1 e.2 : Nat)⟩])
theorem Kw (l : List (ze × z8)) : ∀ s, (l.foldl kR s).1.length ≤ s.1.length + l.length ∧ (l.foldl kR s).2.length = s.2.length + l.length ∧ s.1.length ≤ (l.foldl kR s).1.length := by
 induction l with
 | nil => intro s; exact ⟨Nat.le_refl _, rfl, Nat.le_refl _⟩
 | cons e l ih =>
  intro s
  obtain ⟨h1, h2, h3⟩ := ih (kR s e)
  have e1 : (kR s e).1.length ≤ s.1.length + 1 ∧ s.1.length ≤ (kR s e).1.length := by
   unfold kR
   dsimp only
   split
   ·rw [List.length_append, List.length_singleton]; omega
   ·omega
  have e2 : (kR s e).2.length = s.2.length + 1 := by
   unfold kR
   dsimp only
   rw [List.length_append, List.length_singleton]
  rw [List.foldl_cons, List.length_cons]
  omega
theorem z68 {P : z8 → Prop} (l : List (ze × z8)) : ∀ s, (∀ c ∈ s.1, P c) → (∀ e ∈ l, P e.2) → ∀ c ∈ (l.foldl kR s).1, P c := by
 induction l with
 | nil => intro s h _; exact h
 | cons e l ih =>
  intro s h he
  refine ih (kR s e) ?_ (fun e' h' => he e' (List.mem_cons_of_mem _ h'))
  intro c hc
  unfold kR at hc
  dsimp only at hc
  split at hc
  ·rcases List.mem_append.1 hc with hc | hc
   ·exact h c hc
   ·rw [List.mem_singleton.1 hc]; exact he e List.mem_cons_self
  ·exact h c hc
section
variable {x : z6}
def z3k (x : z6) (n : Nat) (s : List z8 × List (List z7)) : List z8 × List (List z7) :=
 match s.1[n]? with
 | none => s
 | some c => (((mvs x c).foldl kR (s.1, [])).1, s.2 ++ [((mvs x c).foldl kR (s.1, [])).2])
def wP (x : z6) : Nat → List z8 × List (List z7)
 | 0 => ([beg x], [])
 | n + 1 => z3k x n (wP x n)
theorem z3j (hv : z6P x) : ∀ n, (∀ d ∈ (wP x n).1, MOk x d) ∧ 1 ≤ (wP x n).1.length
 | 0 => ⟨fun d hd => by rw [List.mem_singleton.1 hd]; exact z93 hv, Nat.le_refl _⟩
 | n + 1 => by
  obtain ⟨h1, h2⟩ := z3j hv n
  rw [wP, z3k]
  split
  ·exact ⟨h1, h2⟩
  ·rename_i c hc
   have hco := h1 c (List.mem_of_getElem? hc)
   refine ⟨z68 _ _ h1 fun e he => z8T hco he, ?_⟩
   have := (Kw (mvs x c) ((wP x n).1, [])).2.2
   dsimp only at this ⊢
   omega
end
theorem z1p [BEq α] [LawfulBEq α] (a b : zI α) : (a == b) = true ↔ a = b := by
 cases a; cases b
 show ((_ == _) && (_ == _) && (_ == _) && (_ == _)) = true ↔ _
 simp [and_assoc]
theorem z21 (a b : zg) : (a == b) = true ↔ a = b := by
 cases a; cases b
 show ((_ == _) && (_ == _)) = true ↔ _
 rw [Bool.and_eq_true, z1p]
 simp
instance : LawfulBEq zg := {
 eq_of_beq h := (z21 _ _).1 h
 rfl := (z21 _ _).2 rfl }
theorem Ze (a b : za) : (a == b) = true ↔ a = b := by
 cases a; cases b
 show ((_ == _) && (_ == _)) = true ↔ _
 rw [Bool.and_eq_true, z1p, z1p]
 simp
theorem zbI {V : Type} (l : List (za × V)) (x : za) (v : V) : KS (KR l x v) x = some v := by
 induction l with
 | nil =>
  simp only [KR, KS]
  rw [if_pos ((Ze x x).2 rfl)]
 | cons p l ih =>
  simp only [KR]
  by_cases h : p.1 = x
  ·rw [if_pos ((Ze _ _).2 h)]
   simp only [KS]
   rw [if_pos ((Ze x x).2 rfl)]
  ·rw [if_neg (fun e => h ((Ze _ _).1 e))]
   simp only [KS, ih]
   rw [if_neg (fun e => h ((Ze _ _).1 e))]
theorem zbH {V : Type} (l : List (za × V)) {x y : za} (v : V) (q : x ≠ y) : KS (KR l x v) y = KS l y := by
 induction l with
 | nil =>
  simp only [KR, KS]
  rw [if_neg (fun e => q ((Ze x y).1 e))]
 | cons p l ih =>
  simp only [KR]
  by_cases h : p.1 = x
  ·rw [if_pos ((Ze _ _).2 h)]
   simp only [KS]
   rw [if_neg (fun e => q ((Ze _ _).1 e)), if_neg (fun e => q (h ▸ (Ze _ _).1 e))]
  ·rw [if_neg (fun e => h ((Ze _ _).1 e))]
   simp only [KS, ih]
theorem z7i {a b : z8} (ha : MOk x a) (hb : MOk x b) (h : y5 a = y5 b) : a = b := by
 have h1 := KE ha.cfg.sl ha.cfg.ql ha.sys.pl.2 ha.sys.chl ha.qb
 rw [h, KE hb.cfg.sl hb.cfg.ql hb.sys.pl.2 hb.sys.chl hb.qb] at h1
 exact (Option.some.inj h1).symm
theorem z6b (l : List z8) (c : z8) : fnd l c ≤ l.length := List.findIdx_le_length
theorem z6c (l : List z8) (d c : z8) : fnd (l ++ [d]) c = if fnd l c < l.length then fnd l c else if d = c then l.length else l.length + 1 := by
 unfold fnd
 rw [List.findIdx_append]
 split
 ·rfl
 ·rw [List.findIdx_singleton]
  by_cases q : d = c
  ·simp [q]
  ·simp [q]; omega
def zaQ (x : z6) (L : List z8) (m : List (za × Int)) : Prop :=
 ∀ c, MOk x c → KS m (y5 c) = if fnd L c < L.length then some ((fnd L c : Nat) : Int) else none
variable {L : List z8}
section
variable {x : z6}
theorem z3C {m : List (za × Int)} {d : z8} (hd : MOk x d) (h : zaQ x L m) (hn : fnd L d = L.length) : zaQ x (L ++ [d]) (KR m (y5 d) (L.length : Int)) := by
 intro c hc
 rw [List.length_append, List.length_singleton]
 have hle := z6b L c
 by_cases q : d = c
 ·subst q
  have e : fnd (L ++ [d]) d = L.length := by rw [z6c, if_neg (by omega), if_pos rfl]
  rw [zbI, e, if_pos (by omega)]
 ·rw [zbH _ _ (fun e => q (z7i hd hc e)), h c hc, z6c]
  by_cases q2 : fnd L c < L.length
  ·rw [if_pos q2, if_pos q2, if_pos (by omega)]
  ·rw [if_neg q2, if_neg q2, if_neg q, if_neg (by omega)]
theorem zcY (z : Int) : ∀ (es : List (ze × z8)) (L : List z8) (m : List (za × Int)) (l : List z7), (∀ e ∈ es, MOk x e.2) → zaQ x L m → L.length ≤ 1024 → l.length + es.length ≤ 4294967296 →
  ((es.foldl kR (L, l)).1.length ≤ 1024 ∧ ∃ m', zaQ x (es.foldl kR (L, l)).1 m' ∧ uF (yeM (yOf (fun s (e : ze × za) => zK s.1 s.2.1 s.2.2.1 s.2.2.2 e.1 e.2))) es (.next (z, L.map y5, m, l)) = some (.next (.next (z, (es.foldl kR (L, l)).1.map y5, m', (es.foldl kR (L, l)).2)))) ∨
  (1024 < (es.foldl kR (L, l)).1.length ∧ ∃ r, uF (yeM (yOf (fun s (e : ze × za) => zK s.1 s.2.1 s.2.2.1 s.2.2.2 e.1 e.2))) es (.next (z, L.map y5, m, l)) = some (.done (.done (3, r)))) := by
 intro es
 induction es with
 | nil => intro L m l _ hm hl _; exact .inl ⟨hl, m, hm, rfl⟩
 | cons e es ih =>
  intro L m l he hm hl hb
  have hed := he e List.mem_cons_self
  have hes := fun e' h' => he e' (List.mem_cons_of_mem e h')
  rw [List.length_cons] at hb
  have hg := hm e.2 hed
  have hfl := z6b L e.2
  rw [List.foldl_cons]
  by_cases q : fnd L e.2 < L.length
  ·rw [if_pos q] at hg
   have hst : kR (L, l) e = (L, l ++ [⟨e.1, ((fnd L e.2 : Nat) : Int)⟩]) := by
    unfold kR; dsimp only; rw [if_neg (by omega)]
   have e1 : yeM (yOf (fun s (e : ze × za) => zK s.1 s.2.1 s.2.2.1 s.2.2.2 e.1 e.2)) (.next (z, L.map y5, m, l)) e = some (.next (z, L.map y5, m, l ++ [⟨e.1, ((fnd L e.2 : Nat) : Int)⟩]), true) := by
    unfold yeM yOf zK xq
    dsimp only
    rw [hg, oB, show (some ((fnd L e.2 : Nat) : Int)).isSome = true from rfl, Bool.not_true, cond_false, gdT (by rw [List.length_singleton]; omega)]
    rfl
   rw [uF, e1, oB, cond_true, hst]
   exact ih L m _ hes hm hl (by rw [List.length_append, List.length_singleton]; omega)
  ·rw [if_neg q] at hg
   have hst : kR (L, l) e = (L ++ [e.2], l ++ [⟨e.1, ((L.length : Nat) : Int)⟩]) := by
    unfold kR; dsimp only; rw [if_pos (by omega), show fnd L e.2 = L.length by omega]
   rw [hst]
   by_cases q2 : L.length = 1024
   ·have hlen := (Kw es (L ++ [e.2], l ++ [⟨e.1, ((L.length : Nat) : Int)⟩])).2.2
    dsimp only at hlen
    rw [List.length_append, List.length_singleton] at hlen
    refine .inr ⟨by omega, (L.map y5, m, l), ?_⟩
    have e1 : yeM (yOf (fun s (e : ze × za) => zK s.1 s.2.1 s.2.2.1 s.2.2.2 e.1 e.2)) (.next (z, L.map y5, m, l)) e = some (.done (3, L.map y5, m, l), false) := by
     unfold yeM yOf zK
     dsimp only
     rw [hg, oB, show (none : Option Int).isSome = false from rfl, Bool.not_false, cond_true, List.length_map, q2, show (((1024 : Nat) : Int) == 1024) = true from rfl, cond_true]
    rw [uF, e1, oB, cond_false]
   ·have e1 : yeM (yOf (fun s (e : ze × za) => zK s.1 s.2.1 s.2.2.1 s.2.2.2 e.1 e.2)) (.next (z, L.map y5, m, l)) e = some (.next (z, (L ++ [e.2]).map y5, KR m (y5 e.2) ((L.length : Nat) : Int), l ++ [⟨e.1, ((L.length : Nat) : Int)⟩]), true) := by
     unfold yeM yOf zK xq
     dsimp only
     rw [hg, oB, show (none : Option Int).isSome = false from rfl, Bool.not_false, cond_true, List.length_map, beq_false_of_ne (by omega), cond_false, gdT (by rw [List.length_singleton]; omega), gdT (by rw [List.length_singleton]; omega), List.map_append]
     rfl
    rw [uF, e1, oB, cond_true]
    exact ih _ _ _ hes (z3C hed hm (by omega)) (by rw [List.length_append, List.length_singleton]; omega) (by rw [List.length_append, List.length_singleton]; omega)
theorem z8c (l : List z7) : ya l = some l := by
 unfold ya
 rw [gdT (by omega)]
 simp
theorem z7j : y5 (beg x) = ⟨⟨0, 0, 0, 0⟩, ⟨⟨0, ⟨0, 0, 0, 0⟩⟩, ⟨0, ⟨0, 0, 0, 0⟩⟩, ⟨0, ⟨0, 0, 0, 0⟩⟩, ⟨0, ⟨0, 0, 0, 0⟩⟩⟩⟩ ∨ 4 < x.Parts.length ∨ 4 < x.Channels.length := by
 by_cases h1 : 4 < x.Parts.length
 ·exact .inr (.inl h1)
 ·by_cases h2 : 4 < x.Channels.length
  ·exact .inr (.inr h2)
  ·refine .inl ?_
   unfold y5 beg
   dsimp only
   generalize x.Parts.length = a at h1
   generalize x.Channels.length = b at h2
   have e1 : pad (List.replicate a 0) = ⟨0, 0, 0, 0⟩ := by
    match a, h1 with
    | 0, _ => rfl
    | 1, _ => rfl
    | 2, _ => rfl
    | 3, _ => rfl
    | 4, _ => rfl
    | n + 5, h => omega
   have e2 : za9 (List.replicate b []) = ⟨⟨0, ⟨0, 0, 0, 0⟩⟩, ⟨0, ⟨0, 0, 0, 0⟩⟩, ⟨0, ⟨0, 0, 0, 0⟩⟩, ⟨0, ⟨0, 0, 0, 0⟩⟩⟩ := by
    match b, h2 with
    | 0, _ => rfl
    | 1, _ => rfl
    | 2, _ => rfl
    | 3, _ => rfl
    | 4, _ => rfl
    | n + 5, h => omega
   rw [e1, e2]
theorem z2y (hv : z6P x) :
  (∃ n, y3 x = some ((wP x n).1.map y5, (wP x n).2, 0) ∧ (wP x n).1.length ≤ n ∧ (wP x n).1.length ≤ 1024 ∧ ∀ m, m < n → m < (wP x m).1.length) ∨
  (∃ n, y3 x = some ([], [], 3) ∧ 1024 < (wP x n).1.length ∧ ∀ m, m < n → m < (wP x m).1.length) := by
 unfold y3
 have hb : (⟨⟨0, 0, 0, 0⟩, ⟨⟨0, ⟨0, 0, 0, 0⟩⟩, ⟨0, ⟨0, 0, 0, 0⟩⟩, ⟨0, ⟨0, 0, 0, 0⟩⟩, ⟨0, ⟨0, 0, 0, 0⟩⟩⟩⟩ : za) = y5 (beg x) := by
  rcases z7j (x := x) with h | h | h
  ·exact h.symm
  ·have := hv.pl.2; omega
  ·have := hv.chl; omega
 rw [hb]
 have hinv0 : zaQ x [beg x] (KR ([] : List (za × Int)) (y5 (beg x)) 0) := z3C (L := []) (z93 hv) (fun c hc => rfl) rfl
 have hl : Ret (loop (fun s => xW x s.1 s.2.1 s.2.2.1 s.2.2.2.1 s.2.2.2.2) (0, ([y5 (beg x)] : List za), (KR ([] : List (za × Int)) (y5 (beg x)) 0), ([] : List (List z7)), 0))
   (fun r => (∃ n, r = .inl (0, (wP x n).1.map y5, (wP x n).2) ∧ (wP x n).1.length ≤ n ∧ (wP x n).1.length ≤ 1024 ∧ ∀ m, m < n → m < (wP x m).1.length) ∨ (∃ n, r = .inr ([], [], 3) ∧ 1024 < (wP x n).1.length ∧ ∀ m, m < n → m < (wP x m).1.length)) := by
  refine Uu (fun s => ∃ (n : Nat) (m : List (za × Int)), s = (0, (wP x n).1.map y5, m, (wP x n).2, (n : Int)) ∧ zaQ x (wP x n).1 m ∧ n ≤ 1024 ∧ (wP x n).2.length ≤ n ∧ (wP x n).1.length ≤ 1024 ∧ ∀ m, m < n → m < (wP x m).1.length) (fun s => 1024 - s.2.2.2.2.toNat) ⟨0, _, rfl, hinv0, by omega, Nat.le_refl _, by show 1 ≤ 1024; omega, fun m hm => by omega⟩ (by show 1024 - 0 < _; omega) ?_
  rintro s ⟨n, m, rfl, hinv, hn, hs, hlen, hm⟩
  dsimp only
  unfold xW
  obtain ⟨hok, h1⟩ := z3j hv n
  rw [List.length_map]
  by_cases q : n < (wP x n).1.length
  ·have hc : (wP x n).1[n]? = some (wP x n).1[n] := List.getElem?_eq_getElem q
   have hco := hok _ (List.mem_of_getElem? hc)
   have hg : wP x (n + 1) = (((mvs x (wP x n).1[n]).foldl kR ((wP x n).1, [])).1, (wP x n).2 ++ [((mvs x (wP x n).1[n]).foldl kR ((wP x n).1, [])).2]) := by
    rw [wP, z3k, hc]
   generalize (wP x n).1[n] = c at *
   have hml := z5L (c := c) hv
   have hlt : ∀ m, m < n + 1 → m < (wP x m).1.length := by
    intro m hm'
    rcases Nat.lt_or_ge m n with q3 | q3
    ·exact hm m q3
    ·have : m = n := by omega
     subst this
     exact q
   rw [decide_eq_true (by omega), cond_true, uX (l := (wP x n).1.map y5) (i := n) (x := y5 c) (by rw [List.getElem?_map, hc]; rfl), oB]
   unfold w5
   rw [oB]
   dsimp only
   rw [z7I hco]
   rcases zcY 0 (mvs x c) (wP x n).1 m [] (fun e he => z8T hco he) hinv hlen (by rw [List.length_nil]; omega) with ⟨h2, m', h3, h4⟩ | ⟨h2, r, h4⟩
   ·rw [h4]
    show Ret (xX (wP x n).2 (n : Int) 0 (((mvs x c).foldl kR ((wP x n).1, [])).1.map y5) m' ((mvs x c).foldl kR ((wP x n).1, [])).2) _
    unfold xX wK
    rw [z8c, oB, gdT (by rw [List.length_singleton]; omega), jR (by omega) (by omega)]
    refine wW.2 ⟨⟨n + 1, m', by rw [hg]; rfl, by rw [hg]; exact h3, by omega, by rw [hg]; dsimp only; rw [List.length_append, List.length_singleton]; omega, by rw [hg]; exact h2, hlt⟩, ?_⟩
    show 1024 - ((n : Int) + 1).toNat < 1024 - (n : Int).toNat
    omega
   ·rw [h4]
    refine wW.2 (.inr ⟨n + 1, rfl, by rw [hg]; exact h2, hlt⟩)
  ·rw [decide_eq_false (by omega), cond_false]
   exact wW.2 (.inl ⟨n, rfl, by omega, hlen, hm⟩)
 obtain ⟨r, e, h⟩ := hl
 rw [bdT e]
 rcases h with ⟨n, rfl, h1, h2, h3⟩ | ⟨n, rfl, h1, h2⟩
 ·exact .inl ⟨n, rfl, h1, h2, h3⟩
 ·exact .inr ⟨n, rfl, h1, h2⟩
end
def Vp : List z8 → List (ze × z8) → List z8
 | L, [] => L
 | L, e :: es => Vp (if fnd L e.2 = L.length then L ++ [e.2] else L) es
def Ku : List z8 → List (ze × z8) → List z7
 | L, [] => []
 | L, e :: es => ⟨e.1, (fnd L e.2 : Nat)⟩ :: Ku (if fnd L e.2 = L.length then L ++ [e.2] else L) es
theorem JA : ∀ (es : List (ze × z8)) (L : List z8) (l : List z7), es.foldl kR (L, l) = (Vp L es, l ++ Ku L es)
 | [], L, l => by simp [Vp, Ku]
 | e :: es, L, l => by
  rw [List.foldl_cons, kR, JA es, Vp, Ku, List.append_assoc]
  rfl
section
variable {x : z6}
theorem Kq (hc : (wP x n).1[n]? = some c) : wP x (n + 1) = (Vp (wP x n).1 (mvs x c), (wP x n).2 ++ [Ku (wP x n).1 (mvs x c)]) := by
 rw [wP, z3k, hc]
 dsimp only
 rw [JA, List.nil_append]
theorem z0s (n : Nat) : (wP x n).1.length ≤ (wP x (n + 1)).1.length := by
 rw [wP, z3k]
 split
 ·exact Nat.le_refl _
 ·rename_i c hc
  exact (Kw (mvs x c) ((wP x n).1, [])).2.2
theorem z2w : ∀ n, (∀ m, m < n → m < (wP x m).1.length) → (wP x n).2.length = n
 | 0, _ => rfl
 | n + 1, h => by
  have hn := h n (by omega)
  rw [Kq (List.getElem?_eq_getElem hn), List.length_append, z2w n (fun m hm => h m (by omega))]
  rfl
theorem z8e (l : List z8) : zX l = some l := by
 unfold zX
 rw [gdT (by omega)]
 simp
theorem z5G (h : MOk x c) : yX x (y5 c) = some c := KE h.cfg.sl h.cfg.ql h.sys.pl.2 h.sys.chl h.qb
theorem z65 (hv : z6P x)  {st : List (List z7)} (hok : ∀ c ∈ L, MOk x c) (hl : L.length ≤ 1024) (h : y3 x = some (L.map y5, st, 0)) : xG x = some (L, st, 0) := by
 unfold xG
 rw [z1d hv, oB, bne_self_eq_false, cond_false, h, oB]
 dsimp only
 rw [bne_self_eq_false, cond_false]
 have : loop (fun s => va x (L.map y5, st, 0) s.1 s.2) (([] : List z8), 0) = some L := by
  refine z17 (fun j => (L.take j, (j : Int))) L.length (by omega) (fun j hj => ?_) ?_
  ·have hc : L[j]? = some L[j] := List.getElem?_eq_getElem hj
   have hk := hok _ (List.mem_of_getElem? hc)
   unfold va
   dsimp only
   rw [List.length_map, decide_eq_true (by omega), cond_true, uX (l := L.map y5) (i := j) (x := y5 L[j]) (by rw [List.getElem?_map, hc]; rfl), oB, z5G hk, oB, gdT (by rw [List.length_take, List.length_singleton]; omega), jR (by omega) (by omega), List.take_add_one, hc]
   rfl
  ·unfold va
   dsimp only
   rw [List.length_map, decide_eq_false (by omega), cond_false, List.take_length]
 rw [bdT this]
 unfold jA
 rw [z8e]
 rfl
end
theorem Kt : ∀ (es : List (ze × z8)) (L : List z8), (Ku L es).length = es.length
 | [], _ => rfl
 | e :: es, L => by rw [Ku, List.length_cons, List.length_cons, Kt es]
theorem Vf (hv : z6P x) : ∀ n, ∀ u ∈ (wP x n).2, u.length ≤ 1048576
 | 0, u, h => by simp [wP] at h
 | n + 1, u, h => by
  rw [wP, z3k] at h
  split at h
  ·exact Vf hv n u h
  ·rename_i c hc
   rcases List.mem_append.1 h with h | h
   ·exact Vf hv n u h
   ·rw [List.mem_singleton.1 h, JA, List.nil_append]
    dsimp only
    rw [Kt]
    exact z5L hv
theorem zc6 {l : List α} {a b : α} {j : Nat} (h : l[j]? = some b) : (l ++ [a])[j]? = some b := by
 rw [List.getElem?_append_left (xI h)]; exact h
theorem zaA {l : List α} {a : α} : (l ++ [a])[l.length]? = some a := by
 rw [List.getElem?_append_right (Nat.le_refl _), Nat.sub_self]; rfl
def WV (bad : Nat → Bool) : Nat → Nat → Option Nat
 | 0, _ => none
 | n + 1, i => bif bad i then some i else WV bad n (i + 1)
variable {ρ : Type}
theorem z3f (n : Nat) (hn : n < 4611686018427387904) (bad : Nat → Bool) (r : Nat → ρ) {step : Int → Option (LR Int (Unit ⊕ ρ))} (h : ∀ i : Nat, i < n → step (i : Int) = some (bif bad i then .done (.inr (r i)) else .next (w64 ((i : Int) + 1)))) (h2 : step (n : Int) = some (.done (.inl ()))) :
  loop step 0 = some (oS ((WV bad n 0).map r)) := by
 have gen : ∀ (f k : Nat), k ≤ n → n - k < f → Vo step f (k : Int) = some (oS ((WV bad (n - k) k).map r)) := by
  intro f
  induction f with
  | zero => intro k _ h; omega
  | succ f ih =>
   intro k hk hf
   rw [ZY]
   rcases Nat.lt_or_ge k n with q | q
   ·rw [h k q, show n - k = (n - (k + 1)) + 1 by omega, WV]
    cases bad k with
    | true => rfl
    | false =>
     dsimp only [cond_false]
     rw [jR (by omega) (by omega)]
     exact ih (k + 1) q (by omega)
   ·have : k = n := by omega
    subst this
    rw [h2, Nat.sub_self]
    rfl
 exact gen fuel 0 (Nat.zero_le _) (by show n - 0 < 18446744073709551616; omega)
theorem z3e (n : Nat) (bad : Nat → Bool) (r : Nat → ρ) (hn : n < 4611686018427387904 ∨ ∃ j, j < 4611686018427387904 ∧ j < n ∧ bad j = true) {step : Int → Option (LR Int (Unit ⊕ ρ))} (h : ∀ i : Nat, i < n → i < 4611686018427387904 → step (i : Int) = some (bif bad i then .done (.inr (r i)) else .next (w64 ((i : Int) + 1)))) (h2 : n < 4611686018427387904 → step (n : Int) = some (.done (.inl ()))) :
  loop step 0 = some (oS ((WV bad n 0).map r)) := by
 rcases hn with hn | ⟨j, hj, hjn, hbj⟩
 ·exact z3f n hn bad r (fun i hi => h i hi (by omega)) (h2 hn)
 ·have gen : ∀ (f k : Nat), k ≤ j → j - k < f → Vo step f (k : Int) = some (oS ((WV bad (n - k) k).map r)) := by
   intro f
   induction f with
   | zero => intro k _ h; omega
   | succ f ih =>
    intro k hk hf
    rw [ZY, h k (by omega) (by omega), show n - k = (n - (k + 1)) + 1 by omega, WV]
    cases hbk : bad k with
    | true => rfl
    | false =>
     dsimp only [cond_false]
     rw [jR (by omega) (by omega)]
     have : k ≠ j := fun e => by rw [e, hbj] at hbk; cases hbk
     exact ih (k + 1) (by omega) (by omega)
  exact gen fuel 0 (Nat.zero_le _) (by show j - 0 < 18446744073709551616; omega)
def z36 (l : List Int) (many : Int) (i : Nat) : Bool := match l[i]? with
 | none => false
 | some v => !decide (InR v many) || (decide (0 < i) && match l[i - 1]? with | some u => decide (v ≤ u) | none => false)
def zbs (l : List Int) (many : Int) : Bool := (WV (z36 l many) l.length 0).isNone
theorem Kz {bad : Nat → Bool} : ∀ {n i : Nat}, WV bad n i = none → ∀ j, i ≤ j → j < i + n → bad j = false
 | 0, i, _, j, h1, h2 => by omega
 | n + 1, i, h, j, h1, h2 => by
  rw [WV] at h
  cases hb : bad i with
  | true => rw [hb] at h; cases h
  | false =>
   rw [hb, cond_false] at h
   rcases Nat.lt_or_ge i j with q | q
   ·exact Kz h j q (by omega)
   ·rw [show j = i by omega]; exact hb
theorem z7x (h : zbs l many = true) : Ris l many := by
 unfold zbs at h
 have hn := Option.isNone_iff_eq_none.1 h
 intro i v hv
 have hb := Kz hn i (Nat.zero_le _) (by have := xI hv; omega)
 unfold z36 at hb
 rw [hv] at hb
 simp only [Bool.or_eq_false_iff, Bool.not_eq_false', decide_eq_true_eq] at hb
 refine ⟨hb.1, fun hi => ?_⟩
 have hl := xI hv
 have hu : l[i - 1]? = some (l[i - 1]'(by omega)) := List.getElem?_eq_getElem _
 have h2 := hb.2
 rw [hu] at h2
 simp only [decide_eq_true hi, Bool.true_and, decide_eq_false_iff_not] at h2
 exact ⟨_, hu, by omega⟩
theorem z8N (h : ∀ j, j < l.length → z36 l many j = false) : ∀ (i : Nat) (v : Int), l[i]? = some v → (i : Int) ≤ v ∧ v < many
 | 0, v, hv => by
  have hb := h 0 (xI hv)
  unfold z36 at hb
  rw [hv] at hb
  simp only [Bool.or_eq_false_iff, Bool.not_eq_false', decide_eq_true_eq] at hb
  exact ⟨hb.1.1, hb.1.2⟩
 | i + 1, v, hv => by
  have hl := xI hv
  have hb := h (i + 1) hl
  unfold z36 at hb
  rw [hv] at hb
  have hu : l[i]? = some (l[i]'(by omega)) := List.getElem?_eq_getElem _
  simp only [Bool.or_eq_false_iff, Bool.not_eq_false', decide_eq_true_eq, Nat.add_sub_cancel, hu, Nat.succ_pos, decide_true, Bool.true_and, decide_eq_false_iff_not] at hb
  have := (z8N h i _ hu).1
  exact ⟨by omega, hb.1.2⟩
theorem z9Y (hm : many ≤ 64) : l.length < 4611686018427387904 ∨ ∃ j, j < 4611686018427387904 ∧ j < l.length ∧ z36 l many j = true := by
 rcases Nat.lt_or_ge l.length 4611686018427387904 with q | q
 ·exact .inl q
 ·refine .inr ?_
  have hex : ∃ j, j < 65 ∧ z36 l many j = true := by
   by_cases hc : ∃ j, j < 65 ∧ z36 l many j = true
   ·exact hc
   ·exfalso
    have hall : ∀ j, j < 65 → z36 l many j = false := fun j hj => by
     cases hb : z36 l many j with
     | false => rfl
     | true => exact absurd ⟨j, hj, hb⟩ hc
    have h2 : ∀ j, j < (l.take 65).length → z36 (l.take 65) many j = false := by
     intro j hj
     rw [List.length_take] at hj
     have := hall j (by omega)
     unfold z36 at this ⊢
     rw [List.getElem?_take_of_lt (by omega), List.getElem?_take_of_lt (by omega)]
     exact this
    have hv : (l.take 65)[64]? = some (l[64]'(by omega)) := by
     rw [List.getElem?_take_of_lt (by omega)]
     exact List.getElem?_eq_getElem _
    have := z8N h2 64 _ hv
    omega
  obtain ⟨j, h1, h2⟩ := hex
  exact ⟨j, by omega, by omega, h2⟩
theorem z4v (hm : l.length < 4611686018427387904 ∨ many ≤ 64) : wO l many = some (zbs l many) := by
 unfold wO
 rw [bdT (z3e l.length (z36 l many) (fun _ => false) (hm.elim .inl z9Y) ?_ ?_)]
 ·unfold zbs
  cases WV (z36 l many) l.length 0 <;> rfl
 ·intro i hi hb
  have hv : l[i]? = some l[i] := List.getElem?_eq_getElem hi
  generalize l[i] = v at hv
  unfold wf vP z36
  rw [decide_eq_true (by omega), cond_true, uX hv, oB, z3h, oB, hv]
  dsimp only
  cases decide (InR v many) with
  | false => rfl
  | true =>
   rw [Bool.not_true, cond_false, Bool.false_or]
   by_cases q : 0 < i
   ·have hu : l[i - 1]? = some (l[i - 1]'(by omega)) := List.getElem?_eq_getElem _
    generalize l[i - 1]'(by omega) = u at hu
    rw [decide_eq_true (show (i : Int) > 0 by omega), cond_true, jR (x := (i : Int) - 1) (by omega) (by omega), show (i : Int) - 1 = ((i - 1 : Nat) : Int) by omega, uX hu, oB, hu, decide_eq_true q, Bool.true_and]
    dsimp only
    cases decide (v ≤ u) <;> rfl
   ·rw [decide_eq_false (by omega), cond_false, decide_eq_false q, Bool.false_and]
    rfl
 ·intro hl
  unfold wf
  rw [decide_eq_false (by omega), cond_false]
def aLt (a b : zf) : Prop := a.Kind < b.Kind ∨ a.Kind = b.Kind ∧ (a.Label < b.Label ∨ a.Label = b.Label ∧ a.To < b.To)
instance (a b : zf) : Decidable (aLt a b) := by unfold aLt; infer_instance
def ac (a b : zf) : Int := if aLt a b then -1 else if aLt b a then 1 else 0
theorem z6G {a b : zf} (h : ¬aLt b a) : aLt a b ∨ a = b := by
 obtain ⟨a1, a2, a3⟩ := a
 obtain ⟨b1, b2, b3⟩ := b
 unfold aLt at h ⊢
 simp only [zf.mk.injEq] at h ⊢
 omega
theorem KN {a b c : zf} (h1 : aLt a b) (h2 : aLt b c) : aLt a c := by
 unfold aLt at *
 omega
theorem z6H {a : zf} : ¬aLt a a := by
 unfold aLt
 omega
def sg (a b : Int) : Int := if a < b then -1 else if b < a then 1 else 0
theorem z6q (a b : Int) : u0 a b = some (sg a b) := by
 unfold u0 vt sg
 rw [bne_self_eq_false, bne_self_eq_false, oB, oB, cond_false, cond_false]
 by_cases h : a < b
 ·rw [decide_eq_true h, if_pos h]; rfl
 ·rw [decide_eq_false h, if_neg h, cond_false]
  by_cases h2 : b < a
  ·rw [decide_eq_true (show a > b from h2), if_pos h2]; rfl
  ·rw [decide_eq_false (show ¬a > b from h2), if_neg h2]; rfl
theorem zas (a b : Int) : vZ a b = some (sg a b) := by
 unfold vZ qB sg
 rw [bne_self_eq_false, bne_self_eq_false, oB, oB, cond_false, cond_false]
 by_cases h : a < b
 ·rw [decide_eq_true h, if_pos h]; rfl
 ·rw [decide_eq_false h, if_neg h, cond_false]
  by_cases h2 : b < a
  ·rw [decide_eq_true (show a > b from h2), if_pos h2]; rfl
  ·rw [decide_eq_false (show ¬a > b from h2), if_neg h2]; rfl
theorem zbD (a b c : Int) : XF [a, b, c] = some (if a ≠ 0 then a else if b ≠ 0 then b else c) := by
 unfold XF
 rw [bdT (Kh [a, b, c] (by simp) (fun _ v => if v ≠ 0 then some v else none) ?_ ?_)]
 ·simp only [Wo]
  by_cases h1 : a ≠ 0
  ·rw [if_pos h1, if_pos h1]; rfl
  ·rw [if_neg h1, if_neg h1]
   by_cases h2 : b ≠ 0
   ·rw [if_pos h2, if_pos h2]; rfl
   ·rw [if_neg h2, if_neg h2]
    by_cases h3 : c ≠ 0
    ·rw [if_pos h3]; rfl
    ·rw [if_neg h3, show c = 0 by omega]; rfl
 ·intro i v hv
  have hi := xI hv
  unfold kS
  rw [decide_eq_true (by omega), cond_true, uX hv, oB]
  by_cases h : v ≠ 0
  ·rw [show (v != 0) = true from bne_iff_ne.2 h, cond_true, if_pos h]; rfl
  ·rw [show v = 0 by omega]; rfl
 ·unfold kS
  rw [decide_eq_false (by omega), cond_false]
theorem z3Q (a b : zf) : xN a b = some (ac a b) := by
 unfold xN
 rw [zas, oB, z6q, oB, z6q, oB, zbD, oB]
 congr 1
 unfold ac aLt sg
 repeat' split
 all_goals omega
theorem z8x {a b : zf} : ac a b < 0 ↔ aLt a b := by
 unfold ac
 split
 ·rename_i h; exact ⟨fun _ => h, fun _ => by omega⟩
 ·rename_i h
  split <;> exact ⟨fun q => by omega, fun q => absurd q h⟩
theorem zc9 (l : List zf) : SOk ac l := by
 refine ⟨fun x _ => ?_, fun x _ y _ z _ h1 h2 => ?_, fun x _ y _ h1 h2 => ?_⟩
 ·rw [z8x]; exact z6H
 ·rw [z8x] at *; exact KN h1 h2
 ·rw [z8x] at h1 h2
  rcases z6G h2 with h | h
  ·exact absurd h h1
  ·exact h
theorem z4Y (l : List zf) (h : l.length ≤ 4294967296) : ∃ s, z4Z (fun x y => xN x y) l = some s ∧ s.Perm l ∧ s.Pairwise (fun a b => ¬aLt b a) := by
 have e : (fun x y => (xN x y).getD 0) = ac := by
  funext x y
  rw [z3Q]
  rfl
 refine ⟨z03 ac l, ?_, Y0 _ _, ?_⟩
 ·unfold z4Z
  rw [gdT ⟨h, fun x _ y _ => by show (xN x y).isSome = true; rw [z3Q]; rfl⟩, gdT (by rw [e]; exact zc9 l), e]
 ·have := WS (zc9 l) (l := l) (fun y hy => hy)
  exact this.imp fun {a b} h q => h (z8x.2 q)
theorem z1s (a b : zf) : ((a.Kind == b.Kind) && ((a.Label == b.Label) && ((a.To == b.To) && true))) = true ↔ a = b := by
 obtain ⟨a1, a2, a3⟩ := a
 obtain ⟨b1, b2, b3⟩ := b
 simp
theorem WZ {l : List α}  {y : α} : y ∈ l.take n ↔ ∃ i, i < n ∧ l[i]? = some y := by
 constructor
 ·intro h
  obtain ⟨i, hi⟩ := List.mem_iff_getElem?.1 h
  have hl := xI hi
  rw [List.length_take] at hl
  rw [List.getElem?_take_of_lt (by omega)] at hi
  exact ⟨i, by omega, hi⟩
 ·rintro ⟨i, h1, h2⟩
  exact List.mem_iff_getElem?.2 ⟨i, by rw [List.getElem?_take_of_lt h1]; exact h2⟩
variable {s : List zf}
theorem z7F (h : s.Pairwise (fun a b => ¬aLt b a)) {i j : Nat} {a b : zf} (ha : s[i]? = some a) (hb : s[j]? = some b) (hij : i < j) : aLt a b ∨ a = b := by
 have := (List.pairwise_iff_getElem.1 h) i j (xI ha) (xI hb) hij
 rw [(List.getElem?_eq_some_iff.1 ha).2, (List.getElem?_eq_some_iff.1 hb).2] at this
 exact z6G this
theorem z5t {l : List zf} {a : zf} (h : l.Pairwise aLt) (ha : ∀ y ∈ l, aLt y a) : (l ++ [a]).Pairwise aLt :=
 List.pairwise_append.2 ⟨h, List.pairwise_singleton _ _, fun y hy z hz => by rw [List.mem_singleton.1 hz]; exact ha y hy⟩
def z08 (s t : List zf) : Prop := t.Pairwise aLt ∧ ∀ y, y ∈ t ↔ y ∈ s
theorem z2I (hq : s.Pairwise (fun a b => ¬aLt b a)) (hl : s.length ≤ 4294967296) {k : Nat} (h1 : 1 ≤ k) (hk : k < s.length) (hd : s[k]? = s[k - 1]?) (hs : (s.take k).Pairwise aLt) :
  Ret (Option.bind (loop (fun q => zU (k : Int) q.1 q.2.1 q.2.2) (s, (k : Int), 1)) fun t => zW t.1 t.2) fun r => ∃ t, r = .done (.inr t) ∧ z08 s t := by
 rw [z3K]
 refine Ret.mono (Uu (fun q => ∃ kk k2 : Nat, q.2.1 = (kk : Int) ∧ q.2.2 = (k2 : Int) ∧ 1 ≤ k2 ∧ k + k2 ≤ s.length ∧ kk < k + k2 ∧ q.1.length = s.length ∧ (∀ i, kk ≤ i → q.1[i]? = s[i]?) ∧ (q.1.take kk).Pairwise aLt ∧ ∀ x, x ∈ q.1.take kk ↔ x ∈ s.take (k + k2)) (fun q => s.length - q.2.2.toNat) (R := fun t => ∃ kk : Nat, t.2 = (kk : Int) ∧ kk ≤ s.length ∧ t.1.length = s.length ∧ z08 s (t.1.take kk)) ?_ ?_ ?_) ?_
 ·refine ⟨k, 1, rfl, rfl, Nat.le_refl _, hk, by omega, rfl, fun _ _ => rfl, hs, fun x => ?_⟩
  rw [WZ, WZ]
  constructor
  ·rintro ⟨i, h2, h3⟩; exact ⟨i, by omega, h3⟩
  ·rintro ⟨i, h2, h3⟩
   rcases Nat.lt_or_ge i k with h | h
   ·exact ⟨i, h, h3⟩
   ·have : i = k := by omega
    subst this
    exact ⟨i - 1, by omega, by rw [← hd]; exact h3⟩
 ·show s.length - _ < _
  omega
 ·rintro ⟨S, a, b⟩ ⟨kk, k2, rfl, rfl, g1, g2, g3, g4, g5, g6, g7⟩
  simp only at g4 g5 g6 g7
  show Ret (zU (k : Int) S (kk : Int) (k2 : Int)) _
  unfold zU
  rw [za0]
  refine ⟨fun hc => ?_, fun hc => ?_⟩
  ·have hlt : k2 < s.length - k := by rw [g4] at hc; simpa using hc
   have e1 : s[k + k2]? = some s[k + k2] := List.getElem?_eq_getElem (by omega)
   have e2 : s[k + k2 - 1]? = some s[k + k2 - 1] := List.getElem?_eq_getElem (by omega)
   have f1 : idx S ((k : Int) + (k2 : Int)) = some s[k + k2] := by
    rw [← Int.natCast_add, z3i, g5 _ (by omega), e1]
   have f2 : idx S ((k : Int) + w64 ((k2 : Int) - 1)) = some s[k + k2 - 1] := by
    rw [jR (by omega) (by omega), show (k : Int) + ((k2 : Int) - 1) = ((k + k2 - 1 : Nat) : Int) by omega, z3i, g5 _ (by omega), e2]
   rw [gdT (by omega), f1, oB, gdT (by rw [jR (by omega) (by omega)]; omega), f2, oB]
   have hk2 : w64 ((k2 : Int) + 1) = ((k2 + 1 : Nat) : Int) := by rw [jR (by omega) (by omega)]; omega
   generalize s[k + k2] = y at e1 f1
   generalize s[k + k2 - 1] = z at e2
   by_cases he : y = z
   ·rw [(z1s y z).2 he, Bool.not_true, cond_false]
    unfold zV
    rw [hk2, wW]
    refine ⟨⟨kk, k2 + 1, rfl, rfl, by omega, by omega, by omega, g4, g5, g6, fun x => ?_⟩, by simp only [Int.toNat_natCast]; omega⟩
    rw [g7, WZ, WZ]
    constructor
    ·rintro ⟨i, h2, h3⟩; exact ⟨i, by omega, h3⟩
    ·rintro ⟨i, h2, h3⟩
     rcases Nat.lt_or_ge i (k + k2) with h | h
     ·exact ⟨i, h, h3⟩
     ·have : i = k + k2 := by omega
      subst this
      exact ⟨k + k2 - 1, by omega, by rw [e2, ← he, ← e1]; exact h3⟩
   ·rw [Bool.eq_false_iff.2 (fun h => he ((z1s y z).1 h)), Bool.not_false, cond_true, gdT (by omega), oB]
    have e3 : idx S (kk : Int) = some s[kk] := by rw [z3i, g5 _ (Nat.le_refl _), List.getElem?_eq_getElem (by omega)]
    rw [e3, oB]
    unfold zV
    rw [hk2, jR (x := (kk : Int) + 1) (by omega) (by omega), wW]
    have hset : (S.set ((kk : Int).toNat) y).take (kk + 1) = S.take kk ++ [y] := by
     rw [Int.toNat_natCast, List.take_add_one, List.take_set_of_le (Nat.le_refl _), List.getElem?_set_self (by omega)]
     rfl
    refine ⟨⟨kk + 1, k2 + 1, rfl, rfl, by omega, by omega, by omega, by simp [g4], fun i hi => ?_, ?_, fun x => ?_⟩, by simp only [Int.toNat_natCast]; omega⟩
    ·simp only
     rw [List.getElem?_set_ne (by omega), g5 _ (by omega)]
    ·simp only
     rw [hset]
     refine z5t g6 fun w hw => ?_
     obtain ⟨i, h2, h3⟩ := WZ.1 ((g7 w).1 hw)
     have hlast : aLt z y := by
      rcases z7F hq e2 e1 (by omega) with q | q
      ·exact q
      ·exact absurd q.symm he
     rcases Nat.lt_or_ge i (k + k2 - 1) with q0 | q0
     ·rcases z7F hq h3 e2 q0 with q | q
      ·exact KN q hlast
      ·rw [q]; exact hlast
     ·rw [show i = k + k2 - 1 by omega, e2] at h3
      cases h3
      exact hlast
    ·simp only
     rw [hset, List.mem_append, g7, WZ, WZ]
     constructor
     ·rintro (⟨i, h2, h3⟩ | h)
      ·exact ⟨i, by omega, h3⟩
      ·simp at h; subst h; exact ⟨k + k2, by omega, e1⟩
     ·rintro ⟨i, h2, h3⟩
      rcases Nat.lt_or_ge i (k + k2) with h | h
      ·exact .inl ⟨i, h, h3⟩
      ·have : i = k + k2 := by omega
       subst this
       rw [e1] at h3
       exact .inr (by simpa using h3.symm)
  ·have hge : s.length - k ≤ k2 := by rw [g4] at hc; simpa using hc
   have hkk : k + k2 = s.length := by omega
   rw [wW]
   refine ⟨kk, rfl, by omega, g4, g6, fun x => ?_⟩
   rw [g7, hkk, List.take_length]
 ·rintro ⟨S, a⟩ ⟨kk, rfl, h1, h2, h3⟩
  simp only at h2 h3
  show Ret (zW S (kk : Int)) _
  unfold zW
  have hlen : (S.take (kk : Int).toNat ++ List.replicate (S.length - (kk : Int).toNat) (zf.mk 0 0 0)).length = S.length := by simp [List.length_take]; omega
  rw [gdT (by omega), gdT (by omega), gdT (by rw [hlen]; omega), wW]
  refine ⟨_, rfl, ?_⟩
  rw [Int.toNat_natCast, List.take_left' (by rw [List.length_take]; omega)]
  exact h3
theorem z3q (hq : s.Pairwise (fun a b => ¬aLt b a)) (hl : s.length ≤ 4294967296) : ∃ t, yh s = some t ∧ z08 s t := by
 unfold yh
 by_cases h2 : s.length < 2
 ·rw [decide_eq_true (by omega), cond_true]
  refine ⟨s, rfl, ?_, fun _ => Iff.rfl⟩
  match s, h2 with
  | [], _ => exact List.Pairwise.nil
  | [x], _ => exact List.pairwise_singleton _ _
 ·rw [decide_eq_false (by omega), cond_false]
  have : Ret (loop (fun z => y9 s z) 1) (fun t : Unit ⊕ List zf => match t with | .inl _ => s.Pairwise aLt | .inr p => z08 s p) := by
   refine Uu (fun q : Int => ∃ j : Nat, q = (j : Int) ∧ 1 ≤ j ∧ j ≤ s.length ∧ (s.take j).Pairwise aLt) (fun q => s.length - q.toNat) ⟨1, rfl, Nat.le_refl _, by omega, ?_⟩ (by show s.length - _ < _; omega) ?_
   ·match s, h2 with
    | [], h2 => simp at h2
    | x :: l, _ => exact List.pairwise_singleton _ _
   ·rintro _ ⟨j, rfl, g1, g2, g3⟩
    unfold y9
    by_cases hj : j < s.length
    ·have e1 : s[j]? = some s[j] := List.getElem?_eq_getElem hj
     have e2 : s[j - 1]? = some s[j - 1] := List.getElem?_eq_getElem (by omega)
     rw [decide_eq_true (by omega), cond_true, jR (x := (j : Int) - 1) (by omega) (by omega), show (j : Int) - 1 = ((j - 1 : Nat) : Int) by omega, uX e1, oB, uX e2, oB]
     generalize s[j] = y at e1
     generalize s[j - 1] = z at e2
     by_cases he : y = z
     ·rw [(z1s y z).2 he, cond_true, gdT (by omega)]
      refine (z2I hq hl g1 hj (by rw [e1, e2, he]) g3).mono ?_
      rintro _ ⟨t, rfl, ht⟩
      exact ht
     ·rw [Bool.eq_false_iff.2 (fun h => he ((z1s y z).1 h)), cond_false]
      unfold yx
      rw [jR (by omega) (by omega), wW]
      refine ⟨⟨j + 1, rfl, by omega, hj, ?_⟩, by show s.length - ((j : Int) + 1).toNat < s.length - (j : Int).toNat; omega⟩
      have : s.take (j + 1) = s.take j ++ [y] := by rw [List.take_add_one, e1]; rfl
      rw [this]
      refine z5t g3 fun w hw => ?_
      obtain ⟨i, h3, h4⟩ := WZ.1 hw
      have hlast : aLt z y := by
       rcases z7F hq e2 e1 (by omega) with q | q
       ·exact q
       ·exact absurd q.symm he
      rcases Nat.lt_or_ge i (j - 1) with q0 | q0
      ·rcases z7F hq h4 e2 q0 with q | q
       ·exact KN q hlast
       ·rw [q]; exact hlast
      ·rw [show i = j - 1 by omega, e2] at h4
       cases h4
       exact hlast
    ·rw [decide_eq_false (by omega), cond_false]
     refine wW.2 ?_
     rw [show j = s.length by omega, List.take_length] at g3
     exact g3
  obtain ⟨t, e, ht⟩ := this
  rw [bdT e]
  cases t with
  | inl _ => exact ⟨s, rfl, ht, fun _ => Iff.rfl⟩
  | inr p => exact ⟨p, rfl, ht⟩
end Go.Own
end
