/- Walks, further. -/
import Derived.Test.YtlejgipmepemjaaPartF
import Derived.Test.YtlejgipmepemjaaPartC
import Derived.Test.YtlejgipmepemjaaPartE
import Derived.Test.YtlejgipmepemjaaPartB
import Derived.OpenShut
import Derived.ChangeShapes
import Derived.WalkKit
import Derived.ProofKit
import Derived.Carry
import Derived.Test.YtlejgipmepemjaaRows
import Derived.Test.YtlejgipmepemjaaChecked
set_option linter.unusedVariables false
set_option linter.unusedSimpArgs false
namespace Go.Own
open Go.Proofs
set_option linter.unusedVariables false
set_option maxRecDepth 100000
set_option maxHeartbeats 8000000
noncomputable def bd_tries_tree : Code := (Try.f65.body).getD .skip
noncomputable def sp_tries_tree : Spec := spF (α := S_tries_Trie) (ρ := Bool) 65 (fun x => [F22_ x]) (fun r => eB r) (fun x => tries_tree x) [] (by
 rintro a0 b0 h
 have e0 := EncI.inj (f := F22_) _ _ (List.cons.inj h).1
 subst e0
 rfl)
abbrev ST_tries_tree_J1 : List (Nat × T) := []
abbrev ST_tries_tree_J3 (t_ : S_tries_Trie) (x15 : Int) (seen1 : List Bool) (x31 : List Int) (x32 : Int) (x35 : Bool) : List (Nat × T) := [(1, .own (.box (F22_ t_))), (3, .own (eOs 1 true eB seen1)), (13, .d (eSl 2 false F12_ t_.Nodes)), (14, .d (I ((t_.Nodes.length : Nat) : Int))), (15, .d (I x15)), (31, .d (eSl 1 false (eI .i64) x31)), (32, .d (I x32)), (34, .d (I t_.Inputs)), (35, .d (B x35))]
abbrev ST_tries_tree_J6 (t_ : S_tries_Trie) (x15 : Int) (Node_e : S_tries_Node) (x40 : Int) (seen3 : List Bool) : List (Nat × T) := [(1, .own (.box (F22_ t_))), (3, .own (eOs 1 true eB seen3)), (4, .d (I x15)), (13, .d (eSl 2 false F12_ t_.Nodes)), (14, .d (I ((t_.Nodes.length : Nat) : Int))), (15, .d (I x15)), (31, .d (eSl 1 false (eI .i64) Node_e.Next)), (32, .d (I ((Node_e.Next.length : Nat) : Int))), (34, .d (I t_.Inputs)), (35, .d (B (((Node_e.Next.length : Nat) : Int) != t_.Inputs))), (38, .d (eSl 1 false (eI .i64) Node_e.Next)), (39, .d (I ((Node_e.Next.length : Nat) : Int))), (40, .d (I x40))]
abbrev ST_tries_tree_L5 (t_ : S_tries_Trie) (x15 : Int) (Node_e : S_tries_Node) (seen2 : List Bool) (x40 : Int) : List (Nat × T) := [(1, .own (.box (F22_ t_))), (3, .own (eOs 1 true eB seen2)), (4, .d (I x15)), (13, .d (eSl 2 false F12_ t_.Nodes)), (14, .d (I ((t_.Nodes.length : Nat) : Int))), (15, .d (I x15)), (31, .d (eSl 1 false (eI .i64) Node_e.Next)), (32, .d (I ((Node_e.Next.length : Nat) : Int))), (34, .d (I t_.Inputs)), (35, .d (B (((Node_e.Next.length : Nat) : Int) != t_.Inputs))), (38, .d (eSl 1 false (eI .i64) Node_e.Next)), (39, .d (I ((Node_e.Next.length : Nat) : Int))), (40, .d (I x40))]
abbrev ST_tries_tree_J4 (t_ : S_tries_Trie) (seen : List Bool) (x15 : Int) (Node_e : S_tries_Node) : List (Nat × T) := [(1, .own (.box (F22_ t_))), (3, .own (eOs 1 true eB seen)), (4, .d (I x15)), (5, .own (.box (F12_ Node_e))), (13, .d (eSl 2 false F12_ t_.Nodes)), (14, .d (I ((t_.Nodes.length : Nat) : Int))), (15, .d (I x15)), (31, .d (eSl 1 false (eI .i64) Node_e.Next)), (32, .d (I ((Node_e.Next.length : Nat) : Int))), (34, .d (I t_.Inputs)), (35, .d (B (((Node_e.Next.length : Nat) : Int) != t_.Inputs)))]
abbrev ST_tries_tree_L2 (t_ : S_tries_Trie) (seen : List Bool) (x15 : Int) : List (Nat × T) := [(1, .own (.box (F22_ t_))), (3, .own (eOs 1 true eB seen)), (13, .d (eSl 2 false F12_ t_.Nodes)), (14, .d (I ((t_.Nodes.length : Nat) : Int))), (15, .d (I x15))]
theorem w_tries_tree {ctr : Ctr} (hC : CtrOk Try.prog ctr) (hm : Try.prog.follows .mixedOrders = true) : sp_tries_tree.Ok Try.prog := by
 refine spF_ok ?_
 rintro t_ r0 hf0
 try unfold tries_tree at hf0
 refine callOk_h (tt := TTab) (keep := true) (rs := [(2, none)]) (n := ⟨67, []⟩) (body := bd_tries_tree) TTab_ok Try.func65 rfl (by kernel_rfl) rfl rfl (by show (1 : Nat) ≤ 67; decide) fun E hE => ?_
 have o0 := lnM F12_ t_.Nodes
 obtain ⟨g0, hf0⟩ := gdE hf0
 have o1 := rM 1 eB ((t_.Nodes.length : Nat) : Int) false
 refine awpAt X0 TTab_ok hC hm [1,3] 4000 [aLn t_.Nodes.length, .a (eOs 1 true eB (List.replicate ((t_.Nodes.length : Nat) : Int).toNat false)), .cut 0] (sub [1,1] bd_tries_tree) (frs [1,1] [] bd_tries_tree []) [(1, .own (.box (F22_ t_))), (3, .own (eOs 1 true eB (List.replicate ((t_.Nodes.length : Nat) : Int).toNat false)))] [ob o0, ob (rL g0), ob o1] (by kernel_rfl) fun st0 h0 => ?_
 refine awpJoin' (X := Unit) (x := (sub [1,1,2] bd_tries_tree)) (y := (sub [1,1,1] bd_tries_tree)) (by kernel_rfl) [] [1,3] _ h0 (fun z => tries_tree_J1 = some r0) (fun z => ST_tries_tree_J1) ?_ fun J1 hJ1 => ?_
 ·rintro ⟨⟩ hf0
  unfold tries_tree_J1 at hf0
  obtain rfl := someE hf0
  exact awpEnd X0 TTab_ok hC hm hE 4000 (hs := []) (x := (B true)) [] (by kernel_rfl) (LeV.refl _)
 ·have o2 := lnM F12_ t_.Nodes
  obtain ⟨t2, ht2, hf0⟩ := bindE hf0
  refine awpAt X0 TTab_ok hC hm [1,3,13,14,15] 4000 [aLn t_.Nodes.length] (sub [1,1,2,1,0] bd_tries_tree) (frs [1,1,2,1,0] [J1] bd_tries_tree []) [(1, .own (.box (F22_ t_))), (3, .own (eOs 1 true eB (List.replicate ((t_.Nodes.length : Nat) : Int).toNat false))), (13, .d (eSl 2 false F12_ t_.Nodes)), (14, .d (I ((t_.Nodes.length : Nat) : Int))), (15, .d (I 0))] [ob o2] (by kernel_rfl) fun st0 h0 => ?_
  refine awpLoop' (X := (List Bool × Int) × Nat) (c' := (sub [1,1,2,1,0,0] bd_tries_tree)) (by kernel_rfl) [1,3,13,14,15] (fun x => loopN (fun s => tries_tree_L2 t_ s.1 s.2) x.2 x.1 = some t2) (fun x => x.2) (fun x => ST_tries_tree_L2 t_ x.1.1 x.1.2) (((List.replicate ((t_.Nodes.length : Nat) : Int).toNat false), 0), fuel) _ h0 inferInstance ht2 ?_
  rintro ⟨⟨seen, x15⟩, n2⟩ hn2 J2 hJ2
  obtain ⟨m2, lr1, rfl, hf1, hl1⟩ := loopE hn2
  try unfold tries_tree_L2 at hf1
  rcases bifE hf1 with ⟨c0, hf1⟩ | ⟨c0, hf1⟩
  ·refine awpAt X0 TTab_ok hC hm [1,3,13,14,15] 4000 [bT, .cut 0] (sub [1,1,2,1,0,0,1,1] bd_tries_tree) (frs [1,1,2,1,0,0,1,1] [J1, J2] bd_tries_tree []) [(1, .own (.box (F22_ t_))), (3, .own (eOs 1 true eB seen)), (13, .d (eSl 2 false F12_ t_.Nodes)), (14, .d (I ((t_.Nodes.length : Nat) : Int))), (15, .d (I x15))] [ob c0] (by kernel_rfl) fun st0 h0 => ?_
   refine awpJoin' (X := List Bool × List Int × Int × Bool) (x := (sub [1,1,2,1,0,0,1,1,2] bd_tries_tree)) (y := (sub [1,1,2,1,0,0,1,1,1] bd_tries_tree)) (by kernel_rfl) [1,3,13,14,15,31,32,34,35] [1,3,13,14,15] _ h0 (fun z => tries_tree_J3 x15 z.1 z.2.1 z.2.2.1 z.2.2.2 = some lr1) (fun z => ST_tries_tree_J3 t_ x15 z.1 z.2.1 z.2.2.1 z.2.2.2) ?_ fun J3 hJ3 => ?_
   ·rintro ⟨seen1, x31, x32, x35⟩ hf1
    unfold tries_tree_J3 at hf1
    obtain rfl := someE hf1
    exact awpBack X0 TTab_ok hC hm [1,3,13,14,15] 4000 [] J2 [(1, .own (.box (F22_ t_))), (3, .own (eOs 1 true eB seen1)), (13, .d (eSl 2 false F12_ t_.Nodes)), (14, .d (I ((t_.Nodes.length : Nat) : Int))), (15, .d (I (w64 (x15 + 1))))] [] (by kernel_rfl) fun st0 h0 => hJ2 st0 _ ((seen1, w64 (x15 + 1)), m2) hl1 (Nat.lt_succ_self m2) h0 inferInstance
   ·obtain ⟨Node_e, h0, hf1⟩ := bindE hf1
    have o3 := iM F12_ h0
    refine awpAt X0 TTab_ok hC hm [1,3,4,5,13,14,15] 4000 [.a (F12_ Node_e), .cut 0] (sub [1,1,2,1,0,0,1,1,2,0,1] bd_tries_tree) (frs [1,1,2,1,0,0,1,1,2,0,1] [J1, J2, J3] bd_tries_tree []) [(1, .own (.box (F22_ t_))), (3, .own (eOs 1 true eB seen)), (4, .d (I x15)), (5, .own (.box (F12_ Node_e))), (13, .d (eSl 2 false F12_ t_.Nodes)), (14, .d (I ((t_.Nodes.length : Nat) : Int))), (15, .d (I x15))] [ob (i0 h0), ob o3] (by kernel_rfl) fun st0 h0 => ?_
    refine awpJoin' (X := Unit) (x := (sub [1,1,2,1,0,0,1,1,2,0,1,2] bd_tries_tree)) (y := (sub [1,1,2,1,0,0,1,1,2,0,1,1] bd_tries_tree)) (by kernel_rfl) [1,3,4,5,13,14,15,31,32,34,35] [1,3,4,5,13,14,15] _ h0 (fun z => tries_tree_J4 t_ seen x15 Node_e = some lr1) (fun z => ST_tries_tree_J4 t_ seen x15 Node_e) ?_ fun J4 hJ4 => ?_
    ·rintro ⟨⟩ hf1
     unfold tries_tree_J4 at hf1
     obtain ⟨t5, ht5, hf1⟩ := bindE hf1
     refine awpAt X0 TTab_ok hC hm [1,3,4,13,14,15,31,32,34,35,38,39,40] 4000 [aLn Node_e.Next.length] (sub [1,1,2,1,0,0,1,1,2,0,1,1,1,0] bd_tries_tree) (frs [1,1,2,1,0,0,1,1,2,0,1,1,1,0] [J1, J2, J3] bd_tries_tree []) [(1, .own (.box (F22_ t_))), (3, .own (eOs 1 true eB seen)), (4, .d (I x15)), (13, .d (eSl 2 false F12_ t_.Nodes)), (14, .d (I ((t_.Nodes.length : Nat) : Int))), (15, .d (I x15)), (31, .d (eSl 1 false (eI .i64) Node_e.Next)), (32, .d (I ((Node_e.Next.length : Nat) : Int))), (34, .d (I t_.Inputs)), (35, .d (B (((Node_e.Next.length : Nat) : Int) != t_.Inputs))), (38, .d (eSl 1 false (eI .i64) Node_e.Next)), (39, .d (I ((Node_e.Next.length : Nat) : Int))), (40, .d (I 0))] [ob (lnM (eI .i64) Node_e.Next)] (by kernel_rfl) fun st0 h0 => ?_
     refine awpLoop' (X := (List Bool × Int) × Nat) (c' := (sub [1,1,2,1,0,0,1,1,2,0,1,1,1,0,0] bd_tries_tree)) (by kernel_rfl) [1,3,4,13,14,15,31,32,34,35,38,39,40] (fun x => loopN (fun s => tries_tree_L5 t_ x15 Node_e s.1 s.2) x.2 x.1 = some t5) (fun x => x.2) (fun x => ST_tries_tree_L5 t_ x15 Node_e x.1.1 x.1.2) ((seen, 0), fuel) _ h0 inferInstance ht5 ?_
     rintro ⟨⟨seen2, x40⟩, n5⟩ hn5 J5 hJ5
     obtain ⟨m5, lr2, rfl, hf2, hl2⟩ := loopE hn5
     try unfold tries_tree_L5 at hf2
     rcases bifE hf2 with ⟨c1, hf2⟩ | ⟨c1, hf2⟩
     ·refine awpAt X0 TTab_ok hC hm [1,3,4,13,14,15,31,32,34,35,38,39,40] 4000 [bT, .cut 0] (sub [1,1,2,1,0,0,1,1,2,0,1,1,1,0,0,1,1] bd_tries_tree) (frs [1,1,2,1,0,0,1,1,2,0,1,1,1,0,0,1,1] [J1, J2, J3, J5] bd_tries_tree []) [(1, .own (.box (F22_ t_))), (3, .own (eOs 1 true eB seen2)), (4, .d (I x15)), (13, .d (eSl 2 false F12_ t_.Nodes)), (14, .d (I ((t_.Nodes.length : Nat) : Int))), (15, .d (I x15)), (31, .d (eSl 1 false (eI .i64) Node_e.Next)), (32, .d (I ((Node_e.Next.length : Nat) : Int))), (34, .d (I t_.Inputs)), (35, .d (B (((Node_e.Next.length : Nat) : Int) != t_.Inputs))), (38, .d (eSl 1 false (eI .i64) Node_e.Next)), (39, .d (I ((Node_e.Next.length : Nat) : Int))), (40, .d (I x40))] [ob c1] (by kernel_rfl) fun st0 h0 => ?_
      refine awpJoin' (X := List Bool) (x := (sub [1,1,2,1,0,0,1,1,2,0,1,1,1,0,0,1,1,2] bd_tries_tree)) (y := (sub [1,1,2,1,0,0,1,1,2,0,1,1,1,0,0,1,1,1] bd_tries_tree)) (by kernel_rfl) [1,3,4,13,14,15,31,32,34,35,38,39,40] [1,3,4,13,14,15,31,32,34,35,38,39,40] _ h0 (fun z => tries_tree_J6 x40 z = some lr2) (fun z => ST_tries_tree_J6 t_ x15 Node_e x40 z) ?_ fun J6 hJ6 => ?_
      ·rintro seen3 hf2
       unfold tries_tree_J6 at hf2
       obtain rfl := someE hf2
       exact awpBack X0 TTab_ok hC hm [1,3,4,13,14,15,31,32,34,35,38,39,40] 4000 [] J5 [(1, .own (.box (F22_ t_))), (3, .own (eOs 1 true eB seen3)), (4, .d (I x15)), (13, .d (eSl 2 false F12_ t_.Nodes)), (14, .d (I ((t_.Nodes.length : Nat) : Int))), (15, .d (I x15)), (31, .d (eSl 1 false (eI .i64) Node_e.Next)), (32, .d (I ((Node_e.Next.length : Nat) : Int))), (34, .d (I t_.Inputs)), (35, .d (B (((Node_e.Next.length : Nat) : Int) != t_.Inputs))), (38, .d (eSl 1 false (eI .i64) Node_e.Next)), (39, .d (I ((Node_e.Next.length : Nat) : Int))), (40, .d (I (w64 (x40 + 1))))] [] (by kernel_rfl) fun st0 h0 => hJ5 st0 _ ((seen3, w64 (x40 + 1)), m5) hl2 (Nat.lt_succ_self m5) h0 inferInstance
      ·obtain ⟨Next_e, h1, hf2⟩ := bindE hf2
       rcases bifE hf2 with ⟨c2, hf2⟩ | ⟨c2, hf2⟩
       ·exact awpBack X0 TTab_ok hC hm [1,3,4,13,14,15,31,32,34,35,38,39,40] 4000 [.a ((eI .i64) Next_e), bT] J6 [(1, .own (.box (F22_ t_))), (3, .own (eOs 1 true eB seen2)), (4, .d (I x15)), (13, .d (eSl 2 false F12_ t_.Nodes)), (14, .d (I ((t_.Nodes.length : Nat) : Int))), (15, .d (I x15)), (31, .d (eSl 1 false (eI .i64) Node_e.Next)), (32, .d (I ((Node_e.Next.length : Nat) : Int))), (34, .d (I t_.Inputs)), (35, .d (B (((Node_e.Next.length : Nat) : Int) != t_.Inputs))), (38, .d (eSl 1 false (eI .i64) Node_e.Next)), (39, .d (I ((Node_e.Next.length : Nat) : Int))), (40, .d (I x40))] [ob (i0 h1), ob (iM (eI .i64) h1), ob c2] (by kernel_rfl) fun st0 h0 => hJ6 st0 _ seen2 hf2 h0 inferInstance
       ·rcases bifE hf2 with ⟨c3, hf2⟩ | ⟨c3, hf2⟩
        ·obtain rfl := someE hf2
         obtain rfl := hl2
         obtain rfl := someE hf1
         obtain rfl := hl1
         obtain rfl := someE hf0
         exact awpEnd X0 TTab_ok hC hm hE 4000 (hs := (.a ((eI .i64) Next_e) :: bF :: (rpN 12 bT []))) (x := (B false)) (ob (i0 h1) :: ob (iM (eI .i64) h1) :: ob c2 :: (rpN 6 (ob c3) (rpN 6 oT []))) (by kernel_rfl) (LeV.refl _)
        ·have o4 := lnM F12_ t_.Nodes
         rcases bifE hf2 with ⟨c4, hf2⟩ | ⟨c4, hf2⟩
         ·obtain rfl := someE hf2
          obtain rfl := hl2
          obtain rfl := someE hf1
          obtain rfl := hl1
          obtain rfl := someE hf0
          exact awpEnd X0 TTab_ok hC hm hE 4000 (hs := (.a ((eI .i64) Next_e) :: (rpN 5 bF (aLn t_.Nodes.length :: bF :: bF :: (rpN 6 bT []))))) (x := (B false)) (ob (i0 h1) :: ob (iM (eI .i64) h1) :: ob c2 :: (rpN 4 (ob c3) (ob o4 :: ob c3 :: ob c3 :: (rpN 5 (ob c4) [oT])))) (by kernel_rfl) (LeV.refl _)
         ·obtain ⟨seen_e, h2, hf2⟩ := bindE hf2
          rcases bifE hf2 with ⟨c5, hf2⟩ | ⟨c5, hf2⟩
          ·obtain rfl := someE hf2
           obtain rfl := hl2
           obtain rfl := someE hf1
           obtain rfl := hl1
           obtain rfl := someE hf0
           exact awpEnd X0 TTab_ok hC hm hE 4000 (hs := (.a ((eI .i64) Next_e) :: (rpN 5 bF (aLn t_.Nodes.length :: (rpN 6 bF [.a (eB seen_e), bF, bT]))))) (x := (B false)) (ob (i0 h1) :: ob (iM (eI .i64) h1) :: ob c2 :: (rpN 4 (ob c3) [ob o4, ob c3, ob c3, ob c4, ob c4, ob c4, ob (iL eB h2), ob c4, ob (iM eB h2), ob c4, ob c5])) (by kernel_rfl) (LeV.refl _)
          ·obtain ⟨seen_e1, h3, hf2⟩ := bindE hf2
           exact awpBack X0 TTab_ok hC hm [1,3,4,13,14,15,31,32,34,35,38,39,40] 4000 (.a ((eI .i64) Next_e) :: (rpN 5 bF (aLn t_.Nodes.length :: (rpN 6 bF [.a (eB seen_e), bF, bF, .a (eB seen_e1), .a (eB seen_e1), .l ((seen2.set Next_e.toNat true).map eB)])))) J6 [(1, .own (.box (F22_ t_))), (3, .own (eOs 1 true eB (seen2.set Next_e.toNat true))), (4, .d (I x15)), (13, .d (eSl 2 false F12_ t_.Nodes)), (14, .d (I ((t_.Nodes.length : Nat) : Int))), (15, .d (I x15)), (31, .d (eSl 1 false (eI .i64) Node_e.Next)), (32, .d (I ((Node_e.Next.length : Nat) : Int))), (34, .d (I t_.Inputs)), (35, .d (B (((Node_e.Next.length : Nat) : Int) != t_.Inputs))), (38, .d (eSl 1 false (eI .i64) Node_e.Next)), (39, .d (I ((Node_e.Next.length : Nat) : Int))), (40, .d (I x40))] (ob (i0 h1) :: ob (iM (eI .i64) h1) :: ob c2 :: (rpN 4 (ob c3) [ob o4, ob c3, ob c3, ob c4, ob c4, ob c4, ob (iL eB h2), ob c4, ob (iM eB h2), ob c4, ob c5, ob (iL eB h3), ob (iM eB h3), ob (iM eB h3), ob (sM eB seen2 Next_e true)])) (by kernel_rfl) fun st0 h0 => hJ6 st0 _ (seen2.set Next_e.toNat true) hf2 h0 inferInstance
     ·obtain rfl := someE hf2
      obtain rfl := hl2
      exact awpBack X0 TTab_ok hC hm [1,3,13,14,15,31,32,34,35] 4000 [bF] J3 [(1, .own (.box (F22_ t_))), (3, .own (eOs 1 true eB seen2)), (13, .d (eSl 2 false F12_ t_.Nodes)), (14, .d (I ((t_.Nodes.length : Nat) : Int))), (15, .d (I x15)), (31, .d (eSl 1 false (eI .i64) Node_e.Next)), (32, .d (I ((Node_e.Next.length : Nat) : Int))), (34, .d (I t_.Inputs)), (35, .d (B (((Node_e.Next.length : Nat) : Int) != t_.Inputs)))] [ob c1] (by kernel_rfl) fun st0 h0 => hJ3 st0 _ (seen2, Node_e.Next, ((Node_e.Next.length : Nat) : Int), ((Node_e.Next.length : Nat) : Int) != t_.Inputs) hf1 h0 inferInstance
    ·rcases bifE hf1 with ⟨c6, hf1⟩ | ⟨c6, hf1⟩
     ·obtain ⟨seen_e2, h4, hf1⟩ := bindE hf1
      rcases bifE hf1 with ⟨c7, hf1⟩ | ⟨c7, hf1⟩
      ·obtain rfl := someE hf1
       obtain rfl := hl1
       obtain rfl := someE hf0
       exact awpEnd X0 TTab_ok hC hm hE 4000 (hs := (rpN 4 bT (.a (eB seen_e2) :: (rpN 10 bT [])))) (x := (B false)) (ob c6 :: ob c6 :: ob c6 :: ob (iL eB h4) :: ob c6 :: ob (iM eB h4) :: ob c6 :: ob c6 :: (rpN 7 (ob c7) [oT])) (by kernel_rfl) (LeV.refl _)
      ·rcases bifE hf1 with ⟨c8, hf1⟩ | ⟨c8, hf1⟩
       ·obtain rfl := someE hf1
        obtain rfl := hl1
        obtain rfl := someE hf0
        exact awpEnd X0 TTab_ok hC hm hE 4000 (hs := (rpN 4 bT (.a (eB seen_e2) :: bT :: bT :: bF :: bF :: bF :: aLn Node_e.Next.length :: (rpN 4 bF [bT])))) (x := (B false)) (ob c6 :: ob c6 :: ob c6 :: ob (iL eB h4) :: ob c6 :: ob (iM eB h4) :: ob c6 :: ob c6 :: ob c7 :: ob c7 :: ob c7 :: ob (lnM (eI .i64) Node_e.Next) :: (rpN 4 (ob c7) [ob c8])) (by kernel_rfl) (LeV.refl _)
       ·exact awpBack X0 TTab_ok hC hm [1,3,4,5,13,14,15,31,32,34,35] 4000 (rpN 4 bT (.a (eB seen_e2) :: bT :: bT :: bF :: bF :: bF :: aLn Node_e.Next.length :: (rpN 5 bF []))) J4 [(1, .own (.box (F22_ t_))), (3, .own (eOs 1 true eB seen)), (4, .d (I x15)), (5, .own (.box (F12_ Node_e))), (13, .d (eSl 2 false F12_ t_.Nodes)), (14, .d (I ((t_.Nodes.length : Nat) : Int))), (15, .d (I x15)), (31, .d (eSl 1 false (eI .i64) Node_e.Next)), (32, .d (I ((Node_e.Next.length : Nat) : Int))), (34, .d (I t_.Inputs)), (35, .d (B (((Node_e.Next.length : Nat) : Int) != t_.Inputs)))] (ob c6 :: ob c6 :: ob c6 :: ob (iL eB h4) :: ob c6 :: ob (iM eB h4) :: ob c6 :: ob c6 :: ob c7 :: ob c7 :: ob c7 :: ob (lnM (eI .i64) Node_e.Next) :: (rpN 4 (ob c7) [ob c8])) (by kernel_rfl) fun st0 h0 => hJ4 st0 _ () hf1 h0 inferInstance
     ·rcases bifE hf1 with ⟨c9, hf1⟩ | ⟨c9, hf1⟩
      ·obtain rfl := someE hf1
       obtain rfl := hl1
       obtain rfl := someE hf0
       exact awpEnd X0 TTab_ok hC hm hE 4000 (hs := (rpN 9 bF (aLn Node_e.Next.length :: (rpN 4 bF [bT])))) (x := (B false)) (rpN 6 (ob c6) (oF :: oF :: oF :: ob (lnM (eI .i64) Node_e.Next) :: (rpN 4 oF [ob c9]))) (by kernel_rfl) (LeV.refl _)
      ·exact awpBack X0 TTab_ok hC hm [1,3,4,5,13,14,15,31,32,34,35] 4000 (rpN 9 bF (aLn Node_e.Next.length :: (rpN 5 bF []))) J4 [(1, .own (.box (F22_ t_))), (3, .own (eOs 1 true eB seen)), (4, .d (I x15)), (5, .own (.box (F12_ Node_e))), (13, .d (eSl 2 false F12_ t_.Nodes)), (14, .d (I ((t_.Nodes.length : Nat) : Int))), (15, .d (I x15)), (31, .d (eSl 1 false (eI .i64) Node_e.Next)), (32, .d (I ((Node_e.Next.length : Nat) : Int))), (34, .d (I t_.Inputs)), (35, .d (B (((Node_e.Next.length : Nat) : Int) != t_.Inputs)))] (rpN 6 (ob c6) (oF :: oF :: oF :: ob (lnM (eI .i64) Node_e.Next) :: (rpN 4 oF [ob c9]))) (by kernel_rfl) fun st0 h0 => hJ4 st0 _ () hf1 h0 inferInstance
  ·obtain rfl := someE hf1
   obtain rfl := hl1
   exact awpBack X0 TTab_ok hC hm [] 4000 [bF] J1 [] [ob c0] (by kernel_rfl) fun st0 h0 => hJ1 st0 _ () hf0 h0 inferInstance
noncomputable def bd_tries_Words : Code := (Try.f32.body).getD .skip
noncomputable def sp_tries_Words : Spec := spF (α := S_tries_Trie) (ρ := List (List Int) × Int) 32 (fun x => [F22_ x]) (fun r => .tup [F4_ r.1, (eI .i64) r.2]) (fun x => tries_Words x) [] (by
 rintro a0 b0 h
 have e0 := EncI.inj (f := F22_) _ _ (List.cons.inj h).1
 subst e0
 rfl)
abbrev ST_tries_Words_J1 (t_ : S_tries_Trie) (x3 : Int) (l_ : List (List Int)) : List (Nat × T) := [(1, .own (.box (F22_ t_))), (2, .own (.box (eOs 1 true F2_ []))), (3, .own (.box (I x3))), (4, .own (.box (eOs 1 false F0_ l_)))]
abbrev ST_tries_Words_I2 (t_ : S_tries_Trie) (r_3 : List S_tries_Node) (x31 : Int) (l_1 : List (List Int)) (at_ : Int) : List (Nat × T) := [(1, .own (.box (F22_ t_))), (2, .own (.box (eOs 1 true F2_ []))), (3, .own (.box (I x31))), (4, .own (.box (eOs 1 false F0_ l_1))), (5, .own (.box (I at_))), (29, .d (.fn 85 [.sptr (eSl 2 false F12_ r_3)]))]
abbrev ST_tries_Words_J4 (t_ : S_tries_Trie) (r_3 : List S_tries_Node) (x31 : Int) (at_ : Int) (x30 : S_tries_place) (Node_e : S_tries_Node) (x49 : Bool) (x50 : Bool) (x54 : Bool) (l_2 : List (List Int)) : List (Nat × T) := [(1, .own (.box (F22_ t_))), (2, .own (.box (eOs 1 true F2_ []))), (3, .own (.box (I x31))), (4, .own (.box (eOs 1 false F0_ l_2))), (5, .own (.box (I at_))), (29, .d (.fn 85 [.sptr (eSl 2 false F12_ r_3)])), (43, .d (eSl 1 false (eI .i64) x30.w_)), (44, .d (I ((x30.w_.length : Nat) : Int))), (45, .d (B (decide (((x30.w_.length : Nat) : Int) > 256)))), (48, .d (F12_ Node_e)), (49, .d (B x49)), (50, .d (B x50)), (54, .d (B x54))]
abbrev ST_tries_Words_J3 (t_ : S_tries_Trie) (r_3 : List S_tries_Node) (x31 : Int) (l_1 : List (List Int)) (at_ : Int) (x30 : S_tries_place) (Node_e : S_tries_Node) (x49 : Bool) (x50 : Bool) (x54 : Bool) : List (Nat × T) := [(1, .own (.box (F22_ t_))), (2, .own (.box (eOs 1 true F2_ []))), (3, .own (.box (I x31))), (4, .own (.box (eOs 1 false F0_ l_1))), (5, .own (.box (I at_))), (6, .own (.box (F15_ x30))), (7, .own (.box (F12_ Node_e))), (29, .d (.fn 85 [.sptr (eSl 2 false F12_ r_3)])), (43, .d (eSl 1 false (eI .i64) x30.w_)), (44, .d (I ((x30.w_.length : Nat) : Int))), (45, .d (B (decide (((x30.w_.length : Nat) : Int) > 256)))), (48, .d (F12_ Node_e)), (49, .d (B x49)), (50, .d (B x50)), (54, .d (B x54))]
theorem w_tries_Words {ctr : Ctr} (hC : CtrOk Try.prog ctr) (hm : Try.prog.follows .mixedOrders = true) (h_tries_tree : ctr.Has sp_tries_tree) (h_tries_walk : ctr.Has sp_tries_walk) (h_slices_Clip_int_int : ctr.Has sp_slices_Clip_int_int) (h_tries_leaf : ctr.Has sp_tries_leaf) (h_slices_Clone_int_int : ctr.Has sp_slices_Clone_int_int) (h_tries_Check : ctr.Has sp_tries_Check) : sp_tries_Words.Ok Try.prog := by
 refine spF_ok ?_
 rintro t_ r0 hf0
 try unfold tries_Words at hf0
 refine callOk_h (tt := TTab) (keep := false) (rs := [(2, some 22), (3, some 25)]) (n := ⟨74, []⟩) (body := bd_tries_Words) TTab_ok Try.func32 rfl (by kernel_rfl) rfl rfl (by show (1 : Nat) ≤ 74; decide) fun E hE => ?_
 rcases bifE hf0 with ⟨c0, hf0⟩ | ⟨c0, hf0⟩
 ·have o0 := shM F2_ F2_ []
  obtain rfl := someE hf0
  exact awpEnd X0 TTab_ok hC hm hE 4000 (hs := (rpN 14 bT [.l ([].map F2_)])) (x := (.tup [eSl 1 true F0_ [], I 4])) (rpN 4 (ob c0) (rpN 10 oT [ob o0])) (by kernel_rfl) (show LeV (.tup [eSl 1 true F0_ [], I 4]) (.tup [eSl 1 true F0_ ([] : List (List Int)), I 4]) from inferInstance)
 ·rcases bifE hf0 with ⟨c1, hf0⟩ | ⟨c1, hf0⟩
  ·have o1 := shM F2_ F2_ []
   obtain rfl := someE hf0
   exact awpEnd X0 TTab_ok hC hm hE 4000 (hs := (rpN 4 bF (rpN 10 bT [.l ([].map F2_)]))) (x := (.tup [eSl 1 true F0_ [], I 4])) (rpN 4 (ob c0) (rpN 5 (ob c1) (rpN 5 oT [ob o1]))) (by kernel_rfl) (show LeV (.tup [eSl 1 true F0_ [], I 4]) (.tup [eSl 1 true F0_ ([] : List (List Int)), I 4]) from inferInstance)
  ·have o2 := lnM F12_ t_.Nodes
   rcases bifE hf0 with ⟨c2, hf0⟩ | ⟨c2, hf0⟩
   ·have o3 := shM F2_ F2_ []
    obtain rfl := someE hf0
    exact awpEnd X0 TTab_ok hC hm hE 4000 (hs := (rpN 7 bF (aLn t_.Nodes.length :: bF :: bF :: (rpN 5 bT [.l ([].map F2_)])))) (x := (.tup [eSl 1 true F0_ [], I 4])) (rpN 4 (ob c0) (ob c1 :: ob c1 :: ob c1 :: ob o2 :: ob c1 :: ob c1 :: (rpN 4 (ob c2) [oT, ob o3]))) (by kernel_rfl) (show LeV (.tup [eSl 1 true F0_ [], I 4]) (.tup [eSl 1 true F0_ ([] : List (List Int)), I 4]) from inferInstance)
   ·obtain ⟨r_, h0, hf0⟩ := bindE hf0
    have o4 := hasF h_tries_tree (x := t_) h0 (loC F22_ t_ <| loN)
    rcases bifE hf0 with ⟨c3, hf0⟩ | ⟨c3, hf0⟩
    ·have o5 := shM F2_ F2_ []
     obtain rfl := someE hf0
     exact awpEnd X0 TTab_ok hC hm hE 4000 (hs := (rpN 7 bF (aLn t_.Nodes.length :: (rpN 4 bF [.g [], .a (eB r_), bF, bF, bT, .l ([].map F2_)])))) (x := (.tup [eSl 1 true F0_ [], I 4])) (rpN 4 (ob c0) [ob c1, ob c1, ob c1, ob o2, ob c1, ob c1, ob c2, ob c2, ob (hasG h_tries_tree), ob o4, ob c2, ob c2, ob c3, ob o5]) (by kernel_rfl) (show LeV (.tup [eSl 1 true F0_ [], I 4]) (.tup [eSl 1 true F0_ ([] : List (List Int)), I 4]) from inferInstance)
    ·refine awpAt X0 TTab_ok hC hm [1,2,3,4,5] 4000 (rpN 7 bF (aLn t_.Nodes.length :: (rpN 4 bF [.g [], .a (eB r_), bF, bF, bF, .cut 2]))) (sub [1,1,1,1] bd_tries_Words) (frs [1,1,1,1] [] bd_tries_Words []) [(1, .own (.box (F22_ t_))), (2, .own (.box (eOs 1 true F2_ []))), (3, .own (.box (I 0))), (4, .own (.box (eOs 1 true F2_ []))), (5, .own (.box (I 0)))] (rpN 4 (ob c0) [ob c1, ob c1, ob c1, ob o2, ob c1, ob c1, ob c2, ob c2, ob (hasG h_tries_tree), ob o4, ob c2, ob c2, ob c3]) (by kernel_rfl) fun st0 h0 => ?_
     refine awpJoin' (X := Int × List (List Int)) (x := (sub [1,1,1,1,2] bd_tries_Words)) (y := (sub [1,1,1,1,1] bd_tries_Words)) (by kernel_rfl) [1,2,3,4] [1,2,3,4,5] _ h0 (fun z => tries_Words_J1 t_ z.1 z.2 = some r0) (fun z => ST_tries_Words_J1 t_ z.1 z.2) ?_ fun J1 hJ1 => ?_
     ·rintro ⟨x3, l_⟩ hf0
      unfold tries_Words_J1 at hf0
      have o6 := shM F0_ F0_ l_
      obtain ⟨r_1, h1, hf0⟩ := bindE hf0
      have o7 := hasF h_tries_Check (x := (l_, t_.Inputs)) h1 (loC F6_ l_ <| loC (eI .i64) t_.Inputs <| loN)
      rcases bifE hf0 with ⟨c4, hf0⟩ | ⟨c4, hf0⟩
      ·have o8 := shM F2_ F2_ []
       obtain rfl := someE hf0
       exact awpEnd X0 TTab_ok hC hm hE 4000 (hs := [.g [], .l (l_.map F0_), .a ((eI .i64) r_1), bT, .l ([].map F2_)]) (x := (.tup [eSl 1 true F0_ [], I 4])) [ob (hasG h_tries_Check), ob o6, ob o7, ob c4, ob o8] (by kernel_rfl) (show LeV (.tup [eSl 1 true F0_ [], I 4]) (.tup [eSl 1 true F0_ ([] : List (List Int)), I 4]) from inferInstance)
      ·have o9 := shM F0_ F0_ l_
       have o10 := shM F0_ F0_ l_
       obtain ⟨r_2, h2, hf0⟩ := bindE hf0
       have o11 := shM F0_ F0_ l_
       obtain rfl := someE hf0
       exact awpEnd ((xSpec TTab_ok (w_slices_ClipW_int_int_v4 hC hm) 73).or X0) TTab_ok hC hm hE 4000 (hs := [.g [], .l (l_.map F0_), .a ((eI .i64) r_1), bF, .g [], .l (l_.map F0_), .a (F4_ r_2), .l (l_.map F0_)]) (x := (.tup [eSl 1 true F0_ r_2, I 0])) [ob (hasG h_tries_Check), ob o6, ob o7, ob c4, ob hg_slices_ClipW_int_int_v4, ob o10, ob (hs_slices_ClipW_int_int_v4 l_ _ h2), ob o11] (by kernel_rfl) (LeV.refl _)
     ·obtain ⟨r_3, h3, hf0⟩ := bindE hf0
      have o12 := hasF h_tries_walk (x := t_.Nodes) h3 (loC F18_ t_.Nodes <| loN)
      obtain ⟨t2, ht2, hf0⟩ := bindE hf0
      refine awpAt X0 TTab_ok hC hm [1,2,3,4,5,29] 4000 [.g [], .a ((eFn1 85 F20_) r_3)] (sub [1,1,1,1,2,1,0] bd_tries_Words) (frs [1,1,1,1,2,1,0] [J1] bd_tries_Words []) [(1, .own (.box (F22_ t_))), (2, .own (.box (eOs 1 true F2_ []))), (3, .own (.box (I 0))), (4, .own (.box (eOs 1 true F0_ []))), (5, .own (.box (I 0))), (29, .d (.fn 85 [.sptr (eSl 2 false F12_ r_3)]))] [ob (hasG h_tries_walk), ob o12] (by kernel_rfl) fun st0 h0 => ?_
      refine awpIter (g := .tmp 29) (ps := [30]) (assign := (sub [1,1,1,1,2,1,0,0] bd_tries_Words)) (body := (sub [1,1,1,1,2,1,0,1] bd_tries_Words)) (K := 85) (caps := [.sptr (eSl 2 false F12_ r_3)]) (by kernel_rfl) [1,2,3,4,5,29] (fun s => ST_tries_Words_I2 t_ r_3 s.1 s.2.1 s.2.2) (fun s => ST_tries_Words_I2 t_ r_3 s.1 s.2.1 s.2.2) (fun s => Code.ret) ((fun (x : S_tries_place) (_ : Bool) (_ : Value) => [F15_ x])) (F := @tries_walk_1 r_3) (fun s x => tries_Words_I2 t_ s.1 s.2.1 s.2.2 x) (0, ([] : List (List Int)), 0) t2 _ h0 inferInstance (by kernel_rfl) (by decide) (fun _ => rfl) (fun _ => rfl) (by kernel_rfl) (fun _ _ _ => rfl) (w_tries_walk_1 hC hm h_slices_Clip_int_int r_3) ht2 ?_ ?_
      ·rintro tv2 ⟨x31, l_1, at_⟩ x30 vr lr1 hf1
       replace hf1 : tries_Words_I2 t_ x31 l_1 at_ x30 = some lr1 := hf1
       unfold tries_Words_I2 at hf1
       refine awpFin X0 TTab_ok hC hm [1,2,3,4,5,6,29] 4000 [] .normal [(1, .own (.box (F22_ t_))), (2, .own (.box (eOs 1 true F2_ []))), (3, .own (.box (I x31))), (4, .own (.box (eOs 1 false F0_ l_1))), (5, .own (.box (I at_))), (6, .own (.box (F15_ x30))), (29, .d (.fn 85 [.sptr (eSl 2 false F12_ r_3)]))] [] (by kernel_rfl) fun st0 h0 => ⟨rfl, awpOf h0 ?_⟩
       obtain ⟨Node_e, h4, hf1⟩ := bindE hf1
       have o13 := iM F12_ h4
       refine awpAt X0 TTab_ok hC hm [1,2,3,4,5,6,7,29] 4000 [.a (F12_ Node_e), .cut 0] (sub [1,1,1,1,2,1,0,1,0,1] bd_tries_Words) (frs [1,1,1,1,2,1,0,1,0,1] [J1] bd_tries_Words []) [(1, .own (.box (F22_ t_))), (2, .own (.box (eOs 1 true F2_ []))), (3, .own (.box (I x31))), (4, .own (.box (eOs 1 false F0_ l_1))), (5, .own (.box (I at_))), (6, .own (.box (F15_ x30))), (7, .own (.box (F12_ Node_e))), (29, .d (.fn 85 [.sptr (eSl 2 false F12_ r_3)]))] [ob (i0 h4), ob o13] (by kernel_rfl) fun st0 h0 => ?_
       refine awpJoin' (X := Bool × Bool × Bool) (x := (sub [1,1,1,1,2,1,0,1,0,1,2] bd_tries_Words)) (y := (sub [1,1,1,1,2,1,0,1,0,1,1] bd_tries_Words)) (by kernel_rfl) [1,2,3,4,5,6,7,29,43,44,45,48,49,50,54] [1,2,3,4,5,6,7,29] _ h0 (fun z => tries_Words_J3 x31 l_1 at_ x30 Node_e z.1 z.2.1 z.2.2 = some lr1) (fun z => ST_tries_Words_J3 t_ r_3 x31 l_1 at_ x30 Node_e z.1 z.2.1 z.2.2) ?_ fun J3 hJ3 => ?_
       ·rintro ⟨x49, x50, x54⟩ hf1
        unfold tries_Words_J3 at hf1
        refine awpAt X0 TTab_ok hC hm [1,2,3,4,5,6,7,29,43,44,45,48,49,50,54] 4000 [.cut 0] (sub [1,1,1,1,2,1,0,1,0,1,1] bd_tries_Words) (frs [1,1,1,1,2,1,0,1,0,1,1] [J1] bd_tries_Words []) [(1, .own (.box (F22_ t_))), (2, .own (.box (eOs 1 true F2_ []))), (3, .own (.box (I x31))), (4, .own (.box (eOs 1 false F0_ l_1))), (5, .own (.box (I at_))), (6, .own (.box (F15_ x30))), (7, .own (.box (F12_ Node_e))), (29, .d (.fn 85 [.sptr (eSl 2 false F12_ r_3)])), (43, .d (eSl 1 false (eI .i64) x30.w_)), (44, .d (I ((x30.w_.length : Nat) : Int))), (45, .d (B (decide (((x30.w_.length : Nat) : Int) > 256)))), (48, .d (F12_ Node_e)), (49, .d (B x49)), (50, .d (B x50)), (54, .d (B x54))] [] (by kernel_rfl) fun st0 h0 => ?_
        refine awpJoin' (X := List (List Int)) (x := (sub [1,1,1,1,2,1,0,1,0,1,1,2] bd_tries_Words)) (y := (sub [1,1,1,1,2,1,0,1,0,1,1,1] bd_tries_Words)) (by kernel_rfl) [1,2,3,4,5,29,43,44,45,48,49,50,54] [1,2,3,4,5,6,7,29,43,44,45,48,49,50,54] _ h0 (fun z => tries_Words_J4 x31 at_ z = some lr1) (fun z => ST_tries_Words_J4 t_ r_3 x31 at_ x30 Node_e x49 x50 x54 z) ?_ fun J4 hJ4 => ?_
        ·rintro l_2 hf1
         unfold tries_Words_J4 at hf1
         obtain rfl := someE hf1
         exact awpFin X0 TTab_ok hC hm [1,2,3,4,5,29] 4000 [] .normal [(1, .own (.box (F22_ t_))), (2, .own (.box (eOs 1 true F2_ []))), (3, .own (.box (I x31))), (4, .own (.box (eOs 1 false F0_ l_2))), (5, .own (.box (I (w64 (at_ + 1))))), (29, .d (.fn 85 [.sptr (eSl 2 false F12_ r_3)]))] [] (by kernel_rfl) fun st0 h0 => ⟨rfl, _, h0, (inferInstance : LeL [(1, .own (.box (F22_ t_))), (2, .own (.box (eOs 1 true F2_ []))), (3, .own (.box (I x31))), (4, .own (.box (eOs 1 false F0_ l_2))), (5, .own (.box (I (w64 (at_ + 1))))), (29, .d (.fn 85 [.sptr (eSl 2 false F12_ r_3)]))] (ST_tries_Words_I2 t_ r_3 x31 l_2 (w64 (at_ + 1))))⟩
        ·rcases bifE hf1 with ⟨c5, hf1⟩ | ⟨c5, hf1⟩
         ·obtain ⟨r_4, h5, hf1⟩ := bindE hf1
          have o14 := hasF h_slices_Clone_int_int (x := x30.w_) h5 (loC F2_ x30.w_ <| loN)
          obtain ⟨r_5, h6, hf1⟩ := bindE hf1
          have o15 := hasF h_slices_Clip_int_int (x := r_4) h6 (loC F2_ r_4 <| loN)
          have o16 := dM F0_ ([r_5] : List (List Int))
          have o17 := dM F0_ ([r_5] : List (List Int))
          obtain ⟨g0, hf1⟩ := gdE hf1
          have o18 := aL F0_ F0_ g0
          have o19 := aM F0_ l_1 ([r_5] : List (List Int))
          exact awpBack X0 TTab_ok hC hm [1,2,3,4,5,29,43,44,45,48,49,50,54] 4000 [bT, .g [], .a (F3_ r_4), .g [], .l (r_4.map (eI .i64)), .a (F0_ r_5), .l (r_4.map (eI .i64)), bT, .l ((l_1 ++ ([r_5] : List (List Int))).map F0_)] J4 [(1, .own (.box (F22_ t_))), (2, .own (.box (eOs 1 true F2_ []))), (3, .own (.box (I x31))), (4, .own (.box (eOs 1 false F0_ (l_1 ++ ([r_5] : List (List Int)))))), (5, .own (.box (I at_))), (29, .d (.fn 85 [.sptr (eSl 2 false F12_ r_3)])), (43, .d (eSl 1 false (eI .i64) x30.w_)), (44, .d (I ((x30.w_.length : Nat) : Int))), (45, .d (B (decide (((x30.w_.length : Nat) : Int) > 256)))), (48, .d (F12_ Node_e)), (49, .d (B x49)), (50, .d (B x50)), (54, .d (B x54))] [ob c5, ob (hasG h_slices_Clone_int_int), ob o14, ob (hasG h_slices_Clip_int_int), ob (shM (eI .i64) (eI .i64) r_4), ob o15, ob (shM (eI .i64) (eI .i64) r_4), ob o16, ob o17, ob o18, ob o19] (by kernel_rfl) fun st0 h0 => hJ4 st0 _ (l_1 ++ ([r_5] : List (List Int))) hf1 h0 inferInstance
         ·exact awpBack X0 TTab_ok hC hm [1,2,3,4,5,29,43,44,45,48,49,50,54] 4000 [bF] J4 [(1, .own (.box (F22_ t_))), (2, .own (.box (eOs 1 true F2_ []))), (3, .own (.box (I x31))), (4, .own (.box (eOs 1 false F0_ l_1))), (5, .own (.box (I at_))), (29, .d (.fn 85 [.sptr (eSl 2 false F12_ r_3)])), (43, .d (eSl 1 false (eI .i64) x30.w_)), (44, .d (I ((x30.w_.length : Nat) : Int))), (45, .d (B (decide (((x30.w_.length : Nat) : Int) > 256)))), (48, .d (F12_ Node_e)), (49, .d (B x49)), (50, .d (B x50)), (54, .d (B x54))] [ob c5] (by kernel_rfl) fun st0 h0 => hJ4 st0 _ l_1 hf1 h0 inferInstance
       ·rcases bifE hf1 with ⟨c6, hf1⟩ | ⟨c6, hf1⟩
        ·obtain rfl := someE hf1
         exact awpFin X0 TTab_ok hC hm [1,2,3,4,5,29] 4000 (rpN 11 bT []) .ret [(1, .own (.box (F22_ t_))), (2, .own (.box (eOs 1 true F2_ []))), (3, .own (.box (I 4))), (4, .own (.box (eOs 1 false F0_ l_1))), (5, .own (.box (I at_))), (29, .d (.fn 85 [.sptr (eSl 2 false F12_ r_3)]))] (rpN 5 (ob c6) (rpN 6 oT [])) (by kernel_rfl) fun st0 h0 => ⟨rfl, _, h0, (inferInstance : LeL [(1, .own (.box (F22_ t_))), (2, .own (.box (eOs 1 true F2_ []))), (3, .own (.box (I 4))), (4, .own (.box (eOs 1 false F0_ l_1))), (5, .own (.box (I at_))), (29, .d (.fn 85 [.sptr (eSl 2 false F12_ r_3)]))] (ST_tries_Words_I2 t_ r_3 4 l_1 at_))⟩
        ·rcases bifE hf1 with ⟨c7, hf1⟩ | ⟨c7, hf1⟩
         ·obtain rfl := someE hf1
          exact awpFin X0 TTab_ok hC hm [1,2,3,4,5,29] 4000 (bF :: bF :: bF :: aLn x30.w_.length :: bF :: bF :: (rpN 6 bT [])) .ret [(1, .own (.box (F22_ t_))), (2, .own (.box (eOs 1 true F2_ []))), (3, .own (.box (I 4))), (4, .own (.box (eOs 1 false F0_ l_1))), (5, .own (.box (I at_))), (29, .d (.fn 85 [.sptr (eSl 2 false F12_ r_3)]))] (ob c6 :: ob c6 :: ob c6 :: ob (lnM (eI .i64) x30.w_) :: ob c6 :: ob c6 :: (rpN 5 (ob c7) [oT])) (by kernel_rfl) fun st0 h0 => ⟨rfl, _, h0, (inferInstance : LeL [(1, .own (.box (F22_ t_))), (2, .own (.box (eOs 1 true F2_ []))), (3, .own (.box (I 4))), (4, .own (.box (eOs 1 false F0_ l_1))), (5, .own (.box (I at_))), (29, .d (.fn 85 [.sptr (eSl 2 false F12_ r_3)]))] (ST_tries_Words_I2 t_ r_3 4 l_1 at_))⟩
         ·obtain ⟨r_6, h7, hf1⟩ := bindE hf1
          have o20 := hasF h_tries_leaf (x := Node_e) h7 (loC F12_ Node_e <| loN)
          rcases bifE hf1 with ⟨c8, hf1⟩ | ⟨c8, hf1⟩
          ·rcases bifE hf1 with ⟨c9, hf1⟩ | ⟨c9, hf1⟩
           ·obtain rfl := someE hf1
            exact awpFin X0 TTab_ok hC hm [1,2,3,4,5,29] 4000 (bF :: bF :: bF :: aLn x30.w_.length :: (rpN 4 bF [.g [], .a (eB r_6), bF, bT, bT, bT, bF, bT, bF, bT])) .ret [(1, .own (.box (F22_ t_))), (2, .own (.box (eOs 1 true F2_ []))), (3, .own (.box (I 4))), (4, .own (.box (eOs 1 false F0_ l_1))), (5, .own (.box (I at_))), (29, .d (.fn 85 [.sptr (eSl 2 false F12_ r_3)]))] [ob c6, ob c6, ob c6, ob (lnM (eI .i64) x30.w_), ob c6, ob c6, ob c7, ob c7, ob (hasG h_tries_leaf), ob o20, ob c7, ob c8, ob c8, ob c8, ob c7, ob c8, ob c7, ob c9] (by kernel_rfl) fun st0 h0 => ⟨rfl, _, h0, (inferInstance : LeL [(1, .own (.box (F22_ t_))), (2, .own (.box (eOs 1 true F2_ []))), (3, .own (.box (I 4))), (4, .own (.box (eOs 1 false F0_ l_1))), (5, .own (.box (I at_))), (29, .d (.fn 85 [.sptr (eSl 2 false F12_ r_3)]))] (ST_tries_Words_I2 t_ r_3 4 l_1 at_))⟩
           ·exact awpBack X0 TTab_ok hC hm [1,2,3,4,5,6,7,29,43,44,45,48,49,50,54] 4000 (bF :: bF :: bF :: aLn x30.w_.length :: (rpN 4 bF [.g [], .a (eB r_6), bF, bT, bT, bT, bF, bT, bF, bF])) J3 [(1, .own (.box (F22_ t_))), (2, .own (.box (eOs 1 true F2_ []))), (3, .own (.box (I x31))), (4, .own (.box (eOs 1 false F0_ l_1))), (5, .own (.box (I at_))), (6, .own (.box (F15_ x30))), (7, .own (.box (F12_ Node_e))), (29, .d (.fn 85 [.sptr (eSl 2 false F12_ r_3)])), (43, .d (eSl 1 false (eI .i64) x30.w_)), (44, .d (I ((x30.w_.length : Nat) : Int))), (45, .d (B (decide (((x30.w_.length : Nat) : Int) > 256)))), (48, .d (F12_ Node_e)), (49, .d (B r_6)), (50, .d (B r_6)), (54, .d (B (!Node_e.End)))] [ob c6, ob c6, ob c6, ob (lnM (eI .i64) x30.w_), ob c6, ob c6, ob c7, ob c7, ob (hasG h_tries_leaf), ob o20, ob c7, ob c8, ob c8, ob c8, ob c7, ob c8, ob c7, ob c9] (by kernel_rfl) fun st0 h0 => hJ3 st0 _ (r_6, r_6, !Node_e.End) hf1 h0 inferInstance
          ·exact awpBack X0 TTab_ok hC hm [1,2,3,4,5,6,7,29,43,44,45,48,49,50,54] 4000 (bF :: bF :: bF :: aLn x30.w_.length :: (rpN 4 bF (.g [] :: .a (eB r_6) :: (rpN 8 bF [])))) J3 [(1, .own (.box (F22_ t_))), (2, .own (.box (eOs 1 true F2_ []))), (3, .own (.box (I x31))), (4, .own (.box (eOs 1 false F0_ l_1))), (5, .own (.box (I at_))), (6, .own (.box (F15_ x30))), (7, .own (.box (F12_ Node_e))), (29, .d (.fn 85 [.sptr (eSl 2 false F12_ r_3)])), (43, .d (eSl 1 false (eI .i64) x30.w_)), (44, .d (I ((x30.w_.length : Nat) : Int))), (45, .d (B (decide (((x30.w_.length : Nat) : Int) > 256)))), (48, .d (F12_ Node_e)), (49, .d (B r_6)), (50, .d (B r_6)), (54, .d (B false))] [ob c6, ob c6, ob c6, ob (lnM (eI .i64) x30.w_), ob c6, ob c6, ob c7, ob c7, ob (hasG h_tries_leaf), ob o20, ob c7, ob c8, ob c8, ob c8, ob c7, ob c8, ob c7, oF] (by kernel_rfl) fun st0 h0 => hJ3 st0 _ (r_6, r_6, false) hf1 h0 inferInstance
      ·rcases t2 with ⟨x31, l_1, at_⟩ | z
       ·dsimp only at hf0
        exact awpGoBack (by kernel_rfl) (hJ1 _ [(1, .own (.box (F22_ t_))), (2, .own (.box (eOs 1 true F2_ []))), (3, .own (.box (I x31))), (4, .own (.box (eOs 1 false F0_ l_1)))] (x31, l_1) hf0 (show Own.canon [1,2,3,4] _ = ofL _ by kernel_rfl) inferInstance)
       ·obtain ⟨x31, l_1, at_⟩ := z
        dsimp only at hf0
        show AWP _ _ (Code.ret) _ _
        obtain rfl := someE hf0
        exact awpEnd X0 TTab_ok hC hm hE 4000 (hs := [.l ([].map F2_)]) (x := (.tup [eSl 1 true F0_ [], I x31])) [ob (shM F2_ F2_ [])] (by kernel_rfl) (show LeV (.tup [eSl 1 true F0_ [], I x31]) (.tup [eSl 1 true F0_ ([] : List (List Int)), I x31]) from inferInstance)
noncomputable def bd_tries_Count : Code := (Try.f33.body).getD .skip
noncomputable def sp_tries_Count : Spec := spF (α := S_tries_Trie) (ρ := Int × Int) 33 (fun x => [F22_ x]) (fun r => .tup [(eI .i64) r.1, (eI .i64) r.2]) (fun x => tries_Count x) [] (by
 rintro a0 b0 h
 have e0 := EncI.inj (f := F22_) _ _ (List.cons.inj h).1
 subst e0
 rfl)
abbrev ST_tries_Count_J1 (n_ : Int) : List (Nat × T) := [(6, .d (I n_))]
abbrev ST_tries_Count_J3 (t_ : S_tries_Trie) (x20 : Int) (n_2 : Int) : List (Nat × T) := [(6, .d (I n_2)), (18, .d (eSl 2 false F12_ t_.Nodes)), (19, .d (I ((t_.Nodes.length : Nat) : Int))), (20, .d (I x20))]
abbrev ST_tries_Count_L2 (t_ : S_tries_Trie) (n_1 : Int) (x20 : Int) : List (Nat × T) := [(6, .d (I n_1)), (18, .d (eSl 2 false F12_ t_.Nodes)), (19, .d (I ((t_.Nodes.length : Nat) : Int))), (20, .d (I x20))]
theorem w_tries_Count {ctr : Ctr} (hC : CtrOk Try.prog ctr) (hm : Try.prog.follows .mixedOrders = true) (h_tries_Words : ctr.Has sp_tries_Words) (h_tries_leaf : ctr.Has sp_tries_leaf) : sp_tries_Count.Ok Try.prog := by
 refine spF_ok ?_
 rintro t_ r0 hf0
 try unfold tries_Count at hf0
 refine callOk_h (tt := TTab) (keep := false) (rs := [(2, none), (3, none)]) (n := ⟨30, []⟩) (body := bd_tries_Count) TTab_ok Try.func33 rfl (by kernel_rfl) rfl rfl (by show (1 : Nat) ≤ 30; decide) fun E hE => ?_
 obtain ⟨r_, h0, hf0⟩ := bindE hf0
 have o0 := hasF h_tries_Words (x := t_) h0 (loC F22_ t_ <| loN)
 rcases bifE hf0 with ⟨c0, hf0⟩ | ⟨c0, hf0⟩
 ·obtain rfl := someE hf0
  exact awpEnd X0 TTab_ok hC hm hE 4000 (hs := [.g [], .a (.tup [eSl 1 true F0_ r_.1, I r_.2]), bT]) (x := (.tup [I 0, I r_.2])) [ob (hasG h_tries_Words), ob o0, ob c0] (by kernel_rfl) (LeV.refl _)
 ·refine awpAt X0 TTab_ok hC hm [1,6] 4000 [.g [], .a (.tup [eSl 1 true F0_ r_.1, I r_.2]), bF, .cut 1] (sub [1,1,1] bd_tries_Count) (frs [1,1,1] [] bd_tries_Count []) [(1, .own (.box (F22_ t_))), (6, .d (I 0))] [ob (hasG h_tries_Words), ob o0, ob c0] (by kernel_rfl) fun st0 h0 => ?_
  refine awpJoin' (X := Int) (x := (sub [1,1,1,2] bd_tries_Count)) (y := (sub [1,1,1,1] bd_tries_Count)) (by kernel_rfl) [6] [1,6] _ h0 (fun z => tries_Count_J1 z = some r0) (fun z => ST_tries_Count_J1 z) ?_ fun J1 hJ1 => ?_
  ·rintro n_ hf0
   unfold tries_Count_J1 at hf0
   obtain rfl := someE hf0
   exact awpEnd X0 TTab_ok hC hm hE 4000 (hs := []) (x := (.tup [I n_, I 0])) [] (by kernel_rfl) (LeV.refl _)
  ·have o1 := lnM F12_ t_.Nodes
   obtain ⟨t2, ht2, hf0⟩ := bindE hf0
   refine awpAt X0 TTab_ok hC hm [6,18,19,20] 4000 [aLn t_.Nodes.length] (sub [1,1,1,2,1,0] bd_tries_Count) (frs [1,1,1,2,1,0] [J1] bd_tries_Count []) [(6, .d (I 0)), (18, .d (eSl 2 false F12_ t_.Nodes)), (19, .d (I ((t_.Nodes.length : Nat) : Int))), (20, .d (I 0))] [ob o1] (by kernel_rfl) fun st0 h0 => ?_
   refine awpLoop' (X := (Int × Int) × Nat) (c' := (sub [1,1,1,2,1,0,0] bd_tries_Count)) (by kernel_rfl) [6,18,19,20] (fun x => loopN (fun s => tries_Count_L2 t_ s.1 s.2) x.2 x.1 = some t2) (fun x => x.2) (fun x => ST_tries_Count_L2 t_ x.1.1 x.1.2) ((0,0), fuel) _ h0 inferInstance ht2 ?_
   rintro ⟨⟨n_1, x20⟩, n2⟩ hn2 J2 hJ2
   obtain ⟨m2, lr1, rfl, hf1, hl1⟩ := loopE hn2
   try unfold tries_Count_L2 at hf1
   rcases bifE hf1 with ⟨c1, hf1⟩ | ⟨c1, hf1⟩
   ·refine awpAt X0 TTab_ok hC hm [6,18,19,20] 4000 [bT, .cut 0] (sub [1,1,1,2,1,0,0,1,1] bd_tries_Count) (frs [1,1,1,2,1,0,0,1,1] [J1, J2] bd_tries_Count []) [(6, .d (I n_1)), (18, .d (eSl 2 false F12_ t_.Nodes)), (19, .d (I ((t_.Nodes.length : Nat) : Int))), (20, .d (I x20))] [ob c1] (by kernel_rfl) fun st0 h0 => ?_
    refine awpJoin' (X := Int) (x := (sub [1,1,1,2,1,0,0,1,1,2] bd_tries_Count)) (y := (sub [1,1,1,2,1,0,0,1,1,1] bd_tries_Count)) (by kernel_rfl) [6,18,19,20] [6,18,19,20] _ h0 (fun z => tries_Count_J3 x20 z = some lr1) (fun z => ST_tries_Count_J3 t_ x20 z) ?_ fun J3 hJ3 => ?_
    ·rintro n_2 hf1
     unfold tries_Count_J3 at hf1
     obtain rfl := someE hf1
     exact awpBack X0 TTab_ok hC hm [6,18,19,20] 4000 [] J2 [(6, .d (I n_2)), (18, .d (eSl 2 false F12_ t_.Nodes)), (19, .d (I ((t_.Nodes.length : Nat) : Int))), (20, .d (I (w64 (x20 + 1))))] [] (by kernel_rfl) fun st0 h0 => hJ2 st0 _ ((n_2, w64 (x20 + 1)), m2) hl1 (Nat.lt_succ_self m2) h0 inferInstance
    ·obtain ⟨Node_e, h1, hf1⟩ := bindE hf1
     have o2 := iM F12_ h1
     obtain ⟨r_1, h2, hf1⟩ := bindE hf1
     have o3 := hasF h_tries_leaf (x := Node_e) h2 (loC F12_ Node_e <| loN)
     rcases bifE hf1 with ⟨c2, hf1⟩ | ⟨c2, hf1⟩
     ·exact awpBack X0 TTab_ok hC hm [6,18,19,20] 4000 [.a (F12_ Node_e), .g [], .a (eB r_1), bT] J3 [(6, .d (I (w64 (n_1 + 1)))), (18, .d (eSl 2 false F12_ t_.Nodes)), (19, .d (I ((t_.Nodes.length : Nat) : Int))), (20, .d (I x20))] [ob (i0 h1), ob o2, ob (hasG h_tries_leaf), ob o3, ob c2] (by kernel_rfl) fun st0 h0 => hJ3 st0 _ (w64 (n_1 + 1)) hf1 h0 inferInstance
     ·exact awpBack X0 TTab_ok hC hm [6,18,19,20] 4000 [.a (F12_ Node_e), .g [], .a (eB r_1), bF] J3 [(6, .d (I n_1)), (18, .d (eSl 2 false F12_ t_.Nodes)), (19, .d (I ((t_.Nodes.length : Nat) : Int))), (20, .d (I x20))] [ob (i0 h1), ob o2, ob (hasG h_tries_leaf), ob o3, ob c2] (by kernel_rfl) fun st0 h0 => hJ3 st0 _ n_1 hf1 h0 inferInstance
   ·obtain rfl := someE hf1
    obtain rfl := hl1
    exact awpBack X0 TTab_ok hC hm [6] 4000 [bF] J1 [(6, .d (I n_1))] [ob c1] (by kernel_rfl) fun st0 h0 => hJ1 st0 _ n_1 hf0 h0 inferInstance
noncomputable def bd_ref12_Equal : Code := (Try.f30.body).getD .skip
noncomputable def sp_ref12_Equal : Spec := spF (α := S_tries_Trie × S_tries_Trie) (ρ := Bool) 30 (fun x => [F22_ x.1, F22_ x.2]) (fun r => eB r) (fun x => ref12_Equal x.1 x.2) [] (by
 rintro ⟨a0, a1⟩ ⟨b0, b1⟩ h
 have e0 := EncI.inj (f := F22_) _ _ (List.cons.inj h).1
 replace h := (List.cons.inj h).2
 have e1 := EncI.inj (f := F22_) _ _ (List.cons.inj h).1
 subst e0 e1
 rfl)
abbrev ST_ref12_Equal_J1 : List (Nat × T) := []
abbrev ST_ref12_Equal_L2 (a_ : S_tries_Trie) (b_ : S_tries_Trie) (i_ : Int) : List (Nat × T) := [(2, .own (.box (F22_ a_))), (3, .own (.box (F22_ b_))), (5, .d (I i_))]
theorem w_ref12_Equal {ctr : Ctr} (hC : CtrOk Try.prog ctr) (hm : Try.prog.follows .mixedOrders = true) (h_ref12_compare : ctr.Has sp_ref12_compare) : sp_ref12_Equal.Ok Try.prog := by
 refine spF_ok ?_
 rintro ⟨a_, b_⟩ r0 hf0
 try unfold ref12_Equal at hf0
 refine callOk_h (tt := TTab) (keep := true) (rs := [(4, none)]) (n := ⟨56, []⟩) (body := bd_ref12_Equal) TTab_ok Try.func30 rfl (by kernel_rfl) rfl rfl (by show (2 : Nat) ≤ 56; decide) fun E hE => ?_
 rcases bifE hf0 with ⟨c0, hf0⟩ | ⟨c0, hf0⟩
 ·obtain rfl := someE hf0
  exact awpEnd X0 TTab_ok hC hm hE 4000 (hs := (rpN 9 bT [])) (x := (B false)) (rpN 8 (ob c0) [oT]) (by kernel_rfl) (LeV.refl _)
 ·have o0 := lnM F12_ a_.Nodes
  have o1 := lnM F12_ b_.Nodes
  rcases bifE hf0 with ⟨c1, hf0⟩ | ⟨c1, hf0⟩
  ·obtain rfl := someE hf0
   exact awpEnd X0 TTab_ok hC hm hE 4000 (hs := [bF, bF, bF, aLn a_.Nodes.length, bF, bF, bF, aLn b_.Nodes.length, bF, bF, bT]) (x := (B false)) [ob c0, ob c0, ob c0, ob o0, ob c0, ob c0, ob c0, ob o1, ob c0, ob c0, ob c1] (by kernel_rfl) (LeV.refl _)
  ·refine awpAt X0 TTab_ok hC hm [2,3] 4000 [bF, bF, bF, aLn a_.Nodes.length, bF, bF, bF, aLn b_.Nodes.length, bF, bF, bF, .cut 0] (sub [1,1] bd_ref12_Equal) (frs [1,1] [] bd_ref12_Equal []) [(2, .own (.box (F22_ a_))), (3, .own (.box (F22_ b_)))] [ob c0, ob c0, ob c0, ob o0, ob c0, ob c0, ob c0, ob o1, ob c0, ob c0, ob c1] (by kernel_rfl) fun st0 h0 => ?_
   refine awpJoin' (X := Unit) (x := (sub [1,1,2] bd_ref12_Equal)) (y := (sub [1,1,1] bd_ref12_Equal)) (by kernel_rfl) [] [2,3] _ h0 (fun z => ref12_Equal_J1 = some r0) (fun z => ST_ref12_Equal_J1) ?_ fun J1 hJ1 => ?_
   ·rintro ⟨⟩ hf0
    unfold ref12_Equal_J1 at hf0
    obtain rfl := someE hf0
    exact awpEnd X0 TTab_ok hC hm hE 4000 (hs := []) (x := (B true)) [] (by kernel_rfl) (LeV.refl _)
   ·obtain ⟨t2, ht2, hf0⟩ := bindE hf0
    refine awpAt X0 TTab_ok hC hm [2,3,5] 4000 [] (sub [1,1,2,1,0] bd_ref12_Equal) (frs [1,1,2,1,0] [J1] bd_ref12_Equal []) [(2, .own (.box (F22_ a_))), (3, .own (.box (F22_ b_))), (5, .d (I 0))] [] (by kernel_rfl) fun st0 h0 => ?_
    refine awpLoop' (X := Int × Nat) (c' := (sub [1,1,2,1,0,0] bd_ref12_Equal)) (by kernel_rfl) [2,3,5] (fun x => loopN (fun s => ref12_Equal_L2 a_ b_ s) x.2 x.1 = some t2) (fun x => x.2) (fun x => ST_ref12_Equal_L2 a_ b_ x.1) (0, fuel) _ h0 inferInstance ht2 ?_
    rintro ⟨i_, n2⟩ hn2 J2 hJ2
    obtain ⟨m2, lr1, rfl, hf1, hl1⟩ := loopE hn2
    try unfold ref12_Equal_L2 at hf1
    have o2 := lnM F12_ a_.Nodes
    rcases bifE hf1 with ⟨c2, hf1⟩ | ⟨c2, hf1⟩
    ·obtain ⟨Node_e, h0, hf1⟩ := bindE hf1
     have o3 := iM F12_ h0
     obtain ⟨Node_e1, h1, hf1⟩ := bindE hf1
     have o4 := iM F12_ h1
     rcases bifE hf1 with ⟨c3, hf1⟩ | ⟨c3, hf1⟩
     ·obtain rfl := someE hf1
      obtain rfl := hl1
      obtain rfl := someE hf0
      exact awpEnd X0 TTab_ok hC hm hE 4000 (hs := (aLn a_.Nodes.length :: bT :: .a (F12_ Node_e) :: .a (F12_ Node_e1) :: (rpN 16 bT []))) (x := (B false)) (ob o2 :: ob c2 :: ob (i0 h0) :: ob o3 :: ob (i0 h1) :: ob o4 :: (rpN 15 (ob c3) [oT])) (by kernel_rfl) (LeV.refl _)
     ·obtain ⟨Node_e2, h2, hf1⟩ := bindE hf1
      have o5 := iM F12_ h2
      obtain ⟨Node_e3, h3, hf1⟩ := bindE hf1
      have o6 := iM F12_ h3
      obtain ⟨r_, h4, hf1⟩ := bindE hf1
      have o7 := hasF h_ref12_compare (x := (Node_e2.Next, Node_e3.Next)) h4 (loC F2_ Node_e2.Next <| loC F2_ Node_e3.Next <| loN)
      rcases bifE hf1 with ⟨c4, hf1⟩ | ⟨c4, hf1⟩
      ·obtain rfl := someE hf1
       obtain rfl := hl1
       obtain rfl := someE hf0
       exact awpEnd X0 TTab_ok hC hm hE 4000 (hs := (aLn a_.Nodes.length :: bT :: .a (F12_ Node_e) :: .a (F12_ Node_e1) :: (rpN 4 bF (.a (F12_ Node_e2) :: (rpN 6 bF [.a (F12_ Node_e3), bF, bF, bF, .g [], .a ((eI .i64) r_), bF, bF, bT]))))) (x := (B false)) (ob o2 :: ob c2 :: ob (i0 h0) :: ob o3 :: ob (i0 h1) :: ob o4 :: (rpN 4 (ob c3) (ob (i0 h2) :: ob o5 :: (rpN 6 (ob c3) [ob (i0 h3), ob o6, ob c3, ob c3, ob c3, ob (hasG h_ref12_compare), ob o7, ob c3, ob c3, ob c4])))) (by kernel_rfl) (LeV.refl _)
      ·obtain rfl := someE hf1
       exact awpBack X0 TTab_ok hC hm [2,3,5] 4000 (aLn a_.Nodes.length :: bT :: .a (F12_ Node_e) :: .a (F12_ Node_e1) :: (rpN 4 bF (.a (F12_ Node_e2) :: (rpN 6 bF [.a (F12_ Node_e3), bF, bF, bF, .g [], .a ((eI .i64) r_), bF, bF, bF])))) J2 [(2, .own (.box (F22_ a_))), (3, .own (.box (F22_ b_))), (5, .d (I (w64 (i_ + 1))))] (ob o2 :: ob c2 :: ob (i0 h0) :: ob o3 :: ob (i0 h1) :: ob o4 :: (rpN 4 (ob c3) (ob (i0 h2) :: ob o5 :: (rpN 6 (ob c3) [ob (i0 h3), ob o6, ob c3, ob c3, ob c3, ob (hasG h_ref12_compare), ob o7, ob c3, ob c3, ob c4])))) (by kernel_rfl) fun st0 h0 => hJ2 st0 _ (w64 (i_ + 1), m2) hl1 (Nat.lt_succ_self m2) h0 inferInstance
    ·obtain rfl := someE hf1
     obtain rfl := hl1
     exact awpBack X0 TTab_ok hC hm [] 4000 [aLn a_.Nodes.length, bF] J1 [] [ob o2, ob c2] (by kernel_rfl) fun st0 h0 => hJ1 st0 _ () hf0 h0 inferInstance
noncomputable def bd_law12_lives : Code := (Try.f15.body).getD .skip
noncomputable def sp_law12_lives : Spec := spF (α := Unit) (ρ := Bool) 15 (fun x => []) (fun r => eB r) (fun x => law12_lives) [] (fun _ _ _ => rfl)
theorem w_law12_lives {ctr : Ctr} (hC : CtrOk Try.prog ctr) (hm : Try.prog.follows .mixedOrders = true) (h_law12_list : ctr.Has sp_law12_list) (h_tries_Sort : ctr.Has sp_tries_Sort) (h_tries_Reduce : ctr.Has sp_tries_Reduce) (h_tries_Prefixes : ctr.Has sp_tries_Prefixes) (h_tries_Concat : ctr.Has sp_tries_Concat) (h_law12_same : ctr.Has sp_law12_same) (h_tries_Upto : ctr.Has sp_tries_Upto) (h_tries_Exact : ctr.Has sp_tries_Exact) (h_tries_Of : ctr.Has sp_tries_Of) (h_tries_Count : ctr.Has sp_tries_Count) (h_ref12_Equal : ctr.Has sp_ref12_Equal) (h_tries_Check : ctr.Has sp_tries_Check) : sp_law12_lives.Ok Try.prog := by
 refine spF_ok ?_
 rintro ⟨⟩ r0 hf0
 try unfold law12_lives at hf0
 refine callOk_h (tt := TTab) (keep := true) (rs := [(0, none)]) (n := ⟨214, []⟩) (body := bd_law12_lives) TTab_ok Try.func15 rfl (by kernel_rfl) rfl rfl (by show (0 : Nat) ≤ 214; decide) fun E hE => ?_
 have o0 := shM F1_ F0_ ([[1,0], [1], [0], [1]])
 obtain ⟨r_, h0, hf0⟩ := bindE hf0
 have o1 := hasF h_law12_list (x := [[1,0], [1], [0], [1]]) h0 (loC F4_ ([[1,0], [1], [0], [1]] : List (List Int)) <| loN)
 have o2 := shM F1_ F0_ ([[1,0], [1], [0], [1]])
 obtain ⟨r_1, h1, hf0⟩ := bindE hf0
 have o3 := hasF h_tries_Sort (x := (r_, 2)) h1 (loC F7_ r_ <| loC (eI .i64) 2 <| loN)
 have o4 := shM F1_ F0_ ([[], [0], [1], [1,0]])
 obtain ⟨r_2, h2, hf0⟩ := bindE hf0
 have o5 := hasF h_law12_list (x := [[], [0], [1], [1,0]]) h2 (loC F4_ ([[], [0], [1], [1,0]] : List (List Int)) <| loN)
 have o6 := shM F1_ F0_ ([[], [0], [1], [1,0]])
 obtain ⟨r_3, h3, hf0⟩ := bindE hf0
 have o7 := hasF h_tries_Reduce (x := (r_2,2)) h3 (loC F7_ r_2 <| loC (eI .i64) 2 <| loN)
 have o8 := shM F1_ F0_ ([[1,0]])
 obtain ⟨r_4, h4, hf0⟩ := bindE hf0
 have o9 := hasF h_law12_list (x := [[1,0]]) h4 (loC F4_ ([[1,0]] : List (List Int)) <| loN)
 have o10 := shM F1_ F0_ ([[1,0]])
 obtain ⟨r_5, h5, hf0⟩ := bindE hf0
 have o11 := hasF h_tries_Prefixes (x := (r_4,2)) h5 (loC F7_ r_4 <| loC (eI .i64) 2 <| loN)
 have o12 := shM F1_ F0_ ([[], [0]])
 obtain ⟨r_6, h6, hf0⟩ := bindE hf0
 have o13 := hasF h_law12_list (x := [[], [0]]) h6 (loC F4_ ([[], [0]] : List (List Int)) <| loN)
 have o14 := shM F1_ F0_ ([[], [0]])
 have o15 := shM F1_ F0_ ([[0], [1]])
 obtain ⟨r_7, h7, hf0⟩ := bindE hf0
 have o16 := hasF h_law12_list (x := [[0], [1]]) h7 (loC F4_ ([[0], [1]] : List (List Int)) <| loN)
 have o17 := shM F1_ F0_ ([[0], [1]])
 obtain ⟨r_8, h8, hf0⟩ := bindE hf0
 have o18 := hasF h_tries_Concat (x := (r_6, r_7,2)) h8 (loC F7_ r_6 <| loC F7_ r_7 <| loC (eI .i64) 2 <| loN)
 refine awpAt X0 TTab_ok hC hm [1,2,3,4,5,6,7,8] 4000 [.g [], .l (([[1,0], [1], [0], [1]]).map F0_), .a (F7_ r_), .l (([[1,0], [1], [0], [1]]).map F0_), .g [], .a (.tup [eSl 1 true F0_ r_1.1, I r_1.2]), .g [], .l (([[], [0], [1], [1,0]]).map F0_), .a (F7_ r_2), .l (([[], [0], [1], [1,0]]).map F0_), .g [], .a (.tup [eSl 1 true F0_ r_3.1, I r_3.2]), .g [], .l (([[1,0]]).map F0_), .a (F7_ r_4), .l (([[1,0]]).map F0_), .g [], .a (.tup [eSl 1 true F0_ r_5.1, I r_5.2]), .g [], .l (([[], [0]]).map F0_), .a (F7_ r_6), .l (([[], [0]]).map F0_), .g [], .l (([[0], [1]]).map F0_), .a (F7_ r_7), .l (([[0], [1]]).map F0_), .g [], .a (.tup [eSl 1 true F0_ r_8.1, I r_8.2]), .cut 1] (sub [1,1,1,1,1,0] bd_law12_lives) (frs [1,1,1,1,1,0] [] bd_law12_lives []) [(1, .d (eSl 1 true F0_ r_1.1)), (2, .d (I r_1.2)), (3, .d (eSl 1 true F0_ r_3.1)), (4, .d (I r_3.2)), (5, .d (eSl 1 true F0_ r_5.1)), (6, .d (I r_5.2)), (7, .d (eSl 1 true F0_ r_8.1)), (8, .d (I r_8.2))] [ob (hasG h_law12_list), ob o0, ob o1, ob o2, ob (hasG h_tries_Sort), ob o3, ob (hasG h_law12_list), ob o4, ob o5, ob o6, ob (hasG h_tries_Reduce), ob o7, ob (hasG h_law12_list), ob o8, ob o9, ob o10, ob (hasG h_tries_Prefixes), ob o11, ob (hasG h_law12_list), ob o12, ob o13, ob o14, ob (hasG h_law12_list), ob o15, ob o16, ob o17, ob (hasG h_tries_Concat), ob o18] (by kernel_rfl) fun st0 h0 => awpOf h0 ?_
 rcases bifE hf0 with ⟨c0, hf0⟩ | ⟨c0, hf0⟩
 ·obtain rfl := someE hf0
  exact awpEnd X0 TTab_ok hC hm hE 4000 (hs := (rpN 45 bT [])) (x := (B false)) (ob c0 :: ob c0 :: ob c0 :: (rpN 42 oT [])) (by kernel_rfl) (LeV.refl _)
 ·rcases bifE hf0 with ⟨c1, hf0⟩ | ⟨c1, hf0⟩
  ·obtain rfl := someE hf0
   exact awpEnd X0 TTab_ok hC hm hE 4000 (hs := (bF :: bF :: bF :: (rpN 42 bT []))) (x := (B false)) (ob c0 :: ob c0 :: ob c0 :: ob c1 :: ob c1 :: ob c1 :: (rpN 39 oT [])) (by kernel_rfl) (LeV.refl _)
  ·rcases bifE hf0 with ⟨c2, hf0⟩ | ⟨c2, hf0⟩
   ·obtain rfl := someE hf0
    exact awpEnd X0 TTab_ok hC hm hE 4000 (hs := (rpN 6 bF (rpN 39 bT []))) (x := (B false)) (ob c0 :: ob c0 :: ob c0 :: ob c1 :: ob c1 :: ob c1 :: ob c2 :: ob c2 :: ob c2 :: (rpN 36 oT [])) (by kernel_rfl) (LeV.refl _)
   ·rcases bifE hf0 with ⟨c3, hf0⟩ | ⟨c3, hf0⟩
    ·obtain rfl := someE hf0
     exact awpEnd X0 TTab_ok hC hm hE 4000 (hs := (rpN 9 bF (rpN 36 bT []))) (x := (B false)) (ob c0 :: ob c0 :: ob c0 :: ob c1 :: ob c1 :: ob c1 :: ob c2 :: ob c2 :: ob c2 :: (rpN 9 (ob c3) (rpN 27 oT []))) (by kernel_rfl) (LeV.refl _)
    ·have o19 := shM F1_ F0_ ([[0], [1], [1,0]])
     obtain ⟨r_9, h9, hf0⟩ := bindE hf0
     have o20 := hasF h_law12_list (x := [[0], [1], [1,0]]) h9 (loC F4_ ([[0], [1], [1,0]] : List (List Int)) <| loN)
     have o21 := shM F1_ F0_ ([[0], [1], [1,0]])
     obtain ⟨r_10, h10, hf0⟩ := bindE hf0
     have o22 := tabC_at (f := .fn 16 []) (xs := [F4_ r_1.1, F7_ r_9]) (ls := []) (r := B r_10) (ys := []) [F4_ r_1.1, F7_ r_9] (show LeTs [F4_ r_1.1, F7_ r_9] [F4_ r_1.1, F7_ r_9] from inferInstance)
     rcases bifE hf0 with ⟨c4, hf0⟩ | ⟨c4, hf0⟩
     ·obtain rfl := someE hf0
      exact awpEnd ((xLend (P := Try.prog) TTab [] (lentCall (hasCall hC h_law12_same (x := (r_1.1, r_9)) h10)) 72).or X0) TTab_ok hC hm hE 4000 (hs := (rpN 15 bF (.g [] :: .l (([[0], [1], [1,0]]).map F0_) :: .a (F7_ r_9) :: .l (([[0], [1], [1,0]]).map F0_) :: bF :: bF :: bF :: (rpN 27 bT [])))) (x := (B false)) (ob c0 :: ob c0 :: ob c0 :: ob c1 :: ob c1 :: ob c1 :: ob c2 :: ob c2 :: ob c2 :: (rpN 6 (ob c3) (ob (hasG h_law12_list) :: ob o19 :: ob o20 :: ob o21 :: ob c3 :: ob o22 :: ob c3 :: ob c3 :: (rpN 8 (ob c4) (rpN 19 oT []))))) (by kernel_rfl) (LeV.refl _)
     ·have o23 := shM F1_ F0_ ([[0], [1,0]])
      obtain ⟨r_11, h11, hf0⟩ := bindE hf0
      have o24 := hasF h_law12_list (x := [[0], [1,0]]) h11 (loC F4_ ([[0], [1,0]] : List (List Int)) <| loN)
      have o25 := shM F1_ F0_ ([[0], [1,0]])
      obtain ⟨r_12, h12, hf0⟩ := bindE hf0
      have o26 := tabC_at (f := .fn 16 []) (xs := [F4_ r_3.1, F7_ r_11]) (ls := []) (r := B r_12) (ys := []) [F4_ r_3.1, F7_ r_11] (show LeTs [F4_ r_3.1, F7_ r_11] [F4_ r_3.1, F7_ r_11] from inferInstance)
      rcases bifE hf0 with ⟨c5, hf0⟩ | ⟨c5, hf0⟩
      ·obtain rfl := someE hf0
       exact awpEnd ((xLend (P := Try.prog) TTab [] (lentCall (hasCall hC h_law12_same (x := (r_3.1, r_11)) h12)) 81).or ((xLend (P := Try.prog) TTab [] (lentCall (hasCall hC h_law12_same (x := (r_1.1, r_9)) h10)) 72).or X0)) TTab_ok hC hm hE 4000 (hs := (rpN 15 bF (.g [] :: .l (([[0], [1], [1,0]]).map F0_) :: .a (F7_ r_9) :: .l (([[0], [1], [1,0]]).map F0_) :: (rpN 8 bF (.g [] :: .l (([[0], [1,0]]).map F0_) :: .a (F7_ r_11) :: .l (([[0], [1,0]]).map F0_) :: bF :: bF :: bF :: (rpN 19 bT [])))))) (x := (B false)) (ob c0 :: ob c0 :: ob c0 :: ob c1 :: ob c1 :: ob c1 :: ob c2 :: ob c2 :: ob c2 :: (rpN 6 (ob c3) (ob (hasG h_law12_list) :: ob o19 :: ob o20 :: ob o21 :: ob c3 :: ob o22 :: ob c3 :: ob c3 :: (rpN 5 (ob c4) (ob (hasG h_law12_list) :: ob o23 :: ob o24 :: ob o25 :: ob c4 :: ob o26 :: ob c4 :: ob c4 :: (rpN 8 (ob c5) (rpN 11 oT []))))))) (by kernel_rfl) (LeV.refl _)
      ·have o27 := shM F1_ F0_ ([[], [1], [1,0]])
       obtain ⟨r_13, h13, hf0⟩ := bindE hf0
       have o28 := hasF h_law12_list (x := [[], [1], [1,0]]) h13 (loC F4_ ([[], [1], [1,0]] : List (List Int)) <| loN)
       have o29 := shM F1_ F0_ ([[], [1], [1,0]])
       obtain ⟨r_14, h14, hf0⟩ := bindE hf0
       have o30 := tabC_at (f := .fn 16 []) (xs := [F4_ r_5.1, F7_ r_13]) (ls := []) (r := B r_14) (ys := []) [F4_ r_5.1, F7_ r_13] (show LeTs [F4_ r_5.1, F7_ r_13] [F4_ r_5.1, F7_ r_13] from inferInstance)
       rcases bifE hf0 with ⟨c6, hf0⟩ | ⟨c6, hf0⟩
       ·obtain rfl := someE hf0
        exact awpEnd ((xLend (P := Try.prog) TTab [] (lentCall (hasCall hC h_law12_same (x := (r_5.1, r_13)) h14)) 90).or ((xLend (P := Try.prog) TTab [] (lentCall (hasCall hC h_law12_same (x := (r_3.1, r_11)) h12)) 81).or ((xLend (P := Try.prog) TTab [] (lentCall (hasCall hC h_law12_same (x := (r_1.1, r_9)) h10)) 72).or X0))) TTab_ok hC hm hE 4000 (hs := (rpN 15 bF (.g [] :: .l (([[0], [1], [1,0]]).map F0_) :: .a (F7_ r_9) :: .l (([[0], [1], [1,0]]).map F0_) :: (rpN 8 bF (.g [] :: .l (([[0], [1,0]]).map F0_) :: .a (F7_ r_11) :: .l (([[0], [1,0]]).map F0_) :: (rpN 8 bF (.g [] :: .l (([[], [1], [1,0]]).map F0_) :: .a (F7_ r_13) :: .l (([[], [1], [1,0]]).map F0_) :: bF :: bF :: bF :: (rpN 11 bT [])))))))) (x := (B false)) (ob c0 :: ob c0 :: ob c0 :: ob c1 :: ob c1 :: ob c1 :: ob c2 :: ob c2 :: ob c2 :: (rpN 6 (ob c3) (ob (hasG h_law12_list) :: ob o19 :: ob o20 :: ob o21 :: ob c3 :: ob o22 :: ob c3 :: ob c3 :: (rpN 5 (ob c4) (ob (hasG h_law12_list) :: ob o23 :: ob o24 :: ob o25 :: ob c4 :: ob o26 :: ob c4 :: ob c4 :: (rpN 5 (ob c5) (ob (hasG h_law12_list) :: ob o27 :: ob o28 :: ob o29 :: ob c5 :: ob o30 :: ob c5 :: ob c5 :: (rpN 10 (ob c6) [oT])))))))) (by kernel_rfl) (LeV.refl _)
       ·have o31 := shM F1_ F0_ ([[0], [1], [0,0], [0,1]])
        obtain ⟨r_15, h15, hf0⟩ := bindE hf0
        have o32 := hasF h_law12_list (x := [[0], [1], [0,0], [0,1]]) h15 (loC F4_ ([[0], [1], [0,0], [0,1]] : List (List Int)) <| loN)
        have o33 := shM F1_ F0_ ([[0], [1], [0,0], [0,1]])
        obtain ⟨r_16, h16, hf0⟩ := bindE hf0
        have o34 := tabC_at (f := .fn 16 []) (xs := [F4_ r_8.1, F7_ r_15]) (ls := []) (r := B r_16) (ys := []) [F4_ r_8.1, F7_ r_15] (show LeTs [F4_ r_8.1, F7_ r_15] [F4_ r_8.1, F7_ r_15] from inferInstance)
        rcases bifE hf0 with ⟨c7, hf0⟩ | ⟨c7, hf0⟩
        ·obtain rfl := someE hf0
         exact awpEnd ((xLend (P := Try.prog) TTab [] (lentCall (hasCall hC h_law12_same (x := (r_8.1, r_15)) h16)) 101).or ((xLend (P := Try.prog) TTab [] (lentCall (hasCall hC h_law12_same (x := (r_5.1, r_13)) h14)) 90).or ((xLend (P := Try.prog) TTab [] (lentCall (hasCall hC h_law12_same (x := (r_3.1, r_11)) h12)) 81).or ((xLend (P := Try.prog) TTab [] (lentCall (hasCall hC h_law12_same (x := (r_1.1, r_9)) h10)) 72).or X0)))) TTab_ok hC hm hE 4000 (hs := (rpN 15 bF (.g [] :: .l (([[0], [1], [1,0]]).map F0_) :: .a (F7_ r_9) :: .l (([[0], [1], [1,0]]).map F0_) :: (rpN 8 bF (.g [] :: .l (([[0], [1,0]]).map F0_) :: .a (F7_ r_11) :: .l (([[0], [1,0]]).map F0_) :: (rpN 8 bF (.g [] :: .l (([[], [1], [1,0]]).map F0_) :: .a (F7_ r_13) :: .l (([[], [1], [1,0]]).map F0_) :: (rpN 10 bF [.g [], .l (([[0], [1], [0,0], [0,1]]).map F0_), .a (F7_ r_15), .l (([[0], [1], [0,0], [0,1]]).map F0_), bF, bF, bF, bT])))))))) (x := (B false)) (ob c0 :: ob c0 :: ob c0 :: ob c1 :: ob c1 :: ob c1 :: ob c2 :: ob c2 :: ob c2 :: (rpN 6 (ob c3) (ob (hasG h_law12_list) :: ob o19 :: ob o20 :: ob o21 :: ob c3 :: ob o22 :: ob c3 :: ob c3 :: (rpN 5 (ob c4) (ob (hasG h_law12_list) :: ob o23 :: ob o24 :: ob o25 :: ob c4 :: ob o26 :: ob c4 :: ob c4 :: (rpN 5 (ob c5) (ob (hasG h_law12_list) :: ob o27 :: ob o28 :: ob o29 :: ob c5 :: ob o30 :: ob c5 :: ob c5 :: (rpN 7 (ob c6) [ob (hasG h_law12_list), ob o31, ob o32, ob o33, ob c6, ob o34, ob c6, ob c6, ob c7])))))))) (by kernel_rfl) (LeV.refl _)
        ·obtain ⟨r_17, h17, hf0⟩ := bindE hf0
         have o35 := hasF h_tries_Upto (x := (2,1)) h17 (loC (eI .i64) 2 <| loC (eI .i64) 1 <| loN)
         obtain ⟨r_18, h18, hf0⟩ := bindE hf0
         have o36 := hasF h_tries_Exact (x := (2,2)) h18 (loC (eI .i64) 2 <| loC (eI .i64) 2 <| loN)
         obtain ⟨r_19, h19, hf0⟩ := bindE hf0
         have o37 := hasF h_tries_Upto (x := (2,12)) h19 (loC (eI .i64) 2 <| loC (eI .i64) 12 <| loN)
         have o38 := shM F1_ F0_ ([[0], [1,0]])
         obtain ⟨r_20, h20, hf0⟩ := bindE hf0
         have o39 := hasF h_law12_list (x := [[0], [1,0]]) h20 (loC F4_ ([[0], [1,0]] : List (List Int)) <| loN)
         have o40 := shM F1_ F0_ ([[0], [1,0]])
         obtain ⟨r_21, h21, hf0⟩ := bindE hf0
         have o41 := hasF h_tries_Of (x := (r_20,2)) h21 (loC F7_ r_20 <| loC (eI .i64) 2 <| loN)
         obtain ⟨r_22, h22, hf0⟩ := bindE hf0
         have o42 := hasF h_tries_Count (x := r_21.1) h22 (loC F21_ r_21.1 <| loN)
         refine awpAt ((xLend (P := Try.prog) TTab [] (lentCall (hasCall hC h_law12_same (x := (r_8.1, r_15)) h16)) 101).or ((xLend (P := Try.prog) TTab [] (lentCall (hasCall hC h_law12_same (x := (r_5.1, r_13)) h14)) 90).or ((xLend (P := Try.prog) TTab [] (lentCall (hasCall hC h_law12_same (x := (r_3.1, r_11)) h12)) 81).or ((xLend (P := Try.prog) TTab [] (lentCall (hasCall hC h_law12_same (x := (r_1.1, r_9)) h10)) 72).or X0)))) TTab_ok hC hm [1,2,3,4,6,8,9,10,11,13] 4000 (rpN 15 bF (.g [] :: .l (([[0], [1], [1,0]]).map F0_) :: .a (F7_ r_9) :: .l (([[0], [1], [1,0]]).map F0_) :: (rpN 8 bF (.g [] :: .l (([[0], [1,0]]).map F0_) :: .a (F7_ r_11) :: .l (([[0], [1,0]]).map F0_) :: (rpN 8 bF (.g [] :: .l (([[], [1], [1,0]]).map F0_) :: .a (F7_ r_13) :: .l (([[], [1], [1,0]]).map F0_) :: (rpN 10 bF (.g [] :: .l (([[0], [1], [0,0], [0,1]]).map F0_) :: .a (F7_ r_15) :: .l (([[0], [1], [0,0], [0,1]]).map F0_) :: (rpN 4 bF [.g [], .a (.tup [eSl 1 true F0_ r_17.1, I r_17.2]), .g [], .a (.tup [eSl 1 true F0_ r_18.1, I r_18.2]), .g [], .a (.tup [eSl 1 true F0_ r_19.1, I r_19.2]), .g [], .l (([[0], [1,0]]).map F0_), .a (F7_ r_20), .l (([[0], [1,0]]).map F0_), .g [], .a (.tup [.agg [I r_21.1.Inputs, eSl 2 true F12_ r_21.1.Nodes], I r_21.2]), .g [], .a (.tup [I r_22.1, I r_22.2]), .cut 3]))))))))) (sub [1,1,1,1,1,1,1,1,1,1,1,1,1,0] bd_law12_lives) (frs [1,1,1,1,1,1,1,1,1,1,1,1,1,0] [] bd_law12_lives []) [(1, .d (eSl 1 true F0_ r_17.1)), (2, .d (I r_17.2)), (3, .d (eSl 1 true F0_ r_18.1)), (4, .d (I r_18.2)), (6, .d (I r_19.2)), (8, .d (I r_21.2)), (9, .own (.box (F21_ r_21.1))), (10, .d (I r_22.1)), (11, .d (I r_22.2)), (13, .own (.box (.agg [I 2, eOs 2 true F10_ ([(S_tries_Node.mk ([1,2]) false), (S_tries_Node.mk ([(-1), (-1)]) true), (S_tries_Node.mk ([3, (-1)]) false), (S_tries_Node.mk ([(-1), (-1)]) true)])])))] (ob c0 :: ob c0 :: ob c0 :: ob c1 :: ob c1 :: ob c1 :: ob c2 :: ob c2 :: ob c2 :: (rpN 6 (ob c3) (ob (hasG h_law12_list) :: ob o19 :: ob o20 :: ob o21 :: ob c3 :: ob o22 :: ob c3 :: ob c3 :: (rpN 5 (ob c4) (ob (hasG h_law12_list) :: ob o23 :: ob o24 :: ob o25 :: ob c4 :: ob o26 :: ob c4 :: ob c4 :: (rpN 5 (ob c5) (ob (hasG h_law12_list) :: ob o27 :: ob o28 :: ob o29 :: ob c5 :: ob o30 :: ob c5 :: ob c5 :: (rpN 7 (ob c6) [ob (hasG h_law12_list), ob o31, ob o32, ob o33, ob c6, ob o34, ob c6, ob c6, ob c7, ob (hasG h_tries_Upto), ob o35, ob (hasG h_tries_Exact), ob o36, ob (hasG h_tries_Upto), ob o37, ob (hasG h_law12_list), ob o38, ob o39, ob o40, ob (hasG h_tries_Of), ob o41, ob (hasG h_tries_Count), ob o42])))))))) (by kernel_rfl) fun st0 h0 => awpOf h0 ?_
         rcases bifE hf0 with ⟨c8, hf0⟩ | ⟨c8, hf0⟩
         ·obtain rfl := someE hf0
          exact awpEnd X0 TTab_ok hC hm hE 4000 (hs := (rpN 39 bT [])) (x := (B false)) (ob c8 :: ob c8 :: ob c8 :: (rpN 36 oT [])) (by kernel_rfl) (LeV.refl _)
         ·rcases bifE hf0 with ⟨c9, hf0⟩ | ⟨c9, hf0⟩
          ·obtain rfl := someE hf0
           exact awpEnd X0 TTab_ok hC hm hE 4000 (hs := (bF :: bF :: bF :: (rpN 36 bT []))) (x := (B false)) (ob c8 :: ob c8 :: ob c8 :: ob c9 :: ob c9 :: ob c9 :: (rpN 33 oT [])) (by kernel_rfl) (LeV.refl _)
          ·rcases bifE hf0 with ⟨c10, hf0⟩ | ⟨c10, hf0⟩
           ·obtain rfl := someE hf0
            exact awpEnd X0 TTab_ok hC hm hE 4000 (hs := (rpN 6 bF (rpN 33 bT []))) (x := (B false)) (ob c8 :: ob c8 :: ob c8 :: ob c9 :: ob c9 :: ob c9 :: ob c10 :: ob c10 :: ob c10 :: (rpN 30 oT [])) (by kernel_rfl) (LeV.refl _)
           ·rcases bifE hf0 with ⟨c11, hf0⟩ | ⟨c11, hf0⟩
            ·obtain rfl := someE hf0
             exact awpEnd X0 TTab_ok hC hm hE 4000 (hs := (rpN 9 bF (rpN 30 bT []))) (x := (B false)) (ob c8 :: ob c8 :: ob c8 :: ob c9 :: ob c9 :: ob c9 :: ob c10 :: ob c10 :: ob c10 :: ob c11 :: ob c11 :: ob c11 :: (rpN 27 oT [])) (by kernel_rfl) (LeV.refl _)
            ·rcases bifE hf0 with ⟨c12, hf0⟩ | ⟨c12, hf0⟩
             ·obtain rfl := someE hf0
              exact awpEnd X0 TTab_ok hC hm hE 4000 (hs := (rpN 12 bF (rpN 27 bT []))) (x := (B false)) (ob c8 :: ob c8 :: ob c8 :: ob c9 :: ob c9 :: ob c9 :: ob c10 :: ob c10 :: ob c10 :: ob c11 :: ob c11 :: ob c11 :: ob c12 :: ob c12 :: ob c12 :: (rpN 24 oT [])) (by kernel_rfl) (LeV.refl _)
             ·rcases bifE hf0 with ⟨c13, hf0⟩ | ⟨c13, hf0⟩
              ·obtain rfl := someE hf0
               exact awpEnd X0 TTab_ok hC hm hE 4000 (hs := (rpN 15 bF (rpN 24 bT []))) (x := (B false)) (ob c8 :: ob c8 :: ob c8 :: ob c9 :: ob c9 :: ob c9 :: ob c10 :: ob c10 :: ob c10 :: ob c11 :: ob c11 :: ob c11 :: ob c12 :: ob c12 :: ob c12 :: (rpN 8 (ob c13) (rpN 16 oT []))) (by kernel_rfl) (LeV.refl _)
              ·have o43 := shM F1_ F0_ ([[], [0], [1]])
               obtain ⟨r_23, h23, hf0⟩ := bindE hf0
               have o44 := hasF h_law12_list (x := [[], [0], [1]]) h23 (loC F4_ ([[], [0], [1]] : List (List Int)) <| loN)
               have o45 := shM F1_ F0_ ([[], [0], [1]])
               obtain ⟨r_24, h24, hf0⟩ := bindE hf0
               have o46 := tabC_at (f := .fn 16 []) (xs := [F4_ r_17.1, F7_ r_23]) (ls := []) (r := B r_24) (ys := []) [F4_ r_17.1, F7_ r_23] (show LeTs [F4_ r_17.1, F7_ r_23] [F4_ r_17.1, F7_ r_23] from inferInstance)
               rcases bifE hf0 with ⟨c14, hf0⟩ | ⟨c14, hf0⟩
               ·obtain rfl := someE hf0
                exact awpEnd ((xLend (P := Try.prog) TTab [] (lentCall (hasCall hC h_law12_same (x := (r_17.1, r_23)) h24)) 172).or X0) TTab_ok hC hm hE 4000 (hs := (rpN 20 bF (.g [] :: .l (([[], [0], [1]]).map F0_) :: .a (F7_ r_23) :: .l (([[], [0], [1]]).map F0_) :: bF :: bF :: bF :: (rpN 16 bT [])))) (x := (B false)) (ob c8 :: ob c8 :: ob c8 :: ob c9 :: ob c9 :: ob c9 :: ob c10 :: ob c10 :: ob c10 :: ob c11 :: ob c11 :: ob c11 :: ob c12 :: ob c12 :: ob c12 :: (rpN 5 (ob c13) (ob (hasG h_law12_list) :: ob o43 :: ob o44 :: ob o45 :: ob c13 :: ob o46 :: ob c13 :: ob c13 :: (rpN 10 (ob c14) (rpN 6 oT []))))) (by kernel_rfl) (LeV.refl _)
               ·have o47 := shM F1_ F0_ ([[0,0], [0,1], [1,0], [1,1]])
                obtain ⟨r_25, h25, hf0⟩ := bindE hf0
                have o48 := hasF h_law12_list (x := [[0,0], [0,1], [1,0], [1,1]]) h25 (loC F4_ ([[0,0], [0,1], [1,0], [1,1]] : List (List Int)) <| loN)
                have o49 := shM F1_ F0_ ([[0,0], [0,1], [1,0], [1,1]])
                obtain ⟨r_26, h26, hf0⟩ := bindE hf0
                have o50 := tabC_at (f := .fn 16 []) (xs := [F4_ r_18.1, F7_ r_25]) (ls := []) (r := B r_26) (ys := []) [F4_ r_18.1, F7_ r_25] (show LeTs [F4_ r_18.1, F7_ r_25] [F4_ r_18.1, F7_ r_25] from inferInstance)
                rcases bifE hf0 with ⟨c15, hf0⟩ | ⟨c15, hf0⟩
                ·obtain rfl := someE hf0
                 exact awpEnd ((xLend (P := Try.prog) TTab [] (lentCall (hasCall hC h_law12_same (x := (r_18.1, r_25)) h26)) 183).or ((xLend (P := Try.prog) TTab [] (lentCall (hasCall hC h_law12_same (x := (r_17.1, r_23)) h24)) 172).or X0)) TTab_ok hC hm hE 4000 (hs := (rpN 20 bF (.g [] :: .l (([[], [0], [1]]).map F0_) :: .a (F7_ r_23) :: .l (([[], [0], [1]]).map F0_) :: (rpN 10 bF (.g [] :: .l (([[0,0], [0,1], [1,0], [1,1]]).map F0_) :: .a (F7_ r_25) :: .l (([[0,0], [0,1], [1,0], [1,1]]).map F0_) :: bF :: bF :: bF :: (rpN 6 bT [])))))) (x := (B false)) (ob c8 :: ob c8 :: ob c8 :: ob c9 :: ob c9 :: ob c9 :: ob c10 :: ob c10 :: ob c10 :: ob c11 :: ob c11 :: ob c11 :: ob c12 :: ob c12 :: ob c12 :: (rpN 5 (ob c13) (ob (hasG h_law12_list) :: ob o43 :: ob o44 :: ob o45 :: ob c13 :: ob o46 :: ob c13 :: ob c13 :: (rpN 7 (ob c14) (ob (hasG h_law12_list) :: ob o47 :: ob o48 :: ob o49 :: ob c14 :: ob o50 :: ob c14 :: ob c14 :: (rpN 5 (ob c15) [oT])))))) (by kernel_rfl) (LeV.refl _)
                ·have o51 := shM F10_ F11_ ([(S_tries_Node.mk ([1,2]) false), (S_tries_Node.mk ([(-1), (-1)]) true), (S_tries_Node.mk ([3, (-1)]) false), (S_tries_Node.mk ([(-1), (-1)]) true)])
                 obtain ⟨r_27, h27, hf0⟩ := bindE hf0
                 have o52 := hasF h_ref12_Equal (x := (r_21.1, (S_tries_Trie.mk 2 ([(S_tries_Node.mk ([1,2]) false), (S_tries_Node.mk ([(-1), (-1)]) true), (S_tries_Node.mk ([3, (-1)]) false), (S_tries_Node.mk ([(-1), (-1)]) true)])))) h27 (loC F21_ r_21.1 <| loC (e_tries_Trie (eI .i64) (eSl 2 true F11_)) (S_tries_Trie.mk 2 ([(S_tries_Node.mk ([1,2]) false), (S_tries_Node.mk ([(-1), (-1)]) true), (S_tries_Node.mk ([3, (-1)]) false), (S_tries_Node.mk ([(-1), (-1)]) true)])) <| loN)
                 rcases bifE hf0 with ⟨c16, hf0⟩ | ⟨c16, hf0⟩
                 ·obtain rfl := someE hf0
                  exact awpEnd ((xLend (P := Try.prog) TTab [] (lentCall (hasCall hC h_law12_same (x := (r_18.1, r_25)) h26)) 183).or ((xLend (P := Try.prog) TTab [] (lentCall (hasCall hC h_law12_same (x := (r_17.1, r_23)) h24)) 172).or X0)) TTab_ok hC hm hE 4000 (hs := (rpN 20 bF (.g [] :: .l (([[], [0], [1]]).map F0_) :: .a (F7_ r_23) :: .l (([[], [0], [1]]).map F0_) :: (rpN 10 bF (.g [] :: .l (([[0,0], [0,1], [1,0], [1,1]]).map F0_) :: .a (F7_ r_25) :: .l (([[0,0], [0,1], [1,0], [1,1]]).map F0_) :: (rpN 6 bF [.g [], .l (([(S_tries_Node.mk ([1,2]) false), (S_tries_Node.mk ([(-1), (-1)]) true), (S_tries_Node.mk ([3, (-1)]) false), (S_tries_Node.mk ([(-1), (-1)]) true)]).map F11_), .a (eB r_27), bF, bF, bT])))))) (x := (B false)) (ob c8 :: ob c8 :: ob c8 :: ob c9 :: ob c9 :: ob c9 :: ob c10 :: ob c10 :: ob c10 :: ob c11 :: ob c11 :: ob c11 :: ob c12 :: ob c12 :: ob c12 :: (rpN 5 (ob c13) (ob (hasG h_law12_list) :: ob o43 :: ob o44 :: ob o45 :: ob c13 :: ob o46 :: ob c13 :: ob c13 :: (rpN 7 (ob c14) [ob (hasG h_law12_list), ob o47, ob o48, ob o49, ob c14, ob o50, ob c14, ob c14, ob c15, ob c15, ob c15, ob (hasG h_ref12_Equal), ob o51, ob o52, ob c15, ob c15, ob c16])))) (by kernel_rfl) (LeV.refl _)
                 ·have o53 := shM F1_ F0_ ([[1], [0]])
                  obtain ⟨r_28, h28, hf0⟩ := bindE hf0
                  have o54 := hasF h_law12_list (x := [[1], [0]]) h28 (loC F4_ ([[1], [0]] : List (List Int)) <| loN)
                  have o55 := shM F1_ F0_ ([[1], [0]])
                  obtain ⟨r_29, h29, hf0⟩ := bindE hf0
                  have o56 := hasF h_tries_Check (x := (r_28,2)) h29 (loC F7_ r_28 <| loC (eI .i64) 2 <| loN)
                  rcases bifE hf0 with ⟨c17, hf0⟩ | ⟨c17, hf0⟩
                  ·have o57 := shM F1_ F0_ ([[0], [2]])
                   obtain ⟨r_30, h30, hf0⟩ := bindE hf0
                   have o58 := hasF h_law12_list (x := [[0], [2]]) h30 (loC F4_ ([[0], [2]] : List (List Int)) <| loN)
                   have o59 := shM F1_ F0_ ([[0], [2]])
                   obtain ⟨r_31, h31, hf0⟩ := bindE hf0
                   have o60 := hasF h_tries_Check (x := (r_30,2)) h31 (loC F7_ r_30 <| loC (eI .i64) 2 <| loN)
                   rcases bifE hf0 with ⟨c18, hf0⟩ | ⟨c18, hf0⟩
                   ·obtain ⟨r_32, h32, hf0⟩ := bindE hf0
                    have o61 := hasF h_tries_Check (x := ([], 0)) h32 (loC (eSl 1 true F2_) ([] : List (List Int)) <| loC (eI .i64) 0 <| loN)
                    rcases bifE hf0 with ⟨c19, hf0⟩ | ⟨c19, hf0⟩
                    ·obtain ⟨r_33, h33, hf0⟩ := bindE hf0
                     have o62 := hasF h_tries_Check (x := ([], 17)) h33 (loC (eSl 1 true F2_) ([] : List (List Int)) <| loC (eI .i64) 17 <| loN)
                     obtain rfl := someE hf0
                     exact awpEnd ((xLend (P := Try.prog) TTab [] (lentCall (hasCall hC h_law12_same (x := (r_18.1, r_25)) h26)) 183).or ((xLend (P := Try.prog) TTab [] (lentCall (hasCall hC h_law12_same (x := (r_17.1, r_23)) h24)) 172).or X0)) TTab_ok hC hm hE 4000 (hs := (rpN 20 bF (.g [] :: .l (([[], [0], [1]]).map F0_) :: .a (F7_ r_23) :: .l (([[], [0], [1]]).map F0_) :: (rpN 10 bF (.g [] :: .l (([[0,0], [0,1], [1,0], [1,1]]).map F0_) :: .a (F7_ r_25) :: .l (([[0,0], [0,1], [1,0], [1,1]]).map F0_) :: (rpN 6 bF (.g [] :: .l (([(S_tries_Node.mk ([1,2]) false), (S_tries_Node.mk ([(-1), (-1)]) true), (S_tries_Node.mk ([3, (-1)]) false), (S_tries_Node.mk ([(-1), (-1)]) true)]).map F11_) :: .a (eB r_27) :: bF :: bF :: bF :: .g [] :: .l (([[1], [0]]).map F0_) :: .a (F7_ r_28) :: .l (([[1], [0]]).map F0_) :: .g [] :: .a ((eI .i64) r_29) :: (rpN 4 bT [.g [], .l (([[0], [2]]).map F0_), .a (F7_ r_30), .l (([[0], [2]]).map F0_), bT, .g [], .a ((eI .i64) r_31), bT, bT, bT, .g [], .a ((eI .i64) r_32), bT, bT, bT, .g [], .a ((eI .i64) r_33), bT, bT])))))))) (x := (B (r_33 == 3))) (ob c8 :: ob c8 :: ob c8 :: ob c9 :: ob c9 :: ob c9 :: ob c10 :: ob c10 :: ob c10 :: ob c11 :: ob c11 :: ob c11 :: ob c12 :: ob c12 :: ob c12 :: (rpN 5 (ob c13) (ob (hasG h_law12_list) :: ob o43 :: ob o44 :: ob o45 :: ob c13 :: ob o46 :: ob c13 :: ob c13 :: (rpN 7 (ob c14) (ob (hasG h_law12_list) :: ob o47 :: ob o48 :: ob o49 :: ob c14 :: ob o50 :: ob c14 :: ob c14 :: ob c15 :: ob c15 :: ob c15 :: ob (hasG h_ref12_Equal) :: ob o51 :: ob o52 :: ob c15 :: ob c15 :: ob c16 :: ob (hasG h_law12_list) :: ob o53 :: ob o54 :: ob o55 :: ob (hasG h_tries_Check) :: ob o56 :: (rpN 4 (ob c17) [ob (hasG h_law12_list), ob o57, ob o58, ob o59, ob c17, ob (hasG h_tries_Check), ob o60, ob c17, ob c17, ob c18, ob (hasG h_tries_Check), ob o61, ob c18, ob c18, ob c19, ob (hasG h_tries_Check), ob o62, ob c19, ob c19])))))) (by kernel_rfl) (LeV.refl _)
                    ·obtain rfl := someE hf0
                     exact awpEnd ((xLend (P := Try.prog) TTab [] (lentCall (hasCall hC h_law12_same (x := (r_18.1, r_25)) h26)) 183).or ((xLend (P := Try.prog) TTab [] (lentCall (hasCall hC h_law12_same (x := (r_17.1, r_23)) h24)) 172).or X0)) TTab_ok hC hm hE 4000 (hs := (rpN 20 bF (.g [] :: .l (([[], [0], [1]]).map F0_) :: .a (F7_ r_23) :: .l (([[], [0], [1]]).map F0_) :: (rpN 10 bF (.g [] :: .l (([[0,0], [0,1], [1,0], [1,1]]).map F0_) :: .a (F7_ r_25) :: .l (([[0,0], [0,1], [1,0], [1,1]]).map F0_) :: (rpN 6 bF (.g [] :: .l (([(S_tries_Node.mk ([1,2]) false), (S_tries_Node.mk ([(-1), (-1)]) true), (S_tries_Node.mk ([3, (-1)]) false), (S_tries_Node.mk ([(-1), (-1)]) true)]).map F11_) :: .a (eB r_27) :: bF :: bF :: bF :: .g [] :: .l (([[1], [0]]).map F0_) :: .a (F7_ r_28) :: .l (([[1], [0]]).map F0_) :: .g [] :: .a ((eI .i64) r_29) :: (rpN 4 bT [.g [], .l (([[0], [2]]).map F0_), .a (F7_ r_30), .l (([[0], [2]]).map F0_), bT, .g [], .a ((eI .i64) r_31), bT, bT, bT, .g [], .a ((eI .i64) r_32), bT, bT, bF, bF, bF])))))))) (x := (B false)) (ob c8 :: ob c8 :: ob c8 :: ob c9 :: ob c9 :: ob c9 :: ob c10 :: ob c10 :: ob c10 :: ob c11 :: ob c11 :: ob c11 :: ob c12 :: ob c12 :: ob c12 :: (rpN 5 (ob c13) (ob (hasG h_law12_list) :: ob o43 :: ob o44 :: ob o45 :: ob c13 :: ob o46 :: ob c13 :: ob c13 :: (rpN 7 (ob c14) (ob (hasG h_law12_list) :: ob o47 :: ob o48 :: ob o49 :: ob c14 :: ob o50 :: ob c14 :: ob c14 :: ob c15 :: ob c15 :: ob c15 :: ob (hasG h_ref12_Equal) :: ob o51 :: ob o52 :: ob c15 :: ob c15 :: ob c16 :: ob (hasG h_law12_list) :: ob o53 :: ob o54 :: ob o55 :: ob (hasG h_tries_Check) :: ob o56 :: (rpN 4 (ob c17) [ob (hasG h_law12_list), ob o57, ob o58, ob o59, ob c17, ob (hasG h_tries_Check), ob o60, ob c17, ob c17, ob c18, ob (hasG h_tries_Check), ob o61, ob c18, ob c18, ob c19, ob c19, ob c19])))))) (by kernel_rfl) (LeV.refl _)
                   ·obtain rfl := someE hf0
                    exact awpEnd ((xLend (P := Try.prog) TTab [] (lentCall (hasCall hC h_law12_same (x := (r_18.1, r_25)) h26)) 183).or ((xLend (P := Try.prog) TTab [] (lentCall (hasCall hC h_law12_same (x := (r_17.1, r_23)) h24)) 172).or X0)) TTab_ok hC hm hE 4000 (hs := (rpN 20 bF (.g [] :: .l (([[], [0], [1]]).map F0_) :: .a (F7_ r_23) :: .l (([[], [0], [1]]).map F0_) :: (rpN 10 bF (.g [] :: .l (([[0,0], [0,1], [1,0], [1,1]]).map F0_) :: .a (F7_ r_25) :: .l (([[0,0], [0,1], [1,0], [1,1]]).map F0_) :: (rpN 6 bF (.g [] :: .l (([(S_tries_Node.mk ([1,2]) false), (S_tries_Node.mk ([(-1), (-1)]) true), (S_tries_Node.mk ([3, (-1)]) false), (S_tries_Node.mk ([(-1), (-1)]) true)]).map F11_) :: .a (eB r_27) :: bF :: bF :: bF :: .g [] :: .l (([[1], [0]]).map F0_) :: .a (F7_ r_28) :: .l (([[1], [0]]).map F0_) :: .g [] :: .a ((eI .i64) r_29) :: (rpN 4 bT (.g [] :: .l (([[0], [2]]).map F0_) :: .a (F7_ r_30) :: .l (([[0], [2]]).map F0_) :: bT :: .g [] :: .a ((eI .i64) r_31) :: bT :: bT :: (rpN 6 bF [])))))))))) (x := (B false)) (ob c8 :: ob c8 :: ob c8 :: ob c9 :: ob c9 :: ob c9 :: ob c10 :: ob c10 :: ob c10 :: ob c11 :: ob c11 :: ob c11 :: ob c12 :: ob c12 :: ob c12 :: (rpN 5 (ob c13) (ob (hasG h_law12_list) :: ob o43 :: ob o44 :: ob o45 :: ob c13 :: ob o46 :: ob c13 :: ob c13 :: (rpN 7 (ob c14) (ob (hasG h_law12_list) :: ob o47 :: ob o48 :: ob o49 :: ob c14 :: ob o50 :: ob c14 :: ob c14 :: ob c15 :: ob c15 :: ob c15 :: ob (hasG h_ref12_Equal) :: ob o51 :: ob o52 :: ob c15 :: ob c15 :: ob c16 :: ob (hasG h_law12_list) :: ob o53 :: ob o54 :: ob o55 :: ob (hasG h_tries_Check) :: ob o56 :: (rpN 4 (ob c17) [ob (hasG h_law12_list), ob o57, ob o58, ob o59, ob c17, ob (hasG h_tries_Check), ob o60, ob c17, ob c17, ob c18, ob c18, ob c18, oF, oF, oF])))))) (by kernel_rfl) (LeV.refl _)
                  ·obtain rfl := someE hf0
                   exact awpEnd ((xLend (P := Try.prog) TTab [] (lentCall (hasCall hC h_law12_same (x := (r_18.1, r_25)) h26)) 183).or ((xLend (P := Try.prog) TTab [] (lentCall (hasCall hC h_law12_same (x := (r_17.1, r_23)) h24)) 172).or X0)) TTab_ok hC hm hE 4000 (hs := (rpN 20 bF (.g [] :: .l (([[], [0], [1]]).map F0_) :: .a (F7_ r_23) :: .l (([[], [0], [1]]).map F0_) :: (rpN 10 bF (.g [] :: .l (([[0,0], [0,1], [1,0], [1,1]]).map F0_) :: .a (F7_ r_25) :: .l (([[0,0], [0,1], [1,0], [1,1]]).map F0_) :: (rpN 6 bF (.g [] :: .l (([(S_tries_Node.mk ([1,2]) false), (S_tries_Node.mk ([(-1), (-1)]) true), (S_tries_Node.mk ([3, (-1)]) false), (S_tries_Node.mk ([(-1), (-1)]) true)]).map F11_) :: .a (eB r_27) :: bF :: bF :: bF :: .g [] :: .l (([[1], [0]]).map F0_) :: .a (F7_ r_28) :: .l (([[1], [0]]).map F0_) :: .g [] :: .a ((eI .i64) r_29) :: (rpN 13 bF [])))))))) (x := (B false)) (ob c8 :: ob c8 :: ob c8 :: ob c9 :: ob c9 :: ob c9 :: ob c10 :: ob c10 :: ob c10 :: ob c11 :: ob c11 :: ob c11 :: ob c12 :: ob c12 :: ob c12 :: (rpN 5 (ob c13) (ob (hasG h_law12_list) :: ob o43 :: ob o44 :: ob o45 :: ob c13 :: ob o46 :: ob c13 :: ob c13 :: (rpN 7 (ob c14) (ob (hasG h_law12_list) :: ob o47 :: ob o48 :: ob o49 :: ob c14 :: ob o50 :: ob c14 :: ob c14 :: ob c15 :: ob c15 :: ob c15 :: ob (hasG h_ref12_Equal) :: ob o51 :: ob o52 :: ob c15 :: ob c15 :: ob c16 :: ob (hasG h_law12_list) :: ob o53 :: ob o54 :: ob o55 :: ob (hasG h_tries_Check) :: ob o56 :: (rpN 7 (ob c17) (rpN 6 oF []))))))) (by kernel_rfl) (LeV.refl _)
noncomputable def bd_ref12_Exact : Code := (Try.f28.body).getD .skip
noncomputable def sp_ref12_Exact : Spec := spF (α := Int × Int) (ρ := List (List Int)) 28 (fun x => [(eI .i64) x.1, (eI .i64) x.2]) (fun r => F9_ r) (fun x => ref12_Exact x.1 x.2) [] (by
 rintro ⟨a0, a1⟩ ⟨b0, b1⟩ h
 have e0 := EncI.inj (f := (eI .i64)) _ _ (List.cons.inj h).1
 replace h := (List.cons.inj h).2
 have e1 := EncI.inj (f := (eI .i64)) _ _ (List.cons.inj h).1
 subst e0 e1
 rfl)
abbrev ST_ref12_Exact_J1 (out : List (List Int)) : List (Nat × T) := [(5, .own (eOs 1 false F3_ out))]
abbrev ST_ref12_Exact_J3 (inputs : Int) (k_ : Int) (n_ : Int) (out2 : List (List Int)) : List (Nat × T) := [(0, .d (I inputs)), (1, .d (I k_)), (5, .own (eOs 1 false F3_ out2)), (6, .d (I n_))]
abbrev ST_ref12_Exact_J4 (inputs : Int) (k_ : Int) (n_ : Int) (next : List (List Int)) : List (Nat × T) := [(0, .d (I inputs)), (1, .d (I k_)), (6, .d (I n_)), (7, .own (eOs 1 false F3_ next))]
abbrev ST_ref12_Exact_J6 (inputs : Int) (k_ : Int) (out1 : List (List Int)) (n_ : Int) (i_ : Int) (next2 : List (List Int)) : List (Nat × T) := [(0, .d (I inputs)), (1, .d (I k_)), (5, .own (eOs 1 false F3_ out1)), (6, .d (I n_)), (7, .own (eOs 1 false F3_ next2)), (8, .d (I i_))]
abbrev ST_ref12_Exact_L7 (inputs : Int) (k_ : Int) (out1 : List (List Int)) (n_ : Int) (i_ : Int) (next3 : List (List Int)) (s_ : Int) : List (Nat × T) := [(0, .d (I inputs)), (1, .d (I k_)), (5, .own (eOs 1 false F3_ out1)), (6, .d (I n_)), (7, .own (eOs 1 false F3_ next3)), (8, .d (I i_)), (9, .d (I s_))]
abbrev ST_ref12_Exact_L5 (inputs : Int) (k_ : Int) (out1 : List (List Int)) (n_ : Int) (next1 : List (List Int)) (i_ : Int) : List (Nat × T) := [(0, .d (I inputs)), (1, .d (I k_)), (5, .own (eOs 1 false F3_ out1)), (6, .d (I n_)), (7, .own (eOs 1 false F3_ next1)), (8, .d (I i_))]
abbrev ST_ref12_Exact_L2 (inputs : Int) (k_ : Int) (out1 : List (List Int)) (n_ : Int) : List (Nat × T) := [(0, .d (I inputs)), (1, .d (I k_)), (5, .own (eOs 1 false F3_ out1)), (6, .d (I n_))]
theorem w_ref12_Exact {ctr : Ctr} (hC : CtrOk Try.prog ctr) (hm : Try.prog.follows .mixedOrders = true) : sp_ref12_Exact.Ok Try.prog := by
 refine spF_ok ?_
 rintro ⟨inputs, k_⟩ r0 hf0
 try unfold ref12_Exact at hf0
 refine callOk_h (tt := TTab) (keep := true) (rs := [(4, none)]) (n := ⟨42, []⟩) (body := bd_ref12_Exact) TTab_ok Try.func28 rfl (by kernel_rfl) rfl rfl (by show (2 : Nat) ≤ 42; decide) fun E hE => ?_
 refine awpAt X0 TTab_ok hC hm [0,1,5] 4000 [.cut 2] (sub [1,1] bd_ref12_Exact) (frs [1,1] [] bd_ref12_Exact []) [(0, .d (I inputs)), (1, .d (I k_)), (5, .own (eOs 1 true F1_ ([[]])))] [] (by kernel_rfl) fun st0 h0 => ?_
 refine awpJoin' (X := List (List Int)) (x := (sub [1,1,2] bd_ref12_Exact)) (y := (sub [1,1,1] bd_ref12_Exact)) (by kernel_rfl) [5] [0,1,5] _ h0 (fun z => ref12_Exact_J1 z = some r0) (fun z => ST_ref12_Exact_J1 z) ?_ fun J1 hJ1 => ?_
 ·rintro out hf0
  unfold ref12_Exact_J1 at hf0
  obtain rfl := someE hf0
  exact awpEnd X0 TTab_ok hC hm hE 4000 (hs := []) (x := (eOs 1 false F3_ out)) [] (by kernel_rfl) (LeV.refl _)
 ·obtain ⟨t2, ht2, hf0⟩ := bindE hf0
  refine awpAt X0 TTab_ok hC hm [0,1,5,6] 4000 [] (sub [1,1,2,1,0] bd_ref12_Exact) (frs [1,1,2,1,0] [J1] bd_ref12_Exact []) [(0, .d (I inputs)), (1, .d (I k_)), (5, .own (eOs 1 true F1_ ([[]]))), (6, .d (I 0))] [] (by kernel_rfl) fun st0 h0 => ?_
  refine awpLoop' (X := (List (List Int) × Int) × Nat) (c' := (sub [1,1,2,1,0,0] bd_ref12_Exact)) (by kernel_rfl) [0,1,5,6] (fun x => loopN (fun s => ref12_Exact_L2 inputs k_ s.1 s.2) x.2 x.1 = some t2) (fun x => x.2) (fun x => ST_ref12_Exact_L2 inputs k_ x.1.1 x.1.2) ((([[]] : List (List Int)), 0), fuel) _ h0 inferInstance ht2 ?_
  rintro ⟨⟨out1, n_⟩, n2⟩ hn2 J2 hJ2
  obtain ⟨m2, lr1, rfl, hf1, hl1⟩ := loopE hn2
  try unfold ref12_Exact_L2 at hf1
  rcases bifE hf1 with ⟨c0, hf1⟩ | ⟨c0, hf1⟩
  ·refine awpAt X0 TTab_ok hC hm [0,1,5,6] 4000 [bT, .cut 0] (sub [1,1,2,1,0,0,1] bd_ref12_Exact) (frs [1,1,2,1,0,0,1] [J1, J2] bd_ref12_Exact []) [(0, .d (I inputs)), (1, .d (I k_)), (5, .own (eOs 1 false F3_ out1)), (6, .d (I n_))] [ob c0] (by kernel_rfl) fun st0 h0 => ?_
   refine awpJoin' (X := List (List Int)) (x := (sub [1,1,2,1,0,0,1,2] bd_ref12_Exact)) (y := (sub [1,1,2,1,0,0,1,1] bd_ref12_Exact)) (by kernel_rfl) [0,1,5,6] [0,1,5,6] _ h0 (fun z => ref12_Exact_J3 n_ z = some lr1) (fun z => ST_ref12_Exact_J3 inputs k_ n_ z) ?_ fun J3 hJ3 => ?_
   ·rintro out2 hf1
    unfold ref12_Exact_J3 at hf1
    obtain rfl := someE hf1
    exact awpBack X0 TTab_ok hC hm [0,1,5,6] 4000 [] J2 [(0, .d (I inputs)), (1, .d (I k_)), (5, .own (eOs 1 false F3_ out2)), (6, .d (I (w64 (n_ + 1))))] [] (by kernel_rfl) fun st0 h0 => hJ2 st0 _ ((out2, w64 (n_ + 1)), m2) hl1 (Nat.lt_succ_self m2) h0 inferInstance
   ·refine awpAt X0 TTab_ok hC hm [0,1,5,6,7] 4000 [.cut 1] (sub [1,1,2,1,0,0,1,2,0,1] bd_ref12_Exact) (frs [1,1,2,1,0,0,1,2,0,1] [J1, J2, J3] bd_ref12_Exact []) [(0, .d (I inputs)), (1, .d (I k_)), (5, .own (eOs 1 false F3_ out1)), (6, .d (I n_)), (7, .own (eOs 1 true F2_ []))] [] (by kernel_rfl) fun st0 h0 => ?_
    refine awpJoin' (X := List (List Int)) (x := (sub [1,1,2,1,0,0,1,2,0,1,2] bd_ref12_Exact)) (y := (sub [1,1,2,1,0,0,1,2,0,1,1] bd_ref12_Exact)) (by kernel_rfl) [0,1,6,7] [0,1,5,6,7] _ h0 (fun z => ref12_Exact_J4 n_ z = some lr1) (fun z => ST_ref12_Exact_J4 inputs k_ n_ z) ?_ fun J4 hJ4 => ?_
    ·rintro next hf1
     unfold ref12_Exact_J4 at hf1
     exact awpBack X0 TTab_ok hC hm [0,1,5,6] 4000 [] J3 [(0, .d (I inputs)), (1, .d (I k_)), (5, .own (eOs 1 false F3_ next)), (6, .d (I n_))] [] (by kernel_rfl) fun st0 h0 => hJ3 st0 _ next hf1 h0 inferInstance
    ·obtain ⟨t5, ht5, hf1⟩ := bindE hf1
     refine awpAt X0 TTab_ok hC hm [0,1,5,6,7,8] 4000 [] (sub [1,1,2,1,0,0,1,2,0,1,2,1,0] bd_ref12_Exact) (frs [1,1,2,1,0,0,1,2,0,1,2,1,0] [J1, J2, J3, J4] bd_ref12_Exact []) [(0, .d (I inputs)), (1, .d (I k_)), (5, .own (eOs 1 false F3_ out1)), (6, .d (I n_)), (7, .own (eOs 1 true F3_ [])), (8, .d (I 0))] [] (by kernel_rfl) fun st0 h0 => ?_
     refine awpLoop' (X := (List (List Int) × Int) × Nat) (c' := (sub [1,1,2,1,0,0,1,2,0,1,2,1,0,0] bd_ref12_Exact)) (by kernel_rfl) [0,1,5,6,7,8] (fun x => loopN (fun s => ref12_Exact_L5 inputs out1 s.1 s.2) x.2 x.1 = some t5) (fun x => x.2) (fun x => ST_ref12_Exact_L5 inputs k_ out1 n_ x.1.1 x.1.2) ((([] : List (List Int)), 0), fuel) _ h0 inferInstance ht5 ?_
     rintro ⟨⟨next1, i_⟩, n5⟩ hn5 J5 hJ5
     obtain ⟨m5, lr2, rfl, hf2, hl2⟩ := loopE hn5
     try unfold ref12_Exact_L5 at hf2
     rcases bifE hf2 with ⟨c1, hf2⟩ | ⟨c1, hf2⟩
     ·refine awpAt X0 TTab_ok hC hm [0,1,5,6,7,8] 4000 [aLn out1.length, bT, .cut 0] (sub [1,1,2,1,0,0,1,2,0,1,2,1,0,0,1] bd_ref12_Exact) (frs [1,1,2,1,0,0,1,2,0,1,2,1,0,0,1] [J1, J2, J3, J4, J5] bd_ref12_Exact []) [(0, .d (I inputs)), (1, .d (I k_)), (5, .own (eOs 1 false F3_ out1)), (6, .d (I n_)), (7, .own (eOs 1 false F3_ next1)), (8, .d (I i_))] [ob (lnM F3_ out1), ob c1] (by kernel_rfl) fun st0 h0 => ?_
      refine awpJoin' (X := List (List Int)) (x := (sub [1,1,2,1,0,0,1,2,0,1,2,1,0,0,1,2] bd_ref12_Exact)) (y := (sub [1,1,2,1,0,0,1,2,0,1,2,1,0,0,1,1] bd_ref12_Exact)) (by kernel_rfl) [0,1,5,6,7,8] [0,1,5,6,7,8] _ h0 (fun z => ref12_Exact_J6 i_ z = some lr2) (fun z => ST_ref12_Exact_J6 inputs k_ out1 n_ i_ z) ?_ fun J6 hJ6 => ?_
      ·rintro next2 hf2
       unfold ref12_Exact_J6 at hf2
       obtain rfl := someE hf2
       exact awpBack X0 TTab_ok hC hm [0,1,5,6,7,8] 4000 [] J5 [(0, .d (I inputs)), (1, .d (I k_)), (5, .own (eOs 1 false F3_ out1)), (6, .d (I n_)), (7, .own (eOs 1 false F3_ next2)), (8, .d (I (w64 (i_ + 1))))] [] (by kernel_rfl) fun st0 h0 => hJ5 st0 _ ((next2, w64 (i_ + 1)), m5) hl2 (Nat.lt_succ_self m5) h0 inferInstance
      ·obtain ⟨t7, ht7, hf2⟩ := bindE hf2
       refine awpAt X0 TTab_ok hC hm [0,1,5,6,7,8,9] 4000 [] (sub [1,1,2,1,0,0,1,2,0,1,2,1,0,0,1,2,0,1,0] bd_ref12_Exact) (frs [1,1,2,1,0,0,1,2,0,1,2,1,0,0,1,2,0,1,0] [J1, J2, J3, J4, J5, J6] bd_ref12_Exact []) [(0, .d (I inputs)), (1, .d (I k_)), (5, .own (eOs 1 false F3_ out1)), (6, .d (I n_)), (7, .own (eOs 1 false F3_ next1)), (8, .d (I i_)), (9, .d (I 0))] [] (by kernel_rfl) fun st0 h0 => ?_
       refine awpLoop' (X := (List (List Int) × Int) × Nat) (c' := (sub [1,1,2,1,0,0,1,2,0,1,2,1,0,0,1,2,0,1,0,0] bd_ref12_Exact)) (by kernel_rfl) [0,1,5,6,7,8,9] (fun x => loopN (fun s => ref12_Exact_L7 inputs out1 i_ s.1 s.2) x.2 x.1 = some t7) (fun x => x.2) (fun x => ST_ref12_Exact_L7 inputs k_ out1 n_ i_ x.1.1 x.1.2) ((next1,0), fuel) _ h0 inferInstance ht7 ?_
       rintro ⟨⟨next3, s_⟩, n7⟩ hn7 J7 hJ7
       obtain ⟨m7, lr3, rfl, hf3, hl3⟩ := loopE hn7
       try unfold ref12_Exact_L7 at hf3
       rcases bifE hf3 with ⟨c2, hf3⟩ | ⟨c2, hf3⟩
       ·obtain ⟨out_e, h0, hf3⟩ := bindE hf3
        obtain ⟨g0, hf3⟩ := gdE hf3
        obtain ⟨g1, hf3⟩ := gdE hf3
        have o0 := aM (eI .i64) out_e ([s_] : List Int)
        have o1 := oC F3_ (out_e ++ ([s_] : List Int)) []
        obtain ⟨g2, hf3⟩ := gdE hf3
        have o2 := aL F3_ F3_ g2
        have o3 := aM F3_ next3 ([(out_e ++ ([s_] : List Int))] : List (List Int))
        obtain rfl := someE hf3
        exact awpBack X0 TTab_ok hC hm [0,1,5,6,7,8,9] 4000 [bT, .a (F3_ out_e), .a (F3_ out_e), bT, .a (F3_ out_e), .l (out_e.map (eI .i64)), bT, .l ((out_e ++ ([s_] : List Int)).map (eI .i64)), bF, .l ((next3 ++ ([(out_e ++ ([s_] : List Int))] : List (List Int))).map F3_)] J7 [(0, .d (I inputs)), (1, .d (I k_)), (5, .own (eOs 1 false F3_ out1)), (6, .d (I n_)), (7, .own (eOs 1 false F3_ (next3 ++ ([(out_e ++ ([s_] : List Int))] : List (List Int))))), (8, .d (I i_)), (9, .d (I (w64 (s_ + 1))))] [ob c2, ob (iL F3_ h0), ob (iM F3_ h0), ob (iM F3_ h0), ob (dM (eI .i64) out_e), ob (iM F3_ h0), ob (dM (eI .i64) out_e), ob (aL (eI .i64) (eI .i64) g0), ob (aM0 (eI .i64) out_e), ob (dM (eI .i64) ([s_] : List Int)), ob (dM (eI .i64) ([s_] : List Int)), ob (aL (eI .i64) (eI .i64) g1), ob o0, ob o1, ob o2, ob o3] (by kernel_rfl) fun st0 h0 => hJ7 st0 _ (((next3 ++ ([(out_e ++ ([s_] : List Int))] : List (List Int))), w64 (s_ + 1)), m7) hl3 (Nat.lt_succ_self m7) h0 inferInstance
       ·obtain rfl := someE hf3
        obtain rfl := hl3
        exact awpBack X0 TTab_ok hC hm [0,1,5,6,7,8] 4000 [bF] J6 [(0, .d (I inputs)), (1, .d (I k_)), (5, .own (eOs 1 false F3_ out1)), (6, .d (I n_)), (7, .own (eOs 1 false F3_ next3)), (8, .d (I i_))] [ob c2] (by kernel_rfl) fun st0 h0 => hJ6 st0 _ next3 hf2 h0 inferInstance
     ·obtain rfl := someE hf2
      obtain rfl := hl2
      exact awpBack X0 TTab_ok hC hm [0,1,6,7] 4000 [aLn out1.length, bF] J4 [(0, .d (I inputs)), (1, .d (I k_)), (6, .d (I n_)), (7, .own (eOs 1 false F3_ next1))] [ob (lnM F3_ out1), ob c1] (by kernel_rfl) fun st0 h0 => hJ4 st0 _ next1 hf1 h0 inferInstance
  ·obtain rfl := someE hf1
   obtain rfl := hl1
   exact awpBack X0 TTab_ok hC hm [5] 4000 [bF] J1 [(5, .own (eOs 1 false F3_ out1))] [ob c0] (by kernel_rfl) fun st0 h0 => hJ1 st0 _ out1 hf0 h0 inferInstance
noncomputable def bd_ref12_Upto : Code := (Try.f27.body).getD .skip
noncomputable def sp_ref12_Upto : Spec := spF (α := Int × Int) (ρ := List (List Int)) 27 (fun x => [(eI .i64) x.1, (eI .i64) x.2]) (fun r => F8_ r) (fun x => ref12_Upto x.1 x.2) [] (by
 rintro ⟨a0, a1⟩ ⟨b0, b1⟩ h
 have e0 := EncI.inj (f := (eI .i64)) _ _ (List.cons.inj h).1
 replace h := (List.cons.inj h).2
 have e1 := EncI.inj (f := (eI .i64)) _ _ (List.cons.inj h).1
 subst e0 e1
 rfl)
abbrev ST_ref12_Upto_J1 (out : List (List Int)) : List (Nat × T) := [(5, .own (eOs 1 false F2_ out))]
abbrev ST_ref12_Upto_L2 (inputs : Int) (k_ : Int) (out1 : List (List Int)) (n_ : Int) : List (Nat × T) := [(0, .d (I inputs)), (1, .d (I k_)), (5, .own (eOs 1 false F2_ out1)), (6, .d (I n_))]
theorem w_ref12_Upto {ctr : Ctr} (hC : CtrOk Try.prog ctr) (hm : Try.prog.follows .mixedOrders = true) (h_ref12_Exact : ctr.Has sp_ref12_Exact) : sp_ref12_Upto.Ok Try.prog := by
 refine spF_ok ?_
 rintro ⟨inputs, k_⟩ r0 hf0
 try unfold ref12_Upto at hf0
 refine callOk_h (tt := TTab) (keep := true) (rs := [(4, none)]) (n := ⟨18, []⟩) (body := bd_ref12_Upto) TTab_ok Try.func27 rfl (by kernel_rfl) rfl rfl (by show (2 : Nat) ≤ 18; decide) fun E hE => ?_
 refine awpAt ((xSeal TTab_ok (.inl 16) [15]).or X0) TTab_ok hC hm [0,1,5] 4000 [.cut 2] (sub [1,1] bd_ref12_Upto) (frs [1,1] [] bd_ref12_Upto []) [(0, .d (I inputs)), (1, .d (I k_)), (5, .own (eOs 1 true F2_ []))] [] (by kernel_rfl) fun st0 h0 => ?_
 refine awpJoin' (X := List (List Int)) (x := (sub [1,1,2] bd_ref12_Upto)) (y := (sub [1,1,1] bd_ref12_Upto)) (by kernel_rfl) [5] [0,1,5] _ h0 (fun z => ref12_Upto_J1 z = some r0) (fun z => ST_ref12_Upto_J1 z) ?_ fun J1 hJ1 => ?_
 ·rintro out hf0
  unfold ref12_Upto_J1 at hf0
  obtain rfl := someE hf0
  exact awpEnd ((xSeal TTab_ok (.inl 16) [15]).or X0) TTab_ok hC hm hE 4000 (hs := []) (x := (eOs 1 false F2_ out)) [] (by kernel_rfl) (LeV.refl _)
 ·obtain ⟨t2, ht2, hf0⟩ := bindE hf0
  refine awpAt ((xSeal TTab_ok (.inl 16) [15]).or X0) TTab_ok hC hm [0,1,5,6] 4000 [] (sub [1,1,2,1,0] bd_ref12_Upto) (frs [1,1,2,1,0] [J1] bd_ref12_Upto []) [(0, .d (I inputs)), (1, .d (I k_)), (5, .own (eOs 1 true F2_ [])), (6, .d (I 0))] [] (by kernel_rfl) fun st0 h0 => ?_
  refine awpLoop' (X := (List (List Int) × Int) × Nat) (c' := (sub [1,1,2,1,0,0] bd_ref12_Upto)) (by kernel_rfl) [0,1,5,6] (fun x => loopN (fun s => ref12_Upto_L2 inputs k_ s.1 s.2) x.2 x.1 = some t2) (fun x => x.2) (fun x => ST_ref12_Upto_L2 inputs k_ x.1.1 x.1.2) ((([] : List (List Int)), 0), fuel) _ h0 inferInstance ht2 ?_
  rintro ⟨⟨out1, n_⟩, n2⟩ hn2 J2 hJ2
  obtain ⟨m2, lr1, rfl, hf1, hl1⟩ := loopE hn2
  try unfold ref12_Upto_L2 at hf1
  rcases bifE hf1 with ⟨c0, hf1⟩ | ⟨c0, hf1⟩
  ·obtain ⟨r_, h0, hf1⟩ := bindE hf1
   have o0 := hasF h_ref12_Exact (x := (inputs, n_)) h0 (loC (eI .i64) inputs <| loC (eI .i64) n_ <| loN)
   have o1 := shM F3_ F2_ r_
   obtain ⟨g0, hf1⟩ := gdE hf1
   have o2 := aL F2_ F2_ g0
   obtain rfl := someE hf1
   exact awpBack ((xSeal TTab_ok (.inl 16) [15]).or X0) TTab_ok hC hm [0,1,5,6] 4000 [bT, .g [], .a (F9_ r_), .l (r_.map F2_), .l ((out1 ++ r_).map F2_)] J2 [(0, .d (I inputs)), (1, .d (I k_)), (5, .own (eOs 1 false F2_ (out1 ++ r_))), (6, .d (I (w64 (n_ + 1))))] [ob c0, ob (hasG h_ref12_Exact), ob o0, ob o1, ob (dM F2_ r_), ob o2, ob (aM F2_ out1 r_)] (by kernel_rfl) fun st0 h0 => hJ2 st0 _ (((out1 ++ r_), w64 (n_ + 1)), m2) hl1 (Nat.lt_succ_self m2) h0 inferInstance
  ·obtain rfl := someE hf1
   obtain rfl := hl1
   exact awpBack ((xSeal TTab_ok (.inl 16) [15]).or X0) TTab_ok hC hm [5] 4000 [bF] J1 [(5, .own (eOs 1 false F2_ out1))] [ob c0] (by kernel_rfl) fun st0 h0 => hJ1 st0 _ out1 hf0 h0 inferInstance
noncomputable def bd_law12_TriesUpto : Code := (Try.f5.body).getD .skip
noncomputable def sp_law12_TriesUpto : Spec := spF (α := Int × Int) (ρ := Bool) 5 (fun x => [(eI .i64) x.1, (eI .i64) x.2]) (fun r => eB r) (fun x => law12_TriesUpto x.1 x.2) [] (by
 rintro ⟨a0, a1⟩ ⟨b0, b1⟩ h
 have e0 := EncI.inj (f := (eI .i64)) _ _ (List.cons.inj h).1
 replace h := (List.cons.inj h).2
 have e1 := EncI.inj (f := (eI .i64)) _ _ (List.cons.inj h).1
 subst e0 e1
 rfl)
abbrev ST_law12_TriesUpto_J4 (inputs : Int) (k_ : Int) (r_ : List (List Int) × Int) (r_1 : List (List Int) × Int) : List (Nat × T) := [(0, .d (I inputs)), (1, .d (I k_)), (5, .d (eSl 1 true F0_ r_.1)), (6, .d (I r_.2)), (7, .d (eSl 1 true F0_ r_1.1)), (8, .d (I r_1.2))]
abbrev ST_law12_TriesUpto_J3 (inputs : Int) (k_ : Int) (r_ : List (List Int) × Int) (r_1 : List (List Int) × Int) (n_ : Int) (m_ : Int) (s_ : Int) : List (Nat × T) := [(0, .d (I inputs)), (1, .d (I k_)), (5, .d (eSl 1 true F0_ r_.1)), (6, .d (I r_.2)), (7, .d (eSl 1 true F0_ r_1.1)), (8, .d (I r_1.2)), (10, .d (I n_)), (11, .d (I m_)), (12, .d (I s_))]
abbrev ST_law12_TriesUpto_L5 (inputs : Int) (k_ : Int) (r_ : List (List Int) × Int) (r_1 : List (List Int) × Int) (n_1 : Int) (m_1 : Int) (s_1 : Int) (i_ : Int) : List (Nat × T) := [(0, .d (I inputs)), (1, .d (I k_)), (5, .d (eSl 1 true F0_ r_.1)), (6, .d (I r_.2)), (7, .d (eSl 1 true F0_ r_1.1)), (8, .d (I r_1.2)), (10, .d (I n_1)), (11, .d (I m_1)), (12, .d (I s_1)), (13, .d (I i_))]
abbrev ST_law12_TriesUpto_J2 (inputs : Int) (k_ : Int) (r_ : List (List Int) × Int) (r_1 : List (List Int) × Int) (wrong : Int) : List (Nat × T) := [(0, .d (I inputs)), (1, .d (I k_)), (5, .d (eSl 1 true F0_ r_.1)), (6, .d (I r_.2)), (7, .d (eSl 1 true F0_ r_1.1)), (8, .d (I r_1.2)), (9, .d (I wrong))]
abbrev ST_law12_TriesUpto_J1 (inputs : Int) (k_ : Int) : List (Nat × T) := [(0, .d (I inputs)), (1, .d (I k_))]
theorem w_law12_TriesUpto {ctr : Ctr} (hC : CtrOk Try.prog ctr) (hm : Try.prog.follows .mixedOrders = true) (h_tries_Upto : ctr.Has sp_tries_Upto) (h_tries_Exact : ctr.Has sp_tries_Exact) (h_law12_lives : ctr.Has sp_law12_lives) (h_ref12_Upto : ctr.Has sp_ref12_Upto) (h_law12_same : ctr.Has sp_law12_same) (h_ref12_Exact : ctr.Has sp_ref12_Exact) : sp_law12_TriesUpto.Ok Try.prog := by
 refine spF_ok ?_
 rintro ⟨inputs, k_⟩ r0 hf0
 try unfold law12_TriesUpto at hf0
 refine callOk_h (tt := TTab) (keep := true) (rs := [(4, none)]) (n := ⟨171, []⟩) (body := bd_law12_TriesUpto) TTab_ok Try.func5 rfl (by kernel_rfl) rfl rfl (by show (2 : Nat) ≤ 171; decide) fun E hE => ?_
 refine awpAt X0 TTab_ok hC hm [0,1] 4000 [.cut 1] (sub [1] bd_law12_TriesUpto) (frs [1] [] bd_law12_TriesUpto []) [(0, .d (I inputs)), (1, .d (I k_))] [] (by kernel_rfl) fun st0 h0 => ?_
 refine awpJoin' (X := Unit) (x := (sub [1,2] bd_law12_TriesUpto)) (y := (sub [1,1] bd_law12_TriesUpto)) (by kernel_rfl) [0,1] [0,1] _ h0 (fun z => law12_TriesUpto_J1 inputs k_ = some r0) (fun z => ST_law12_TriesUpto_J1 inputs k_) ?_ fun J1 hJ1 => ?_
 ·rintro ⟨⟩ hf0
  unfold law12_TriesUpto_J1 at hf0
  obtain ⟨r_, h0, hf0⟩ := bindE hf0
  have o0 := hasF h_tries_Upto (x := (inputs, k_)) h0 (loC (eI .i64) inputs <| loC (eI .i64) k_ <| loN)
  obtain ⟨r_1, h1, hf0⟩ := bindE hf0
  have o1 := hasF h_tries_Exact (x := (inputs, k_)) h1 (loC (eI .i64) inputs <| loC (eI .i64) k_ <| loN)
  refine awpAt X0 TTab_ok hC hm [0,1,5,6,7,8,9] 4000 [.g [], .a (.tup [eSl 1 true F0_ r_.1, I r_.2]), .g [], .a (.tup [eSl 1 true F0_ r_1.1, I r_1.2]), .cut 1] (sub [1,1,1,1,1] bd_law12_TriesUpto) (frs [1,1,1,1,1] [] bd_law12_TriesUpto []) [(0, .d (I inputs)), (1, .d (I k_)), (5, .d (eSl 1 true F0_ r_.1)), (6, .d (I r_.2)), (7, .d (eSl 1 true F0_ r_1.1)), (8, .d (I r_1.2)), (9, .d (I 0))] [ob (hasG h_tries_Upto), ob o0, ob (hasG h_tries_Exact), ob o1] (by kernel_rfl) fun st0 h0 => ?_
  refine awpJoin' (X := Int) (x := (sub [1,1,1,1,1,2] bd_law12_TriesUpto)) (y := (sub [1,1,1,1,1,1] bd_law12_TriesUpto)) (by kernel_rfl) [0,1,5,6,7,8,9] [0,1,5,6,7,8,9] _ h0 (fun z => law12_TriesUpto_J2 inputs k_ r_ r_1 z = some r0) (fun z => ST_law12_TriesUpto_J2 inputs k_ r_ r_1 z) ?_ fun J2 hJ2 => ?_
  ·rintro wrong hf0
   unfold law12_TriesUpto_J2 at hf0
   rcases bifE hf0 with ⟨c0, hf0⟩ | ⟨c0, hf0⟩
   ·rcases bifE hf0 with ⟨c1, hf0⟩ | ⟨c1, hf0⟩
    ·rcases bifE hf0 with ⟨c2, hf0⟩ | ⟨c2, hf0⟩
     ·rcases bifE hf0 with ⟨c3, hf0⟩ | ⟨c3, hf0⟩
      ·obtain ⟨r_2, h2, hf0⟩ := bindE hf0
       have o2 := hasF h_law12_lives (x := ()) h2 (loN)
       obtain rfl := someE hf0
       exact awpEnd X0 TTab_ok hC hm hE 4000 (hs := (rpN 7 bT (aLn r_.1.length :: bT :: bT :: aLn r_1.1.length :: (rpN 4 bT [.g [], .a (eB r_2), bT])))) (x := (B r_2)) (ob c0 :: (rpN 4 (ob c1) [ob c2, ob c2, ob (lnM F0_ r_.1), ob c2, ob c2, ob (lnM F0_ r_1.1), ob c2, ob c2, ob c2, ob c3, ob (hasG h_law12_lives), ob o2, ob c3])) (by kernel_rfl) (LeV.refl _)
      ·obtain rfl := someE hf0
       exact awpEnd X0 TTab_ok hC hm hE 4000 (hs := (rpN 7 bT [aLn r_.1.length, bT, bT, aLn r_1.1.length, bT, bT, bT, bF, bF])) (x := (B false)) (ob c0 :: (rpN 4 (ob c1) [ob c2, ob c2, ob (lnM F0_ r_.1), ob c2, ob c2, ob (lnM F0_ r_1.1), ob c2, ob c2, ob c2, ob c3, ob c3])) (by kernel_rfl) (LeV.refl _)
     ·obtain rfl := someE hf0
      exact awpEnd X0 TTab_ok hC hm hE 4000 (hs := (rpN 5 bT (rpN 9 bF []))) (x := (B false)) (ob c0 :: (rpN 4 (ob c1) (rpN 7 (ob c2) [oF, oF]))) (by kernel_rfl) (LeV.refl _)
    ·obtain rfl := someE hf0
     exact awpEnd X0 TTab_ok hC hm hE 4000 (hs := (bT :: (rpN 13 bF []))) (x := (B false)) (ob c0 :: (rpN 4 (ob c1) (rpN 9 oF []))) (by kernel_rfl) (LeV.refl _)
   ·refine awpAt X0 TTab_ok hC hm [0,1,5,6,7,8,10,11,12] 4000 [bF, .cut 3] (sub [1,1,1,1,1,1,1,1,1,1] bd_law12_TriesUpto) (frs [1,1,1,1,1,1,1,1,1,1] [] bd_law12_TriesUpto []) [(0, .d (I inputs)), (1, .d (I k_)), (5, .d (eSl 1 true F0_ r_.1)), (6, .d (I r_.2)), (7, .d (eSl 1 true F0_ r_1.1)), (8, .d (I r_1.2)), (10, .d (I 1)), (11, .d (I 1)), (12, .d (I 0))] [ob c0] (by kernel_rfl) fun st0 h0 => ?_
    refine awpJoin' (X := Int × Int × Int) (x := (sub [1,1,1,1,1,1,1,1,1,1,2] bd_law12_TriesUpto)) (y := (sub [1,1,1,1,1,1,1,1,1,1,1] bd_law12_TriesUpto)) (by kernel_rfl) [0,1,5,6,7,8,10,11,12] [0,1,5,6,7,8,10,11,12] _ h0 (fun z => law12_TriesUpto_J3 inputs k_ r_ r_1 z.1 z.2.1 z.2.2 = some r0) (fun z => ST_law12_TriesUpto_J3 inputs k_ r_ r_1 z.1 z.2.1 z.2.2) ?_ fun J3 hJ3 => ?_
    ·rintro ⟨n_, m_, s_⟩ hf0
     unfold law12_TriesUpto_J3 at hf0
     refine awpAt X0 TTab_ok hC hm [0,1,5,6,7,8,10,11,12] 4000 [.cut 0] (sub [1,1,1,1,1,1,1,1,1,1,1] bd_law12_TriesUpto) (frs [1,1,1,1,1,1,1,1,1,1,1] [] bd_law12_TriesUpto []) [(0, .d (I inputs)), (1, .d (I k_)), (5, .d (eSl 1 true F0_ r_.1)), (6, .d (I r_.2)), (7, .d (eSl 1 true F0_ r_1.1)), (8, .d (I r_1.2)), (10, .d (I n_)), (11, .d (I m_)), (12, .d (I s_))] [] (by kernel_rfl) fun st0 h0 => ?_
     refine awpJoin' (X := Unit) (x := (sub [1,1,1,1,1,1,1,1,1,1,1,2] bd_law12_TriesUpto)) (y := (sub [1,1,1,1,1,1,1,1,1,1,1,1] bd_law12_TriesUpto)) (by kernel_rfl) [0,1,5,6,7,8] [0,1,5,6,7,8,10,11,12] _ h0 (fun z => law12_TriesUpto_J4 inputs k_ r_ r_1 = some r0) (fun z => ST_law12_TriesUpto_J4 inputs k_ r_ r_1) ?_ fun J4 hJ4 => ?_
     ·rintro ⟨⟩ hf0
      unfold law12_TriesUpto_J4 at hf0
      rcases bifE hf0 with ⟨c4, hf0⟩ | ⟨c4, hf0⟩
      ·rcases bifE hf0 with ⟨c5, hf0⟩ | ⟨c5, hf0⟩
       ·rcases bifE hf0 with ⟨c6, hf0⟩ | ⟨c6, hf0⟩
        ·obtain ⟨r_3, h3, hf0⟩ := bindE hf0
         have o3 := hasF h_law12_lives (x := ()) h3 (loN)
         obtain rfl := someE hf0
         exact awpEnd X0 TTab_ok hC hm hE 4000 (hs := (bT :: aLn r_.1.length :: (rpN 10 bT [.g [], .a (eB r_3), bT]))) (x := (B r_3)) [ob c4, ob (lnM F0_ r_.1), ob c5, ob c5, ob c5, ob c6, ob c6, ob c6, ob c5, ob c6, ob c5, oT, ob (hasG h_law12_lives), ob o3, oT] (by kernel_rfl) (LeV.refl _)
        ·rcases bifE hf0 with ⟨c7, hf0⟩ | ⟨c7, hf0⟩
         ·obtain ⟨r_4, h4, hf0⟩ := bindE hf0
          have o4 := hasF h_law12_lives (x := ()) h4 (loN)
          obtain rfl := someE hf0
          exact awpEnd X0 TTab_ok hC hm hE 4000 (hs := [bT, aLn r_.1.length, bT, bT, bT, bF, bF, aLn r_1.1.length, bF, bT, bF, bT, bT, .g [], .a (eB r_4), bT]) (x := (B r_4)) [ob c4, ob (lnM F0_ r_.1), ob c5, ob c5, ob c5, ob c6, ob c6, ob (lnM F0_ r_1.1), ob c6, ob c5, ob c6, ob c5, ob c7, ob (hasG h_law12_lives), ob o4, ob c7] (by kernel_rfl) (LeV.refl _)
         ·obtain rfl := someE hf0
          exact awpEnd X0 TTab_ok hC hm hE 4000 (hs := [bT, aLn r_.1.length, bT, bT, bT, bF, bF, aLn r_1.1.length, bF, bT, bF, bT, bF, bF]) (x := (B false)) [ob c4, ob (lnM F0_ r_.1), ob c5, ob c5, ob c5, ob c6, ob c6, ob (lnM F0_ r_1.1), ob c6, ob c5, ob c6, ob c5, ob c7, ob c7] (by kernel_rfl) (LeV.refl _)
       ·obtain rfl := someE hf0
        exact awpEnd X0 TTab_ok hC hm hE 4000 (hs := (bT :: aLn r_.1.length :: (rpN 7 bF []))) (x := (B false)) (ob c4 :: ob (lnM F0_ r_.1) :: (rpN 5 (ob c5) [oF, oF])) (by kernel_rfl) (LeV.refl _)
      ·obtain ⟨r_5, h5, hf0⟩ := bindE hf0
       have o5 := hasF h_ref12_Upto (x := (inputs, k_)) h5 (loC (eI .i64) inputs <| loC (eI .i64) k_ <| loN)
       have o6 := shM F2_ F2_ r_5
       obtain ⟨r_6, h6, hf0⟩ := bindE hf0
       have o7 := tabC_at (f := .fn 16 []) (xs := [F4_ r_.1, F7_ r_5]) (ls := []) (r := B r_6) (ys := []) [F4_ r_.1, F7_ r_5] (show LeTs [F4_ r_.1, F7_ r_5] [F4_ r_.1, F7_ r_5] from inferInstance)
       rcases bifE hf0 with ⟨c8, hf0⟩ | ⟨c8, hf0⟩
       ·obtain ⟨r_7, h7, hf0⟩ := bindE hf0
        have o8 := hasF h_ref12_Exact (x := (inputs, k_)) h7 (loC (eI .i64) inputs <| loC (eI .i64) k_ <| loN)
        have o9 := shM F3_ F2_ r_7
        obtain ⟨r_8, h8, hf0⟩ := bindE hf0
        have o10 := tabC_at (f := .fn 16 []) (xs := [F4_ r_1.1, F7_ r_7]) (ls := []) (r := B r_8) (ys := []) [F4_ r_1.1, F7_ r_7] (show LeTs [F4_ r_1.1, F7_ r_7] [F4_ r_1.1, F7_ r_7] from inferInstance)
        rcases bifE hf0 with ⟨c9, hf0⟩ | ⟨c9, hf0⟩
        ·obtain ⟨r_9, h9, hf0⟩ := bindE hf0
         have o11 := hasF h_law12_lives (x := ()) h9 (loN)
         obtain rfl := someE hf0
         exact awpEnd ((xLend (P := Try.prog) TTab [] (lentCall (hasCall hC h_law12_same (x := (r_1.1, r_7)) h8)) 166).or ((xLend (P := Try.prog) TTab [] (lentCall (hasCall hC h_law12_same (x := (r_.1, r_5)) h6)) 160).or X0)) TTab_ok hC hm hE 4000 (hs := (bF :: .g [] :: .a (F8_ r_5) :: .l (r_5.map F2_) :: (rpN 4 bT [.g [], .a (F9_ r_7), bT, .l (r_7.map F2_), bT, bT, .g [], .a (eB r_9), bT]))) (x := (B r_9)) (ob c4 :: ob (hasG h_ref12_Upto) :: ob o5 :: ob o6 :: ob o7 :: (rpN 4 (ob c8) [ob (hasG h_ref12_Exact), ob o8, ob c8, ob o9, ob o10, ob c8, ob c9, ob (hasG h_law12_lives), ob o11, ob c9])) (by kernel_rfl) (LeV.refl _)
        ·obtain rfl := someE hf0
         exact awpEnd ((xLend (P := Try.prog) TTab [] (lentCall (hasCall hC h_law12_same (x := (r_1.1, r_7)) h8)) 166).or ((xLend (P := Try.prog) TTab [] (lentCall (hasCall hC h_law12_same (x := (r_.1, r_5)) h6)) 160).or X0)) TTab_ok hC hm hE 4000 (hs := (bF :: .g [] :: .a (F8_ r_5) :: .l (r_5.map F2_) :: (rpN 4 bT [.g [], .a (F9_ r_7), bT, .l (r_7.map F2_), bT, bF, bF]))) (x := (B false)) (ob c4 :: ob (hasG h_ref12_Upto) :: ob o5 :: ob o6 :: ob o7 :: (rpN 4 (ob c8) [ob (hasG h_ref12_Exact), ob o8, ob c8, ob o9, ob o10, ob c8, ob c9, ob c9])) (by kernel_rfl) (LeV.refl _)
       ·obtain rfl := someE hf0
        exact awpEnd ((xLend (P := Try.prog) TTab [] (lentCall (hasCall hC h_law12_same (x := (r_.1, r_5)) h6)) 160).or X0) TTab_ok hC hm hE 4000 (hs := (bF :: .g [] :: .a (F8_ r_5) :: .l (r_5.map F2_) :: (rpN 8 bF []))) (x := (B false)) (ob c4 :: ob (hasG h_ref12_Upto) :: ob o5 :: ob o6 :: ob o7 :: (rpN 6 (ob c8) [oF, oF])) (by kernel_rfl) (LeV.refl _)
     ·rcases bifE hf0 with ⟨c10, hf0⟩ | ⟨c10, hf0⟩
      ·rcases bifE hf0 with ⟨c11, hf0⟩ | ⟨c11, hf0⟩
       ·obtain rfl := someE hf0
        exact awpEnd X0 TTab_ok hC hm hE 4000 (hs := (rpN 22 bT [])) (x := (B false)) (ob c10 :: ob c10 :: ob c10 :: (rpN 8 (ob c11) (rpN 11 oT []))) (by kernel_rfl) (LeV.refl _)
       ·rcases bifE hf0 with ⟨c12, hf0⟩ | ⟨c12, hf0⟩
        ·rcases bifE hf0 with ⟨c13, hf0⟩ | ⟨c13, hf0⟩
         ·obtain rfl := someE hf0
          exact awpEnd X0 TTab_ok hC hm hE 4000 (hs := (bT :: bT :: bT :: (rpN 5 bF (rpN 4 bT (bF :: bT :: bF :: bF :: (rpN 11 bT [])))))) (x := (B false)) (ob c10 :: ob c10 :: ob c10 :: (rpN 5 (ob c11) (rpN 4 (ob c12) (ob c11 :: ob c12 :: ob c11 :: ob c11 :: (rpN 5 (ob c13) (rpN 6 oT [])))))) (by kernel_rfl) (LeV.refl _)
         ·rcases bifE hf0 with ⟨c14, hf0⟩ | ⟨c14, hf0⟩
          ·rcases bifE hf0 with ⟨c15, hf0⟩ | ⟨c15, hf0⟩
           ·obtain rfl := someE hf0
            exact awpEnd X0 TTab_ok hC hm hE 4000 (hs := (bT :: bT :: bT :: (rpN 5 bF (rpN 4 bT (bF :: bT :: (rpN 5 bF (bT :: bT :: bF :: bT :: bF :: (rpN 6 bT [])))))))) (x := (B false)) (ob c10 :: ob c10 :: ob c10 :: (rpN 5 (ob c11) (rpN 4 (ob c12) (ob c11 :: ob c12 :: ob c11 :: ob c11 :: ob c13 :: ob c13 :: ob c13 :: ob c14 :: ob c14 :: ob c13 :: ob c14 :: ob c13 :: (rpN 5 (ob c15) [oT]))))) (by kernel_rfl) (LeV.refl _)
           ·rcases bifE hf0 with ⟨c16, hf0⟩ | ⟨c16, hf0⟩
            ·rcases bifE hf0 with ⟨c17, hf0⟩ | ⟨c17, hf0⟩
             ·obtain rfl := someE hf0
              exact awpEnd X0 TTab_ok hC hm hE 4000 (hs := (bT :: bT :: bT :: (rpN 5 bF (rpN 4 bT (bF :: bT :: (rpN 5 bF (bT :: bT :: bF :: bT :: (rpN 4 bF [bT, bT, bF, bT, bF, bT])))))))) (x := (B false)) (ob c10 :: ob c10 :: ob c10 :: (rpN 5 (ob c11) (rpN 4 (ob c12) [ob c11, ob c12, ob c11, ob c11, ob c13, ob c13, ob c13, ob c14, ob c14, ob c13, ob c14, ob c13, ob c15, ob c15, ob c15, ob c16, ob c16, ob c15, ob c16, ob c15, ob c17]))) (by kernel_rfl) (LeV.refl _)
             ·exact awpBack X0 TTab_ok hC hm [0,1,5,6,7,8] 4000 (bT :: bT :: bT :: (rpN 5 bF (rpN 4 bT (bF :: bT :: (rpN 5 bF (bT :: bT :: bF :: bT :: (rpN 4 bF [bT, bT, bF, bT, bF, bF]))))))) J4 [(0, .d (I inputs)), (1, .d (I k_)), (5, .d (eSl 1 true F0_ r_.1)), (6, .d (I r_.2)), (7, .d (eSl 1 true F0_ r_1.1)), (8, .d (I r_1.2))] (ob c10 :: ob c10 :: ob c10 :: (rpN 5 (ob c11) (rpN 4 (ob c12) [ob c11, ob c12, ob c11, ob c11, ob c13, ob c13, ob c13, ob c14, ob c14, ob c13, ob c14, ob c13, ob c15, ob c15, ob c15, ob c16, ob c16, ob c15, ob c16, ob c15, ob c17]))) (by kernel_rfl) fun st0 h0 => hJ4 st0 _ () hf0 h0 inferInstance
            ·exact awpBack X0 TTab_ok hC hm [0,1,5,6,7,8] 4000 (bT :: bT :: bT :: (rpN 5 bF (rpN 4 bT (bF :: bT :: (rpN 5 bF (bT :: bT :: bF :: bT :: (rpN 10 bF []))))))) J4 [(0, .d (I inputs)), (1, .d (I k_)), (5, .d (eSl 1 true F0_ r_.1)), (6, .d (I r_.2)), (7, .d (eSl 1 true F0_ r_1.1)), (8, .d (I r_1.2))] (ob c10 :: ob c10 :: ob c10 :: (rpN 5 (ob c11) (rpN 4 (ob c12) [ob c11, ob c12, ob c11, ob c11, ob c13, ob c13, ob c13, ob c14, ob c14, ob c13, ob c14, ob c13, ob c15, ob c15, ob c15, ob c16, ob c16, ob c15, ob c16, ob c15, oF]))) (by kernel_rfl) fun st0 h0 => hJ4 st0 _ () hf0 h0 inferInstance
          ·rcases bifE hf0 with ⟨c18, hf0⟩ | ⟨c18, hf0⟩
           ·rcases bifE hf0 with ⟨c19, hf0⟩ | ⟨c19, hf0⟩
            ·obtain rfl := someE hf0
             exact awpEnd X0 TTab_ok hC hm hE 4000 (hs := (bT :: bT :: bT :: (rpN 5 bF (rpN 4 bT (bF :: bT :: (rpN 13 bF [bT, bT, bF, bT, bF, bT])))))) (x := (B false)) (ob c10 :: ob c10 :: ob c10 :: (rpN 5 (ob c11) (rpN 4 (ob c12) [ob c11, ob c12, ob c11, ob c11, ob c13, ob c13, ob c13, ob c14, ob c14, ob c13, ob c14, ob c13, oF, oF, oF, ob c18, ob c18, oF, ob c18, oF, ob c19]))) (by kernel_rfl) (LeV.refl _)
            ·exact awpBack X0 TTab_ok hC hm [0,1,5,6,7,8] 4000 (bT :: bT :: bT :: (rpN 5 bF (rpN 4 bT (bF :: bT :: (rpN 13 bF [bT, bT, bF, bT, bF, bF]))))) J4 [(0, .d (I inputs)), (1, .d (I k_)), (5, .d (eSl 1 true F0_ r_.1)), (6, .d (I r_.2)), (7, .d (eSl 1 true F0_ r_1.1)), (8, .d (I r_1.2))] (ob c10 :: ob c10 :: ob c10 :: (rpN 5 (ob c11) (rpN 4 (ob c12) [ob c11, ob c12, ob c11, ob c11, ob c13, ob c13, ob c13, ob c14, ob c14, ob c13, ob c14, ob c13, oF, oF, oF, ob c18, ob c18, oF, ob c18, oF, ob c19]))) (by kernel_rfl) fun st0 h0 => hJ4 st0 _ () hf0 h0 inferInstance
           ·exact awpBack X0 TTab_ok hC hm [0,1,5,6,7,8] 4000 (bT :: bT :: bT :: (rpN 5 bF (rpN 4 bT (bF :: bT :: (rpN 19 bF []))))) J4 [(0, .d (I inputs)), (1, .d (I k_)), (5, .d (eSl 1 true F0_ r_.1)), (6, .d (I r_.2)), (7, .d (eSl 1 true F0_ r_1.1)), (8, .d (I r_1.2))] (ob c10 :: ob c10 :: ob c10 :: (rpN 5 (ob c11) (rpN 4 (ob c12) [ob c11, ob c12, ob c11, ob c11, ob c13, ob c13, ob c13, ob c14, ob c14, ob c13, ob c14, ob c13, oF, oF, oF, ob c18, ob c18, oF, ob c18, oF, oF]))) (by kernel_rfl) fun st0 h0 => hJ4 st0 _ () hf0 h0 inferInstance
        ·rcases bifE hf0 with ⟨c20, hf0⟩ | ⟨c20, hf0⟩
         ·obtain rfl := someE hf0
          exact awpEnd X0 TTab_ok hC hm hE 4000 (hs := (bT :: bT :: bT :: (rpN 13 bF (rpN 11 bT [])))) (x := (B false)) (ob c10 :: ob c10 :: ob c10 :: (rpN 5 (ob c11) (rpN 4 (ob c12) (ob c11 :: ob c12 :: ob c11 :: ob c11 :: (rpN 5 (ob c20) (rpN 6 oT [])))))) (by kernel_rfl) (LeV.refl _)
         ·rcases bifE hf0 with ⟨c21, hf0⟩ | ⟨c21, hf0⟩
          ·rcases bifE hf0 with ⟨c22, hf0⟩ | ⟨c22, hf0⟩
           ·obtain rfl := someE hf0
            exact awpEnd X0 TTab_ok hC hm hE 4000 (hs := (bT :: bT :: bT :: (rpN 16 bF (bT :: bT :: bF :: bT :: bF :: (rpN 6 bT []))))) (x := (B false)) (ob c10 :: ob c10 :: ob c10 :: (rpN 5 (ob c11) (rpN 4 (ob c12) (ob c11 :: ob c12 :: ob c11 :: ob c11 :: ob c20 :: ob c20 :: ob c20 :: ob c21 :: ob c21 :: ob c20 :: ob c21 :: ob c20 :: (rpN 5 (ob c22) [oT]))))) (by kernel_rfl) (LeV.refl _)
           ·rcases bifE hf0 with ⟨c23, hf0⟩ | ⟨c23, hf0⟩
            ·rcases bifE hf0 with ⟨c24, hf0⟩ | ⟨c24, hf0⟩
             ·obtain rfl := someE hf0
              exact awpEnd X0 TTab_ok hC hm hE 4000 (hs := (bT :: bT :: bT :: (rpN 16 bF (bT :: bT :: bF :: bT :: (rpN 4 bF [bT, bT, bF, bT, bF, bT]))))) (x := (B false)) (ob c10 :: ob c10 :: ob c10 :: (rpN 5 (ob c11) (rpN 4 (ob c12) [ob c11, ob c12, ob c11, ob c11, ob c20, ob c20, ob c20, ob c21, ob c21, ob c20, ob c21, ob c20, ob c22, ob c22, ob c22, ob c23, ob c23, ob c22, ob c23, ob c22, ob c24]))) (by kernel_rfl) (LeV.refl _)
             ·exact awpBack X0 TTab_ok hC hm [0,1,5,6,7,8] 4000 (bT :: bT :: bT :: (rpN 16 bF (bT :: bT :: bF :: bT :: (rpN 4 bF [bT, bT, bF, bT, bF, bF])))) J4 [(0, .d (I inputs)), (1, .d (I k_)), (5, .d (eSl 1 true F0_ r_.1)), (6, .d (I r_.2)), (7, .d (eSl 1 true F0_ r_1.1)), (8, .d (I r_1.2))] (ob c10 :: ob c10 :: ob c10 :: (rpN 5 (ob c11) (rpN 4 (ob c12) [ob c11, ob c12, ob c11, ob c11, ob c20, ob c20, ob c20, ob c21, ob c21, ob c20, ob c21, ob c20, ob c22, ob c22, ob c22, ob c23, ob c23, ob c22, ob c23, ob c22, ob c24]))) (by kernel_rfl) fun st0 h0 => hJ4 st0 _ () hf0 h0 inferInstance
            ·exact awpBack X0 TTab_ok hC hm [0,1,5,6,7,8] 4000 (bT :: bT :: bT :: (rpN 16 bF (bT :: bT :: bF :: bT :: (rpN 10 bF [])))) J4 [(0, .d (I inputs)), (1, .d (I k_)), (5, .d (eSl 1 true F0_ r_.1)), (6, .d (I r_.2)), (7, .d (eSl 1 true F0_ r_1.1)), (8, .d (I r_1.2))] (ob c10 :: ob c10 :: ob c10 :: (rpN 5 (ob c11) (rpN 4 (ob c12) [ob c11, ob c12, ob c11, ob c11, ob c20, ob c20, ob c20, ob c21, ob c21, ob c20, ob c21, ob c20, ob c22, ob c22, ob c22, ob c23, ob c23, ob c22, ob c23, ob c22, oF]))) (by kernel_rfl) fun st0 h0 => hJ4 st0 _ () hf0 h0 inferInstance
          ·rcases bifE hf0 with ⟨c25, hf0⟩ | ⟨c25, hf0⟩
           ·rcases bifE hf0 with ⟨c26, hf0⟩ | ⟨c26, hf0⟩
            ·obtain rfl := someE hf0
             exact awpEnd X0 TTab_ok hC hm hE 4000 (hs := (bT :: bT :: bT :: (rpN 24 bF [bT, bT, bF, bT, bF, bT]))) (x := (B false)) (ob c10 :: ob c10 :: ob c10 :: (rpN 5 (ob c11) (rpN 4 (ob c12) [ob c11, ob c12, ob c11, ob c11, ob c20, ob c20, ob c20, ob c21, ob c21, ob c20, ob c21, ob c20, oF, oF, oF, ob c25, ob c25, oF, ob c25, oF, ob c26]))) (by kernel_rfl) (LeV.refl _)
            ·exact awpBack X0 TTab_ok hC hm [0,1,5,6,7,8] 4000 (bT :: bT :: bT :: (rpN 24 bF [bT, bT, bF, bT, bF, bF])) J4 [(0, .d (I inputs)), (1, .d (I k_)), (5, .d (eSl 1 true F0_ r_.1)), (6, .d (I r_.2)), (7, .d (eSl 1 true F0_ r_1.1)), (8, .d (I r_1.2))] (ob c10 :: ob c10 :: ob c10 :: (rpN 5 (ob c11) (rpN 4 (ob c12) [ob c11, ob c12, ob c11, ob c11, ob c20, ob c20, ob c20, ob c21, ob c21, ob c20, ob c21, ob c20, oF, oF, oF, ob c25, ob c25, oF, ob c25, oF, ob c26]))) (by kernel_rfl) fun st0 h0 => hJ4 st0 _ () hf0 h0 inferInstance
           ·exact awpBack X0 TTab_ok hC hm [0,1,5,6,7,8] 4000 (bT :: bT :: bT :: (rpN 30 bF [])) J4 [(0, .d (I inputs)), (1, .d (I k_)), (5, .d (eSl 1 true F0_ r_.1)), (6, .d (I r_.2)), (7, .d (eSl 1 true F0_ r_1.1)), (8, .d (I r_1.2))] (ob c10 :: ob c10 :: ob c10 :: (rpN 5 (ob c11) (rpN 4 (ob c12) [ob c11, ob c12, ob c11, ob c11, ob c20, ob c20, ob c20, ob c21, ob c21, ob c20, ob c21, ob c20, oF, oF, oF, ob c25, ob c25, oF, ob c25, oF, oF]))) (by kernel_rfl) fun st0 h0 => hJ4 st0 _ () hf0 h0 inferInstance
      ·rcases bifE hf0 with ⟨c27, hf0⟩ | ⟨c27, hf0⟩
       ·obtain rfl := someE hf0
        exact awpEnd X0 TTab_ok hC hm hE 4000 (hs := (bF :: bF :: bF :: (rpN 19 bT []))) (x := (B false)) (ob c10 :: ob c10 :: ob c10 :: (rpN 8 (ob c27) (rpN 11 oT []))) (by kernel_rfl) (LeV.refl _)
       ·rcases bifE hf0 with ⟨c28, hf0⟩ | ⟨c28, hf0⟩
        ·rcases bifE hf0 with ⟨c29, hf0⟩ | ⟨c29, hf0⟩
         ·obtain rfl := someE hf0
          exact awpEnd X0 TTab_ok hC hm hE 4000 (hs := (rpN 8 bF (rpN 4 bT (bF :: bT :: bF :: bF :: (rpN 11 bT []))))) (x := (B false)) (ob c10 :: ob c10 :: ob c10 :: (rpN 5 (ob c27) (rpN 4 (ob c28) (ob c27 :: ob c28 :: ob c27 :: ob c27 :: (rpN 5 (ob c29) (rpN 6 oT [])))))) (by kernel_rfl) (LeV.refl _)
         ·rcases bifE hf0 with ⟨c30, hf0⟩ | ⟨c30, hf0⟩
          ·rcases bifE hf0 with ⟨c31, hf0⟩ | ⟨c31, hf0⟩
           ·obtain rfl := someE hf0
            exact awpEnd X0 TTab_ok hC hm hE 4000 (hs := (rpN 8 bF (rpN 4 bT (bF :: bT :: (rpN 5 bF (bT :: bT :: bF :: bT :: bF :: (rpN 6 bT []))))))) (x := (B false)) (ob c10 :: ob c10 :: ob c10 :: (rpN 5 (ob c27) (rpN 4 (ob c28) (ob c27 :: ob c28 :: ob c27 :: ob c27 :: ob c29 :: ob c29 :: ob c29 :: ob c30 :: ob c30 :: ob c29 :: ob c30 :: ob c29 :: (rpN 5 (ob c31) [oT]))))) (by kernel_rfl) (LeV.refl _)
           ·rcases bifE hf0 with ⟨c32, hf0⟩ | ⟨c32, hf0⟩
            ·rcases bifE hf0 with ⟨c33, hf0⟩ | ⟨c33, hf0⟩
             ·obtain rfl := someE hf0
              exact awpEnd X0 TTab_ok hC hm hE 4000 (hs := (rpN 8 bF (rpN 4 bT (bF :: bT :: (rpN 5 bF (bT :: bT :: bF :: bT :: (rpN 4 bF [bT, bT, bF, bT, bF, bT]))))))) (x := (B false)) (ob c10 :: ob c10 :: ob c10 :: (rpN 5 (ob c27) (rpN 4 (ob c28) [ob c27, ob c28, ob c27, ob c27, ob c29, ob c29, ob c29, ob c30, ob c30, ob c29, ob c30, ob c29, ob c31, ob c31, ob c31, ob c32, ob c32, ob c31, ob c32, ob c31, ob c33]))) (by kernel_rfl) (LeV.refl _)
             ·exact awpBack X0 TTab_ok hC hm [0,1,5,6,7,8] 4000 (rpN 8 bF (rpN 4 bT (bF :: bT :: (rpN 5 bF (bT :: bT :: bF :: bT :: (rpN 4 bF [bT, bT, bF, bT, bF, bF])))))) J4 [(0, .d (I inputs)), (1, .d (I k_)), (5, .d (eSl 1 true F0_ r_.1)), (6, .d (I r_.2)), (7, .d (eSl 1 true F0_ r_1.1)), (8, .d (I r_1.2))] (ob c10 :: ob c10 :: ob c10 :: (rpN 5 (ob c27) (rpN 4 (ob c28) [ob c27, ob c28, ob c27, ob c27, ob c29, ob c29, ob c29, ob c30, ob c30, ob c29, ob c30, ob c29, ob c31, ob c31, ob c31, ob c32, ob c32, ob c31, ob c32, ob c31, ob c33]))) (by kernel_rfl) fun st0 h0 => hJ4 st0 _ () hf0 h0 inferInstance
            ·exact awpBack X0 TTab_ok hC hm [0,1,5,6,7,8] 4000 (rpN 8 bF (rpN 4 bT (bF :: bT :: (rpN 5 bF (bT :: bT :: bF :: bT :: (rpN 10 bF [])))))) J4 [(0, .d (I inputs)), (1, .d (I k_)), (5, .d (eSl 1 true F0_ r_.1)), (6, .d (I r_.2)), (7, .d (eSl 1 true F0_ r_1.1)), (8, .d (I r_1.2))] (ob c10 :: ob c10 :: ob c10 :: (rpN 5 (ob c27) (rpN 4 (ob c28) [ob c27, ob c28, ob c27, ob c27, ob c29, ob c29, ob c29, ob c30, ob c30, ob c29, ob c30, ob c29, ob c31, ob c31, ob c31, ob c32, ob c32, ob c31, ob c32, ob c31, oF]))) (by kernel_rfl) fun st0 h0 => hJ4 st0 _ () hf0 h0 inferInstance
          ·rcases bifE hf0 with ⟨c34, hf0⟩ | ⟨c34, hf0⟩
           ·rcases bifE hf0 with ⟨c35, hf0⟩ | ⟨c35, hf0⟩
            ·obtain rfl := someE hf0
             exact awpEnd X0 TTab_ok hC hm hE 4000 (hs := (rpN 8 bF (rpN 4 bT (bF :: bT :: (rpN 13 bF [bT, bT, bF, bT, bF, bT]))))) (x := (B false)) (ob c10 :: ob c10 :: ob c10 :: (rpN 5 (ob c27) (rpN 4 (ob c28) [ob c27, ob c28, ob c27, ob c27, ob c29, ob c29, ob c29, ob c30, ob c30, ob c29, ob c30, ob c29, oF, oF, oF, ob c34, ob c34, oF, ob c34, oF, ob c35]))) (by kernel_rfl) (LeV.refl _)
            ·exact awpBack X0 TTab_ok hC hm [0,1,5,6,7,8] 4000 (rpN 8 bF (rpN 4 bT (bF :: bT :: (rpN 13 bF [bT, bT, bF, bT, bF, bF])))) J4 [(0, .d (I inputs)), (1, .d (I k_)), (5, .d (eSl 1 true F0_ r_.1)), (6, .d (I r_.2)), (7, .d (eSl 1 true F0_ r_1.1)), (8, .d (I r_1.2))] (ob c10 :: ob c10 :: ob c10 :: (rpN 5 (ob c27) (rpN 4 (ob c28) [ob c27, ob c28, ob c27, ob c27, ob c29, ob c29, ob c29, ob c30, ob c30, ob c29, ob c30, ob c29, oF, oF, oF, ob c34, ob c34, oF, ob c34, oF, ob c35]))) (by kernel_rfl) fun st0 h0 => hJ4 st0 _ () hf0 h0 inferInstance
           ·exact awpBack X0 TTab_ok hC hm [0,1,5,6,7,8] 4000 (rpN 8 bF (rpN 4 bT (bF :: bT :: (rpN 19 bF [])))) J4 [(0, .d (I inputs)), (1, .d (I k_)), (5, .d (eSl 1 true F0_ r_.1)), (6, .d (I r_.2)), (7, .d (eSl 1 true F0_ r_1.1)), (8, .d (I r_1.2))] (ob c10 :: ob c10 :: ob c10 :: (rpN 5 (ob c27) (rpN 4 (ob c28) [ob c27, ob c28, ob c27, ob c27, ob c29, ob c29, ob c29, ob c30, ob c30, ob c29, ob c30, ob c29, oF, oF, oF, ob c34, ob c34, oF, ob c34, oF, oF]))) (by kernel_rfl) fun st0 h0 => hJ4 st0 _ () hf0 h0 inferInstance
        ·rcases bifE hf0 with ⟨c36, hf0⟩ | ⟨c36, hf0⟩
         ·obtain rfl := someE hf0
          exact awpEnd X0 TTab_ok hC hm hE 4000 (hs := (rpN 16 bF (rpN 11 bT []))) (x := (B false)) (ob c10 :: ob c10 :: ob c10 :: (rpN 5 (ob c27) (rpN 4 (ob c28) (ob c27 :: ob c28 :: ob c27 :: ob c27 :: (rpN 5 (ob c36) (rpN 6 oT [])))))) (by kernel_rfl) (LeV.refl _)
         ·rcases bifE hf0 with ⟨c37, hf0⟩ | ⟨c37, hf0⟩
          ·rcases bifE hf0 with ⟨c38, hf0⟩ | ⟨c38, hf0⟩
           ·obtain rfl := someE hf0
            exact awpEnd X0 TTab_ok hC hm hE 4000 (hs := (rpN 19 bF (bT :: bT :: bF :: bT :: bF :: (rpN 6 bT [])))) (x := (B false)) (ob c10 :: ob c10 :: ob c10 :: (rpN 5 (ob c27) (rpN 4 (ob c28) (ob c27 :: ob c28 :: ob c27 :: ob c27 :: ob c36 :: ob c36 :: ob c36 :: ob c37 :: ob c37 :: ob c36 :: ob c37 :: ob c36 :: (rpN 5 (ob c38) [oT]))))) (by kernel_rfl) (LeV.refl _)
           ·rcases bifE hf0 with ⟨c39, hf0⟩ | ⟨c39, hf0⟩
            ·rcases bifE hf0 with ⟨c40, hf0⟩ | ⟨c40, hf0⟩
             ·obtain rfl := someE hf0
              exact awpEnd X0 TTab_ok hC hm hE 4000 (hs := (rpN 19 bF (bT :: bT :: bF :: bT :: (rpN 4 bF [bT, bT, bF, bT, bF, bT])))) (x := (B false)) (ob c10 :: ob c10 :: ob c10 :: (rpN 5 (ob c27) (rpN 4 (ob c28) [ob c27, ob c28, ob c27, ob c27, ob c36, ob c36, ob c36, ob c37, ob c37, ob c36, ob c37, ob c36, ob c38, ob c38, ob c38, ob c39, ob c39, ob c38, ob c39, ob c38, ob c40]))) (by kernel_rfl) (LeV.refl _)
             ·exact awpBack X0 TTab_ok hC hm [0,1,5,6,7,8] 4000 (rpN 19 bF (bT :: bT :: bF :: bT :: (rpN 4 bF [bT, bT, bF, bT, bF, bF]))) J4 [(0, .d (I inputs)), (1, .d (I k_)), (5, .d (eSl 1 true F0_ r_.1)), (6, .d (I r_.2)), (7, .d (eSl 1 true F0_ r_1.1)), (8, .d (I r_1.2))] (ob c10 :: ob c10 :: ob c10 :: (rpN 5 (ob c27) (rpN 4 (ob c28) [ob c27, ob c28, ob c27, ob c27, ob c36, ob c36, ob c36, ob c37, ob c37, ob c36, ob c37, ob c36, ob c38, ob c38, ob c38, ob c39, ob c39, ob c38, ob c39, ob c38, ob c40]))) (by kernel_rfl) fun st0 h0 => hJ4 st0 _ () hf0 h0 inferInstance
            ·exact awpBack X0 TTab_ok hC hm [0,1,5,6,7,8] 4000 (rpN 19 bF (bT :: bT :: bF :: bT :: (rpN 10 bF []))) J4 [(0, .d (I inputs)), (1, .d (I k_)), (5, .d (eSl 1 true F0_ r_.1)), (6, .d (I r_.2)), (7, .d (eSl 1 true F0_ r_1.1)), (8, .d (I r_1.2))] (ob c10 :: ob c10 :: ob c10 :: (rpN 5 (ob c27) (rpN 4 (ob c28) [ob c27, ob c28, ob c27, ob c27, ob c36, ob c36, ob c36, ob c37, ob c37, ob c36, ob c37, ob c36, ob c38, ob c38, ob c38, ob c39, ob c39, ob c38, ob c39, ob c38, oF]))) (by kernel_rfl) fun st0 h0 => hJ4 st0 _ () hf0 h0 inferInstance
          ·rcases bifE hf0 with ⟨c41, hf0⟩ | ⟨c41, hf0⟩
           ·rcases bifE hf0 with ⟨c42, hf0⟩ | ⟨c42, hf0⟩
            ·obtain rfl := someE hf0
             exact awpEnd X0 TTab_ok hC hm hE 4000 (hs := (rpN 27 bF [bT, bT, bF, bT, bF, bT])) (x := (B false)) (ob c10 :: ob c10 :: ob c10 :: (rpN 5 (ob c27) (rpN 4 (ob c28) [ob c27, ob c28, ob c27, ob c27, ob c36, ob c36, ob c36, ob c37, ob c37, ob c36, ob c37, ob c36, oF, oF, oF, ob c41, ob c41, oF, ob c41, oF, ob c42]))) (by kernel_rfl) (LeV.refl _)
            ·exact awpBack X0 TTab_ok hC hm [0,1,5,6,7,8] 4000 (rpN 27 bF [bT, bT, bF, bT, bF, bF]) J4 [(0, .d (I inputs)), (1, .d (I k_)), (5, .d (eSl 1 true F0_ r_.1)), (6, .d (I r_.2)), (7, .d (eSl 1 true F0_ r_1.1)), (8, .d (I r_1.2))] (ob c10 :: ob c10 :: ob c10 :: (rpN 5 (ob c27) (rpN 4 (ob c28) [ob c27, ob c28, ob c27, ob c27, ob c36, ob c36, ob c36, ob c37, ob c37, ob c36, ob c37, ob c36, oF, oF, oF, ob c41, ob c41, oF, ob c41, oF, ob c42]))) (by kernel_rfl) fun st0 h0 => hJ4 st0 _ () hf0 h0 inferInstance
           ·exact awpBack X0 TTab_ok hC hm [0,1,5,6,7,8] 4000 (rpN 33 bF []) J4 [(0, .d (I inputs)), (1, .d (I k_)), (5, .d (eSl 1 true F0_ r_.1)), (6, .d (I r_.2)), (7, .d (eSl 1 true F0_ r_1.1)), (8, .d (I r_1.2))] (ob c10 :: ob c10 :: ob c10 :: (rpN 5 (ob c27) (rpN 4 (ob c28) [ob c27, ob c28, ob c27, ob c27, ob c36, ob c36, ob c36, ob c37, ob c37, ob c36, ob c37, ob c36, oF, oF, oF, ob c41, ob c41, oF, ob c41, oF, oF]))) (by kernel_rfl) fun st0 h0 => hJ4 st0 _ () hf0 h0 inferInstance
    ·obtain ⟨t5, ht5, hf0⟩ := bindE hf0
     refine awpAt X0 TTab_ok hC hm [0,1,5,6,7,8,10,11,12,13] 4000 [] (sub [1,1,1,1,1,1,1,1,1,1,2,1,0] bd_law12_TriesUpto) (frs [1,1,1,1,1,1,1,1,1,1,2,1,0] [J3] bd_law12_TriesUpto []) [(0, .d (I inputs)), (1, .d (I k_)), (5, .d (eSl 1 true F0_ r_.1)), (6, .d (I r_.2)), (7, .d (eSl 1 true F0_ r_1.1)), (8, .d (I r_1.2)), (10, .d (I 1)), (11, .d (I 1)), (12, .d (I 0)), (13, .d (I 1))] [] (by kernel_rfl) fun st0 h0 => ?_
     refine awpLoop' (X := (Int × Int × Int × Int) × Nat) (c' := (sub [1,1,1,1,1,1,1,1,1,1,2,1,0,0] bd_law12_TriesUpto)) (by kernel_rfl) [0,1,5,6,7,8,10,11,12,13] (fun x => loopN (fun s => law12_TriesUpto_L5 inputs k_ s.1 s.2.1 s.2.2.1 s.2.2.2) x.2 x.1 = some t5) (fun x => x.2) (fun x => ST_law12_TriesUpto_L5 inputs k_ r_ r_1 x.1.1 x.1.2.1 x.1.2.2.1 x.1.2.2.2) ((1,1,0,1), fuel) _ h0 inferInstance ht5 ?_
     rintro ⟨⟨n_1, m_1, s_1, i_⟩, n5⟩ hn5 J5 hJ5
     obtain ⟨m5, lr1, rfl, hf1, hl1⟩ := loopE hn5
     try unfold law12_TriesUpto_L5 at hf1
     rcases bifE hf1 with ⟨c43, hf1⟩ | ⟨c43, hf1⟩
     ·obtain rfl := someE hf1
      exact awpBack X0 TTab_ok hC hm [0,1,5,6,7,8,10,11,12,13] 4000 [bT] J5 [(0, .d (I inputs)), (1, .d (I k_)), (5, .d (eSl 1 true F0_ r_.1)), (6, .d (I r_.2)), (7, .d (eSl 1 true F0_ r_1.1)), (8, .d (I r_1.2)), (10, .d (I (mn (w64 (n_1 * inputs)) 100000))), (11, .d (I (mn (w64 (m_1 + (mn (w64 (n_1 * inputs)) 100000))) 100000))), (12, .d (I (mn (w64 (s_1 + (w64 (i_ * (mn (w64 (n_1 * inputs)) 100000))))) 10000000))), (13, .d (I (w64 (i_ + 1))))] [ob c43] (by kernel_rfl) fun st0 h0 => hJ5 st0 _ (((mn (w64 (n_1 * inputs)) 100000), (mn (w64 (m_1 + (mn (w64 (n_1 * inputs)) 100000))) 100000), (mn (w64 (s_1 + (w64 (i_ * (mn (w64 (n_1 * inputs)) 100000))))) 10000000), w64 (i_ + 1)), m5) hl1 (Nat.lt_succ_self m5) h0 inferInstance
     ·obtain rfl := someE hf1
      obtain rfl := hl1
      exact awpBack X0 TTab_ok hC hm [0,1,5,6,7,8,10,11,12] 4000 [bF] J3 [(0, .d (I inputs)), (1, .d (I k_)), (5, .d (eSl 1 true F0_ r_.1)), (6, .d (I r_.2)), (7, .d (eSl 1 true F0_ r_1.1)), (8, .d (I r_1.2)), (10, .d (I n_1)), (11, .d (I m_1)), (12, .d (I s_1))] [ob c43] (by kernel_rfl) fun st0 h0 => hJ3 st0 _ (n_1, m_1, s_1) hf0 h0 inferInstance
  ·rcases bifE hf0 with ⟨c44, hf0⟩ | ⟨c44, hf0⟩
   ·exact awpBack X0 TTab_ok hC hm [0,1,5,6,7,8,9] 4000 [bT] J2 [(0, .d (I inputs)), (1, .d (I k_)), (5, .d (eSl 1 true F0_ r_.1)), (6, .d (I r_.2)), (7, .d (eSl 1 true F0_ r_1.1)), (8, .d (I r_1.2)), (9, .d (I 3))] [ob c44] (by kernel_rfl) fun st0 h0 => hJ2 st0 _ 3 hf0 h0 inferInstance
   ·rcases bifE hf0 with ⟨c45, hf0⟩ | ⟨c45, hf0⟩
    ·exact awpBack X0 TTab_ok hC hm [0,1,5,6,7,8,9] 4000 (bF :: (rpN 4 bT [])) J2 [(0, .d (I inputs)), (1, .d (I k_)), (5, .d (eSl 1 true F0_ r_.1)), (6, .d (I r_.2)), (7, .d (eSl 1 true F0_ r_1.1)), (8, .d (I r_1.2)), (9, .d (I 1))] [ob c44, ob c45, ob c45, ob c45, oT] (by kernel_rfl) fun st0 h0 => hJ2 st0 _ 1 hf0 h0 inferInstance
    ·rcases bifE hf0 with ⟨c46, hf0⟩ | ⟨c46, hf0⟩
     ·exact awpBack X0 TTab_ok hC hm [0,1,5,6,7,8,9] 4000 (rpN 4 bF [bT]) J2 [(0, .d (I inputs)), (1, .d (I k_)), (5, .d (eSl 1 true F0_ r_.1)), (6, .d (I r_.2)), (7, .d (eSl 1 true F0_ r_1.1)), (8, .d (I r_1.2)), (9, .d (I 1))] [ob c44, ob c45, ob c45, ob c45, ob c46] (by kernel_rfl) fun st0 h0 => hJ2 st0 _ 1 hf0 h0 inferInstance
     ·rcases bifE hf0 with ⟨c47, hf0⟩ | ⟨c47, hf0⟩
      ·exact awpBack X0 TTab_ok hC hm [0,1,5,6,7,8,9] 4000 (rpN 5 bF [bT]) J2 [(0, .d (I inputs)), (1, .d (I k_)), (5, .d (eSl 1 true F0_ r_.1)), (6, .d (I r_.2)), (7, .d (eSl 1 true F0_ r_1.1)), (8, .d (I r_1.2)), (9, .d (I 3))] [ob c44, ob c45, ob c45, ob c45, ob c46, ob c47] (by kernel_rfl) fun st0 h0 => hJ2 st0 _ 3 hf0 h0 inferInstance
      ·exact awpBack X0 TTab_ok hC hm [0,1,5,6,7,8,9] 4000 (rpN 6 bF []) J2 [(0, .d (I inputs)), (1, .d (I k_)), (5, .d (eSl 1 true F0_ r_.1)), (6, .d (I r_.2)), (7, .d (eSl 1 true F0_ r_1.1)), (8, .d (I r_1.2)), (9, .d (I 0))] [ob c44, ob c45, ob c45, ob c45, ob c46, ob c47] (by kernel_rfl) fun st0 h0 => hJ2 st0 _ 0 hf0 h0 inferInstance
 ·rcases bifE hf0 with ⟨c48, hf0⟩ | ⟨c48, hf0⟩
  ·rcases bifE hf0 with ⟨c49, hf0⟩ | ⟨c49, hf0⟩
   ·rcases bifE hf0 with ⟨c50, hf0⟩ | ⟨c50, hf0⟩
    ·rcases bifE hf0 with ⟨c51, hf0⟩ | ⟨c51, hf0⟩
     ·obtain rfl := someE hf0
      exact awpEnd X0 TTab_ok hC hm hE 4000 (hs := (rpN 17 bT [])) (x := (B true)) (ob c48 :: ob c48 :: ob c48 :: ob c49 :: ob c49 :: ob c49 :: ob c50 :: ob c50 :: ob c50 :: (rpN 4 (ob c51) [ob c50, ob c51, ob c50, oT])) (by kernel_rfl) (LeV.refl _)
     ·rcases bifE hf0 with ⟨c52, hf0⟩ | ⟨c52, hf0⟩
      ·rcases bifE hf0 with ⟨c53, hf0⟩ | ⟨c53, hf0⟩
       ·obtain rfl := someE hf0
        exact awpEnd X0 TTab_ok hC hm hE 4000 (hs := (rpN 9 bT [bF, bF, bF, bT, bT, bF, bT, bT, bF, bT, bT])) (x := (B true)) [ob c48, ob c48, ob c48, ob c49, ob c49, ob c49, ob c50, ob c50, ob c50, ob c51, ob c51, ob c51, ob c52, ob c52, ob c51, ob c52, ob c50, ob c51, ob c50, ob c53] (by kernel_rfl) (LeV.refl _)
       ·exact awpBack X0 TTab_ok hC hm [0,1] 4000 (rpN 9 bT [bF, bF, bF, bT, bT, bF, bT, bT, bF, bT, bF]) J1 [(0, .d (I inputs)), (1, .d (I k_))] [ob c48, ob c48, ob c48, ob c49, ob c49, ob c49, ob c50, ob c50, ob c50, ob c51, ob c51, ob c51, ob c52, ob c52, ob c51, ob c52, ob c50, ob c51, ob c50, ob c53] (by kernel_rfl) fun st0 h0 => hJ1 st0 _ () hf0 h0 inferInstance
      ·exact awpBack X0 TTab_ok hC hm [0,1] 4000 (rpN 9 bT (rpN 7 bF [bT, bF, bT, bF])) J1 [(0, .d (I inputs)), (1, .d (I k_))] [ob c48, ob c48, ob c48, ob c49, ob c49, ob c49, ob c50, ob c50, ob c50, ob c51, ob c51, ob c51, ob c52, ob c52, ob c51, ob c52, ob c50, ob c51, ob c50, oF] (by kernel_rfl) fun st0 h0 => hJ1 st0 _ () hf0 h0 inferInstance
    ·exact awpBack X0 TTab_ok hC hm [0,1] 4000 (rpN 6 bT (rpN 6 bF [])) J1 [(0, .d (I inputs)), (1, .d (I k_))] (ob c48 :: ob c48 :: ob c48 :: ob c49 :: ob c49 :: ob c49 :: (rpN 5 (ob c50) [oF])) (by kernel_rfl) fun st0 h0 => hJ1 st0 _ () hf0 h0 inferInstance
   ·exact awpBack X0 TTab_ok hC hm [0,1] 4000 (bT :: bT :: bT :: (rpN 9 bF [])) J1 [(0, .d (I inputs)), (1, .d (I k_))] (ob c48 :: ob c48 :: ob c48 :: ob c49 :: ob c49 :: ob c49 :: (rpN 6 oF [])) (by kernel_rfl) fun st0 h0 => hJ1 st0 _ () hf0 h0 inferInstance
  ·exact awpBack X0 TTab_ok hC hm [0,1] 4000 (rpN 12 bF []) J1 [(0, .d (I inputs)), (1, .d (I k_))] (ob c48 :: ob c48 :: ob c48 :: (rpN 9 oF [])) (by kernel_rfl) fun st0 h0 => hJ1 st0 _ () hf0 h0 inferInstance
end Go.Own

namespace Go.Own
open Go.Proofs
set_option linter.unusedVariables false
theorem ks_ne {l : List Spec} {s : Spec} (h : ((l.map Spec.k).contains s.k) = false) : ∀ t ∈ l, t.k ≠ s.k := by
 intro t ht e
 have : (l.map Spec.k).contains s.k = true := by
  rw [List.contains_iff_mem, ← e]
  exact List.mem_map_of_mem ht
 rw [h] at this
 cases this
theorem has_at {l : List Spec} {c : Ctr} (H : ∀ t ∈ l, c.Has t) (i : Nat) {s : Spec} (h : l[i]? = some s) : c.Has s := H _ (List.mem_of_getElem? h)
theorem orders : Try.prog.follows .mixedOrders = true := by kernel_rfl
noncomputable def L0 : List Spec := sp_slices_CloneW_int_int :: []
noncomputable def L1 : List Spec := sp_cmp_isNaN_int :: L0
noncomputable def L2 : List Spec := sp_cmp_Compare_int :: L1
noncomputable def L3 : List Spec := sp_slices_Compare_int_int :: L2
noncomputable def L4 : List Spec := sp_cmp_Or_int :: L3
noncomputable def L5 : List Spec := sp_words_Compare :: L4
noncomputable def L6 : List Spec := sp_tries_sorted_1 :: L5
noncomputable def L7 : List Spec := sp_slices_CompactFuncW_int_int :: L6
noncomputable def L8 : List Spec := sp_tries_steps :: L7
noncomputable def L9 : List Spec := sp_slices_Clone_int_int :: L8
noncomputable def L10 : List Spec := sp_slices_Clip_int_int :: L9
noncomputable def L11 : List Spec := sp_tries_sorted :: L10
noncomputable def L12 : List Spec := sp_tries_all :: L11
noncomputable def L13 : List Spec := sp_tries_Upto :: L12
noncomputable def L14 : List Spec := sp_tries_Exact :: L13
noncomputable def L15 : List Spec := sp_law12_list :: L14
noncomputable def L16 : List Spec := sp_words_Check_1 :: L15
noncomputable def L17 : List Spec := sp_slices_IndexFunc_int_int :: L16
noncomputable def L18 : List Spec := sp_slices_ContainsFunc_int_int :: L17
noncomputable def L19 : List Spec := sp_words_Check :: L18
noncomputable def L20 : List Spec := sp_tries_loose :: L19
noncomputable def L21 : List Spec := sp_tries_Sort :: L20
noncomputable def L22 : List Spec := sp_tries_ahead :: L21
noncomputable def L23 : List Spec := sp_tries_Check :: L22
noncomputable def L24 : List Spec := sp_tries_of :: L23
noncomputable def L25 : List Spec := sp_tries_walk :: L24
noncomputable def L26 : List Spec := sp_tries_leaf_1 :: L25
noncomputable def L27 : List Spec := sp_tries_leaf :: L26
noncomputable def L28 : List Spec := sp_tries_collect :: L27
noncomputable def L29 : List Spec := sp_tries_Reduce :: L28
noncomputable def L30 : List Spec := sp_tries_Prefixes_1 :: L29
noncomputable def L31 : List Spec := sp_tries_valid :: L30
noncomputable def L32 : List Spec := sp_tries_Prefixes :: L31
noncomputable def L33 : List Spec := sp_tries_both :: L32
noncomputable def L34 : List Spec := sp_tries_key :: L33
noncomputable def L35 : List Spec := sp_tries_Concat :: L34
noncomputable def L36 : List Spec := sp_ref12_compare :: L35
noncomputable def L37 : List Spec := sp_ref12_Same :: L36
noncomputable def L38 : List Spec := sp_law12_same :: L37
noncomputable def L39 : List Spec := sp_slices_Clip_tries_Node_tries_Node :: L38
noncomputable def L40 : List Spec := sp_tries_builder_ordered :: L39
noncomputable def L41 : List Spec := sp_tries_Of :: L40
noncomputable def L42 : List Spec := sp_tries_tree :: L41
noncomputable def L43 : List Spec := sp_tries_Words :: L42
noncomputable def L44 : List Spec := sp_tries_Count :: L43
noncomputable def L45 : List Spec := sp_ref12_Equal :: L44
noncomputable def L46 : List Spec := sp_law12_lives :: L45
noncomputable def L47 : List Spec := sp_ref12_Exact :: L46
noncomputable def L48 : List Spec := sp_ref12_Upto :: L47
noncomputable def L49 : List Spec := sp_law12_TriesUpto :: L48
theorem L0_ok : SpecsOk Try.prog L0 := ⟨fun _ hC H => w_slices_CloneW_int_int hC orders, ks_ne (by kernel_rfl), trivial⟩
theorem L1_ok : SpecsOk Try.prog L1 := ⟨fun _ hC H => w_cmp_isNaN_int hC orders, ks_ne (by kernel_rfl), L0_ok⟩
theorem L2_ok : SpecsOk Try.prog L2 := ⟨fun _ hC H => w_cmp_Compare_int hC orders (has_at H 0 rfl), ks_ne (by kernel_rfl), L1_ok⟩
theorem L3_ok : SpecsOk Try.prog L3 := ⟨fun _ hC H => w_slices_Compare_int_int hC orders (has_at H 0 rfl), ks_ne (by kernel_rfl), L2_ok⟩
theorem L4_ok : SpecsOk Try.prog L4 := ⟨fun _ hC H => w_cmp_Or_int hC orders, ks_ne (by kernel_rfl), L3_ok⟩
theorem L5_ok : SpecsOk Try.prog L5 := ⟨fun _ hC H => w_words_Compare hC orders (has_at H 2 rfl) (has_at H 1 rfl) (has_at H 0 rfl), ks_ne (by kernel_rfl), L4_ok⟩
theorem L6_ok : SpecsOk Try.prog L6 := ⟨fun _ hC H => w_tries_sorted_1 hC orders (has_at H 0 rfl), ks_ne (by kernel_rfl), L5_ok⟩
theorem L7_ok : SpecsOk Try.prog L7 := ⟨fun _ hC H => w_slices_CompactFuncW_int_int hC orders (has_at H 0 rfl), ks_ne (by kernel_rfl), L6_ok⟩
theorem L8_ok : SpecsOk Try.prog L8 := ⟨fun _ hC H => w_tries_steps hC orders, ks_ne (by kernel_rfl), L7_ok⟩
theorem L9_ok : SpecsOk Try.prog L9 := ⟨fun _ hC H => w_slices_Clone_int_int hC orders, ks_ne (by kernel_rfl), L8_ok⟩
theorem L10_ok : SpecsOk Try.prog L10 := ⟨fun _ hC H => w_slices_Clip_int_int hC orders, ks_ne (by kernel_rfl), L9_ok⟩
theorem L11_ok : SpecsOk Try.prog L11 := ⟨fun _ hC H => w_tries_sorted hC orders (has_at H 10 rfl) (has_at H 5 rfl) (has_at H 3 rfl) (has_at H 2 rfl) (has_at H 1 rfl) (has_at H 0 rfl), ks_ne (by kernel_rfl), L10_ok⟩
theorem L12_ok : SpecsOk Try.prog L12 := ⟨fun _ hC H => w_tries_all hC orders (has_at H 0 rfl) (has_at H 1 rfl), ks_ne (by kernel_rfl), L11_ok⟩
theorem L13_ok : SpecsOk Try.prog L13 := ⟨fun _ hC H => w_tries_Upto hC orders (has_at H 0 rfl), ks_ne (by kernel_rfl), L12_ok⟩
theorem L14_ok : SpecsOk Try.prog L14 := ⟨fun _ hC H => w_tries_Exact hC orders (has_at H 1 rfl), ks_ne (by kernel_rfl), L13_ok⟩
theorem L15_ok : SpecsOk Try.prog L15 := ⟨fun _ hC H => w_law12_list hC orders, ks_ne (by kernel_rfl), L14_ok⟩
theorem L16_ok : SpecsOk Try.prog L16 := ⟨fun _ hC H => w_words_Check_1 hC orders, ks_ne (by kernel_rfl), L15_ok⟩
theorem L17_ok : SpecsOk Try.prog L17 := ⟨fun _ hC H => w_slices_IndexFunc_int_int hC orders (has_at H 0 rfl), ks_ne (by kernel_rfl), L16_ok⟩
theorem L18_ok : SpecsOk Try.prog L18 := ⟨fun _ hC H => w_slices_ContainsFunc_int_int hC orders (has_at H 0 rfl), ks_ne (by kernel_rfl), L17_ok⟩
theorem L19_ok : SpecsOk Try.prog L19 := ⟨fun _ hC H => w_words_Check hC orders (has_at H 0 rfl), ks_ne (by kernel_rfl), L18_ok⟩
theorem L20_ok : SpecsOk Try.prog L20 := ⟨fun _ hC H => w_tries_loose hC orders (has_at H 0 rfl), ks_ne (by kernel_rfl), L19_ok⟩
theorem L21_ok : SpecsOk Try.prog L21 := ⟨fun _ hC H => w_tries_Sort hC orders (has_at H 0 rfl) (has_at H 9 rfl), ks_ne (by kernel_rfl), L20_ok⟩
theorem L22_ok : SpecsOk Try.prog L22 := ⟨fun _ hC H => w_tries_ahead hC orders (has_at H 16 rfl), ks_ne (by kernel_rfl), L21_ok⟩
theorem L23_ok : SpecsOk Try.prog L23 := ⟨fun _ hC H => w_tries_Check hC orders (has_at H 2 rfl) (has_at H 0 rfl) (has_at H 14 rfl), ks_ne (by kernel_rfl), L22_ok⟩
theorem L24_ok : SpecsOk Try.prog L24 := ⟨fun _ hC H => w_tries_of hC orders, ks_ne (by kernel_rfl), L23_ok⟩
theorem L25_ok : SpecsOk Try.prog L25 := ⟨fun _ hC H => w_tries_walk hC orders, ks_ne (by kernel_rfl), L24_ok⟩
theorem L26_ok : SpecsOk Try.prog L26 := ⟨fun _ hC H => w_tries_leaf_1 hC orders, ks_ne (by kernel_rfl), L25_ok⟩
theorem L27_ok : SpecsOk Try.prog L27 := ⟨fun _ hC H => w_tries_leaf hC orders (has_at H 0 rfl), ks_ne (by kernel_rfl), L26_ok⟩
theorem L28_ok : SpecsOk Try.prog L28 := ⟨fun _ hC H => w_tries_collect hC orders (has_at H 2 rfl) (has_at H 17 rfl) (has_at H 0 rfl) (has_at H 18 rfl), ks_ne (by kernel_rfl), L27_ok⟩
theorem L29_ok : SpecsOk Try.prog L29 := ⟨fun _ hC H => w_tries_Reduce hC orders (has_at H 5 rfl) (has_at H 4 rfl) (has_at H 0 rfl), ks_ne (by kernel_rfl), L28_ok⟩
theorem L30_ok : SpecsOk Try.prog L30 := ⟨fun _ hC H => w_tries_Prefixes_1 hC orders, ks_ne (by kernel_rfl), L29_ok⟩
theorem L31_ok : SpecsOk Try.prog L31 := ⟨fun _ hC H => w_tries_valid hC orders (has_at H 22 rfl), ks_ne (by kernel_rfl), L30_ok⟩
theorem L32_ok : SpecsOk Try.prog L32 := ⟨fun _ hC H => w_tries_Prefixes hC orders (has_at H 8 rfl) (has_at H 7 rfl) (has_at H 6 rfl) (has_at H 21 rfl) (has_at H 1 rfl) (has_at H 22 rfl) (has_at H 0 rfl), ks_ne (by kernel_rfl), L31_ok⟩
theorem L33_ok : SpecsOk Try.prog L33 := ⟨fun _ hC H => w_tries_both hC orders (has_at H 9 rfl), ks_ne (by kernel_rfl), L32_ok⟩
theorem L34_ok : SpecsOk Try.prog L34 := ⟨fun _ hC H => w_tries_key hC orders, ks_ne (by kernel_rfl), L33_ok⟩
theorem L35_ok : SpecsOk Try.prog L35 := ⟨fun _ hC H => w_tries_Concat hC orders (has_at H 1 rfl) (has_at H 24 rfl) (has_at H 0 rfl) (has_at H 23 rfl), ks_ne (by kernel_rfl), L34_ok⟩
theorem L36_ok : SpecsOk Try.prog L36 := ⟨fun _ hC H => w_ref12_compare hC orders, ks_ne (by kernel_rfl), L35_ok⟩
theorem L37_ok : SpecsOk Try.prog L37 := ⟨fun _ hC H => w_ref12_Same hC orders (has_at H 0 rfl), ks_ne (by kernel_rfl), L36_ok⟩
theorem L38_ok : SpecsOk Try.prog L38 := ⟨fun _ hC H => w_law12_same hC orders (has_at H 0 rfl), ks_ne (by kernel_rfl), L37_ok⟩
theorem L39_ok : SpecsOk Try.prog L39 := ⟨fun _ hC H => w_slices_Clip_tries_Node_tries_Node hC orders, ks_ne (by kernel_rfl), L38_ok⟩
theorem L40_ok : SpecsOk Try.prog L40 := ⟨fun _ hC H => w_tries_builder_ordered hC orders (has_at H 14 rfl) (has_at H 29 rfl) (has_at H 0 rfl), ks_ne (by kernel_rfl), L39_ok⟩
theorem L41_ok : SpecsOk Try.prog L41 := ⟨fun _ hC H => w_tries_Of hC orders (has_at H 17 rfl) (has_at H 16 rfl) (has_at H 0 rfl), ks_ne (by kernel_rfl), L40_ok⟩
theorem L42_ok : SpecsOk Try.prog L42 := ⟨fun _ hC H => w_tries_tree hC orders, ks_ne (by kernel_rfl), L41_ok⟩
theorem L43_ok : SpecsOk Try.prog L43 := ⟨fun _ hC H => w_tries_Words hC orders (has_at H 0 rfl) (has_at H 17 rfl) (has_at H 32 rfl) (has_at H 15 rfl) (has_at H 33 rfl) (has_at H 19 rfl), ks_ne (by kernel_rfl), L42_ok⟩
theorem L44_ok : SpecsOk Try.prog L44 := ⟨fun _ hC H => w_tries_Count hC orders (has_at H 0 rfl) (has_at H 16 rfl), ks_ne (by kernel_rfl), L43_ok⟩
theorem L45_ok : SpecsOk Try.prog L45 := ⟨fun _ hC H => w_ref12_Equal hC orders (has_at H 8 rfl), ks_ne (by kernel_rfl), L44_ok⟩
theorem L46_ok : SpecsOk Try.prog L46 := ⟨fun _ hC H => w_law12_lives hC orders (has_at H 30 rfl) (has_at H 24 rfl) (has_at H 16 rfl) (has_at H 13 rfl) (has_at H 10 rfl) (has_at H 7 rfl) (has_at H 32 rfl) (has_at H 31 rfl) (has_at H 4 rfl) (has_at H 1 rfl) (has_at H 0 rfl) (has_at H 22 rfl), ks_ne (by kernel_rfl), L45_ok⟩
theorem L47_ok : SpecsOk Try.prog L47 := ⟨fun _ hC H => w_ref12_Exact hC orders, ks_ne (by kernel_rfl), L46_ok⟩
theorem L48_ok : SpecsOk Try.prog L48 := ⟨fun _ hC H => w_ref12_Upto hC orders (has_at H 0 rfl), ks_ne (by kernel_rfl), L47_ok⟩
theorem L49_ok : SpecsOk Try.prog L49 := ⟨fun _ hC H => w_law12_TriesUpto hC orders (has_at H 35 rfl) (has_at H 34 rfl) (has_at H 2 rfl) (has_at H 0 rfl) (has_at H 10 rfl) (has_at H 1 rfl), ks_ne (by kernel_rfl), L48_ok⟩
end Go.Own

namespace Go.Own
set_option linter.unusedVariables false
theorem w64_in {x : Int} (h1 : -9223372036854775808 ≤ x) (h2 : x ≤ 9223372036854775807) : w64 x = x := by
 simp only [w64, IntKind.wrap, IntKind.bits, IntKind.signed]
 simp
 omega
section
variable {α β σ τ ρ : Type}
def Ret (x : Option α) (Q : α → Prop) : Prop := ∃ a, x = some a ∧ Q a
theorem Ret.mono {x : Option α} {Q R : α → Prop} (h : Ret x Q) (q : ∀ a, Q a → R a) : Ret x R := by
 obtain ⟨a, e, h⟩ := h
 exact ⟨a, e, q a h⟩
theorem Ret.eq {x : Option α} {a : α} (h : Ret x fun b => b = a) : x = some a := by
 obtain ⟨b, e, rfl⟩ := h
 exact e
theorem ret_some {a : α} {Q : α → Prop} : Ret (some a) Q ↔ Q a := ⟨fun ⟨b, e, q⟩ => by cases e; exact q, fun q => ⟨a, rfl, q⟩⟩
theorem ret_bind {x : Option α} {f : α → Option β} {Q : β → Prop} : Ret (Option.bind x f) Q ↔ Ret x fun a => Ret (f a) Q := by
 cases x with
 | none => exact ⟨fun ⟨b, e, _⟩ => (by cases e), fun ⟨b, e, _⟩ => (by cases e)⟩
 | some a => exact ⟨fun h => ⟨a, rfl, h⟩, fun ⟨b, e, h⟩ => by cases e; exact h⟩
theorem ret_bif {c : Bool} {x y : Option α} {Q : α → Prop} : Ret (bif c then x else y) Q ↔ (c = true → Ret x Q) ∧ (c = false → Ret y Q) := by
 cases c <;> simp
theorem idx_nat (l : List α) (i : Nat) : idx l (i : Int) = l[i]? := rfl
theorem gdT {p : Prop} [Decidable p] {x : Option α} (h : p) : gd p x = x := by unfold gd; rw [if_pos h]
theorem bdT {x : Option α} {u : α} {f : α → Option ρ} (h : x = some u) : Option.bind x f = f u := by rw [h]; rfl
theorem loopN_succ (step : σ → Option (LR σ τ)) (n : Nat) (s : σ) : loopN step (n + 1) s = (match step s with | none => none | some (.next s') => loopN step n s' | some (.done t) => some t) := rfl
def LRP (N : σ → Prop) (D : τ → Prop) : LR σ τ → Prop
 | .next s => N s
 | .done t => D t
theorem ret_loop {step : σ → Option (LR σ τ)} (I : σ → Prop) (m : σ → Nat) {R : τ → Prop} {s : σ} (hs : I s) (hm : m s < 18446744073709551616)
  (h : ∀ s, I s → Ret (step s) (LRP (fun s' => I s' ∧ m s' < m s) R)) : Ret (loop step s) R := by
 have gen : ∀ (n : Nat) (s : σ), I s → m s < n → Ret (loopN step n s) R := by
  intro n
  induction n with
  | zero => intro s _ h; omega
  | succ n ih =>
   intro s hs hm
   obtain ⟨a, e, q⟩ := h s hs
   rw [loopN_succ, e]
   cases a with
   | next s' => exact ih s' q.1 (by have := q.2; omega)
   | done t => exact ⟨t, rfl, q⟩
 exact gen fuel s hs hm
theorem loop_seq {step : σ → Option (LR σ τ)} (st : Nat → σ) (n : Nat) {t : τ} (hn : n < 9223372036854775808) (h : ∀ i, i < n → step (st i) = some (.next (st (i + 1)))) (hd : step (st n) = some (.done t)) : loop step (st 0) = some t := by
 have gen : ∀ (k : Nat) (i : Nat), i ≤ n → n - i < k → loopN step k (st i) = some t := by
  intro k
  induction k with
  | zero => intro i _ h; omega
  | succ k ih =>
   intro i hi hk
   rw [loopN_succ]
   rcases Nat.lt_or_ge i n with q | q
   ·rw [h i q]
    exact ih (i + 1) q (by omega)
   ·have : i = n := by omega
    subst this
    rw [hd]
 exact gen fuel 0 (Nat.zero_le _) (by show n - 0 < 18446744073709551616; omega)
def firstS (f : Nat → α → Option ρ) : List α → Nat → Option ρ
 | [], _ => none
 | x :: l, i => match f i x with | some r => some r | none => firstS f l (i + 1)
theorem firstS_none {f : Nat → α → Option ρ} : ∀ {l : List α} {k : Nat}, (∀ i x, l[i]? = some x → f (k + i) x = none) → firstS f l k = none
 | [], _, _ => rfl
 | x :: l, k, h => by
  have h0 := h 0 x rfl
  simp only [Nat.add_zero] at h0
  simp only [firstS, h0]
  exact firstS_none fun i y hy => by have := h (i + 1) y (by simpa using hy); rwa [show k + 1 + i = k + (i + 1) by omega]
theorem firstS_some {f : Nat → α → Option ρ} {r : ρ} : ∀ {l : List α} {k : Nat}, firstS f l k = some r → ∃ i x, l[i]? = some x ∧ f (k + i) x = some r
 | [], _, h => by cases h
 | x :: l, k, h => by
  simp only [firstS] at h
  cases hf : f k x with
  | some r' => rw [hf] at h; exact ⟨0, x, rfl, by rw [Nat.add_zero, hf]; exact h⟩
  | none =>
   rw [hf] at h
   obtain ⟨i, y, h1, h2⟩ := firstS_some h
   exact ⟨i + 1, y, by simpa using h1, by rw [← h2]; congr 1; omega⟩
theorem firstS_isNone {f : Nat → α → Option ρ} {l : List α} {k : Nat} (h : firstS f l k = none) : ∀ i x, l[i]? = some x → f (k + i) x = none := by
 induction l generalizing k with
 | nil => intro i x h; simp at h
 | cons y l ih =>
  intro i x hx
  simp only [firstS] at h
  cases hf : f k y with
  | some r' => rw [hf] at h; cases h
  | none =>
   rw [hf] at h
   cases i with
   | zero => simp at hx; subst hx; simpa using hf
   | succ i => have := ih h i x (by simpa using hx); rwa [show k + (i + 1) = k + 1 + i by omega]
def oS : Option ρ → Unit ⊕ ρ
 | some r => .inr r
 | none => .inl ()
def nS (i : Nat) : Option ρ → LR Int (Unit ⊕ ρ)
 | some r => .done (.inr r)
 | none => .next (w64 ((i : Int) + 1))
theorem loop_list (l : List α) (hl : l.length < 4611686018427387904) {step : Int → Option (LR Int (Unit ⊕ ρ))} (f : Nat → α → Option ρ)
  (h : ∀ (i : Nat) (x : α), l[i]? = some x → step (i : Int) = some (nS i (f i x))) (h2 : step (l.length : Int) = some (.done (.inl ()))) :
  loop step 0 = some (oS (firstS f l 0)) := by
 have gen : ∀ (n : Nat) (k : Nat), k ≤ l.length → l.length - k < n → loopN step n (k : Int) = some (oS (firstS f (l.drop k) k)) := by
  intro n
  induction n with
  | zero => intro k _ h; omega
  | succ n ih =>
   intro k hk hn
   rw [loopN_succ]
   rcases Nat.lt_or_ge k l.length with hlt | hge
   ·have hx : l[k]? = some l[k] := List.getElem?_eq_getElem hlt
    rw [h k _ hx, List.drop_eq_getElem_cons hlt]
    simp only [firstS]
    cases hf : f k l[k] with
    | some r => rfl
    | none =>
     simp only [nS]
     rw [w64_in (by omega) (by omega)]
     exact ih (k + 1) hlt (by omega)
   ·have : k = l.length := by omega
    subst this
    rw [h2, List.drop_length]
    rfl
 exact gen fuel 0 (Nat.zero_le _) (by show l.length - 0 < 18446744073709551616; omega)
end
end Go.Own

namespace Go.Own
set_option linter.unusedVariables false
def lexC : List Int → List Int → Int
 | [], [] => 0
 | [], _ :: _ => -1
 | _ :: _, [] => 1
 | x :: a, y :: b => if x < y then -1 else if y < x then 1 else lexC a b
def cmpW (a b : List Int) : Int := if a.length < b.length then -1 else if b.length < a.length then 1 else lexC a b
theorem lexC_eq : ∀ {a b : List Int}, lexC a b = 0 → a = b
 | [], [], _ => rfl
 | [], _ :: _, h => by simp [lexC] at h
 | _ :: _, [], h => by simp [lexC] at h
 | x :: a, y :: b, h => by
  simp only [lexC] at h
  split at h
  ·simp at h
  ·split at h
   ·simp at h
   ·rw [show x = y by omega, lexC_eq h]
theorem lexC_self : ∀ a : List Int, lexC a a = 0
 | [] => rfl
 | x :: a => by simp [lexC, lexC_self a]
theorem lexC_neg : ∀ a b : List Int, lexC b a = - lexC a b
 | [], [] => rfl
 | [], _ :: _ => rfl
 | _ :: _, [] => rfl
 | x :: a, y :: b => by
  simp only [lexC]
  split
  ·rw [if_neg (by omega)]
  ·split
   ·rfl
   ·exact lexC_neg a b
theorem lexC_trans : ∀ {a b c : List Int}, lexC a b < 0 → lexC b c < 0 → lexC a c < 0
 | [], [], _, h, _ => by simp [lexC] at h
 | [], _ :: _, [], _, h => by simp [lexC] at h
 | [], _ :: _, _ :: _, _, _ => by simp [lexC]
 | _ :: _, [], _, h, _ => by simp [lexC] at h
 | _ :: _, _ :: _, [], _, h => by simp [lexC] at h
 | x :: a, y :: b, z :: c, h1, h2 => by
  simp only [lexC] at h1 h2 ⊢
  by_cases e1 : x < y
  ·by_cases e2 : y < z
   ·rw [if_pos (by omega)]; omega
   ·rw [if_neg e2] at h2
    by_cases e3 : z < y
    ·rw [if_pos e3] at h2; omega
    ·rw [if_pos (by omega)]; omega
  ·rw [if_neg e1] at h1
   by_cases e3 : y < x
   ·rw [if_pos e3] at h1; omega
   ·rw [if_neg e3] at h1
    have : x = y := by omega
    subst this
    by_cases e2 : x < z
    ·rw [if_pos e2]; omega
    ·rw [if_neg e2] at h2 ⊢
     by_cases e4 : z < x
     ·rw [if_pos e4] at h2; omega
     ·rw [if_neg e4] at h2 ⊢
      exact lexC_trans h1 h2
theorem cmpW_eq {a b : List Int} (h : cmpW a b = 0) : a = b := by
 unfold cmpW at h
 split at h
 ·simp at h
 ·split at h
  ·simp at h
  ·exact lexC_eq h
theorem cmpW_self (a : List Int) : cmpW a a = 0 := by simp [cmpW, lexC_self]
theorem cmpW_eq0 {a b : List Int} : cmpW a b = 0 ↔ a = b := ⟨cmpW_eq, fun h => h ▸ cmpW_self a⟩
theorem cmpW_neg (a b : List Int) : cmpW b a = - cmpW a b := by
 unfold cmpW
 by_cases h1 : a.length < b.length
 ·rw [if_pos h1, if_neg (by omega), if_pos h1]; rfl
 ·by_cases h2 : b.length < a.length
  ·rw [if_pos h2, if_neg h1, if_pos h2]
  ·rw [if_neg h1, if_neg h2, if_neg h2, if_neg h1, lexC_neg]
theorem cmpW_trans {a b c : List Int} (h1 : cmpW a b < 0) (h2 : cmpW b c < 0) : cmpW a c < 0 := by
 unfold cmpW at *
 by_cases e1 : a.length < b.length
 ·by_cases e2 : b.length < c.length
  ·rw [if_pos (by omega)]; omega
  ·rw [if_neg e2] at h2
   by_cases e3 : c.length < b.length
   ·rw [if_pos e3] at h2; omega
   ·rw [if_pos (by omega)]; omega
 ·rw [if_neg e1] at h1
  by_cases e3 : b.length < a.length
  ·rw [if_pos e3] at h1; omega
  ·rw [if_neg e3] at h1
   have e : a.length = b.length := by omega
   rw [e]
   by_cases e2 : b.length < c.length
   ·rw [if_pos e2]; omega
   ·rw [if_neg e2] at h2 ⊢
    by_cases e4 : c.length < b.length
    ·rw [if_pos e4] at h2; omega
    ·rw [if_neg e4] at h2 ⊢
     exact lexC_trans h1 h2
theorem cmpW_irr (a : List Int) : ¬ cmpW a a < 0 := by rw [cmpW_self]; omega
theorem cmpW_asym {a b : List Int} (h : cmpW a b < 0) : ¬ cmpW b a < 0 := by rw [cmpW_neg a b]; omega
theorem cmpW_ge {a b : List Int} : ¬ cmpW a b < 0 ↔ cmpW b a < 0 ∨ a = b := by
 rw [← cmpW_eq0, cmpW_neg a b]; omega
def SW (l : List (List Int)) : Prop := l.Pairwise fun a b => cmpW a b < 0
theorem SW.nil : SW [] := List.Pairwise.nil
theorem SW.tail {x : List Int} {l : List (List Int)} (h : SW (x :: l)) : SW l := (List.pairwise_cons.1 h).2
theorem SW.head {x : List Int} {l : List (List Int)} (h : SW (x :: l)) : ∀ y ∈ l, cmpW x y < 0 := (List.pairwise_cons.1 h).1
theorem SW.unique : ∀ {l m : List (List Int)}, SW l → SW m → (∀ x, x ∈ l ↔ x ∈ m) → l = m
 | [], [], _, _, _ => rfl
 | [], y :: m, _, _, h => by have := (h y).2 (by simp); simp at this
 | x :: l, [], _, _, h => by have := (h x).1 (by simp); simp at this
 | x :: l, y :: m, h1, h2, h => by
  have hxy : x = y := by
   rcases List.mem_cons.1 ((h x).1 (by simp)) with e | e
   ·exact e
   ·rcases List.mem_cons.1 ((h y).2 (by simp)) with e' | e'
    ·exact e'.symm
    ·exact absurd (h2.head x e) (cmpW_asym (h1.head y e'))
  subst hxy
  rw [SW.unique h1.tail h2.tail fun z => ?_]
  constructor
  ·intro hz
   rcases List.mem_cons.1 ((h z).1 (by simp [hz])) with e | e
   ·subst e; exact absurd (h1.head _ hz) (cmpW_irr _)
   ·exact e
  ·intro hz
   rcases List.mem_cons.1 ((h z).2 (by simp [hz])) with e | e
   ·subst e; exact absurd (h2.head _ hz) (cmpW_irr _)
   ·exact e
def putW (w : List Int) : List (List Int) → List (List Int)
 | [] => [w]
 | x :: l => if cmpW x w < 0 then x :: putW w l else if cmpW x w = 0 then x :: l else w :: x :: l
theorem mem_putW {w x : List Int} : ∀ {l : List (List Int)}, x ∈ putW w l ↔ x = w ∨ x ∈ l
 | [] => by simp [putW]
 | y :: l => by
  simp only [putW]
  split
  ·simp only [List.mem_cons, mem_putW]
   constructor
   ·rintro (h | h | h) <;> simp [h]
   ·rintro (h | h | h) <;> simp [h]
  ·split
   ·rename_i h1 h2
    have := cmpW_eq h2
    subst this
    simp
   ·simp
theorem SW.put {w : List Int} : ∀ {l : List (List Int)}, SW l → SW (putW w l)
  | [], _ => by simp [putW, SW]
  | y :: l, h => by
    simp only [putW]
    split
    · rename_i h1
      refine List.pairwise_cons.2 ⟨fun z hz => ?_, SW.put h.tail⟩
      rcases mem_putW.1 hz with rfl | hz
      · exact h1
      · exact h.head z hz
    · split
      · exact h
      · rename_i h1 h2
        have hw : cmpW w y < 0 := by rcases cmpW_ge.1 h1 with q | q
                                     · exact q
                                     · exact absurd (cmpW_eq0.2 q) h2
        refine List.pairwise_cons.2 ⟨fun z hz => ?_, h⟩
        rcases List.mem_cons.1 hz with rfl | hz
        · exact hw
        · exact cmpW_trans hw (h.head z hz)
theorem putW_len (w : List Int) : ∀ l, (putW w l).length ≤ l.length + 1
 | [] => by simp [putW]
 | y :: l => by
  simp only [putW]
  split
  ·have := putW_len w l; simp; omega
  ·split <;> simp
def srt (l : List (List Int)) : List (List Int) := l.foldl (fun m w => putW w m) []
theorem srt_gen : ∀ (l m : List (List Int)), SW m → SW (l.foldl (fun m w => putW w m) m) ∧ ∀ x, x ∈ l.foldl (fun m w => putW w m) m ↔ x ∈ m ∨ x ∈ l
 | [], m, h => ⟨h, by simp⟩
 | w :: l, m, h => by
  obtain ⟨h1, h2⟩ := srt_gen l (putW w m) h.put
  refine ⟨h1, fun x => ?_⟩
  rw [List.foldl_cons, h2, mem_putW]
  simp only [List.mem_cons]
  constructor
  ·rintro ((h | h) | h) <;> simp [h]
  ·rintro (h | h | h) <;> simp [h]
theorem srt_sw (l : List (List Int)) : SW (srt l) := (srt_gen l [] .nil).1
theorem mem_srt {l : List (List Int)} {x : List Int} : x ∈ srt l ↔ x ∈ l := by rw [srt, (srt_gen l [] .nil).2]; simp
theorem srt_eq {l m : List (List Int)} (h : SW m) (hm : ∀ x, x ∈ m ↔ x ∈ l) : m = srt l := h.unique (srt_sw l) fun x => by rw [hm, mem_srt]
theorem srt_of_sw {l : List (List Int)} (h : SW l) : srt l = l := (srt_eq h fun _ => .rfl).symm
theorem srt_congr {l m : List (List Int)} (h : ∀ x, x ∈ l ↔ x ∈ m) : srt l = srt m := srt_eq (srt_sw l) fun x => by rw [mem_srt, h]
theorem srt_len (l : List (List Int)) : (srt l).length ≤ l.length := by
 have : ∀ (l m : List (List Int)), (l.foldl (fun m w => putW w m) m).length ≤ m.length + l.length := by
  intro l
  induction l with
  | nil => intro m; simp
  | cons w l ih => intro m; have := ih (putW w m); have := putW_len w m; simp only [List.foldl_cons, List.length_cons]; omega
 have q := this l []
 simp only [List.length_nil, Nat.zero_add] at q
 exact q
end Go.Own

namespace Go.Own
set_option linter.unusedVariables false
theorem idx_some {α : Type} {l : List α} {i : Nat} {x : α} (h : l[i]? = some x) : idx l (i : Int) = some x := h
theorem fs_lex (b : List Int) (g : Nat → Int → Option Int) (hg : ∀ i x y, b[i]? = some y → g i x = if x < y then some (-1) else if y < x then some 1 else none) :
  ∀ (a : List Int) (k : Nat), k + a.length = b.length → (firstS g a k).getD 0 = lexC a (b.drop k)
 | [], k, h => by
  have : b.drop k = [] := List.drop_eq_nil_of_le (by simp at h; omega)
  rw [this]; rfl
 | x :: a, k, h => by
  simp only [List.length_cons] at h
  have hk : k < b.length := by omega
  rw [List.drop_eq_getElem_cons hk]
  simp only [firstS, lexC, hg k x b[k] (List.getElem?_eq_getElem hk)]
  by_cases h1 : x < b[k]
  ·simp [h1]
  ·by_cases h2 : b[k] < x
   ·simp [h1, h2]
   ·simp only [h1, h2, if_false]
    exact fs_lex b g hg a (k + 1) (by omega)
theorem compare_eq (a b : List Int) (h : a.length = b.length → a.length < 4611686018427387904) : ref12_compare a b = some (cmpW a b) := by
 unfold ref12_compare
 by_cases hl : a.length = b.length
 ·have h' := h hl
  simp only [hl, bne_self_eq_false, cond_false]
  rw [bdT (loop_list a h' (fun i x => match b[i]? with | some y => if x < y then some (-1 : Int) else if y < x then some 1 else none | none => none) ?_ ?_)]
  ·have q := fs_lex b (fun i x => match b[i]? with | some y => if x < y then some (-1 : Int) else if y < x then some 1 else none | none => none) (fun i x y hy => by simp only [hy]) a 0 (by omega)
   rw [List.drop_zero] at q
   have hc : cmpW a b = lexC a b := by unfold cmpW; rw [if_neg (by omega), if_neg (by omega)]
   rw [hc, ← q]
   cases firstS (fun i x => match b[i]? with | some y => if x < y then some (-1 : Int) else if y < x then some 1 else none | none => none) a 0 <;> rfl
  ·intro i x hx
   have hi : i < a.length := (List.getElem?_eq_some_iff.1 hx).1
   have hy : b[i]? = some b[i] := List.getElem?_eq_getElem (by omega)
   unfold ref12_compare_L2
   have hc : decide ((i : Int) < (a.length : Int)) = true := by simpa using hi
   simp only [hc, cond_true, idx_some hx, idx_some hy, hy, Option.bind_some]
   by_cases h1 : x < b[i]
   ·simp [h1, nS]
   ·by_cases h2 : b[i] < x
    ·simp [h1, h2, nS]
    ·simp [h1, h2, nS]
  ·unfold ref12_compare_L2
   simp
 ·have h1 : (((a.length : Nat) : Int) != ((b.length : Nat) : Int)) = true := by simp; omega
  simp only [h1, cond_true]
  unfold cmpW
  by_cases h2 : a.length < b.length
  ·simp [h2]
  ·have h3 : b.length < a.length := by omega
   simp [h2, h3]
def cI (x y : Int) : Int := if x < y then -1 else if y < x then 1 else 0
theorem cmpi_eq (x y : Int) : cmp_Compare_int x y = some (cI x y) := by
 unfold cmp_Compare_int cmp_isNaN_int cI
 simp only [bne_self_eq_false, Option.bind_some, cond_false]
 by_cases h1 : x < y
 ·simp [h1]
 ·by_cases h2 : y < x
  ·simp [h1, h2]
  ·simp [h1, h2]
theorem scmp_eq (a b : List Int) (h : a.length < 4611686018427387904) : ∃ c, slices_Compare_int_int a b = some c ∧ (a.length = b.length → c = lexC a b) := by
 unfold slices_Compare_int_int
 have hloop := loop_list a h (step := fun s => slices_Compare_int_int_L2 a b s) (fun i x => match b[i]? with | some y => if x < y then some (-1 : Int) else if y < x then some 1 else none | none => some 1) (by
  intro i x hx
  have hi : i < a.length := (List.getElem?_eq_some_iff.1 hx).1
  unfold slices_Compare_int_int_L2
  have hc : decide ((i : Int) < (a.length : Int)) = true := by simpa using hi
  simp only [hc, cond_true, idx_some hx, Option.bind_some]
  by_cases hb : i < b.length
  ·have hy : b[i]? = some b[i] := List.getElem?_eq_getElem hb
   have hd : decide ((i : Int) ≥ (b.length : Int)) = false := by simp; omega
   simp only [hd, cond_false, idx_some hy, hy, Option.bind_some, cmpi_eq]
   unfold cI
   by_cases h1 : x < b[i]
   ·simp [h1, nS]
   ·by_cases h2 : b[i] < x
    ·simp [h1, h2, nS]
    ·simp [h1, h2, nS]
  ·have hy : b[i]? = none := List.getElem?_eq_none (by omega)
   have hd : decide ((i : Int) ≥ (b.length : Int)) = true := by simp; omega
   simp only [hd, cond_true, hy, nS]) (by unfold slices_Compare_int_int_L2; simp)
 rw [bdT hloop]
 have q := fun hl => fs_lex b (fun i x => match b[i]? with | some y => if x < y then some (-1 : Int) else if y < x then some 1 else none | none => some 1) (fun i x y hy => by simp only [hy]) a 0 hl
 cases hf : firstS (fun i x => match b[i]? with | some y => if x < y then some (-1 : Int) else if y < x then some 1 else none | none => some 1) a 0 with
 | some r =>
  refine ⟨r, rfl, fun hl => ?_⟩
  have := q (by omega)
  rw [hf] at this
  simpa using this
 | none =>
  unfold slices_Compare_int_int_J1
  by_cases hl : a.length < b.length
  ·refine ⟨-1, by simp [oS, hl], fun hl2 => by omega⟩
  ·refine ⟨0, by simp [oS, hl], fun hl2 => ?_⟩
   have := q (by omega)
   rw [hf] at this
   simpa using this
theorem or_eq (x y : Int) : cmp_Or_int [x, y] = some (if x = 0 then y else x) := by
 unfold cmp_Or_int
 rw [bdT (loop_list [x, y] (by simp) (step := fun s => cmp_Or_int_L2 [x, y] s) (fun i v => if v ≠ 0 then some v else none) ?_ ?_)]
 ·by_cases h1 : x = 0
  ·by_cases h2 : y = 0
   ·simp [firstS, h1, h2, oS, cmp_Or_int_J1]
   ·simp [firstS, h1, h2, oS]
  ·simp [firstS, h1, oS]
 ·intro i v hv
  have hi : i < [x, y].length := (List.getElem?_eq_some_iff.1 hv).1
  unfold cmp_Or_int_L2
  have hc : decide ((i : Int) < (([x, y] : List Int).length : Int)) = true := by simp only [decide_eq_true_eq]; omega
  simp only [hc, cond_true, idx_some hv, Option.bind_some]
  by_cases h : v = 0
  ·simp [h, nS]
  ·have hb : (v != 0) = true := by simpa using h
   simp [h, hb, nS]
 ·unfold cmp_Or_int_L2; simp
theorem Compare_eq (a b : List Int) (h : a.length < 4611686018427387904) : words_Compare a b = some (cmpW a b) := by
 unfold words_Compare
 obtain ⟨c, hc, hl⟩ := scmp_eq a b h
 rw [cmpi_eq, hc]
 simp only [Option.bind_some, or_eq]
 unfold cI cmpW
 by_cases h1 : a.length < b.length
 ·simp [h1]
 ·by_cases h2 : b.length < a.length
  ·simp [h1, h2]
  ·simp [h1, h2, hl (by omega)]
theorem loop_sum (l : List (List Int)) (hl : l.length < 4611686018427387904) {step : Int × Int → Option (LR (Int × Int) Int)}
  (h : ∀ (n : Int) (i : Nat) (x : List Int), l[i]? = some x → step (n, (i : Int)) = some (.next (w64 (n + ((x.length : Nat) : Int)), w64 ((i : Int) + 1)))) (h2 : ∀ n, step (n, (l.length : Int)) = some (.done n)) :
  loop step (0, 0) = some (l.foldl (fun n x => w64 (n + ((x.length : Nat) : Int))) 0) := by
 have gen : ∀ (m k : Nat) (n : Int), k ≤ l.length → l.length - k < m → loopN step m (n, (k : Int)) = some ((l.drop k).foldl (fun n x => w64 (n + ((x.length : Nat) : Int))) n) := by
  intro m
  induction m with
  | zero => intro k n _ h; omega
  | succ m ih =>
   intro k n hk hn
   rw [loopN_succ]
   rcases Nat.lt_or_ge k l.length with hlt | hge
   ·have hx : l[k]? = some l[k] := List.getElem?_eq_getElem hlt
    rw [h n k _ hx, List.drop_eq_getElem_cons hlt]
    simp only [List.foldl_cons]
    rw [w64_in (x := (k : Int) + 1) (by omega) (by omega)]
    exact ih (k + 1) _ hlt (by omega)
   ·have : k = l.length := by omega
    subst this
    rw [h2, List.drop_length]
    rfl
 exact gen fuel 0 0 (Nat.zero_le _) (by show l.length - 0 < 18446744073709551616; omega)
def stW (l : List (List Int)) : Int := l.foldl (fun n x => w64 (n + ((x.length : Nat) : Int))) 0
theorem steps_eq (l : List (List Int)) (hl : l.length < 4611686018427387904) : tries_steps l = some (stW l) := by
 unfold tries_steps
 rw [bdT (loop_sum l hl (step := fun s => tries_steps_L2 l s.1 s.2) ?_ ?_)]
 ·rfl
 ·intro n i x hx
  have hi : i < l.length := (List.getElem?_eq_some_iff.1 hx).1
  have hq : decide ((i : Int) < (l.length : Int)) = true := by simpa using hi
  unfold tries_steps_L2
  simp only [hq, cond_true, idx_some hx, Option.bind_some]
 ·intro n; unfold tries_steps_L2; simp
def syms (l : List (List Int)) : Nat := (l.map List.length).sum
theorem stW_eq {l : List (List Int)} (h : syms l < 4611686018427387904) : stW l = (syms l : Int) := by
 have gen : ∀ (l : List (List Int)) (n : Nat), n + syms l < 4611686018427387904 → l.foldl (fun n x => w64 (n + ((x.length : Nat) : Int))) (n : Int) = ((n + syms l : Nat) : Int) := by
  intro l
  induction l with
  | nil => intro n _; simp [syms]
  | cons x l ih =>
   intro n hn
   have hs : syms (x :: l) = x.length + syms l := by simp [syms]
   rw [hs] at hn ⊢
   rw [List.foldl_cons, w64_in (by omega) (by omega), ← Int.natCast_add, ih (n + x.length) (by omega)]
   congr 1; omega
 have := gen l 0 (by omega)
 simpa [stW] using this
theorem syms_le {l : List (List Int)} {m : Nat} (h : ∀ w ∈ l, w.length ≤ m) : syms l ≤ l.length * m := by
 induction l with
 | nil => simp [syms]
 | cons x l ih =>
  have hs : syms (x :: l) = x.length + syms l := by simp [syms]
  have h1 := h x (by simp)
  have h2 := ih fun w hw => h w (by simp [hw])
  rw [hs, List.length_cons, Nat.add_mul]
  omega
end Go.Own

namespace Go.Own
set_option linter.unusedVariables false
theorem clip_eq (w : List Int) : slices_Clip_int_int w = some w := by
 unfold slices_Clip_int_int
 rw [gdT (by omega)]
 simp
theorem clone_eq (w : List Int) (h : w.length ≤ 4294967296) : slices_Clone_int_int w = some w := by
 unfold slices_Clone_int_int
 rw [gdT (by simpa using h)]
theorem same1_eq (a b : List Int) (h : a.length < 4611686018427387904) : tries_sorted_1 a b = some (decide (a = b)) := by
 unfold tries_sorted_1
 rw [Compare_eq a b h]
 simp only [Option.bind_some]
 by_cases e : a = b
 ·subst e; simp [cmpW_self]
 ·have : cmpW a b ≠ 0 := fun q => e (cmpW_eq q)
  simp [e, this]
def QW (l : List (List Int)) : Prop := l.Pairwise fun a b => ¬ cmpW b a < 0
theorem mem_take {α : Type} {l : List α} {n : Nat} {x : α} : x ∈ l.take n ↔ ∃ i, i < n ∧ l[i]? = some x := by
 rw [List.mem_iff_getElem?]
 constructor
 ·rintro ⟨i, h⟩
  rw [List.getElem?_take] at h
  split at h
  ·exact ⟨i, by omega, h⟩
  ·cases h
 ·rintro ⟨i, h1, h2⟩
  exact ⟨i, by rw [List.getElem?_take, if_pos h1]; exact h2⟩
theorem sw_snoc {l : List (List Int)} {x : List Int} (h : SW l) (hx : ∀ y ∈ l, cmpW y x < 0) : SW (l ++ [x]) := by
 unfold SW
 rw [List.pairwise_append]
 exact ⟨h, by simp, fun a ha b hb => by simp at hb; subst hb; exact hx a ha⟩
section
variable {s : List (List Int)} (hq : QW s) (hl : s.length ≤ 4294967296) (hw : ∀ w ∈ s, w.length < 4611686018427387904)
include hq hl hw
omit hl hw in
theorem qw_le {i j : Nat} {x y : List Int} (hi : s[i]? = some x) (hj : s[j]? = some y) (h : i ≤ j) : cmpW x y < 0 ∨ x = y := by
 rcases Nat.lt_or_ge i j with h | h
 ·have := (List.pairwise_iff_getElem.1 hq) i j (List.getElem?_eq_some_iff.1 hi).1 (List.getElem?_eq_some_iff.1 hj).1 h
  rw [(List.getElem?_eq_some_iff.1 hi).2, (List.getElem?_eq_some_iff.1 hj).2] at this
  rcases cmpW_ge.1 this with q | q
  ·exact .inl q
  ·exact .inr q.symm
 ·have : i = j := by omega
  subst this
  rw [hi] at hj
  exact .inr (by simpa using hj)
theorem compact_tail {k : Nat} (h1 : 1 ≤ k) (hk : k < s.length) (hd : s[k - 1]? = s[k]?) (hs : SW (s.take k)) :
  Ret (Option.bind (loop (fun q => slices_CompactFuncW_int_int_L5 (k : Int) q.1 q.2.1 q.2.2) (s, (k : Int), 1)) fun t => slices_CompactFuncW_int_int_J4 t.1 t.2) fun r => r = .done (.inr (srt s)) := by
 rw [ret_bind]
 refine Ret.mono (ret_loop (fun q => ∃ kk k2 : Nat, q.2.1 = (kk : Int) ∧ q.2.2 = (k2 : Int) ∧ 1 ≤ k2 ∧ k + k2 ≤ s.length ∧ kk < k + k2 ∧ q.1.length = s.length ∧ (∀ i, kk ≤ i → q.1[i]? = s[i]?) ∧ SW (q.1.take kk) ∧ ∀ x, x ∈ q.1.take kk ↔ x ∈ s.take (k + k2)) (fun q => s.length - q.2.2.toNat) (R := fun t => ∃ kk : Nat, t.2 = (kk : Int) ∧ kk ≤ s.length ∧ t.1.length = s.length ∧ t.1.take kk = srt s) ?_ ?_ ?_) ?_
 ·refine ⟨k, 1, rfl, rfl, Nat.le_refl _, hk, by omega, rfl, fun _ _ => rfl, hs, fun x => ?_⟩
  rw [mem_take, mem_take]
  constructor
  ·rintro ⟨i, h2, h3⟩; exact ⟨i, by omega, h3⟩
  ·rintro ⟨i, h2, h3⟩
   rcases Nat.lt_or_ge i k with h | h
   ·exact ⟨i, h, h3⟩
   ·have : i = k := by omega
    subst this
    exact ⟨i - 1, by omega, by rw [hd]; exact h3⟩
 ·show s.length - _ < _
  omega
 ·rintro ⟨S, a, b⟩ ⟨kk, k2, rfl, rfl, g1, g2, g3, g4, g5, g6, g7⟩
  simp only at g4 g5 g6 g7
  show Ret (slices_CompactFuncW_int_int_L5 (k : Int) S (kk : Int) (k2 : Int)) _
  unfold slices_CompactFuncW_int_int_L5
  rw [ret_bif]
  refine ⟨fun hc => ?_, fun hc => ?_⟩
  ·have hlt : k2 < s.length - k := by rw [g4] at hc; simpa using hc
   have e1 : s[k + k2]? = some s[k + k2] := List.getElem?_eq_getElem (by omega)
   have e2 : s[k + k2 - 1]? = some s[k + k2 - 1] := List.getElem?_eq_getElem (by omega)
   have f1 : idx S ((k : Int) + (k2 : Int)) = some s[k + k2] := by
    rw [← Int.natCast_add, idx_nat, g5 _ (by omega), e1]
   have f2 : idx S ((k : Int) + w64 ((k2 : Int) - 1)) = some s[k + k2 - 1] := by
    rw [w64_in (by omega) (by omega), show (k : Int) + ((k2 : Int) - 1) = ((k + k2 - 1 : Nat) : Int) by omega, idx_nat, g5 _ (by omega), e2]
   rw [gdT (by omega), f1]
   simp only [Option.bind_some]
   rw [gdT (by rw [w64_in (by omega) (by omega)]; omega), f2]
   simp only [Option.bind_some]
   rw [same1_eq _ _ (hw _ (List.getElem_mem (by omega)))]
   simp only [Option.bind_some]
   have hk2 : w64 ((k2 : Int) + 1) = ((k2 + 1 : Nat) : Int) := by rw [w64_in (by omega) (by omega)]; omega
   by_cases he : s[k + k2] = s[k + k2 - 1]
   ·simp only [he, decide_true, Bool.not_true, cond_false]
    unfold slices_CompactFuncW_int_int_J6
    rw [hk2, ret_some]
    refine ⟨⟨kk, k2 + 1, rfl, rfl, by omega, by omega, by omega, g4, g5, g6, fun x => ?_⟩, by simp only [Int.toNat_natCast]; omega⟩
    rw [g7, mem_take, mem_take]
    constructor
    ·rintro ⟨i, h2, h3⟩; exact ⟨i, by omega, h3⟩
    ·rintro ⟨i, h2, h3⟩
     rcases Nat.lt_or_ge i (k + k2) with h | h
     ·exact ⟨i, h, h3⟩
     ·have : i = k + k2 := by omega
      subst this
      exact ⟨k + k2 - 1, by omega, by rw [e2, ← he, ← e1]; exact h3⟩
   ·simp only [he, decide_false, Bool.not_false, cond_true]
    rw [gdT (by omega)]
    have e3 : idx S (kk : Int) = some s[kk] := by rw [idx_nat, g5 _ (Nat.le_refl _), List.getElem?_eq_getElem (by omega)]
    rw [e3]
    simp only [Option.bind_some]
    unfold slices_CompactFuncW_int_int_J6
    rw [hk2, w64_in (x := (kk : Int) + 1) (by omega) (by omega), ret_some]
    have hset : (S.set ((kk : Int).toNat) s[k + k2]).take (kk + 1) = S.take kk ++ [s[k + k2]] := by
     rw [Int.toNat_natCast, List.take_add_one, List.take_set_of_le (Nat.le_refl _), List.getElem?_set_self (by omega)]
     rfl
    refine ⟨⟨kk + 1, k2 + 1, rfl, rfl, by omega, by omega, by omega, by simp [g4], fun i hi => ?_, ?_, fun x => ?_⟩, by simp only [Int.toNat_natCast]; omega⟩
    ·simp only
     rw [List.getElem?_set_ne (by omega), g5 _ (by omega)]
    ·simp only
     rw [hset]
     refine sw_snoc g6 fun y hy => ?_
     obtain ⟨i, h2, h3⟩ := mem_take.1 ((g7 y).1 hy)
     have hlast : cmpW s[k + k2 - 1] s[k + k2] < 0 := by
      rcases qw_le hq e2 e1 (by omega) with q | q
      ·exact q
      ·exact absurd q.symm he
     rcases qw_le hq h3 e2 (by omega) with q | q
     ·exact cmpW_trans q hlast
     ·rw [q]; exact hlast
    ·simp only
     rw [hset, List.mem_append, g7, mem_take, mem_take]
     constructor
     ·rintro (⟨i, h2, h3⟩ | h)
      ·exact ⟨i, by omega, h3⟩
      ·simp at h; subst h; exact ⟨k + k2, by omega, e1⟩
     ·rintro ⟨i, h2, h3⟩
      rcases Nat.lt_or_ge i (k + k2) with h | h
      ·exact .inl ⟨i, h, h3⟩
      ·have : i = k + k2 := by omega
       subst this
       rw [e1] at h3
       exact .inr (by simpa using h3.symm)
  ·have hge : s.length - k ≤ k2 := by rw [g4] at hc; simpa using hc
   have hkk : k + k2 = s.length := by omega
   rw [ret_some]
   refine ⟨kk, rfl, by omega, g4, srt_eq g6 fun x => ?_⟩
   rw [g7, hkk, List.take_length]
 ·rintro ⟨S, a⟩ ⟨kk, rfl, h1, h2, h3⟩
  simp only at h2 h3
  show Ret (slices_CompactFuncW_int_int_J4 S (kk : Int)) _
  unfold slices_CompactFuncW_int_int_J4
  have hlen : (S.take (kk : Int).toNat ++ List.replicate (S.length - (kk : Int).toNat) ([] : List Int)).length = S.length := by simp [List.length_take]; omega
  rw [gdT (by omega), gdT (by omega), gdT (by rw [hlen]; omega), ret_some]
  simp only [Int.toNat_natCast]
  rw [List.take_left' (by rw [List.length_take]; omega), h3]
theorem compact_eq : slices_CompactFuncW_int_int s () = some (srt s) := by
 unfold slices_CompactFuncW_int_int
 by_cases h2 : s.length < 2
 ·have hd : decide (((s.length : Nat) : Int) < 2) = true := by simp; omega
  simp only [hd, cond_true]
  rw [srt_of_sw]
  match s, h2 with
  | [], _ => exact SW.nil
  | [x], _ => simp [SW]
 ·have hd : decide (((s.length : Nat) : Int) < 2) = false := by simp; omega
  simp only [hd, cond_false]
  apply Ret.eq
  rw [ret_bind]
  refine Ret.mono (ret_loop (fun q : Int => ∃ j : Nat, q = (j : Int) ∧ 1 ≤ j ∧ j ≤ s.length ∧ SW (s.take j)) (fun q => s.length - q.toNat) (R := fun t : Unit ⊕ List (List Int) => match t with | .inl _ => srt s = s | .inr p => p = srt s) ?_ ?_ ?_) ?_
  ·refine ⟨1, rfl, Nat.le_refl _, by omega, ?_⟩
   match s, h2 with
   | [], h2 => simp at h2
   | x :: l, _ => simp [SW]
  ·show s.length - _ < _
   omega
  ·rintro _ ⟨j, rfl, g1, g2, g3⟩
   show Ret (slices_CompactFuncW_int_int_L2 s (j : Int)) _
   unfold slices_CompactFuncW_int_int_L2
   rw [ret_bif]
   refine ⟨fun hc => ?_, fun hc => ?_⟩
   ·have hj : j < s.length := by simpa using hc
    have e1 : s[j]? = some s[j] := List.getElem?_eq_getElem hj
    have e2 : s[j - 1]? = some s[j - 1] := List.getElem?_eq_getElem (by omega)
    rw [w64_in (x := (j : Int) - 1) (by omega) (by omega), show (j : Int) - 1 = ((j - 1 : Nat) : Int) by omega, idx_some e1, idx_some e2]
    simp only [Option.bind_some]
    rw [same1_eq _ _ (hw _ (List.getElem_mem hj))]
    simp only [Option.bind_some]
    by_cases he : s[j] = s[j - 1]
    ·simp only [he, decide_true, cond_true]
     rw [gdT (by omega)]
     refine (compact_tail hq hl hw g1 hj (by rw [e1, e2, he]) g3).mono ?_
     rintro _ rfl
     rfl
    ·simp only [he, decide_false, cond_false]
     unfold slices_CompactFuncW_int_int_J3
     rw [w64_in (by omega) (by omega), ret_some]
     refine ⟨⟨j + 1, rfl, by omega, hj, ?_⟩, by simp only [Int.toNat_natCast]; omega⟩
     have : s.take (j + 1) = s.take j ++ [s[j]] := by rw [List.take_add_one, e1]; rfl
     rw [this]
     refine sw_snoc g3 fun y hy => ?_
     obtain ⟨i, h3, h4⟩ := mem_take.1 hy
     have hlast : cmpW s[j - 1] s[j] < 0 := by
      rcases qw_le hq e2 e1 (by omega) with q | q
      ·exact q
      ·exact absurd q.symm he
     rcases qw_le hq h4 e2 (by omega) with q | q
     ·exact cmpW_trans q hlast
     ·rw [q]; exact hlast
   ·have hj : j = s.length := by
     have : ¬ j < s.length := by simpa using hc
     omega
    rw [ret_some]
    show srt s = s
    rw [hj, List.take_length] at g3
    exact srt_of_sw g3
  ·rintro (u | p) h
   ·show Ret (some s) _
    rw [ret_some]
    exact h.symm
   ·show Ret (some p) _
    rw [ret_some]
    exact h
end
theorem sorted_ok (l : List (List Int)) : SOk cmpW l :=
 ⟨fun x _ => cmpW_irr x, fun x _ y _ z _ h1 h2 => cmpW_trans h1 h2, fun x _ y _ h1 h2 => by
  rcases cmpW_ge.1 h1 with q | q
  ·exact absurd q h2
  ·exact q⟩
theorem srt_perm {l m : List (List Int)} (h : l.Perm m) : srt l = srt m := srt_congr fun x => h.mem_iff
theorem isort_congr {c d : List Int → List Int → Int} : ∀ {l : List (List Int)}, (∀ x ∈ l, ∀ y ∈ l, c x y = d x y) → isort c l = isort d l
 | [], _ => rfl
 | x :: l, h => by
  have ih := isort_congr (c := c) (d := d) (l := l) fun a ha b hb => h a (by simp [ha]) b (by simp [hb])
  show insF c x (isort c l) = insF d x (isort d l)
  rw [ih]
  have gen : ∀ m : List (List Int), (∀ y ∈ m, y ∈ l) → insF c x m = insF d x m := by
   intro m
   induction m with
   | nil => intro _; rfl
   | cons y m ih2 =>
    intro hm
    simp only [insF]
    rw [h y (by simp [hm y (by simp)]) x (by simp), ih2 fun z hz => hm z (by simp [hz])]
  exact gen _ fun y hy => (isort_perm d l).mem_iff.1 hy
def soR (l : List (List Int)) : List (List Int) × Int := if 4096 < (srt l).length ∨ 65536 < syms (srt l) then ([], 3) else (srt l, 0)
theorem sorted_eq {l : List (List Int)} (hl : l.length ≤ 100000) (hw : ∀ w ∈ l, w.length ≤ 4294967296) : tries_sorted l = some (soR l) := by
 unfold tries_sorted slices_CloneW_int_int
 rw [gdT (by simp; omega)]
 simp only [Option.bind_some]
 have hc : ∀ x ∈ l, ∀ y, words_Compare x y = some (cmpW x y) := fun x hx y => Compare_eq x y (by have := hw x hx; omega)
 have hso : sortF (fun x y => words_Compare x y) l = some (isort cmpW l) := by
  unfold sortF
  rw [gdT ⟨by omega, fun x hx y hy => by simp only [hc x hx y]; rfl⟩]
  have hcc : ∀ x ∈ l, ∀ y ∈ l, (words_Compare x y).getD 0 = cmpW x y := fun x hx y _ => by rw [hc x hx y]; rfl
  rw [gdT, isort_congr (c := fun x y => (words_Compare x y).getD 0) (d := cmpW) hcc]
  have q := sorted_ok l
  refine ⟨fun x hx => by show ¬ (words_Compare x x).getD 0 < 0; rw [hcc x hx x hx]; exact q.1 x hx, fun x hx y hy z hz h1 h2 => ?_, fun x hx y hy h1 h2 => ?_⟩
  ·simp only [hcc x hx y hy, hcc y hy z hz, hcc x hx z hz] at h1 h2 ⊢
   exact q.2.1 x hx y hy z hz h1 h2
  ·simp only [hcc x hx y hy, hcc y hy x hx] at h1 h2
   exact q.2.2 x hx y hy h1 h2
 rw [hso]
 simp only [Option.bind_some]
 have hp := isort_perm cmpW l
 have hq : QW (isort cmpW l) := isort_sorted (sorted_ok l) (fun y hy => hy)
 rw [compact_eq hq (by rw [hp.length_eq]; omega) (fun w h => by have := hw w (hp.mem_iff.1 h); omega)]
 simp only [Option.bind_some]
 unfold slices_ClipW_int_int_v1
 simp only [Option.bind_some]
 rw [srt_perm hp]
 have hlen : (srt l).length ≤ 100000 := Nat.le_trans (srt_len l) hl
 have hws : ∀ w ∈ srt l, w.length ≤ 4294967296 := fun w h => hw w (mem_srt.1 h)
 unfold soR
 generalize srt l = r at hlen hws
 have hsy : syms r ≤ 100000 * 4294967296 := Nat.le_trans (syms_le hws) (Nat.mul_le_mul_right _ hlen)
 by_cases h1 : 4096 < r.length
 ·have : (4096 : Int) < (r.length : Int) := by omega
  simp [h1, this]
 ·have d1 : decide (((r.length : Nat) : Int) > 4096) = false := by simp; omega
  simp only [d1, cond_false]
  rw [steps_eq r (by omega), stW_eq (by omega)]
  simp only [Option.bind_some]
  by_cases h2 : 65536 < syms r
  ·have : (65536 : Int) < (syms r : Int) := by omega
   simp [h2, this]
  ·have d2 : decide (((syms r : Nat) : Int) > 65536) = false := by simp; omega
   simp only [d2, cond_false]
   rw [if_neg (by omega)]
   have hloop := loop_seq (step := fun s => tries_sorted_L2 r s.1 s.2) (fun i => ((r.take i).map (fun q => (q, true)) ++ (r.drop i).map (fun q => (q, false)), (i : Int))) r.length (t := r.map fun q => (q, true)) (by omega) (by
    intro i hi
    have hA : ((r.take i).map (fun q : List Int => (q, true))).length = i := by rw [List.length_map, List.length_take]; omega
    have hd : r.drop i = r[i] :: r.drop (i + 1) := List.drop_eq_getElem_cons hi
    have hx : ((r.take i).map (fun q => (q, true)) ++ (r.drop i).map (fun q => (q, false)))[i]? = some (r[i], false) := by
     rw [List.getElem?_append_right (by omega), hA, hd]; simp
    show tries_sorted_L2 r _ (i : Int) = _
    unfold tries_sorted_L2
    have hq : decide ((i : Int) < ((r.length - (0 : Int).toNat : Nat) : Int)) = true := by simpa using hi
    simp only [hq, cond_true]
    rw [gdT (by omega), Int.zero_add, idx_some hx]
    simp only [Option.bind_some]
    rw [clone_eq _ (hws _ (List.getElem_mem hi))]
    simp only [Option.bind_some, clip_eq, Int.toNat_natCast]
    rw [w64_in (by omega) (by omega)]
    congr 3
    rw [List.set_append_right _ _ (by omega), hA, hd, List.take_add_one, List.getElem?_eq_getElem hi]
    simp only [Nat.sub_self, List.map_cons, List.set_cons_zero, List.map_append, Option.toList_some, List.map_nil, List.append_assoc, List.cons_append, List.nil_append]) (by
    show tries_sorted_L2 r _ (r.length : Int) = _
    unfold tries_sorted_L2
    simp)
   have h0 : ((r.take 0).map (fun q => (q, true)) ++ (r.drop 0).map (fun q => (q, false)), ((0 : Nat) : Int)) = (r.map (fun q => (q, false)), (0 : Int)) := by simp
   rw [h0] at hloop
   rw [hloop]
   simp only [Option.bind_some]
   unfold tries_sorted_J1
   rw [gdT (by intro q hq; obtain ⟨_, _, rfl⟩ := List.mem_map.1 hq; rfl)]
   simp [List.map_map, Function.comp_def]
end Go.Own

namespace Go.Own
set_option linter.unusedVariables false
def extW (a : Nat) (w : List Int) : List (List Int) := (List.range a).map fun s : Nat => w ++ [(s : Int)]
def exW (a : Nat) : Nat → List (List Int)
 | 0 => [[]]
 | k + 1 => (exW a k).flatMap (extW a)
theorem extW_len (a : Nat) (w : List Int) : (extW a w).length = a := by simp [extW]
theorem flat_len (a : Nat) (l : List (List Int)) : (l.flatMap (extW a)).length = l.length * a := by
 induction l with
 | nil => simp
 | cons w l ih => rw [List.flatMap_cons, List.length_append, ih, extW_len, List.length_cons, Nat.succ_mul]; omega
theorem exW_len (a : Nat) : ∀ k, (exW a k).length = a ^ k
 | 0 => rfl
 | k + 1 => by rw [exW, flat_len, exW_len, Nat.pow_succ]
theorem exW_word (a : Nat) : ∀ k, ∀ w ∈ exW a k, w.length = k
 | 0, w, h => by simp [exW] at h; subst h; rfl
 | k + 1, w, h => by
  rw [exW, List.mem_flatMap] at h
  obtain ⟨v, h1, h2⟩ := h
  simp only [extW, List.mem_map] at h2
  obtain ⟨s, _, rfl⟩ := h2
  simp [exW_word a k v h1]
theorem ext_eq {a : Nat} (ha : a ≤ 16) {w : List Int} (hw : w.length ≤ 1000) {nx : List (List Int)} (hn : nx.length ≤ 10000000) :
  loop (fun s => tries_all_L8 (a : Int) w s.1 s.2) (nx, 0) = some (nx ++ extW a w) := by
 have h := loop_seq (step := fun s => tries_all_L8 (a : Int) w s.1 s.2) (fun i => (nx ++ (List.range i).map (fun s : Nat => w ++ [(s : Int)]), (i : Int))) a (t := nx ++ extW a w) (by omega) (by
  intro i hi
  show tries_all_L8 (a : Int) w _ (i : Int) = _
  unfold tries_all_L8
  have hq : decide ((i : Int) < (a : Int)) = true := by simpa using hi
  simp only [hq, cond_true, clip_eq, Option.bind_some]
  rw [gdT (by simp; omega), gdT (by simp; omega), w64_in (by omega) (by omega), List.range_succ, List.map_append, List.append_assoc]
  rfl) (by
  show tries_all_L8 (a : Int) w _ (a : Int) = _
  unfold tries_all_L8
  simp [extW])
 have h0 : ((nx ++ (List.range 0).map (fun s : Nat => w ++ [(s : Int)])), ((0 : Nat) : Int)) = (nx, (0 : Int)) := by simp
 rw [h0] at h
 exact h
theorem next_eq {a : Nat} (ha : a ≤ 16) {l : List (List Int)} (hw : ∀ w ∈ l, w.length ≤ 1000) (hl : l.length ≤ 100000) :
  loop (fun s => tries_all_L6 (a : Int) l s.1 s.2) (([] : List (List Int)), 0) = some (l.flatMap (extW a)) := by
 have h := loop_seq (step := fun s => tries_all_L6 (a : Int) l s.1 s.2) (fun i => ((l.take i).flatMap (extW a), (i : Int))) l.length (t := l.flatMap (extW a)) (by omega) (by
  intro i hi
  show tries_all_L6 (a : Int) l _ (i : Int) = _
  unfold tries_all_L6
  have hq : decide ((i : Int) < (l.length : Int)) = true := by simpa using hi
  have hx : l[i]? = some l[i] := List.getElem?_eq_getElem hi
  have hlen : ((l.take i).flatMap (extW a)).length ≤ 10000000 := by
   rw [flat_len, List.length_take]
   have : min i l.length * a ≤ 100000 * 16 := Nat.mul_le_mul (by omega) ha
   omega
  simp only [hq, cond_true, idx_some hx, Option.bind_some]
  rw [bdT (ext_eq ha (hw _ (List.getElem_mem hi)) hlen)]
  unfold tries_all_J7
  rw [w64_in (by omega) (by omega), List.take_add_one, hx, List.flatMap_append]
  simp) (by
  show tries_all_L6 (a : Int) l _ (l.length : Int) = _
  unfold tries_all_L6
  simp)
 simpa using h
def outW (a f : Nat) : Nat → List (List Int)
 | 0 => []
 | k + 1 => if f ≤ k then outW a f k ++ exW a k else outW a f k
def syW (a f : Nat) : Nat → Nat
 | 0 => 0
 | k + 1 => if f ≤ k then syW a f k + k * a ^ k else syW a f k
def stopW (a f t k : Nat) : Prop := 4096 < (outW a f (k + 1)).length ∨ 65536 < syW a f (k + 1) ∨ k < t ∧ 4096 < a ^ k * a
instance (a f t k : Nat) : Decidable (stopW a f t k) := by unfold stopW; infer_instance
theorem all_round {a f t k : Nat} (ha : 1 ≤ a ∧ a ≤ 16) (hf : f ≤ 256) (ht : t ≤ 256) (hk : k ≤ t) (ho : (outW a f k).length ≤ 4096) (hs : syW a f k ≤ 65536) (hl : a ^ k ≤ 4096) :
  tries_all_L1 (a : Int) (f : Int) (t : Int) (outW a f k) (exW a k) (syW a f k : Int) (k : Int) = if stopW a f t k then some (.done ([], 3)) else if k = t then Option.bind (tries_sorted (outW a f (k + 1))) (fun r => some (.done (r.1, r.2))) else some (.next (outW a f (k + 1), exW a (k + 1), (syW a f (k + 1) : Int), ((k + 1 : Nat) : Int))) := by
 have hmul : k * a ^ k ≤ 256 * 4096 := Nat.mul_le_mul (by omega) hl
 have hma : a ^ k * a ≤ 4096 * 16 := Nat.mul_le_mul hl ha.2
 have e : tries_all_L1 (a : Int) (f : Int) (t : Int) (outW a f k) (exW a k) (syW a f k : Int) (k : Int) = tries_all_J3 (a : Int) (t : Int) (exW a k) (k : Int) (outW a f (k + 1)) (syW a f (k + 1) : Int) := by
  unfold tries_all_L1
  by_cases h : f ≤ k
  ·have hd : decide ((k : Int) ≥ (f : Int)) = true := by simpa using h
   simp only [hd, cond_true]
   have hm : w64 ((k : Int) * ((exW a k).length : Int)) = ((k * a ^ k : Nat) : Int) := by
    rw [exW_len, ← Int.natCast_mul, w64_in (by omega) (by omega)]
   rw [gdT (by rw [exW_len]; omega), hm, w64_in (by omega) (by omega)]
   simp only [outW, syW, if_pos h]
   congr 1
  ·have hd : decide ((k : Int) ≥ (f : Int)) = false := by simp; omega
   simp only [hd, cond_false, outW, syW, if_neg h]
 rw [e]
 unfold tries_all_J3
 by_cases h1 : 4096 < (outW a f (k + 1)).length
 ·have : decide (((outW a f (k + 1)).length : Int) > 4096) = true := by simp only [decide_eq_true_eq]; omega
  simp only [this, cond_true]
  rw [if_pos (show stopW a f t k from .inl h1)]
 have d1 : decide (((outW a f (k + 1)).length : Int) > 4096) = false := by simp; omega
 simp only [d1, cond_false]
 by_cases h2 : 65536 < syW a f (k + 1)
 ·have : decide ((syW a f (k + 1) : Int) > 65536) = true := by simp only [decide_eq_true_eq]; omega
  simp only [this, cond_true]
  rw [if_pos (show stopW a f t k from .inr (.inl h2))]
 have d2 : decide ((syW a f (k + 1) : Int) > 65536) = false := by simp; omega
 simp only [d2, cond_false]
 have hm : w64 (((exW a k).length : Int) * (a : Int)) = ((a ^ k * a : Nat) : Int) := by
  rw [exW_len, ← Int.natCast_mul, w64_in (by omega) (by omega)]
 rw [hm]
 have J4 : ∀ (hns : ¬ (k < t ∧ 4096 < a ^ k * a)) (b : Bool), tries_all_J4 (a : Int) (t : Int) (exW a k) (k : Int) (outW a f (k + 1)) (syW a f (k + 1) : Int) b = if k = t then Option.bind (tries_sorted (outW a f (k + 1))) (fun r => some (.done (r.1, r.2))) else some (.next (outW a f (k + 1), exW a (k + 1), (syW a f (k + 1) : Int), ((k + 1 : Nat) : Int))) := by
  intro hns b
  unfold tries_all_J4
  by_cases hkt : k = t
  ·subst hkt
   simp
  ·have hd : ((k : Int) == (t : Int)) = false := by simp; omega
   simp only [hd, cond_false, if_neg hkt]
   rw [bdT (next_eq ha.2 (fun w hw => by rw [exW_word a k w hw]; omega) (by rw [exW_len]; omega))]
   unfold tries_all_J5 tries_all_J2
   rw [w64_in (by omega) (by omega)]
   rfl
 by_cases hkt : k < t
 ·have hd : decide ((k : Int) < (t : Int)) = true := by simpa using hkt
  simp only [hd, cond_true]
  by_cases h3 : 4096 < a ^ k * a
  ·have : decide (((a ^ k * a : Nat) : Int) > 4096) = true := by simp only [decide_eq_true_eq]; omega
   simp only [this, cond_true]
   rw [if_pos (show stopW a f t k from .inr (.inr ⟨hkt, h3⟩))]
  ·have : decide (((a ^ k * a : Nat) : Int) > 4096) = false := by simp only [decide_eq_false_iff_not]; omega
   simp only [this, cond_false]
   rw [J4 (by omega), if_neg (show ¬ stopW a f t k by unfold stopW; omega)]
 ·have hd : decide ((k : Int) < (t : Int)) = false := by simp; omega
  simp only [hd, cond_false]
  rw [J4 (by omega), if_neg (show ¬ stopW a f t k by unfold stopW; omega)]
theorem notStop_small {a f t k : Nat} (ha : 1 ≤ a) (hs : ¬ stopW a f t k) (hk : k < t) : (outW a f (k + 1)).length ≤ 4096 ∧ syW a f (k + 1) ≤ 65536 ∧ a ^ (k + 1) ≤ 4096 := by
 unfold stopW at hs
 rw [Nat.pow_succ]
 omega
theorem all_gen {a f t : Nat} (ha : 1 ≤ a ∧ a ≤ 16) (hf : f ≤ 256) (ht : t ≤ 256) {r : Option (List (List Int) × Int)}
  (hr : (∃ j, j ≤ t ∧ stopW a f t j) → r = some ([], 3)) (hr2 : (∀ j, j ≤ t → ¬ stopW a f t j) → r = Option.bind (tries_sorted (outW a f (t + 1))) fun r => some (r.1, r.2)) :
  ∀ (m k : Nat), k ≤ t → t - k < m → (∀ j, j < k → ¬ stopW a f t j) → (outW a f k).length ≤ 4096 → syW a f k ≤ 65536 → a ^ k ≤ 4096 → loopN (fun s => tries_all_L1 (a : Int) (f : Int) (t : Int) s.1 s.2.1 s.2.2.1 s.2.2.2) m (outW a f k, exW a k, (syW a f k : Int), (k : Int)) = r
 | 0, k, _, h, _, _, _, _ => by omega
 | m + 1, k, hk, hm, hns, h1, h2, h3 => by
  rw [loopN_succ]
  dsimp only
  rw [all_round ha hf ht hk h1 h2 h3]
  by_cases hst : stopW a f t k
  ·rw [if_pos hst, hr ⟨k, hk, hst⟩]
  ·rw [if_neg hst]
   by_cases hkt : k = t
   ·subst hkt
    rw [if_pos rfl, hr2 fun j hj => by
     rcases Nat.lt_or_ge j k with q | q
     ·exact hns j q
     ·rw [show j = k by omega]; exact hst]
    cases tries_sorted (outW a f (k + 1)) <;> rfl
   ·rw [if_neg hkt]
    obtain ⟨q1, q2, q3⟩ := notStop_small ha.1 hst (by omega)
    exact all_gen ha hf ht hr hr2 m (k + 1) (by omega) (by omega) (fun j hj => by
     rcases Nat.lt_or_ge j k with q | q
     ·exact hns j q
     ·rw [show j = k by omega]; exact hst) q1 q2 q3
theorem all_bad {a : Int} {f t : Int} (h : 16 < a ∨ a < 1 ∨ t < 0 ∨ 256 < t) : tries_all a f t = some ([], if 16 < a then 3 else if a < 1 ∨ t < 0 then 1 else 3) := by
 unfold tries_all
 by_cases h1 : 16 < a
 ·simp [h1]
 by_cases h2 : a < 1
 ·simp [h1, h2]
 by_cases h3 : t < 0
 ·simp [h1, h2, h3]
 have h4 : 256 < t := by omega
 simp [h1, h2, h3, h4]
theorem all_eq {a f t : Nat} (ha : 1 ≤ a ∧ a ≤ 16) (hf : f ≤ 256) (ht : t ≤ 256) {r : Option (List (List Int) × Int)}
  (hr : (∃ j, j ≤ t ∧ stopW a f t j) → r = some ([], 3)) (hr2 : (∀ j, j ≤ t → ¬ stopW a f t j) → r = Option.bind (tries_sorted (outW a f (t + 1))) fun r => some (r.1, r.2)) :
  tries_all (a : Int) (f : Int) (t : Int) = r := by
 unfold tries_all
 have d1 : decide ((a : Int) > 16) = false := by simp; omega
 have d2 : decide ((a : Int) < 1) = false := by simp; omega
 have d3 : decide ((t : Int) < 0) = false := by simp
 have d4 : decide ((t : Int) > 256) = false := by simp; omega
 simp only [d1, d2, d3, d4, cond_false]
 have h := all_gen ha hf ht hr hr2 fuel 0 (Nat.zero_le _) (by show t - 0 < 18446744073709551616; omega) (fun j hj => by omega) (by simp [outW]) (by simp [syW]) (by simp)
 have h' : loop (fun s => tries_all_L1 (a : Int) (f : Int) (t : Int) s.1 s.2.1 s.2.2.1 s.2.2.2) (([] : List (List Int)), ([[]] : List (List Int)), 0, 0) = r := h
 rw [h']
 cases r <;> rfl
theorem upto12 : tries_Upto 2 12 = some ([], 3) := by
 unfold tries_Upto
 have len : ∀ k, (outW 2 0 k).length = 2 ^ k - 1 := by
  intro k
  induction k with
  | zero => rfl
  | succ k ih => simp only [outW, Nat.zero_le, if_true, List.length_append, ih, exW_len, Nat.pow_succ]; have : 1 ≤ 2 ^ k := Nat.one_le_two_pow; omega
 have h12 : stopW 2 0 12 12 := by
  unfold stopW
  rw [len]
  left; decide
 have := all_eq (a := 2) (f := 0) (t := 12) (r := some ([], 3)) (by omega) (by omega) (by omega) (fun _ => rfl) (fun h => absurd h12 (h 12 (by omega)))
 have h2 : tries_all 2 0 12 = some ([], 3) := this
 rw [h2]
 rfl
theorem lives_true : law12_lives = some true := by
 unfold law12_lives
 rw [upto12]
 kernel_rfl
end Go.Own

namespace Go.Own
set_option linter.unusedVariables false
theorem same_eq (a b : List (List Int)) (hl : a.length < 4611686018427387904) (hw : ∀ x ∈ a, x.length < 4611686018427387904) : law12_same a b = some (decide (a = b)) := by
 have hS : ref12_Same a b = some (decide (a = b)) := by
  unfold ref12_Same
  by_cases he : a.length = b.length
  ·have hb : (((a.length : Nat) : Int) != ((b.length : Nat) : Int)) = false := by simp; omega
   simp only [hb, cond_false]
   rw [bdT (loop_list a hl (step := fun s => ref12_Same_L2 a b s) (fun i x => if b[i]? = some x then none else some false) ?_ ?_)]
   ·cases hf : firstS (fun i x => if b[i]? = some x then none else some false) a 0 with
    | some r =>
     obtain ⟨i, x, h1, h2⟩ := firstS_some hf
     rw [Nat.zero_add] at h2
     split at h2
     ·cases h2
     ·rename_i h3
      have : a ≠ b := fun e => h3 (by rw [← e]; exact h1)
      cases h2
      simp [oS, this]
    | none =>
     have hab : a = b := by
      refine List.ext_getElem? fun i => ?_
      rcases Nat.lt_or_ge i a.length with q | q
      ·have hx : a[i]? = some a[i] := List.getElem?_eq_getElem q
       have := firstS_isNone hf i _ hx
       rw [Nat.zero_add] at this
       split at this
       ·rename_i h3; rw [h3, hx]
       ·cases this
      ·rw [List.getElem?_eq_none q, List.getElem?_eq_none (by omega)]
     simp [oS, ref12_Same_J1, hab]
   ·intro i x hx
    have hi : i < a.length := (List.getElem?_eq_some_iff.1 hx).1
    have hq : decide ((i : Int) < (a.length : Int)) = true := by simpa using hi
    have hy : b[i]? = some b[i] := List.getElem?_eq_getElem (by omega)
    have hxm : x ∈ a := (List.getElem?_eq_some_iff.1 hx).2 ▸ List.getElem_mem hi
    unfold ref12_Same_L2
    simp only [hq, cond_true, idx_some hx, idx_some hy, Option.bind_some, compare_eq x b[i] (fun _ => hw x hxm), hy]
    by_cases h : b[i] = x
    ·rw [if_pos (by rw [h]), h, cmpW_self]; rfl
    ·have : (cmpW x b[i] != 0) = true := by simp; exact fun q => h (cmpW_eq q).symm
     rw [this, if_neg (by simpa using h)]
     rfl
   ·unfold ref12_Same_L2; simp
  ·have hb : (((a.length : Nat) : Int) != ((b.length : Nat) : Int)) = true := by simp; omega
   have : a ≠ b := fun e => he (by rw [e])
   simp [hb, this]
 unfold law12_same
 rw [hS]
 simp only [Option.bind_some]
 by_cases he : a = b
 ·simp only [he, decide_true, Bool.not_true, cond_false, bne_self_eq_false]
  subst he
  rw [bdT (loop_list a hl (step := fun s => law12_same_L2 a s) (fun i x => none) ?_ ?_)]
  ·rw [firstS_none fun _ _ _ => rfl]
   rfl
  ·intro i x hx
   have hi : i < a.length := (List.getElem?_eq_some_iff.1 hx).1
   have hq : decide ((i : Int) < (a.length : Int)) = true := by simpa using hi
   unfold law12_same_L2
   simp only [hq, cond_true, idx_some hx, Option.bind_some, bne_self_eq_false, cond_false]
   rfl
  ·unfold law12_same_L2; simp
 ·simp [he]
end Go.Own

namespace Go.Own
set_option linter.unusedVariables false
theorem lexC_app : ∀ {u v : List Int} (x y : List Int), u.length = v.length → lexC u v < 0 → lexC (u ++ x) (v ++ y) < 0
 | [], [], _, _, _, h => by simp [lexC] at h
 | [], _ :: _, _, _, h, _ => by simp at h
 | _ :: _, [], _, _, h, _ => by simp at h
 | a :: u, b :: v, x, y, hl, h => by
  simp only [List.cons_append, lexC] at h ⊢
  by_cases h1 : a < b
  ·simp [h1]
  ·by_cases h2 : b < a
   ·simp [h1, h2] at h
   ·simp only [h1, h2, if_false] at h ⊢
    exact lexC_app x y (by simpa using hl) h
theorem lexC_snoc : ∀ (u : List Int) {s t : Int}, s < t → lexC (u ++ [s]) (u ++ [t]) < 0
 | [], s, t, h => by simp [lexC, h]
 | a :: u, s, t, h => by
  simp only [List.cons_append, lexC, Int.lt_irrefl, if_false]
  exact lexC_snoc u h
theorem cmpW_len {a b : List Int} (h : a.length = b.length) : cmpW a b = lexC a b := by unfold cmpW; rw [if_neg (by omega), if_neg (by omega)]
theorem extW_sw (a : Nat) (w : List Int) : SW (extW a w) := by
 unfold extW SW
 rw [List.pairwise_map]
 refine List.Pairwise.imp (fun {s t} h => ?_) List.pairwise_lt_range
 rw [cmpW_len (by simp)]
 exact lexC_snoc w (by omega)
theorem flat_sw (a k : Nat) : ∀ {l : List (List Int)}, SW l → (∀ w ∈ l, w.length = k) → SW (l.flatMap (extW a))
 | [], _, _ => by simp [SW]
 | w :: l, h, hk => by
  rw [List.flatMap_cons]
  unfold SW
  rw [List.pairwise_append]
  refine ⟨extW_sw a w, flat_sw a k h.tail fun x hx => hk x (by simp [hx]), fun x hx y hy => ?_⟩
  simp only [extW, List.mem_map] at hx
  obtain ⟨s, _, rfl⟩ := hx
  rw [List.mem_flatMap] at hy
  obtain ⟨v, hv, hy⟩ := hy
  simp only [extW, List.mem_map] at hy
  obtain ⟨t, _, rfl⟩ := hy
  have e1 := hk w (by simp)
  have e2 := hk v (by simp [hv])
  rw [cmpW_len (by simp [e1, e2])]
  have := h.head v hv
  rw [cmpW_len (by omega)] at this
  exact lexC_app _ _ (by omega) this
theorem exW_sw (a : Nat) : ∀ k, SW (exW a k)
 | 0 => by simp [exW, SW]
 | k + 1 => flat_sw a k (exW_sw a k) (exW_word a k)
theorem outW_lt (a f : Nat) : ∀ k, ∀ w ∈ outW a f k, w.length < k
 | 0, w, h => by simp [outW] at h
 | k + 1, w, h => by
  unfold outW at h
  split at h
  ·rcases List.mem_append.1 h with h | h
   ·have := outW_lt a f k w h; omega
   ·have := exW_word a k w h; omega
  ·have := outW_lt a f k w h; omega
theorem outW_sw (a f : Nat) : ∀ k, SW (outW a f k)
 | 0 => by simp [outW, SW]
 | k + 1 => by
  unfold outW
  split
  ·unfold SW
   rw [List.pairwise_append]
   refine ⟨outW_sw a f k, exW_sw a k, fun x hx y hy => ?_⟩
   have h1 := outW_lt a f k x hx
   have h2 := exW_word a k y hy
   unfold cmpW
   rw [if_pos (by omega)]
   omega
  ·exact outW_sw a f k
def lnW (a f : Nat) : Nat → Nat
 | 0 => 0
 | k + 1 => if f ≤ k then lnW a f k + a ^ k else lnW a f k
theorem outW_len (a f : Nat) : ∀ k, (outW a f k).length = lnW a f k
 | 0 => rfl
 | k + 1 => by
  unfold outW lnW
  split
  ·rw [List.length_append, outW_len a f k, exW_len]
  ·exact outW_len a f k
theorem syms_const {l : List (List Int)} {k : Nat} (h : ∀ w ∈ l, w.length = k) : syms l = k * l.length := by
 induction l with
 | nil => simp [syms]
 | cons x l ih =>
  have hs : syms (x :: l) = x.length + syms l := by simp [syms]
  rw [hs, ih fun w hw => h w (by simp [hw]), h x (by simp), List.length_cons, Nat.mul_succ]; omega
theorem syms_app (l m : List (List Int)) : syms (l ++ m) = syms l + syms m := by simp [syms]
theorem outW_sy (a f : Nat) : ∀ k, syms (outW a f k) = syW a f k
 | 0 => rfl
 | k + 1 => by
  unfold outW syW
  split
  ·rw [syms_app, outW_sy a f k, syms_const (exW_word a k), exW_len]
  ·exact outW_sy a f k
theorem outW_nil (a f : Nat) : ∀ k, k ≤ f → outW a f k = []
 | 0, _ => rfl
 | k + 1, h => by
  unfold outW
  rw [if_neg (by omega)]
  exact outW_nil a f k (by omega)
def stopN (a f t k : Nat) : Bool := decide (4096 < lnW a f (k + 1)) || decide (65536 < syW a f (k + 1)) || (decide (k < t) && decide (4096 < a ^ k * a))
theorem stopN_iff (a f t k : Nat) : stopN a f t k = true ↔ stopW a f t k := by
 unfold stopN stopW
 simp only [Bool.or_eq_true, Bool.and_eq_true, decide_eq_true_eq, outW_len, or_assoc]
def anyN (a f t : Nat) : Bool := (List.range (t + 1)).any (stopN a f t)
theorem anyN_iff (a f t : Nat) : anyN a f t = true ↔ ∃ j, j ≤ t ∧ stopW a f t j := by
 unfold anyN
 simp only [List.any_eq_true, List.mem_range, stopN_iff]
 constructor
 ·rintro ⟨j, h1, h2⟩; exact ⟨j, by omega, h2⟩
 ·rintro ⟨j, h1, h2⟩; exact ⟨j, by omega, h2⟩
theorem all_res {a f t : Nat} (ha : 1 ≤ a ∧ a ≤ 16) (hf : f ≤ 256) (ht : t ≤ 256) : tries_all (a : Int) (f : Int) (t : Int) = some (if anyN a f t then ([], 3) else (outW a f (t + 1), 0)) := by
 refine all_eq ha hf ht (fun h => by rw [if_pos ((anyN_iff a f t).2 h)]) fun h => ?_
 have hn : ¬ anyN a f t = true := fun q => by
  obtain ⟨j, h1, h2⟩ := (anyN_iff a f t).1 q
  exact h j h1 h2
 rw [if_neg hn]
 have hs := h t (Nat.le_refl _)
 unfold stopW at hs
 have hlen : (outW a f (t + 1)).length ≤ 4096 := by omega
 have hsy : syms (outW a f (t + 1)) ≤ 65536 := by rw [outW_sy]; omega
 rw [sorted_eq (by omega) (fun w hw => by have := outW_lt a f (t + 1) w hw; omega)]
 unfold soR
 rw [srt_of_sw (outW_sw a f (t + 1)), if_neg (by omega)]
 rfl
theorem rext_eq {a : Nat} (ha : a ≤ 16) {o nx : List (List Int)} {i : Nat} (hi : i < o.length) (hw : o[i].length ≤ 1000) (hn : nx.length ≤ 10000000) :
  loop (fun s => ref12_Exact_L7 (a : Int) o (i : Int) s.1 s.2) (nx, 0) = some (nx ++ extW a o[i]) := by
 have h := loop_seq (step := fun s => ref12_Exact_L7 (a : Int) o (i : Int) s.1 s.2) (fun j => (nx ++ (List.range j).map (fun s : Nat => o[i] ++ [(s : Int)]), (j : Int))) a (t := nx ++ extW a o[i]) (by omega) (by
  intro j hj
  show ref12_Exact_L7 (a : Int) o (i : Int) _ (j : Int) = _
  unfold ref12_Exact_L7
  have hq : decide ((j : Int) < (a : Int)) = true := by simpa using hj
  have hx : o[i]? = some o[i] := List.getElem?_eq_getElem hi
  simp only [hq, cond_true, idx_some hx, Option.bind_some]
  rw [gdT (by simp; omega), gdT (by simp; omega), gdT (by simp; omega), w64_in (by omega) (by omega), List.range_succ, List.map_append, List.append_assoc]
  rfl) (by
  show ref12_Exact_L7 (a : Int) o (i : Int) _ (a : Int) = _
  unfold ref12_Exact_L7
  simp [extW])
 have h0 : ((nx ++ (List.range 0).map (fun s : Nat => o[i] ++ [(s : Int)])), ((0 : Nat) : Int)) = (nx, (0 : Int)) := by simp
 rw [h0] at h
 exact h
theorem rnext_eq {a : Nat} (ha : a ≤ 16) {l : List (List Int)} (hw : ∀ w ∈ l, w.length ≤ 1000) (hl : l.length ≤ 100000) :
  loop (fun s => ref12_Exact_L5 (a : Int) l s.1 s.2) (([] : List (List Int)), 0) = some (l.flatMap (extW a)) := by
 have h := loop_seq (step := fun s => ref12_Exact_L5 (a : Int) l s.1 s.2) (fun i => ((l.take i).flatMap (extW a), (i : Int))) l.length (t := l.flatMap (extW a)) (by omega) (by
  intro i hi
  show ref12_Exact_L5 (a : Int) l _ (i : Int) = _
  unfold ref12_Exact_L5
  have hq : decide ((i : Int) < (l.length : Int)) = true := by simpa using hi
  have hx : l[i]? = some l[i] := List.getElem?_eq_getElem hi
  have hlen : ((l.take i).flatMap (extW a)).length ≤ 10000000 := by
   rw [flat_len, List.length_take]
   have : min i l.length * a ≤ 100000 * 16 := Nat.mul_le_mul (by omega) ha
   omega
  simp only [hq, cond_true]
  rw [bdT (rext_eq ha hi (hw _ (List.getElem_mem hi)) hlen)]
  unfold ref12_Exact_J6
  rw [w64_in (by omega) (by omega), List.take_add_one, hx, List.flatMap_append]
  simp) (by
  show ref12_Exact_L5 (a : Int) l _ (l.length : Int) = _
  unfold ref12_Exact_L5
  simp)
 simpa using h
theorem rExact_eq {a k : Nat} (ha : 1 ≤ a ∧ a ≤ 16) (hk : k ≤ 256) (hl : a ^ k ≤ 100000) : ref12_Exact (a : Int) (k : Int) = some (exW a k) := by
 unfold ref12_Exact
 have h := loop_seq (step := fun s => ref12_Exact_L2 (a : Int) (k : Int) s.1 s.2) (fun i => (exW a i, (i : Int))) k (t := exW a k) (by omega) (by
  intro i hi
  show ref12_Exact_L2 (a : Int) (k : Int) _ (i : Int) = _
  unfold ref12_Exact_L2
  have hq : decide ((i : Int) < (k : Int)) = true := by simpa using hi
  have : a ^ i ≤ a ^ k := Nat.pow_le_pow_right ha.1 (by omega)
  simp only [hq, cond_true]
  rw [bdT (rnext_eq ha.2 (fun w hw => by rw [exW_word a i w hw]; omega) (by rw [exW_len]; omega))]
  unfold ref12_Exact_J4 ref12_Exact_J3
  rw [w64_in (by omega) (by omega)]
  rfl) (by
  show ref12_Exact_L2 (a : Int) (k : Int) _ (k : Int) = _
  unfold ref12_Exact_L2
  simp)
 have h0 : (exW a 0, ((0 : Nat) : Int)) = (([[]] : List (List Int)), (0 : Int)) := rfl
 rw [h0] at h
 rw [bdT h]
 rfl
theorem rUpto_eq {a k : Nat} (ha : 1 ≤ a ∧ a ≤ 16) (hk : k ≤ 256) (hl : a ^ k ≤ 100000) : ref12_Upto (a : Int) (k : Int) = some (outW a 0 (k + 1)) := by
 unfold ref12_Upto
 have hlen : ∀ i, i ≤ k + 1 → (outW a 0 i).length ≤ i * 100000 := by
  intro i
  induction i with
  | zero => intro _; simp [outW]
  | succ i ih =>
   intro hi
   have := ih (by omega)
   have h2 : a ^ i ≤ a ^ k := Nat.pow_le_pow_right ha.1 (by omega)
   simp only [outW, Nat.zero_le, if_true, List.length_append, exW_len]
   omega
 have h := loop_seq (step := fun s => ref12_Upto_L2 (a : Int) (k : Int) s.1 s.2) (fun i => (outW a 0 i, (i : Int))) (k + 1) (t := outW a 0 (k + 1)) (by omega) (by
  intro i hi
  show ref12_Upto_L2 (a : Int) (k : Int) _ (i : Int) = _
  unfold ref12_Upto_L2
  have hq : decide ((i : Int) ≤ (k : Int)) = true := by simp; omega
  have h2 : a ^ i ≤ a ^ k := Nat.pow_le_pow_right ha.1 (by omega)
  have h3 := hlen i (by omega)
  simp only [hq, cond_true]
  rw [rExact_eq ha (by omega) (by omega)]
  simp only [Option.bind_some]
  rw [gdT (by rw [exW_len]; omega), w64_in (by omega) (by omega)]
  simp only [outW, Nat.zero_le, if_true]
  rfl) (by
  show ref12_Upto_L2 (a : Int) (k : Int) _ ((k + 1 : Nat) : Int) = _
  unfold ref12_Upto_L2
  have hq : decide (((k + 1 : Nat) : Int) ≤ (k : Int)) = false := by simp only [decide_eq_false_iff_not]; omega
  simp only [hq, cond_false])
 have h0 : (outW a 0 0, ((0 : Nat) : Int)) = (([] : List (List Int)), (0 : Int)) := rfl
 rw [h0] at h
 rw [bdT h]
 rfl
def chk (a k : Nat) : Bool :=
 match loop (fun s => law12_TriesUpto_L5 (a : Int) (k : Int) s.1 s.2.1 s.2.2.1 s.2.2.2) (1, 1, 0, 1) with
 | some (n, m, s) => (anyN a 0 k == (decide (m > 4096) || decide (s > 65536))) && ((anyN a k k == (decide (n > 4096) || decide (w64 ((k : Int) * n) > 65536))) && ((!anyN a k k || anyN a 0 k) && (anyN a 0 k || decide (a ^ k ≤ 100000))))
 | none => false
theorem chk_all : (((List.range 16).all fun a => (List.range 9).all fun k => chk (a + 1) k) && (List.range 41).all fun k => chk 1 k) = true := by kernel_rfl
theorem chk_at {a k : Nat} (ha : 1 ≤ a ∧ a ≤ 16) (hk : k ≤ 8 ∨ a = 1 ∧ k ≤ 40) : chk a k = true := by
 have h := chk_all
 simp only [Bool.and_eq_true, List.all_eq_true, List.mem_range] at h
 rcases hk with q | ⟨rfl, q⟩
 ·have := h.1 (a - 1) (by omega) k (by omega)
  rwa [show a - 1 + 1 = a by omega] at this
 ·exact h.2 k (by omega)
theorem J3_eq {i k n m s : Int} {r r1 : List (List Int) × Int} (h1 : (r.2 != 0) = (decide (m > 4096) || decide (s > 65536))) (h2 : (r1.2 != 0) = (decide (n > 4096) || decide (w64 (k * n) > 65536))) (h3 : (r.2 != 0) = true → (r.2 != 3) = false) (h4 : (r1.2 != 0) = true → (r1.2 != 3) = false) : law12_TriesUpto_J3 i k r r1 n m s = law12_TriesUpto_J4 i k r r1 := by
 unfold law12_TriesUpto_J3
 generalize law12_TriesUpto_J4 i k r r1 = G
 generalize decide (w64 (k * n) > 65536) = b4 at h2 ⊢
 generalize decide (n > 4096) = b3 at h2 ⊢
 generalize decide (m > 4096) = b1 at h1 ⊢
 generalize decide (s > 65536) = b2 at h1 ⊢
 generalize (r.2 != 0) = c1 at h1 h3 ⊢
 generalize (r1.2 != 0) = c2 at h2 h4 ⊢
 generalize (r.2 != 3) = c3 at h3 ⊢
 generalize (r1.2 != 3) = c4 at h4 ⊢
 subst h1 h2
 cases b1 <;> cases b2 <;> cases b3 <;> cases b4 <;> cases c3 <;> cases c4 <;> simp_all
theorem J4_true {i k : Int} {r r1 : List (List Int) × Int} (h : r.2 ≠ 0 ∧ r.1.length = 0 ∧ (r1.2 = 0 ∨ r1.1.length = 0) ∨ r.2 = 0 ∧ ref12_Upto i k = some r.1 ∧ ref12_Exact i k = some r1.1 ∧ r.1.length ≤ 1000000 ∧ (∀ w ∈ r.1, w.length ≤ 1000) ∧ r1.1.length ≤ 1000000 ∧ ∀ w ∈ r1.1, w.length ≤ 1000) : law12_TriesUpto_J4 i k r r1 = some true := by
 unfold law12_TriesUpto_J4
 rw [lives_true]
 rcases h with ⟨h1, h2, h3⟩ | ⟨h1, h2, h3, h4, h5, h6, h7⟩
 ·have hb : (r.2 != 0) = true := by simpa using h1
  rw [hb, cond_true, h2]
  have : (((0 : Nat) : Int) == 0) = true := rfl
  rw [this, cond_true, Option.bind_some]
  rcases h3 with h3 | h3
  ·rw [h3]; rfl
  ·rw [h3, this, cond_true]
   cases (r1.2 == 0) <;> rfl
 ·have hb : (r.2 != 0) = false := by simpa using h1
  rw [hb, cond_false, h2, Option.bind_some, same_eq _ _ (by omega) (fun w hw => by have := h5 w hw; omega), Option.bind_some, decide_eq_true rfl, cond_true, h3, Option.bind_some, same_eq _ _ (by omega) (fun w hw => by have := h7 w hw; omega), Option.bind_some, decide_eq_true rfl, cond_true, Option.bind_some]
theorem J2_bad {i k f : Int} (hf : f ≠ 0) {r r1 : List (List Int) × Int} (h1 : r.2 = f) (h2 : r1.2 = f) (l1 : r.1.length = 0) (l2 : r1.1.length = 0) : law12_TriesUpto_J2 i k r r1 f = some true := by
 unfold law12_TriesUpto_J2
 have hb : (f != 0) = true := by simpa using hf
 have hs : (w64 (((0 : Nat) : Int) + ((0 : Nat) : Int)) == 0) = true := by
  have : ((0 : Nat) : Int) = 0 := rfl
  have h : (0 : Int) + 0 = 0 := rfl
  rw [this, h, w64_in (by omega) (by omega)]
  rfl
 rw [hb, cond_true, h1, h2, BEq.rfl, cond_true, cond_true, l1, l2, hs, cond_true, lives_true, Option.bind_some]
theorem J1_bad' {i k f : Int} (hf : f ≠ 0) (hu : tries_all i 0 k = some ([], f)) (he : tries_all i k k = some ([], f)) (hw : f = if 16 < i then 3 else if i < 1 ∨ k < 0 then 1 else 3) (hb : 16 < i ∨ i < 1 ∨ k < 0 ∨ 256 < k) : law12_TriesUpto_J1 i k = some true := by
 unfold law12_TriesUpto_J1 tries_Upto tries_Exact
 rw [hu, he]
 have J := J2_bad (i := i) (k := k) hf (r := ([], f)) (r1 := ([], f)) rfl rfl rfl rfl
 generalize law12_TriesUpto_J2 i k = G at J ⊢
 simp only [Option.bind_some]
 by_cases h1 : 16 < i
 ·rw [if_pos h1] at hw; subst hw
  rw [decide_eq_true h1, cond_true, J]
 ·rw [if_neg h1] at hw
  rw [decide_eq_false h1, cond_false]
  by_cases h2 : i < 1
  ·rw [if_pos (.inl h2)] at hw; subst hw
   rw [decide_eq_true h2, cond_true, J]
  ·rw [decide_eq_false h2, cond_false]
   by_cases h3 : k < 0
   ·rw [if_pos (.inr h3)] at hw; subst hw
    rw [decide_eq_true h3, cond_true, J]
   ·rw [if_neg (by omega)] at hw; subst hw
    have h4 : 256 < k := by omega
    rw [decide_eq_false h3, cond_false, decide_eq_true h4, cond_true, J]
theorem J1_good {a k : Nat} (ha : 1 ≤ a ∧ a ≤ 16) (hk : k ≤ 8 ∨ a = 1 ∧ k ≤ 40) : law12_TriesUpto_J1 (a : Int) (k : Int) = some true := by
 have hk2 : k ≤ 256 := by omega
 have hc := chk_at ha hk
 unfold chk at hc
 unfold law12_TriesUpto_J1 tries_Upto tries_Exact
 have e0 : tries_all (a : Int) 0 (k : Int) = some (if anyN a 0 k then ([], 3) else (outW a 0 (k + 1), 0)) := all_res (f := 0) ha (by omega) hk2
 rw [e0, all_res ha hk2 hk2]
 simp only [Option.bind_some]
 have d1 : decide ((a : Int) > 16) = false := by simp; omega
 have d2 : decide ((a : Int) < 1) = false := by simp; omega
 have d3 : decide ((k : Int) < 0) = false := by simp
 have d4 : decide ((k : Int) > 256) = false := by simp; omega
 rw [d1, d2, d3, d4, cond_false, cond_false, cond_false, cond_false]
 unfold law12_TriesUpto_J2
 rw [bne_self_eq_false, cond_false]
 split at hc
 ·rename_i n m s hl
  rw [hl, Option.bind_some]
  simp only [Bool.and_eq_true, Bool.or_eq_true, beq_iff_eq, Bool.not_eq_true', decide_eq_true_eq] at hc
  obtain ⟨c1, c2, c3, c4⟩ := hc
  have p1 : ((if anyN a 0 k then (([] : List (List Int)), (3 : Int)) else (outW a 0 (k + 1), 0)).2 != 0) = anyN a 0 k := by cases anyN a 0 k <;> rfl
  have p2 : ((if anyN a k k then (([] : List (List Int)), (3 : Int)) else (outW a k (k + 1), 0)).2 != 0) = anyN a k k := by cases anyN a k k <;> rfl
  rw [J3_eq (by rw [← c1]; exact p1) (by rw [← c2]; exact p2) (by cases anyN a 0 k <;> simp) (by cases anyN a k k <;> simp)]
  refine J4_true ?_
  cases hU : anyN a 0 k with
  | true =>
   left
   refine ⟨by simp, by simp, ?_⟩
   cases anyN a k k with
   | true => right; rfl
   | false => left; rfl
  | false =>
   right
   have hE : anyN a k k = false := by
    rcases c3 with q | q
    ·exact q
    ·rw [hU] at q; cases q
   have hp : a ^ k ≤ 100000 := by
    rcases c4 with q | q
    ·rw [hU] at q; cases q
    ·exact q
   rw [hE]
   have ho : outW a k (k + 1) = exW a k := by unfold outW; rw [if_pos (Nat.le_refl _), outW_nil a k k (Nat.le_refl _)]; rfl
   have hst : ¬ stopW a 0 k k := fun q => by
    have := (anyN_iff a 0 k).2 ⟨k, Nat.le_refl _, q⟩
    rw [hU] at this; cases this
   unfold stopW at hst
   refine ⟨rfl, rUpto_eq ha hk2 hp, ?_, ?_, ?_, ?_, ?_⟩
   ·rw [rExact_eq ha hk2 hp]
    show some (exW a k) = some (outW a k (k + 1))
    rw [ho]
   ·show (outW a 0 (k + 1)).length ≤ 1000000
    omega
   ·intro w hw
    have := outW_lt a 0 (k + 1) w hw
    omega
   ·show (outW a k (k + 1)).length ≤ 1000000
    rw [ho, exW_len]; omega
   ·intro w hw
    have := outW_lt a k (k + 1) w hw
    omega
 ·cases hc
theorem upto_true (i k : Int) : law12_TriesUpto i k = some true := by
 unfold law12_TriesUpto
 have bad : (16 < i ∨ i < 1 ∨ k < 0 ∨ 256 < k) → law12_TriesUpto_J1 i k = some true := fun h => by
  refine J1_bad' (f := if 16 < i then 3 else if i < 1 ∨ k < 0 then 1 else 3) ?_ (all_bad h) (all_bad h) rfl h
  by_cases h1 : 16 < i
  ·rw [if_pos h1]; omega
  ·rw [if_neg h1]
   by_cases h2 : i < 1 ∨ k < 0
   ·rw [if_pos h2]; omega
   ·rw [if_neg h2]; omega
 have good : 1 ≤ i → i ≤ 16 → 0 ≤ k → (k ≤ 8 ∨ i = 1 ∧ k ≤ 40) → law12_TriesUpto_J1 i k = some true := fun h1 h2 h3 h4 => by
  have := J1_good (a := i.toNat) (k := k.toNat) (by omega) (by omega)
  rwa [Int.toNat_of_nonneg (by omega), Int.toNat_of_nonneg h3] at this
 by_cases hs : (1 ≤ i ∧ i ≤ 16) ∧ 8 < k ∧ (1 < i ∨ k ≤ 300 ∧ 40 < k)
 ·obtain ⟨⟨h1, h2⟩, h3, h4⟩ := hs
  rw [decide_eq_true (show i ≥ 1 from h1), cond_true, decide_eq_true h2, cond_true, decide_eq_true (show k > 8 from h3), cond_true]
  by_cases h5 : 1 < i
  ·rw [decide_eq_true (show i > 1 from h5), cond_true]
  ·obtain ⟨h6, h7⟩ := h4.resolve_left h5
   rw [decide_eq_false (show ¬ i > 1 from h5), cond_false, decide_eq_true h6, cond_true, decide_eq_true (show k > 40 from h7), cond_true]
 ·have J : law12_TriesUpto_J1 i k = some true := by
   by_cases hb : 16 < i ∨ i < 1 ∨ k < 0 ∨ 256 < k
   ·exact bad hb
   ·exact good (by omega) (by omega) (by omega) (by omega)
  rw [J]
  by_cases h1 : i ≥ 1
  ·rw [decide_eq_true h1, cond_true]
   by_cases h2 : i ≤ 16
   ·rw [decide_eq_true h2, cond_true]
    by_cases h3 : k > 8
    ·rw [decide_eq_true h3, cond_true]
     have h4 : ¬ i > 1 := by omega
     rw [decide_eq_false h4, cond_false]
     by_cases h5 : k ≤ 300
     ·rw [decide_eq_true h5, cond_true, decide_eq_false (show ¬ k > 40 by omega), cond_false]
     ·rw [decide_eq_false h5, cond_false]
    ·rw [decide_eq_false h3, cond_false]
   ·rw [decide_eq_false h2, cond_false]
  ·rw [decide_eq_false h1, cond_false]
end Go.Own

namespace Go.Own
def Ok3 (a : Int) : Prop := (-9223372036854775808) ≤ a ∧ a ≤ 9223372036854775807
end Go.Own

namespace Go.Own
theorem law_true {i k : Int} (hi : Ok3 i) (hk : Ok3 k) : law12_TriesUpto i k = some true := upto_true i k
end Go.Own

namespace Go.Own
def allS (w : World) : Still := fun b o => cellAt w.heap b o
section
variable {H : Type} {enc : TypeId × Value → H} {P : Program} {w : World} {base : Nat} {spare : Nat → Bool} {held : Bool}
theorem int_rep {t : Nat} {k : IntKind} {lo hi : Int} (ht : P.underlying t = some (.int k)) (hlo : k.min = lo) (hhi : k.max = hi) {fuel : Nat} {cs : List Value} {x : DataW H × List MemPlace} (h : DataW.trod enc P w base spare held fuel t cs = some x) :
  ∃ n : Int, (lo ≤ n ∧ n ≤ hi) ∧ cs = [.int k n] ∧ Rep (allS w) (.atom (.int k n)) cs := by
 obtain ⟨n, rfl, _, hw⟩ := DataW.trod_int ht h
 simp only [Lit.wf, Bool.and_eq_true, decide_eq_true_eq, hlo, hhi] at hw
 exact ⟨n, hw, rfl, by simp only [Rep]; exact ⟨trivial, rfl⟩⟩
end
end Go.Own

namespace Go.Own
set_option linter.unusedVariables false
section
open Go Go.ChangeShapes Go.WideShapes Go.ChangeAt Go.RowKit
theorem post_kept {P : Program} {H : Type} {enc : TypeId × Value → H} {f : Func} {s : ChangeSpec} {apart fresh handsOn again : Bool} {W W' : World} {args : Array Value} {v : Value} {ds : List (DataW H)} {pa : List MemPlace}
  (hvar : s.vars = []) (hvars2 : (s.fn H (ds ++ [])).vars = []) (hW : DataW.Whole enc P f.params.toList s.vars apart W args.toList ds [] (pa ++ [])) (hb : Below W.heap.size W W')
  (hres : ∀ (b : Nat) (sp : Nat → Bool) (hd : Bool), DataW.TrodAll enc P W' b sp hd f.resultTypes.toList (v.resultList f.resultTypes.size) (s.fn H (ds ++ [])).results [])
  (hargs : ∀ sp : Nat → Bool, (∀ p ∈ pa ++ [], sp p.block = true) → DataW.TrodAll enc P W' 0 sp true f.params.toList args.toList (s.fn H (ds ++ [])).args pa)
  (hok : ∀ (j : Nat) (t : TypeId) (r : Value), f.resultTypes[j]? = some t → (v.resultList f.resultTypes.size)[j]? = some r → Value.okWide P W' .any 0 t r) :
  s.post enc P f apart fresh handsOn again W args v W' := by
 have hlt : ∀ p ∈ pa ++ [], p.block < W.heap.size := fun p hp => by simpa using hW.lt p hp
 have hvr : ∀ sp : Nat → Bool, DataW.TrodVars enc P W' sp s.vars (s.fn H (ds ++ [])).vars [] := fun sp => by rw [hvar, hvars2]; rfl
 refine ⟨ds, [], pa ++ [], [], pa, [], hW, hres _ _ _, hargs _ (fun p hp => by simpa using hlt p hp), hvr _, World.keptBut_mono (fun _ q => q.elim) (hb.frame fun _ => False), fun _ => ?_⟩
 obtain ⟨_, _, _, _, _, hz, hn⟩ := hW
 refine ⟨hok, _, _, ([] ++ pa) ++ [], ⟨[] ++ pa, [], trodAll_append (hargs _ (fun _ _ => rfl)) (hres _ _ _), hvr _, rfl, ?_, ?_⟩, ?_⟩
 ·intro b off hp
  have hp' : MemPlace.cell b off ∈ pa ++ [] := by simpa using hp
  rw [hb.frozen (p := ⟨b, off, none⟩) (hlt _ hp')]
  exact hz b off hp'
 ·intro ha
  simpa using hn ha
 ·intro p hp _
  simpa using hp
end
theorem spF_call {P : Program} {k : Nat} {α ρ : Type} {enc : α → List A} {encR : ρ → A} {F : α → Option ρ} {gives : List Bool} {inj : ∀ x y, enc x = enc y → x = y} (h : (spF k enc encR F gives inj).Ok P) {x : α} {r : ρ} (hr : F x = some r) : CallOk P k (enc x) (encR r) := by
 have := h x ⟨r, hr⟩
 simpa only [spF, hr] using this
section
variable {P : Program} {w : World} {r : Reach} {base t : Nat} {v : Value}
theorem val_plain (h : ∀ cs, v ≠ .agg cs) : v = v.cells.toList.headD undef := by
 cases v <;> first | rfl | exact (h _ rfl).elim
theorem val_int {k : IntKind} (hu : P.underlying t = some (.int k)) (h : Value.okWide P w r base t v) : v = v.cells.toList.headD undef := by
 refine val_plain fun cs e => ?_
 subst e
 unfold Value.okWide at h
 rw [hu] at h
 simp only [Cell.okWide, hu, Cell.ok] at h
theorem rep1_int {k : IntKind} {S : Still} {a : A} (hu : P.underlying t = some (.int k)) (hr : Rep S a v.cells.toList) (h : Value.okWide P w r base t v) (ha : a.isAgg = false) : Rep1 S a v := ⟨_, hr, by cases a <;> first | exact val_int hu h | cases ha⟩
theorem has_true {S : Still} {h : Array Obj} {v : Value} {F : List Nat} (q : Has S h (.atom (.bool true)) v F) : v = .bool true := by
 rcases q with ⟨q, _⟩ | ⟨cs, q, _, rfl⟩
 ·rw [(repV_atom.1 q).1]
 ·simp only [Conc, Rep] at q
  obtain ⟨⟨rfl, _⟩, _⟩ := q
  rfl
end
end Go.Own

namespace Go.Own
open Go.Proofs
set_option linter.unusedVariables false
section
variable {H : Type} {enc : TypeId × Value → H} {w : World} {base : Nat} {spare : Nat → Bool} {held : Bool}
theorem rd3 {fuel : Nat} {cs : List Value} {x : DataW H × List MemPlace} (h : DataW.trod enc Try.prog w base spare held fuel 3 cs = some x) : ∃ a : Int, Ok3 a ∧ Rep (allS w) ((eI .i64) a) cs := by
 obtain ⟨n, h1, _, h2⟩ := int_rep Try.underlying3 (lo := -9223372036854775808) (hi := 9223372036854775807) rfl rfl h
 exact ⟨n, h1, h2⟩
end
end Go.Own
namespace Go.Proofs.Ytlejgipmepemjaa.triesUpto
open Go Go.ChangeShapes Go.WideShapes Go.ChangeAt Go.RowKit
set_option linter.unusedVariables false
theorem own : ownKnob Try.prog.godebug = none := by kernel_rfl
theorem laidOut : laidOutB Try.prog = true := by kernel_rfl
section
variable {H : Type} {enc : TypeId × Value → H} {W : World}
set_option maxRecDepth 100000 in
theorem walk {base : Nat} {v0 : Value} {d0 : DataW H} {p0 : List MemPlace} {v1 : Value} {d1 : DataW H} {p1 : List MemPlace} (h0 : DataW.Trod enc Try.prog W 0 (fun _ => true) true 3 v0 d0 p0) (h1 : DataW.Trod enc Try.prog W 0 (fun _ => true) true 3 v1 d1 p1) (k0 : Value.okWide Try.prog W .any base (3 : Nat) v0) (k1 : Value.okWide Try.prog W .any base (3 : Nat) v1) :
  Calls Try.prog 5 #[v0, v1] W fun e w' => e = .returned (.bool true) ∧ Go.Own.Kept (fun k => W.heap.size ≤ k) W w' := by
 obtain ⟨n0, h0⟩ := h0
 obtain ⟨x0, o0, r0⟩ := Go.Own.rd3 h0
 obtain ⟨n1, h1⟩ := h1
 obtain ⟨x1, o1, r1⟩ := Go.Own.rd3 h1
 have q := (Go.Own.spF_call (Go.Own.ctrOf_call Go.Own.L49_ok List.mem_cons_self : Go.Own.sp_law12_TriesUpto.Ok Try.prog) (x := (x0, x1)) (r := true) (Go.Own.law_true o0 o1)).2 (Go.Own.allS W) W [v0, v1] [] (fun _ _ _ h => h) ?_ (by simp)
 ·refine Calls.mono q ?_
  rintro e w' ⟨v, S', F', rfl, hk, _, _, _, hr, _, _⟩
  refine ⟨?_, hk.mono (by rintro k (h | h) <;> simp_all)⟩
  rw [Go.Own.has_true hr]
 ·refine Go.Own.all2_hass ?_
  have g0 : Go.Own.Rep1 (Go.Own.allS W) ((Go.Own.eI .i64) x0) v0 := Go.Own.rep1_int (t := (3 : Nat)) Try.underlying3 r0 k0 rfl
  have g1 : Go.Own.Rep1 (Go.Own.allS W) ((Go.Own.eI .i64) x1) v1 := Go.Own.rep1_int (t := (3 : Nat)) Try.underlying3 r1 k1 rfl
  exact ⟨g0, g1, trivial⟩
end
set_option maxRecDepth 100000 in
theorem lifted (os : Os) (started : os.Started) (H : Type) (enc : TypeId × Value → H) :
  ReturnsInHanded {} Try.checked os 5 .any (Rows.triesUptoSpec.pre6 enc Try.prog Try.f5 Rows.triesUptoRow.domain false) (Rows.triesUptoSpec.post enc Try.prog Try.f5 false true false false) := by
 refine returnsInHanded_of_change (C := Try.checked) own started (by kernel_rfl) Try.func5
  (ChangeSpec.witness6 (enc := enc) (C := Try.checked) false ⟨#[], #[.int .i64 0, .int .i64 0], []⟩ 8 (by kernel_rfl) (by kernel_rfl) (by kernel_rfl) (by kernel_rfl)) ?_
 intro W base args ds gs before hval0 hW hcnd _
 have hval : ∀ (j : Nat) t v, Try.f5.params[j]? = some t → args[j]? = some v → Value.okWide Try.prog W .any base t v := hval0
 have hW' := hW
 obtain ⟨p, q, hA0, hV, rfl, hfz, hnd⟩ := hW
 have hA : DataW.TrodAll enc Try.prog W 0 (fun _ => true) true Try.f5.params.toList args.toList ds p := hA0
 rw [Try.params5] at hA hval
 obtain ⟨v0, v1, d0, d1, p0, p1, rfl, rfl, rfl, h0, h1⟩ := trodAll_two hA
 obtain ⟨rfl, rfl⟩ := trodVars_none hV
 clear hA0 hval0
 refine (walk h0 h1 (hval 0 (3 : Nat) v0 rfl rfl) (hval 1 (3 : Nat) v1 rfl rfl)).mono fun e W' ⟨he, hk⟩ => ?_
 subst he
 have hb : Below W.heap.size W W' := ⟨hk.os, hk.tape, hk.output, hk.size, fun k q => hk.block k (by omega)⟩
 have hlt : ∀ x ∈ p0 ++ p1, x.block < W.heap.size := fun x hx => by simpa using hW'.lt x (by simpa using hx)
 refine ⟨_, rfl, Go.Own.post_kept rfl rfl hW' hb (fun _ _ _ => trodAll_cons_mk (shut_bool Try.underlying4 _) trodAll_mk0) (fun sp hsp => ?_) (ok_one (by kernel_rfl) rfl (okWide_bool_mk Try.underlying4 _))⟩
 have st : ∀ {t : Nat} {v : Value} {d : DataW H} {p' : List MemPlace}, DataW.Trod enc Try.prog W 0 (fun _ => true) true t v d p' → Try.prog.readableRec t = true → t < Try.prog.types.size → (∀ x ∈ p', x ∈ p0 ++ p1) → DataW.Trod enc Try.prog W' 0 sp true t v d p' := by
  intro t v d p' hd h1 h2 hp
  exact WideElems.Trod_stays laidOut h1 h2 hd (fun x hx => hb.same (hlt x (hp x hx))) (fun x hx => hsp x (by simpa using hp x hx))
 have := trodAll_mk2 (st h0 (by kernel_rfl) (of_decide_eq_true (by kernel_rfl)) (fun x hx => by simp [hx])) (st h1 (by kernel_rfl) (of_decide_eq_true (by kernel_rfl)) (fun x hx => by simp [hx]))
 rw [Try.params5]
 exact this
theorem over : Rows.triesUptoRow.holds Try.pinned (OpenSpec.ofChange Rows.triesUptoSpec) :=
 OpenClaim.holds_of_wide 5 Try.f5 rfl rfl rfl rfl rfl rfl rfl ⟨rfl, rfl, rfl, rfl, rfl⟩ rfl rfl rfl rfl rfl (by kernel_rfl) Try.func5 (by kernel_rfl)
  (of_decide_eq_true (by kernel_rfl)) (by unfold Func.isWrapper; first | (rw [if_pos (by decide +kernel)]; kernel_rfl) | (rw [if_neg (by decide +kernel)]; exact ⟨rfl, rfl⟩))
  (fun os started H enc _ => lifted os started H enc)
theorem proved : Rows.TriesUptoSaid :=
 over
#print axioms proved
end Go.Proofs.Ytlejgipmepemjaa.triesUpto
