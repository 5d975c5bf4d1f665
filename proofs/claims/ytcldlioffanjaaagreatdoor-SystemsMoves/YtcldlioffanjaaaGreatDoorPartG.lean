/- Walks, further. -/
import Derived.Test.YtcldlioffanjaaaGreatDoorPartF
import Derived.Test.YtcldlioffanjaaaGreatDoorPartC
import Derived.Test.YtcldlioffanjaaaGreatDoorPartE
noncomputable section
set_option linter.unusedVariables false
set_option linter.unusedSimpArgs false
namespace Go.Own
theorem oB {α : Type _} {β : Type _} (a : α) (f : α → Option β) : Option.bind (some a) f = f a := rfl
open Go.Proofs
set_option maxRecDepth 100000
set_option maxHeartbeats 8000000
def qW : Code := (Tryz.f24.body).getD .skip
def X6 : yU := spF (α := z8 × z7 × za) (ρ := z7 × Int) 24 (fun x => [yV x.1, xh x.2.1, xu x.2.2]) (fun r => .tup [Kj r.1, (eI .i64) r.2]) (fun x => jz x.1 x.2.1 x.2.2) [] (z9j)
abbrev Qu (x6_States : List Int) (x6_Queues : List (List Int)) : List (Nat × T) := [(6, .own (.box (.agg [eSl 1 true (eI .i64) x6_States, eSl 1 true F1_ x6_Queues]))), (7, .own (.box (I 0)))]
abbrev jm (x_ : z8) (m_ : za) (r_2 : z8 × zb) (x6_States1 : List Int) (x6_Queues1 : List (List Int)) : List (Nat × T) := [(3, .own (.box (yV x_))), (5, .own (.box (xu m_))), (6, .own (.box (.agg [eSl 1 true (eI .i64) x6_States1, eSl 1 true F1_ x6_Queues1]))), (7, .own (.box (I 0))), (21, .d (.fn 82 [.sptr (.agg [I r_2.1.Messages, I r_2.1.Labels, eSl 1 false (eI .i64) r_2.1.Channels, eSl 3 false wH r_2.1.Parts]), .sptr (.agg [.agg [I r_2.2.states_.e0, I r_2.2.states_.e1, I r_2.2.states_.e2, I r_2.2.states_.e3], .agg [.agg [I r_2.2.queues_.e0.many_, .agg [I r_2.2.queues_.e0.l_.e0, I r_2.2.queues_.e0.l_.e1, I r_2.2.queues_.e0.l_.e2, I r_2.2.queues_.e0.l_.e3]], .agg [I r_2.2.queues_.e1.many_, .agg [I r_2.2.queues_.e1.l_.e0, I r_2.2.queues_.e1.l_.e1, I r_2.2.queues_.e1.l_.e2, I r_2.2.queues_.e1.l_.e3]], .agg [I r_2.2.queues_.e2.many_, .agg [I r_2.2.queues_.e2.l_.e0, I r_2.2.queues_.e2.l_.e1, I r_2.2.queues_.e2.l_.e2, I r_2.2.queues_.e2.l_.e3]], .agg [I r_2.2.queues_.e3.many_, .agg [I r_2.2.queues_.e3.l_.e0, I r_2.2.queues_.e3.l_.e1, I r_2.2.queues_.e3.l_.e2, I r_2.2.queues_.e3.l_.e3]]]])]))]
theorem z0C {ctr : Ctr} (hC : zT Tryz.prog ctr) (h0p : ctr.Has v6) (h0q : ctr.Has jg) (h0e : ctr.Has xT) (h04 : ctr.Has xw) (h08 : ctr.Has xv) (h09 : ctr.Has jA) (h0g : ctr.Has xI) : X6.Ok Tryz.prog := by
 refine y4 ?_
 rintro ⟨x_, c_, m_⟩ r0 hf0
 try unfold jz at hf0
 refine yO false [(6, some 39), (7, some 40)] qW 31 Tryz.func24 fun E hE => ?_
 obtain ⟨r_, h0, hf0⟩ := zo hf0
 let Z0 : List HO := [Hh (.v 2 [6]), Hm (shM (eI .i64) (eI .i64) []), Hm (shM F2_ F2_ []), Hc h0p (x := (x_, c_)) h0 (loC yV x_ <| loC xh c_ <| loN)]
 rcases zZ hf0 with ⟨c0, hf0⟩ | ⟨c0, hf0⟩
 ·obtain rfl := zl hf0
  exact yE X0 hC hE (Z0 ++ [Hq c0, Hm (shM (eI .i64) (eI .i64) []), Hm (shM F2_ F2_ [])])
 ·refine yJ X0 hC qW [1,1] [] [6,7] (fun z : List Int × List (List Int) => X4 z.1 z.2 = some r0) (fun z => Qu z.1 z.2) [(3, .own (.box (yV x_))), (4, .own (.box (xh c_))), (5, .own (.box (xu m_))), (6, .own (.box (.agg [eSl 1 true (eI .i64) [], eSl 1 true F2_ []]))), (7, .own (.box (I 0)))] (Z0 ++ [Hq c0, Hh (.cut 0)]) ?_ fun J1 hJ1 => ?_
  ·rintro ⟨x6_States, x6_Queues⟩ hf0
   unfold X4 at hf0
   obtain rfl := zl hf0
   exact yE X0 hC hE [Hm (shM (eI .i64) (eI .i64) []), Hm (shM F2_ F2_ [])]
  ·obtain ⟨r_1, h1, hf0⟩ := zo hf0
   obtain ⟨r_2, h2, hf0⟩ := zo hf0
   obtain ⟨t2, ht2, hf0⟩ := zo hf0
   refine yAt X0 hC (sub [1,1,2,1,0] qW) (frs [1,1,2,1,0] [J1] qW []) [(3, .own (.box (yV x_))), (5, .own (.box (xu m_))), (6, .own (.box (.agg [eSl 1 true (eI .i64) [], eSl 1 true F1_ []]))), (7, .own (.box (I 0))), (21, .d (.fn 82 [.sptr (.agg [I r_2.1.Messages, I r_2.1.Labels, eSl 1 false (eI .i64) r_2.1.Channels, eSl 3 false wH r_2.1.Parts]), .sptr (.agg [.agg [I r_2.2.states_.e0, I r_2.2.states_.e1, I r_2.2.states_.e2, I r_2.2.states_.e3], .agg [.agg [I r_2.2.queues_.e0.many_, .agg [I r_2.2.queues_.e0.l_.e0, I r_2.2.queues_.e0.l_.e1, I r_2.2.queues_.e0.l_.e2, I r_2.2.queues_.e0.l_.e3]], .agg [I r_2.2.queues_.e1.many_, .agg [I r_2.2.queues_.e1.l_.e0, I r_2.2.queues_.e1.l_.e1, I r_2.2.queues_.e1.l_.e2, I r_2.2.queues_.e1.l_.e3]], .agg [I r_2.2.queues_.e2.many_, .agg [I r_2.2.queues_.e2.l_.e0, I r_2.2.queues_.e2.l_.e1, I r_2.2.queues_.e2.l_.e2, I r_2.2.queues_.e2.l_.e3]], .agg [I r_2.2.queues_.e3.many_, .agg [I r_2.2.queues_.e3.l_.e0, I r_2.2.queues_.e3.l_.e1, I r_2.2.queues_.e3.l_.e2, I r_2.2.queues_.e3.l_.e3]]]])]))] [Hc h0q (x := c_) h1 (loC xh c_ <| loN), Hc h0e (x := (x_, r_1)) h2 (loC yV x_ <| loC yH r_1 <| loN)] fun st0 h0 => ?_
   refine K4 (g := .tmp 21) (ps := [22,23]) (assign := (sub [1,1,2,1,0,0] qW)) (body := (sub [1,1,2,1,0,1] qW)) (K := 82) (caps := [.sptr (.agg [I r_2.1.Messages, I r_2.1.Labels, eSl 1 false (eI .i64) r_2.1.Channels, eSl 3 false wH r_2.1.Parts]), .sptr (.agg [.agg [I r_2.2.states_.e0, I r_2.2.states_.e1, I r_2.2.states_.e2, I r_2.2.states_.e3], .agg [.agg [I r_2.2.queues_.e0.many_, .agg [I r_2.2.queues_.e0.l_.e0, I r_2.2.queues_.e0.l_.e1, I r_2.2.queues_.e0.l_.e2, I r_2.2.queues_.e0.l_.e3]], .agg [I r_2.2.queues_.e1.many_, .agg [I r_2.2.queues_.e1.l_.e0, I r_2.2.queues_.e1.l_.e1, I r_2.2.queues_.e1.l_.e2, I r_2.2.queues_.e1.l_.e3]], .agg [I r_2.2.queues_.e2.many_, .agg [I r_2.2.queues_.e2.l_.e0, I r_2.2.queues_.e2.l_.e1, I r_2.2.queues_.e2.l_.e2, I r_2.2.queues_.e2.l_.e3]], .agg [I r_2.2.queues_.e3.many_, .agg [I r_2.2.queues_.e3.l_.e0, I r_2.2.queues_.e3.l_.e1, I r_2.2.queues_.e3.l_.e2, I r_2.2.queues_.e3.l_.e3]]]])]) (by kernel_rfl) [3,5,6,7,21] (fun s => jm x_ m_ r_2 s.1 s.2) (fun s => jm x_ m_ r_2 s.1 s.2) (fun s => Code.ret) ((fun (x : za × zb) (_ : Bool) (_ : Value) => [xu x.1, yH x.2])) (F := @y6 r_2.1 r_2.2) (fun s x => wq x_ m_ s.1 s.2 x.1 x.2) (([] : List Int), ([] : List (List Int))) t2 _ h0 inferInstance (by kernel_rfl) (by decide) (fun _ => rfl) (fun _ => rfl) (by kernel_rfl) (fun _ _ _ => rfl) (vX hC h04 h08 h09 r_2.1 r_2.2) ht2 ?_ ?_
   ·rintro tv2 ⟨x6_States1, x6_Queues1⟩ ⟨x22, x23⟩ vr lr1 hf1
    replace hf1 : wq x_ m_ x6_States1 x6_Queues1 x22 x23 = some lr1 := hf1
    unfold wq at hf1
    refine yF X0 hC .normal [(3, .own (.box (yV x_))), (5, .own (.box (xu m_))), (6, .own (.box (.agg [eSl 1 true (eI .i64) x6_States1, eSl 1 true F1_ x6_Queues1]))), (7, .own (.box (I 0))), (9, .own (.box (xu x22))), (10, .own (.box (yH x23))), (21, .d (.fn 82 [.sptr (.agg [I r_2.1.Messages, I r_2.1.Labels, eSl 1 false (eI .i64) r_2.1.Channels, eSl 3 false wH r_2.1.Parts]), .sptr (.agg [.agg [I r_2.2.states_.e0, I r_2.2.states_.e1, I r_2.2.states_.e2, I r_2.2.states_.e3], .agg [.agg [I r_2.2.queues_.e0.many_, .agg [I r_2.2.queues_.e0.l_.e0, I r_2.2.queues_.e0.l_.e1, I r_2.2.queues_.e0.l_.e2, I r_2.2.queues_.e0.l_.e3]], .agg [I r_2.2.queues_.e1.many_, .agg [I r_2.2.queues_.e1.l_.e0, I r_2.2.queues_.e1.l_.e1, I r_2.2.queues_.e1.l_.e2, I r_2.2.queues_.e1.l_.e3]], .agg [I r_2.2.queues_.e2.many_, .agg [I r_2.2.queues_.e2.l_.e0, I r_2.2.queues_.e2.l_.e1, I r_2.2.queues_.e2.l_.e2, I r_2.2.queues_.e2.l_.e3]], .agg [I r_2.2.queues_.e3.many_, .agg [I r_2.2.queues_.e3.l_.e0, I r_2.2.queues_.e3.l_.e1, I r_2.2.queues_.e3.l_.e2, I r_2.2.queues_.e3.l_.e3]]]])]))] [] fun st0 h0 => ⟨rfl, z0q h0 ?_⟩
    rcases zZ hf1 with ⟨c1, hf1⟩ | ⟨c1, hf1⟩
    ·obtain ⟨r_3, h3, hf1⟩ := zo hf1
     obtain rfl := zl hf1
     exact yF X0 hC .ret (jm x_ m_ r_2 r_3.States r_3.Queues) [Hq c1, Hc h0g (x := (x_, x23)) h3 (loC yV x_ <| loC yH x23 <| loN)] fun st0 h0 => ⟨rfl, _, h0, LeL.refl _⟩
    ·obtain rfl := zl hf1
     exact yF X0 hC .normal (jm x_ m_ r_2 x6_States1 x6_Queues1) [Hq c1] fun st0 h0 => ⟨rfl, _, h0, LeL.refl _⟩
   ·rcases t2 with ⟨x6_States1, x6_Queues1⟩ | z
    ·dsimp only at hf0
     exact YV (by kernel_rfl) (hJ1 _ [(6, .own (.box (.agg [eSl 1 true (eI .i64) x6_States1, eSl 1 true F1_ x6_Queues1]))), (7, .own (.box (I 0)))] (x6_States1, x6_Queues1) hf0 (show Own.canon [6,7] _ = ofL _ by kernel_rfl) inferInstance)
    ·obtain ⟨x6_States1, x6_Queues1⟩ := z
     dsimp only at hf0
     show AWP _ _ (Code.ret) _ _
     obtain rfl := zl hf0
     exact yE X0 hC hE []
def z0o : Code := (Tryz.f37.body).getD .skip
def X9 : yU := spF (α := Int × List ze) (ρ := z8) 37 (fun x => [(eI .i64) x.1, z3a x.2]) (fun r => z7u r) (fun x => YQ x.1 x.2) [] (Uu)
def z1M : XH Tryz.prog := ((zcg zR (.inl 13) [10,12]).or X0)
theorem z0G {ctr : Ctr} (hC : zT Tryz.prog ctr) : X9.Ok Tryz.prog := by
 refine y4 ?_
 rintro ⟨capacity, arcs⟩ r0 hf0
 try unfold YQ at hf0
 refine yO false [(4, some 29)] z0o 15 Tryz.func37 fun E hE => ?_
 obtain rfl := zl hf0
 exact yE z1M hC hE [Hm (shM vW vW ([(ze.mk 0 1 0 0 1), (ze.mk 1 0 0 0 0)])), Hm (shM (eI .i64) (eI .i64) []), Hm (shM (eI .i64) (eI .i64) []), Hm (shM (eI .i64) (eI .i64) ([capacity])), Hm (shM z9o z9o ([(zi.mk 2 ([(ze.mk 0 1 0 0 1), (ze.mk 1 0 0 0 0)]) []), (zi.mk 1 arcs [])]))]
def qj : Code := (Tryz.f71.body).getD .skip
def x5 : yU := spF (α := List z6) (ρ := List z6) 71 (fun x => [XZ x]) (fun r => wE r) (fun x => xq x) [] (Qp)
theorem qB {ctr : Ctr} (hC : zT Tryz.prog ctr) : x5.Ok Tryz.prog := by
 refine y4 ?_
 rintro s_ r0 hf0
 try unfold xq at hf0
 refine yO true [(2, none)] qj 9 Tryz.func71 fun E hE => ?_
 obtain ⟨g0, hf0⟩ := gdE hf0
 obtain rfl := zl hf0
 exact yE X0 hC hE [Ha (lnM qH s_), Ha (lnM qH s_), Hn (slB g0), Hn (slC g0), Hn (z3i qH g0), Ha (z9e 5 qH s_ 0 ((s_.length : Nat) : Int).toNat)]
def ue : Code := (Tryz.f72.body).getD .skip
def zN : yU := spR (α := List (List z6)) (ρ := List (List z6)) 72 (fun x => [(eOs 1 false wE) x]) (fun r => (eOs 1 true wE) r) (fun x => yd x) [true] (Qp)
theorem u9 : ∀ x r, (fun x => yd x) x = some r → (Qr.add zN).run 72 ((Qr.add zN).norm 72 ((fun x => [(eOs 1 false wE) x]) x)) = some ((fun r => (eOs 1 true wE) r) r) := fun x r h => zfL h rfl
theorem ua : (Qr.add zN).lend 72 = none ∧ (Qr.add zN).gives 72 = [true] := zcT
theorem ug {ctr : Ctr} (hC : zT Tryz.prog ctr) : zN.Ok Tryz.prog := by
 refine z9W ?_
 rintro s_ r0 hf0
 try unfold yd at hf0
 refine yO true [(2, none)] ue 9 Tryz.func72 fun E hE => ?_
 obtain rfl := zl hf0
 exact yE ((xCl zR 8).or X0) hC hE [Ha (lnM wE s_), Ha (lnM wE s_), Hn (Int.natCast_nonneg _ : (0 : Int) ≤ ((s_.length : Nat) : Int)), Hn (Int.natCast_nonneg _ : (0 : Int) ≤ ((s_.length : Nat) : Int)), Hn (clB wE s_), Ha (clE 1 wE s_)]
def y3 : Code := (Tryz.f41.body).getD .skip
def xU : yU := spF (α := z8) (ρ := List zb × List (List z6) × Int) 41 (fun x => [yV x]) (fun r => .tup [(eSl 24 false yH) r.1, z2s r.2.1, (eI .i64) r.2.2]) (fun x => wP x) [] (Qp)
abbrev Yd (x4 : Int) (list : List zb) (steps : List (List z6)) : List (Nat × T) := [(2, .own (.box (eOs 24 true yH []))), (3, .own (.box (eOs 1 true XZ []))), (4, .own (.box (I x4))), (5, .own (.box (eOs 24 false yH list))), (7, .own (eOs 1 false wE steps))]
abbrev Yc (x_ : z8) (i_ : Int) (x42 : Int) (list2 : List zb) (at_1 : List (zb × Int)) (steps2 : List (List z6)) : List (Nat × T) := [(1, .own (.box (yV x_))), (2, .own (.box (eOs 24 true yH []))), (3, .own (.box (eOs 1 true XZ []))), (4, .own (.box (I x42))), (5, .own (.box (eOs 24 false yH list2))), (6, .own (.box (.opq (Xj (YD yH (eI .i64) at_1))))), (7, .own (eOs 1 false wE steps2)), (8, .d (I i_))]
abbrev Yb (x_ : z8) (steps1 : List (List z6)) (i_ : Int) (x43 : Int) (list3 : List zb) (at_2 : List (zb × Int)) (l_ : List z6) : List (Nat × T) := [(1, .own (.box (yV x_))), (2, .own (.box (eOs 24 true yH []))), (3, .own (.box (eOs 1 true XZ []))), (4, .own (.box (I x43))), (5, .own (.box (eOs 24 false yH list3))), (6, .own (.box (.opq (Xj (YD yH (eI .i64) at_2))))), (7, .own (eOs 1 false wE steps1)), (8, .d (I i_)), (9, .own (.box (eOs 5 false qH l_)))]
abbrev w9 (x_ : z8) (steps1 : List (List z6)) (i_ : Int) (r_2 : z8 × zb) (x44 : Int) (list4 : List zb) (at_3 : List (zb × Int)) (l_1 : List z6) : List (Nat × T) := [(1, .own (.box (yV x_))), (2, .own (.box (eOs 24 true yH []))), (3, .own (.box (eOs 1 true XZ []))), (4, .own (.box (I x44))), (5, .own (.box (eOs 24 false yH list4))), (6, .own (.box (.opq (Xj (YD yH (eI .i64) at_3))))), (7, .own (eOs 1 false wE steps1)), (8, .d (I i_)), (9, .own (.box (eOs 5 false qH l_1))), (30, .d (.fn 82 [.sptr (.agg [I r_2.1.Messages, I r_2.1.Labels, eSl 1 false (eI .i64) r_2.1.Channels, eSl 3 false wH r_2.1.Parts]), .sptr (.agg [.agg [I r_2.2.states_.e0, I r_2.2.states_.e1, I r_2.2.states_.e2, I r_2.2.states_.e3], .agg [.agg [I r_2.2.queues_.e0.many_, .agg [I r_2.2.queues_.e0.l_.e0, I r_2.2.queues_.e0.l_.e1, I r_2.2.queues_.e0.l_.e2, I r_2.2.queues_.e0.l_.e3]], .agg [I r_2.2.queues_.e1.many_, .agg [I r_2.2.queues_.e1.l_.e0, I r_2.2.queues_.e1.l_.e1, I r_2.2.queues_.e1.l_.e2, I r_2.2.queues_.e1.l_.e3]], .agg [I r_2.2.queues_.e2.many_, .agg [I r_2.2.queues_.e2.l_.e0, I r_2.2.queues_.e2.l_.e1, I r_2.2.queues_.e2.l_.e2, I r_2.2.queues_.e2.l_.e3]], .agg [I r_2.2.queues_.e3.many_, .agg [I r_2.2.queues_.e3.l_.e0, I r_2.2.queues_.e3.l_.e1, I r_2.2.queues_.e3.l_.e2, I r_2.2.queues_.e3.l_.e3]]]])]))]
abbrev Ya (x_ : z8) (steps1 : List (List z6)) (i_ : Int) (r_2 : z8 × zb) (x44 : Int) (l_1 : List z6) (x31 : za) (list5 : List zb) (at_4 : List (zb × Int)) (n_ : Int) : List (Nat × T) := [(1, .own (.box (yV x_))), (2, .own (.box (eOs 24 true yH []))), (3, .own (.box (eOs 1 true XZ []))), (4, .own (.box (I x44))), (5, .own (.box (eOs 24 false yH list5))), (6, .own (.box (.opq (Xj (YD yH (eI .i64) at_4))))), (7, .own (eOs 1 false wE steps1)), (8, .d (I i_)), (9, .own (.box (eOs 5 false qH l_1))), (10, .own (.box (xu x31))), (12, .d (I n_)), (30, .d (.fn 82 [.sptr (.agg [I r_2.1.Messages, I r_2.1.Labels, eSl 1 false (eI .i64) r_2.1.Channels, eSl 3 false wH r_2.1.Parts]), .sptr (.agg [.agg [I r_2.2.states_.e0, I r_2.2.states_.e1, I r_2.2.states_.e2, I r_2.2.states_.e3], .agg [.agg [I r_2.2.queues_.e0.many_, .agg [I r_2.2.queues_.e0.l_.e0, I r_2.2.queues_.e0.l_.e1, I r_2.2.queues_.e0.l_.e2, I r_2.2.queues_.e0.l_.e3]], .agg [I r_2.2.queues_.e1.many_, .agg [I r_2.2.queues_.e1.l_.e0, I r_2.2.queues_.e1.l_.e1, I r_2.2.queues_.e1.l_.e2, I r_2.2.queues_.e1.l_.e3]], .agg [I r_2.2.queues_.e2.many_, .agg [I r_2.2.queues_.e2.l_.e0, I r_2.2.queues_.e2.l_.e1, I r_2.2.queues_.e2.l_.e2, I r_2.2.queues_.e2.l_.e3]], .agg [I r_2.2.queues_.e3.many_, .agg [I r_2.2.queues_.e3.l_.e0, I r_2.2.queues_.e3.l_.e1, I r_2.2.queues_.e3.l_.e2, I r_2.2.queues_.e3.l_.e3]]]])]))]
abbrev Y9 (x_ : z8) (x41 : Int) (list1 : List zb) (at_ : List (zb × Int)) (steps1 : List (List z6)) (i_ : Int) : List (Nat × T) := [(1, .own (.box (yV x_))), (2, .own (.box (eOs 24 true yH []))), (3, .own (.box (eOs 1 true XZ []))), (4, .own (.box (I x41))), (5, .own (.box (eOs 24 false yH list1))), (6, .own (.box (.opq (Xj (YD yH (eI .i64) at_))))), (7, .own (eOs 1 false wE steps1)), (8, .d (I i_))]
theorem XK {ctr : Ctr} (hC : zT Tryz.prog ctr) (h0e : ctr.Has xT) (h04 : ctr.Has xw) (h08 : ctr.Has xv) (h09 : ctr.Has jA) (h0v : ctr.Has x5) : xU.Ok Tryz.prog := by
 refine y4 ?_
 rintro x_ r0 hf0
 try unfold wP at hf0
 refine yO false [(2, some 103), (3, some 32), (4, some 40)] y3 66 Tryz.func41 fun E hE => ?_
 refine yJ ((zf4 z4h 16 (YD yH (eI .i64) ([] : List (zb × Int))) (YD yH (eI .i64) (z3w ([] : List (zb × Int)) (zb.mk (zD.mk 0 0 0 0) (zD.mk (zf.mk 0 (zD.mk 0 0 0 0)) (zf.mk 0 (zD.mk 0 0 0 0)) (zf.mk 0 (zD.mk 0 0 0 0)) (zf.mk 0 (zD.mk 0 0 0 0)))) 0))).or ((zch Tryz.prog 16).or X0)) hC y3 [1,1,1] [] [2,3,4,5,7] (fun z : Int × List zb × List (List z6) => ur z.1 z.2.1 z.2.2 = some r0) (fun z => Yd z.1 z.2.1 z.2.2) [(1, .own (.box (yV x_))), (2, .own (.box (eOs 24 true yH []))), (3, .own (.box (eOs 1 true XZ []))), (4, .own (.box (I 0))), (5, .own (.box (eOs 24 true yH ([(zb.mk (zD.mk 0 0 0 0) (zD.mk (zf.mk 0 (zD.mk 0 0 0 0)) (zf.mk 0 (zD.mk 0 0 0 0)) (zf.mk 0 (zD.mk 0 0 0 0)) (zf.mk 0 (zD.mk 0 0 0 0))))])))), (6, .own (.box (.opq (Xj (YD yH (eI .i64) (z3w ([] : List (zb × Int)) (zb.mk (zD.mk 0 0 0 0) (zD.mk (zf.mk 0 (zD.mk 0 0 0 0)) (zf.mk 0 (zD.mk 0 0 0 0)) (zf.mk 0 (zD.mk 0 0 0 0)) (zf.mk 0 (zD.mk 0 0 0 0)))) 0)))))), (7, .own (eOs 1 true XZ []))] [Hn (⟨rfl, rfl, rfl, rfl, z4J (fun _ => rfl) ([] : List (zb × Int))⟩ : T.own (.opq (Xj (YD yH (eI .i64) ([] : List (zb × Int))))) = T.own (.opq (Xj (YD yH (eI .i64) ([] : List (zb × Int))))) ∧ 1 = 1 ∧ (JJ [.i64, .i64, .i64, .i64, .i64, .i64, .i64, .i64, .i64, .i64, .i64, .i64, .i64, .i64, .i64, .i64, .i64, .i64, .i64, .i64, .i64, .i64, .i64, .i64]) (yH (zb.mk (zD.mk 0 0 0 0) (zD.mk (zf.mk 0 (zD.mk 0 0 0 0)) (zf.mk 0 (zD.mk 0 0 0 0)) (zf.mk 0 (zD.mk 0 0 0 0)) (zf.mk 0 (zD.mk 0 0 0 0))))) = true ∧ ((eI .i64) 0).isD = true ∧ ∀ p ∈ YD yH (eI .i64) ([] : List (zb × Int)), (JJ [.i64, .i64, .i64, .i64, .i64, .i64, .i64, .i64, .i64, .i64, .i64, .i64, .i64, .i64, .i64, .i64, .i64, .i64, .i64, .i64, .i64, .i64, .i64, .i64]) p.1 = true), Hn (z3Z (f := yH) (g := (eI .i64)) (zb.mk (zD.mk 0 0 0 0) (zD.mk (zf.mk 0 (zD.mk 0 0 0 0)) (zf.mk 0 (zD.mk 0 0 0 0)) (zf.mk 0 (zD.mk 0 0 0 0)) (zf.mk 0 (zD.mk 0 0 0 0)))) 0 ([] : List (zb × Int))), Hh (.cut 3)] ?_ fun J1 hJ1 => ?_
 ·rintro ⟨x4, list, steps⟩ hf0
  unfold ur at hf0
  obtain ⟨r_, h0, hf0⟩ := zo hf0
  obtain rfl := zl hf0
  exact yE ((K9 zR (ug hC) 65).or X0) hC hE [Hh (.g [true]), Hn ua, Hx (.a ((eOs 1 true wE) r_)) (u9 steps _ h0), Hm (shM yH yH list), Hm (shM wE wE r_)]
 ·obtain ⟨t2, ht2, hf0⟩ := zo hf0
  refine yLx X0 hC y3 [1,1,1,2,1,0] [J1] (fun s => uo x_ s.1 s.2.1 s.2.2.1 s.2.2.2.1 s.2.2.2.2) (fun x => Y9 x_ x.1 x.2.1 x.2.2.1 x.2.2.2.1 x.2.2.2.2) (0, ([(zb.mk (zD.mk 0 0 0 0) (zD.mk (zf.mk 0 (zD.mk 0 0 0 0)) (zf.mk 0 (zD.mk 0 0 0 0)) (zf.mk 0 (zD.mk 0 0 0 0)) (zf.mk 0 (zD.mk 0 0 0 0))))] : List zb), (z3w ([] : List (zb × Int)) (zb.mk (zD.mk 0 0 0 0) (zD.mk (zf.mk 0 (zD.mk 0 0 0 0)) (zf.mk 0 (zD.mk 0 0 0 0)) (zf.mk 0 (zD.mk 0 0 0 0)) (zf.mk 0 (zD.mk 0 0 0 0)))) 0), ([] : List (List z6)), 0) ht2 [(1, .own (.box (yV x_))), (2, .own (.box (eOs 24 true yH []))), (3, .own (.box (eOs 1 true XZ []))), (4, .own (.box (I 0))), (5, .own (.box (eOs 24 true yH ([(zb.mk (zD.mk 0 0 0 0) (zD.mk (zf.mk 0 (zD.mk 0 0 0 0)) (zf.mk 0 (zD.mk 0 0 0 0)) (zf.mk 0 (zD.mk 0 0 0 0)) (zf.mk 0 (zD.mk 0 0 0 0))))])))), (6, .own (.box (.opq (Xj (YD yH (eI .i64) (z3w ([] : List (zb × Int)) (zb.mk (zD.mk 0 0 0 0) (zD.mk (zf.mk 0 (zD.mk 0 0 0 0)) (zf.mk 0 (zD.mk 0 0 0 0)) (zf.mk 0 (zD.mk 0 0 0 0)) (zf.mk 0 (zD.mk 0 0 0 0)))) 0)))))), (7, .own (eOs 1 true wE [])), (8, .d (I 0))] inferInstance [] ?_
  rintro ⟨x41, list1, at_, steps1, i_⟩ m2 lr1 hf1 hl1 J2 hJ2
  try unfold uo at hf1
  let Z0 : List HO := [Ha (lnM yH list1)]
  rcases zZ hf1 with ⟨c0, hf1⟩ | ⟨c0, hf1⟩
  ·refine yJ X0 hC y3 [1,1,1,2,1,0,0,1] [J1, J2] [1,2,3,4,5,6,7,8] (fun z : Int × List zb × (List (zb × Int)) × List (List z6) => uq i_ z.1 z.2.1 z.2.2.1 z.2.2.2 = some lr1) (fun z => Yc x_ i_ z.1 z.2.1 z.2.2.1 z.2.2.2) [(1, .own (.box (yV x_))), (2, .own (.box (eOs 24 true yH []))), (3, .own (.box (eOs 1 true XZ []))), (4, .own (.box (I x41))), (5, .own (.box (eOs 24 false yH list1))), (6, .own (.box (.opq (Xj (YD yH (eI .i64) at_))))), (7, .own (eOs 1 false wE steps1)), (8, .d (I i_))] (Z0 ++ [Hq c0, Hh (.cut 0)]) ?_ fun J3 hJ3 => ?_
   ·rintro ⟨x42, list2, at_1, steps2⟩ hf1
    unfold uq at hf1
    obtain rfl := zl hf1
    exact yB X0 hC hJ2 (x42, list2, at_1, steps2, w64 (i_ + 1)) hl1 []
   ·refine yJ X0 hC y3 [1,1,1,2,1,0,0,1,2,0,1] [J1, J2, J3] [1,2,3,4,5,6,7,8,9] (fun z : Int × List zb × (List (zb × Int)) × List z6 => up steps1 i_ z.1 z.2.1 z.2.2.1 z.2.2.2 = some lr1) (fun z => Yb x_ steps1 i_ z.1 z.2.1 z.2.2.1 z.2.2.2) [(1, .own (.box (yV x_))), (2, .own (.box (eOs 24 true yH []))), (3, .own (.box (eOs 1 true XZ []))), (4, .own (.box (I x41))), (5, .own (.box (eOs 24 false yH list1))), (6, .own (.box (.opq (Xj (YD yH (eI .i64) at_))))), (7, .own (eOs 1 false wE steps1)), (8, .d (I i_)), (9, .own (.box (eOs 5 true qH [])))] [Hh (.cut 1)] ?_ fun J4 hJ4 => ?_
    ·rintro ⟨x43, list3, at_2, l_⟩ hf1
     unfold up at hf1
     obtain ⟨r_1, h1, hf1⟩ := zo hf1
     obtain ⟨g0, hf1⟩ := gdE hf1
     exact yB X0 hC hJ3 (x43, list3, at_2, (steps1 ++ ([r_1] : List (List z6)))) hf1 [Hg (z1v h0v), Hm (shM qH qH l_), Hs (z1w h0v (x := l_) h1 (loC XZ l_ <| loN)), Hm (shM qH qH l_), Hq (dM wE ([r_1] : List (List z6))), Hn (dM wE ([r_1] : List (List z6))), Hn (aL wE wE g0), Hl (aM wE steps1 ([r_1] : List (List z6)))]
    ·obtain ⟨list_e, h2, hf1⟩ := zo hf1
     obtain ⟨r_2, h3, hf1⟩ := zo hf1
     obtain ⟨t5, ht5, hf1⟩ := zo hf1
     refine yAt X0 hC (sub [1,1,1,2,1,0,0,1,2,0,1,2,1,0] y3) (frs [1,1,1,2,1,0,0,1,2,0,1,2,1,0] [J1, J2, J3, J4] y3 []) [(1, .own (.box (yV x_))), (2, .own (.box (eOs 24 true yH []))), (3, .own (.box (eOs 1 true XZ []))), (4, .own (.box (I x41))), (5, .own (.box (eOs 24 false yH list1))), (6, .own (.box (.opq (Xj (YD yH (eI .i64) at_))))), (7, .own (eOs 1 false wE steps1)), (8, .d (I i_)), (9, .own (.box (eOs 5 true qH []))), (30, .d (.fn 82 [.sptr (.agg [I r_2.1.Messages, I r_2.1.Labels, eSl 1 false (eI .i64) r_2.1.Channels, eSl 3 false wH r_2.1.Parts]), .sptr (.agg [.agg [I r_2.2.states_.e0, I r_2.2.states_.e1, I r_2.2.states_.e2, I r_2.2.states_.e3], .agg [.agg [I r_2.2.queues_.e0.many_, .agg [I r_2.2.queues_.e0.l_.e0, I r_2.2.queues_.e0.l_.e1, I r_2.2.queues_.e0.l_.e2, I r_2.2.queues_.e0.l_.e3]], .agg [I r_2.2.queues_.e1.many_, .agg [I r_2.2.queues_.e1.l_.e0, I r_2.2.queues_.e1.l_.e1, I r_2.2.queues_.e1.l_.e2, I r_2.2.queues_.e1.l_.e3]], .agg [I r_2.2.queues_.e2.many_, .agg [I r_2.2.queues_.e2.l_.e0, I r_2.2.queues_.e2.l_.e1, I r_2.2.queues_.e2.l_.e2, I r_2.2.queues_.e2.l_.e3]], .agg [I r_2.2.queues_.e3.many_, .agg [I r_2.2.queues_.e3.l_.e0, I r_2.2.queues_.e3.l_.e1, I r_2.2.queues_.e3.l_.e2, I r_2.2.queues_.e3.l_.e3]]]])]))] [Hn (iL yH h2), Hs (iM yH h2), Hc h0e (x := (x_, list_e)) h3 (loC yV x_ <| loC yH list_e <| loN)] fun st0 h0 => ?_
     refine K4 (g := .tmp 30) (ps := [31,32]) (assign := (sub [1,1,1,2,1,0,0,1,2,0,1,2,1,0,0] y3)) (body := (sub [1,1,1,2,1,0,0,1,2,0,1,2,1,0,1] y3)) (K := 82) (caps := [.sptr (.agg [I r_2.1.Messages, I r_2.1.Labels, eSl 1 false (eI .i64) r_2.1.Channels, eSl 3 false wH r_2.1.Parts]), .sptr (.agg [.agg [I r_2.2.states_.e0, I r_2.2.states_.e1, I r_2.2.states_.e2, I r_2.2.states_.e3], .agg [.agg [I r_2.2.queues_.e0.many_, .agg [I r_2.2.queues_.e0.l_.e0, I r_2.2.queues_.e0.l_.e1, I r_2.2.queues_.e0.l_.e2, I r_2.2.queues_.e0.l_.e3]], .agg [I r_2.2.queues_.e1.many_, .agg [I r_2.2.queues_.e1.l_.e0, I r_2.2.queues_.e1.l_.e1, I r_2.2.queues_.e1.l_.e2, I r_2.2.queues_.e1.l_.e3]], .agg [I r_2.2.queues_.e2.many_, .agg [I r_2.2.queues_.e2.l_.e0, I r_2.2.queues_.e2.l_.e1, I r_2.2.queues_.e2.l_.e2, I r_2.2.queues_.e2.l_.e3]], .agg [I r_2.2.queues_.e3.many_, .agg [I r_2.2.queues_.e3.l_.e0, I r_2.2.queues_.e3.l_.e1, I r_2.2.queues_.e3.l_.e2, I r_2.2.queues_.e3.l_.e3]]]])]) (by kernel_rfl) [1,2,3,4,5,6,7,8,9,30] (fun s => w9 x_ steps1 i_ r_2 s.1 s.2.1 s.2.2.1 s.2.2.2) (fun s => w9 x_ steps1 i_ r_2 s.1 s.2.1 s.2.2.1 s.2.2.2) (fun s => Code.ret) ((fun (x : za × zb) (_ : Bool) (_ : Value) => [xu x.1, yH x.2])) (F := @y6 r_2.1 r_2.2) (fun s x => wU s.1 s.2.1 s.2.2.1 s.2.2.2 x.1 x.2) (x41, list1, at_, ([] : List z6)) t5 _ h0 inferInstance (by kernel_rfl) (by decide) (fun _ => rfl) (fun _ => rfl) (by kernel_rfl) (fun _ _ _ => rfl) (vX hC h04 h08 h09 r_2.1 r_2.2) ht5 ?_ ?_
     ·rintro tv5 ⟨x44, list4, at_3, l_1⟩ ⟨x31, x32⟩ vr lr2 hf2
      replace hf2 : wU x44 list4 at_3 l_1 x31 x32 = some lr2 := hf2
      unfold wU at hf2
      refine yF X0 hC .normal [(1, .own (.box (yV x_))), (2, .own (.box (eOs 24 true yH []))), (3, .own (.box (eOs 1 true XZ []))), (4, .own (.box (I x44))), (5, .own (.box (eOs 24 false yH list4))), (6, .own (.box (.opq (Xj (YD yH (eI .i64) at_3))))), (7, .own (eOs 1 false wE steps1)), (8, .d (I i_)), (9, .own (.box (eOs 5 false qH l_1))), (10, .own (.box (xu x31))), (11, .own (.box (yH x32))), (30, .d (.fn 82 [.sptr (.agg [I r_2.1.Messages, I r_2.1.Labels, eSl 1 false (eI .i64) r_2.1.Channels, eSl 3 false wH r_2.1.Parts]), .sptr (.agg [.agg [I r_2.2.states_.e0, I r_2.2.states_.e1, I r_2.2.states_.e2, I r_2.2.states_.e3], .agg [.agg [I r_2.2.queues_.e0.many_, .agg [I r_2.2.queues_.e0.l_.e0, I r_2.2.queues_.e0.l_.e1, I r_2.2.queues_.e0.l_.e2, I r_2.2.queues_.e0.l_.e3]], .agg [I r_2.2.queues_.e1.many_, .agg [I r_2.2.queues_.e1.l_.e0, I r_2.2.queues_.e1.l_.e1, I r_2.2.queues_.e1.l_.e2, I r_2.2.queues_.e1.l_.e3]], .agg [I r_2.2.queues_.e2.many_, .agg [I r_2.2.queues_.e2.l_.e0, I r_2.2.queues_.e2.l_.e1, I r_2.2.queues_.e2.l_.e2, I r_2.2.queues_.e2.l_.e3]], .agg [I r_2.2.queues_.e3.many_, .agg [I r_2.2.queues_.e3.l_.e0, I r_2.2.queues_.e3.l_.e1, I r_2.2.queues_.e3.l_.e2, I r_2.2.queues_.e3.l_.e3]]]])]))] [] fun st0 h0 => ⟨rfl, z0q h0 ?_⟩
      obtain ⟨val, h4, hf2⟩ := zo hf2
      replace h4 := zl h4
      refine yJ ((zci z4h 36 (YD yH (eI .i64) at_3)).or X0) hC y3 [1,1,1,2,1,0,0,1,2,0,1,2,1,0,1,0,1] [J1, J2, J3, J4] [1,2,3,4,5,6,7,8,9,10,12,30] (fun z : List zb × (List (zb × Int)) × Int => wT x44 l_1 x31 z.1 z.2.1 z.2.2 = some lr2) (fun z => Ya x_ steps1 i_ r_2 x44 l_1 x31 z.1 z.2.1 z.2.2) [(1, .own (.box (yV x_))), (2, .own (.box (eOs 24 true yH []))), (3, .own (.box (eOs 1 true XZ []))), (4, .own (.box (I x44))), (5, .own (.box (eOs 24 false yH list4))), (6, .own (.box (.opq (Xj (YD yH (eI .i64) at_3))))), (7, .own (eOs 1 false wE steps1)), (8, .d (I i_)), (9, .own (.box (eOs 5 false qH l_1))), (10, .own (.box (xu x31))), (11, .own (.box (yH x32))), (12, .d (I val)), (13, .d (B ((z3x at_3 x32).isSome))), (30, .d (.fn 82 [.sptr (.agg [I r_2.1.Messages, I r_2.1.Labels, eSl 1 false (eI .i64) r_2.1.Channels, eSl 3 false wH r_2.1.Parts]), .sptr (.agg [.agg [I r_2.2.states_.e0, I r_2.2.states_.e1, I r_2.2.states_.e2, I r_2.2.states_.e3], .agg [.agg [I r_2.2.queues_.e0.many_, .agg [I r_2.2.queues_.e0.l_.e0, I r_2.2.queues_.e0.l_.e1, I r_2.2.queues_.e0.l_.e2, I r_2.2.queues_.e0.l_.e3]], .agg [I r_2.2.queues_.e1.many_, .agg [I r_2.2.queues_.e1.l_.e0, I r_2.2.queues_.e1.l_.e1, I r_2.2.queues_.e1.l_.e2, I r_2.2.queues_.e1.l_.e3]], .agg [I r_2.2.queues_.e2.many_, .agg [I r_2.2.queues_.e2.l_.e0, I r_2.2.queues_.e2.l_.e1, I r_2.2.queues_.e2.l_.e2, I r_2.2.queues_.e2.l_.e3]], .agg [I r_2.2.queues_.e3.many_, .agg [I r_2.2.queues_.e3.l_.e0, I r_2.2.queues_.e3.l_.e1, I r_2.2.queues_.e3.l_.e2, I r_2.2.queues_.e3.l_.e3]]]])]))] [Hn (⟨rfl, rfl, z4J (fun _ => rfl) at_3⟩ : A.opq (Xj (YD yH (eI .i64) at_3)) = A.opq (Xj (YD yH (eI .i64) at_3)) ∧ (JJ [.i64, .i64, .i64, .i64, .i64, .i64, .i64, .i64, .i64, .i64, .i64, .i64, .i64, .i64, .i64, .i64, .i64, .i64, .i64, .i64, .i64, .i64, .i64, .i64]) (yH x32) = true ∧ ∀ p ∈ YD yH (eI .i64) at_3, (JJ [.i64, .i64, .i64, .i64, .i64, .i64, .i64, .i64, .i64, .i64, .i64, .i64, .i64, .i64, .i64, .i64, .i64, .i64, .i64, .i64, .i64, .i64, .i64, .i64]) p.1 = true), Hx (.a (.tup [I val, B ((z3x at_3 x32).isSome)])) ((zfM (f := yH) (g := (eI .i64)) (z0 := 0) (z := .atom (.int .i64 0)) rfl x32 at_3).trans (congrArg (fun x => A.tup [(eI .i64) x, .atom (.bool (z3x at_3 x32).isSome)]) h4)), Hh (.cut 0)] ?_ fun J6 hJ6 => ?_
      ·rintro ⟨list5, at_4, n_⟩ hf2
       unfold wT at hf2
       obtain ⟨g1, hf2⟩ := gdE hf2
       obtain rfl := zl hf2
       exact yF X0 hC .normal (w9 x_ steps1 i_ r_2 x44 list5 at_4 (l_1 ++ ([(z6.mk x31 n_)] : List z6))) [Hq (dM qH ([(z6.mk x31 n_)] : List z6)), Hn (dM qH ([(z6.mk x31 n_)] : List z6)), Hn (aL qH qH g1), Hl (aM qH l_1 ([(z6.mk x31 n_)] : List z6))] fun st0 h0 => ⟨rfl, _, h0, LeL.refl _⟩
      ·rcases zZ hf2 with ⟨c1, hf2⟩ | ⟨c1, hf2⟩
       ·let Z1 : List HO := [Hq c1, Ha (lnM yH list4)]
        rcases zZ hf2 with ⟨c2, hf2⟩ | ⟨c2, hf2⟩
        ·obtain rfl := zl hf2
         exact yF X0 hC .ret (w9 x_ steps1 i_ r_2 3 list4 at_3 l_1) (Z1 ++ [Hq c2]) fun st0 h0 => ⟨rfl, _, h0, LeL.refl _⟩
        ·obtain ⟨g2, hf2⟩ := gdE hf2
         exact yB ((zcf z4h 45 (YD yH (eI .i64) at_3) (YD yH (eI .i64) (z3w at_3 x32 ((list4.length : Nat) : Int)))).or X0) hC hJ6 ((list4 ++ ([x32] : List zb)), (z3w at_3 x32 ((list4.length : Nat) : Int)), ((list4.length : Nat) : Int)) hf2 (Z1 ++ [Hq c2, Hq (dM yH ([x32] : List zb)), Hn (dM yH ([x32] : List zb)), Hn (aL yH yH g2), Hl (aM yH list4 ([x32] : List zb)), Hn (⟨rfl, ⟨rfl, rfl⟩, rfl, rfl, z4J (fun _ => rfl) at_3⟩ : T.own (.box (.opq (Xj (YD yH (eI .i64) at_3)))) = T.own (.box (.opq (Xj (YD yH (eI .i64) at_3)))) ∧ (0 = 0 ∧ 0 = 0) ∧ (JJ [.i64, .i64, .i64, .i64, .i64, .i64, .i64, .i64, .i64, .i64, .i64, .i64, .i64, .i64, .i64, .i64, .i64, .i64, .i64, .i64, .i64, .i64, .i64, .i64]) (yH x32) = true ∧ ((eI .i64) ((list4.length : Nat) : Int)).isD = true ∧ ∀ p ∈ YD yH (eI .i64) at_3, (JJ [.i64, .i64, .i64, .i64, .i64, .i64, .i64, .i64, .i64, .i64, .i64, .i64, .i64, .i64, .i64, .i64, .i64, .i64, .i64, .i64, .i64, .i64, .i64, .i64]) p.1 = true), Hn (z3Z (f := yH) (g := (eI .i64)) x32 ((list4.length : Nat) : Int) at_3)])
       ·exact yB X0 hC hJ6 (list4, at_3, val) hf2 [Hq c1]
     ·rcases t5 with ⟨x44, list4, at_3, l_1⟩ | z
      ·dsimp only at hf1
       exact YV (by kernel_rfl) (hJ4 _ [(1, .own (.box (yV x_))), (2, .own (.box (eOs 24 true yH []))), (3, .own (.box (eOs 1 true XZ []))), (4, .own (.box (I x44))), (5, .own (.box (eOs 24 false yH list4))), (6, .own (.box (.opq (Xj (YD yH (eI .i64) at_3))))), (7, .own (eOs 1 false wE steps1)), (8, .d (I i_)), (9, .own (.box (eOs 5 false qH l_1)))] (x44, list4, at_3, l_1) hf1 (show Own.canon [1,2,3,4,5,6,7,8,9] _ = ofL _ by kernel_rfl) inferInstance)
      ·obtain ⟨x44, list4, at_3, l_1⟩ := z
       dsimp only at hf1
       show AWP _ _ (Code.ret) _ _
       obtain rfl := zl hf1
       obtain rfl := hl1
       obtain rfl := zl hf0
       exact yEx X0 hC hE [Hm (shM yH yH []), Hm (shM XZ XZ [])] (.tup [eSl 24 true yH [], eSl 1 true wE [], I x44]) (show LeV (.tup [eSl 24 true yH [], eSl 1 true wE [], I x44]) (.tup [eSl 24 false yH ([] : List zb), eSl 1 true wE ([] : List (List z6)), I x44]) from inferInstance)
  ·obtain rfl := zl hf1
   obtain rfl := hl1
   exact yB X0 hC hJ1 (x41, list1, steps1) hf0 (Z0 ++ [Hq c0])
def uj : Code := (Tryz.f69.body).getD .skip
def yP : yU := spF (α := List z7) (ρ := List z7) 69 (fun x => [z9b x]) (fun r => z5h r) (fun x => yZ x) [] (Qp)
theorem ul {ctr : Ctr} (hC : zT Tryz.prog ctr) : yP.Ok Tryz.prog := by
 refine y4 ?_
 rintro s_ r0 hf0
 try unfold yZ at hf0
 refine yO true [(2, none)] uj 9 Tryz.func69 fun E hE => ?_
 obtain ⟨g0, hf0⟩ := gdE hf0
 obtain rfl := zl hf0
 exact yE X0 hC hE [Ha (lnM xh s_), Ha (lnM xh s_), Hn (slB g0), Hn (slC g0), Hn (z3i xh g0), Ha (z9e 2 xh s_ 0 ((s_.length : Nat) : Int).toNat)]
def Zl : Code := (Tryz.f30.body).getD .skip
def Ze : yU := spF (α := z8) (ρ := List z7 × List (List z6) × Int) 30 (fun x => [yV x]) (fun r => .tup [z5h r.1, z2s r.2.1, (eI .i64) r.2.2]) (fun x => Zp x) [] (Qp)
abbrev Vp (r_1 : List zb × List (List z6) × Int) (out : List z7) : List (Nat × T) := [(7, .d (eSl 1 true wE r_1.2.1)), (9, .own (eOs 2 false Kj out))]
abbrev Vo (x_ : z8) (r_1 : List zb × List (List z6) × Int) (out1 : List z7) (x28 : Int) : List (Nat × T) := [(1, .own (.box (yV x_))), (7, .d (eSl 1 true wE r_1.2.1)), (9, .own (eOs 2 false Kj out1)), (26, .d (eSl 24 false yH r_1.1)), (27, .d (I ((r_1.1.length : Nat) : Int))), (28, .d (I x28))]
theorem Jb {ctr : Ctr} (hC : zT Tryz.prog ctr) (h07 : ctr.Has vg) (h0h : ctr.Has xU) (h0g : ctr.Has xI) (h0w : ctr.Has yP) : Ze.Ok Tryz.prog := by
 refine y4 ?_
 rintro x_ r0 hf0
 try unfold Zp at hf0
 refine yO false [(2, none), (3, none), (4, none)] Zl 42 Tryz.func30 fun E hE => ?_
 obtain ⟨r_, h0, hf0⟩ := zo hf0
 let Z0 : List HO := [Hc h07 (x := x_) h0 (loC yV x_ <| loN)]
 rcases zZ hf0 with ⟨c0, hf0⟩ | ⟨c0, hf0⟩
 ·obtain rfl := zl hf0
  exact yEx X0 hC hE (Z0 ++ [Hq c0, Hm (shM xh xh []), Hm (shM XZ XZ [])]) (.tup [eSl 2 true xh [], eSl 1 true wE [], I r_]) (show LeV (.tup [eSl 2 true xh [], eSl 1 true wE [], I r_]) (.tup [eSl 2 true xh ([] : List z7), eSl 1 true wE ([] : List (List z6)), I r_]) from inferInstance)
 ·obtain ⟨r_1, h1, hf0⟩ := zo hf0
  let Z1 : List HO := (Z0 ++ [Hq c0, Hc h0h (x := x_) h1 (loC yV x_ <| loN)])
  rcases zZ hf0 with ⟨c1, hf0⟩ | ⟨c1, hf0⟩
  ·obtain rfl := zl hf0
   exact yEx X0 hC hE (Z1 ++ [Hq c1, Hm (shM xh xh []), Hm (shM XZ XZ [])]) (.tup [eSl 2 true xh [], eSl 1 true wE [], I r_1.2.2]) (show LeV (.tup [eSl 2 true xh [], eSl 1 true wE [], I r_1.2.2]) (.tup [eSl 2 true xh ([] : List z7), eSl 1 true wE ([] : List (List z6)), I r_1.2.2]) from inferInstance)
  ·refine yJ X0 hC Zl [1,1,1,1,1] [] [7,9] (fun z : List z7 => Za r_1 z = some r0) (fun z => Vp r_1 z) [(1, .own (.box (yV x_))), (6, .d (eSl 24 false yH r_1.1)), (7, .d (eSl 1 true wE r_1.2.1)), (9, .own (eOs 2 true xh []))] (Z1 ++ [Hq c1, Hh (.cut 1)]) ?_ fun J1 hJ1 => ?_
   ·rintro out hf0
    unfold Za at hf0
    obtain ⟨r_2, h2, hf0⟩ := zo hf0
    obtain rfl := zl hf0
    exact yE X0 hC hE [Hg (z1v h0w), Hm (shM Kj Kj out), Hs (z1w h0w (x := out) h2 (loC (eSl 2 false Kj) out <| loN)), Hm (shM Kj Kj out)]
   ·obtain ⟨t2, ht2, hf0⟩ := zo hf0
    refine yLx X0 hC Zl [1,1,1,1,1,2,1,0] [J1] (fun s => kZ x_ r_1 s.1 s.2) (fun x => Vo x_ r_1 x.1 x.2) (([] : List z7), 0) ht2 [(1, .own (.box (yV x_))), (7, .d (eSl 1 true wE r_1.2.1)), (9, .own (eOs 2 true Kj [])), (26, .d (eSl 24 false yH r_1.1)), (27, .d (I ((r_1.1.length : Nat) : Int))), (28, .d (I 0))] inferInstance [Ha (lnM yH r_1.1)] ?_
    rintro ⟨out1, x28⟩ m2 lr1 hf1 hl1 J2 hJ2
    try unfold kZ at hf1
    rcases zZ hf1 with ⟨c2, hf1⟩ | ⟨c2, hf1⟩
    ·obtain ⟨u_, h3, hf1⟩ := zo hf1
     obtain ⟨r_3, h4, hf1⟩ := zo hf1
     obtain ⟨g0, hf1⟩ := gdE hf1
     obtain rfl := zl hf1
     exact yB X0 hC hJ2 ((out1 ++ ([r_3] : List z7)), w64 (x28 + 1)) hl1 [Hq c2, Hi yH h3, Hc h0g (x := (x_, u_)) h4 (loC yV x_ <| loC yH u_ <| loN), Hq (dM Kj ([r_3] : List z7)), Hn (dM Kj ([r_3] : List z7)), Hn (aL Kj Kj g0), Hl (aM Kj out1 ([r_3] : List z7))]
    ·obtain rfl := zl hf1
     obtain rfl := hl1
     exact yB X0 hC hJ1 out1 hf0 [Hq c2]
def K2 : Code := (Tryz.f38.body).getD .skip
def ZF : yU := spF (α := Int × Int × List Int) (ρ := z7) 38 (fun x => [(eI .i64) x.1, (eI .i64) x.2.1, F2_ x.2.2]) (fun r => z7x r) (fun x => vC x.1 x.2.1 x.2.2) [] (z9j)
theorem Kb {ctr : Ctr} (hC : zT Tryz.prog ctr) : ZF.Ok Tryz.prog := by
 refine y4 ?_
 rintro ⟨a_, b_, queue⟩ r0 hf0
 try unfold vC at hf0
 refine yO false [(6, some 39)] K2 13 Tryz.func38 fun E hE => ?_
 obtain rfl := zl hf0
 exact yE X0 hC hE [Hm (shM (eI .i64) (eI .i64) ([a_, b_])), Hm (shM F2_ F2_ ([queue]))]
def z0p : Code := (Tryz.f39.body).getD .skip
def Xa : yU := spF (α := Int × Int) (ρ := za) 39 (fun x => [(eI .i64) x.1, (eI .i64) x.2]) (fun r => xu r) (fun x => uW x.1 x.2) [] (Uu)
theorem z0H {ctr : Ctr} (hC : zT Tryz.prog ctr) : Xa.Ok Tryz.prog := by
 refine y4 ?_
 rintro ⟨part, arc⟩ r0 hf0
 try unfold uW at hf0
 refine yO false [(4, some 65)] z0p 8 Tryz.func39 fun E hE => ?_
 obtain rfl := zl hf0
 exact yE X0 hC hE []
def vN : Code := (Tryz.f40.body).getD .skip
def Yr : yU := spF (α := List z7 × List (List z6) × List z7 × List (List z6)) (ρ := Int) 40 (fun x => [z5h x.1, z2s x.2.1, z9b x.2.2.1, z9p x.2.2.2]) (fun r => (eI .i64) r) (fun x => Xl x.1 x.2.1 x.2.2.1 x.2.2.2) [] (zeG)
abbrev UZ : List (Nat × T) := []
abbrev UY (s_ : List (List z6)) (steps : List (List z6)) (i_ : Int) (x74 : List z6) (x75 : List z6) (x76 : Int) (x79 : List z6) (x80 : List z6) (x81 : Int) (x82 : Bool) : List (Nat × T) := [(1, .d (eSl 1 true wE s_)), (3, .d (eSl 1 false XZ steps)), (10, .d (I i_)), (72, .d (eSl 1 true wE s_)), (73, .d (I i_)), (74, .d (.sptr (eSl 5 true qH x74))), (75, .d (eSl 5 true qH x75)), (76, .d (I x76)), (77, .d (eSl 1 true wE s_)), (78, .d (I i_)), (79, .d (.sptr (eSl 5 true qH x79))), (80, .d (eSl 5 true qH x80)), (81, .d (I x81)), (82, .d (B x82))]
abbrev UW (s_ : List (List z6)) (steps : List (List z6)) (i_ : Int) (s__e1 : List z6) (s__e2 : List z6) (k_ : Int) : List (Nat × T) := [(1, .d (eSl 1 true wE s_)), (3, .d (eSl 1 false XZ steps)), (10, .d (I i_)), (11, .d (I k_)), (72, .d (eSl 1 true wE s_)), (73, .d (I i_)), (74, .d (.sptr (eSl 5 true qH s__e1))), (75, .d (eSl 5 true qH s__e1)), (76, .d (I ((s__e1.length : Nat) : Int))), (77, .d (eSl 1 true wE s_)), (78, .d (I i_)), (79, .d (.sptr (eSl 5 true qH s__e2))), (80, .d (eSl 5 true qH s__e2)), (81, .d (I ((s__e2.length : Nat) : Int))), (82, .d (B (((s__e1.length : Nat) : Int) != ((s__e2.length : Nat) : Int))))]
abbrev UX (s_ : List (List z6)) (steps : List (List z6)) (i_ : Int) : List (Nat × T) := [(1, .d (eSl 1 true wE s_)), (3, .d (eSl 1 false XZ steps)), (10, .d (I i_))]
abbrev Q0 (s_ : List (List z6)) (steps : List (List z6)) : List (Nat × T) := [(1, .d (eSl 1 true wE s_)), (3, .d (eSl 1 false XZ steps))]
abbrev UV (c_ : List z7) (s_ : List (List z6)) (list : List z7) (steps : List (List z6)) (i_1 : Int) : List (Nat × T) := [(0, .d (eSl 2 true xh c_)), (1, .d (eSl 1 true wE s_)), (2, .d (eSl 2 false xh list)), (3, .d (eSl 1 false XZ steps)), (9, .d (I i_1))]
theorem KU {ctr : Ctr} (hC : zT Tryz.prog ctr) (h06 : ctr.Has qN) : Yr.Ok Tryz.prog := by
 refine y4 ?_
 rintro ⟨c_, s_, list, steps⟩ r0 hf0
 try unfold Xl at hf0
 refine yO true [(8, none)] vN 108 Tryz.func40 fun E hE => ?_
 let Z0 : List HO := [Ha (lnM xh c_), Ha (lnM xh list)]
 rcases zZ hf0 with ⟨c0, hf0⟩ | ⟨c0, hf0⟩
 ·obtain rfl := zl hf0
  exact yE X0 hC hE (Z0 ++ (rpN 6 (Hq c0) (rpN 13 qT [])))
 ·let Z1 : List HO := (Z0 ++ [Hq c0, Hq c0, Ha (lnM wE s_), Hq c0, Hq c0, Ha (lnM XZ steps), Hq c0, Hq c0])
  rcases zZ hf0 with ⟨c1, hf0⟩ | ⟨c1, hf0⟩
  ·obtain rfl := zl hf0
   exact yE X0 hC hE (Z1 ++ (rpN 6 (Hq c1) (rpN 7 qT [])))
  ·let Z2 : List HO := (Z1 ++ [Hq c1, Hq c1, Ha (lnM xh c_), Hq c1, Hq c1, Ha (lnM xh c_), Hq c1, Hq c1])
   rcases zZ hf0 with ⟨c2, hf0⟩ | ⟨c2, hf0⟩
   ·obtain rfl := zl hf0
    exact yE X0 hC hE (Z2 ++ (rpN 6 (Hq c2) [qT]))
   ·let Z3 : List HO := (Z2 ++ [Hq c2, Hq c2, Ha (lnM wE s_), Hq c2, Hq c2, Ha (lnM wE s_), Hq c2, Hq c2])
    rcases zZ hf0 with ⟨c3, hf0⟩ | ⟨c3, hf0⟩
    ·obtain rfl := zl hf0
     exact yE X0 hC hE (Z3 ++ [Hq c3])
    ·refine yJ X0 hC vN [1,1] [] [1,3] (fun z : Unit => YC s_ steps = some r0) (fun z => Q0 s_ steps) [(0, .d (eSl 2 true xh c_)), (1, .d (eSl 1 true wE s_)), (2, .d (eSl 2 false xh list)), (3, .d (eSl 1 false XZ steps))] (Z3 ++ [Hq c3, Hh (.cut 0)]) ?_ fun J1 hJ1 => ?_
     ·rintro ⟨⟩ hf0
      unfold YC at hf0
      refine yJ X0 hC vN [1,1,1] [] [] (fun z : Unit => YB = some r0) (fun z => UZ) [(1, .d (eSl 1 true wE s_)), (3, .d (eSl 1 false XZ steps))] [Hh (.cut 0)] ?_ fun J2 hJ2 => ?_
      ·rintro ⟨⟩ hf0
       unfold YB at hf0
       obtain rfl := zl hf0
       exact yE X0 hC hE []
      ·obtain ⟨t3, ht3, hf0⟩ := zo hf0
       refine yL X0 hC vN [1,1,1,2,1,0] [J2] (fun s => Yz s_ steps s) (fun x => UX s_ steps x) 0 ht3  [] ?_
       rintro i_ m3 lr1 hf1 hl1 J3 hJ3
       try unfold Yz at hf1
       let Z4 : List HO := [Ha (lnM wE s_)]
       rcases zZ hf1 with ⟨c4, hf1⟩ | ⟨c4, hf1⟩
       ·refine yJ X0 hC vN [1,1,1,2,1,0,0,1] [J2, J3] [1,3,10,72,73,74,75,76,77,78,79,80,81,82] (fun z : List z6 × List z6 × Int × List z6 × List z6 × Int × Bool => YA i_ z.1 z.2.1 z.2.2.1 z.2.2.2.1 z.2.2.2.2.1 z.2.2.2.2.2.1 z.2.2.2.2.2.2 = some lr1) (fun z => UY s_ steps i_ z.1 z.2.1 z.2.2.1 z.2.2.2.1 z.2.2.2.2.1 z.2.2.2.2.2.1 z.2.2.2.2.2.2) [(1, .d (eSl 1 true wE s_)), (3, .d (eSl 1 false XZ steps)), (10, .d (I i_))] (Z4 ++ [Hq c4, Hh (.cut 0)]) ?_ fun J4 hJ4 => ?_
        ·rintro ⟨x74, x75, x76, x79, x80, x81, x82⟩ hf1
         unfold YA at hf1
         obtain rfl := zl hf1
         exact yB X0 hC hJ3 (w64 (i_ + 1)) hl1 []
        ·obtain ⟨s__e, h0, hf1⟩ := zo hf1
         obtain ⟨step_e, h1, hf1⟩ := zo hf1
         let Z5 : List HO := [Hi wE h0, Ha (lnM qH s__e), Hi XZ h1, Ha (lnM qH step_e)]
         rcases zZ hf1 with ⟨c5, hf1⟩ | ⟨c5, hf1⟩
         ·obtain rfl := zl hf1
          obtain rfl := hl1
          obtain rfl := zl hf0
          exact yE X0 hC hE (Z5 ++ (rpN 12 (Hq c5) [qT]))
         ·obtain ⟨s__e1, h2, hf1⟩ := zo hf1
          obtain ⟨s__e2, h3, hf1⟩ := zo hf1
          let Z6 : List HO := (Z5 ++ [Hq c5, Hq c5, Hq c5, Hi wE h2, Hq c5, Hq c5, Ha (lnM qH s__e1), Hq c5, Hq c5, Hq c5, Hi wE h3, Hq c5, Hq c5, Ha (lnM qH s__e2), Hq c5, Hq c5])
          rcases zZ hf1 with ⟨c6, hf1⟩ | ⟨c6, hf1⟩
          ·obtain rfl := zl hf1
           obtain rfl := hl1
           obtain rfl := zl hf0
           exact yE X0 hC hE (Z6 ++ [Hq c6])
          ·obtain ⟨t5, ht5, hf1⟩ := zo hf1
           refine yL X0 hC vN [1,1,1,2,1,0,0,1,2,0,1,1,0] [J2, J3, J4] (fun s => Yy s_ steps i_ s__e1 s__e2 s) (fun x => UW s_ steps i_ s__e1 s__e2 x) 0 ht5  (Z6 ++ [Hq c6]) ?_
           rintro k_ m5 lr2 hf2 hl2 J5 hJ5
           try unfold Yy at hf2
           obtain ⟨s__e3, h4, hf2⟩ := zo hf2
           let Z7 : List HO := [Hi wE h4, Ha (lnM qH s__e3)]
           rcases zZ hf2 with ⟨c7, hf2⟩ | ⟨c7, hf2⟩
           ·obtain ⟨s__e4, h5, hf2⟩ := zo hf2
            obtain ⟨s__e_e, h6, hf2⟩ := zo hf2
            obtain ⟨step_e1, h7, hf2⟩ := zo hf2
            obtain ⟨step_e_e, h8, hf2⟩ := zo hf2
            let Z8 : List HO := (Z7 ++ [Hq c7, Hi wE h5, Hi qH h6, Hi XZ h7, Hi qH h8])
            rcases zZ hf2 with ⟨c8, hf2⟩ | ⟨c8, hf2⟩
            ·obtain rfl := zl hf2
             obtain rfl := hl2
             obtain rfl := zl hf1
             obtain rfl := hl1
             obtain rfl := zl hf0
             exact yE ((zcj zR 107).or X0) hC hE (Z8 ++ [Hq c8])
            ·obtain rfl := zl hf2
             exact yB ((zcj zR 107).or X0) hC hJ5 (w64 (k_ + 1)) hl2 (Z8 ++ [Hq c8])
           ·obtain rfl := zl hf2
            obtain rfl := hl2
            exact yB X0 hC hJ4 (s__e1, s__e1, ((s__e1.length : Nat) : Int), s__e2, s__e2, ((s__e2.length : Nat) : Int), ((s__e1.length : Nat) : Int) != ((s__e2.length : Nat) : Int)) hf1 (Z7 ++ [Hq c7])
       ·obtain rfl := zl hf1
        obtain rfl := hl1
        exact yB X0 hC hJ2 () hf0 (Z4 ++ [Hq c4])
     ·obtain ⟨t6, ht6, hf0⟩ := zo hf0
      refine yL X0 hC vN [1,1,2,1,0] [J1] (fun s => Yx c_ list s) (fun x => UV c_ s_ list steps x) 0 ht6  [] ?_
      rintro i_1 m6 lr1 hf1 hl1 J6 hJ6
      try unfold Yx at hf1
      let Z9 : List HO := [Ha (lnM xh c_)]
      rcases zZ hf1 with ⟨c9, hf1⟩ | ⟨c9, hf1⟩
      ·obtain ⟨c__e, h9, hf1⟩ := zo hf1
       obtain ⟨list_e, h10, hf1⟩ := zo hf1
       obtain ⟨r_, h11, hf1⟩ := zo hf1
       let Z10 : List HO := (Z9 ++ [Hq c9, Hi xh h9, Hi xh h10, Hc h06 (x := (c__e, list_e)) h11 (loC xh c__e <| loC xh list_e <| loN)])
       rcases zZ hf1 with ⟨c10, hf1⟩ | ⟨c10, hf1⟩
       ·obtain rfl := zl hf1
        obtain rfl := hl1
        obtain rfl := zl hf0
        exact yE X0 hC hE (Z10 ++ [Hq c10])
       ·obtain rfl := zl hf1
        exact yB X0 hC hJ6 (w64 (i_1 + 1)) hl1 (Z10 ++ [Hq c10])
      ·obtain rfl := zl hf1
       obtain rfl := hl1
       exact yB X0 hC hJ1 () hf0 (Z9 ++ [Hq c9])
def Qt : Code := (Tryz.f81.body).getD .skip
def jh : yU := spF (α := Int) (ρ := Bool) 81 (fun x => [(eI .i64) x]) (fun r => eB r) (fun x => qU x) [] (Qp)
theorem Je {ctr : Ctr} (hC : zT Tryz.prog ctr) : jh.Ok Tryz.prog := by
 refine y4 ?_
 rintro x_ r0 hf0
 try unfold qU at hf0
 refine yO true [(2, none)] Qt 6 Tryz.func81 fun E hE => ?_
 obtain rfl := zl hf0
 exact yE X0 hC hE []
def K3 : Code := (Tryz.f76.body).getD .skip
def ZG : yU := spF (α := Int × Int) (ρ := Bool) 76 (fun x => [(eI .i64) x.1, (eI .i64) x.2]) (fun r => eB r) (fun x => Wh x.1 x.2) [] (Uu)
theorem Kc {ctr : Ctr} (hC : zT Tryz.prog ctr) (h0i : ctr.Has jh) : ZG.Ok Tryz.prog := by
 refine y4 ?_
 rintro ⟨x_, y_⟩ r0 hf0
 try unfold Wh at hf0
 refine yO true [(4, none)] K3 17 Tryz.func76 fun E hE => ?_
 obtain ⟨r_, h0, hf0⟩ := zo hf0
 let Z0 : List HO := [Hc h0i (x := x_) h0 (loC (eI .i64) x_ <| loN)]
 rcases zZ hf0 with ⟨c0, hf0⟩ | ⟨c0, hf0⟩
 ·obtain ⟨r_1, h1, hf0⟩ := zo hf0
  let Z1 : List HO := (Z0 ++ [Hq c0, Hq c0, Hc h0i (x := y_) h1 (loC (eI .i64) y_ <| loN), Hq c0, Hq c0])
  rcases zZ hf0 with ⟨c1, hf0⟩ | ⟨c1, hf0⟩
  ·obtain rfl := zl hf0
   exact yE X0 hC hE (Z1 ++ (rpN 4 (Hq c1) []))
  ·obtain rfl := zl hf0
   exact yE X0 hC hE (Z1 ++ (rpN 4 (Hq c1) []))
 ·obtain rfl := zl hf0
  exact yE X0 hC hE (Z0 ++ (rpN 4 (Hq c0) (rpN 4 qF [])))
def Vf : Code := (Tryz.f77.body).getD .skip
def jw : yU := spF (α := Int) (ρ := Bool) 77 (fun x => [(eI .i64) x]) (fun r => eB r) (fun x => ji x) [] (Qp)
theorem Vy {ctr : Ctr} (hC : zT Tryz.prog ctr) : jw.Ok Tryz.prog := by
 refine y4 ?_
 rintro x_ r0 hf0
 try unfold ji at hf0
 refine yO true [(2, none)] Vf 6 Tryz.func77 fun E hE => ?_
 obtain rfl := zl hf0
 exact yE X0 hC hE []
def wD : Code := (Tryz.f47.body).getD .skip
def wu : yU := spF (α := List Int × Int) (ρ := Int × Bool) 47 (fun x => [F2_ x.1, (eI .i64) x.2]) (fun r => .tup [(eI .i64) r.1, eB r.2]) (fun x => wW x.1 x.2) [] (Uu)
abbrev kr (x_ : List Int) (target : Int) (i_ : Int) : List (Nat × T) := [(0, .d (eSl 1 false (eI .i64) x_)), (1, .d (I target)), (6, .d (I ((x_.length : Nat) : Int))), (7, .d (I i_))]
abbrev kq (x_ : List Int) (target : Int) (i_1 : Int) (j_ : Int) : List (Nat × T) := [(0, .d (eSl 1 false (eI .i64) x_)), (1, .d (I target)), (6, .d (I ((x_.length : Nat) : Int))), (7, .d (I i_1)), (8, .d (I j_))]
theorem kX {ctr : Ctr} (hC : zT Tryz.prog ctr) (h0R : ctr.Has ZG) (h0x : ctr.Has jw) : wu.Ok Tryz.prog := by
 refine y4 ?_
 rintro ⟨x_, target⟩ r0 hf0
 try unfold wW at hf0
 refine yO false [(4, none), (5, none)] wD 54 Tryz.func47 fun E hE => ?_
 refine yJ X0 hC wD [1,1,1] [] [0,1,6,7] (fun z : Int => ww x_ target z = some r0) (fun z => kr x_ target z) [(0, .d (eSl 1 false (eI .i64) x_)), (1, .d (I target)), (6, .d (I ((x_.length : Nat) : Int))), (7, .d (I 0)), (8, .d (I ((x_.length : Nat) : Int)))] [Ha (lnM (eI .i64) x_), Hh (.cut 1)] ?_ fun J1 hJ1 => ?_
 ·rintro i_ hf0
  unfold ww at hf0
  rcases zZ hf0 with ⟨c0, hf0⟩ | ⟨c0, hf0⟩
  ·obtain ⟨x__e, h0, hf0⟩ := zo hf0
   let Z0 : List HO := (Hq c0 :: Hq c0 :: Hq c0 :: Hi (eI .i64) h0 :: (rpN 4 (Hq c0) []))
   rcases zZ hf0 with ⟨c1, hf0⟩ | ⟨c1, hf0⟩
   ·obtain rfl := zl hf0
    exact yE X0 hC hE (Z0 ++ (rpN 7 (Hq c1) [Hq c0, Hq c1, Hq c0]))
   ·obtain ⟨x__e1, h1, hf0⟩ := zo hf0
    obtain ⟨r_, h2, hf0⟩ := zo hf0
    let Z1 : List HO := (Z0 ++ [Hq c1, Hq c1, Hq c1, Hi (eI .i64) h1, Hq c1, Hq c1, Hc h0x (x := x__e1) h2 (loC (eI .i64) x__e1 <| loN), Hq c1])
    rcases zZ hf0 with ⟨c2, hf0⟩ | ⟨c2, hf0⟩
    ·obtain ⟨r_1, h3, hf0⟩ := zo hf0
     obtain rfl := zl hf0
     exact yE X0 hC hE (Z1 ++ [Hq c2, Hq c2, Hc h0x (x := target) h3 (loC (eI .i64) target <| loN), Hq c1, Hq c2, Hq c0, Hq c1, Hq c0])
    ·obtain rfl := zl hf0
     exact yE X0 hC hE (Z1 ++ [Hq c2, Hq c2, Hq c1, Hq c2, Hq c0, Hq c1, Hq c0])
  ·obtain rfl := zl hf0
   exact yE X0 hC hE (rpN 9 (Hq c0) [])
 ·obtain ⟨t2, ht2, hf0⟩ := zo hf0
  refine yL X0 hC wD [1,1,1,2,0] [J1] (fun s => wv x_ target s.1 s.2) (fun x => kq x_ target x.1 x.2) (0, ((x_.length : Nat) : Int)) ht2  [] ?_
  rintro ⟨i_1, j_⟩ m2 lr1 hf1 hl1 J2 hJ2
  try unfold wv at hf1
  rcases zZ hf1 with ⟨c3, hf1⟩ | ⟨c3, hf1⟩
  ·obtain ⟨x__e2, h4, hf1⟩ := zo hf1
   obtain ⟨r_2, h5, hf1⟩ := zo hf1
   let Z2 : List HO := [Hq c3, Hi (eI .i64) h4, Hc h0R (x := (x__e2, target)) h5 (loC (eI .i64) x__e2 <| loC (eI .i64) target <| loN)]
   rcases zZ hf1 with ⟨c4, hf1⟩ | ⟨c4, hf1⟩
   ·obtain rfl := zl hf1
    exact yB ((zdO Tryz.prog).or X0) hC hJ2 (w64 ((w64 (Int.fdiv (IntKind.u64.wrap (w64 (i_1 + j_))) (2 ^ 1))) + 1), j_) hl1 (Z2 ++ [Hq c4])
   ·obtain rfl := zl hf1
    exact yB ((zdO Tryz.prog).or X0) hC hJ2 (i_1, w64 (Int.fdiv (IntKind.u64.wrap (w64 (i_1 + j_))) (2 ^ 1))) hl1 (Z2 ++ [Hq c4])
  ·obtain rfl := zl hf1
   obtain rfl := hl1
   exact yB X0 hC hJ1 i_1 hf0 [Hq c3]
def VT : Code := (Tryz.f80.body).getD .skip
def ke : yU := spF (α := Int) (ρ := Bool) 80 (fun x => [(eI .u8) x]) (fun r => eB r) (fun x => ko x) [] (Qp)
theorem Uh {ctr : Ctr} (hC : zT Tryz.prog ctr) : ke.Ok Tryz.prog := by
 refine y4 ?_
 rintro x_ r0 hf0
 try unfold ko at hf0
 refine yO true [(2, none)] VT 6 Tryz.func80 fun E hE => ?_
 obtain rfl := zl hf0
 exact yE X0 hC hE []
def WJ : Code := (Tryz.f51.body).getD .skip
def j0 : yU := spF (α := Int × Int) (ρ := Int) 51 (fun x => [(eI .u8) x.1, (eI .u8) x.2]) (fun r => (eI .i64) r) (fun x => kE x.1 x.2) [] (Uu)
theorem WZ {ctr : Ctr} (hC : zT Tryz.prog ctr) (h0y : ctr.Has ke) : j0.Ok Tryz.prog := by
 refine y4 ?_
 rintro ⟨x_, y_⟩ r0 hf0
 try unfold kE at hf0
 refine yO true [(4, none)] WJ 20 Tryz.func51 fun E hE => ?_
 obtain ⟨r_, h0, hf0⟩ := zo hf0
 obtain ⟨r_1, h1, hf0⟩ := zo hf0
 let Z0 : List HO := [Hc h0y (x := x_) h0 (loC (eI .u8) x_ <| loN), Hc h0y (x := y_) h1 (loC (eI .u8) y_ <| loN)]
 rcases zZ hf0 with ⟨c0, hf0⟩ | ⟨c0, hf0⟩
 ·rcases zZ hf0 with ⟨c1, hf0⟩ | ⟨c1, hf0⟩
  ·obtain rfl := zl hf0
   exact yE X0 hC hE (Z0 ++ [Hq c0, Hq c1])
  ·obtain rfl := zl hf0
   exact yE X0 hC hE (Z0 ++ [Hq c0, Hq c1])
 ·rcases zZ hf0 with ⟨c2, hf0⟩ | ⟨c2, hf0⟩
  ·obtain rfl := zl hf0
   exact yE X0 hC hE (Z0 ++ [Hq c0, Hq c2])
  ·rcases zZ hf0 with ⟨c3, hf0⟩ | ⟨c3, hf0⟩
   ·obtain rfl := zl hf0
    exact yE X0 hC hE (Z0 ++ [Hq c0, Hq c2, Hq c3])
   ·rcases zZ hf0 with ⟨c4, hf0⟩ | ⟨c4, hf0⟩
    ·obtain rfl := zl hf0
     exact yE X0 hC hE (Z0 ++ [Hq c0, Hq c2, Hq c3, Hq c4])
    ·obtain rfl := zl hf0
     exact yE X0 hC hE (Z0 ++ [Hq c0, Hq c2, Hq c3, Hq c4])
def VU : Code := (Tryz.f52.body).getD .skip
def kg : yU := spF (α := Int × Int) (ρ := Int) 52 (fun x => [(eI .i64) x.1, (eI .i64) x.2]) (fun r => (eI .i64) r) (fun x => kp x.1 x.2) [] (Uu)
theorem Ui {ctr : Ctr} (hC : zT Tryz.prog ctr) (h0i : ctr.Has jh) : kg.Ok Tryz.prog := by
 refine y4 ?_
 rintro ⟨x_, y_⟩ r0 hf0
 try unfold kp at hf0
 refine yO true [(4, none)] VU 20 Tryz.func52 fun E hE => ?_
 obtain ⟨r_, h0, hf0⟩ := zo hf0
 obtain ⟨r_1, h1, hf0⟩ := zo hf0
 let Z0 : List HO := [Hc h0i (x := x_) h0 (loC (eI .i64) x_ <| loN), Hc h0i (x := y_) h1 (loC (eI .i64) y_ <| loN)]
 rcases zZ hf0 with ⟨c0, hf0⟩ | ⟨c0, hf0⟩
 ·rcases zZ hf0 with ⟨c1, hf0⟩ | ⟨c1, hf0⟩
  ·obtain rfl := zl hf0
   exact yE X0 hC hE (Z0 ++ [Hq c0, Hq c1])
  ·obtain rfl := zl hf0
   exact yE X0 hC hE (Z0 ++ [Hq c0, Hq c1])
 ·rcases zZ hf0 with ⟨c2, hf0⟩ | ⟨c2, hf0⟩
  ·obtain rfl := zl hf0
   exact yE X0 hC hE (Z0 ++ [Hq c0, Hq c2])
  ·rcases zZ hf0 with ⟨c3, hf0⟩ | ⟨c3, hf0⟩
   ·obtain rfl := zl hf0
    exact yE X0 hC hE (Z0 ++ [Hq c0, Hq c2, Hq c3])
   ·rcases zZ hf0 with ⟨c4, hf0⟩ | ⟨c4, hf0⟩
    ·obtain rfl := zl hf0
     exact yE X0 hC hE (Z0 ++ [Hq c0, Hq c2, Hq c3, Hq c4])
    ·obtain rfl := zl hf0
     exact yE X0 hC hE (Z0 ++ [Hq c0, Hq c2, Hq c3, Hq c4])
def Xz : Code := (Tryz.f50.body).getD .skip
def Xc : yU := spF (α := List Int) (ρ := Int) 50 (fun x => [F2_ x]) (fun r => (eI .i64) r) (fun x => Uz x) [] (Qp)
abbrev QN : List (Nat × T) := [(3, .d (I 0))]
abbrev QM (vals : List Int) (x8 : Int) : List (Nat × T) := [(3, .d (I 0)), (6, .d (eSl 1 false (eI .i64) vals)), (7, .d (I ((vals.length : Nat) : Int))), (8, .d (I x8))]
theorem z0J {ctr : Ctr} (hC : zT Tryz.prog ctr) : Xc.Ok Tryz.prog := by
 refine y4 ?_
 rintro vals r0 hf0
 try unfold Uz at hf0
 refine yO true [(2, none)] Xz 18 Tryz.func50 fun E hE => ?_
 refine yJ X0 hC Xz [1,1] [] [3] (fun z : Unit => Xs = some r0) (fun z => QN) [(0, .d (eSl 1 false (eI .i64) vals)), (3, .d (I 0))] [Hh (.cut 2)] ?_ fun J1 hJ1 => ?_
 ·rintro ⟨⟩ hf0
  unfold Xs at hf0
  obtain rfl := zl hf0
  exact yE X0 hC hE []
 ·obtain ⟨t2, ht2, hf0⟩ := zo hf0
  refine yL X0 hC Xz [1,1,2,1,0] [J1] (fun s => Xr vals s) (fun x => QM vals x) 0 ht2  [Ha (lnM (eI .i64) vals)] ?_
  rintro x8 m2 lr1 hf1 hl1 J2 hJ2
  try unfold Xr at hf1
  rcases zZ hf1 with ⟨c0, hf1⟩ | ⟨c0, hf1⟩
  ·obtain ⟨val_e, h0, hf1⟩ := zo hf1
   rcases zZ hf1 with ⟨c1, hf1⟩ | ⟨c1, hf1⟩
   ·obtain rfl := zl hf1
    obtain rfl := hl1
    obtain rfl := zl hf0
    exact yE X0 hC hE [Hq c0, Hi (eI .i64) h0, Hq c1]
   ·obtain rfl := zl hf1
    exact yB X0 hC hJ2 (w64 (x8 + 1)) hl1 [Hq c0, Hi (eI .i64) h0, Hq c1]
  ·obtain rfl := zl hf1
   obtain rfl := hl1
   exact yB X0 hC hJ1 () hf0 [Hq c0]
def WI : Code := (Tryz.f49.body).getD .skip
def qZ : yU := spF (α := zg × zg) (ρ := Int) 49 (fun x => [F8_ x.1, F8_ x.2]) (fun r => (eI .i64) r) (fun x => kA x.1 x.2) [] (Uu)
theorem WY {ctr : Ctr} (hC : zT Tryz.prog ctr) (h0S : ctr.Has j0) (h0z : ctr.Has kg) (h0A : ctr.Has Xc) : qZ.Ok Tryz.prog := by
 refine y4 ?_
 rintro ⟨a_, b_⟩ r0 hf0
 try unfold kA at hf0
 refine yO true [(4, none)] WI 22 Tryz.func49 fun E hE => ?_
 obtain ⟨r_, h0, hf0⟩ := zo hf0
 obtain ⟨r_1, h1, hf0⟩ := zo hf0
 obtain ⟨r_2, h2, hf0⟩ := zo hf0
 obtain ⟨r_3, h3, hf0⟩ := zo hf0
 obtain rfl := zl hf0
 exact yE X0 hC hE [Hc h0S (x := (a_.Kind, b_.Kind)) h0 (loC (eI .u8) a_.Kind <| loC (eI .u8) b_.Kind <| loN), Hc h0z (x := (a_.Label, b_.Label)) h1 (loC (eI .i64) a_.Label <| loC (eI .i64) b_.Label <| loN), Hc h0z (x := (a_.To, b_.To)) h2 (loC (eI .i64) a_.To <| loC (eI .i64) b_.To <| loN), Hg (z1v h0A), Hm (shM (eI .i64) (eI .i64) ([r_, r_1, r_2])), Hs (z1w h0A (x := [r_, r_1, r_2]) h3 (loC F1_ ([r_, r_1, r_2] : List Int) <| loN))]
def zL : Code := (Tryz.f54.body).getD .skip
def xj : yU := spF (α := List zg) (ρ := List zg) 54 (fun x => [(eOs 3 false F8_) x]) (fun r => (eOs 3 false F8_) r) (fun x => xQ x) [true] (Qp)
abbrev qw (s_ : List zg) : List (Nat × T) := [(0, .own (eOs 3 false F8_ s_))]
abbrev qt (s_ : List zg) (k_ : Int) : List (Nat × T) := [(0, .own (eOs 3 false F8_ s_)), (3, .d (I k_))]
abbrev qr (s_1 : List zg) (k_1 : Int) : List (Nat × T) := [(0, .own (eOs 3 false F8_ s_1)), (3, .d (I k_1))]
abbrev qq (pv0 : Value) (k_ : Int) (k2 : Int) (s_3 : List zg) (k_3 : Int) : List (Nat × T) := [(0, .own (eOs 3 false F8_ s_3)), (3, .d (I k_3)), (4, .d (.atom (WG 3 pv0 k_))), (5, .d (I k2))]
abbrev qn (pv0 : Value) (k_ : Int) (s_2 : List zg) (k_2 : Int) (k2 : Int) : List (Nat × T) := [(0, .own (eOs 3 false F8_ s_2)), (3, .d (I k_2)), (4, .d (.atom (WG 3 pv0 k_))), (5, .d (I k2))]
abbrev qp (s_ : List zg) (k_ : Int) : List (Nat × T) := [(0, .own (eOs 3 false F8_ s_)), (3, .d (I k_))]
def zp : XH Tryz.prog := ((zf5 zR 59).or X0)
theorem j5 {ctr : Ctr} (hC : zT Tryz.prog ctr) : xj.Ok Tryz.prog := by
 refine y4 ?_
 rintro s_ r0 hf0
 try unfold xQ at hf0
 refine yO true [(2, none)] zL 61 Tryz.func54 fun E hE => ?_
 refine z2o (y := eOs 3 false F8_ s_) rfl 0 (by kernel_rfl) (by kernel_rfl) fun pv0 hv0 => ?_
 let Z0 : List HO := [Ha (lnM F8_ s_)]
 rcases zZ hf0 with ⟨c0, hf0⟩ | ⟨c0, hf0⟩
 ·obtain rfl := zl hf0
  exact yE zp hC hE (Z0 ++ [Hq c0])
 ·refine yJ zp hC zL [1,1] [] [0] (fun z : Unit => xp s_ = some r0) (fun z => qw s_) [(0, .own (eOs 3 false F8_ s_))] (Z0 ++ [Hq c0, Hh (.cut 0)]) ?_ fun J1 hJ1 => ?_
  ·rintro ⟨⟩ hf0
   unfold xp at hf0
   obtain rfl := zl hf0
   exact yE zp hC hE []
  ·obtain ⟨t2, ht2, hf0⟩ := zo hf0
   refine yL zp hC zL [1,1,2,1,0] [J1] (fun s => xl s_ s) (fun x => qp s_ x) 1 ht2  [] ?_
   rintro k_ m2 lr1 hf1 hl1 J2 hJ2
   try unfold xl at hf1
   let Z1 : List HO := [Ha (lnM F8_ s_)]
   rcases zZ hf1 with ⟨c1, hf1⟩ | ⟨c1, hf1⟩
   ·refine yJ zp hC zL [1,1,2,1,0,0,1] [J1, J2] [0,3] (fun z : Unit => xo k_ = some lr1) (fun z => qt s_ k_) [(0, .own (eOs 3 false F8_ s_)), (3, .d (I k_))] (Z1 ++ [Hq c1, Hh (.cut 0)]) ?_ fun J3 hJ3 => ?_
    ·rintro ⟨⟩ hf1
     unfold xo at hf1
     obtain rfl := zl hf1
     exact yB zp hC hJ2 (w64 (k_ + 1)) hl1 []
    ·obtain ⟨s__e, h0, hf1⟩ := zo hf1
     obtain ⟨s__e1, h1, hf1⟩ := zo hf1
     let Z2 : List HO := [Hn (iL F8_ h0), Hs (iM F8_ h0), Hn (iL F8_ h1), Hs (iM F8_ h1)]
     rcases zZ hf1 with ⟨c2, hf1⟩ | ⟨c2, hf1⟩
     ·obtain ⟨g0, hf1⟩ := gdE hf1
      refine yJ ((xAs Tryz.prog 4 (WG 3 pv0 k_)).or ((xVw zR 28 0 pv0).or zp)) hC zL [1,1,2,1,0,0,1,2,0,1,0,1] [J1, J2, J3] [0,3] (fun z : List zg × Int => xm z.1 z.2 = some lr1) (fun z => qr z.1 z.2) [(0, .own (eOs 3 false F8_ s_)), (3, .d (I k_)), (4, .d (.atom (WG 3 pv0 k_)))] (Z2 ++ [Hq c2, Hn (⟨.inl rfl, rfl⟩ : (T.als 0 [] 0 0 = T.als 0 [] 0 0 ∨ T.als 0 [] 0 0 = T.d (.atom pv0)) ∧ some pv0 = some pv0), Hn (⟨g0.1, cuB F8_ g0⟩ : (0 : Int) ≤ k_ ∧ k_.toNat ≤ (s_.map F8_).length), Hn (rfl : T.d (.atom (WG 3 pv0 k_)) = T.d (.atom (WG 3 pv0 k_))), Hh (.cut 1)]) ?_ fun J4 hJ4 => ?_
      ·rintro ⟨s_1, k_1⟩ hf1
       unfold xm at hf1
       obtain ⟨g1, hf1⟩ := gdE hf1
       obtain ⟨g2, hf1⟩ := gdE hf1
       obtain ⟨g3, hf1⟩ := gdE hf1
       obtain rfl := zl hf1
       obtain rfl := hl1
       obtain rfl := zl hf0
       exact yE ((xVc zR 56 3 0 pv0 k_1).or ((xVw zR 56 0 pv0).or zp)) hC hE [Hn (⟨.inl rfl, rfl⟩ : (T.als 0 [] 0 0 = T.als 0 [] 0 0 ∨ T.als 0 [] 0 0 = T.d (.atom pv0)) ∧ some pv0 = some pv0), Hn (⟨g1.1, cuB F8_ g1⟩ : (0 : Int) ≤ k_1 ∧ k_1.toNat ≤ (s_1.map F8_).length), Hn (⟨rfl, rfl⟩ : T.d (.atom (WG 3 pv0 k_1)) = T.d (.atom (WG 3 pv0 k_1)) ∧ some pv0 = some pv0), Hn (⟨g2.1, cuB F8_ g2, dM F8_ s_1⟩ : (0 : Int) ≤ k_1 ∧ k_1.toNat ≤ (s_1.map F8_).length ∧ A.areD (s_1.map F8_) = true), Hx (.l ((s_1.take k_1.toNat ++ List.replicate (s_1.length - k_1.toNat) (zg.mk 0 0 0)).map F8_)) (vcM F8_ s_1 k_1.toNat (zg.mk 0 0 0)), Hn g3.1, Hn (cuB F8_ g3), Hl (cuM F8_ (s_1.take k_1.toNat ++ List.replicate (s_1.length - k_1.toNat) (zg.mk 0 0 0)) k_1)]
      ·obtain ⟨t5, ht5, hf1⟩ := zo hf1
       refine yL zp hC zL [1,1,2,1,0,0,1,2,0,1,0,1,2,1,0] [J1, J2, J3, J4] (fun s => xk k_ s.1 s.2.1 s.2.2) (fun x => qn pv0 k_ x.1 x.2.1 x.2.2) (s_, k_, 1) ht5  [] ?_
       rintro ⟨s_2, k_2, k2⟩ m5 lr2 hf2 hl2 J5 hJ5
       try unfold xk at hf2
       let Z3 : List HO := [Hn (⟨rfl, rfl⟩ : T.d (.atom (WG 3 pv0 k_)) = T.d (.atom (WG 3 pv0 k_)) ∧ some pv0 = some pv0), Hx (.a (.atom (.int .i64 ((s_2.length - k_.toNat : Nat) : Int)))) (vlM F8_ s_2 k_.toNat)]
       rcases zZ hf2 with ⟨c3, hf2⟩ | ⟨c3, hf2⟩
       ·refine yJ ((xVl zR 31 59 3 0 pv0 k_ (by kernel_rfl)).or zp) hC zL [1,1,2,1,0,0,1,2,0,1,0,1,2,1,0,0,1] [J1, J2, J3, J4, J5] [0,3,4,5] (fun z : List zg × Int => yo k2 z.1 z.2 = some lr2) (fun z => qq pv0 k_ k2 z.1 z.2) [(0, .own (eOs 3 false F8_ s_2)), (3, .d (I k_2)), (4, .d (.atom (WG 3 pv0 k_))), (5, .d (I k2))] (Z3 ++ [Hq c3, Hh (.cut 0)]) ?_ fun J6 hJ6 => ?_
        ·rintro ⟨s_3, k_3⟩ hf2
         unfold yo at hf2
         obtain rfl := zl hf2
         exact yB zp hC hJ5 (s_3, k_3, w64 (k2 + 1)) hl2 []
        ·obtain ⟨g4, hf2⟩ := gdE hf2
         obtain ⟨s__e2, h2, hf2⟩ := zo hf2
         obtain ⟨g5, hf2⟩ := gdE hf2
         obtain ⟨s__e3, h3, hf2⟩ := zo hf2
         let Z4 : List HO := [Hn (⟨rfl, rfl⟩ : T.d (.atom (WG 3 pv0 k_)) = T.d (.atom (WG 3 pv0 k_)) ∧ some pv0 = some pv0), Hn (⟨g4.1, g4.2, (iL F8_ h2).2⟩ : (0 : Int) ≤ k_ ∧ (0 : Int) ≤ k2 ∧ (k_ + k2).toNat < (s_2.map F8_).length), Hs (iM F8_ h2), Hn (⟨rfl, rfl⟩ : T.d (.atom (WG 3 pv0 k_)) = T.d (.atom (WG 3 pv0 k_)) ∧ some pv0 = some pv0), Hn (⟨g5.1, g5.2, (iL F8_ h3).2⟩ : (0 : Int) ≤ k_ ∧ (0 : Int) ≤ w64 (k2 - 1) ∧ (k_ + (w64 (k2 - 1))).toNat < (s_2.map F8_).length), Hs (iM F8_ h3)]
         rcases zZ hf2 with ⟨c4, hf2⟩ | ⟨c4, hf2⟩
         ·obtain ⟨g6, hf2⟩ := gdE hf2
          obtain ⟨s__e4, h4, hf2⟩ := zo hf2
          obtain ⟨s__e5, h5, hf2⟩ := zo hf2
          exact yB ((xVi zR 49 3 0 pv0 k_).or ((xVi zR 42 3 0 pv0 k_).or ((xVi zR 37 3 0 pv0 k_).or zp))) hC hJ6 ((s_2.set k_2.toNat s__e4), w64 (k_2 + 1)) hf2 (Z4 ++ [Hq c4, Hn (⟨rfl, rfl⟩ : T.d (.atom (WG 3 pv0 k_)) = T.d (.atom (WG 3 pv0 k_)) ∧ some pv0 = some pv0), Hn (⟨g6.1, g6.2, (iL F8_ h4).2⟩ : (0 : Int) ≤ k_ ∧ (0 : Int) ≤ k2 ∧ (k_ + k2).toNat < (s_2.map F8_).length), Hs (iM F8_ h4), Hn (iL F8_ h5), Hs (iM F8_ h5), Hs (iM F8_ h5), Hl (sM F8_ s_2 k_2 s__e4)])
         ·exact yB ((xVi zR 42 3 0 pv0 k_).or ((xVi zR 37 3 0 pv0 k_).or zp)) hC hJ6 (s_2, k_2) hf2 (Z4 ++ [Hq c4])
       ·obtain rfl := zl hf2
        obtain rfl := hl2
        exact yB ((xVl zR 31 59 3 0 pv0 k_ (by kernel_rfl)).or zp) hC hJ4 (s_2, k_2) hf1 (Z3 ++ [Hq c3])
     ·exact yB zp hC hJ3 () hf1 (Z2 ++ [Hq c2])
   ·obtain rfl := zl hf1
    obtain rfl := hl1
    exact yB zp hC hJ1 () hf0 (Z1 ++ [Hq c1])
def jH : Code := (Tryz.f53.body).getD .skip
def xP : yU := spF (α := List zg) (ρ := List zg) 53 (fun x => [YM x]) (fun r => U0 r) (fun x => wk x) [] (Qp)
theorem jP {ctr : Ctr} (hC : zT Tryz.prog ctr) : xP.Ok Tryz.prog := by
 refine y4 ?_
 rintro s_ r0 hf0
 try unfold wk at hf0
 refine yO true [(2, none)] jH 9 Tryz.func53 fun E hE => ?_
 obtain ⟨g0, hf0⟩ := gdE hf0
 obtain rfl := zl hf0
 exact yE X0 hC hE [Ha (lnM F8_ s_), Ha (lnM F8_ s_), Hn (slB g0), Hn (slC g0), Hn (z3i F8_ g0), Ha (z9e 3 F8_ s_ 0 ((s_.length : Nat) : Int).toNat)]
def jy : Code := (Tryz.f55.body).getD .skip
def xG : yU := spF (α := List (List zg)) (ρ := List (List zg)) 55 (fun x => [zeY x]) (fun r => zce r) (fun x => w7 x) [] (Qp)
theorem jD {ctr : Ctr} (hC : zT Tryz.prog ctr) : xG.Ok Tryz.prog := by
 refine y4 ?_
 rintro s_ r0 hf0
 try unfold w7 at hf0
 refine yO true [(2, none)] jy 9 Tryz.func55 fun E hE => ?_
 obtain ⟨g0, hf0⟩ := gdE hf0
 obtain rfl := zl hf0
 exact yE X0 hC hE [Ha (lnM YM s_), Ha (lnM YM s_), Hn (slB g0), Hn (slC g0), Hn (z3i YM g0), Ha (z9e 1 YM s_ 0 ((s_.length : Nat) : Int).toNat)]
def yN : Code := (Tryz.f17.body).getD .skip
def ka : yU := spF (α := z8 × List Int) (ρ := zG × Int) 17 (fun x => [yV x.1, F2_ x.2]) (fun r => .tup [(wY (eI .i64) (eI .i64) zce) r.1, (eI .i64) r.2]) (fun x => jY x.1 x.2) [] (Uu)
abbrev Wo (x_ : z8) (out_Rows : List (List zg)) : List (Nat × T) := [(4, .own (.box (.agg [I 0, I 0, eOs 1 true YM []]))), (10, .own (.box (.agg [I 0, I x_.Labels, eOs 1 false U0 out_Rows])))]
abbrev Wn (x_ : z8) (hidden : List Int) (r_2 : List zb × List (List z6) × Int) (x51 : Int) (out_Rows2 : List (List zg)) : List (Nat × T) := [(1, .d (eSl 1 false (eI .i64) hidden)), (2, .own (.box (yV x_))), (4, .own (.box (.agg [I 0, I 0, eOs 1 true YM []]))), (10, .own (.box (.agg [I 0, I x_.Labels, eOs 1 false U0 out_Rows2]))), (49, .d (eSl 1 true wE r_2.2.1)), (50, .d (I ((r_2.2.1.length : Nat) : Int))), (51, .d (I x51))]
abbrev Wm (x_ : z8) (hidden : List Int) (r_2 : List zb × List (List z6) × Int) (out_Rows1 : List (List zg)) (x51 : Int) (row : List zg) : List (Nat × T) := [(1, .d (eSl 1 false (eI .i64) hidden)), (2, .own (.box (yV x_))), (4, .own (.box (.agg [I 0, I 0, eOs 1 true YM []]))), (10, .own (.box (.agg [I 0, I x_.Labels, eOs 1 false U0 out_Rows1]))), (13, .own (eOs 3 false F8_ row)), (49, .d (eSl 1 true wE r_2.2.1)), (50, .d (I ((r_2.2.1.length : Nat) : Int))), (51, .d (I x51))]
abbrev Wl (x_ : z8) (hidden : List Int) (r_2 : List zb × List (List z6) × Int) (out_Rows1 : List (List zg)) (x51 : Int) (u_ : List z6) (row1 : List zg) (x57 : Int) (u__e : z6) (arc_Kind : Int) (arc_Label : Int) : List (Nat × T) := [(1, .d (eSl 1 false (eI .i64) hidden)), (2, .own (.box (yV x_))), (4, .own (.box (.agg [I 0, I 0, eOs 1 true YM []]))), (10, .own (.box (.agg [I 0, I x_.Labels, eOs 1 false U0 out_Rows1]))), (13, .own (eOs 3 false F8_ row1)), (16, .own (.box (.agg [.atom (.int .u8 arc_Kind), I arc_Label, I u__e.To]))), (49, .d (eSl 1 true wE r_2.2.1)), (50, .d (I ((r_2.2.1.length : Nat) : Int))), (51, .d (I x51)), (55, .d (eSl 5 true qH u_)), (56, .d (I ((u_.length : Nat) : Int))), (57, .d (I x57))]
abbrev Wj (x_ : z8) (hidden : List Int) (r_2 : List zb × List (List z6) × Int) (out_Rows1 : List (List zg)) (x51 : Int) (u_ : List z6) (row1 : List zg) (x57 : Int) : List (Nat × T) := [(1, .d (eSl 1 false (eI .i64) hidden)), (2, .own (.box (yV x_))), (4, .own (.box (.agg [I 0, I 0, eOs 1 true YM []]))), (10, .own (.box (.agg [I 0, I x_.Labels, eOs 1 false U0 out_Rows1]))), (13, .own (eOs 3 false F8_ row1)), (49, .d (eSl 1 true wE r_2.2.1)), (50, .d (I ((r_2.2.1.length : Nat) : Int))), (51, .d (I x51)), (55, .d (eSl 5 true qH u_)), (56, .d (I ((u_.length : Nat) : Int))), (57, .d (I x57))]
abbrev Wk (x_ : z8) (hidden : List Int) (r_2 : List zb × List (List z6) × Int) (out_Rows1 : List (List zg)) (x51 : Int) : List (Nat × T) := [(1, .d (eSl 1 false (eI .i64) hidden)), (2, .own (.box (yV x_))), (4, .own (.box (.agg [I 0, I 0, eOs 1 true YM []]))), (10, .own (.box (.agg [I 0, I x_.Labels, eOs 1 false U0 out_Rows1]))), (49, .d (eSl 1 true wE r_2.2.1)), (50, .d (I ((r_2.2.1.length : Nat) : Int))), (51, .d (I x51))]
theorem Ue {ctr : Ctr} (hC : zT Tryz.prog ctr) (h07 : ctr.Has vg) (h0n : ctr.Has qL) (h0h : ctr.Has xU) (h0T : ctr.Has wu) (h0U : ctr.Has qZ) (h0V : ctr.Has xj) (h0B : ctr.Has xP) (h0C : ctr.Has xG) : ka.Ok Tryz.prog := by
 refine y4 ?_
 rintro ⟨x_, hidden⟩ r0 hf0
 try unfold jY at hf0
 refine yO false [(4, some 53), (5, none)] yN 121 Tryz.func17 fun E hE => ?_
 obtain ⟨r_, h0, hf0⟩ := zo hf0
 let Z0 : List HO := [Hc h07 (x := x_) h0 (loC yV x_ <| loN)]
 rcases zZ hf0 with ⟨c0, hf0⟩ | ⟨c0, hf0⟩
 ·obtain rfl := zl hf0
  exact yE X0 hC hE (Z0 ++ [Hq c0, Hm (shM YM YM [])])
 ·obtain ⟨r_1, h1, hf0⟩ := zo hf0
  let Z1 : List HO := (Z0 ++ [Hq c0, Hc h0n (x := (hidden, x_.Labels)) h1 (loC F2_ hidden <| loC (eI .i64) x_.Labels <| loN)])
  rcases zZ hf0 with ⟨c1, hf0⟩ | ⟨c1, hf0⟩
  ·obtain rfl := zl hf0
   exact yE X0 hC hE (Z1 ++ [Hq c1, Hm (shM YM YM [])])
  ·obtain ⟨r_2, h2, hf0⟩ := zo hf0
   let Z2 : List HO := (Z1 ++ [Hq c1, Hc h0h (x := x_) h2 (loC yV x_ <| loN)])
   rcases zZ hf0 with ⟨c2, hf0⟩ | ⟨c2, hf0⟩
   ·obtain rfl := zl hf0
    exact yE X0 hC hE (Z2 ++ [Hq c2, Hm (shM YM YM [])])
   ·let Z3 : List HO := (Z2 ++ [Hq c2, Ha (lnM yH r_2.1)])
    rcases zZ hf0 with ⟨c3, hf0⟩ | ⟨c3, hf0⟩
    ·obtain rfl := zl hf0
     exact yE X0 hC hE (Z3 ++ [Hq c3, Hm (shM YM YM [])])
    ·refine yJ X0 hC yN [1,1,1,1,1,1,1] [] [4,10] (fun z : List (List zg) => jX x_ z = some r0) (fun z => Wo x_ z) [(1, .d (eSl 1 false (eI .i64) hidden)), (2, .own (.box (yV x_))), (4, .own (.box (.agg [I 0, I 0, eOs 1 true YM []]))), (8, .d (eSl 1 true wE r_2.2.1)), (10, .own (.box (.agg [I 0, I x_.Labels, eOs 1 true YM []])))] (Z3 ++ [Hq c3, Hh (.cut 1)]) ?_ fun J1 hJ1 => ?_
     ·rintro out_Rows hf0
      unfold jX at hf0
      obtain ⟨r_3, h3, hf0⟩ := zo hf0
      obtain rfl := zl hf0
      exact yE X0 hC hE [Hg (z1v h0C), Hm (shM U0 U0 out_Rows), Hs (z1w h0C (x := out_Rows) h3 (loC (eSl 1 false U0) out_Rows <| loN)), Hm (shM U0 U0 out_Rows)]
     ·obtain ⟨t2, ht2, hf0⟩ := zo hf0
      refine yLx X0 hC yN [1,1,1,1,1,1,1,2,1,0] [J1] (fun s => jU x_ hidden r_2 s.1 s.2) (fun x => Wk x_ hidden r_2 x.1 x.2) (([] : List (List zg)), 0) ht2 [(1, .d (eSl 1 false (eI .i64) hidden)), (2, .own (.box (yV x_))), (4, .own (.box (.agg [I 0, I 0, eOs 1 true YM []]))), (10, .own (.box (.agg [I 0, I x_.Labels, eOs 1 true U0 []]))), (49, .d (eSl 1 true wE r_2.2.1)), (50, .d (I ((r_2.2.1.length : Nat) : Int))), (51, .d (I 0))] inferInstance [Ha (lnM wE r_2.2.1)] ?_
      rintro ⟨out_Rows1, x51⟩ m2 lr1 hf1 hl1 J2 hJ2
      try unfold jU at hf1
      rcases zZ hf1 with ⟨c4, hf1⟩ | ⟨c4, hf1⟩
      ·refine yJ X0 hC yN [1,1,1,1,1,1,1,2,1,0,0,1,1] [J1, J2] [1,2,4,10,49,50,51] (fun z : List (List zg) => jW x51 z = some lr1) (fun z => Wn x_ hidden r_2 x51 z) [(1, .d (eSl 1 false (eI .i64) hidden)), (2, .own (.box (yV x_))), (4, .own (.box (.agg [I 0, I 0, eOs 1 true YM []]))), (10, .own (.box (.agg [I 0, I x_.Labels, eOs 1 false U0 out_Rows1]))), (49, .d (eSl 1 true wE r_2.2.1)), (50, .d (I ((r_2.2.1.length : Nat) : Int))), (51, .d (I x51))] [Hq c4, Hh (.cut 0)] ?_ fun J3 hJ3 => ?_
       ·rintro out_Rows2 hf1
        unfold jW at hf1
        obtain rfl := zl hf1
        exact yB X0 hC hJ2 (out_Rows2, w64 (x51 + 1)) hl1 []
       ·obtain ⟨u_, h4, hf1⟩ := zo hf1
        refine yJ X0 hC yN [1,1,1,1,1,1,1,2,1,0,0,1,1,2,0,1,1] [J1, J2, J3] [1,2,4,10,13,49,50,51] (fun z : List zg => jV out_Rows1 x51 z = some lr1) (fun z => Wm x_ hidden r_2 out_Rows1 x51 z) [(1, .d (eSl 1 false (eI .i64) hidden)), (2, .own (.box (yV x_))), (4, .own (.box (.agg [I 0, I 0, eOs 1 true YM []]))), (10, .own (.box (.agg [I 0, I x_.Labels, eOs 1 false U0 out_Rows1]))), (12, .d (eSl 5 true qH u_)), (13, .own (eOs 3 true F8_ [])), (49, .d (eSl 1 true wE r_2.2.1)), (50, .d (I ((r_2.2.1.length : Nat) : Int))), (51, .d (I x51))] [Hi wE h4, Hh (.cut 1)] ?_ fun J4 hJ4 => ?_
        ·rintro row hf1
         unfold jV at hf1
         refine yA X0 hC yN [1,1,1,1,1,1,1,2,1,0,0,1,1,2,0,1,1,1] [J1, J2, J3] [(1, .d (eSl 1 false (eI .i64) hidden)), (2, .own (.box (yV x_))), (4, .own (.box (.agg [I 0, I 0, eOs 1 true YM []]))), (10, .own (.box (.agg [I 0, I x_.Labels, eOs 1 false U0 out_Rows1]))), (13, .own (eOs 3 false F8_ row)), (49, .d (eSl 1 true wE r_2.2.1)), (50, .d (I ((r_2.2.1.length : Nat) : Int))), (51, .d (I x51))] [Hh (.cut 0)] ?_
         obtain ⟨sorted, h5, hf1⟩ := zo hf1
         refine z1I (by kernel_rfl) (x := (sub [1,1,1,1,1,1,1,2,1,0,0,1,1,2,0,1,1,1,0] yN)) (y := (sub [1,1,1,1,1,1,1,2,1,0,0,1,1,2,0,1,1,1,1] yN)) 13 (fun st1 => Own.canon [1,2,4,10,13,49,50,51] st1 = ofL [(1, .d (eSl 1 false (eI .i64) hidden)), (2, .own (.box (yV x_))), (4, .own (.box (.agg [I 0, I 0, eOs 1 true YM []]))), (10, .own (.box (.agg [I 0, I x_.Labels, eOs 1 false U0 out_Rows1]))), (13, .own (eOs 3 false F8_ sorted)), (49, .d (eSl 1 true wE r_2.2.1)), (50, .d (I ((r_2.2.1.length : Nat) : Int))), (51, .d (I x51))]) (fun pv13 => yF ((jC (P := Tryz.prog) xZ [13] (z3L zcq (f := F8_) (t := false) (v := pv13) (fun _ => rfl) (fun _ => rfl) (fun x y c h => xV hC h0U (x := (x, y)) h) h5) 101).or X0) hC .normal [(1, .d (eSl 1 false (eI .i64) hidden)), (2, .own (.box (yV x_))), (4, .own (.box (.agg [I 0, I 0, eOs 1 true YM []]))), (10, .own (.box (.agg [I 0, I x_.Labels, eOs 1 false U0 out_Rows1]))), (13, .own (eOs 3 false F8_ sorted)), (49, .d (eSl 1 true wE r_2.2.1)), (50, .d (I ((r_2.2.1.length : Nat) : Int))), (51, .d (I x51))] [Hn (W5 (f := .fn 48 []) (xs := [.atom pv13, .fn 49 []]) (ls := [(pv13, eOs 3 false F8_ row)]) (r := .tup []) (ys := [eOs 3 false F8_ sorted]) [.atom pv13, .fn 49 []] (show z0w [.atom pv13, .fn 49 []] [.atom pv13, .fn 49 []] from inferInstance))] fun st0 h0 => ⟨rfl, h0⟩) fun st1 h1 => z0q h1 ?_
         obtain ⟨r_4, h6, hf1⟩ := zo hf1
         obtain ⟨r_5, h7, hf1⟩ := zo hf1
         let Z4 : List HO := [Hc h0V (x := sorted) h6 (loC (eOs 3 false F8_) sorted <| loN), Hg (z1v h0B), Hm (shM F8_ F8_ r_4), Hs (z1w h0B (x := r_4) h7 (loC YM r_4 <| loN)), Hm (shM F8_ F8_ r_4), Ha (lnM F8_ r_5)]
         rcases zZ hf1 with ⟨c5, hf1⟩ | ⟨c5, hf1⟩
         ·obtain rfl := zl hf1
          obtain rfl := hl1
          obtain rfl := zl hf0
          exact yE X0 hC hE (Z4 ++ [Hq c5, Hm (shM YM YM [])])
         ·obtain ⟨g0, hf1⟩ := gdE hf1
          exact yB X0 hC hJ3 (out_Rows1 ++ ([r_5] : List (List zg))) hf1 (Z4 ++ [Hq c5, Hq (dM U0 ([r_5] : List (List zg))), Hn (dM U0 ([r_5] : List (List zg))), Hn (aL U0 U0 g0), Hl (aM U0 out_Rows1 ([r_5] : List (List zg)))])
        ·obtain ⟨t5, ht5, hf1⟩ := zo hf1
         refine yLx X0 hC yN [1,1,1,1,1,1,1,2,1,0,0,1,1,2,0,1,1,2,1,0] [J1, J2, J3, J4] (fun s => jT x_ hidden u_ s.1 s.2) (fun x => Wj x_ hidden r_2 out_Rows1 x51 u_ x.1 x.2) (([] : List zg), 0) ht5 [(1, .d (eSl 1 false (eI .i64) hidden)), (2, .own (.box (yV x_))), (4, .own (.box (.agg [I 0, I 0, eOs 1 true YM []]))), (10, .own (.box (.agg [I 0, I x_.Labels, eOs 1 false U0 out_Rows1]))), (13, .own (eOs 3 true F8_ [])), (49, .d (eSl 1 true wE r_2.2.1)), (50, .d (I ((r_2.2.1.length : Nat) : Int))), (51, .d (I x51)), (55, .d (eSl 5 true qH u_)), (56, .d (I ((u_.length : Nat) : Int))), (57, .d (I 0))] inferInstance [Ha (lnM qH u_)] ?_
         rintro ⟨row1, x57⟩ m5 lr2 hf2 hl2 J5 hJ5
         try unfold jT at hf2
         rcases zZ hf2 with ⟨c6, hf2⟩ | ⟨c6, hf2⟩
         ·obtain ⟨u__e, h8, hf2⟩ := zo hf2
          obtain ⟨Part_e, h9, hf2⟩ := zo hf2
          obtain ⟨Arc_e, h10, hf2⟩ := zo hf2
          refine yJ X0 hC yN [1,1,1,1,1,1,1,2,1,0,0,1,1,2,0,1,1,2,1,0,0,1,1,0,0,1,1,1] [J1, J2, J3, J4, J5] [1,2,4,10,13,16,49,50,51,55,56,57] (fun z : Int × Int => vt row1 x57 u__e z.1 z.2 = some lr2) (fun z => Wl x_ hidden r_2 out_Rows1 x51 u_ row1 x57 u__e z.1 z.2) [(1, .d (eSl 1 false (eI .i64) hidden)), (2, .own (.box (yV x_))), (4, .own (.box (.agg [I 0, I 0, eOs 1 true YM []]))), (10, .own (.box (.agg [I 0, I x_.Labels, eOs 1 false U0 out_Rows1]))), (13, .own (eOs 3 false F8_ row1)), (16, .own (.box (.agg [.atom (.int .u8 0), I 0, I u__e.To]))), (17, .own (.box (vW Arc_e))), (49, .d (eSl 1 true wE r_2.2.1)), (50, .d (I ((r_2.2.1.length : Nat) : Int))), (51, .d (I x51)), (55, .d (eSl 5 true qH u_)), (56, .d (I ((u_.length : Nat) : Int))), (57, .d (I x57))] [Hq c6, Hi qH h8, Hi wH h9, Hi vW h10, Hh (.cut 0)] ?_ fun J6 hJ6 => ?_
          ·rintro ⟨arc_Kind, arc_Label⟩ hf2
           unfold vt at hf2
           obtain ⟨g1, hf2⟩ := gdE hf2
           obtain rfl := zl hf2
           exact yB X0 hC hJ5 ((row1 ++ ([(zg.mk arc_Kind arc_Label u__e.To)] : List zg)), w64 (x57 + 1)) hl2 [Hq (dM F8_ ([(zg.mk arc_Kind arc_Label u__e.To)] : List zg)), Hn (dM F8_ ([(zg.mk arc_Kind arc_Label u__e.To)] : List zg)), Hn (aL F8_ F8_ g1), Hl (aM F8_ row1 ([(zg.mk arc_Kind arc_Label u__e.To)] : List zg))]
          ·obtain ⟨r_6, h11, hf2⟩ := zo hf2
           let Z5 : List HO := [Hc h0T (x := (hidden, Arc_e.Message)) h11 (loC F2_ hidden <| loC (eI .i64) Arc_e.Message <| loN)]
           rcases zZ hf2 with ⟨c7, hf2⟩ | ⟨c7, hf2⟩
           ·rcases zZ hf2 with ⟨c8, hf2⟩ | ⟨c8, hf2⟩
            ·exact yB X0 hC hJ6 (2, Arc_e.Message) hf2 (Z5 ++ [Hq c7, Hq c7, Hq c7, Hq c8])
            ·exact yB X0 hC hJ6 (0,0) hf2 (Z5 ++ [Hq c7, Hq c7, Hq c7, Hq c8])
           ·exact yB X0 hC hJ6 (0,0) hf2 (Z5 ++ [Hq c7, Hq c7, Hq c7, qF])
         ·obtain rfl := zl hf2
          obtain rfl := hl2
          exact yB X0 hC hJ4 row1 hf1 [Hq c6]
      ·obtain rfl := zl hf1
       obtain rfl := hl1
       exact yB X0 hC hJ1 out_Rows1 hf0 [Hq c4]
def uP : Code := (Tryz.f18.body).getD .skip
def Zf : yU := spF (α := zG × zG) (ρ := Int) 18 (fun x => [z3B x.1, z3B x.2]) (fun r => (eI .i64) r) (fun x => Zr x.1 x.2) [] (Uu)
abbrev Vv : List (Nat × T) := []
abbrev Vu (a_ : zG) (b_ : zG) (i_ : Int) : List (Nat × T) := [(2, .own (.box (z3B a_))), (3, .own (.box (z3B b_))), (5, .d (I i_))]
abbrev Vs (a_ : zG) (b_ : zG) (i_ : Int) (k_ : Int) : List (Nat × T) := [(2, .own (.box (z3B a_))), (3, .own (.box (z3B b_))), (5, .d (I i_)), (6, .d (I k_))]
abbrev Vt (a_ : zG) (b_ : zG) (i_ : Int) : List (Nat × T) := [(2, .own (.box (z3B a_))), (3, .own (.box (z3B b_))), (5, .d (I i_))]
theorem Jd {ctr : Ctr} (hC : zT Tryz.prog ctr) : Zf.Ok Tryz.prog := by
 refine y4 ?_
 rintro ⟨a_, b_⟩ r0 hf0
 try unfold Zr at hf0
 refine yO true [(4, none)] uP 75 Tryz.func18 fun E hE => ?_
 rcases zZ hf0 with ⟨c0, hf0⟩ | ⟨c0, hf0⟩
 ·obtain rfl := zl hf0
  exact yE X0 hC hE (rpN 6 (Hq c0) (rpN 9 qT []))
 ·let Z0 : List HO := (rpN 6 (Hq c0) [])
  rcases zZ hf0 with ⟨c1, hf0⟩ | ⟨c1, hf0⟩
  ·obtain rfl := zl hf0
   exact yE X0 hC hE (Z0 ++ (rpN 8 (Hq c1) [qT]))
  ·let Z1 : List HO := (Z0 ++ [Hq c1, Hq c1, Hq c1, Ha (lnM YM a_.Rows), Hq c1, Hq c1, Hq c1, Ha (lnM YM b_.Rows), Hq c1, Hq c1])
   rcases zZ hf0 with ⟨c2, hf0⟩ | ⟨c2, hf0⟩
   ·obtain rfl := zl hf0
    exact yE X0 hC hE (Z1 ++ [Hq c2])
   ·refine yJ X0 hC uP [1,1] [] [] (fun z : Unit => Zj = some r0) (fun z => Vv) [(2, .own (.box (z3B a_))), (3, .own (.box (z3B b_)))] (Z1 ++ [Hq c2, Hh (.cut 0)]) ?_ fun J1 hJ1 => ?_
    ·rintro ⟨⟩ hf0
     unfold Zj at hf0
     obtain rfl := zl hf0
     exact yE X0 hC hE []
    ·obtain ⟨t2, ht2, hf0⟩ := zo hf0
     refine yL X0 hC uP [1,1,2,1,0] [J1] (fun s => Zh a_ b_ s) (fun x => Vt a_ b_ x) 0 ht2  [] ?_
     rintro i_ m2 lr1 hf1 hl1 J2 hJ2
     try unfold Zh at hf1
     let Z2 : List HO := [Ha (lnM YM a_.Rows)]
     rcases zZ hf1 with ⟨c3, hf1⟩ | ⟨c3, hf1⟩
     ·refine yJ X0 hC uP [1,1,2,1,0,0,1] [J1, J2] [2,3,5] (fun z : Unit => Zi i_ = some lr1) (fun z => Vu a_ b_ i_) [(2, .own (.box (z3B a_))), (3, .own (.box (z3B b_))), (5, .d (I i_))] (Z2 ++ [Hq c3, Hh (.cut 0)]) ?_ fun J3 hJ3 => ?_
      ·rintro ⟨⟩ hf1
       unfold Zi at hf1
       obtain rfl := zl hf1
       exact yB X0 hC hJ2 (w64 (i_ + 1)) hl1 []
      ·obtain ⟨Row_e, h0, hf1⟩ := zo hf1
       obtain ⟨Row_e1, h1, hf1⟩ := zo hf1
       let Z3 : List HO := [Hi YM h0, Ha (lnM F8_ Row_e), Hi YM h1, Ha (lnM F8_ Row_e1)]
       rcases zZ hf1 with ⟨c4, hf1⟩ | ⟨c4, hf1⟩
       ·obtain rfl := zl hf1
        obtain rfl := hl1
        obtain rfl := zl hf0
        exact yE X0 hC hE (Z3 ++ [Hq c4])
       ·obtain ⟨t4, ht4, hf1⟩ := zo hf1
        refine yL X0 hC uP [1,1,2,1,0,0,1,2,0,1,1,0] [J1, J2, J3] (fun s => Zg a_ b_ i_ s) (fun x => Vs a_ b_ i_ x) 0 ht4  (Z3 ++ [Hq c4]) ?_
        rintro k_ m4 lr2 hf2 hl2 J4 hJ4
        try unfold Zg at hf2
        obtain ⟨Row_e2, h2, hf2⟩ := zo hf2
        let Z4 : List HO := [Hi YM h2, Ha (lnM F8_ Row_e2)]
        rcases zZ hf2 with ⟨c5, hf2⟩ | ⟨c5, hf2⟩
        ·obtain ⟨Row_e3, h3, hf2⟩ := zo hf2
         obtain ⟨Row_e_e, h4, hf2⟩ := zo hf2
         obtain ⟨Row_e4, h5, hf2⟩ := zo hf2
         obtain ⟨Row_e_e1, h6, hf2⟩ := zo hf2
         let Z5 : List HO := (Z4 ++ [Hq c5, Hi YM h3, Hi F8_ h4, Hi YM h5, Hi F8_ h6])
         rcases zZ hf2 with ⟨c6, hf2⟩ | ⟨c6, hf2⟩
         ·obtain rfl := zl hf2
          obtain rfl := hl2
          obtain rfl := zl hf1
          obtain rfl := hl1
          obtain rfl := zl hf0
          exact yE X0 hC hE (Z5 ++ [Hq c6])
         ·obtain rfl := zl hf2
          exact yB X0 hC hJ4 (w64 (k_ + 1)) hl2 (Z5 ++ [Hq c6])
        ·obtain rfl := zl hf2
         obtain rfl := hl2
         exact yB X0 hC hJ3 () hf1 (Z4 ++ [Hq c5])
     ·obtain rfl := zl hf1
      obtain rfl := hl1
      exact yB X0 hC hJ1 () hf0 (Z2 ++ [Hq c3])
def uF : Code := (Tryz.f92.body).getD .skip
def uw : yU := spF (α := List Int × Int) (ρ := Int) 92 (fun x => [F2_ x.1, (eI .i64) x.2]) (fun r => (eI .i64) r) (fun x => j4 x.1 x.2) [] (Uu)
abbrev Yf : List (Nat × T) := []
abbrev Ye (s_ : List Int) (v_ : Int) (x8 : Int) : List (Nat × T) := [(0, .d (eSl 1 false (eI .i64) s_)), (1, .d (I v_)), (7, .d (I ((s_.length : Nat) : Int))), (8, .d (I x8))]
theorem XL {ctr : Ctr} (hC : zT Tryz.prog ctr) : uw.Ok Tryz.prog := by
 refine y4 ?_
 rintro ⟨s_, v_⟩ r0 hf0
 try unfold j4 at hf0
 refine yO true [(4, none)] uF 19 Tryz.func92 fun E hE => ?_
 refine yJ X0 hC uF [1] [] [] (fun z : Unit => uB = some r0) (fun z => Yf) [(0, .d (eSl 1 false (eI .i64) s_)), (1, .d (I v_))] [Hh (.cut 1)] ?_ fun J1 hJ1 => ?_
 ·rintro ⟨⟩ hf0
  unfold uB at hf0
  obtain rfl := zl hf0
  exact yE X0 hC hE []
 ·obtain ⟨t2, ht2, hf0⟩ := zo hf0
  refine yL X0 hC uF [1,2,1,0] [J1] (fun s => uA s_ v_ s) (fun x => Ye s_ v_ x) 0 ht2  [Ha (lnM (eI .i64) s_)] ?_
  rintro x8 m2 lr1 hf1 hl1 J2 hJ2
  try unfold uA at hf1
  rcases zZ hf1 with ⟨c0, hf1⟩ | ⟨c0, hf1⟩
  ·obtain ⟨s__e, h0, hf1⟩ := zo hf1
   rcases zZ hf1 with ⟨c1, hf1⟩ | ⟨c1, hf1⟩
   ·obtain rfl := zl hf1
    obtain rfl := hl1
    obtain rfl := zl hf0
    exact yE X0 hC hE [Hq c0, Hi (eI .i64) h0, Hq c1]
   ·obtain rfl := zl hf1
    exact yB X0 hC hJ2 (w64 (x8 + 1)) hl1 [Hq c0, Hi (eI .i64) h0, Hq c1]
  ·obtain rfl := zl hf1
   obtain rfl := hl1
   exact yB X0 hC hJ1 () hf0 [Hq c0]
def Y4 : Code := (Tryz.f73.body).getD .skip
def vb : yU := spF (α := List Int × Int) (ρ := Bool) 73 (fun x => [F2_ x.1, (eI .i64) x.2]) (fun r => eB r) (fun x => uC x.1 x.2) [] (Uu)
theorem Ym {ctr : Ctr} (hC : zT Tryz.prog ctr) (h0W : ctr.Has uw) : vb.Ok Tryz.prog := by
 refine y4 ?_
 rintro ⟨s_, v_⟩ r0 hf0
 try unfold uC at hf0
 refine yO true [(4, none)] Y4 9 Tryz.func73 fun E hE => ?_
 obtain ⟨r_, h0, hf0⟩ := zo hf0
 obtain rfl := zl hf0
 exact yE X0 hC hE [Hc h0W (x := (s_, v_)) h0 (loC F2_ s_ <| loC (eI .i64) v_ <| loN)]
def uE : Code := (Tryz.f42.body).getD .skip
def uv : yU := spF (α := z8 × zb) (ρ := Bool) 42 (fun x => [yV x.1, yH x.2]) (fun r => eB r) (fun x => qY x.1 x.2) [] (Uu)
abbrev Y8 (s_ : zb) : List (Nat × T) := [(3, .own (.box (yH s_)))]
abbrev Y7 (x_ : z8) (s_ : zb) (x10 : Int) : List (Nat × T) := [(3, .own (.box (yH s_))), (8, .d (eSl 3 false wH x_.Parts)), (9, .d (I ((x_.Parts.length : Nat) : Int))), (10, .d (I x10))]
theorem XI {ctr : Ctr} (hC : zT Tryz.prog ctr) (h0X : ctr.Has vb) : uv.Ok Tryz.prog := by
 refine y4 ?_
 rintro ⟨x_, s_⟩ r0 hf0
 try unfold qY at hf0
 refine yO true [(4, none)] uE 28 Tryz.func42 fun E hE => ?_
 refine yJ X0 hC uE [1] [] [3] (fun z : Unit => un s_ = some r0) (fun z => Y8 s_) [(2, .own (.box (yV x_))), (3, .own (.box (yH s_)))] [Hh (.cut 1)] ?_ fun J1 hJ1 => ?_
 ·rintro ⟨⟩ hf0
  unfold un at hf0
  obtain rfl := zl hf0
  exact yE ((zcj zR 27).or X0) hC hE []
 ·obtain ⟨t2, ht2, hf0⟩ := zo hf0
  refine yL X0 hC uE [1,2,1,0] [J1] (fun s => um x_ s_ s) (fun x => Y7 x_ s_ x) 0 ht2  [Ha (lnM wH x_.Parts)] ?_
  rintro x10 m2 lr1 hf1 hl1 J2 hJ2
  try unfold um at hf1
  rcases zZ hf1 with ⟨c0, hf1⟩ | ⟨c0, hf1⟩
  ·obtain ⟨Part_e, h0, hf1⟩ := zo hf1
   obtain ⟨cell, h1, hf1⟩ := zo hf1
   obtain ⟨r_, h2, hf1⟩ := zo hf1
   let Z0 : List HO := [Hq c0, Hi wH h0, Hn (⟨arJ (by kernel_rfl) (i0 h1), (iL (eI .i64) h1).2⟩ : Y6 xZ 110 ((zD.toL s_.states_).map (eI .i64)) x10 = true ∧ x10.toNat < ((zD.toL s_.states_).map (eI .i64)).length), Hh (.op 9), Hh (.f), Hx (.a (.agg [I s_.states_.e0, I s_.states_.e1, I s_.states_.e2, I s_.states_.e3])) (rfl : some (.agg [I s_.states_.e0, I s_.states_.e1, I s_.states_.e2, I s_.states_.e3] : A) = some (.agg [I s_.states_.e0, I s_.states_.e1, I s_.states_.e2, I s_.states_.e3])), Hh (.f), Hs (iM (eI .i64) h1), Hc h0X (x := (Part_e.Final, cell)) h2 (loC F2_ Part_e.Final <| loC (eI .i64) cell <| loN)]
   rcases zZ hf1 with ⟨c1, hf1⟩ | ⟨c1, hf1⟩
   ·obtain rfl := zl hf1
    obtain rfl := hl1
    obtain rfl := zl hf0
    exact yE X0 hC hE (Z0 ++ [Hq c1])
   ·obtain rfl := zl hf1
    exact yB X0 hC hJ2 (w64 (x10 + 1)) hl1 (Z0 ++ [Hq c1])
  ·obtain rfl := zl hf1
   obtain rfl := hl1
   exact yB X0 hC hJ1 () hf0 [Hq c0]
def xW : Code := (Tryz.f43.body).getD .skip
abbrev vP (s_1 : List za) (i_ : Int) (j_ : Int) : List (Nat × T) := [(0, .own (eOs 4 false xu s_1)), (2, .d (I i_)), (3, .d (I j_))]
theorem uH {ctr : Ctr} (hC : zT Tryz.prog ctr) (cv0 : Value) : ∀ (s_ : List za) (r0 : List za), x6 s_ = some r0 → Zn Tryz.prog (.fn 43 []) [.atom cv0] ([cv0].zip [eOs 4 false xu s_]) (.tup []) [eOs 4 false xu r0] := by
 intro s_ r0 hf0
 refine z6p (tt := xZ) (nt := 28) (body := xW) [0] zR Tryz.func43 rfl (by kernel_rfl) rfl rfl (by show (1 : Nat) ≤ 28; decide) (by decide) rfl rfl (fun E hE => ?_) rfl
 unfold x6 at hf0
 refine zaJ 0 (v := cv0) (y := eOs 4 false xu s_) (by kernel_rfl) (by kernel_rfl) (by kernel_rfl) fun hv0 => ?_
 obtain ⟨t1, ht1, hf0⟩ := zo hf0
 refine yL X0 hC xW [1,0] [] (fun s => yR s.1 s.2.1 s.2.2) (fun x => vP x.1 x.2.1 x.2.2) (s_, 0, w64 (((s_.length : Nat) : Int) - 1)) ht1  [Ha (lnM xu s_)] ?_
 rintro ⟨s_1, i_, j_⟩ m1 lr1 hf1 hl1 J1 hJ1
 try unfold yR at hf1
 rcases zZ hf1 with ⟨c0, hf1⟩ | ⟨c0, hf1⟩
 ·obtain ⟨s__e, h0, hf1⟩ := zo hf1
  obtain ⟨s__e1, h1, hf1⟩ := zo hf1
  obtain ⟨s__e2, h2, hf1⟩ := zo hf1
  obtain ⟨u_e, h3, hf1⟩ := zo hf1
  obtain rfl := zl hf1
  exact yB ((xIx zR 27 0 cv0).or ((xMv Tryz.prog 16 0 cv0 hv0).or X0)) hC hJ1 (((s_1.set i_.toNat s__e).set j_.toNat s__e1), w64 (i_ + 1), w64 (j_ - 1)) hl1 [Hq c0, Hn (rfl : some cv0 = some cv0), Hn (iL xu h0), Hs (iM xu h0), Hn (iL xu h1), Hs (iM xu h1), Hn (iL xu h2), Hs (iM xu h2), Hs (iM xu h2), Hl (sM xu s_1 i_ s__e), Hn (⟨rfl, rfl⟩ : T.d (.atom cv0) = T.d (.atom cv0) ∧ some cv0 = some cv0), Hn (iL xu h3), Hs (iM xu h3), Hs (iM xu h3), Hl (sM xu (s_1.set i_.toNat s__e) j_ s__e1)]
 ·obtain rfl := zl hf1
  obtain rfl := hl1
  obtain rfl := zl hf0
  exact yF X0 hC .normal [(0, .own (eOs 4 false xu s_1))] [Hq c0] fun st0 h0 => hE _ st0 (.inl rfl) (z49 h0 ⟨⟨rfl, rfl⟩, trivial⟩)
def zW : Code := (Tryz.f12.body).getD .skip
def jv : yU := spF (α := z8) (ρ := List za × z7 × Int) 12 (fun x => [yV x]) (fun r => .tup [z5r r.1, Kj r.2.1, (eI .i64) r.2.2]) (fun x => jf x) [] (Qp)
abbrev XX : List (Nat × T) := [(3, .own (.box (.agg [eOs 1 true (eI .i64) [], eOs 1 true F2_ []])))]
abbrev XW (x_ : z8) (r_1 : List zb × List (List z6) × Int) (by_ : List zu) (x69 : Int) : List (Nat × T) := [(1, .own (.box (yV x_))), (3, .own (.box (.agg [eOs 1 true (eI .i64) [], eOs 1 true F2_ []]))), (6, .d (eSl 24 false yH r_1.1)), (9, .own (eOs 5 true Qj by_)), (67, .d (eSl 1 true wE r_1.2.1)), (68, .d (I ((r_1.2.1.length : Nat) : Int))), (69, .d (I x69))]
abbrev XV (x_ : z8) (r_1 : List zb × List (List z6) × Int) (x69 : Int) (run : List za) : List (Nat × T) := [(1, .own (.box (yV x_))), (3, .own (.box (.agg [eOs 1 true (eI .i64) [], eOs 1 true F2_ []]))), (6, .d (eSl 24 false yH r_1.1)), (15, .d (I x69)), (17, .own (eOs 4 false xu run))]
abbrev XS (x_ : z8) (r_1 : List zb × List (List z6) × Int) (by_ : List zu) (x69 : Int) (run1 : List za) (n_ : Int) : List (Nat × T) := [(1, .own (.box (yV x_))), (3, .own (.box (.agg [eOs 1 true (eI .i64) [], eOs 1 true F2_ []]))), (6, .d (eSl 24 false yH r_1.1)), (9, .own (eOs 5 true Qj by_)), (15, .d (I x69)), (17, .own (eOs 4 false xu run1)), (18, .d (I n_))]
abbrev XT (x_ : z8) (r_1 : List zb × List (List z6) × Int) (by_ : List zu) (x69 : Int) : List (Nat × T) := [(1, .own (.box (yV x_))), (3, .own (.box (.agg [eOs 1 true (eI .i64) [], eOs 1 true F2_ []]))), (6, .d (eSl 24 false yH r_1.1)), (9, .own (eOs 5 true Qj by_)), (67, .d (eSl 1 true wE r_1.2.1)), (68, .d (I ((r_1.2.1.length : Nat) : Int))), (69, .d (I x69))]
abbrev XY (x_ : z8) (r_1 : List zb × List (List z6) × Int) (by_ : List zu) : List (Nat × T) := [(1, .own (.box (yV x_))), (3, .own (.box (.agg [eOs 1 true (eI .i64) [], eOs 1 true F2_ []]))), (6, .d (eSl 24 false yH r_1.1)), (7, .d (eSl 1 true wE r_1.2.1)), (9, .own (eOs 5 true Qj by_))]
abbrev XU (x_ : z8) (r_1 : List zb × List (List z6) × Int) (x40 : Int) (by_2 : List zu) (seen1 : Int) : List (Nat × T) := [(1, .own (.box (yV x_))), (3, .own (.box (.agg [eOs 1 true (eI .i64) [], eOs 1 true F2_ []]))), (6, .d (eSl 24 false yH r_1.1)), (7, .d (eSl 1 true wE r_1.2.1)), (9, .own (eOs 5 true Qj by_2)), (10, .d (I seen1)), (38, .d (eSl 1 true wE r_1.2.1)), (39, .d (I ((r_1.2.1.length : Nat) : Int))), (40, .d (I x40))]
abbrev XA (x_ : z8) (r_1 : List zb × List (List z6) × Int) (x40 : Int) (u_3 : List z6) (x47 : Int) (by_4 : List zu) (seen3 : Int) : List (Nat × T) := [(1, .own (.box (yV x_))), (3, .own (.box (.agg [eOs 1 true (eI .i64) [], eOs 1 true F2_ []]))), (6, .d (eSl 24 false yH r_1.1)), (7, .d (eSl 1 true wE r_1.2.1)), (9, .own (eOs 5 true Qj by_4)), (10, .d (I seen3)), (11, .d (I x40)), (38, .d (eSl 1 true wE r_1.2.1)), (39, .d (I ((r_1.2.1.length : Nat) : Int))), (40, .d (I x40)), (45, .d (eSl 5 true qH u_3)), (46, .d (I ((u_3.length : Nat) : Int))), (47, .d (I x47))]
abbrev XQ (x_ : z8) (r_1 : List zb × List (List z6) × Int) (x40 : Int) (u_3 : List z6) (by_3 : List zu) (seen2 : Int) (x47 : Int) : List (Nat × T) := [(1, .own (.box (yV x_))), (3, .own (.box (.agg [eOs 1 true (eI .i64) [], eOs 1 true F2_ []]))), (6, .d (eSl 24 false yH r_1.1)), (7, .d (eSl 1 true wE r_1.2.1)), (9, .own (eOs 5 true Qj by_3)), (10, .d (I seen2)), (11, .d (I x40)), (38, .d (eSl 1 true wE r_1.2.1)), (39, .d (I ((r_1.2.1.length : Nat) : Int))), (40, .d (I x40)), (45, .d (eSl 5 true qH u_3)), (46, .d (I ((u_3.length : Nat) : Int))), (47, .d (I x47))]
abbrev XR (x_ : z8) (r_1 : List zb × List (List z6) × Int) (by_1 : List zu) (seen : Int) (x40 : Int) : List (Nat × T) := [(1, .own (.box (yV x_))), (3, .own (.box (.agg [eOs 1 true (eI .i64) [], eOs 1 true F2_ []]))), (6, .d (eSl 24 false yH r_1.1)), (7, .d (eSl 1 true wE r_1.2.1)), (9, .own (eOs 5 true Qj by_1)), (10, .d (I seen)), (38, .d (eSl 1 true wE r_1.2.1)), (39, .d (I ((r_1.2.1.length : Nat) : Int))), (40, .d (I x40))]
theorem Vx {ctr : Ctr} (hC : zT Tryz.prog ctr) (h07 : ctr.Has vg) (h0h : ctr.Has xU) (h0Y : ctr.Has uv) (h0f : ctr.Has ye) (h0g : ctr.Has xI) : jv.Ok Tryz.prog := by
 refine y4 ?_
 rintro x_ r0 hf0
 try unfold jf at hf0
 refine yO false [(2, none), (3, some 39), (4, none)] zW 113 Tryz.func12 fun E hE => ?_
 obtain ⟨r_, h0, hf0⟩ := zo hf0
 let Z0 : List HO := [Hc h07 (x := x_) h0 (loC yV x_ <| loN)]
 rcases zZ hf0 with ⟨c0, hf0⟩ | ⟨c0, hf0⟩
 ·obtain rfl := zl hf0
  exact yEx X0 hC hE (Z0 ++ [Hq c0, Hm (shM xu xu []), Hm (shM (eI .i64) (eI .i64) []), Hm (shM F2_ F2_ [])]) (.tup [eSl 4 true xu [], .agg [eSl 1 true (eI .i64) [], eSl 1 true F1_ []], I r_]) (show LeV (.tup [eSl 4 true xu [], .agg [eSl 1 true (eI .i64) [], eSl 1 true F1_ []], I r_]) (.tup [eSl 4 true xu ([] : List za), .agg [eSl 1 true (eI .i64) [], eSl 1 true F1_ []], I r_]) from inferInstance)
 ·obtain ⟨r_1, h1, hf0⟩ := zo hf0
  let Z1 : List HO := (Z0 ++ [Hq c0, Hc h0h (x := x_) h1 (loC yV x_ <| loN)])
  rcases zZ hf0 with ⟨c1, hf0⟩ | ⟨c1, hf0⟩
  ·obtain rfl := zl hf0
   exact yEx X0 hC hE (Z1 ++ [Hq c1, Hm (shM xu xu []), Hm (shM (eI .i64) (eI .i64) []), Hm (shM F2_ F2_ [])]) (.tup [eSl 4 true xu [], .agg [eSl 1 true (eI .i64) [], eSl 1 true F1_ []], I r_1.2.2]) (show LeV (.tup [eSl 4 true xu [], .agg [eSl 1 true (eI .i64) [], eSl 1 true F1_ []], I r_1.2.2]) (.tup [eSl 4 true xu ([] : List za), .agg [eSl 1 true (eI .i64) [], eSl 1 true F1_ []], I r_1.2.2]) from inferInstance)
  ·obtain ⟨g0, hf0⟩ := gdE hf0
   refine yJ X0 hC zW [1,1,1,1,1,1] [] [1,3,6,7,9] (fun z : List zu => ju x_ r_1 z = some r0) (fun z => XY x_ r_1 z) [(1, .own (.box (yV x_))), (3, .own (.box (.agg [eOs 1 true (eI .i64) [], eOs 1 true F2_ []]))), (6, .d (eSl 24 false yH r_1.1)), (7, .d (eSl 1 true wE r_1.2.1)), (9, .own (eOs 5 true Qj (List.replicate ((r_1.1.length : Nat) : Int).toNat (zu.mk 0 (za.mk 0 0 0 0))))), (10, .d (I 1))] (Z1 ++ [Hq c1, Ha (lnM yH r_1.1), Hn (rL g0), Ha (rM 5 Qj ((r_1.1.length : Nat) : Int) (zu.mk 0 (za.mk 0 0 0 0))), Hh (.cut 1)]) ?_ fun J1 hJ1 => ?_
   ·rintro by_ hf0
    unfold ju at hf0
    refine yJ X0 hC zW [1,1,1,1,1,1,1] [] [3] (fun z : Unit => jt = some r0) (fun z => XX) [(1, .own (.box (yV x_))), (3, .own (.box (.agg [eOs 1 true (eI .i64) [], eOs 1 true F2_ []]))), (6, .d (eSl 24 false yH r_1.1)), (7, .d (eSl 1 true wE r_1.2.1)), (9, .own (eOs 5 true Qj by_))] [Hh (.cut 0)] ?_ fun J2 hJ2 => ?_
    ·rintro ⟨⟩ hf0
     unfold jt at hf0
     obtain rfl := zl hf0
     exact yEx X0 hC hE [Hm (shM xu xu []), Hm (shM (eI .i64) (eI .i64) []), Hm (shM F2_ F2_ [])] (.tup [eSl 4 true xu [], .agg [eSl 1 true (eI .i64) [], eSl 1 true F1_ []], I 7]) (show LeV (.tup [eSl 4 true xu [], .agg [eSl 1 true (eI .i64) [], eSl 1 true F1_ []], I 7]) (.tup [eSl 4 true xu ([] : List za), .agg [eSl 1 true (eI .i64) [], eSl 1 true F1_ []], I 7]) from inferInstance)
    ·obtain ⟨t3, ht3, hf0⟩ := zo hf0
     refine yL X0 hC zW [1,1,1,1,1,1,1,2,1,0] [J2] (fun s => jq x_ r_1 by_ s) (fun x => XT x_ r_1 by_ x) 0 ht3  [Ha (lnM wE r_1.2.1)] ?_
     rintro x69 m3 lr1 hf1 hl1 J3 hJ3
     try unfold jq at hf1
     rcases zZ hf1 with ⟨c2, hf1⟩ | ⟨c2, hf1⟩
     ·refine yJ X0 hC zW [1,1,1,1,1,1,1,2,1,0,0,1,1] [J2, J3] [1,3,6,9,67,68,69] (fun z : Unit => ut x69 = some lr1) (fun z => XW x_ r_1 by_ x69) [(1, .own (.box (yV x_))), (3, .own (.box (.agg [eOs 1 true (eI .i64) [], eOs 1 true F2_ []]))), (6, .d (eSl 24 false yH r_1.1)), (9, .own (eOs 5 true Qj by_)), (67, .d (eSl 1 true wE r_1.2.1)), (68, .d (I ((r_1.2.1.length : Nat) : Int))), (69, .d (I x69))] [Hq c2, Hh (.cut 0)] ?_ fun J4 hJ4 => ?_
      ·rintro ⟨⟩ hf1
       unfold ut at hf1
       obtain rfl := zl hf1
       exact yB X0 hC hJ3 (w64 (x69 + 1)) hl1 []
      ·obtain ⟨u_, h2, hf1⟩ := zo hf1
       let Z2 : List HO := [Hi wE h2, Ha (lnM qH u_)]
       rcases zZ hf1 with ⟨c3, hf1⟩ | ⟨c3, hf1⟩
       ·exact yB X0 hC hJ4 () hf1 (Z2 ++ (rpN 7 (Hq c3) [qT]))
       ·obtain ⟨u_1, h3, hf1⟩ := zo hf1
        obtain ⟨r_2, h4, hf1⟩ := zo hf1
        let Z3 : List HO := (Z2 ++ (rpN 4 (Hq c3) [Hi yH h3, Hq c3, Hq c3, Hc h0Y (x := (x_, u_1)) h4 (loC yV x_ <| loC yH u_1 <| loN), Hq c3]))
        rcases zZ hf1 with ⟨c4, hf1⟩ | ⟨c4, hf1⟩
        ·exact yB X0 hC hJ4 () hf1 (Z3 ++ [Hq c4])
        ·refine yJ X0 hC zW [1,1,1,1,1,1,1,2,1,0,0,1,1,2,0,1,1,1] [J2, J3, J4] [1,3,6,15,17] (fun z : List za => js x_ r_1 x69 z = some lr1) (fun z => XV x_ r_1 x69 z) [(1, .own (.box (yV x_))), (3, .own (.box (.agg [eOs 1 true (eI .i64) [], eOs 1 true F2_ []]))), (6, .d (eSl 24 false yH r_1.1)), (9, .own (eOs 5 true Qj by_)), (15, .d (I x69)), (17, .own (eOs 4 true xu []))] (Z3 ++ [Hq c4, Hh (.cut 1)]) ?_ fun J5 hJ5 => ?_
         ·rintro run hf1
          unfold js at hf1
          refine yA X0 hC zW [1,1,1,1,1,1,1,2,1,0,0,1,1,2,0,1,1,1,1] [J2, J3, J4] [(1, .own (.box (yV x_))), (3, .own (.box (.agg [eOs 1 true (eI .i64) [], eOs 1 true F2_ []]))), (6, .d (eSl 24 false yH r_1.1)), (15, .d (I x69)), (17, .own (eOs 4 false xu run))] [Hh (.cut 0)] ?_
          obtain ⟨r_3, h5, hf1⟩ := zo hf1
          refine z1I (by kernel_rfl) (x := (sub [1,1,1,1,1,1,1,2,1,0,0,1,1,2,0,1,1,1,1,0] zW)) (y := (sub [1,1,1,1,1,1,1,2,1,0,0,1,1,2,0,1,1,1,1,1] zW)) 17 (fun st1 => Own.canon [1,3,6,15,17] st1 = ofL [(1, .own (.box (yV x_))), (3, .own (.box (.agg [eOs 1 true (eI .i64) [], eOs 1 true F2_ []]))), (6, .d (eSl 24 false yH r_1.1)), (15, .d (I x69)), (17, .own (eOs 4 false xu r_3))]) (fun pv17 => yF ((jC (P := Tryz.prog) xZ [17] (uH hC pv17 _ _ h5) 102).or X0) hC .normal [(1, .own (.box (yV x_))), (3, .own (.box (.agg [eOs 1 true (eI .i64) [], eOs 1 true F2_ []]))), (6, .d (eSl 24 false yH r_1.1)), (15, .d (I x69)), (17, .own (eOs 4 false xu r_3))] [Hn (W5 (f := .fn 43 []) (xs := [.atom pv17]) (ls := [(pv17, eOs 4 false xu run)]) (r := .tup []) (ys := [eOs 4 false xu r_3]) [.atom pv17] (show z0w [.atom pv17] [.atom pv17] from inferInstance))] fun st0 h0 => ⟨rfl, h0⟩) fun st1 h1 => z0q h1 ?_
          obtain ⟨r_4, h6, hf1⟩ := zo hf1
          obtain ⟨u_2, h7, hf1⟩ := zo hf1
          obtain ⟨r_5, h8, hf1⟩ := zo hf1
          obtain rfl := zl hf1
          obtain rfl := hl1
          obtain rfl := zl hf0
          exact yE X0 hC hE [Hg (z1v h0f), Hm (shM xu xu r_3), Hs (z1w h0f (x := r_3) h6 (loC z9q r_3 <| loN)), Hm (shM xu xu r_3), Hi yH h7, Hc h0g (x := (x_, u_2)) h8 (loC yV x_ <| loC yH u_2 <| loN)]
         ·obtain ⟨t6, ht6, hf1⟩ := zo hf1
          refine yLx X0 hC zW [1,1,1,1,1,1,1,2,1,0,0,1,1,2,0,1,1,1,2,1,0] [J2, J3, J4, J5] (fun s => jp by_ s.1 s.2) (fun x => XS x_ r_1 by_ x69 x.1 x.2) (([] : List za), x69) ht6 [(1, .own (.box (yV x_))), (3, .own (.box (.agg [eOs 1 true (eI .i64) [], eOs 1 true F2_ []]))), (6, .d (eSl 24 false yH r_1.1)), (9, .own (eOs 5 true Qj by_)), (15, .d (I x69)), (17, .own (eOs 4 true xu [])), (18, .d (I x69))] inferInstance [] ?_
          rintro ⟨run1, n_⟩ m6 lr2 hf2 hl2 J6 hJ6
          try unfold jp at hf2
          rcases zZ hf2 with ⟨c5, hf2⟩ | ⟨c5, hf2⟩
          ·obtain ⟨by__e, h9, hf2⟩ := zo hf2
           obtain ⟨g1, hf2⟩ := gdE hf2
           obtain ⟨by__e1, h10, hf2⟩ := zo hf2
           obtain rfl := zl hf2
           exact yB X0 hC hJ6 ((run1 ++ ([by__e.move_] : List za)), by__e1.from_) hl2 [Hq c5, Hn (iL Qj h9), Hs (iM Qj h9), Hs (iM Qj h9), Hq (dM xu ([by__e.move_] : List za)), Hn (dM xu ([by__e.move_] : List za)), Hn (aL xu xu g1), Hl (aM xu run1 ([by__e.move_] : List za)), Hn (iL Qj h10), Hs (iM Qj h10), Hs (iM Qj h10)]
          ·obtain rfl := zl hf2
           obtain rfl := hl2
           exact yB X0 hC hJ5 run1 hf1 [Hq c5]
     ·obtain rfl := zl hf1
      obtain rfl := hl1
      exact yB X0 hC hJ2 () hf0 [Hq c2]
   ·obtain ⟨t7, ht7, hf0⟩ := zo hf0
    refine yL X0 hC zW [1,1,1,1,1,1,2,1,0] [J1] (fun s => jo r_1 s.1 s.2.1 s.2.2) (fun x => XR x_ r_1 x.1 x.2.1 x.2.2) ((List.replicate ((r_1.1.length : Nat) : Int).toNat (zu.mk 0 (za.mk 0 0 0 0))), 1,0) ht7  [Ha (lnM wE r_1.2.1)] ?_
    rintro ⟨by_1, seen, x40⟩ m7 lr1 hf1 hl1 J7 hJ7
    try unfold jo at hf1
    rcases zZ hf1 with ⟨c6, hf1⟩ | ⟨c6, hf1⟩
    ·refine yJ X0 hC zW [1,1,1,1,1,1,2,1,0,0,1,1] [J1, J7] [1,3,6,7,9,10,38,39,40] (fun z : List zu × Int => jr x40 z.1 z.2 = some lr1) (fun z => XU x_ r_1 x40 z.1 z.2) [(1, .own (.box (yV x_))), (3, .own (.box (.agg [eOs 1 true (eI .i64) [], eOs 1 true F2_ []]))), (6, .d (eSl 24 false yH r_1.1)), (7, .d (eSl 1 true wE r_1.2.1)), (9, .own (eOs 5 true Qj by_1)), (10, .d (I seen)), (38, .d (eSl 1 true wE r_1.2.1)), (39, .d (I ((r_1.2.1.length : Nat) : Int))), (40, .d (I x40))] [Hq c6, Hh (.cut 0)] ?_ fun J8 hJ8 => ?_
     ·rintro ⟨by_2, seen1⟩ hf1
      unfold jr at hf1
      obtain rfl := zl hf1
      exact yB X0 hC hJ7 (by_2, seen1, w64 (x40 + 1)) hl1 []
     ·obtain ⟨u_3, h11, hf1⟩ := zo hf1
      obtain ⟨t9, ht9, hf1⟩ := zo hf1
      refine yL X0 hC zW [1,1,1,1,1,1,2,1,0,0,1,1,2,0,1,1,0] [J1, J7, J8] (fun s => jn x40 u_3 s.1 s.2.1 s.2.2) (fun x => XQ x_ r_1 x40 u_3 x.1 x.2.1 x.2.2) (by_1, seen, 0) ht9  [Hi wE h11, Ha (lnM qH u_3)] ?_
      rintro ⟨by_3, seen2, x47⟩ m9 lr2 hf2 hl2 J9 hJ9
      try unfold jn at hf2
      rcases zZ hf2 with ⟨c7, hf2⟩ | ⟨c7, hf2⟩
      ·refine yJ X0 hC zW [1,1,1,1,1,1,2,1,0,0,1,1,2,0,1,1,0,0,1,1] [J1, J7, J8, J9] [1,3,6,7,9,10,11,38,39,40,45,46,47] (fun z : List zu × Int => vT x47 z.1 z.2 = some lr2) (fun z => XA x_ r_1 x40 u_3 x47 z.1 z.2) [(1, .own (.box (yV x_))), (3, .own (.box (.agg [eOs 1 true (eI .i64) [], eOs 1 true F2_ []]))), (6, .d (eSl 24 false yH r_1.1)), (7, .d (eSl 1 true wE r_1.2.1)), (9, .own (eOs 5 true Qj by_3)), (10, .d (I seen2)), (11, .d (I x40)), (38, .d (eSl 1 true wE r_1.2.1)), (39, .d (I ((r_1.2.1.length : Nat) : Int))), (40, .d (I x40)), (45, .d (eSl 5 true qH u_3)), (46, .d (I ((u_3.length : Nat) : Int))), (47, .d (I x47))] [Hq c7, Hh (.cut 0)] ?_ fun J10 hJ10 => ?_
       ·rintro ⟨by_4, seen3⟩ hf2
        unfold vT at hf2
        obtain rfl := zl hf2
        exact yB X0 hC hJ9 (by_4, seen3, w64 (x47 + 1)) hl2 []
       ·obtain ⟨u__e, h12, hf2⟩ := zo hf2
        let Z4 : List HO := [Hi qH h12]
        rcases zZ hf2 with ⟨c8, hf2⟩ | ⟨c8, hf2⟩
        ·obtain ⟨by__e2, h13, hf2⟩ := zo hf2
         exact yB X0 hC hJ10 ((by_3.set u__e.To.toNat (zu.mk x40 u__e.Move)), w64 (seen2 + 1)) hf2 (Z4 ++ [Hq c8, Hn (iL Qj h13), Hs (iM Qj h13), Hs (iM Qj h13), Hl (sM Qj by_3 u__e.To (zu.mk x40 u__e.Move))])
        ·exact yB X0 hC hJ10 (by_3, seen2) hf2 (Z4 ++ [Hq c8])
      ·obtain rfl := zl hf2
       obtain rfl := hl2
       exact yB X0 hC hJ8 (by_3, seen2) hf1 [Hq c7]
    ·obtain rfl := zl hf1
     obtain rfl := hl1
     exact yB X0 hC hJ1 by_1 hf0 [Hq c6]
def YE : Code := (Tryz.f15.body).getD .skip
def Yp : yU := spF (α := List za × List za) (ρ := Int) 15 (fun x => [z5r x.1, z9q x.2]) (fun r => (eI .i64) r) (fun x => V6 x.1 x.2) [] (Uu)
abbrev UU : List (Nat × T) := []
abbrev UT (a_ : List za) (b_ : List za) (i_ : Int) : List (Nat × T) := [(0, .d (eSl 4 true xu a_)), (1, .d (eSl 4 false xu b_)), (5, .d (I i_))]
theorem KS {ctr : Ctr} (hC : zT Tryz.prog ctr) : Yp.Ok Tryz.prog := by
 refine y4 ?_
 rintro ⟨a_, b_⟩ r0 hf0
 try unfold V6 at hf0
 refine yO true [(4, none)] YE 33 Tryz.func15 fun E hE => ?_
 let Z0 : List HO := [Ha (lnM xu a_), Ha (lnM xu b_)]
 rcases zZ hf0 with ⟨c0, hf0⟩ | ⟨c0, hf0⟩
 ·obtain rfl := zl hf0
  exact yE X0 hC hE (Z0 ++ (rpN 6 (Hq c0) [qT]))
 ·let Z1 : List HO := (Z0 ++ [Hq c0, Hq c0, Ha (lnM xu a_), Hq c0, Hq c0, Ha (lnM xu a_), Hq c0, Hq c0])
  rcases zZ hf0 with ⟨c1, hf0⟩ | ⟨c1, hf0⟩
  ·obtain rfl := zl hf0
   exact yE X0 hC hE (Z1 ++ [Hq c1])
  ·refine yJ X0 hC YE [1,1] [] [] (fun z : Unit => Yw = some r0) (fun z => UU) [(0, .d (eSl 4 true xu a_)), (1, .d (eSl 4 false xu b_))] (Z1 ++ [Hq c1, Hh (.cut 0)]) ?_ fun J1 hJ1 => ?_
   ·rintro ⟨⟩ hf0
    unfold Yw at hf0
    obtain rfl := zl hf0
    exact yE X0 hC hE []
   ·obtain ⟨t2, ht2, hf0⟩ := zo hf0
    refine yL X0 hC YE [1,1,2,1,0] [J1] (fun s => Yv a_ b_ s) (fun x => UT a_ b_ x) 0 ht2  [] ?_
    rintro i_ m2 lr1 hf1 hl1 J2 hJ2
    try unfold Yv at hf1
    let Z2 : List HO := [Ha (lnM xu a_)]
    rcases zZ hf1 with ⟨c2, hf1⟩ | ⟨c2, hf1⟩
    ·obtain ⟨a__e, h0, hf1⟩ := zo hf1
     obtain ⟨b__e, h1, hf1⟩ := zo hf1
     let Z3 : List HO := (Z2 ++ [Hq c2, Hi xu h0, Hi xu h1])
     rcases zZ hf1 with ⟨c3, hf1⟩ | ⟨c3, hf1⟩
     ·obtain rfl := zl hf1
      obtain rfl := hl1
      obtain rfl := zl hf0
      exact yE X0 hC hE (Z3 ++ [Hq c3])
     ·obtain rfl := zl hf1
      exact yB X0 hC hJ2 (w64 (i_ + 1)) hl1 (Z3 ++ [Hq c3])
    ·obtain rfl := zl hf1
     obtain rfl := hl1
     exact yB X0 hC hJ1 () hf0 (Z2 ++ [Hq c2])
def WV : Code := (Tryz.f11.body).getD .skip
def Yq : yU := spF (α := Unit) (ρ := Bool) 11 (fun x => []) (fun r => eB r) (fun x => ZP) [] (fun _ _ _ => rfl)
theorem KT {ctr : Ctr} (hC : zT Tryz.prog ctr) (h00 : ctr.Has X9) (h0D : ctr.Has Ze) (h03 : ctr.Has ZF) (h05 : ctr.Has Xa) (h02 : ctr.Has Yr) (h0r : ctr.Has ka) (h0k : ctr.Has Zf) (h0E : ctr.Has jv) (h0l : ctr.Has Yp) (h06 : ctr.Has qN) : Yq.Ok Tryz.prog := by
 refine y4 ?_
 rintro ⟨⟩ r0 hf0
 try unfold ZP at hf0
 refine yO true [(0, none)] WV 166 Tryz.func11 fun E hE => ?_
 obtain ⟨r_, h0, hf0⟩ := zo hf0
 obtain ⟨r_1, h1, hf0⟩ := zo hf0
 obtain ⟨r_2, h2, hf0⟩ := zo hf0
 obtain ⟨r_3, h3, hf0⟩ := zo hf0
 obtain ⟨r_4, h4, hf0⟩ := zo hf0
 obtain ⟨r_5, h5, hf0⟩ := zo hf0
 obtain ⟨r_6, h6, hf0⟩ := zo hf0
 obtain ⟨r_7, h7, hf0⟩ := zo hf0
 obtain ⟨r_8, h8, hf0⟩ := zo hf0
 obtain ⟨r_9, h9, hf0⟩ := zo hf0
 obtain ⟨r_10, h10, hf0⟩ := zo hf0
 refine yA ((jC (P := Tryz.prog) xZ [] (lentCall (xV hC h00 (x := (1, ([(ze.mk 0 2 0 0 0)] : List ze))) h0)) 19).or X0) hC WV [1,1,1,1,1,0] [] [(1, .own (.box (z7u r_))), (2, .d (eSl 2 true xh r_1.1)), (3, .d (eSl 1 true wE r_1.2.1)), (4, .d (I r_1.2.2)), (5, .own (eOs 2 true z7x ([r_2, r_3, r_4, r_5]))), (6, .own (eOs 1 true (eOs 5 true qH) ([[(z6.mk r_6 1)], [(z6.mk r_7 2), (z6.mk r_8 3)], [(z6.mk r_9 0)], [(z6.mk r_10 0)]])))] [Hm (shM vW vW ([(ze.mk 0 2 0 0 0)])), Hn (W5 (f := .fn 37 []) (xs := [(eI .i64) 1, z3a ([(ze.mk 0 2 0 0 0)] : List ze)]) (ls := []) (r := .agg [I r_.Messages, I r_.Labels, eSl 1 true (eI .i64) r_.Channels, eSl 3 true z9o r_.Parts]) (ys := []) [(eI .i64) 1, z3a ([(ze.mk 0 2 0 0 0)] : List ze)] (show z0w [(eI .i64) 1, z3a ([(ze.mk 0 2 0 0 0)] : List ze)] [(eI .i64) 1, z3a ([(ze.mk 0 2 0 0 0)] : List ze)] from inferInstance)), Hc h0D (x := r_) h1 (loC z7u r_ <| loN), Hc h03 (x := (0,0, [])) h2 (loC (eI .i64) 0 <| loC (eI .i64) 0 <| loC F1_ ([] : List Int) <| loN), Hg (z1v h03), Hm (shM (eI .i64) (eI .i64) ([0])), Hs (z1w h03 (x := (1,0, [0])) h3 (loC (eI .i64) 1 <| loC (eI .i64) 0 <| loC F1_ ([0] : List Int) <| loN)), Hm (shM (eI .i64) (eI .i64) ([0])), Hg (z1v h03), Hm (shM (eI .i64) (eI .i64) ([0])), Hs (z1w h03 (x := (0,0, [0])) h4 (loC (eI .i64) 0 <| loC (eI .i64) 0 <| loC F1_ ([0] : List Int) <| loN)), Hm (shM (eI .i64) (eI .i64) ([0])), Hc h03 (x := (1,0, [])) h5 (loC (eI .i64) 1 <| loC (eI .i64) 0 <| loC F1_ ([] : List Int) <| loN), Hc h05 (x := (0,0)) h6 (loC (eI .i64) 0 <| loC (eI .i64) 0 <| loN), Hc h05 (x := (0,1)) h7 (loC (eI .i64) 0 <| loC (eI .i64) 1 <| loN), Hc h05 (x := (1,0)) h8 (loC (eI .i64) 1 <| loC (eI .i64) 0 <| loN), Hc h05 (x := (1,0)) h9 (loC (eI .i64) 1 <| loC (eI .i64) 0 <| loN), Hc h05 (x := (0,1)) h10 (loC (eI .i64) 0 <| loC (eI .i64) 1 <| loN), Hh (.cut 1)] ?_
 rcases zZ hf0 with ⟨c0, hf0⟩ | ⟨c0, hf0⟩
 ·obtain rfl := zl hf0
  exact yE X0 hC hE (rpN 7 (Hq c0) [qT])
 ·obtain ⟨r_11, h11, hf0⟩ := zo hf0
  let Z0 : List HO := (rpN 5 (Hq c0) [Hm (shM z7x z7x ([r_2, r_3, r_4, r_5])), Hm (shM (eOs 5 true qH) wE ([[(z6.mk r_6 1)], [(z6.mk r_7 2), (z6.mk r_8 3)], [(z6.mk r_9 0)], [(z6.mk r_10 0)]])), Hn (W5 (f := .fn 40 []) (xs := [z5h r_1.1, z2s r_1.2.1, z9b ([r_2, r_3, r_4, r_5] : List z7), z9p ([[(z6.mk r_6 1)], [(z6.mk r_7 2), (z6.mk r_8 3)], [(z6.mk r_9 0)], [(z6.mk r_10 0)]] : List (List z6))]) (ls := []) (r := I r_11) (ys := []) [z5h r_1.1, z2s r_1.2.1, zcd ([r_2, r_3, r_4, r_5] : List z7), z2s ([[(z6.mk r_6 1)], [(z6.mk r_7 2), (z6.mk r_8 3)], [(z6.mk r_9 0)], [(z6.mk r_10 0)]] : List (List z6))] (show z0w [z5h r_1.1, z2s r_1.2.1, zcd ([r_2, r_3, r_4, r_5] : List z7), z2s ([[(z6.mk r_6 1)], [(z6.mk r_7 2), (z6.mk r_8 3)], [(z6.mk r_9 0)], [(z6.mk r_10 0)]] : List (List z6))] [z5h r_1.1, z2s r_1.2.1, z9b ([r_2, r_3, r_4, r_5] : List z7), z9p ([[(z6.mk r_6 1)], [(z6.mk r_7 2), (z6.mk r_8 3)], [(z6.mk r_9 0)], [(z6.mk r_10 0)]] : List (List z6))] from inferInstance)), Hq c0, Hq c0])
  rcases zZ hf0 with ⟨c1, hf0⟩ | ⟨c1, hf0⟩
  ·obtain rfl := zl hf0
   exact yE ((jC (P := Tryz.prog) xZ [] (lentCall (xV hC h02 (x := (r_1.1, r_1.2.1, ([r_2, r_3, r_4, r_5] : List z7), ([[(z6.mk r_6 1)], [(z6.mk r_7 2), (z6.mk r_8 3)], [(z6.mk r_9 0)], [(z6.mk r_10 0)]] : List (List z6)))) h11)) 55).or X0) hC hE (Z0 ++ [Hq c1])
  ·obtain ⟨r_12, h12, hf0⟩ := zo hf0
   obtain ⟨r_13, h13, hf0⟩ := zo hf0
   let Z1 : List HO := (Z0 ++ [Hq c1, Hc h0r (x := (r_, [])) h12 (loC z7u r_ <| loC F1_ ([] : List Int) <| loN), Hg (z1v h0r), Hm (shM (eI .i64) (eI .i64) ([0])), Hs (z1w h0r (x := (r_, [0])) h13 (loC z7u r_ <| loC F1_ ([0] : List Int) <| loN)), Hm (shM (eI .i64) (eI .i64) ([0]))])
   rcases zZ hf0 with ⟨c2, hf0⟩ | ⟨c2, hf0⟩
   ·obtain rfl := zl hf0
    exact yE ((jC (P := Tryz.prog) xZ [] (lentCall (xV hC h02 (x := (r_1.1, r_1.2.1, ([r_2, r_3, r_4, r_5] : List z7), ([[(z6.mk r_6 1)], [(z6.mk r_7 2), (z6.mk r_8 3)], [(z6.mk r_9 0)], [(z6.mk r_10 0)]] : List (List z6)))) h11)) 55).or X0) hC hE (Z1 ++ (Hq c2 :: Hq c2 :: Hq c2 :: (rpN 10 qT [])))
   ·rcases zZ hf0 with ⟨c3, hf0⟩ | ⟨c3, hf0⟩
    ·obtain rfl := zl hf0
     exact yE ((jC (P := Tryz.prog) xZ [] (lentCall (xV hC h02 (x := (r_1.1, r_1.2.1, ([r_2, r_3, r_4, r_5] : List z7), ([[(z6.mk r_6 1)], [(z6.mk r_7 2), (z6.mk r_8 3)], [(z6.mk r_9 0)], [(z6.mk r_10 0)]] : List (List z6)))) h11)) 55).or X0) hC hE (Z1 ++ (Hq c2 :: Hq c2 :: Hq c2 :: (rpN 9 (Hq c3) [qT])))
    ·obtain ⟨r_14, h14, hf0⟩ := zo hf0
     obtain ⟨r_15, h15, hf0⟩ := zo hf0
     let Z2 : List HO := (Z1 ++ [Hq c2, Hq c2, Hq c2, Hq c3, Hq c3, Hq c3, Hg (z1v h0k), Hm (shM (eOs 3 true F8_) U0 ([[(zg.mk 0 0 1)], [(zg.mk 0 0 3), (zg.mk 2 0 2)], [(zg.mk 0 0 0)], [(zg.mk 2 0 0)]])), Hs (z1w h0k (x := (r_12.1, (zG.mk 0 1 ([[(zg.mk 0 0 1)], [(zg.mk 0 0 3), (zg.mk 2 0 2)], [(zg.mk 0 0 0)], [(zg.mk 2 0 0)]])))) h14 (loC (wY (eI .i64) (eI .i64) zce) r_12.1 <| loC (wY (eI .i64) (eI .i64) (eSl 1 true U0)) (zG.mk 0 1 ([[(zg.mk 0 0 1)], [(zg.mk 0 0 3), (zg.mk 2 0 2)], [(zg.mk 0 0 0)], [(zg.mk 2 0 0)]])) <| loN)), Hq c3, Hq c3, Hq c3, Hg (z1v h0k), Hm (shM (eOs 3 true F8_) U0 ([[(zg.mk 0 0 1)], [(zg.mk 0 0 2), (zg.mk 0 0 3)], [(zg.mk 0 0 0)], [(zg.mk 0 0 0)]])), Hs (z1w h0k (x := (r_13.1, (zG.mk 0 1 ([[(zg.mk 0 0 1)], [(zg.mk 0 0 2), (zg.mk 0 0 3)], [(zg.mk 0 0 0)], [(zg.mk 0 0 0)]])))) h15 (loC (wY (eI .i64) (eI .i64) zce) r_13.1 <| loC (wY (eI .i64) (eI .i64) (eSl 1 true U0)) (zG.mk 0 1 ([[(zg.mk 0 0 1)], [(zg.mk 0 0 2), (zg.mk 0 0 3)], [(zg.mk 0 0 0)], [(zg.mk 0 0 0)]])) <| loN)), Hq c3, Hq c3, Hq c3])
     rcases zZ hf0 with ⟨c4, hf0⟩ | ⟨c4, hf0⟩
     ·obtain rfl := zl hf0
      exact yE ((jC (P := Tryz.prog) xZ [] (lentCall (xV hC h02 (x := (r_1.1, r_1.2.1, ([r_2, r_3, r_4, r_5] : List z7), ([[(z6.mk r_6 1)], [(z6.mk r_7 2), (z6.mk r_8 3)], [(z6.mk r_9 0)], [(z6.mk r_10 0)]] : List (List z6)))) h11)) 55).or X0) hC hE (Z2 ++ [Hq c4])
     ·obtain ⟨r_16, h16, hf0⟩ := zo hf0
      obtain ⟨r_17, h17, hf0⟩ := zo hf0
      obtain ⟨r_18, h18, hf0⟩ := zo hf0
      obtain ⟨r_19, h19, hf0⟩ := zo hf0
      obtain ⟨r_20, h20, hf0⟩ := zo hf0
      let Z3 : List HO := (Z2 ++ [Hq c4, Hc h0E (x := r_) h16 (loC z7u r_ <| loN), Hn (W5 (f := .fn 37 []) (xs := [(eI .i64) 1, z3a ([] : List ze)]) (ls := []) (r := .agg [I r_17.Messages, I r_17.Labels, eSl 1 true (eI .i64) r_17.Channels, eSl 3 true z9o r_17.Parts]) (ys := []) [(eI .i64) 1, z3a ([] : List ze)] (show z0w [(eI .i64) 1, z3a ([] : List ze)] [(eI .i64) 1, z3a ([] : List ze)] from inferInstance)), Hc h0E (x := r_17) h18 (loC z7u r_17 <| loN), Hm (shM vW vW ([(ze.mk 0 2 0 0 0)])), Hn (W5 (f := .fn 37 []) (xs := [(eI .i64) 0, z3a ([(ze.mk 0 2 0 0 0)] : List ze)]) (ls := []) (r := .agg [I r_19.Messages, I r_19.Labels, eSl 1 true (eI .i64) r_19.Channels, eSl 3 true z9o r_19.Parts]) (ys := []) [(eI .i64) 0, z3a ([(ze.mk 0 2 0 0 0)] : List ze)] (show z0w [(eI .i64) 0, z3a ([(ze.mk 0 2 0 0 0)] : List ze)] [(eI .i64) 0, z3a ([(ze.mk 0 2 0 0 0)] : List ze)] from inferInstance)), Hc h0D (x := r_19) h20 (loC z7u r_19 <| loN)])
      rcases zZ hf0 with ⟨c5, hf0⟩ | ⟨c5, hf0⟩
      ·obtain rfl := zl hf0
       exact yE ((jC (P := Tryz.prog) xZ [] (lentCall (xV hC h00 (x := (0, ([(ze.mk 0 2 0 0 0)] : List ze))) h19)) 122).or ((jC (P := Tryz.prog) xZ [] (lentCall (xV hC h00 (x := (1, ([] : List ze))) h17)) 114).or ((jC (P := Tryz.prog) xZ [] (lentCall (xV hC h02 (x := (r_1.1, r_1.2.1, ([r_2, r_3, r_4, r_5] : List z7), ([[(z6.mk r_6 1)], [(z6.mk r_7 2), (z6.mk r_8 3)], [(z6.mk r_9 0)], [(z6.mk r_10 0)]] : List (List z6)))) h11)) 55).or X0))) hC hE (Z3 ++ (Hq c5 :: Hq c5 :: Hq c5 :: (rpN 17 qT [])))
      ·rcases zZ hf0 with ⟨c6, hf0⟩ | ⟨c6, hf0⟩
       ·obtain rfl := zl hf0
        exact yE ((jC (P := Tryz.prog) xZ [] (lentCall (xV hC h00 (x := (0, ([(ze.mk 0 2 0 0 0)] : List ze))) h19)) 122).or ((jC (P := Tryz.prog) xZ [] (lentCall (xV hC h00 (x := (1, ([] : List ze))) h17)) 114).or ((jC (P := Tryz.prog) xZ [] (lentCall (xV hC h02 (x := (r_1.1, r_1.2.1, ([r_2, r_3, r_4, r_5] : List z7), ([[(z6.mk r_6 1)], [(z6.mk r_7 2), (z6.mk r_8 3)], [(z6.mk r_9 0)], [(z6.mk r_10 0)]] : List (List z6)))) h11)) 55).or X0))) hC hE (Z3 ++ (Hq c5 :: Hq c5 :: Hq c5 :: (rpN 7 (Hq c6) (rpN 10 qT []))))
       ·obtain ⟨r_21, h21, hf0⟩ := zo hf0
        obtain ⟨r_22, h22, hf0⟩ := zo hf0
        obtain ⟨r_23, h23, hf0⟩ := zo hf0
        let Z4 : List HO := (Z3 ++ [Hq c5, Hq c5, Hq c5, Hq c6, Hq c6, Hc h05 (x := (0,0)) h21 (loC (eI .i64) 0 <| loC (eI .i64) 0 <| loN), Hq c6, Hc h05 (x := (0,1)) h22 (loC (eI .i64) 0 <| loC (eI .i64) 1 <| loN), Hq c6, Hq c6, Hm (shM xu xu ([r_21, r_22])), Hn (W5 (f := .fn 15 []) (xs := [z5r r_18.1, z9q ([r_21, r_22] : List za)]) (ls := []) (r := I r_23) (ys := []) [z5r r_18.1, z5r ([r_21, r_22] : List za)] (show z0w [z5r r_18.1, z5r ([r_21, r_22] : List za)] [z5r r_18.1, z9q ([r_21, r_22] : List za)] from inferInstance)), Hq c6, Hq c6])
        rcases zZ hf0 with ⟨c7, hf0⟩ | ⟨c7, hf0⟩
        ·obtain rfl := zl hf0
         exact yE ((jC (P := Tryz.prog) xZ [] (lentCall (xV hC h0l (x := (r_18.1, ([r_21, r_22] : List za))) h23)) 138).or ((jC (P := Tryz.prog) xZ [] (lentCall (xV hC h00 (x := (0, ([(ze.mk 0 2 0 0 0)] : List ze))) h19)) 122).or ((jC (P := Tryz.prog) xZ [] (lentCall (xV hC h00 (x := (1, ([] : List ze))) h17)) 114).or ((jC (P := Tryz.prog) xZ [] (lentCall (xV hC h02 (x := (r_1.1, r_1.2.1, ([r_2, r_3, r_4, r_5] : List z7), ([[(z6.mk r_6 1)], [(z6.mk r_7 2), (z6.mk r_8 3)], [(z6.mk r_9 0)], [(z6.mk r_10 0)]] : List (List z6)))) h11)) 55).or X0)))) hC hE (Z4 ++ (rpN 6 (Hq c7) (rpN 4 qT [])))
        ·obtain ⟨r_24, h24, hf0⟩ := zo hf0
         obtain ⟨r_25, h25, hf0⟩ := zo hf0
         let Z5 : List HO := (Z4 ++ [Hq c7, Hq c7, Hq c7, Hg (z1v h03), Hm (shM (eI .i64) (eI .i64) ([0])), Hs (z1w h03 (x := (0,0, [0])) h24 (loC (eI .i64) 0 <| loC (eI .i64) 0 <| loC F1_ ([0] : List Int) <| loN)), Hm (shM (eI .i64) (eI .i64) ([0])), Hq c7, Hc h06 (x := (r_18.2.1, r_24)) h25 (loC Kj r_18.2.1 <| loC z7x r_24 <| loN), Hq c7, Hq c7])
         rcases zZ hf0 with ⟨c8, hf0⟩ | ⟨c8, hf0⟩
         ·obtain rfl := zl hf0
          exact yE ((jC (P := Tryz.prog) xZ [] (lentCall (xV hC h0l (x := (r_18.1, ([r_21, r_22] : List za))) h23)) 138).or ((jC (P := Tryz.prog) xZ [] (lentCall (xV hC h00 (x := (0, ([(ze.mk 0 2 0 0 0)] : List ze))) h19)) 122).or ((jC (P := Tryz.prog) xZ [] (lentCall (xV hC h00 (x := (1, ([] : List ze))) h17)) 114).or ((jC (P := Tryz.prog) xZ [] (lentCall (xV hC h02 (x := (r_1.1, r_1.2.1, ([r_2, r_3, r_4, r_5] : List z7), ([[(z6.mk r_6 1)], [(z6.mk r_7 2), (z6.mk r_8 3)], [(z6.mk r_9 0)], [(z6.mk r_10 0)]] : List (List z6)))) h11)) 55).or X0)))) hC hE (Z5 ++ [Hq c8, Hq c8, Hq c8, qT])
         ·rcases zZ hf0 with ⟨c9, hf0⟩ | ⟨c9, hf0⟩
          ·obtain rfl := zl hf0
           exact yE ((jC (P := Tryz.prog) xZ [] (lentCall (xV hC h0l (x := (r_18.1, ([r_21, r_22] : List za))) h23)) 138).or ((jC (P := Tryz.prog) xZ [] (lentCall (xV hC h00 (x := (0, ([(ze.mk 0 2 0 0 0)] : List ze))) h19)) 122).or ((jC (P := Tryz.prog) xZ [] (lentCall (xV hC h00 (x := (1, ([] : List ze))) h17)) 114).or ((jC (P := Tryz.prog) xZ [] (lentCall (xV hC h02 (x := (r_1.1, r_1.2.1, ([r_2, r_3, r_4, r_5] : List z7), ([[(z6.mk r_6 1)], [(z6.mk r_7 2), (z6.mk r_8 3)], [(z6.mk r_9 0)], [(z6.mk r_10 0)]] : List (List z6)))) h11)) 55).or X0)))) hC hE (Z5 ++ [Hq c8, Hq c8, Hq c8, Hq c9])
          ·obtain ⟨r_26, h26, hf0⟩ := zo hf0
           obtain ⟨r_27, h27, hf0⟩ := zo hf0
           obtain ⟨r_28, h28, hf0⟩ := zo hf0
           obtain ⟨r_29, h29, hf0⟩ := zo hf0
           obtain rfl := zl hf0
           exact yE ((jC (P := Tryz.prog) xZ [] (lentCall (xV hC h02 (x := (r_20.1, r_20.2.1, ([r_26, r_27] : List z7), ([[(z6.mk (za.mk 0 0 1 0) 1)], [(z6.mk r_28 0)]] : List (List z6)))) h29)) 164).or ((jC (P := Tryz.prog) xZ [] (lentCall (xV hC h0l (x := (r_18.1, ([r_21, r_22] : List za))) h23)) 138).or ((jC (P := Tryz.prog) xZ [] (lentCall (xV hC h00 (x := (0, ([(ze.mk 0 2 0 0 0)] : List ze))) h19)) 122).or ((jC (P := Tryz.prog) xZ [] (lentCall (xV hC h00 (x := (1, ([] : List ze))) h17)) 114).or ((jC (P := Tryz.prog) xZ [] (lentCall (xV hC h02 (x := (r_1.1, r_1.2.1, ([r_2, r_3, r_4, r_5] : List z7), ([[(z6.mk r_6 1)], [(z6.mk r_7 2), (z6.mk r_8 3)], [(z6.mk r_9 0)], [(z6.mk r_10 0)]] : List (List z6)))) h11)) 55).or X0))))) hC hE (Z5 ++ [Hq c8, Hq c8, Hq c8, Hq c9, Hc h03 (x := (0,0, [])) h26 (loC (eI .i64) 0 <| loC (eI .i64) 0 <| loC F1_ ([] : List Int) <| loN), Hc h03 (x := (1,0, [])) h27 (loC (eI .i64) 1 <| loC (eI .i64) 0 <| loC F1_ ([] : List Int) <| loN), Hc h05 (x := (0,1)) h28 (loC (eI .i64) 0 <| loC (eI .i64) 1 <| loN), Hm (shM z7x z7x ([r_26, r_27])), Hm (shM (eOs 5 true qH) wE ([[(z6.mk (za.mk 0 0 1 0) 1)], [(z6.mk r_28 0)]])), Hn (W5 (f := .fn 40 []) (xs := [z5h r_20.1, z2s r_20.2.1, z9b ([r_26, r_27] : List z7), z9p ([[(z6.mk (za.mk 0 0 1 0) 1)], [(z6.mk r_28 0)]] : List (List z6))]) (ls := []) (r := I r_29) (ys := []) [z5h r_20.1, z2s r_20.2.1, zcd ([r_26, r_27] : List z7), z2s ([[(z6.mk (za.mk 0 0 1 0) 1)], [(z6.mk r_28 0)]] : List (List z6))] (show z0w [z5h r_20.1, z2s r_20.2.1, zcd ([r_26, r_27] : List z7), z2s ([[(z6.mk (za.mk 0 0 1 0) 1)], [(z6.mk r_28 0)]] : List (List z6))] [z5h r_20.1, z2s r_20.2.1, z9b ([r_26, r_27] : List z7), z9p ([[(z6.mk (za.mk 0 0 1 0) 1)], [(z6.mk r_28 0)]] : List (List z6))] from inferInstance))])
def vG : Code := (Tryz.f5.body).getD .skip
def qE : yU := spF (α := ya × Int × za) (ρ := Bool) 5 (fun x => [K6 x.1, (eI .u8) x.2.1, xu x.2.2]) (fun r => eB r) (fun x => qh x.1 x.2.1 x.2.2) [] (z9j)
abbrev YZ (m_ : za) (r_ : z8) (u_ : z7) (there : Bool) : List (Nat × T) := [(5, .own (.box (xu m_))), (7, .own (.box (z5g r_))), (10, .own (.box (xh u_))), (14, .d (B there))]
abbrev YX (m_ : za) (r_ : z8) (u_ : z7) (r_2 : List za × Int) (r_3 : List zh) (i_ : Int) (there2 : Bool) (x87 : Int) (x88 : Bool) (x91_States : List Int) (x91_Queues : List (List Int)) (x96_States : List Int) (x96_Queues : List (List Int)) (x97 : Int) (x98 : Bool) : List (Nat × T) := [(5, .own (.box (xu m_))), (7, .own (.box (z5g r_))), (10, .own (.box (xh u_))), (11, .d (eSl 4 true xu r_2.1)), (13, .own (eOs 6 false qA r_3)), (14, .d (B there2)), (15, .d (I i_)), (87, .d (I x87)), (88, .d (B x88)), (91, .d (.agg [eSl 1 true (eI .i64) x91_States, eSl 1 true F1_ x91_Queues])), (92, .als 13 [] 0 0), (93, .d (I i_)), (96, .d (.agg [eSl 1 false (eI .i64) x96_States, eSl 1 false F2_ x96_Queues])), (97, .d (I x97)), (98, .d (B x98))]
abbrev YW (m_ : za) (r_ : z8) (u_ : z7) (r_2 : List za × Int) (r_3 : List zh) (there1 : Bool) (i_ : Int) : List (Nat × T) := [(5, .own (.box (xu m_))), (7, .own (.box (z5g r_))), (10, .own (.box (xh u_))), (11, .d (eSl 4 true xu r_2.1)), (13, .own (eOs 6 false qA r_3)), (14, .d (B there1)), (15, .d (I i_))]
theorem WC {ctr : Ctr} (hC : zT Tryz.prog ctr) (h0Z : ctr.Has Xb) (h1a : ctr.Has Yn) (h1b : ctr.Has Zd) (h0m : ctr.Has kG) (h0F : ctr.Has X6) (h06 : ctr.Has qN) (h0G : ctr.Has Yq) : qE.Ok Tryz.prog := by
 refine y4 ?_
 rintro ⟨x_, n_, m_⟩ r0 hf0
 try unfold qh at hf0
 refine yO true [(6, none)] vG 142 Tryz.func5 fun E hE => ?_
 obtain ⟨r_, h0, hf0⟩ := zo hf0
 obtain ⟨r_1, h1, hf0⟩ := zo hf0
 obtain ⟨g0, hf0⟩ := gdE hf0
 obtain ⟨u_, h2, hf0⟩ := zo hf0
 obtain ⟨r_2, h3, hf0⟩ := zo hf0
 obtain ⟨r_3, h4, hf0⟩ := zo hf0
 let Z0 : List HO := [Hc h0Z (x := (ya.mk x_.Channels x_.Parts)) h0 (loC K6 (ya.mk x_.Channels x_.Parts) <| loN), Hc h1a (x := (r_, 60)) h1 (loC z5g r_ <| loC (eI .i64) 60 <| loN), Ha (lnM xh r_1.1), Hn g0, Hi xh h2, Hc h1b (x := (r_, u_)) h3 (loC z5g r_ <| loC xh u_ <| loN), Hc h0m (x := (r_, u_)) h4 (loC z5g r_ <| loC xh u_ <| loN)]
 rcases zZ hf0 with ⟨c0, hf0⟩ | ⟨c0, hf0⟩
 ·obtain rfl := zl hf0
  exact yE X0 hC hE (Z0 ++ (rpN 6 (Hq c0) (rpN 7 qT [])))
 ·let Z1 : List HO := (Z0 ++ [Hq c0, Hq c0, Ha (lnM xu r_2.1), Hq c0, Hq c0, Ha (lnM qA r_3), Hq c0, Hq c0])
  rcases zZ hf0 with ⟨c1, hf0⟩ | ⟨c1, hf0⟩
  ·obtain rfl := zl hf0
   exact yE X0 hC hE (Z1 ++ (rpN 6 (Hq c1) [qT]))
  ·let Z2 : List HO := (Z1 ++ [Hq c1, Hq c1, Ha (lnM xu r_2.1), Hq c1, Hq c1, Ha (lnM xu r_2.1), Hq c1, Hq c1])
   rcases zZ hf0 with ⟨c2, hf0⟩ | ⟨c2, hf0⟩
   ·obtain rfl := zl hf0
    exact yE X0 hC hE (Z2 ++ [Hq c2])
   ·refine yJ X0 hC vG [1,1,1,1,1,1,1,1] [] [5,7,10,14] (fun z : Bool => vD m_ r_ u_ z = some r0) (fun z => YZ m_ r_ u_ z) [(5, .own (.box (xu m_))), (7, .own (.box (z5g r_))), (10, .own (.box (xh u_))), (11, .d (eSl 4 true xu r_2.1)), (13, .own (eOs 6 false qA r_3)), (14, .d (B false))] (Z2 ++ [Hq c2, Hh (.cut 1)]) ?_ fun J1 hJ1 => ?_
    ·rintro there hf0
     unfold vD at hf0
     obtain ⟨r_4, h5, hf0⟩ := zo hf0
     let Z3 : List HO := [Hc h0F (x := (r_, u_, m_)) h5 (loC z5g r_ <| loC xh u_ <| loC xu m_ <| loN)]
     rcases zZ hf0 with ⟨c3, hf0⟩ | ⟨c3, hf0⟩
     ·rcases zZ hf0 with ⟨c4, hf0⟩ | ⟨c4, hf0⟩
      ·obtain ⟨r_5, h6, hf0⟩ := zo hf0
       obtain rfl := zl hf0
       exact yE X0 hC hE (Z3 ++ (Hq c3 :: Hq c3 :: Hq c3 :: (rpN 7 (Hq c4) [qT, Hc h0G (x := ()) h6 (loN), qT])))
      ·obtain rfl := zl hf0
       exact yE X0 hC hE (Z3 ++ (Hq c3 :: Hq c3 :: Hq c3 :: Hq c4 :: Hq c4 :: Hq c4 :: Hq (congrArg Bool.not (c3)) :: Hq (congrArg Bool.not (c3)) :: Hq c4 :: Hq (congrArg Bool.not (c3)) :: Hq c4 :: (rpN 8 qF [Hq c4, qF, Hq c4, qF, qF])))
     ·let Z4 : List HO := (Z3 ++ [Hq c3, Hq c3, Hq c3, qF, qF, qF, Hq (congrArg Bool.not (c3)), Hq (congrArg Bool.not (c3)), qF, Hq (congrArg Bool.not (c3)), qF])
      rcases zZ hf0 with ⟨c5, hf0⟩ | ⟨c5, hf0⟩
      ·let Z5 : List HO := (Z4 ++ [Hq c5, Hq c5, Hq c5, Ha (lnM (eI .i64) r_4.1.States), Hq c5, Hq c5, Hq c5, Ha (lnM F1_ r_4.1.Queues), Hq c5, Hq c5, qF, Hq c5, qF])
       rcases zZ hf0 with ⟨c6, hf0⟩ | ⟨c6, hf0⟩
       ·obtain ⟨r_6, h7, hf0⟩ := zo hf0
        obtain rfl := zl hf0
        exact yE X0 hC hE (Z5 ++ [Hq c6, Hc h0G (x := ()) h7 (loN), Hq c6])
       ·obtain rfl := zl hf0
        exact yE X0 hC hE (Z5 ++ [Hq c6, Hq c6])
      ·obtain rfl := zl hf0
       exact yE X0 hC hE (Z4 ++ (rpN 8 (Hq c5) [qF, Hq c5, qF, qF, qF]))
    ·obtain ⟨t2, ht2, hf0⟩ := zo hf0
     refine yL X0 hC vG [1,1,1,1,1,1,1,1,2,1,0] [J1] (fun s => xL m_ r_ u_ r_2 r_3 s.1 s.2) (fun x => YW m_ r_ u_ r_2 r_3 x.1 x.2) (false, 0) ht2  [] ?_
     rintro ⟨there1, i_⟩ m2 lr1 hf1 hl1 J2 hJ2
     try unfold xL at hf1
     let Z6 : List HO := [Ha (lnM qA r_3)]
     rcases zZ hf1 with ⟨c7, hf1⟩ | ⟨c7, hf1⟩
     ·refine yJ X0 hC vG [1,1,1,1,1,1,1,1,2,1,0,0,1] [J1, J2] [5,7,10,11,13,14,15,87,88,91,92,93,96,97,98] (fun z : Bool × Int × Bool × List Int × List (List Int) × List Int × List (List Int) × Int × Bool => wB i_ z.1 z.2.1 z.2.2.1 z.2.2.2.1 z.2.2.2.2.1 z.2.2.2.2.2.1 z.2.2.2.2.2.2.1 z.2.2.2.2.2.2.2.1 z.2.2.2.2.2.2.2.2 = some lr1) (fun z => YX m_ r_ u_ r_2 r_3 i_ z.1 z.2.1 z.2.2.1 z.2.2.2.1 z.2.2.2.2.1 z.2.2.2.2.2.1 z.2.2.2.2.2.2.1 z.2.2.2.2.2.2.2.1 z.2.2.2.2.2.2.2.2) [(5, .own (.box (xu m_))), (7, .own (.box (z5g r_))), (10, .own (.box (xh u_))), (11, .d (eSl 4 true xu r_2.1)), (13, .own (eOs 6 false qA r_3)), (14, .d (B there1)), (15, .d (I i_))] (Z6 ++ [Hq c7, Hh (.cut 0)]) ?_ fun J3 hJ3 => ?_
      ·rintro ⟨there2, x87, x88, x91_States, x91_Queues, x96_States, x96_Queues, x97, x98⟩ hf1
       unfold wB at hf1
       obtain rfl := zl hf1
       exact yB X0 hC hJ2 (there2, w64 (i_ + 1)) hl1 []
      ·obtain ⟨u_1, h8, hf1⟩ := zo hf1
       obtain ⟨r_7, h9, hf1⟩ := zo hf1
       obtain ⟨u_2, h10, hf1⟩ := zo hf1
       obtain ⟨r__e, h11, hf1⟩ := zo hf1
       let Z7 : List HO := [Hi xu h8, Hc h0F (x := (r_, u_, u_1)) h9 (loC z5g r_ <| loC xh u_ <| loC xu u_1 <| loN), Hi xu h10, Hn (iL qA h11), Hs (iM qA h11), Hs (iM qA h11)]
       rcases zZ hf1 with ⟨c8, hf1⟩ | ⟨c8, hf1⟩
       ·obtain rfl := zl hf1
        obtain rfl := hl1
        obtain rfl := zl hf0
        exact yE X0 hC hE (Z7 ++ (Hq c8 :: Hq c8 :: Hq c8 :: (rpN 10 qT [])))
       ·rcases zZ hf1 with ⟨c9, hf1⟩ | ⟨c9, hf1⟩
        ·obtain rfl := zl hf1
         obtain rfl := hl1
         obtain rfl := zl hf0
         exact yE X0 hC hE (Z7 ++ (Hq c8 :: Hq c8 :: Hq c8 :: (rpN 9 (Hq c9) [qT])))
        ·obtain ⟨r__e1, h12, hf1⟩ := zo hf1
         obtain ⟨r_8, h13, hf1⟩ := zo hf1
         let Z8 : List HO := (Z7 ++ (Hq c8 :: Hq c8 :: Hq c8 :: (rpN 4 (Hq c9) [Hn (iL qA h12), Hq c9, Hs (iM qA h12), Hq c9, Hs (iM qA h12), Hq c9, Hc h06 (x := (r_7.1, r__e1.To)) h13 (loC Kj r_7.1 <| loC xh r__e1.To <| loN), Hq c9, Hq c9])))
         rcases zZ hf1 with ⟨c10, hf1⟩ | ⟨c10, hf1⟩
         ·obtain rfl := zl hf1
          obtain rfl := hl1
          obtain rfl := zl hf0
          exact yE X0 hC hE (Z8 ++ [Hq c10])
         ·rcases zZ hf1 with ⟨c11, hf1⟩ | ⟨c11, hf1⟩
          ·exact yB X0 hC hJ3 (true, r_7.2, r_7.2 != 0, r_7.1.States, r_7.1.Queues, r__e1.To.States, r__e1.To.Queues, r_8, r_8 == 0) hf1 (Z8 ++ (Hq c10 :: (rpN 7 (Hq c11) [])))
          ·obtain ⟨u_3, h14, hf1⟩ := zo hf1
           exact yB X0 hC hJ3 ((u_3.Part == m_.Part) && ((u_3.Arc == m_.Arc) && ((u_3.Other == m_.Other) && ((u_3.With == m_.With) && true))), r_7.2, r_7.2 != 0, r_7.1.States, r_7.1.Queues, r__e1.To.States, r__e1.To.Queues, r_8, r_8 == 0) hf1 (Z8 ++ (Hq c10 :: Hq c11 :: Hq c11 :: Hq c11 :: Hi xu h14 :: (rpN 4 (Hq c11) [])))
     ·obtain rfl := zl hf1
      obtain rfl := hl1
      exact yB X0 hC hJ1 there1 hf0 (Z6 ++ [Hq c7])
theorem xy {l : List yU} {s : yU} (h : ((l.map yU.k).contains s.k) = false) : ∀ t ∈ l, t.k ≠ s.k := by
 intro t ht e
 have : (l.map yU.k).contains s.k = true := by
  rw [List.contains_iff_mem, ← e]
  exact List.mem_map_of_mem ht
 rw [h] at this
 cases this
theorem zH {l : List yU} {c : Ctr} (H : ∀ t ∈ l, c.Has t) (i : Nat) {s : yU} (h : l[i]? = some s) : c.Has s := H _ (List.mem_of_getElem? h)
def L0 : List yU := Xb :: []
def L1 : List yU := Yo :: L0
def L2 : List yU := X7 :: L1
def L3 : List yU := kG :: L2
def L4 : List yU := ZE :: L3
def L5 : List yU := X8 :: L4
def L6 : List yU := qN :: L5
def L7 : List yU := Yn :: L6
def L8 : List yU := vz :: L7
def L9 : List yU := k9 :: L8
def L10 : List yU := yp :: L9
def L11 : List yU := yi :: L10
def L12 : List yU := Zc :: L11
def L13 : List yU := vA :: L12
def L14 : List yU := qM :: L13
def L15 : List yU := qL :: L14
def L16 : List yU := uu :: L15
def L17 : List yU := kc :: L16
def L18 : List yU := yQ :: L17
def L19 : List yU := yn :: L18
def L20 : List yU := vg :: L19
def L21 : List yU := xJ :: L20
def L22 : List yU := v6 :: L21
def L23 : List yU := vU :: L22
def L24 : List yU := jg :: L23
def L25 : List yU := xT :: L24
def L26 : List yU := xw :: L25
def L27 : List yU := qD :: L26
def L28 : List yU := xv :: L27
def L29 : List yU := jA :: L28
def L30 : List yU := ye :: L29
def L31 : List yU := Zd :: L30
def L32 : List yU := uz :: L31
def L33 : List yU := uY :: L32
def L34 : List yU := xI :: L33
def L35 : List yU := X6 :: L34
def L36 : List yU := X9 :: L35
def L37 : List yU := x5 :: L36
def L38 : List yU := xU :: L37
def L39 : List yU := yP :: L38
def L40 : List yU := Ze :: L39
def L41 : List yU := ZF :: L40
def L42 : List yU := Xa :: L41
def L43 : List yU := Yr :: L42
def L44 : List yU := jh :: L43
def L45 : List yU := ZG :: L44
def L46 : List yU := jw :: L45
def L47 : List yU := wu :: L46
def L48 : List yU := ke :: L47
def L49 : List yU := j0 :: L48
def L50 : List yU := kg :: L49
def L51 : List yU := Xc :: L50
def L52 : List yU := qZ :: L51
def L53 : List yU := xj :: L52
def L54 : List yU := xP :: L53
def L55 : List yU := xG :: L54
def L56 : List yU := ka :: L55
def L57 : List yU := Zf :: L56
def L58 : List yU := uw :: L57
def L59 : List yU := vb :: L58
def L60 : List yU := uv :: L59
def L61 : List yU := jv :: L60
def L62 : List yU := Yp :: L61
def L63 : List yU := Yq :: L62
def L64 : List yU := qE :: L63
theorem zdJ : zI Tryz.prog L0 := ⟨fun _ hC H => z0I hC, xy (by kernel_rfl), trivial⟩
theorem zdI : zI Tryz.prog L1 := ⟨fun _ hC H => KR hC, xy (by kernel_rfl), zdJ⟩
theorem zdH : zI Tryz.prog L2 := ⟨fun _ hC H => z0D hC, xy (by kernel_rfl), zdI⟩
theorem zdG : zI Tryz.prog L3 := ⟨fun _ hC H => KP hC (zH H 0 rfl), xy (by kernel_rfl), zdH⟩
theorem zdF : zI Tryz.prog L4 := ⟨fun _ hC H => Ka hC, xy (by kernel_rfl), zdG⟩
theorem zdE : zI Tryz.prog L5 := ⟨fun _ hC H => z0F hC (zH H 0 rfl), xy (by kernel_rfl), zdF⟩
theorem zdD : zI Tryz.prog L6 := ⟨fun _ hC H => z0E hC (zH H 0 rfl), xy (by kernel_rfl), zdE⟩
theorem zdC : zI Tryz.prog L7 := ⟨fun _ hC H => KQ hC (zH H 5 rfl) (zH H 3 rfl) (zH H 0 rfl), xy (by kernel_rfl), zdD⟩
theorem zdB : zI Tryz.prog L8 := ⟨fun _ hC H => Ud hC, xy (by kernel_rfl), zdC⟩
theorem zdA : zI Tryz.prog L9 := ⟨fun _ hC H => Uc hC, xy (by kernel_rfl), zdB⟩
theorem zc2 : zI Tryz.prog L10 := ⟨fun _ hC H => uf hC (zH H 0 rfl), xy (by kernel_rfl), zdA⟩
theorem zc1 : zI Tryz.prog L11 := ⟨fun _ hC H => vK hC (zH H 0 rfl), xy (by kernel_rfl), zc2⟩
theorem zc0 : zI Tryz.prog L12 := ⟨fun _ hC H => J0 hC (zH H 3 rfl) (zH H 0 rfl), xy (by kernel_rfl), zc1⟩
theorem zbZ : zI Tryz.prog L13 := ⟨fun _ hC H => Ug hC, xy (by kernel_rfl), zc0⟩
theorem zbY : zI Tryz.prog L14 := ⟨fun _ hC H => z0B hC, xy (by kernel_rfl), zbZ⟩
theorem zbX : zI Tryz.prog L15 := ⟨fun _ hC H => Qk hC (zH H 0 rfl), xy (by kernel_rfl), zbY⟩
theorem zbW : zI Tryz.prog L16 := ⟨fun _ hC H => XG hC (zH H 1 rfl), xy (by kernel_rfl), zbX⟩
theorem zbV : zI Tryz.prog L17 := ⟨fun _ hC H => Uf hC (zH H 0 rfl), xy (by kernel_rfl), zbW⟩
theorem zbU : zI Tryz.prog L18 := ⟨fun _ hC H => uI hC (zH H 0 rfl), xy (by kernel_rfl), zbV⟩
theorem zbT : zI Tryz.prog L19 := ⟨fun _ hC H => vY hC (zH H 0 rfl), xy (by kernel_rfl), zbU⟩
theorem zbS : zI Tryz.prog L20 := ⟨fun _ hC H => Jc hC (zH H 7 rfl) (zH H 6 rfl) (zH H 4 rfl) (zH H 0 rfl), xy (by kernel_rfl), zbT⟩
theorem zbR : zI Tryz.prog L21 := ⟨fun _ hC H => X2 hC (zH H 6 rfl), xy (by kernel_rfl), zbS⟩
theorem zbQ : zI Tryz.prog L22 := ⟨fun _ hC H => W3 hC (zH H 1 rfl) (zH H 7 rfl) (zH H 0 rfl), xy (by kernel_rfl), zbR⟩
theorem zbP : zI Tryz.prog L23 := ⟨fun _ hC H => WX hC, xy (by kernel_rfl), zbQ⟩
theorem zbO : zI Tryz.prog L24 := ⟨fun _ hC H => QZ hC (zH H 0 rfl), xy (by kernel_rfl), zbP⟩
theorem zbN : zI Tryz.prog L25 := ⟨fun _ hC H => XJ hC, xy (by kernel_rfl), zbO⟩
theorem zbM : zI Tryz.prog L26 := ⟨fun _ hC H => W2 hC, xy (by kernel_rfl), zbN⟩
theorem zbL : zI Tryz.prog L27 := ⟨fun _ hC H => WB hC, xy (by kernel_rfl), zbM⟩
theorem zbK : zI Tryz.prog L28 := ⟨fun _ hC H => W1 hC (zH H 4 rfl) (zH H 0 rfl), xy (by kernel_rfl), zbL⟩
theorem zbJ : zI Tryz.prog L29 := ⟨fun _ hC H => z1R hC, xy (by kernel_rfl), zbK⟩
theorem zbI : zI Tryz.prog L30 := ⟨fun _ hC H => qC hC, xy (by kernel_rfl), zbJ⟩
theorem zbH : zI Tryz.prog L31 := ⟨fun _ hC H => Ja hC (zH H 8 rfl) (zH H 6 rfl) (zH H 5 rfl) (zH H 4 rfl) (zH H 2 rfl) (zH H 1 rfl) (zH H 0 rfl), xy (by kernel_rfl), zbI⟩
theorem zbG : zI Tryz.prog L32 := ⟨fun _ hC H => XM hC, xy (by kernel_rfl), zbH⟩
theorem zbF : zI Tryz.prog L33 := ⟨fun _ hC H => W4 hC, xy (by kernel_rfl), zbG⟩
theorem zbE : zI Tryz.prog L34 := ⟨fun _ hC H => X1 hC (zH H 1 rfl) (zH H 0 rfl), xy (by kernel_rfl), zbF⟩
theorem zbD : zI Tryz.prog L35 := ⟨fun _ hC H => z0C hC (zH H 12 rfl) (zH H 10 rfl) (zH H 9 rfl) (zH H 8 rfl) (zH H 6 rfl) (zH H 5 rfl) (zH H 0 rfl), xy (by kernel_rfl), zbE⟩
theorem zbC : zI Tryz.prog L36 := ⟨fun _ hC H => z0G hC, xy (by kernel_rfl), zbD⟩
theorem zbB : zI Tryz.prog L37 := ⟨fun _ hC H => qB hC, xy (by kernel_rfl), zbC⟩
theorem zbA : zI Tryz.prog L38 := ⟨fun _ hC H => XK hC (zH H 12 rfl) (zH H 11 rfl) (zH H 9 rfl) (zH H 8 rfl) (zH H 0 rfl), xy (by kernel_rfl), zbB⟩
theorem zbz : zI Tryz.prog L39 := ⟨fun _ hC H => ul hC, xy (by kernel_rfl), zbA⟩
theorem zby : zI Tryz.prog L40 := ⟨fun _ hC H => Jb hC (zH H 19 rfl) (zH H 1 rfl) (zH H 5 rfl) (zH H 0 rfl), xy (by kernel_rfl), zbz⟩
theorem zbx : zI Tryz.prog L41 := ⟨fun _ hC H => Kb hC, xy (by kernel_rfl), zby⟩
theorem zbw : zI Tryz.prog L42 := ⟨fun _ hC H => z0H hC, xy (by kernel_rfl), zbx⟩
theorem zbv : zI Tryz.prog L43 := ⟨fun _ hC H => KU hC (zH H 36 rfl), xy (by kernel_rfl), zbw⟩
theorem zbu : zI Tryz.prog L44 := ⟨fun _ hC H => Je hC, xy (by kernel_rfl), zbv⟩
theorem zbt : zI Tryz.prog L45 := ⟨fun _ hC H => Kc hC (zH H 0 rfl), xy (by kernel_rfl), zbu⟩
theorem zbs : zI Tryz.prog L46 := ⟨fun _ hC H => Vy hC, xy (by kernel_rfl), zbt⟩
theorem zbr : zI Tryz.prog L47 := ⟨fun _ hC H => kX hC (zH H 1 rfl) (zH H 0 rfl), xy (by kernel_rfl), zbs⟩
theorem zbq : zI Tryz.prog L48 := ⟨fun _ hC H => Uh hC, xy (by kernel_rfl), zbr⟩
theorem zbp : zI Tryz.prog L49 := ⟨fun _ hC H => WZ hC (zH H 0 rfl), xy (by kernel_rfl), zbq⟩
theorem zbo : zI Tryz.prog L50 := ⟨fun _ hC H => Ui hC (zH H 5 rfl), xy (by kernel_rfl), zbp⟩
theorem zbn : zI Tryz.prog L51 := ⟨fun _ hC H => z0J hC, xy (by kernel_rfl), zbo⟩
theorem zbm : zI Tryz.prog L52 := ⟨fun _ hC H => WY hC (zH H 2 rfl) (zH H 1 rfl) (zH H 0 rfl), xy (by kernel_rfl), zbn⟩
theorem zbl : zI Tryz.prog L53 := ⟨fun _ hC H => j5 hC, xy (by kernel_rfl), zbm⟩
theorem zbk : zI Tryz.prog L54 := ⟨fun _ hC H => jP hC, xy (by kernel_rfl), zbl⟩
theorem zbj : zI Tryz.prog L55 := ⟨fun _ hC H => jD hC, xy (by kernel_rfl), zbk⟩
theorem zbi : zI Tryz.prog L56 := ⟨fun _ hC H => Ue hC (zH H 35 rfl) (zH H 40 rfl) (zH H 17 rfl) (zH H 8 rfl) (zH H 3 rfl) (zH H 2 rfl) (zH H 1 rfl) (zH H 0 rfl), xy (by kernel_rfl), zbj⟩
theorem zbh : zI Tryz.prog L57 := ⟨fun _ hC H => Jd hC, xy (by kernel_rfl), zbi⟩
theorem zbg : zI Tryz.prog L58 := ⟨fun _ hC H => XL hC, xy (by kernel_rfl), zbh⟩
theorem zbf : zI Tryz.prog L59 := ⟨fun _ hC H => Ym hC (zH H 0 rfl), xy (by kernel_rfl), zbg⟩
theorem zbe : zI Tryz.prog L60 := ⟨fun _ hC H => XI hC (zH H 0 rfl), xy (by kernel_rfl), zbf⟩
theorem zbd : zI Tryz.prog L61 := ⟨fun _ hC H => Vx hC (zH H 40 rfl) (zH H 22 rfl) (zH H 0 rfl) (zH H 30 rfl) (zH H 26 rfl), xy (by kernel_rfl), zbe⟩
theorem zbc : zI Tryz.prog L62 := ⟨fun _ hC H => KS hC, xy (by kernel_rfl), zbd⟩
theorem zbb : zI Tryz.prog L63 := ⟨fun _ hC H => KT hC (zH H 26 rfl) (zH H 22 rfl) (zH H 21 rfl) (zH H 20 rfl) (zH H 19 rfl) (zH H 6 rfl) (zH H 5 rfl) (zH H 1 rfl) (zH H 0 rfl) (zH H 56 rfl), xy (by kernel_rfl), zbc⟩
theorem zba : zI Tryz.prog L64 := ⟨fun _ hC H => WC hC (zH H 63 rfl) (zH H 56 rfl) (zH H 32 rfl) (zH H 60 rfl) (zH H 28 rfl) (zH H 57 rfl) (zH H 0 rfl), xy (by kernel_rfl), zbb⟩
theorem uJ {x : Int} (h1 : -9223372036854775808 ≤ x) (h2 : x ≤ 9223372036854775807) : w64 x = x := by
 simp only [w64, IntKind.wrap, IntKind.bits, IntKind.signed]
 simp
 omega
section
variable {α β σ τ ρ : Type}
def Ret (x : Option α) (Q : α → Prop) : Prop := ∃ a, x = some a ∧ Q a
theorem jk {a : α} {Q : α → Prop} : Ret (some a) Q ↔ Q a := ⟨fun ⟨b, e, q⟩ => by cases e; exact q, fun q => ⟨a, rfl, q⟩⟩
theorem gdT {p : Prop} [Decidable p] {x : Option α} (h : p) : gd p x = x := by unfold gd; rw [if_pos h]
theorem bdT {x : Option α} {u : α} {f : α → Option ρ} (h : x = some u) : Option.bind x f = f u := by rw [h]; rfl
theorem ZC (step : σ → Option (LR σ τ)) (n : Nat) (s : σ) : WF step (n + 1) s = (match step s with | none => none | some (.next s') => WF step n s' | some (.done t) => some t) := rfl
def LRP (N : σ → Prop) (D : τ → Prop) : LR σ τ → Prop
 | .next s => N s
 | .done t => D t
theorem QP {step : σ → Option (LR σ τ)} (I : σ → Prop) (m : σ → Nat) {R : τ → Prop} {s : σ} (hs : I s) (hm : m s < 18446744073709551616)
  (h : ∀ s, I s → Ret (step s) (LRP (fun s' => I s' ∧ m s' < m s) R)) : Ret (loop step s) R := by
 have gen : ∀ (n : Nat) (s : σ), I s → m s < n → Ret (WF step n s) R := by
  intro n
  induction n with
  | zero => intro s _ h; omega
  | succ n ih =>
   intro s hs hm
   obtain ⟨a, e, q⟩ := h s hs
   rw [ZC, e]
   cases a with
   | next s' => exact ih s' q.1 (by have := q.2; omega)
   | done t => exact ⟨t, rfl, q⟩
 exact gen fuel s hs hm
theorem Yi {step : σ → Option (LR σ τ)} (st : Nat → σ) (n : Nat) {t : τ} (hn : n < 9223372036854775808) (h : ∀ i, i < n → step (st i) = some (.next (st (i + 1)))) (hd : step (st n) = some (.done t)) : loop step (st 0) = some t := by
 have gen : ∀ (k : Nat) (i : Nat), i ≤ n → n - i < k → WF step k (st i) = some t := by
  intro k
  induction k with
  | zero => intro i _ h; omega
  | succ k ih =>
   intro i hi hk
   rw [ZC]
   rcases Nat.lt_or_ge i n with q | q
   ·rw [h i q]
    exact ih (i + 1) q (by omega)
   ·have : i = n := by omega
    subst this
    rw [hd]
 exact gen fuel 0 (Nat.zero_le _) (by show n - 0 < 18446744073709551616; omega)
def Yj (f : Nat → α → Option ρ) : List α → Nat → Option ρ
 | [], _ => none
 | x :: l, i => match f i x with | some r => some r | none => Yj f l (i + 1)
theorem JU {f : Nat → α → Option ρ} : ∀ {l : List α} {k : Nat}, (∀ i x, l[i]? = some x → f (k + i) x = none) → Yj f l k = none
 | [], _, _ => rfl
 | x :: l, k, h => by
  have h0 := h 0 x rfl
  simp only [Nat.add_zero] at h0
  simp only [Yj, h0]
  exact JU fun i y hy => by have := h (i + 1) y (by simpa using hy); rwa [show k + 1 + i = k + (i + 1) by omega]
theorem Vb {f : Nat → α → Option ρ} {r : ρ} : ∀ {l : List α} {k : Nat}, Yj f l k = some r → ∃ i x, l[i]? = some x ∧ f (k + i) x = some r
 | [], _, h => by cases h
 | x :: l, k, h => by
  simp only [Yj] at h
  cases hf : f k x with
  | some r' => rw [hf] at h; exact ⟨0, x, rfl, by rw [Nat.add_zero, hf]; exact h⟩
  | none =>
   rw [hf] at h
   obtain ⟨i, y, h1, h2⟩ := Vb h
   exact ⟨i + 1, y, by simpa using h1, by rw [← h2]; congr 1; omega⟩
theorem VM {f : Nat → α → Option ρ} {l : List α} {k : Nat} (h : Yj f l k = none) : ∀ i x, l[i]? = some x → f (k + i) x = none := by
 induction l generalizing k with
 | nil => intro i x h; simp at h
 | cons y l ih =>
  intro i x hx
  simp only [Yj] at h
  cases hf : f k y with
  | some r' => rw [hf] at h; cases h
  | none =>
   rw [hf] at h
   cases i with
   | zero => simp at hx; subst hx; simpa using hf
   | succ i => have := ih h i x (by simpa using hx); rwa [show k + (i + 1) = k + 1 + i by omega]
def oS : Option ρ → Unit ⊕ ρ
 | some r => .inr r
 | none => .inl ()
def nS (i : Nat) : Option ρ → LR Int (Unit ⊕ ρ)
 | some r => .done (.inr r)
 | none => .next (w64 ((i : Int) + 1))
theorem VG (l : List α) (hl : l.length < 4611686018427387904) {step : Int → Option (LR Int (Unit ⊕ ρ))} (f : Nat → α → Option ρ)
  (h : ∀ (i : Nat) (x : α), l[i]? = some x → step (i : Int) = some (nS i (f i x))) (h2 : step (l.length : Int) = some (.done (.inl ()))) :
  loop step 0 = some (oS (Yj f l 0)) := by
 have gen : ∀ (n : Nat) (k : Nat), k ≤ l.length → l.length - k < n → WF step n (k : Int) = some (oS (Yj f (l.drop k) k)) := by
  intro n
  induction n with
  | zero => intro k _ h; omega
  | succ n ih =>
   intro k hk hn
   rw [ZC]
   rcases Nat.lt_or_ge k l.length with hlt | hge
   ·have hx : l[k]? = some l[k] := List.getElem?_eq_getElem hlt
    rw [h k _ hx, List.drop_eq_getElem_cons hlt]
    simp only [Yj]
    cases hf : f k l[k] with
    | some r => rfl
    | none =>
     simp only [nS]
     rw [uJ (by omega) (by omega)]
     exact ih (k + 1) hlt (by omega)
   ·have : k = l.length := by omega
    subst this
    rw [h2, List.drop_length]
    rfl
 exact gen fuel 0 (Nat.zero_le _) (by show l.length - 0 < 18446744073709551616; omega)
end
theorem xg {α : Type} {l : List α} {i : Nat} {x : α} (h : l[i]? = some x) : idx l (i : Int) = some x := h
theorem xC {α : Type} {l : List α} {i : Nat} {x : α} (h : l[i]? = some x) : i < l.length := (List.getElem?_eq_some_iff.1 h).1
section
variable {α β σ τ ρ : Type}
def nxt (f : σ → Option (LR τ ρ)) : LR σ ρ → Option (LR τ ρ)
 | .next s => f s
 | .done r => some (.done r)
def JT (g : Nat → α → σ → Option (LR σ ρ)) : List α → Nat → σ → Option (LR σ ρ)
 | [], _, s => some (.next s)
 | x :: l, k, s => Option.bind (g k x s) (nxt (JT g l (k + 1)))
def zel (k : Nat) (fin : LR σ ρ → τ) : LR σ ρ → LR (σ × Int) τ
 | .next s => .next (s, w64 ((k : Int) + 1))
 | .done r => .done (fin (.done r))
theorem Wx (l : List α) (hl : l.length < 4611686018427387904) {step : σ × Int → Option (LR (σ × Int) τ)} (g : Nat → α → σ → Option (LR σ ρ)) (fin : LR σ ρ → τ) (s : σ)
  (h : ∀ (i : Nat) (x : α) (s : σ), l[i]? = some x → step (s, (i : Int)) = (g i x s).map (zel i fin)) (h2 : ∀ s, step (s, (l.length : Int)) = some (.done (fin (.next s)))) :
  loop step (s, 0) = (JT g l 0 s).map fin := by
 have gen : ∀ (n : Nat) (k : Nat) (s : σ), k ≤ l.length → l.length - k < n → WF step n (s, (k : Int)) = (JT g (l.drop k) k s).map fin := by
  intro n
  induction n with
  | zero => intro k s _ h; omega
  | succ n ih =>
   intro k s hk hn
   rw [ZC]
   rcases Nat.lt_or_ge k l.length with hlt | hge
   ·have hx : l[k]? = some l[k] := List.getElem?_eq_getElem hlt
    rw [h k _ s hx, List.drop_eq_getElem_cons hlt]
    simp only [JT]
    cases hg : g k l[k] s with
    | none => rfl
    | some r =>
     cases r with
     | done r => rfl
     | next s' =>
      simp only [Option.map_some, zel, oB, nxt]
      rw [uJ (by omega) (by omega)]
      exact ih (k + 1) s' hlt (by omega)
   ·have : k = l.length := by omega
    subst this
    rw [h2, List.drop_length]
    rfl
 exact gen fuel 0 s (Nat.zero_le _) (by show l.length - 0 < 18446744073709551616; omega)
def ui (yy : σ → α → Option (σ × Bool)) : List α → σ → Option (LR σ σ)
 | [], s => some (.next s)
 | x :: l, s => Option.bind (yy s x) fun r => bif r.2 then ui yy l r.1 else some (.done r.1)
theorem Qd (yy : σ → α → Option (σ × Bool)) (l m : List α) (s : σ) : ui yy (l ++ m) s = Option.bind (ui yy l s) (nxt (ui yy m)) := by
 induction l generalizing s with
 | nil => rfl
 | cons x l ih =>
  simp only [List.cons_append, ui]
  cases yy s x with
  | none => rfl
  | some r =>
   simp only [oB]
   cases r.2 with
   | true => exact ih r.1
   | false => rfl
def uN (f : Nat → α → List β) : List α → Nat → List β
 | [], _ => []
 | x :: l, k => f k x ++ uN f l (k + 1)
theorem VF {f : Nat → α → List β} {y : β} : ∀ {l : List α} {k : Nat}, y ∈ uN f l k ↔ ∃ i x, l[i]? = some x ∧ y ∈ f (k + i) x
 | [], k => by simp [uN]
 | x :: l, k => by
  rw [uN, List.mem_append, VF (l := l)]
  constructor
  ·rintro (h | ⟨i, z, h1, h2⟩)
   ·exact ⟨0, x, rfl, h⟩
   ·exact ⟨i + 1, z, by simpa using h1, by rwa [show k + (i + 1) = k + 1 + i by omega]⟩
  ·rintro ⟨i, z, h1, h2⟩
   cases i with
   | zero => simp at h1; subst h1; exact .inl h2
   | succ i => exact .inr ⟨i, z, by simpa using h1, by rwa [show k + 1 + i = k + (i + 1) by omega]⟩
theorem VL {f : Nat → α → List β} {b : Nat} : ∀ {l : List α} {k : Nat}, (∀ i x, l[i]? = some x → (f (k + i) x).length ≤ b) → (uN f l k).length ≤ l.length * b
 | [], k, _ => by simp [uN]
 | x :: l, k, h => by
  rw [uN, List.length_append, List.length_cons, Nat.succ_mul]
  have h1 := h 0 x rfl
  have h2 := VL (f := f) (l := l) (k := k + 1) (b := b) fun i z hz => by
   have := h (i + 1) z (by simpa using hz)
   rwa [show k + 1 + i = k + (i + 1) by omega]
  simp only [Nat.add_zero] at h1
  omega
theorem Wz (yy : σ → β → Option (σ × Bool)) (f : Nat → α → List β) {g : Nat → α → σ → Option (LR σ σ)} :
  ∀ {l : List α} {k : Nat} {s : σ}, (∀ i x s, l[i]? = some x → g (k + i) x s = ui yy (f (k + i) x) s) → JT g l k s = ui yy (uN f l k) s
 | [], k, s, _ => rfl
 | x :: l, k, s, h => by
  rw [uN, Qd, JT]
  have h0 := h 0 x s rfl
  rw [Nat.add_zero] at h0
  rw [h0]
  congr 1
  funext r
  cases r with
  | done r => rfl
  | next s' =>
   exact Wz yy f fun i z s hz => by
    have := h (i + 1) z s (by simpa using hz)
    rwa [show k + (i + 1) = k + 1 + i by omega] at this
theorem z1B (yy : σ → β → Option (σ × Bool)) (f : α → List β) {step : σ → α → Option (LR σ σ)} :
  ∀ {l : List α} {s : σ}, (∀ x ∈ l, ∀ s, step s x = ui yy (f x) s) → ui (yOf step) l (.next s) = (ui yy (l.flatMap f) s).map (fun r => match r with | .next s => .next (.next s) | .done s => .done (.done s))
 | [], s, _ => rfl
 | x :: l, s, h => by
  rw [List.flatMap_cons, Qd, ui, yOf, h x List.mem_cons_self s]
  cases ui yy (f x) s with
  | none => rfl
  | some r =>
   cases r with
   | done r => rfl
   | next s' => exact z1B yy f fun z hz => h z (List.mem_cons_of_mem _ hz)
end
def InR (n many : Int) : Prop := 0 ≤ n ∧ n < many
instance (n many : Int) : Decidable (InR n many) := by unfold InR; infer_instance
structure zaP (x : z8) (st : Int) (a : ze) : Prop where
 fr : InR a.From st
 to : InR a.To st
 kind : 0 ≤ a.Kind ∧ a.Kind ≤ 2
 inner : a.Kind = 0 → a.Channel = 0 ∧ InR a.Message x.Labels
 other : a.Kind ≠ 0 → InR a.Channel x.Channels.length ∧ InR a.Message x.Messages
def Ris (l : List Int) (many : Int) : Prop := ∀ (i : Nat) (v : Int), l[i]? = some v → InR v many ∧ (0 < i → ∃ u, l[i - 1]? = some u ∧ u < v)
structure zd5 (x : z8) (p : zi) : Prop where
 lo : 1 ≤ p.States
 hi : p.States ≤ 64
 arcs : p.Arcs.length ≤ 256
 ris : Ris p.Final p.States
 fin : p.Final.length ≤ 64
 arc : ∀ a ∈ p.Arcs, zaP x p.States a
structure z5o (x : z8) : Prop where
 msg : 0 ≤ x.Messages ∧ x.Messages ≤ 16
 lab : 0 ≤ x.Labels ∧ x.Labels ≤ 16
 chl : x.Channels.length ≤ 4
 ch : ∀ n ∈ x.Channels, 0 ≤ n ∧ n ≤ 4
 pl : 1 ≤ x.Parts.length ∧ x.Parts.length ≤ 4
 part : ∀ p ∈ x.Parts, zd5 x p
structure z9m (x : z8) (c : z7) : Prop where
 sl : c.States.length = x.Parts.length
 ql : c.Queues.length = x.Channels.length
 st : ∀ (i : Nat) (p : zi) (v : Int), x.Parts[i]? = some p → c.States[i]? = some v → InR v p.States
 qu : ∀ (i : Nat) (q : List Int) (n : Int), c.Queues[i]? = some q → x.Channels[i]? = some n → (q.length : Int) ≤ n ∧ ∀ m ∈ q, InR m x.Messages
theorem QS {α ρ : Type} (l : List α) (hl : l.length < 4611686018427387904) {step : Int → Option (LR Int (Unit ⊕ ρ))} (h : ∀ (i : Nat) (x : α), l[i]? = some x → step (i : Int) = some (.next (w64 ((i : Int) + 1)))) (h2 : step (l.length : Int) = some (.done (.inl ()))) :
  loop step 0 = some (.inl ()) := by
 rw [VG l hl (fun _ _ => (none : Option ρ)) (fun i x hx => h i x hx) h2, JU (fun _ _ _ => rfl)]
 rfl
theorem z4O {α : Type} {l : List α} (hl : l.length < 4611686018427387904) (p : α → Bool) {step : Int → Option (LR Int (Unit ⊕ Int))} {F : Unit ⊕ Int → Option Int} (hF1 : F (.inl ()) = some (-1)) (hF2 : ∀ n, F (.inr n) = some n)
  (h : ∀ (i : Nat) (x : α), l[i]? = some x → step (i : Int) = some (bif p x then .done (.inr (i : Int)) else .next (w64 ((i : Int) + 1)))) (h2 : step (l.length : Int) = some (.done (.inl ()))) :
  Option.bind (Option.bind (loop step 0) F) (fun r => some (decide (r ≥ 0))) = some (l.any p) := by
 rw [VG l hl (fun i x => bif p x then some (i : Int) else none) (fun i x hx => by rw [h i x hx]; cases p x <;> rfl) h2]
 cases hf : Yj (fun (i : Nat) x => bif p x then some (i : Int) else none) l 0 with
 | none =>
  have ha : l.any p = false := by
   rw [List.any_eq_false]
   intro x hx
   obtain ⟨i, hi⟩ := List.mem_iff_getElem?.1 hx
   have := VM hf i x hi
   cases hp : p x with
   | false => simp
   | true => rw [hp] at this; cases this
  rw [ha]
  show Option.bind (F (.inl ())) _ = _
  rw [hF1]; rfl
 | some r =>
  obtain ⟨i, x, h1, h3⟩ := Vb hf
  have hp : p x = true := by
   cases hp : p x with
   | true => rfl
   | false => rw [hp] at h3; cases h3
  rw [hp] at h3
  cases h3
  have ha : l.any p = true := List.any_eq_true.2 ⟨x, List.mem_of_getElem? h1, hp⟩
  rw [ha]
  show Option.bind (F (.inr _)) _ = _
  rw [hF2]
  simp only [oB]
  rw [decide_eq_true (by omega)]
theorem zaA (l : List Int) (hl : l.length < 4611686018427387904) : yD l () = some (l.any fun n => decide (n > 4)) := by
 unfold yD xO
 refine z4O hl (fun n => decide (n > 4)) rfl (fun _ => rfl) (fun i x hx => ?_) ?_
 ·have hi := xC hx
  unfold yx jR
  rw [decide_eq_true (by omega), cond_true, xg hx, oB, oB]
  cases decide (x > 4) <;> rfl
 ·unfold yx
  rw [decide_eq_false (by omega), cond_false]
theorem zcZ (l : List zi) (hl : l.length < 4611686018427387904) : zP l () = some (l.any fun p => decide (p.States > 64) || decide ((p.Arcs.length : Int) > 256)) := by
 unfold zP yc
 refine z4O hl (fun p => decide (p.States > 64) || decide ((p.Arcs.length : Int) > 256)) rfl (fun _ => rfl) (fun i x hx => ?_) ?_
 ·have hi := xC hx
  unfold zO jQ
  rw [decide_eq_true (by omega), cond_true, xg hx, oB]
  cases decide (x.States > 64) <;> cases decide ((x.Arcs.length : Int) > 256) <;> rfl
 ·unfold zO
  rw [decide_eq_false (by omega), cond_false]
theorem zaz (l : List Int) (hl : l.length < 4611686018427387904) : yC l () = some (l.any fun n => decide (n < 0)) := by
 unfold yC xN
 refine z4O hl (fun n => decide (n < 0)) rfl (fun _ => rfl) (fun i x hx => ?_) ?_
 ·have hi := xC hx
  unfold yw k8
  rw [decide_eq_true (by omega), cond_true, xg hx, oB, oB]
  cases decide (x < 0) <;> rfl
 ·unfold yw
  rw [decide_eq_false (by omega), cond_false]
theorem z1t (n m : Int) : ve n m = some (decide (InR n m)) := by
 unfold ve
 by_cases h : n ≥ 0
 ·rw [decide_eq_true h, cond_true]
  exact congrArg some (decide_eq_decide.2 ⟨fun q => ⟨h, q⟩, fun q => q.2⟩)
 ·rw [decide_eq_false h, cond_false]
  exact congrArg some (decide_eq_false (fun q : InR n m => h q.1)).symm
def Q7 (x : z8) (st : Int) (a : ze) : Bool :=
 decide (InR a.From st) && decide (InR a.To st) && decide (a.Kind ≤ 2) && bif a.Kind == 0 then (a.Channel == 0 && decide (InR a.Message x.Labels)) else (decide (InR a.Channel x.Channels.length) && decide (InR a.Message x.Messages))
theorem z69 (x : z8) (p : zi) (a : ze) : wO x p a = some (Q7 x p.States a) := by
 unfold wO Q7
 rw [z1t, z1t, z1t, z1t, z1t]
 have hk : decide (a.Kind ≤ 2) = !decide (a.Kind > 2) := by
  by_cases h : a.Kind ≤ 2
  ·rw [decide_eq_true h, decide_eq_false (by omega)]; rfl
  ·rw [decide_eq_false h, decide_eq_true (by omega)]; rfl
 rw [hk]
 cases decide (InR a.From p.States) <;> cases decide (InR a.To p.States) <;> cases decide (a.Kind > 2) <;> cases (a.Kind == 0) <;> cases (a.Channel == 0) <;> cases decide (InR a.Channel x.Channels.length) <;> rfl
theorem z3k {x : z8} {st : Int} {a : ze} (h0 : 0 ≤ a.Kind) : Q7 x st a = true ↔ zaP x st a := by
 unfold Q7
 constructor
 ·intro h
  simp only [Bool.and_eq_true, decide_eq_true_eq] at h
  obtain ⟨⟨⟨h1, h2⟩, h3⟩, h4⟩ := h
  refine ⟨h1, h2, ⟨h0, h3⟩, fun q => ?_, fun q => ?_⟩
  ·rw [q] at h4; simpa using h4
  ·rw [beq_false_of_ne q, cond_false] at h4; simpa using h4
 ·intro h
  by_cases q : a.Kind = 0
  ·simp [h.fr, h.to, q, h.inner q]
  ·simp [h.fr, h.to, h.kind.2, q, h.other q]
theorem zd0 (x : z8) (p : zi) (l : List ze) (hl : l.length < 4611686018427387904) : zV l (x, p) = some (l.any fun a => !Q7 x p.States a) := by
 unfold zV yf
 refine z4O hl (fun a => !Q7 x p.States a) rfl (fun _ => rfl) (fun i a hx => ?_) ?_
 ·have hi := xC hx
  unfold zU k7
  rw [decide_eq_true (by omega), cond_true, xg hx, oB, z69, oB, oB]
  cases Q7 x p.States a <;> rfl
 ·unfold zU
  rw [decide_eq_false (by omega), cond_false]
theorem zay (x : z8) (l : List Int) (hl : l.length < 4611686018427387904) : yz l x = some (l.any fun m => !decide (InR m x.Messages)) := by
 unfold yz xM
 refine z4O hl (fun m => !decide (InR m x.Messages)) rfl (fun _ => rfl) (fun i m hx => ?_) ?_
 ·have hi := xC hx
  unfold yu vu
  rw [decide_eq_true (by omega), cond_true, xg hx, oB, z1t, oB, oB]
  cases decide (InR m x.Messages) <;> rfl
 ·unfold yu
  rw [decide_eq_false (by omega), cond_false]
theorem z3X {l : List Int} {many : Int} (hl : l.length ≤ 64) (h : Ris l many) : uQ l many = some true := by
 unfold uQ
 rw [bdT (QS l (by omega) ?_ ?_)]
 ·rfl
 ·intro i v hv
  have hi := xC hv
  obtain ⟨h1, h2⟩ := h i v hv
  unfold vZ
  rw [decide_eq_true (by omega), cond_true, xg hv, oB, z1t, oB, decide_eq_true h1, Bool.not_true, cond_false]
  by_cases q : 0 < i
  ·obtain ⟨u, hu, hlt⟩ := h2 q
   rw [decide_eq_true (by omega), cond_true, uJ (by omega) (by omega), show (i : Int) - 1 = ((i - 1 : Nat) : Int) by omega, xg hu, oB, decide_eq_false (by omega), cond_false]
   rfl
  ·rw [decide_eq_false (by omega), cond_false]
   rfl
 ·unfold vZ
  rw [decide_eq_false (by omega), cond_false]
theorem z6K {x : z8} (h : z5o x) : vw x = some 0 := by
 have habove : jS x = some false := by
  unfold jS
  have h1 := h.chl; have h2 := h.pl.2
  rw [decide_eq_false (by have := h.msg.2; omega), cond_false, decide_eq_false (by have := h.lab.2; omega), cond_false, decide_eq_false (by omega), cond_false, decide_eq_false (by omega), cond_false, zaA _ (by omega), zcZ _ (by omega)]
  have e1 : (x.Channels.any fun n => decide (n > 4)) = false := List.any_eq_false.2 fun n hn => by have := h.ch n hn; simp; omega
  have e2 : (x.Parts.any fun p => decide (p.States > 64) || decide ((p.Arcs.length : Int) > 256)) = false := List.any_eq_false.2 fun p hp => by have q1 := (h.part p hp).hi; have q2 := (h.part p hp).arcs; simp; omega
  rw [e1, e2]
  rfl
 have e3 : (x.Channels.any fun n => decide (n < 0)) = false := List.any_eq_false.2 fun n hn => by have := h.ch n hn; simp; omega
 unfold vw
 rw [habove, oB, cond_false, decide_eq_false (by have := h.msg.1; omega), cond_false, decide_eq_false (by have := h.lab.1; omega), cond_false, decide_eq_false (by have := h.pl.1; omega), cond_false, zaz _ (by have := h.chl; omega), e3, oB, cond_false]
 rw [bdT (QS x.Parts (by have := h.pl.2; omega) ?_ ?_)]
 ·rfl
 ·intro i p hp
  have hi := xC hp
  have hv := h.part p (List.mem_of_getElem? hp)
  have e4 : (p.Arcs.any fun a => !Q7 x p.States a) = false := List.any_eq_false.2 fun a ha => by
   have := (z3k (hv.arc a ha).kind.1).2 (hv.arc a ha)
   simp [this]
  unfold uL
  rw [decide_eq_true (by omega), cond_true, xg hp, oB, decide_eq_false (by have := hv.lo; omega), cond_false, z3X hv.fin hv.ris, oB, Bool.not_true, cond_false, zd0 _ _ _ (by have := hv.arcs; omega), e4, oB, cond_false]
 ·unfold uL
  rw [decide_eq_false (by omega), cond_false]
theorem WU {x : z8} {c : z7} (h : z5o x) (hc : z9m x c) : wg x c = some 0 := by
 have hs := hc.sl; have hq := hc.ql; have hp2 := h.pl.2; have hcl := h.chl
 unfold wg
 rw [z6K h, oB, show ((0 : Int) != 0) = false from rfl, cond_false, hs, hq, bne_self_eq_false, cond_false, bne_self_eq_false, cond_false]
 rw [bdT (QS x.Parts (by omega) ?_ ?_)]
 ·show wc x c = _
  unfold wc
  rw [bdT (QS c.Queues (by omega) ?_ ?_)]
  ·rfl
  ·intro i q hq'
   have hi := xC hq'
   have hn : x.Channels[i]? = some x.Channels[i] := List.getElem?_eq_getElem (by omega)
   obtain ⟨h1, h2⟩ := hc.qu i q _ hq' hn
   have hb := h.ch _ (List.mem_of_getElem? hn)
   have e : (q.any fun m => !decide (InR m x.Messages)) = false := List.any_eq_false.2 fun m hm => by simp [h2 m hm]
   unfold wb
   rw [decide_eq_true (by omega), cond_true, xg hq', oB, xg hn, oB, decide_eq_false (by omega), cond_false, zay _ _ (by omega), e, oB, cond_false]
  ·unfold wb
   rw [decide_eq_false (by omega), cond_false]
 ·intro i p hp
  have hi := xC hp
  have hv : c.States[i]? = some c.States[i] := List.getElem?_eq_getElem (by omega)
  unfold wa
  rw [decide_eq_true (by omega), cond_true, xg hp, oB, xg hv, oB, z1t, oB, decide_eq_true (hc.st i p _ hp hv), Bool.not_true, cond_false]
 ·unfold wa
  rw [decide_eq_false (by omega), cond_false]
section
variable {α : Type}
theorem zD.ext_toL {a b : zD α} (h : a.toL = b.toL) : a = b := by
 cases a; cases b; simp only [zD.toL, List.cons.injEq, and_true] at h; simp only [zD.mk.injEq]; exact h
theorem zD.toL_setI (a : zD α) (i : Nat) (v : α) : (zD.setI a (i : Int) v).toL = a.toL.set i v := by
 unfold zD.setI
 rw [zD.toL_ofL _ _ (by rw [List.length_set]; rfl)]
 rfl
end
def JH {α : Type} (z : α) (l : List α) : List α := l ++ List.replicate (4 - l.length) z
theorem z0a {α : Type} {z : α} {l : List α} (h : l.length ≤ 4) : (JH z l).length = 4 := by
 rw [JH, List.length_append, List.length_replicate]; omega
theorem z48 {α : Type} {z : α} {l : List α} {i : Nat} {v : α} (h : l[i]? = some v) : (JH z l)[i]? = some v := by
 rw [JH, List.getElem?_append_left (xC h)]; exact h
theorem z2P {α : Type} {z : α} {l : List α} {i : Nat} {v : α} (h : i < l.length) : (JH z l).set i v = JH z (l.set i v) := by
 rw [JH, JH, List.set_append_left _ _ h, List.length_set]
theorem z1a {α : Type} {z : α} {l : List α} : (JH z l).take l.length = l := by
 rw [JH, List.take_left]
theorem z1b {α : Type} {z : α} {l : List α} {v : α} (h : l.length < 4) : (JH z l).set l.length v = JH z (l ++ [v]) := by
 rw [JH, JH, List.set_append_right _ _ (Nat.le_refl _), Nat.sub_self, show 4 - l.length = (4 - (l ++ [v]).length) + 1 by simp; omega, List.replicate_succ, List.set_cons_zero, List.append_assoc]
 rfl
def pad (l : List Int) : zD Int := zD.ofL (JH 0 l) ⟨0, 0, 0, 0⟩
theorem JG {l : List Int} (h : l.length ≤ 4) : (pad l).toL = JH 0 l := zD.toL_ofL _ _ (z0a h)
def qOf (l : List Int) : zf := ⟨l.length, pad l⟩
def z5k (l : List (List Int)) : zD zf := zD.ofL (JH (qOf []) (l.map qOf)) ⟨qOf [], qOf [], qOf [], qOf []⟩
theorem Ws {l : List (List Int)} (h : l.length ≤ 4) : (z5k l).toL = JH (qOf []) (l.map qOf) := zD.toL_ofL _ _ (z0a (by simpa using h))
def w5 (c : z7) : zb := ⟨pad c.States, z5k c.Queues⟩
theorem z09 {l : List Int} {i : Nat} {v : Int} (h : l.length ≤ 4) (hi : i < l.length) : zD.setI (pad l) (i : Int) v = pad (l.set i v) := by
 apply zD.ext_toL
 rw [zD.toL_setI, JG h, JG (by rw [List.length_set]; exact h), z2P hi]
theorem z6h {l : List (List Int)} {i : Nat} {v : List Int} (h : l.length ≤ 4) (hi : i < l.length) : zD.setI (z5k l) (i : Int) (qOf v) = z5k (l.set i v) := by
 apply zD.ext_toL
 rw [zD.toL_setI, Ws h, Ws (by rw [List.length_set]; exact h), z2P (by simpa using hi), List.map_set]
theorem Ky {l : List Int} {i : Nat} {v : Int} (h : l.length ≤ 4) (hi : l[i]? = some v) : idx (pad l).toL (i : Int) = some v := by
 rw [JG h]; exact z48 hi
theorem z47 {l : List (List Int)} {i : Nat} {v : List Int} (h : l.length ≤ 4) (hi : l[i]? = some v) : idx (z5k l).toL (i : Int) = some (qOf v) := by
 rw [Ws h]; exact z48 (by rw [List.getElem?_map, hi]; rfl)
theorem z7f {l : List Int} (m : Int) (h : l.length < 4) : u0 (qOf l) m = some (qOf (l ++ [m])) := by
 match l, h with
 | [], _ => rfl
 | [a], _ => rfl
 | [a, b], _ => rfl
 | [a, b, c], _ => rfl
theorem z5O {a : Int} {l : List Int} (h : l.length < 4) : qe (qOf (a :: l)) = some (qOf l) := by
 match l, h with
 | [], _ => rfl
 | [x], _ => rfl
 | [x, y], _ => rfl
 | [x, y, z], _ => rfl
theorem z6f {L : zD zf} {q : List Int} {k : Nat} (hk : k < 4) (hL : L.toL[k]? = some (qOf [])) (hq : q.length ≤ 4) :
  loop (fun s => wI (k : Int) q s.1 s.2) (L, 0) = some (zD.setI L (k : Int) (qOf q)) := by
 have e0 : zD.setI L (k : Int) (qOf (q.take 0)) = L := by
  apply zD.ext_toL
  rw [zD.toL_setI]
  obtain ⟨h1, h2⟩ := List.getElem?_eq_some_iff.1 hL
  exact h2 ▸ List.set_getElem_self h1
 have hlk : k < L.toL.length := hk
 refine (congrArg (fun a => loop (fun s => wI (k : Int) q s.1 s.2) (a, 0)) e0.symm).trans ?_
 refine Yi (fun j => (zD.setI L (k : Int) (qOf (q.take j)), (j : Int))) q.length (by omega) (fun j hj => ?_) ?_
 ·have hv : q[j]? = some q[j] := List.getElem?_eq_getElem hj
  have hc : idx (zD.setI L (k : Int) (qOf (q.take j))).toL (k : Int) = some (qOf (q.take j)) := by
   rw [zD.toL_setI]
   show (L.toL.set k _)[k]? = _
   rw [List.getElem?_set_self hlk]
  unfold wI
  dsimp only
  rw [decide_eq_true (by omega), cond_true, xg hv, oB, hc, oB, z7f _ (by rw [List.length_take]; omega), oB, oB, oB, uJ (by omega) (by omega)]
  have : zD.setI (zD.setI L (k : Int) (qOf (q.take j))) (k : Int) (qOf (q.take j ++ [q[j]])) = zD.setI L (k : Int) (qOf (q.take (j + 1))) := by
   apply zD.ext_toL
   rw [zD.toL_setI, zD.toL_setI, zD.toL_setI, List.set_set, List.take_add_one, hv]
   rfl
  rw [this]
  rfl
 ·unfold wI
  dsimp only
  rw [decide_eq_false (by omega), cond_false, List.take_length]
theorem z2N {c : z7} (hs : c.States.length ≤ 4) (hq : c.Queues.length ≤ 4) (hb : ∀ q ∈ c.Queues, q.length ≤ 4) : qK c = some (w5 c) := by
 unfold qK
 have e1 : zD.ofL (cpA (zD.toL (zD.mk (0 : Int) 0 0 0)) 0 c.States) (zD.mk 0 0 0 0) = pad c.States := by
  unfold pad JH
  congr 1
  simp only [cpA, zD.toL, List.take_zero, List.nil_append, List.length_cons, List.length_nil]
  rw [List.take_of_length_le (by omega)]
  congr 1
  generalize c.States.length = n at hs
  match n, hs with
  | 0, _ => rfl
  | 1, _ => rfl
  | 2, _ => rfl
  | 3, _ => rfl
  | 4, _ => rfl
 rw [oB, e1]
 have hl : loop (fun s => vd c s.1 s.2) ((zD.mk (zf.mk 0 (zD.mk 0 0 0 0)) (zf.mk 0 (zD.mk 0 0 0 0)) (zf.mk 0 (zD.mk 0 0 0 0)) (zf.mk 0 (zD.mk 0 0 0 0))), 0) = some (z5k c.Queues) := by
  refine Yi (fun j => (z5k (c.Queues.take j), (j : Int))) c.Queues.length (by omega) (fun j hj => ?_) ?_
  ·have hv : c.Queues[j]? = some c.Queues[j] := List.getElem?_eq_getElem hj
   have hlen : (c.Queues.take j).length = j := by rw [List.length_take]; omega
   unfold vd
   dsimp only
   rw [decide_eq_true (by omega), cond_true, xg hv, oB, z6f (by omega) (by
    rw [Ws (by omega), JH, List.getElem?_append_right (by simp; omega), List.getElem?_replicate, if_pos (by simp; omega)]) (hb _ (List.mem_of_getElem? hv)), oB]
   unfold je
   rw [uJ (by omega) (by omega)]
   have : zD.setI (z5k (c.Queues.take j)) (j : Int) (qOf c.Queues[j]) = z5k (c.Queues.take (j + 1)) := by
    apply zD.ext_toL
    rw [zD.toL_setI, Ws (by omega), Ws (by rw [List.length_take]; omega), List.take_add_one, hv]
    have := z1b (z := qOf []) (l := (c.Queues.take j).map qOf) (v := qOf c.Queues[j]) (by rw [List.length_map]; omega)
    rw [List.length_map, hlen] at this
    rw [this, List.map_append]
    rfl
   rw [this]
   rfl
  ·unfold vd
   dsimp only
   rw [decide_eq_false (by omega), cond_false, List.take_length]
 rw [bdT hl]
 rfl
theorem z34 {l : List Int} (h : l.length ≤ 4294967296) : xY l = some l := by
 unfold xY
 rw [gdT (by simpa using h)]
theorem z4Q {l : List Int} : wl l = some l := by
 unfold wl
 rw [gdT (by omega)]
 simp
theorem z4P {x : z8} {c : z7} (hs : c.States.length = x.Parts.length) (hq : c.Queues.length = x.Channels.length) (h4 : x.Parts.length ≤ 4) (h5 : x.Channels.length ≤ 4) (hb : ∀ q ∈ c.Queues, q.length ≤ 4) :
  xa x (w5 c) = some c := by
 unfold xa
 have e1 : [(w5 c).states_.e0, (w5 c).states_.e1, (w5 c).states_.e2, (w5 c).states_.e3] = JH 0 c.States := JG (by omega)
 rw [gdT (by simp; omega), e1, show (((x.Parts.length : Nat) : Int)).toNat = c.States.length by omega, z1a, z34 (by omega), oB, z4Q, oB, gdT (by omega)]
 have hl : loop (fun s => x7 x (w5 c) s.1 s.2) ((List.replicate ((x.Channels.length : Nat) : Int).toNat ([] : List Int)), 0) = some c.Queues := by
  rw [show (((x.Channels.length : Nat) : Int)).toNat = c.Queues.length by omega]
  have e0 : List.replicate c.Queues.length ([] : List Int) = c.Queues.take 0 ++ List.replicate (c.Queues.length - 0) [] := by simp
  rw [e0]
  refine Yi (fun j => (c.Queues.take j ++ List.replicate (c.Queues.length - j) [], (j : Int))) c.Queues.length (by omega) (fun j hj => ?_) ?_
  ·have hv : c.Queues[j]? = some c.Queues[j] := List.getElem?_eq_getElem hj
   have hlen : (c.Queues.take j).length = j := by rw [List.length_take]; omega
   have hql := hb _ (List.mem_of_getElem? hv)
   have e2 : [(qOf c.Queues[j]).l_.e0, (qOf c.Queues[j]).l_.e1, (qOf c.Queues[j]).l_.e2, (qOf c.Queues[j]).l_.e3] = JH 0 c.Queues[j] := JG hql
   unfold x7
   dsimp only
   rw [decide_eq_true (by rw [List.length_replicate]; omega), cond_true]
   rw [show idx (w5 c).queues_.toL (j : Int) = some (qOf c.Queues[j]) from z47 (by omega) hv, oB]
   rw [e2]
   rw [show (qOf c.Queues[j]).many_ = ((c.Queues[j].length : Nat) : Int) from rfl]
   rw [gdT (show (0 : Int) ≤ ((c.Queues[j].length : Nat) : Int) ∧ ((c.Queues[j].length : Nat) : Int) ≤ (((JH 0 c.Queues[j]).length : Nat) : Int) by rw [z0a hql]; omega)]
   rw [Int.toNat_natCast, z1a, z34 (by omega), oB, z4Q, oB]
   have hi : idx (c.Queues.take j ++ List.replicate (c.Queues.length - j) ([] : List Int)) (j : Int) = some [] := by
    show (c.Queues.take j ++ List.replicate (c.Queues.length - j) ([] : List Int))[j]? = some []
    rw [List.getElem?_append_right (by omega), hlen, Nat.sub_self, List.getElem?_replicate, if_pos (by omega)]
   rw [hi, oB, uJ (by omega) (by omega), Int.toNat_natCast]
   have : (c.Queues.take j ++ List.replicate (c.Queues.length - j) ([] : List Int)).set j c.Queues[j] = c.Queues.take (j + 1) ++ List.replicate (c.Queues.length - (j + 1)) [] := by
    rw [List.set_append_right _ _ (by omega), hlen, Nat.sub_self, show c.Queues.length - j = (c.Queues.length - (j + 1)) + 1 by omega, List.replicate_succ, List.set_cons_zero, List.take_add_one, hv, List.append_assoc]
    rfl
   rw [this]
   rfl
  ·unfold x7
   dsimp only
   rw [decide_eq_false (by rw [List.length_replicate]; omega), cond_false, List.take_length, Nat.sub_self]
   simp
 rw [bdT hl]
 rfl
def vH (l : List ze) (st : Int) : List (Int × ze) := uN (fun k a => if a.From = st then [((k : Int), a)] else []) l 0
theorem YO {l : List ze} {st : Int} {e : Int × ze} : e ∈ vH l st ↔ ∃ k : Nat, e.1 = k ∧ l[k]? = some e.2 ∧ e.2.From = st := by
 unfold vH
 rw [VF]
 constructor
 ·rintro ⟨i, a, h1, h2⟩
  rw [Nat.zero_add] at h2
  split at h2
  ·rename_i h
   simp at h2
   subst h2
   exact ⟨i, rfl, h1, h⟩
  ·simp at h2
 ·rintro ⟨k, h1, h2, h3⟩
  refine ⟨k, e.2, h2, ?_⟩
  rw [if_pos h3, Nat.zero_add, ← h1]
  simp
def stv (c : z7) (o : Nat) : Int := (c.States[o]?).getD 0
def two (c : z7) (p : Nat) (i : Int) (a : ze) (o : Nat) (kb : Int × ze) : List (za × z7) :=
 if kb.2.Kind = 2 ∧ kb.2.Channel = a.Channel ∧ kb.2.Message = a.Message then [(⟨p, i, o, kb.1⟩, ⟨(c.States.set p a.To).set o kb.2.To, c.Queues⟩)] else []
def VJ (x : z8) (c : z7) (p : Nat) (i : Int) (a : ze) : List (za × z7) :=
 uN (fun o P => if o = p then [] else (vH P.Arcs (stv c o)).flatMap (two c p i a o)) x.Parts 0
def quv (c : z7) (a : ze) : List Int := (c.Queues[a.Channel.toNat]?).getD []
def rmv (x : z8) (a : ze) : Int := (x.Channels[a.Channel.toNat]?).getD 0
def one (x : z8) (c : z7) (p : Nat) (e : Int × ze) : List (za × z7) :=
 if e.2.Kind = 0 then [(⟨p, e.1, -1, -1⟩, ⟨c.States.set p e.2.To, c.Queues⟩)]
 else if rmv x e.2 = 0 then (if e.2.Kind = 1 then VJ x c p e.1 e.2 else [])
 else if e.2.Kind = 1 then (if ((quv c e.2).length : Int) < rmv x e.2 then [(⟨p, e.1, -1, -1⟩, ⟨c.States.set p e.2.To, c.Queues.set e.2.Channel.toNat (quv c e.2 ++ [e.2.Message])⟩)] else [])
 else (if (quv c e.2).head? = some e.2.Message then [(⟨p, e.1, -1, -1⟩, ⟨c.States.set p e.2.To, c.Queues.set e.2.Channel.toNat (quv c e.2).tail⟩)] else [])
def mvs (x : z8) (c : z7) : List (za × z7) :=
 uN (fun p P => (vH P.Arcs (stv c p)).flatMap (one x c p)) x.Parts 0
section
variable {σ : Type}
def z3m : LR σ σ → σ
 | .next s => s
 | .done s => s
def zad : LR σ σ → σ ⊕ σ
 | .next s => .inl s
 | .done s => .inr s
def yeM (yy : σ → (za × zb) → Option (σ × Bool)) (s : σ) (m : za × z7) : Option (σ × Bool) := yy s (m.1, w5 m.2)
theorem z8T {x : z8} {c : z7} {p : Nat} {P : zi} {st : Int} (h1 : x.Parts[p]? = some P) (h2 : c.States[p]? = some st) (h3 : P.Arcs.length ≤ 256) (h4 : c.States.length ≤ 4)
  (yy : σ → (Int × ze) → Option (σ × Bool)) (sg : σ) : yh x (p : Int) (w5 c) yy sg = (ui yy (vH P.Arcs st) sg).map z3m := by
 unfold yh
 rw [xg h1, oB]
 have hc : idx (w5 c).states_.toL (p : Int) = some st := Ky h4 h2
 rw [Wx P.Arcs (by omega) (g := fun k a s => if a.From = st then Option.bind (yy s ((k : Int), a)) (fun r => some (bif r.2 then .next r.1 else .done r.1)) else some (.next s)) z3m sg ?_ ?_]
 ·rw [Wz yy (fun k a => if a.From = st then [((k : Int), a)] else [])]
  ·unfold vH
   cases (ui yy (uN (fun k a => if a.From = st then [((k : Int), a)] else []) P.Arcs 0) sg) <;> rfl
  ·intro i a s ha
   rw [Nat.zero_add]
   split
   ·simp only [ui]
    cases yy s ((i : Int), a) with
    | none => rfl
    | some r => obtain ⟨r1, r2⟩ := r; cases r2 <;> rfl
   ·rfl
 ·intro i a s ha
  have hi := xC ha
  unfold xH
  dsimp only
  rw [decide_eq_true (by omega), cond_true, xg ha, oB, hc, oB]
  by_cases q : a.From = st
  ·rw [q, beq_self_eq_true, cond_true, if_pos rfl]
   cases yy s ((i : Int), a) with
   | none => rfl
   | some r => obtain ⟨r1, r2⟩ := r; cases r2 <;> rfl
  ·rw [beq_false_of_ne q, cond_false, if_neg q]
   rfl
 ·intro s
  unfold xH
  dsimp only
  rw [decide_eq_false (by omega), cond_false]
  rfl
theorem z2Z {α : Type} {x : z8} {c : z7} {p : Nat} {P : zi} {st : Int} (h1 : x.Parts[p]? = some P) (h2 : c.States[p]? = some st) (h3 : P.Arcs.length ≤ 256) (h4 : c.States.length ≤ 4)
  (yy : σ → α → Option (σ × Bool)) (f : Int × ze → List α) {step : σ → Int × ze → Option (LR σ σ)} (sg : σ) (h : ∀ e ∈ vH P.Arcs st, ∀ s, step s e = ui yy (f e) s) :
  yh x (p : Int) (w5 c) (yOf step) (.next sg) = ui yy ((vH P.Arcs st).flatMap f) sg := by
 rw [z8T h1 h2 h3 h4, z1B yy f h]
 cases ui yy ((vH P.Arcs st).flatMap f) sg with
 | none => rfl
 | some r => cases r <;> rfl
theorem zcO {c : z7} (yy : σ → (za × zb) → Option (σ × Bool)) {p o : Nat} (i k : Int) (a b : ze) (h4 : c.States.length ≤ 4) (hp : p < c.States.length) (ho : o < c.States.length) (sg : σ) :
  yX (w5 c) yy (p : Int) i a (o : Int) sg k b = ui (yeM yy) (two c p i a o (k, b)) sg := by
 unfold yX two
 by_cases q1 : b.Kind = 2
 ·rw [q1, bne_self_eq_false, cond_false]
  by_cases q2 : b.Channel = a.Channel
  ·rw [q2, bne_self_eq_false, cond_false]
   by_cases q3 : b.Message = a.Message
   ·rw [q3, bne_self_eq_false, cond_false, if_pos ⟨rfl, rfl, rfl⟩]
    have e1 : idx (w5 c).states_.toL (p : Int) = some c.States[p] := Ky h4 (List.getElem?_eq_getElem hp)
    have e2 : zD.setI (w5 c).states_ (p : Int) a.To = pad (c.States.set p a.To) := z09 h4 hp
    have e3 : idx (pad (c.States.set p a.To)).toL (o : Int) = some ((c.States.set p a.To)[o]'(by rw [List.length_set]; exact ho)) := Ky (by rw [List.length_set]; exact h4) (List.getElem?_eq_getElem _)
    have e4 : zD.setI (pad (c.States.set p a.To)) (o : Int) b.To = pad ((c.States.set p a.To).set o b.To) := z09 (by rw [List.length_set]; exact h4) (by rw [List.length_set]; exact ho)
    rw [e1, oB, oB, e2, e3, oB, oB, e4]
    simp only [ui, yeM]
    show Option.bind (yy sg (_, w5 ⟨(c.States.set p a.To).set o b.To, c.Queues⟩)) _ = _
    cases yy sg (⟨(p : Int), i, (o : Int), k⟩, w5 ⟨(c.States.set p a.To).set o b.To, c.Queues⟩) with
    | none => rfl
    | some r => obtain ⟨r1, r2⟩ := r; cases r2 <;> rfl
   ·rw [if_neg (fun q => q3 q.2.2), bne_iff_ne.2 q3 |> fun h => (h : (b.Message != a.Message) = true), cond_true]
    rfl
  ·rw [if_neg (fun q => q2 q.2.1), bne_iff_ne.2 q2 |> fun h => (h : (b.Channel != a.Channel) = true), cond_true]
   rfl
 ·rw [if_neg (fun q => q1 q.1), bne_iff_ne.2 q1 |> fun h => (h : (b.Kind != 2) = true), cond_true]
  rfl
structure MOk (x : z8) (c : z7) : Prop where
 sys : z5o x
 cfg : z9m x c
theorem MOk.s4 {x : z8} {c : z7} (h : MOk x c) : c.States.length ≤ 4 := by have := h.cfg.sl; have := h.sys.pl; omega
theorem MOk.q4 {x : z8} {c : z7} (h : MOk x c) : c.Queues.length ≤ 4 := by have := h.cfg.ql; have := h.sys.chl; omega
theorem MOk.qb {x : z8} {c : z7} (h : MOk x c) : ∀ q ∈ c.Queues, q.length ≤ 4 := by
 intro q hq
 obtain ⟨i, hi⟩ := List.mem_iff_getElem?.1 hq
 have e0 := h.cfg.ql
 have e1 := xC hi
 have hn : x.Channels[i]? = some (x.Channels[i]'(by omega)) := List.getElem?_eq_getElem _
 have h1 := (h.cfg.qu i q _ hi hn).1
 have h2 := h.sys.ch _ (List.mem_of_getElem? hn)
 omega
theorem MOk.stat {x : z8} {c : z7} (h : MOk x c) {p : Nat} {P : zi} (hp : x.Parts[p]? = some P) : p < c.States.length ∧ c.States[p]? = some (stv c p) := by
 have hl : p < c.States.length := by have := xC hp; have := h.cfg.sl; omega
 refine ⟨hl, ?_⟩
 unfold stv
 rw [List.getElem?_eq_getElem hl]
 rfl
theorem zcL {x : z8} {c : z7} (h : MOk x c) (yy : σ → (za × zb) → Option (σ × Bool)) {p : Nat} (i : Int) (a : ze) (hp : p < x.Parts.length) (sg : σ) :
  loop (fun s => yW x (w5 c) yy (p : Int) i a s.1 s.2) (sg, 0) = (ui (yeM yy) (VJ x c p i a) sg).map zad := by
 have hpl := h.sys.pl
 rw [Wx x.Parts (by omega) (g := fun o P s => ui (yeM yy) (if o = p then [] else (vH P.Arcs (stv c o)).flatMap (two c p i a o)) s) zad sg ?_ ?_]
 ·rw [Wz (yeM yy) (fun o P => if o = p then [] else (vH P.Arcs (stv c o)).flatMap (two c p i a o)) (fun _ _ _ _ => by rw [Nat.zero_add])]
  rfl
 ·intro o P s hP
  have ho := xC hP
  unfold yW
  dsimp only
  rw [decide_eq_true (by omega), cond_true]
  by_cases q : o = p
  ·subst q
   rw [beq_self_eq_true, cond_true, if_pos rfl]
   rfl
  ·rw [beq_false_of_ne (by omega), cond_false, if_neg q]
   unfold we
   rw [oB]
   dsimp only
   obtain ⟨h1, h2⟩ := h.stat hP
   rw [z2Z hP h2 (h.sys.part P (List.mem_of_getElem? hP)).arcs h.s4 (yeM yy) (two c p i a o) s (fun e _ s' => zcO yy i e.1 a e.2 h.s4 (by have := h.cfg.sl; omega) h1 s')]
   cases ui (yeM yy) ((vH P.Arcs (stv c o)).flatMap (two c p i a o)) s with
   | none => rfl
   | some r => cases r <;> rfl
 ·intro s
  unfold yW
  dsimp only
  rw [decide_eq_false (by omega), cond_false]
  rfl
theorem z3g {x : z8} {c : z7} (h : MOk x c) {p : Nat} (hp : p < c.States.length) {a : ze} (hk : a.Kind = 0) (hc : a.Channel = 0) :
  xF x (w5 c) (p : Int) a = some (w5 ⟨c.States.set p a.To, c.Queues⟩, false) := by
 unfold xF
 have e1 : idx (w5 c).states_.toL (p : Int) = some c.States[p] := Ky h.s4 (List.getElem?_eq_getElem hp)
 have e2 : zD.setI (w5 c).states_ (p : Int) a.To = pad (c.States.set p a.To) := z09 h.s4 hp
 rw [e1, oB, oB, e2, hc, show idx (zD.toL (w5 c).queues_) (mn 0 3) = some (w5 c).queues_.e0 from rfl, oB, hk, beq_self_eq_true, cond_true]
 rfl
theorem MOk.chan {x : z8} {c : z7} (h : MOk x c) {st : Int} {a : ze} (ha : zaP x st a) (hk : a.Kind ≠ 0) : ∃ n : Nat, a.Channel = (n : Int) ∧ n < 4 ∧ c.Queues[n]? = some (quv c a) ∧ x.Channels[n]? = some (rmv x a) ∧ ((quv c a).length : Int) ≤ rmv x a ∧ rmv x a ≤ 4 := by
 have hr := (ha.other hk).1
 have hql := h.cfg.ql
 have hcl := h.sys.chl
 obtain ⟨r1, r2⟩ := hr
 have e1 : c.Queues[a.Channel.toNat]? = some (quv c a) := by
  unfold quv
  rw [List.getElem?_eq_getElem (by omega)]
  rfl
 have e2 : x.Channels[a.Channel.toNat]? = some (rmv x a) := by
  unfold rmv
  rw [List.getElem?_eq_getElem (by omega)]
  rfl
 refine ⟨a.Channel.toNat, by omega, by omega, e1, e2, (h.cfg.qu _ _ _ e1 e2).1, (h.sys.ch _ (List.mem_of_getElem? e2)).2⟩
theorem z3f {x : z8} {c : z7} (h : MOk x c) {p : Nat} (hp : p < c.States.length) {st : Int} {a : ze} (ha : zaP x st a) (hk : a.Kind ≠ 0) :
  xF x (w5 c) (p : Int) a = (if rmv x a = 0 then some (⟨pad (c.States.set p a.To), (w5 c).queues_⟩, true)
   else if a.Kind = 1 then (if ((quv c a).length : Int) < rmv x a then some (w5 ⟨c.States.set p a.To, c.Queues.set a.Channel.toNat (quv c a ++ [a.Message])⟩, false) else some (⟨pad (c.States.set p a.To), (w5 c).queues_⟩, true))
   else (if (quv c a).head? = some a.Message then some (w5 ⟨c.States.set p a.To, c.Queues.set a.Channel.toNat (quv c a).tail⟩, false) else some (⟨pad (c.States.set p a.To), (w5 c).queues_⟩, true))) := by
 obtain ⟨n, hn, hn4, e1, e2, hle, h4⟩ := h.chan ha hk
 unfold xF
 have e3 : idx (w5 c).states_.toL (p : Int) = some c.States[p] := Ky h.s4 (List.getElem?_eq_getElem hp)
 have e4 : zD.setI (w5 c).states_ (p : Int) a.To = pad (c.States.set p a.To) := z09 h.s4 hp
 have e5 : idx (zD.toL (w5 c).queues_) (n : Int) = some (qOf (quv c a)) := z47 h.q4 e1
 have e6 : mn (n : Int) 3 = n := by unfold mn; rw [if_neg (by omega)]
 have hset : ∀ q : List Int, zD.setI (w5 c).queues_ (n : Int) (qOf q) = z5k (c.Queues.set n q) := fun q => z6h h.q4 (xC e1)
 rw [e3, oB, oB, e4, hn, e6, e5, oB, beq_false_of_ne hk, cond_false, xg e2, oB, Int.toNat_natCast]
 by_cases q0 : rmv x a = 0
 ·rw [q0, beq_self_eq_true, cond_true, if_pos rfl]
  rfl
 ·rw [beq_false_of_ne q0, cond_false, if_neg q0]
  by_cases q1 : a.Kind = 1
  ·rw [q1, beq_self_eq_true, cond_true, if_pos rfl, oB, show ((1 : Int) == 2) = false from rfl, cond_false]
   by_cases q2 : ((quv c a).length : Int) < rmv x a
   ·rw [if_pos q2, beq_false_of_ne (show (qOf (quv c a)).many_ ≠ rmv x a from by show ((quv c a).length : Int) ≠ _; omega), cond_false]
    unfold zS
    rw [cond_false, q1, beq_self_eq_true, cond_true, z7f _ (by omega), oB, hn, e5, oB, oB, hset]
    rfl
   ·rw [if_neg q2, show ((qOf (quv c a)).many_ == rmv x a) = true from beq_iff_eq.2 (by show ((quv c a).length : Int) = _; omega), cond_true]
    rfl
  ·have q2 : a.Kind = 2 := by have := ha.kind; omega
   rw [beq_false_of_ne q1, cond_false, if_neg q1, q2, beq_self_eq_true, cond_true]
   cases hq : quv c a with
   | nil => rfl
   | cons m l =>
    rw [hq] at hle e5
    simp only [List.length_cons] at hle
    rw [show ((qOf (m :: l)).many_ == 0) = false from beq_false_of_ne (by show (((m :: l).length : Nat) : Int) ≠ 0; simp; omega), cond_false]
    have e7 : (qOf (m :: l)).l_.e0 = m := by
     have := Ky (l := m :: l) (i := 0) (v := m) (by simp; omega) rfl
     exact Option.some.inj this
    rw [e7]
    unfold zS
    by_cases q3 : m = a.Message
    ·rw [q3, bne_self_eq_false, cond_false, q2, show ((2 : Int) == 1) = false from rfl, cond_false, if_pos (show (a.Message :: l).head? = some a.Message from rfl)]
     rw [q3] at e5
     rw [z5O (by omega), oB, hn, e5, oB, oB, hset]
     rfl
    ·rw [show (m != a.Message) = true from bne_iff_ne.2 q3, cond_true, if_neg (show ¬(m :: l).head? = some a.Message from fun q => q3 (Option.some.inj q))]
theorem zcP {x : z8} {c : z7} (h : MOk x c) (yy : σ → (za × zb) → Option (σ × Bool)) {p : Nat} (hp : p < x.Parts.length) (i : Int) {a : ze} {st : Int} (ha : zaP x st a) (sg : σ) :
  yY x (w5 c) yy (p : Int) sg i a = ui (yeM yy) (one x c p (i, a)) sg := by
 have hps : p < c.States.length := by have := h.cfg.sl; omega
 have key : ∀ (m : za) (to : z7), (Option.bind (yy sg (m, w5 to)) fun yr => bif !yr.2 then some (LR.done yr.1) else some (LR.next yr.1)) = ui (yeM yy) [(m, to)] sg := by
  intro m to
  simp only [ui, yeM]
  cases yy sg (m, w5 to) with
  | none => rfl
  | some r => obtain ⟨r1, r2⟩ := r; cases r2 <;> rfl
 unfold yY one JX
 by_cases q : a.Kind = 0
 ·rw [z3g h hps q (ha.inner q).1, oB, cond_true, oB, Bool.not_false, cond_true, if_pos q]
  exact key _ _
 ·rw [z3f h hps ha q, if_neg q]
  obtain ⟨n, hn, hn4, e1, e2, hle, h4⟩ := h.chan ha q
  have er : idx x.Channels a.Channel = some (rmv x a) := by rw [hn]; exact xg e2
  by_cases q0 : rmv x a = 0
  ·rw [if_pos q0, if_pos q0, oB, cond_true, oB, Bool.not_true, cond_false]
   by_cases q1 : a.Kind = 1
   ·rw [q1, bne_self_eq_false, cond_false, er, oB, decide_eq_false (by omega), cond_false, zcL h yy i a hp]
    show _ = ui (yeM yy) (VJ x c p i a) sg
    cases ui (yeM yy) (VJ x c p i a) sg with
    | none => rfl
    | some r => cases r <;> rfl
   ·rw [show (a.Kind != 1) = true from bne_iff_ne.2 q1, cond_true, if_neg q1]
    rfl
  ·rw [if_neg q0, if_neg q0]
   by_cases q1 : a.Kind = 1
   ·rw [if_pos q1, if_pos q1]
    by_cases q2 : ((quv c a).length : Int) < rmv x a
    ·rw [if_pos q2, if_pos q2, oB, cond_true, oB, Bool.not_false, cond_true]
     exact key _ _
    ·rw [if_neg q2, if_neg q2, oB, cond_true, oB, Bool.not_true, cond_false, q1, bne_self_eq_false, cond_false, er, oB, decide_eq_true (by have : (0 : Int) ≤ (quv c a).length := Int.natCast_nonneg _; omega), cond_true]
     rfl
   ·rw [if_neg q1, if_neg q1]
    by_cases q2 : (quv c a).head? = some a.Message
    ·rw [if_pos q2, if_pos q2, oB, cond_true, oB, Bool.not_false, cond_true]
     exact key _ _
    ·rw [if_neg q2, if_neg q2, oB, cond_true, oB, Bool.not_true, cond_false, show (a.Kind != 1) = true from bne_iff_ne.2 q1, cond_true]
     rfl
theorem z2R {x : z8} {c : z7} (h : MOk x c) (yy : σ → (za × zb) → Option (σ × Bool)) (sg : σ) :
  y6 x (w5 c) yy sg = (ui (yeM yy) (mvs x c) sg).map z3m := by
 unfold y6
 have hpl := h.sys.pl
 rw [Wx x.Parts (by omega) (g := fun p P s => ui (yeM yy) ((vH P.Arcs (stv c p)).flatMap (one x c p)) s) z3m sg ?_ ?_]
 ·rw [Wz (yeM yy) (fun p P => (vH P.Arcs (stv c p)).flatMap (one x c p)) (fun _ _ _ _ => by rw [Nat.zero_add])]
  show Option.bind (Option.map z3m (ui (yeM yy) (mvs x c) sg)) _ = _
  cases ui (yeM yy) (mvs x c) sg <;> rfl
 ·intro p P s hP
  have hp := xC hP
  obtain ⟨h1, h2⟩ := h.stat hP
  have hv := h.sys.part P (List.mem_of_getElem? hP)
  unfold xx we
  dsimp only
  rw [decide_eq_true (by omega), cond_true, oB]
  rw [z2Z hP h2 hv.arcs h.s4 (yeM yy) (one x c p) s (fun e he s' => by
   obtain ⟨k, _, hk, _⟩ := YO.1 he
   exact zcP h yy hp e.1 (hv.arc e.2 (List.mem_of_getElem? hk)) s')]
  cases ui (yeM yy) ((vH P.Arcs (stv c p)).flatMap (one x c p)) s with
  | none => rfl
  | some r => cases r <;> rfl
 ·intro s
  unfold xx
  dsimp only
  rw [decide_eq_false (by omega), cond_false]
  rfl
end
def dst (c : z7) (p : Nat) (a : ze) : z7 :=
 if a.Kind = 0 then ⟨c.States.set p a.To, c.Queues⟩
 else if a.Kind = 1 then ⟨c.States.set p a.To, c.Queues.set a.Channel.toNat (quv c a ++ [a.Message])⟩
 else ⟨c.States.set p a.To, c.Queues.set a.Channel.toNat (quv c a).tail⟩
def can (x : z8) (c : z7) (a : ze) : Prop :=
 a.Kind = 0 ∨ rmv x a ≠ 0 ∧ (a.Kind = 1 ∧ ((quv c a).length : Int) < rmv x a ∨ a.Kind ≠ 0 ∧ a.Kind ≠ 1 ∧ (quv c a).head? = some a.Message)
def zeN (c : z7) (p : Nat) (a : ze) (o : Nat) (b : ze) : z7 := ⟨(c.States.set p a.To).set o b.To, c.Queues⟩
theorem z0e {x : z8} {c : z7} {p : Nat} {k : Int} {a : ze} {e : za × z7} : e ∈ one x c p (k, a) ↔
  (e = (⟨p, k, -1, -1⟩, dst c p a) ∧ can x c a) ∨ (a.Kind = 1 ∧ rmv x a = 0 ∧ ∃ (o : Nat) (Po : zi) (kk : Nat) (b : ze), o ≠ p ∧ x.Parts[o]? = some Po ∧ Po.Arcs[kk]? = some b ∧ b.From = stv c o ∧ (b.Kind = 2 ∧ b.Channel = a.Channel ∧ b.Message = a.Message) ∧ e = (⟨p, k, o, kk⟩, zeN c p a o b)) := by
 have hh : e ∈ VJ x c p k a ↔ ∃ (o : Nat) (Po : zi) (kk : Nat) (b : ze), o ≠ p ∧ x.Parts[o]? = some Po ∧ Po.Arcs[kk]? = some b ∧ b.From = stv c o ∧ (b.Kind = 2 ∧ b.Channel = a.Channel ∧ b.Message = a.Message) ∧ e = (⟨p, k, o, kk⟩, zeN c p a o b) := by
  unfold VJ
  rw [VF]
  constructor
  ·rintro ⟨o, Po, h1, h2⟩
   rw [Nat.zero_add] at h2
   split at h2
   ·simp at h2
   ·rename_i ho
    obtain ⟨kb, h3, h4⟩ := List.mem_flatMap.1 h2
    obtain ⟨kk, h5, h6, h7⟩ := YO.1 h3
    unfold two at h4
    split at h4
    ·rename_i hq
     simp only [List.mem_singleton] at h4
     rw [h5] at h4
     exact ⟨o, Po, kk, kb.2, ho, h1, h6, h7, hq, h4⟩
    ·simp at h4
  ·rintro ⟨o, Po, kk, b, ho, h1, h6, h7, hq, rfl⟩
   refine ⟨o, Po, h1, ?_⟩
   rw [Nat.zero_add, if_neg ho]
   refine List.mem_flatMap.2 ⟨((kk : Int), b), YO.2 ⟨kk, rfl, h6, h7⟩, ?_⟩
   unfold two
   rw [if_pos hq]
   exact List.mem_singleton.2 rfl
 unfold one dst can
 dsimp only
 by_cases q0 : a.Kind = 0
 ·simp [q0]
 ·by_cases q1 : rmv x a = 0
  ·by_cases q2 : a.Kind = 1
   ·rw [if_neg q0, if_pos q1, if_pos q2, hh]
    simp [q1, q2]
   ·simp [q0, q1, q2]
  ·by_cases q2 : a.Kind = 1
   ·by_cases q3 : ((quv c a).length : Int) < rmv x a
    ·simp [q1, q2, q3]
    ·simp [q1, q2, q3]
   ·by_cases q3 : (quv c a).head? = some a.Message
    ·simp [q0, q1, q2, q3]
    ·simp [q0, q1, q2, q3]
theorem z2a {x : z8} {c : z7} {e : za × z7} : e ∈ mvs x c ↔
  ∃ (p : Nat) (P : zi) (k : Nat) (a : ze), x.Parts[p]? = some P ∧ P.Arcs[k]? = some a ∧ a.From = stv c p ∧ e ∈ one x c p ((k : Int), a) := by
 unfold mvs
 rw [VF]
 constructor
 ·rintro ⟨p, P, h1, h2⟩
  rw [Nat.zero_add] at h2
  obtain ⟨e', h3, h4⟩ := List.mem_flatMap.1 h2
  obtain ⟨k, h5, h6, h7⟩ := YO.1 h3
  obtain ⟨k', a⟩ := e'
  simp only at h5 h6 h7
  subst h5
  exact ⟨p, P, k, a, h1, h6, h7, h4⟩
 ·rintro ⟨p, P, k, a, h1, h6, h7, h4⟩
  refine ⟨p, P, h1, ?_⟩
  rw [Nat.zero_add]
  exact List.mem_flatMap.2 ⟨((k : Int), a), YO.2 ⟨k, rfl, h6, h7⟩, h4⟩
theorem z8z {x y : z8} {c : z7} {e f : za × z7} (hxy : x.Parts = y.Parts) (he : e ∈ mvs x c) (hf : f ∈ mvs y c) (h : e.1 = f.1) : e.2 = f.2 := by
 obtain ⟨p, P, k, a, h1, h2, h3, h4⟩ := z2a.1 he
 obtain ⟨p', P', k', a', g1, g2, g3, g4⟩ := z2a.1 hf
 rw [← hxy] at g1
 have fin : (p : Int) = p' → (k : Int) = k' → p = p' ∧ a = a' := by
  intro q1 q2
  have q1 : p = p' := by omega
  have q2 : k = k' := by omega
  subst q1 q2
  rw [h1] at g1
  cases g1
  rw [h2] at g2
  cases g2
  exact ⟨rfl, rfl⟩
 rcases z0e.1 h4 with ⟨rfl, _⟩ | ⟨_, _, o, Po, kk, b, _, h5, h6, _, _, rfl⟩
 ·rcases z0e.1 g4 with ⟨rfl, _⟩ | ⟨_, _, o', Po', kk', b', _, g5, g6, _, _, rfl⟩
  ·simp only [za.mk.injEq] at h
   obtain ⟨rfl, rfl⟩ := fin h.1 h.2.1
   rfl
  ·simp only [za.mk.injEq] at h
   omega
 ·rcases z0e.1 g4 with ⟨rfl, _⟩ | ⟨_, _, o', Po', kk', b', _, g5, g6, _, _, rfl⟩
  ·simp only [za.mk.injEq] at h
   omega
  ·simp only [za.mk.injEq] at h
   obtain ⟨rfl, rfl⟩ := fin h.1 h.2.1
   rw [← hxy] at g5
   have q1 : o = o' := by omega
   have q2 : kk = kk' := by omega
   subst q1 q2
   rw [h5] at g5
   cases g5
   rw [h6] at g6
   cases g6
   rfl
theorem z74 {x : z8} {c : z7} (hc : z9m x c) {p : Nat} {P : zi} {t : Int} (hP : x.Parts[p]? = some P) (ht : InR t P.States) : z9m x ⟨c.States.set p t, c.Queues⟩ := by
 refine ⟨by rw [List.length_set]; exact hc.sl, hc.ql, fun i q v h1 h2 => ?_, hc.qu⟩
 dsimp only at h2
 rw [List.getElem?_set] at h2
 split at h2
 ·rename_i hpi
  subst hpi
  split at h2
  ·cases h2
   rw [hP] at h1
   cases h1
   exact ht
  ·cases h2
 ·exact hc.st i q v h1 h2
theorem zdR {x : z8} {c : z7} (hc : z9m x c) {n : Nat} {q : List Int} (hq : ∀ r, x.Channels[n]? = some r → (q.length : Int) ≤ r ∧ ∀ m ∈ q, InR m x.Messages) : z9m x ⟨c.States, c.Queues.set n q⟩ := by
 refine ⟨hc.sl, by rw [List.length_set]; exact hc.ql, hc.st, fun i q' r h1 h2 => ?_⟩
 dsimp only at h1
 rw [List.getElem?_set] at h1
 split at h1
 ·rename_i hpi
  subst hpi
  split at h1
  ·cases h1
   exact hq r h2
  ·cases h1
 ·exact hc.qu i q' r h1 h2
theorem z1i {x : z8} {c : z7} (h : MOk x c) {e : za × z7} (he : e ∈ mvs x c) : MOk x e.2 := by
 refine ⟨h.sys, ?_⟩
 obtain ⟨p, P, k, a, h1, h2, h3, h4⟩ := z2a.1 he
 have hv := (h.sys.part P (List.mem_of_getElem? h1)).arc a (List.mem_of_getElem? h2)
 have hs := z74 h.cfg h1 hv.to
 rcases z0e.1 h4 with ⟨rfl, hc⟩ | ⟨_, _, o, Po, kk, b, _, h5, h6, _, _, rfl⟩
 ·unfold dst
  dsimp only
  split
  ·exact hs
  ·rename_i q0
   obtain ⟨n, hn, _, e1, e2, hle, _⟩ := h.chan hv q0
   have hqm : ∀ m ∈ quv c a, InR m x.Messages := (h.cfg.qu n _ _ e1 e2).2
   have hnn : a.Channel.toNat = n := by omega
   rw [hnn]
   rcases hc with hc | ⟨_, ⟨q1, q2⟩ | ⟨_, q1, q2⟩⟩
   ·exact absurd hc q0
   ·rw [if_pos q1]
    refine zdR hs (n := n) fun r hr => ?_
    rw [e2] at hr
    cases hr
    refine ⟨by rw [List.length_append, List.length_singleton]; omega, fun m hm => ?_⟩
    rcases List.mem_append.1 hm with hm | hm
    ·exact hqm m hm
    ·rw [List.mem_singleton.1 hm]
     exact (hv.other q0).2
   ·rw [if_neg q1]
    refine zdR hs (n := n) fun r hr => ?_
    rw [e2] at hr
    cases hr
    exact ⟨by rw [List.length_tail]; omega, fun m hm => hqm m (List.mem_of_mem_tail hm)⟩
 ·exact z74 hs h5 ((h.sys.part Po (List.mem_of_getElem? h5)).arc b (List.mem_of_getElem? h6)).to
theorem Xo {α β : Type} {f : α → List β} {b : Nat} : ∀ {l : List α}, (∀ x ∈ l, (f x).length ≤ b) → (l.flatMap f).length ≤ l.length * b
 | [], _ => by simp
 | x :: l, h => by
  rw [List.flatMap_cons, List.length_append, List.length_cons, Nat.succ_mul]
  have h1 := h x List.mem_cons_self
  have h2 := Xo (f := f) (l := l) (b := b) fun y hy => h y (List.mem_cons_of_mem _ hy)
  omega
theorem UA {l : List ze} {st : Int} (h : l.length ≤ 256) : (vH l st).length ≤ 256 := by
 have := VL (f := fun (k : Nat) (a : ze) => if a.From = st then [((k : Int), a)] else []) (l := l) (k := 0) (b := 1) fun i x _ => by split <;> simp
 unfold vH
 omega
theorem z0c {x : z8} {c : z7} (h : z5o x) : (mvs x c).length ≤ 1048576 := by
 have hpl := h.pl.2
 have hh : ∀ p i a, (VJ x c p i a).length ≤ 1024 := by
  intro p i a
  have := VL (f := fun o P => if o = p then [] else (vH P.Arcs (stv c o)).flatMap (two c p i a o)) (l := x.Parts) (k := 0) (b := 256) fun o P hP => by
   split
   ·simp
   ·have h1 := UA (st := stv c (0 + o)) (h.part P (List.mem_of_getElem? hP)).arcs
    have h2 := Xo (f := two c p i a (0 + o)) (l := vH P.Arcs (stv c (0 + o))) (b := 1) fun e _ => by unfold two; split <;> simp
    omega
  unfold VJ
  omega
 have ho : ∀ p e, (one x c p e).length ≤ 1024 := by
  intro p e
  have := hh p e.1 e.2
  unfold one
  split
  ·simp
  ·split
   ·split
    ·exact this
    ·simp
   ·split
    ·split <;> simp
    ·split <;> simp
 have := VL (f := fun p P => (vH P.Arcs (stv c p)).flatMap (one x c p)) (l := x.Parts) (k := 0) (b := 262144) fun p P hP => by
  have h1 := UA (st := stv c (0 + p)) (h.part P (List.mem_of_getElem? hP)).arcs
  have h2 := Xo (f := one x c (0 + p)) (l := vH P.Arcs (stv c (0 + p))) (b := 1024) fun e _ => ho _ e
  omega
 unfold mvs
 omega
theorem z4i {x : z8} {c : z7} (h : MOk x c) : jZ x c = some ((mvs x c).map (·.1), 0) := by
 have gen : ∀ (l : List (za × z7)) (acc : List za), acc.length + l.length ≤ 4294967296 →
   ui (yeM (yOf (fun s (x : za × zb) => wJ s x.1 x.2))) l (.next acc) = some (.next (.next (acc ++ l.map (·.1)))) := by
  intro l
  induction l with
  | nil => intro acc _; simp [ui]
  | cons e l ih =>
   intro acc ha
   rw [List.length_cons] at ha
   have e1 : yeM (yOf (fun s (x : za × zb) => wJ s x.1 x.2)) (.next acc) e = some (.next (acc ++ [e.1]), true) := by
    unfold yeM yOf wJ
    dsimp only
    rw [gdT (by rw [List.length_singleton]; omega)]
   rw [ui, e1, oB, cond_true, ih _ (by rw [List.length_append, List.length_singleton]; omega), List.map_cons, List.append_assoc]
   rfl
 unfold jZ
 rw [WU h.sys h.cfg, oB, bne_self_eq_false, cond_false, z2N h.s4 h.q4 h.qb, oB]
 unfold xi
 rw [oB]
 dsimp only
 have hl := z0c (c := c) h.sys
 rw [z2R h, gen _ [] (by simp; omega)]
 show uK ([] ++ (mvs x c).map (·.1)) = _
 unfold uK y7
 rw [gdT (by omega)]
 simp
 exact List.take_of_length_le (by simp)
theorem z7o {x : z8} {c : z7} (h : MOk x c) (m : za) :
  (∃ to, (m, to) ∈ mvs x c ∧ jz x c m = some (to, 0)) ∨ ((∀ e ∈ mvs x c, e.1 ≠ m) ∧ jz x c m = some (⟨[], []⟩, 7)) := by
 have hmq : ∀ m' : za, ((m'.Part == m.Part) && ((m'.Arc == m.Arc) && ((m'.Other == m.Other) && ((m'.With == m.With) && true)))) = true ↔ m' = m := by
  intro m'
  obtain ⟨a, b, c', d⟩ := m'
  obtain ⟨a2, b2, c2, d2⟩ := m
  simp
 have gen : ∀ (l : List (za × z7)) (s : List Int × List (List Int)), (∀ e ∈ l, MOk x e.2) →
   (∃ to, (m, to) ∈ l ∧ ui (yeM (yOf (fun s (e : za × zb) => wq x m s.1 s.2 e.1 e.2))) l (.next s) = some (.done (.done (to.States, to.Queues)))) ∨
   ((∀ e ∈ l, e.1 ≠ m) ∧ ui (yeM (yOf (fun s (e : za × zb) => wq x m s.1 s.2 e.1 e.2))) l (.next s) = some (.next (.next s))) := by
  intro l
  induction l with
  | nil => intro s _; exact .inr ⟨fun _ h => (by cases h), rfl⟩
  | cons e l ih =>
   intro s hl
   have hk := hl e List.mem_cons_self
   by_cases q : e.1 = m
   ·refine .inl ⟨e.2, by rw [← q]; exact List.mem_cons_self, ?_⟩
    have e1 : yeM (yOf (fun s (e : za × zb) => wq x m s.1 s.2 e.1 e.2)) (.next s) e = some (.done (e.2.States, e.2.Queues), false) := by
     unfold yeM yOf wq
     dsimp only
     rw [(hmq e.1).2 q, cond_true, z4P hk.cfg.sl hk.cfg.ql hk.sys.pl.2 hk.sys.chl hk.qb]
     rfl
    rw [ui, e1, oB, cond_false]
   ·have e1 : yeM (yOf (fun s (e : za × zb) => wq x m s.1 s.2 e.1 e.2)) (.next s) e = some (.next s, true) := by
     unfold yeM yOf wq
     dsimp only
     rw [Bool.eq_false_iff.2 (fun h => q ((hmq e.1).1 h)), cond_false]
    rw [ui, e1, oB, cond_true]
    rcases ih s (fun e he => hl e (List.mem_cons_of_mem _ he)) with ⟨to, h1, h2⟩ | ⟨h1, h2⟩
    ·exact .inl ⟨to, List.mem_cons_of_mem _ h1, h2⟩
    ·refine .inr ⟨fun e' he' => ?_, h2⟩
     rcases List.mem_cons.1 he' with rfl | he'
     ·exact q
     ·exact h1 e' he'
 unfold jz
 rw [WU h.sys h.cfg, oB, bne_self_eq_false, cond_false, z2N h.s4 h.q4 h.qb, oB]
 unfold xi
 rw [oB]
 dsimp only
 rw [z2R h]
 rcases gen (mvs x c) ([], []) (fun e he => z1i h he) with ⟨to, h1, h2⟩ | ⟨h1, h2⟩
 ·rw [h2]
  exact .inl ⟨to, h1, rfl⟩
 ·rw [h2]
  exact .inr ⟨h1, rfl⟩
def By (n : Int) : Prop := 0 ≤ n ∧ n ≤ 255
structure OkZ (z : xA) : Prop where
 st : By z.States
 arc : ∀ a ∈ z.Arcs, By a.e0 ∧ By a.e1 ∧ By a.e2 ∧ By a.e3 ∧ By a.e4
structure OkY (y : ya) : Prop where
 c0 : By y.Channels.e0
 c1 : By y.Channels.e1
 parts : ∀ z ∈ y.Parts, OkZ z
theorem z9t (s : Int) : (0 : Int) ≤ IntKind.u64.wrap s := by
 simp only [IntKind.wrap, IntKind.bits, IntKind.signed]
 simp
 omega
theorem z3d {n : Int} (h : By n) : 0 ≤ Int.tmod n 3 ∧ Int.tmod n 3 < 3 := by
 rw [Int.tmod_eq_emod_of_nonneg h.1]; omega
theorem z9w {n : Int} (h : By n) : 0 ≤ Int.tmod n 2 ∧ Int.tmod n 2 < 2 := by
 rw [Int.tmod_eq_emod_of_nonneg h.1]; omega
theorem z9v {n k : Int} (h : By n) (hk : 0 < k) : InR (Int.tmod n k) k := by
 rw [Int.tmod_eq_emod_of_nonneg h.1]
 exact ⟨Int.emod_nonneg _ (by omega), Int.emod_lt_of_pos _ hk⟩
theorem z8r {l : List Int} {n : Int} (hn : 0 ≤ n) (h : Ris l n) : Ris (l ++ [n]) (n + 1) := by
 intro i v hv
 rcases Nat.lt_or_ge i l.length with q | q
 ·rw [List.getElem?_append_left q] at hv
  obtain ⟨h1, h2⟩ := h i v hv
  refine ⟨⟨h1.1, by have := h1.2; omega⟩, fun hi => ?_⟩
  obtain ⟨u, h3, h4⟩ := h2 hi
  exact ⟨u, by rw [List.getElem?_append_left (by omega)]; exact h3, h4⟩
 ·rw [List.getElem?_append_right q] at hv
  have hi : i - l.length = 0 := by
   have := xC hv
   simp at this
   omega
  rw [hi] at hv
  cases hv
  refine ⟨⟨hn, by omega⟩, fun hi' => ?_⟩
  have hl : i - 1 < l.length := by omega
  have hu : l[i - 1]? = some l[i - 1] := List.getElem?_eq_getElem hl
  exact ⟨l[i - 1], by rw [List.getElem?_append_left hl]; exact hu, (h _ _ hu).1.2⟩
theorem z2H {l : List Int} {n m : Int} (hn : n ≤ m) (h : Ris l n) : Ris l m := by
 intro i v hv
 obtain ⟨h1, h2⟩ := h i v hv
 exact ⟨⟨h1.1, by have := h1.2; omega⟩, h2⟩
structure VA (st : Int) (a : ze) : Prop where
 fr : InR a.From st
 to : InR a.To st
 kind : 0 ≤ a.Kind ∧ a.Kind ≤ 2
 inner : a.Kind = 0 → a.Channel = 0
 ch : InR a.Channel 2
 msg : InR a.Message 2
structure VP (p : zi) : Prop where
 lo : 1 ≤ p.States
 hi : p.States ≤ 3
 arcs : p.Arcs.length ≤ 6
 ris : Ris p.Final p.States
 fin : (p.Final.length : Int) ≤ p.States
 arc : ∀ a ∈ p.Arcs, VA p.States a
theorem zaa {l : List zi} {i : Int} {s : Int} {arcs : List ze} {fin : List Int} (hl : l.length ≤ 3) (hp : VP ⟨s, arcs, fin⟩) (hlp : ∀ p ∈ l, VP p) :
  ∃ l', qS l i s arcs fin = some (.next (l', w64 (i + 1))) ∧ l'.length = l.length + 1 ∧ ∀ p ∈ l', VP p := by
 refine ⟨l ++ [⟨s, arcs, fin⟩], ?_, by simp, fun p hp' => ?_⟩
 ·unfold qS Zt
  rw [gdT (by rw [List.length_singleton]; omega)]
 ·rcases List.mem_append.1 hp' with h | h
  ·exact hlp p h
  ·rw [List.mem_singleton.1 h]; exact hp
theorem zcD {y : ya} (h : OkY y) {l : List zi} {i : Nat} {b : Bool} (hl : l.length ≤ 3) (hlp : ∀ p ∈ l, VP p) :
  ∃ l', uD y l (i : Int) b = some (.next (l', w64 ((i : Int) + 1))) ∧ l'.length = l.length + 1 ∧ ∀ p ∈ l', VP p := by
 unfold uD
 by_cases hi : (i : Int) < ((y.Parts.length : Nat) : Int)
 ·have hz : y.Parts[i]? = some (y.Parts[i]'(by omega)) := List.getElem?_eq_getElem _
  generalize y.Parts[i]'(by omega) = z at hz
  have hok := h.parts z (List.mem_of_getElem? hz)
  have hm := z3d hok.st
  rw [decide_eq_true hi, cond_true, xg hz, oB, gdT (by omega)]
  have e0 : w64 (1 + (w64 (Int.tmod z.States 3))) = 1 + Int.tmod z.States 3 := by rw [uJ (x := Int.tmod z.States 3) (by omega) (by omega), uJ (by omega) (by omega)]
  generalize hst : 1 + Int.tmod z.States 3 = st at e0
  have r9 : Ret (loop (fun s => kl z s.1 s.2) (([] : List Int), 0)) (fun fl => Ris fl st ∧ (fl.length : Int) ≤ st) := by
   refine QP (fun s => ∃ n : Nat, s.2 = (n : Int) ∧ (n : Int) ≤ st ∧ Ris s.1 n ∧ s.1.length ≤ n) (fun s => 3 - s.2.toNat) ⟨0, rfl, by omega, fun i v hv => by simp at hv, Nat.le_refl _⟩ (by show 3 - 0 < _; omega) ?_
   rintro ⟨fl, s⟩ ⟨n, hs, hn, h1, h2⟩
   dsimp only at hs h1 h2 ⊢
   subst hs
   unfold kl jd
   rw [e0]
   by_cases q : (n : Int) < st
   ·rw [decide_eq_true q, cond_true, gdT (z9t _), uJ (by omega) (by omega)]
    cases (zca .u8 (Int.fdiv z.Final (2 ^ (min (IntKind.u64.wrap (n : Int)).toNat 8))) 1) == 1 with
    | true =>
     rw [cond_true, gdT (by rw [List.length_singleton]; omega)]
     refine jk.2 ⟨⟨n + 1, rfl, by omega, z8r (by omega) h1, by rw [List.length_append, List.length_singleton]; omega⟩, ?_⟩
     show 3 - ((n : Int) + 1).toNat < 3 - (n : Int).toNat
     omega
    | false =>
     rw [cond_false]
     refine jk.2 ⟨⟨n + 1, rfl, by omega, z2H (by omega) h1, by dsimp only; omega⟩, ?_⟩
     show 3 - ((n : Int) + 1).toNat < 3 - (n : Int).toNat
     omega
   ·rw [decide_eq_false q, cond_false]
    exact jk.2 ⟨z2H (by omega) h1, by omega⟩
  obtain ⟨fl, e9, f1, f2⟩ := r9
  rw [bdT e9]
  unfold Zs
  have r7 : Ret (loop (fun s => km z fl s.1 s.2) (([] : List ze), 0)) (fun t => t.1 = st ∧ t.2.2 = fl ∧ t.2.1.length ≤ 6 ∧ ∀ a ∈ t.2.1, VA st a) := by
   refine QP (fun s => ∃ n : Nat, s.2 = (n : Int) ∧ n ≤ 6 ∧ s.1.length ≤ n ∧ ∀ a ∈ s.1, VA st a) (fun s => 6 - s.2.toNat) ⟨0, rfl, by omega, Nat.le_refl _, fun a ha => by simp at ha⟩ (by show 6 - 0 < _; omega) ?_
   rintro ⟨arcs, s⟩ ⟨n, hs, hn, h1, h2⟩
   dsimp only at hs h1 h2 ⊢
   subst hs
   unfold km
   by_cases q : (n : Int) < ((z.Arcs.length : Nat) : Int)
   ·rw [decide_eq_true q, cond_true]
    by_cases q6 : (n : Int) < 6
    ·have ha : z.Arcs[n]? = some (z.Arcs[n]'(by omega)) := List.getElem?_eq_getElem _
     generalize z.Arcs[n]'(by omega) = a at ha
     obtain ⟨b0, b1, b2, b3, b4⟩ := hok.arc a (List.mem_of_getElem? ha)
     have w0 : w64 a.e0 = a.e0 := uJ (by have := b0.1; omega) (by have := b0.2; omega)
     have w4 : w64 a.e4 = a.e4 := uJ (by have := b4.1; omega) (by have := b4.2; omega)
     have t2 := z9w b2
     have t3 := z9w b3
     have t1 := z3d b1
     have s0 := z9v b0 (k := st) (by omega)
     have s4 := z9v b4 (k := st) (by omega)
     have fin : ∀ ch : Int, InR ch 2 → (Int.tmod a.e1 3 = 0 → ch = 0) → Ret (qR z arcs (n : Int) a ch) (LRP (fun s' => (∃ n : Nat, s'.2 = (n : Int) ∧ n ≤ 6 ∧ s'.1.length ≤ n ∧ ∀ a ∈ s'.1, VA st a) ∧ 6 - s'.2.toNat < 6 - (n : Int).toNat) (fun t : Int × List ze × List Int => t.1 = st ∧ t.2.2 = fl ∧ t.2.1.length ≤ 6 ∧ ∀ a ∈ t.2.1, VA st a)) := by
      intro ch hch h0
      unfold qR
      rw [e0, w0, w4, uJ (x := Int.tmod a.e3 2) (by omega) (by omega), gdT (by rw [List.length_singleton]; omega), uJ (by omega) (by omega)]
      refine jk.2 ⟨⟨n + 1, rfl, by omega, by rw [List.length_append, List.length_singleton]; omega, fun a' ha' => ?_⟩, ?_⟩
      ·rcases List.mem_append.1 ha' with hm | hm
       ·exact h2 a' hm
       ·rw [List.mem_singleton.1 hm]
        exact ⟨s0, s4, ⟨t1.1, by dsimp only; omega⟩, h0, hch, ⟨t3.1, t3.2⟩⟩
      ·show 6 - ((n : Int) + 1).toNat < 6 - (n : Int).toNat
       omega
     rw [decide_eq_true q6, cond_true, xg ha, oB, e0, gdT (by omega), gdT (by omega), gdT (by omega), gdT (by omega), gdT (by omega)]
     by_cases qk : Int.tmod a.e1 3 = 0
     ·rw [qk, beq_self_eq_true, cond_true]
      exact fin 0 ⟨by omega, by omega⟩ (fun _ => rfl)
     ·rw [beq_false_of_ne qk, cond_false, uJ (x := Int.tmod a.e2 2) (by omega) (by omega)]
      exact fin _ ⟨t2.1, t2.2⟩ (fun q => absurd q qk)
    ·rw [decide_eq_false q6, cond_false, e0]
     exact jk.2 ⟨rfl, rfl, by dsimp only; omega, h2⟩
   ·rw [decide_eq_false q, cond_false, e0]
    exact jk.2 ⟨rfl, rfl, by dsimp only; omega, h2⟩
  obtain ⟨t, e7, g1, g2, g3, g4⟩ := r7
  rw [bdT e7, g1, g2]
  exact zaa hl ⟨by dsimp only; omega, by dsimp only; omega, g3, f1, f2, g4⟩ hlp
 ·rw [decide_eq_false hi, cond_false]
  exact zaa hl ⟨by decide, by decide, by simp, fun i v hv => by simp at hv, by simp, fun a ha => by simp at ha⟩ hlp
structure zdK (y : ya) (x : z8) : Prop where
 msg : x.Messages = 2
 lab : x.Labels = 2
 ch : x.Channels = [Int.tmod y.Channels.e0 3, Int.tmod y.Channels.e1 3]
 pl : 1 ≤ x.Parts.length ∧ x.Parts.length ≤ 3
 part : ∀ p ∈ x.Parts, VP p
theorem za9 {y : ya} (h : OkY y) : ∃ x, YR y = some x ∧ zdK y x := by
 unfold YR
 rw [gdT (by omega), gdT (by omega)]
 have r2 : Ret (loop (fun s => kn y s.1 s.2) (([] : List zi), 0)) (fun l => (1 ≤ l.length ∧ l.length ≤ 3) ∧ ∀ p ∈ l, VP p) := by
  refine QP (fun s => ∃ n : Nat, s.2 = (n : Int) ∧ n ≤ 3 ∧ s.1.length = n ∧ ∀ p ∈ s.1, VP p) (fun s => 3 - s.2.toNat) ⟨0, rfl, by omega, rfl, fun a ha => by simp at ha⟩ (by show 3 - 0 < _; omega) ?_
  rintro ⟨l, s⟩ ⟨n, hs, hn, h1, h2⟩
  dsimp only at hs h1 h2 ⊢
  subst hs
  unfold kn
  have go : ∀ b, n < 3 → Ret (uD y l (n : Int) b) (LRP (fun s' => (∃ n : Nat, s'.2 = (n : Int) ∧ n ≤ 3 ∧ s'.1.length = n ∧ ∀ p ∈ s'.1, VP p) ∧ 3 - s'.2.toNat < 3 - (n : Int).toNat) (fun l : List zi => (1 ≤ l.length ∧ l.length ≤ 3) ∧ ∀ p ∈ l, VP p)) := by
   intro b q
   obtain ⟨l', e, h3, h4⟩ := zcD h (l := l) (i := n) (b := b) (by omega) h2
   rw [e, uJ (by omega) (by omega)]
   refine jk.2 ⟨⟨n + 1, rfl, by omega, by dsimp only; omega, h4⟩, ?_⟩
   show 3 - ((n : Int) + 1).toNat < 3 - (n : Int).toNat
   omega
  by_cases q : (n : Int) < 3
  ·rw [decide_eq_true q, cond_true]
   by_cases q1 : (n : Int) < ((y.Parts.length : Nat) : Int)
   ·rw [decide_eq_true q1, cond_true]
    exact go _ (by omega)
   ·rw [decide_eq_false q1, cond_false]
    by_cases q2 : n = 0
    ·subst q2
     exact go true (by omega)
    ·rw [beq_false_of_ne (by omega), cond_false]
     exact jk.2 ⟨⟨by omega, by omega⟩, h2⟩
  ·rw [decide_eq_false q, cond_false]
   exact jk.2 ⟨⟨by omega, by omega⟩, h2⟩
 obtain ⟨l, e, h1, h2⟩ := r2
 rw [bdT e]
 have t0 := z3d h.c0
 have t1 := z3d h.c1
 refine ⟨_, rfl, rfl, rfl, ?_, h1, h2⟩
 dsimp only
 rw [uJ (x := Int.tmod y.Channels.e0 3) (by omega) (by omega), uJ (x := Int.tmod y.Channels.e1 3) (by omega) (by omega)]
theorem z6v {y : ya} {x : z8} (h : zdK y x) {a b : Int} (ha : 0 ≤ a ∧ a ≤ 4) (hb : 0 ≤ b ∧ b ≤ 4) : z5o ⟨x.Messages, x.Labels, [a, b], x.Parts⟩ := by
 have hm := h.msg
 have hl := h.lab
 refine ⟨by dsimp only; omega, by dsimp only; omega, by simp, fun n hn => ?_, ⟨h.pl.1, by have := h.pl.2; dsimp only; omega⟩, fun p hp => ?_⟩
 ·simp at hn
  rcases hn with rfl | rfl <;> assumption
 ·have hv := h.part p hp
  have h1 := hv.hi
  have h2 := hv.fin
  refine ⟨hv.lo, by omega, by have := hv.arcs; omega, hv.ris, by omega, fun a ha' => ?_⟩
  have hva := hv.arc a ha'
  refine ⟨hva.fr, hva.to, hva.kind, fun q => ⟨hva.inner q, ?_⟩, fun _ => ⟨hva.ch, ?_⟩⟩
  ·dsimp only; rw [hl]; exact hva.msg
  ·dsimp only; rw [hm]; exact hva.msg
theorem z4u {y : ya} {x : z8} (hy : OkY y) (h : zdK y x) : z5o x := by
 have t0 := z3d hy.c0
 have t1 := z3d hy.c1
 have := z6v h (a := Int.tmod y.Channels.e0 3) (b := Int.tmod y.Channels.e1 3) (by omega) (by omega)
 rw [← h.ch] at this
 exact this
def beg (x : z8) : z7 := ⟨List.replicate x.Parts.length 0, List.replicate x.Channels.length []⟩
theorem z6S {x : z8} (h : z5o x) : ZK x = some (beg x) := by
 unfold ZK
 rw [gdT (by have := h.pl.2; omega), gdT (by have := h.chl; omega), Int.toNat_natCast, Int.toNat_natCast]
 rfl
theorem zaI {x : z8} (h : z5o x) : MOk x (beg x) := by
 refine ⟨h, by simp [beg], by simp [beg], fun i p v hp hv => ?_, fun i q n hq hn => ?_⟩
 ·have := List.mem_of_getElem? hv
  have hv0 : v = 0 := List.eq_of_mem_replicate this
  subst hv0
  exact ⟨Int.le_refl _, by have := (h.part p (List.mem_of_getElem? hp)).lo; omega⟩
 ·have hq0 : q = [] := List.eq_of_mem_replicate (List.mem_of_getElem? hq)
  subst hq0
  exact ⟨(h.ch n (List.mem_of_getElem? hn)).1, fun m hm => by simp at hm⟩
end Go.Own
end
