/- Walks, further. -/
import Derived.Test.YtkalhfmehmcofaaGreatPartF
import Derived.Test.YtkalhfmehmcofaaGreatPartC
import Derived.Test.YtkalhfmehmcofaaGreatPartE
noncomputable section
set_option linter.unusedVariables false
set_option linter.unusedSimpArgs false
namespace Go.Own
open Go.Proofs
set_option maxRecDepth 100000
set_option maxHeartbeats 8000000
def xr : Code := (Tryz.f80.body).getD .skip
variable {σ : Type}
abbrev Jv (x0 : z4) (x1 : Int) (YY : σ → Qt) (a7 : Value) (bo : List (Option (Int × Int × Int))) (yr : σ × Bool) (kw : List z5) (k_ : Int) : List (Nat × T) := [(0,.own (.opq (YY yr.1).q)),(1,.d (.sptr (ze x0))),(2,.d (.sptr (I x1))),(4,.own (.box (.agg [I x0.Inputs,I x0.Outputs,eOs 1 true (eNv 2 a7) bo]))),(5,.own (eOs 2 true F8_ kw)),(7,.d (I k_))]
abbrev Jt (x0 : z4) (x1 : Int) (YY : σ → Qt) (a7 : Value) (bo : List (Option (Int × Int × Int))) (yr : σ × Bool) (co : List z5) (ap : Int) : List (Nat × T) := [(0,.own (.opq (YY yr.1).q)),(1,.d (.sptr (ze x0))),(2,.d (.sptr (I x1))),(4,.own (.box (.agg [I x0.Inputs,I x0.Outputs,eOs 1 true (eNv 2 a7) bo]))),(5,.own (eOs 2 true F8_ co)),(7,.d (I ap))]
abbrev Ju (x0 : z4) (x1 : Int) (YY : σ → Qt) (a7 : Value) (bo : List (Option (Int × Int × Int))) (dp : σ) (all : List z5) : List (Nat × T) := [(0,.own (.opq (YY dp).q)),(1,.d (.sptr (ze x0))),(2,.d (.sptr (I x1))),(4,.own (.box (.agg [I x0.Inputs,I x0.Outputs,eOs 1 true (eNv 2 a7) bo]))),(5,.own (eOs 2 true F8_ all))]
abbrev Jw (x0 : z4) (x1 : Int) (YY : σ → Qt) (sg : σ) (a7 : Value) (bo : List (Option (Int × Int × Int))) : List (Nat × T) := [(0,.own (.opq (YY sg).q)),(1,.d (.sptr (ze x0))),(2,.d (.sptr (I x1))),(4,.own (.box (.agg [I x0.Inputs,I x0.Outputs,eOs 1 true (eNv 2 a7) bo]))),(5,.own (eOs 2 true F8_ (List.replicate (w64 (x1 * x0.Inputs)).toNat (z5.mk 0 0))))]
abbrev Jr (x0 : z4) (x1 : Int) (YY : σ → Qt) (sg : σ) (a7 : Value) (ct : List (Option (Int × Int × Int))) (ck : Int) : List (Nat × T) := [(0,.own (.opq (YY sg).q)),(1,.d (.sptr (ze x0))),(2,.d (.sptr (I x1))),(4,.own (.box (.agg [I x0.Inputs,I x0.Outputs,eOs 1 true (eNv 2 a7) ct]))),(5,.own (eOs 2 true F8_ (List.replicate (w64 (x1 * x0.Inputs)).toNat (z5.mk 0 0)))),(21,.d (I x1)),(22,.d (I ck))]
variable {ctr : Ctr}
theorem z2A (hC : zr Tryz.prog ctr) (x0 : z4) (x1 : Int) : zgt Tryz.prog (.fn 80 [.sptr (.agg [I x0.Inputs,I x0.Outputs,eSl 1 false zw x0.Rows]),.sptr (I x1)]) (fun (x : z4) (_ : Bool) (_ : Value) => [ze x]) (@wB x0 x1) := by
 refine zfQ (tt := Ve) (nt := 95) (body := xr) y4 Tryz.func80 rfl (by kernel_rfl) rfl rfl (by show (3 : Nat) ≤ 95; decide) ?_
 intro σ yv YY yy hy hw sg r0 aa E hE
 unfold wB at aa
 obtain ⟨g0,aa⟩ := gdE aa
 obtain ⟨g1,aa⟩ := gdE aa
 refine yA X0 hC xr [1,1] [] [(0,.own (.opq (YY sg).q)),(1,.d (.sptr (ze x0))),(2,.d (.sptr (I x1))),(4,.own (.box (.agg [I x0.Inputs,I x0.Outputs,eOs 1 true z2o (List.replicate x1.toNat ([] : List z5))]))),(5,.own (eOs 2 true F8_ (List.replicate (w64 (x1 * x0.Inputs)).toNat (z5.mk 0 0))))] [Hn (rL g0),Ha (rM 1 z2o x1 ([] : List z5)),Hn (rL g1),Ha (rM 2 F8_ (w64 (x1 * x0.Inputs)) (z5.mk 0 0)),Hh (.cut 0)] ?_
 refine zgl (y := eOs 2 true F8_ (List.replicate (w64 (x1 * x0.Inputs)).toNat (z5.mk 0 0))) (by kernel_rfl) 5 (by kernel_rfl) (by kernel_rfl) fun a7 hv5 => ?_
 refine yJ X0 hC xr [1,1] [] [0,1,2,4,5] (fun z : List (Option (Int × Int × Int)) => qV x0 x1 yy sg z = some r0) (fun z => Jw x0 x1 YY sg a7 z) [(0,.own (.opq (YY sg).q)),(1,.d (.sptr (ze x0))),(2,.d (.sptr (I x1))),(4,.own (.box (.agg [I x0.Inputs,I x0.Outputs,eOs 1 true z2o (List.replicate x1.toNat ([] : List z5))]))),(5,.own (eOs 2 true F8_ (List.replicate (w64 (x1 * x0.Inputs)).toNat (z5.mk 0 0))))] [Hh (.cut 0)] ?_ fun J1 ar => ?_
 ·rintro bo aa
  unfold qV at aa
  obtain ⟨t2,ht2,aa⟩ := z8 aa
  refine yL X0 hC xr [1,1,1,0] [] (fun s => zL x0 x1 yy bo s.1 s.2) (fun x => Ju x0 x1 YY a7 bo x.1 x.2) (sg,(List.replicate (w64 (x1 * x0.Inputs)).toNat (z5.mk 0 0))) ht2  [] ?_
  rintro ⟨dp,all⟩ m2 aw ae hl1 J2 av
  try unfold zL at ae
  obtain ⟨rows,h0,ae⟩ := z8 ae
  obtain ⟨yr,h1,ae⟩ := z8 ae
  rcases zy ae with ⟨c0,ae⟩ | ⟨c0,ae⟩
  ·refine yJ ((xTy (P := Tryz.prog) Ve hy hw 48 4 5 2 a7 (tg := true) (tg5 := true) (u1 := .int .i64 x0.Inputs) (u2 := .int .i64 x0.Outputs) F8_ h0 (by decide) (s := dp) (x := (z4.mk x0.Inputs x0.Outputs rows)) (s' := yr.1) (b := true) (yrE h1 c0) (fun _ => (inferInstance : z4I [zbG (z4.mk x0.Inputs x0.Outputs rows)] [ze (z4.mk x0.Inputs x0.Outputs rows)]))).or X0) hC xr [1,1,1,0,0,0,1,1] [J2] [0,1,2,4,5,7] (fun z : List z5 × Int => qU yr z.1 z.2 = some aw) (fun z => Jv x0 x1 YY a7 bo yr z.1 z.2) [(0,.own (.opq (YY yr.1).q)),(1,.d (.sptr (ze x0))),(2,.d (.sptr (I x1))),(4,.own (.box (.agg [I x0.Inputs,I x0.Outputs,eOs 1 true (eNv 2 a7) bo]))),(5,.own (eOs 2 true F8_ all)),(7,.d (I (w64 (((all.length : Nat) : Int) - 1))))] [Hn (⟨rfl,rfl,rfl,rfl,rfl,rfl⟩ : [A.atom yv] = [A.atom yv] ∧ [(yv,A.opq (YY dp).q)] = [(yv,A.opq (YY dp).q)] ∧ T.als 4 [.deref] 0 0 = T.als 4 [.deref] 0 0 ∧ T.own (.box (.agg [I x0.Inputs,I x0.Outputs,eOs 1 true (eNv 2 a7) bo])) = T.own (.box (.agg [I x0.Inputs,I x0.Outputs,eOs 1 true (eNv 2 a7) bo])) ∧ T.own (eOs 2 true F8_ all) = T.own (eOs 2 true F8_ all) ∧ some a7 = some a7),Hq (congrArg Bool.not (Eq.refl true)),Ha (lnM F8_ all),Hh (.cut 0)] ?_ fun J3 bk => ?_
   ·rintro ⟨kw,k_⟩ ae
    unfold qU at ae
    rcases zy ae with ⟨c1,ae⟩ | ⟨c1,ae⟩
    ·obtain rfl := z7 ae
     obtain rfl := hl1
     obtain rfl := z7 aa
     exact yF X0 hC .ret [(0,.own (.opq (YY yr.1).q))] [Hq c1] fun st0 h0 => hE _ st0 (.inr rfl) h0
    ·obtain rfl := z7 ae
     exact yB X0 hC av (yr.1,kw) hl1 [Hq c1]
   ·obtain ⟨t4,ht4,ae⟩ := z8 ae
    refine yL X0 hC xr [1,1,1,0,0,0,1,1,2,0] [J2,J3] (fun s => xp x0 x1 s.1 s.2) (fun x => Jt x0 x1 YY a7 bo yr x.1 x.2) (all,w64 (((all.length : Nat) : Int) - 1)) ht4  [] ?_
    rintro ⟨co,ap⟩ m4 cp ah hl2 J4 ca
    try unfold xp at ah
    rcases zy ah with ⟨c2,ah⟩ | ⟨c2,ah⟩
    ·obtain ⟨nn,h2,ah⟩ := z8 ah
     obtain ⟨a8,h3,ah⟩ := z8 ah
     obtain ⟨i8,h4,ah⟩ := z8 ah
     let Z0 : List HO := [Hq c2,Hn (⟨rfl,rfl⟩ : T.als 5 [] 0 0 = T.als 5 [] 0 0 ∧ some a7 = some a7),Hn (⟨i0 h2,(iL F8_ h2).2⟩ : (0 : Int) ≤ ap ∧ ap.toNat < (co.map F8_).length),Hn (rfl : T.d (.atom (KZ 2 a7 ap)) = T.d (.atom (KZ 2 a7 ap))),Hn (⟨rfl,rfl⟩ : T.d (.atom (KZ 2 a7 ap)) = T.d (.atom (KZ 2 a7 ap)) ∧ some a7 = some a7),Hn ((iL F8_ h3).2 : ap.toNat < (co.map F8_).length),Hs (iM F8_ h3),Hs (iM F8_ h3),Hs (iM F8_ h3),Hs (iM F8_ h3),Hs (iM F8_ h3),Hs (iM F8_ h3),Hs (iM F8_ h3),Hl (sM F8_ co ap (z5.mk a8.To (w64 (a8.Out + 1)))),Hn (⟨rfl,rfl⟩ : T.d (.atom (KZ 2 a7 ap)) = T.d (.atom (KZ 2 a7 ap)) ∧ some a7 = some a7),Hn ((iL F8_ h4).2 : ap.toNat < ((co.set ap.toNat (z5.mk a8.To (w64 (a8.Out + 1)))).map F8_).length),Hs (iM F8_ h4),Hs (iM F8_ h4),Hs (iM F8_ h4)]
     rcases zy ah with ⟨c3,ah⟩ | ⟨c3,ah⟩
     ·obtain rfl := z7 ah
      obtain rfl := hl2
      exact yB ((xPm (P := Tryz.prog) 67 5 2 a7 ap).or ((xPm (P := Tryz.prog) 60 5 2 a7 ap).or ((xAs Tryz.prog 8 (KZ 2 a7 ap)).or ((xPa y4 59 5 a7).or X0)))) hC bk ((co.set ap.toNat (z5.mk a8.To (w64 (a8.Out + 1)))),ap) ae (Z0 ++ [Hq c3])
     ·obtain ⟨gj,h5,ah⟩ := z8 ah
      obtain ⟨dn,h6,ah⟩ := z8 ah
      obtain ⟨my,h7,ah⟩ := z8 ah
      let Z1 : List HO := (Z0 ++ [Hq c3,Hn (⟨rfl,rfl⟩ : T.d (.atom (KZ 2 a7 ap)) = T.d (.atom (KZ 2 a7 ap)) ∧ some a7 = some a7),Hn ((iL F8_ h5).2 : ap.toNat < ((co.set ap.toNat (z5.mk a8.To (w64 (a8.Out + 1)))).map F8_).length),Hs (iM F8_ h5),Hs (iM F8_ h5),Hs (iM F8_ h5),Hs (iM F8_ h5),Hl (sM F8_ (co.set ap.toNat (z5.mk a8.To (w64 (a8.Out + 1)))) ap (z5.mk gj.To 0)),Hn (⟨rfl,rfl⟩ : T.d (.atom (KZ 2 a7 ap)) = T.d (.atom (KZ 2 a7 ap)) ∧ some a7 = some a7),Hn ((iL F8_ h6).2 : ap.toNat < (((co.set ap.toNat (z5.mk a8.To (w64 (a8.Out + 1)))).set ap.toNat (z5.mk gj.To 0)).map F8_).length),Hs (iM F8_ h6),Hs (iM F8_ h6),Hs (iM F8_ h6),Hs (iM F8_ h6),Hs (iM F8_ h6),Hs (iM F8_ h6),Hs (iM F8_ h6),Hl (sM F8_ ((co.set ap.toNat (z5.mk a8.To (w64 (a8.Out + 1)))).set ap.toNat (z5.mk gj.To 0)) ap (z5.mk (w64 (dn.To + 1)) dn.Out)),Hn (⟨rfl,rfl⟩ : T.d (.atom (KZ 2 a7 ap)) = T.d (.atom (KZ 2 a7 ap)) ∧ some a7 = some a7),Hn ((iL F8_ h7).2 : ap.toNat < ((((co.set ap.toNat (z5.mk a8.To (w64 (a8.Out + 1)))).set ap.toNat (z5.mk gj.To 0)).set ap.toNat (z5.mk (w64 (dn.To + 1)) dn.Out)).map F8_).length),Hs (iM F8_ h7),Hs (iM F8_ h7),Hs (iM F8_ h7)])
      rcases zy ah with ⟨c4,ah⟩ | ⟨c4,ah⟩
      ·obtain rfl := z7 ah
       obtain rfl := hl2
       exact yB ((xPm (P := Tryz.prog) 84 5 2 a7 ap).or ((xPm (P := Tryz.prog) 77 5 2 a7 ap).or ((xPm (P := Tryz.prog) 74 5 2 a7 ap).or ((xPm (P := Tryz.prog) 67 5 2 a7 ap).or ((xPm (P := Tryz.prog) 60 5 2 a7 ap).or ((xAs Tryz.prog 8 (KZ 2 a7 ap)).or ((xPa y4 59 5 a7).or X0))))))) hC bk ((((co.set ap.toNat (z5.mk a8.To (w64 (a8.Out + 1)))).set ap.toNat (z5.mk gj.To 0)).set ap.toNat (z5.mk (w64 (dn.To + 1)) dn.Out)),ap) ae (Z1 ++ [Hq c4])
      ·obtain ⟨lk,h8,ah⟩ := z8 ah
       obtain rfl := z7 ah
       exact yB ((xPm (P := Tryz.prog) 90 5 2 a7 ap).or ((xPm (P := Tryz.prog) 84 5 2 a7 ap).or ((xPm (P := Tryz.prog) 77 5 2 a7 ap).or ((xPm (P := Tryz.prog) 74 5 2 a7 ap).or ((xPm (P := Tryz.prog) 67 5 2 a7 ap).or ((xPm (P := Tryz.prog) 60 5 2 a7 ap).or ((xAs Tryz.prog 8 (KZ 2 a7 ap)).or ((xPa y4 59 5 a7).or X0)))))))) hC ca (((((co.set ap.toNat (z5.mk a8.To (w64 (a8.Out + 1)))).set ap.toNat (z5.mk gj.To 0)).set ap.toNat (z5.mk (w64 (dn.To + 1)) dn.Out)).set ap.toNat (z5.mk 0 lk.Out)),w64 (ap - 1)) hl2 (Z1 ++ [Hq c4,Hn (⟨rfl,rfl⟩ : T.d (.atom (KZ 2 a7 ap)) = T.d (.atom (KZ 2 a7 ap)) ∧ some a7 = some a7),Hn ((iL F8_ h8).2 : ap.toNat < ((((co.set ap.toNat (z5.mk a8.To (w64 (a8.Out + 1)))).set ap.toNat (z5.mk gj.To 0)).set ap.toNat (z5.mk (w64 (dn.To + 1)) dn.Out)).map F8_).length),Hs (iM F8_ h8),Hs (iM F8_ h8),Hs (iM F8_ h8),Hs (iM F8_ h8),Hl (sM F8_ (((co.set ap.toNat (z5.mk a8.To (w64 (a8.Out + 1)))).set ap.toNat (z5.mk gj.To 0)).set ap.toNat (z5.mk (w64 (dn.To + 1)) dn.Out)) ap (z5.mk 0 lk.Out))])
    ·obtain rfl := z7 ah
     obtain rfl := hl2
     exact yB X0 hC bk (co,ap) ae [Hq c2]
  ·obtain rfl := z7 ae
   obtain rfl := hl1
   obtain rfl := z7 aa
   exact yF ((xTy (P := Tryz.prog) Ve hy hw 48 4 5 2 a7 (tg := true) (tg5 := true) (u1 := .int .i64 x0.Inputs) (u2 := .int .i64 x0.Outputs) F8_ h0 (by decide) (s := dp) (x := (z4.mk x0.Inputs x0.Outputs rows)) (s' := yr.1) (b := false) (yrE h1 c0) (fun _ => (inferInstance : z4I [zbG (z4.mk x0.Inputs x0.Outputs rows)] [ze (z4.mk x0.Inputs x0.Outputs rows)]))).or X0) hC .ret [(0,.own (.opq (YY yr.1).q))] [Hn (⟨rfl,rfl,rfl,rfl,rfl,rfl⟩ : [A.atom yv] = [A.atom yv] ∧ [(yv,A.opq (YY dp).q)] = [(yv,A.opq (YY dp).q)] ∧ T.als 4 [.deref] 0 0 = T.als 4 [.deref] 0 0 ∧ T.own (.box (.agg [I x0.Inputs,I x0.Outputs,eOs 1 true (eNv 2 a7) bo])) = T.own (.box (.agg [I x0.Inputs,I x0.Outputs,eOs 1 true (eNv 2 a7) bo])) ∧ T.own (eOs 2 true F8_ all) = T.own (eOs 2 true F8_ all) ∧ some a7 = some a7),Hq (congrArg Bool.not (Eq.refl false))] fun st0 h0 => hE _ st0 (.inr rfl) h0
 ·obtain ⟨t5,ht5,aa⟩ := z8 aa
  refine yLx X0 hC xr [1,1,2,1,0] [J1] (fun s => yp x0 x1 s.1 s.2) (fun x => Jr x0 x1 YY sg a7 x.1 x.2) ((List.replicate x1.toNat none),0) ht5 [(0,.own (.opq (YY sg).q)),(1,.d (.sptr (ze x0))),(2,.d (.sptr (I x1))),(4,.own (.box (.agg [I x0.Inputs,I x0.Outputs,eOs 1 true z2o (List.replicate x1.toNat ([] : List z5))]))),(5,.own (eOs 2 true F8_ (List.replicate (w64 (x1 * x0.Inputs)).toNat (z5.mk 0 0)))),(21,.d (I x1)),(22,.d (I 0))] inferInstance [] ?_
  rintro ⟨ct,ck⟩ m5 aw ae hl1 J5 cb
  try unfold yp at ae
  rcases zy ae with ⟨c5,ae⟩ | ⟨c5,ae⟩
  ·obtain ⟨g2,ae⟩ := gdE ae
   obtain ⟨fh,h9,ae⟩ := z8 ae
   obtain ⟨g3,ae⟩ := gdE ae
   obtain rfl := z7 ae
   exact yB ((xS3 y4 43 5 a7).or X0) hC cb ((ct.set ck.toNat (some (w64 (ck * x0.Inputs),w64 ((w64 (ck + 1)) * x0.Inputs),w64 ((w64 (ck + 1)) * x0.Inputs)))),w64 (ck + 1)) hl1 [Hq c5,Hn (⟨rfl,rfl⟩ : T.als 5 [] 0 0 = T.als 5 [] 0 0 ∧ some a7 = some a7),Hn (⟨g2.1,g2.2.1,g2.2.2.1,s3B F8_ g2.2.2.2⟩ : (0 : Int) ≤ w64 (ck * x0.Inputs) ∧ (w64 (ck * x0.Inputs) : Int) ≤ w64 ((w64 (ck + 1)) * x0.Inputs) ∧ (w64 ((w64 (ck + 1)) * x0.Inputs) : Int) ≤ w64 ((w64 (ck + 1)) * x0.Inputs) ∧ (w64 ((w64 (ck + 1)) * x0.Inputs)).toNat ≤ ((List.replicate (w64 (x1 * x0.Inputs)).toNat (z5.mk 0 0)).map F8_).length),Hn (iL (eNv 2 a7) h9),Hx (.a (.osl 2 true [])) (iMn 2 a7 h9 g3),Hx (.a (.osl 2 true [])) (iMn 2 a7 h9 g3),Hl (sM (eNv 2 a7) ct ck (some (w64 (ck * x0.Inputs),w64 ((w64 (ck + 1)) * x0.Inputs),w64 ((w64 (ck + 1)) * x0.Inputs))))]
  ·obtain rfl := z7 ae
   obtain rfl := hl1
   exact yB X0 hC ar ct aa [Hq c5]
variable {v : Value}
theorem ziV (hC : zr Tryz.prog ctr)  {s : Int} {x : z4} {s' : Int} {b : Bool} (h : some (w64 (s + 1),true) = some (s',b)) : xx Tryz.prog (.fn 33 [.atom v]) [ze x] [(v,.box ((eI .i64) s))] (.atom (.bool b)) [.box ((eI .i64) s')] := by
 cases h
 exact z8A (tt := Ve) (nt := 6) (body := (Tryz.f33.body).getD .skip) (t := 3) [1] (args := [ze x]) (caps := [.atom v]) (xs := [.box (I s)]) (vals := [v]) (r := .atom (.bool true)) (ys := [.box (I (w64 (s + 1)))]) y4 Tryz.func33 rfl (by kernel_rfl) rfl rfl (by show (2 : Nat) ≤ 6; decide) (by decide) rfl rfl rfl rfl (fun E hE => yF X0 hC .ret [(1,.own (.box (I (w64 (s + 1))))),(3,.d (.atom (.bool true)))] [] fun st0 h0 => hE _ st0 (.inr rfl) (z02 h0 ⟨⟨rfl,rfl⟩,trivial⟩) (zjU h0 rfl rfl)) rfl
theorem zhV (hC : zr Tryz.prog ctr)  {s x s' : z4} {b : Bool} (h : some (x,false) = some (s',b)) : xx Tryz.prog (.fn 29 [.atom v]) [ze x] [(v,.box (ze s))] (.atom (.bool b)) [.box (ze s')] := by
 cases h
 exact z8A (tt := Ve) (nt := 5) (body := (Tryz.f29.body).getD .skip) (t := 3) [1] (args := [ze x]) (caps := [.atom v]) (xs := [.box (ze s)]) (vals := [v]) (r := .atom (.bool false)) (ys := [.box (ze x)]) y4 Tryz.func29 rfl (by kernel_rfl) rfl rfl (by show (2 : Nat) ≤ 5; decide) (by decide) rfl rfl rfl rfl (fun E hE => yF X0 hC .ret [(1,.own (.box (ze x))),(3,.d (.atom (.bool false)))] [] fun st0 h0 => hE _ st0 (.inr rfl) (z02 h0 ⟨⟨rfl,rfl⟩,trivial⟩) (zjU h0 rfl rfl)) rfl
def y6 : Code := (Tryz.f30.body).getD .skip
theorem ZA (hC : zr Tryz.prog ctr) (h05 : ctr.Has qq) (h03 : ctr.Has wk) {τ : Type} {K : Nat} {c : τ → A} {y : τ → z4 → Option (τ × Bool)} (hy : ∀ (v : Value) s x s' b,y s x = some (s',b) → xx Tryz.prog (.fn K [.atom v]) [ze x] [(v,.box (c s))] (.atom (.bool b)) [.box (c s')])
  (hw : ∀ s x s',y s x = some (s',true) → WkA (.box (c s'))) (m_ : z4) (l_ : List (List Int)) (states : Int) (s_ : τ) (hi : WkA (.box (c s_))) (r0 : τ) (aa : yG y m_ l_ states s_ = some r0) (cv : Value) : xx Tryz.prog (.fn 30 []) [.agg [ze m_,qH l_,.fn K [.atom cv]],I states] [(cv,.box (c s_))] (.tup []) [.box (c r0)] := by
 refine zaH (nt := 26) (body := y6) 3 hi Tryz.func30 rfl (by kernel_rfl) rfl rfl (by show (2 : Nat) ≤ 3; decide) (by decide) (by kernel_rfl) fun E hG hE => ?_
 unfold yG at aa
 refine yA X0 hC y6 [1] [] [(1,.d (I states)),(2,.own (.box (.agg [ze m_,qH l_,.fn K [.atom cv]]))),(3,.own (.opq (ghQ (WkA (.box (c s_))) cv (.box (c s_)))))] [] ?_
 refine zbp (c' := (sub [1,0] y6)) (l := 0) (by kernel_rfl) (by kernel_rfl) ?_
 refine yL X0 hC y6 [1,0,0,1,0] [] (fun q => zZ y m_ l_ states q.1 q.2) (fun q => [(1,.d (I states)),(2,.d (.sptr (.agg [ze m_,qH l_,.fn K [.atom cv]]))),(3,.own (.opq (ghQ (WkA (.box (c q.2))) cv (.box (c q.2))))),(4,.d (I q.1))]) (1,s_) aa [Hh (.n 0 [2])] ?_
 rintro ⟨i_,ax⟩ m1 aw ae hl1 J1 ar
 refine zi2 (g := 3) rfl fun hs1 => ?_
 unfold zZ at ae
 rcases zy ae with ⟨c0,ae⟩ | ⟨c0,ae⟩
 ·refine yJ X0 hC y6 [1,0,0,1,0,0,1] [J1] [1,2,3,4] (fun z : τ => (some (LR.next (w64 (i_ + 1),z)) : Option (LR (Int × τ) τ)) = some aw) (fun z => [(1,.d (I states)),(2,.d (.sptr (.agg [ze m_,qH l_,.fn K [.atom cv]]))),(3,.own (.opq (ghQ (WkA (.box (c z))) cv (.box (c z))))),(4,.d (I i_))]) [(1,.d (I states)),(2,.d (.sptr (.agg [ze m_,qH l_,.fn K [.atom cv]]))),(3,.own (.opq (ghQ (WkA (.box (c ax))) cv (.box (c ax))))),(4,.d (I i_))] [Hq c0,Hh (.cut 0)] ?_ fun J2 av => ?_
  ·rintro z hz
   obtain rfl := z7 hz
   exact yB X0 hC ar (w64 (i_ + 1),z) hl1 []
  ·obtain ⟨r_,h0,ae⟩ := z8 ae
   obtain ⟨t_,ht,ae⟩ := z8 ae
   refine yAt X0 hC (sub [1,0,0,1,0,0,1,2,0,1,0] y6) (frs [1,0,0,1,0,0,1,2,0,1,0] [J1,J2] y6 []) [(1,.d (I states)),(2,.d (.sptr (.agg [ze m_,qH l_,.fn K [.atom cv]]))),(3,.own (.opq (ghQ (WkA (.box (c ax))) cv (.box (c ax))))),(4,.d (I i_)),(14,.d (.fn 80 [.sptr (ze r_.1),.sptr (I r_.2)]))] [Hc h05 (x := (m_,i_)) h0 (loC ze m_ <| loC (eI .i64) i_ <| loN)] fun st0 hs0 => ?_
   obtain rfl : r_ = (m_,i_) := (z7 h0).symm
   refine z8U (g := .tmp 14) (ps := [15]) (assign := (sub [1,0,0,1,0,0,1,2,0,1,0,0] y6)) (body := (sub [1,0,0,1,0,0,1,2,0,1,0,1] y6)) (K := 80) (caps := [.sptr (ze m_),.sptr (I i_)]) (by kernel_rfl) [1,2,3,4,14] (fun s => [(1,.d (I states)),(2,.d (.sptr (.agg [ze m_,qH l_,.fn K [.atom cv]]))),(3,.own (.opq (ghQ (WkA (.box (c s))) cv (.box (c s))))),(4,.d (I i_)),(14,.d (.fn 80 [.sptr (ze m_),.sptr (I i_)]))]) (fun s => [(1,.d (I states)),(2,.d (.sptr (.agg [ze m_,qH l_,.fn K [.atom cv]]))),(3,.own (.opq (ghQ True cv (.box (c s))))),(4,.d (I i_)),(14,.d (.fn 80 [.sptr (ze m_),.sptr (I i_)]))]) (fun _ => Code.goto 0) (fun (x : z4) (_ : Bool) (_ : Value) => [ze x]) (fun s x => zO y m_ l_ s x) ax t_ _ hs0 inferInstance (by kernel_rfl) (by decide) (fun _ => rfl) (fun _ => rfl) (by kernel_rfl) (fun _ _ _ => rfl) (zaM (z2A hC m_ i_) (fun s => WkA (.box (c s))) ?_ ?_ ht) ?_ ?_
   ·exact hs1
   ·intro s x s' hs hst
    refine (fun h => ⟨h,.d 1 _ (.d 2 _ (.own 3 (zit h) (.d 4 _ (.d 14 _ .nil))))⟩) ?_
    unfold zO at hst
    obtain ⟨b,hb,hst⟩ := z8 hst
    rcases zy hst with ⟨c1,hst⟩ | ⟨c1,hst⟩
    ·obtain ⟨q,hq,hst⟩ := z8 hst
     rcases zy hst with ⟨c2,hst⟩ | ⟨c2,hst⟩
     ·cases hst
      exact hw s x q.1 (by rw [hq,← c2])
     ·cases hst
    ·cases hst
     exact hs
   ·rintro od br x_ vr cp ah
    replace ah : zO y m_ l_ br x_ = some cp := ah
    unfold zO at ah
    obtain ⟨rg,hg,ah⟩ := z8 ah
    refine zi2 (g := 3) rfl fun hs2 => ?_
    refine yF X0 hC .normal [(1,.d (I states)),(2,.d (.sptr (.agg [ze m_,qH l_,.fn K [.atom cv]]))),(3,.own (.opq (ghQ (WkA (.box (c br))) cv (.box (c br))))),(4,.d (I i_)),(5,.own (.box (ze x_))),(14,.d (.fn 80 [.sptr (ze m_),.sptr (I i_)]))] [] fun st0 h0 => ⟨rfl,zdM h0 ?_⟩
    rcases zy ah with ⟨c1,ah⟩ | ⟨c1,ah⟩
    ·obtain ⟨ry,hry,ah⟩ := z8 ah
     have hcall := hy cv br x_ ry.1 ry.2 hry
     have hZ : ∀ q : Prop,([A.fn K [.atom cv]] = [A.fn K [.atom cv]] ∧ z4I [ze x_] [ze x_] ∧ T.own (.opq (ghQ (WkA (.box (c br))) cv (.box (c br)))) = T.own (.opq (ghQ (WkA (.box (c br))) cv (.box (c br))))) := fun _ => ⟨rfl,inferInstance,rfl⟩
     rcases zy ah with ⟨c2,ah⟩ | ⟨c2,ah⟩
     ·obtain rfl := z7 ah
      exact yF ((xGh (P := Tryz.prog) Ve 23 3 (p := WkA (.box (c br))) (p' := WkA (.box (c ry.1))) (fun _ => hw br x_ ry.1 (by rw [hry,← c2])) rfl hcall).or (((xLs y4 16 (.agg [ze m_,qH l_,.fn K [.atom cv]]) (.agg [ze m_,qH l_,.dop zev]) inferInstance)).or X0)) hC .normal [(1,.d (I states)),(2,.d (.sptr (.agg [ze m_,qH l_,.fn K [.atom cv]]))),(3,.own (.opq (ghQ (WkA (.box (c ry.1))) cv (.box (c ry.1))))),(4,.d (I i_)),(14,.d (.fn 80 [.sptr (ze m_),.sptr (I i_)]))] (Hn (rfl : T.d (.agg [ze m_,qH l_,.fn K [.atom cv]]) = T.d (.agg [ze m_,qH l_,.fn K [.atom cv]])) :: Hc h03 (x := (zS.mk m_ l_ (),x_)) hg (loC ((xH ze qH eAn)) (zS.mk m_ l_ ()) <| loC ze x_ <| loN) :: (rpN 4 (Hq c1) [Hn (hZ True),Hq c1,Hq c1,Hq (congrArg Bool.not c2)])) fun st0 h0 => ⟨rfl,_,h0,LeL.refl _⟩
     ·obtain rfl := z7 ah
      refine yAt ((xGh (P := Tryz.prog) Ve 23 3 (p := WkA (.box (c br))) (p' := True) (fun _ => trivial) rfl hcall).or (((xLs y4 16 (.agg [ze m_,qH l_,.fn K [.atom cv]]) (.agg [ze m_,qH l_,.dop zev]) inferInstance)).or X0)) hC (.goto 0) [.blk 3] [(1,.d (I states)),(2,.d (.sptr (.agg [ze m_,qH l_,.fn K [.atom cv]]))),(3,.own (.opq (ghQ True cv (.box (c ry.1))))),(4,.d (I i_)),(14,.d (.fn 80 [.sptr (ze m_),.sptr (I i_)]))] (Hn (rfl : T.d (.agg [ze m_,qH l_,.fn K [.atom cv]]) = T.d (.agg [ze m_,qH l_,.fn K [.atom cv]])) :: Hc h03 (x := (zS.mk m_ l_ (),x_)) hg (loC ((xH ze qH eAn)) (zS.mk m_ l_ ()) <| loC ze x_ <| loN) :: (rpN 4 (Hq c1) [Hn (hZ True),Hq c1,Hq c1,Hq (congrArg Bool.not c2)])) fun st0 h0 => AWP.goto (KY _ ⟨rfl,_,h0,LeL.refl _⟩)
    ·obtain rfl := z7 ah
     exact yF (((xLs y4 16 (.agg [ze m_,qH l_,.fn K [.atom cv]]) (.agg [ze m_,qH l_,.dop zev]) inferInstance)).or X0) hC .normal [(1,.d (I states)),(2,.d (.sptr (.agg [ze m_,qH l_,.fn K [.atom cv]]))),(3,.own (.opq (ghQ (WkA (.box (c br))) cv (.box (c br))))),(4,.d (I i_)),(14,.d (.fn 80 [.sptr (ze m_),.sptr (I i_)]))] (Hn (rfl : T.d (.agg [ze m_,qH l_,.fn K [.atom cv]]) = T.d (.agg [ze m_,qH l_,.fn K [.atom cv]])) :: Hc h03 (x := (zS.mk m_ l_ (),x_)) hg (loC ((xH ze qH eAn)) (zS.mk m_ l_ ()) <| loC ze x_ <| loN) :: (rpN 6 (Hq c1) [qF])) fun st0 h0 => ⟨rfl,_,h0,LeL.refl _⟩
   ·rcases t_ with br | br
    ·exact JY (by kernel_rfl) (av _ [(1,.d (I states)),(2,.d (.sptr (.agg [ze m_,qH l_,.fn K [.atom cv]]))),(3,.own (.opq (ghQ (WkA (.box (c br))) cv (.box (c br))))),(4,.d (I i_))] br ae (show Own.canon [1,2,3,4] _ = ofL _ by kernel_rfl) inferInstance)
    ·obtain rfl := z7 ae
     obtain rfl := hl1
     refine AWP.goto (KY _ ⟨rfl,hE _ _ (.inl rfl) ⟨_,rfl⟩⟩)
 ·obtain rfl := z7 ae
  obtain rfl := hl1
  exact yF X0 hC .normal [(3,.own (.opq (ghQ (WkA (.box (c ax))) cv (.box (c ax)))))] [Hq c0] fun st0 h0 => hE _ st0 (.inl rfl) ⟨_,zeh h0 rfl rfl⟩
def Zm : Code := (Tryz.f32.body).getD .skip
def yz : yK := spF (α := List z5) (ρ := List z5) 32 (fun x => [zw x]) (fun r => xJ r) (fun x => zP x) [] (VY)
theorem Zv (hC : zr Tryz.prog ctr) : yz.Ok Tryz.prog := by
 refine zp ?_
 rintro s_ r0 aa
 try unfold zP at aa
 refine yO true [(2,none)] Zm 8 Tryz.func32 fun E hE => ?_
 refine zgk rfl 0 (sz := 2) (t := false) (es := s_.map F8_) (by kernel_rfl) fun pv0 hv0 hn => ?_
 rcases hn with ⟨hn0,he0⟩ | hn0
 ·obtain ⟨_,aa⟩ := gdE aa
  rw [show s_ = [] from List.map_eq_nil_iff.1 he0] at aa
  obtain rfl := z7 aa
  exact yEx ((zj7 y4 4 72 (by kernel_rfl) hn0).or ((xMv Tryz.prog 3 0 pv0 hv0).or X0)) hC hE [Hn (rfl : some pv0 = some pv0),Hn (⟨rfl,rfl⟩ : T.d (.atom pv0) = T.d (.atom pv0) ∧ T.d (.atom (.slice none 0 0)) = T.d (.atom (.slice none 0 0))),qT] (eOs 2 true F8_ []) (show LeV (eOs 2 true F8_ []) (eOs 2 false F8_ ([] : List z5)) from inferInstance)
 ·obtain ⟨g0,aa⟩ := gdE aa
  obtain rfl := z7 aa
  exact yE ((zj7 y4 4 72 (by kernel_rfl) hn0).or ((xMv Tryz.prog 3 0 pv0 hv0).or X0)) hC hE [Hn (rfl : some pv0 = some pv0),Hn (⟨rfl,rfl⟩ : T.d (.atom pv0) = T.d (.atom pv0) ∧ T.d (.atom (.slice none 0 0)) = T.d (.atom (.slice none 0 0))),qF,Hn (dM F8_ s_),Hn (aL F8_ F8_ g0),Hl (aM0 F8_ s_)]
def Zw : Code := (Tryz.f31.body).getD .skip
def yN : yK := spF (α := List z5) (ρ := List z5) 31 (fun x => [zw x]) (fun r => KL r) (fun x => zV x) [] (VY)
theorem Zz (hC : zr Tryz.prog ctr) : yN.Ok Tryz.prog := by
 refine zp ?_
 rintro s_ r0 aa
 try unfold zV at aa
 refine yO true [(2,none)] Zw 9 Tryz.func31 fun E hE => ?_
 obtain ⟨g0,aa⟩ := gdE aa
 obtain rfl := z7 aa
 exact yE X0 hC hE [Ha (lnM F8_ s_),Ha (lnM F8_ s_),Hn (slB g0),Hn (slC g0),Hn (zhm F8_ g0),Ha (zjA 2 F8_ s_ 0 ((s_.length : Nat) : Int).toNat)]
def VT : Code := (Tryz.f10.body).getD .skip
def Vr : yK := spF (α := z4 × List (List Int) × Int) (ρ := z4 × Int) 10 (fun x => [ze x.1,qH x.2.1,(eI .i64) x.2.2]) (fun r => .tup [zbG r.1,(eI .i64) r.2]) (fun x => Y5 x.1 x.2.1 x.2.2) [] (z72)
abbrev z4a (aj : z4) (bw : List (List z5)) : List (Nat × T) := [(6,.own (.box (.agg [I 0,I 0,eOs 1 true zw []]))),(9,.own (.box (.agg [I aj.Inputs,I aj.Outputs,eOs 1 true KL bw])))]
abbrev z49 (aj : z4) (al : List (List z5)) (ia : Int) : List (Nat × T) := [(6,.own (.box (.agg [I 0,I 0,eOs 1 true zw []]))),(9,.own (.box (.agg [I aj.Inputs,I aj.Outputs,eOs 1 true KL al]))),(40,.d (eSl 1 false zw aj.Rows)),(41,.d (I ((aj.Rows.length : Nat) : Int))),(42,.d (I ia))]
theorem z95 (hC : zr Tryz.prog ctr) (h0q : ctr.Has YL) (h05 : ctr.Has qq) (h03 : ctr.Has wk) (h1v : ctr.Has yz) (h0y : ctr.Has yN) : Vr.Ok Tryz.prog := by
 refine zp ?_
 rintro ⟨m_,l_,states⟩ r0 aa
 try unfold Y5 at aa
 refine yO false [(6,some 34),(7,none)] VT 56 Tryz.func10 fun E hE => ?_
 obtain ⟨r_,h0,aa⟩ := z8 aa
 let Z0 : List HO := [Hc h0q (x := (m_,l_,states)) h0 (loC ze m_ <| loC qH l_ <| loC (eI .i64) states <| loN)]
 rcases zy aa with ⟨c0,aa⟩ | ⟨c0,aa⟩
 ·obtain rfl := z7 aa
  exact yE X0 hC hE (Z0 ++ [Hq c0,Hm (shM zw zw [])])
 ·refine yA X0 hC VT [1,1,1] [] [(1,.d (eSl 1 false F6_ l_)),(2,.d (I states)),(3,.own (.box (ze m_))),(6,.own (.box (.agg [I 0,I 0,eOs 1 true zw []]))),(9,.own (.box (.agg [I 0,I 0,eOs 1 true zw []])))] (Z0 ++ [Hq c0,Hh (.cut 1)]) ?_
  refine z6X (by kernel_rfl) 9 fun im => ?_
  obtain ⟨aj,h1,aa⟩ := z8 aa
  let Z1 : List HO := [Hh (.v 2 [9]),Hm (shM zw zw []),Hh (.v 1 [9]),Hn (z54 (f := .fn 30 []) (xs := [.agg [ze m_,qH l_,.fn 29 [.atom im]],I states]) (ls := [(im,.box ((y5 (eI .i64) (eI .i64) (eSl 1 true zw)) (z4.mk 0 0 [])))]) (r := .tup []) (ys := [.box (ze aj)]) [.agg [ze m_,qH l_,.fn 29 [.atom im]],I states] (show z4I [.agg [ze m_,qH l_,.fn 29 [.atom im]],I states] [.agg [ze m_,qH l_,.fn 29 [.atom im]],I states] from inferInstance)),Ha (lnM zw aj.Rows)]
  rcases zy aa with ⟨c1,aa⟩ | ⟨c1,aa⟩
  ·obtain rfl := z7 aa
   exact yE ((z9A (P := Tryz.prog) Ve [9] (xx.pre (show LeA (.box ((y5 (eI .i64) (eI .i64) (eSl 1 true zw)) (z4.mk 0 0 []))) (.box (ze (z4.mk 0 0 []))) from inferInstance) (ZA hC h05 h03 (K := 29) (c := ze) (fun v s x s' b h => zhV hC h) (fun _ _ _ h => by cases h) _ _ _ _ (z29 rfl) _ h1 im)) 28).or ((xMk Tryz.prog Ve).or X0)) hC hE (Z1 ++ [Hq c1,Hm (shM zw zw [])])
  ·obtain ⟨g0,aa⟩ := gdE aa
   refine yJ ((xMs y4 38 72).or ((z9A (P := Tryz.prog) Ve [9] (xx.pre (show LeA (.box ((y5 (eI .i64) (eI .i64) (eSl 1 true zw)) (z4.mk 0 0 []))) (.box (ze (z4.mk 0 0 []))) from inferInstance) (ZA hC h05 h03 (K := 29) (c := ze) (fun v s x s' b h => zhV hC h) (fun _ _ _ h => by cases h) _ _ _ _ (z29 rfl) _ h1 im)) 28).or ((xMk Tryz.prog Ve).or X0))) hC VT [1,1,1,1,1,1,1,1] [] [6,9] (fun z : List (List z5) => QR aj z = some r0) (fun z => z4a aj z) [(6,.own (.box (.agg [I 0,I 0,eOs 1 true zw []]))),(9,.own (.box (.agg [I aj.Inputs,I aj.Outputs,eOs 1 true KL (List.replicate ((aj.Rows.length : Nat) : Int).toNat ([] : List z5))]))),(11,.d (eSl 1 false zw aj.Rows))] (Z1 ++ [Hq c1,Ha (lnM zw aj.Rows),Hn (rL g0),Ha (rM 1 KL ((aj.Rows.length : Nat) : Int) ([] : List z5)),Hh (.cut 0)]) ?_ fun J1 ar => ?_
   ·rintro bw aa
    unfold QR at aa
    obtain rfl := z7 aa
    exact yE X0 hC hE [Hm (shM KL KL bw)]
   ·obtain ⟨t2,ht2,aa⟩ := z8 aa
    refine yL X0 hC VT [1,1,1,1,1,1,1,1,2,1,0] [J1] (fun s => vh aj s.1 s.2) (fun x => z49 aj x.1 x.2) ((List.replicate ((aj.Rows.length : Nat) : Int).toNat ([] : List z5)),0) ht2  [Ha (lnM zw aj.Rows)] ?_
    rintro ⟨al,ia⟩ m2 aw ae hl1 J2 av
    try unfold vh at ae
    rcases zy ae with ⟨c2,ae⟩ | ⟨c2,ae⟩
    ·obtain ⟨am,h2,ae⟩ := z8 ae
     obtain ⟨bc,h3,ae⟩ := z8 ae
     obtain ⟨bt,h4,ae⟩ := z8 ae
     obtain ⟨ly,h5,ae⟩ := z8 ae
     obtain rfl := z7 ae
     exact yB X0 hC av ((al.set ia.toNat bt),w64 (ia + 1)) hl1 [Hq c2,Hi zw h2,Hc h1v (x := am) h3 (loC zw am <| loN),Hg (z4x h0y),Hm (shM F8_ F8_ bc),Hs (z4y h0y (x := bc) h4 (loC zw bc <| loN)),Hm (shM F8_ F8_ bc),Hn (iL KL h5),Hs (iM KL h5),Hs (iM KL h5),Hl (sM KL al ia bt)]
    ·obtain rfl := z7 ae
     obtain rfl := hl1
     exact yB X0 hC ar al aa [Hq c2]
def z16 : Code := (Tryz.f11.body).getD .skip
def W3 : yK := spF (α := z4 × List (List Int) × Int) (ρ := Int × Int) 11 (fun x => [ze x.1,qH x.2.1,(eI .i64) x.2.2]) (fun r => .tup [(eI .i64) r.1,(eI .i64) r.2]) (fun x => XJ x.1 x.2.1 x.2.2) [] (z72)
theorem z7b (hC : zr Tryz.prog ctr) (h0q : ctr.Has YL) (h05 : ctr.Has qq) (h03 : ctr.Has wk) : W3.Ok Tryz.prog := by
 refine zp ?_
 rintro ⟨m_,l_,states⟩ r0 aa
 try unfold XJ at aa
 refine yO false [(6,none),(7,none)] z16 26 Tryz.func11 fun E hE => ?_
 obtain ⟨r_,h0,aa⟩ := z8 aa
 let Z0 : List HO := [Hc h0q (x := (m_,l_,states)) h0 (loC ze m_ <| loC qH l_ <| loC (eI .i64) states <| loN)]
 rcases zy aa with ⟨c0,aa⟩ | ⟨c0,aa⟩
 ·obtain rfl := z7 aa
  exact yE X0 hC hE (Z0 ++ [Hq c0])
 ·refine yA X0 hC z16 [1,1,1] [] [(1,.d (eSl 1 false F6_ l_)),(2,.d (I states)),(3,.own (.box (ze m_))),(9,.own (.box (I 0)))] (Z0 ++ [Hq c0,Hh (.cut 1)]) ?_
  refine z6X (by kernel_rfl) 9 fun im => ?_
  obtain ⟨aj,h1,aa⟩ := z8 aa
  obtain rfl := z7 aa
  exact yE ((z9A (P := Tryz.prog) Ve [9] (ZA hC h05 h03 (K := 33) (c := (eI .i64)) (fun v s x s' b h => ziV hC h) (fun _ _ _ _ => z29 rfl) _ _ _ _ (z29 rfl) _ h1 im) 24).or ((xMk Tryz.prog Ve).or X0)) hC hE [Hn (z54 (f := .fn 30 []) (xs := [.agg [ze m_,qH l_,.fn 33 [.atom im]],I states]) (ls := [(im,.box ((eI .i64) 0))]) (r := .tup []) (ys := [.box ((eI .i64) aj)]) [.agg [ze m_,qH l_,.fn 33 [.atom im]],I states] (show z4I [.agg [ze m_,qH l_,.fn 33 [.atom im]],I states] [.agg [ze m_,qH l_,.fn 33 [.atom im]],I states] from inferInstance))]
def z48 : Code := (Tryz.f12.body).getD .skip
def ZP : yK := spF (α := z4 × Int) (ρ := Int × Int) 12 (fun x => [ze x.1,(eI .i64) x.2]) (fun r => .tup [(eI .i64) r.1,(eI .i64) r.2]) (fun x => uF x.1 x.2) [] (Uv)
theorem z51 (hC : zr Tryz.prog ctr) (h0n : ctr.Has YN) (h0l : ctr.Has YM) : ZP.Ok Tryz.prog := by
 refine zp ?_
 rintro ⟨m_,states⟩ r0 aa
 try unfold uF at aa
 refine yO false [(4,none),(5,none)] z48 16 Tryz.func12 fun E hE => ?_
 obtain ⟨r_,h0,aa⟩ := z8 aa
 let Z0 : List HO := [Hc h0n (x := (m_,states)) h0 (loC ze m_ <| loC (eI .i64) states <| loN)]
 rcases zy aa with ⟨c0,aa⟩ | ⟨c0,aa⟩
 ·obtain rfl := z7 aa
  exact yE X0 hC hE (Z0 ++ [Hq c0])
 ·obtain ⟨aj,h1,aa⟩ := z8 aa
  obtain rfl := z7 aa
  exact yE X0 hC hE (Z0 ++ [Hq c0,Hc h0l (x := (m_,states)) h1 (loC ze m_ <| loC (eI .i64) states <| loN)])
def wQ : Code := (Tryz.f36.body).getD .skip
def Wo : yK := spF (α := z4 × Int × Int) (ρ := z4) 36 (fun x => [ze x.1,(eI .i64) x.2.1,(eI .i64) x.2.2]) (fun r => zbO r) (fun x => Xy x.1 x.2.1 x.2.2) [] (z72)
abbrev z0s (m_ : z4) (ct : List (List z5)) : List (Nat × T) := [(6,.own (.box (.agg [I 0,I 0,eOs 1 true zw []]))),(7,.own (.box (.agg [I m_.Inputs,I m_.Outputs,eOs 1 false z2o ct])))]
abbrev z0r (m_ : z4) (states : Int) (s_ : Int) (ir : Int) (iu : List (List z5)) : List (Nat × T) := [(1,.d (I states)),(2,.d (I ir)),(3,.own (.box (ze m_))),(6,.own (.box (.agg [I 0,I 0,eOs 1 true zw []]))),(7,.own (.box (.agg [I m_.Inputs,I m_.Outputs,eOs 1 false z2o iu]))),(9,.d (I s_))]
abbrev z0p (m_ : z4) (states : Int) (s_ : Int) (cu : Int) (fj : List (List z5)) (i_ : Int) : List (Nat × T) := [(1,.d (I states)),(2,.d (I cu)),(3,.own (.box (ze m_))),(6,.own (.box (.agg [I 0,I 0,eOs 1 true zw []]))),(7,.own (.box (.agg [I m_.Inputs,I m_.Outputs,eOs 1 false z2o fj]))),(9,.d (I s_)),(10,.d (I i_))]
abbrev z0q (m_ : z4) (states : Int) (gy : Int) (ge : List (List z5)) (s_ : Int) : List (Nat × T) := [(1,.d (I states)),(2,.d (I gy)),(3,.own (.box (ze m_))),(6,.own (.box (.agg [I 0,I 0,eOs 1 true zw []]))),(7,.own (.box (.agg [I m_.Inputs,I m_.Outputs,eOs 1 false z2o ge]))),(9,.d (I s_))]
abbrev z0t (m_ : z4) (states : Int) (number : Int) (bo : List (List z5)) : List (Nat × T) := [(1,.d (I states)),(2,.d (I number)),(3,.own (.box (ze m_))),(6,.own (.box (.agg [I 0,I 0,eOs 1 true zw []]))),(7,.own (.box (.agg [I m_.Inputs,I m_.Outputs,eOs 1 false z2o bo])))]
abbrev z0o (m_ : z4) (states : Int) (number : Int) (fk : List (List z5)) (ax : Int) : List (Nat × T) := [(1,.d (I states)),(2,.d (I number)),(3,.own (.box (ze m_))),(6,.own (.box (.agg [I 0,I 0,eOs 1 true zw []]))),(7,.own (.box (.agg [I m_.Inputs,I m_.Outputs,eOs 1 false z2o fk]))),(8,.d (I ax))]
theorem z4S (hC : zr Tryz.prog ctr) : Wo.Ok Tryz.prog := by
 refine zp ?_
 rintro ⟨m_,states,number⟩ r0 aa
 try unfold Xy at aa
 refine yO false [(6,some 34)] wQ 72 Tryz.func36 fun E hE => ?_
 refine yJ X0 hC wQ [1,1] [] [1,2,3,6,7] (fun z : List (List z5) => ZT m_ states number z = some r0) (fun z => z0t m_ states number z) [(1,.d (I states)),(2,.d (I number)),(3,.own (.box (ze m_))),(6,.own (.box (.agg [I 0,I 0,eOs 1 true zw []]))),(7,.own (.box (.agg [I m_.Inputs,I m_.Outputs,eOs 1 true zw []])))] [Hh (.cut 2)] ?_ fun J1 ar => ?_
 ·rintro bo aa
  unfold ZT at aa
  refine yJ X0 hC wQ [1,1,1] [] [6,7] (fun z : List (List z5) => ZS m_ z = some r0) (fun z => z0s m_ z) [(1,.d (I states)),(2,.d (I number)),(3,.own (.box (ze m_))),(6,.own (.box (.agg [I 0,I 0,eOs 1 true zw []]))),(7,.own (.box (.agg [I m_.Inputs,I m_.Outputs,eOs 1 false z2o bo])))] [Hh (.cut 0)] ?_ fun J2 av => ?_
  ·rintro ct aa
   unfold ZS at aa
   obtain rfl := z7 aa
   exact yE X0 hC hE [Hm (shM z2o KL ct)]
  ·obtain ⟨t3,ht3,aa⟩ := z8 aa
   refine yL X0 hC wQ [1,1,1,2,1,0] [J2] (fun s => yW m_ states s.1 s.2.1 s.2.2) (fun x => z0q m_ states x.1 x.2.1 x.2.2) (number,bo,w64 (states - 1)) ht3  [] ?_
   rintro ⟨gy,ge,s_⟩ m3 aw ae hl1 J3 bk
   try unfold yW at ae
   rcases zy ae with ⟨c0,ae⟩ | ⟨c0,ae⟩
   ·refine yJ X0 hC wQ [1,1,1,2,1,0,0,1] [J2,J3] [1,2,3,6,7,9] (fun z : Int × List (List z5) => ZR s_ z.1 z.2 = some aw) (fun z => z0r m_ states s_ z.1 z.2) [(1,.d (I states)),(2,.d (I gy)),(3,.own (.box (ze m_))),(6,.own (.box (.agg [I 0,I 0,eOs 1 true zw []]))),(7,.own (.box (.agg [I m_.Inputs,I m_.Outputs,eOs 1 false z2o ge]))),(9,.d (I s_))] [Hq c0,Hh (.cut 0)] ?_ fun J4 ca => ?_
    ·rintro ⟨ir,iu⟩ ae
     unfold ZR at ae
     obtain rfl := z7 ae
     exact yB X0 hC bk (ir,iu,w64 (s_ - 1)) hl1 []
    ·obtain ⟨t5,ht5,ae⟩ := z8 ae
     refine yL X0 hC wQ [1,1,1,2,1,0,0,1,2,0,1,0] [J2,J3,J4] (fun s => yV m_ states s_ s.1 s.2.1 s.2.2) (fun x => z0p m_ states s_ x.1 x.2.1 x.2.2) (gy,ge,w64 (m_.Inputs - 1)) ht5  [] ?_
     rintro ⟨cu,fj,i_⟩ m5 cp ah hl2 J5 cb
     try unfold yV at ah
     rcases zy ah with ⟨c1,ah⟩ | ⟨c1,ah⟩
     ·obtain ⟨g0,ah⟩ := gdE ah
      obtain ⟨g1,ah⟩ := gdE ah
      obtain ⟨fh,h0,ah⟩ := z8 ah
      obtain ⟨g2,ah⟩ := gdE ah
      obtain ⟨g3,ah⟩ := gdE ah
      obtain ⟨lz,h1,ah⟩ := z8 ah
      obtain rfl := z7 ah
      exact yB X0 hC cb (w64 (Int.tdiv cu (w64 (states * m_.Outputs))),(fj.set s_.toNat (fh.set i_.toNat (z5.mk (w64 (Int.tdiv (Int.tmod cu (w64 (states * m_.Outputs))) m_.Outputs)) (Int.tmod (Int.tmod cu (w64 (states * m_.Outputs))) m_.Outputs)))),w64 (i_ - 1)) hl2 [Hq c1,Hn g0,Hn g1,Hn (iL z2o h0),Hs (iM z2o h0),Hn g2,Hn g3,Hs (iM z2o h0),Hn (iL F8_ h1),Hs (iM z2o h0),Hs (iM F8_ h1),Hs (iM z2o h0),Hs (iM F8_ h1),Hl (sM F8_ fh i_ (z5.mk (w64 (Int.tdiv (Int.tmod cu (w64 (states * m_.Outputs))) m_.Outputs)) (Int.tmod (Int.tmod cu (w64 (states * m_.Outputs))) m_.Outputs))),Hl (sM z2o fj s_ (fh.set i_.toNat (z5.mk (w64 (Int.tdiv (Int.tmod cu (w64 (states * m_.Outputs))) m_.Outputs)) (Int.tmod (Int.tmod cu (w64 (states * m_.Outputs))) m_.Outputs))))]
     ·obtain rfl := z7 ah
      obtain rfl := hl2
      exact yB X0 hC ca (cu,fj) ae [Hq c1]
   ·obtain rfl := z7 ae
    obtain rfl := hl1
    exact yB X0 hC av ge aa [Hq c0]
 ·obtain ⟨t6,ht6,aa⟩ := z8 aa
  refine yLx X0 hC wQ [1,1,2,1,0] [J1] (fun s => yU m_ states s.1 s.2) (fun x => z0o m_ states number x.1 x.2) (([] : List (List z5)),0) ht6 [(1,.d (I states)),(2,.d (I number)),(3,.own (.box (ze m_))),(6,.own (.box (.agg [I 0,I 0,eOs 1 true zw []]))),(7,.own (.box (.agg [I m_.Inputs,I m_.Outputs,eOs 1 true z2o []]))),(8,.d (I 0))] inferInstance [] ?_
  rintro ⟨fk,ax⟩ m6 aw ae hl1 J6 dr
  try unfold yU at ae
  rcases zy ae with ⟨c2,ae⟩ | ⟨c2,ae⟩
  ·obtain ⟨g4,ae⟩ := gdE ae
   obtain ⟨g5,ae⟩ := gdE ae
   obtain rfl := z7 ae
   exact yB X0 hC dr ((fk ++ ([(List.replicate m_.Inputs.toNat (z5.mk 0 0))] : List (List z5))),w64 (ax + 1)) hl1 [Hq c2,Hn (rL g4),Ha (rM 2 F8_ m_.Inputs (z5.mk 0 0)),Hq (oC z2o (List.replicate m_.Inputs.toNat (z5.mk 0 0)) []),Hn (aL z2o z2o g5),Hl (aM z2o fk ([(List.replicate m_.Inputs.toNat (z5.mk 0 0))] : List (List z5)))]
  ·obtain rfl := z7 ae
   obtain rfl := hl1
   exact yB X0 hC ar fk aa [Hq c2]
def UB : Code := (Tryz.f84.body).getD .skip
def Un : yK := spF (α := z4 × Int × List Int) (ρ := List Int) 84 (fun x => [ze x.1,(eI .i64) x.2.1,F6_ x.2.2]) (fun r => F5_ r) (fun x => WU x.1 x.2.1 x.2.2) [] (z72)
abbrev z3B (out : List Int) : List (Nat × T) := [(7,.own (eOs 1 false (eI .i64) out))]
abbrev z3A (m_ : z4) (w_ : List Int) (ax : Int) (ak : List Int) (k_ : Int) : List (Nat × T) := [(1,.d (I ax)),(2,.d (eSl 1 false (eI .i64) w_)),(3,.own (.box (ze m_))),(7,.own (eOs 1 false (eI .i64) ak)),(8,.d (I k_))]
theorem z79 (hC : zr Tryz.prog ctr) (h08 : ctr.Has jV) : Un.Ok Tryz.prog := by
 refine zp ?_
 rintro ⟨m_,s_,w_⟩ r0 aa
 try unfold WU at aa
 refine yO true [(6,none)] UB 31 Tryz.func84 fun E hE => ?_
 refine yJ X0 hC UB [1,1] [] [7] (fun z : List Int => Wc z = some r0) (fun z => z3B z) [(1,.d (I s_)),(2,.d (eSl 1 false (eI .i64) w_)),(3,.own (.box (ze m_))),(7,.own (eOs 1 true (eI .i64) []))] [Hh (.cut 2)] ?_ fun J1 ar => ?_
 ·rintro out aa
  unfold Wc at aa
  obtain rfl := z7 aa
  exact yE X0 hC hE []
 ·obtain ⟨t2,ht2,aa⟩ := z8 aa
  refine yLx X0 hC UB [1,1,2,1,0] [J1] (fun s => Ye m_ w_ s.1 s.2.1 s.2.2) (fun x => z3A m_ w_ x.1 x.2.1 x.2.2) (s_,([] : List Int),0) ht2 [(1,.d (I s_)),(2,.d (eSl 1 false (eI .i64) w_)),(3,.own (.box (ze m_))),(7,.own (eOs 1 true (eI .i64) [])),(8,.d (I 0))] inferInstance [] ?_
  rintro ⟨ax,ak,k_⟩ m2 aw ae hl1 J2 av
  try unfold Ye at ae
  rcases zy ae with ⟨c0,ae⟩ | ⟨c0,ae⟩
  ·obtain ⟨dm,h0,ae⟩ := z8 ae
   obtain ⟨r_,h1,ae⟩ := z8 ae
   obtain ⟨g0,ae⟩ := gdE ae
   obtain rfl := z7 ae
   exact yB X0 hC av (r_.To,(ak ++ [r_.Out]),w64 (k_ + 1)) hl1 [Ha (lnM (eI .i64) w_),Hq c0,Hi (eI .i64) h0,Hc h08 (x := (m_,ax,dm)) h1 (loC ze m_ <| loC (eI .i64) ax <| loC (eI .i64) dm <| loN),Hq (dM (eI .i64) [r_.Out]),Hn (dM (eI .i64) [r_.Out]),Hn (aL (eI .i64) (eI .i64) g0),Hl (aM (eI .i64) ak [r_.Out])]
  ·obtain rfl := z7 ae
   obtain rfl := hl1
   exact yB X0 hC ar ak aa [Ha (lnM (eI .i64) w_),Hq c0]
def VN : Code := (Tryz.f57.body).getD .skip
def Vh : yK := spF (α := z4 × z4 × List Int) (ρ := Int) 57 (fun x => [ze x.1,ze x.2.1,F6_ x.2.2]) (fun r => (eI .i64) r) (fun x => WQ x.1 x.2.1 x.2.2) [] (z72)
abbrev z1q : List (Nat × T) := []
abbrev z1p (r_ : List Int) (aj : List Int) (i_ : Int) : List (Nat × T) := [(7,.own (eOs 1 false (eI .i64) r_)),(8,.own (eOs 1 false (eI .i64) aj)),(9,.d (I i_))]
theorem z5I (hC : zr Tryz.prog ctr) (h0z : ctr.Has Un) : Vh.Ok Tryz.prog := by
 refine zp ?_
 rintro ⟨m_,other,w_⟩ r0 aa
 try unfold WQ at aa
 refine yO true [(6,none)] VN 32 Tryz.func57 fun E hE => ?_
 obtain ⟨r_,h0,aa⟩ := z8 aa
 obtain ⟨aj,h1,aa⟩ := z8 aa
 refine yJ X0 hC VN [1,1,1] [] [] (fun z : Unit => Vu = some r0) (fun z => z1q) [(7,.own (eOs 1 false (eI .i64) r_)),(8,.own (eOs 1 false (eI .i64) aj))] [Hc h0z (x := (m_,0,w_)) h0 (loC ze m_ <| loC (eI .i64) 0 <| loC F6_ w_ <| loN),Hc h0z (x := (other,0,w_)) h1 (loC ze other <| loC (eI .i64) 0 <| loC F6_ w_ <| loN),Hh (.cut 0)] ?_ fun J1 ar => ?_
 ·rintro ⟨⟩ aa
  unfold Vu at aa
  obtain rfl := z7 aa
  exact yE X0 hC hE []
 ·obtain ⟨t2,ht2,aa⟩ := z8 aa
  refine yL X0 hC VN [1,1,1,2,1,0] [J1] (fun s => jY r_ aj s) (fun x => z1p r_ aj x) 0 ht2  [] ?_
  rintro i_ m2 aw ae hl1 J2 av
  try unfold jY at ae
  rcases zy ae with ⟨c0,ae⟩ | ⟨c0,ae⟩
  ·obtain ⟨dx,h2,ae⟩ := z8 ae
   obtain ⟨dy,h3,ae⟩ := z8 ae
   let Z0 : List HO := [Ha (lnM (eI .i64) r_),Hq c0,Hn (iL (eI .i64) h2),Hs (iM (eI .i64) h2),Hn (iL (eI .i64) h3),Hs (iM (eI .i64) h3)]
   rcases zy ae with ⟨c1,ae⟩ | ⟨c1,ae⟩
   ·obtain rfl := z7 ae
    obtain rfl := hl1
    obtain rfl := z7 aa
    exact yE X0 hC hE (Z0 ++ [Hq c1])
   ·obtain rfl := z7 ae
    exact yB X0 hC av (w64 (i_ + 1)) hl1 (Z0 ++ [Hq c1])
  ·obtain rfl := z7 ae
   obtain rfl := hl1
   exact yB X0 hC ar () aa [Ha (lnM (eI .i64) r_),Hq c0]
def XQ : Code := (Tryz.f37.body).getD .skip
def Xp : yK := spF (α := z4 × z4 × List (List Int)) (ρ := Int × Int) 37 (fun x => [ze x.1,ze x.2.1,qH x.2.2]) (fun r => .tup [(eI .i64) r.1,(eI .i64) r.2]) (fun x => jF x.1 x.2.1 x.2.2) [] (z72)
abbrev K6 : List (Nat × T) := []
abbrev K5 (m_ : z4) (other : z4) (l_ : List (List Int)) (i_ : Int) : List (Nat × T) := [(2,.d (eSl 1 false F6_ l_)),(3,.own (.box (ze m_))),(4,.own (.box (ze other))),(8,.d (I i_))]
theorem z3P (hC : zr Tryz.prog ctr) (h1w : ctr.Has Vh) : Xp.Ok Tryz.prog := by
 refine zp ?_
 rintro ⟨m_,other,l_⟩ r0 aa
 try unfold jF at aa
 refine yO false [(6,none),(7,none)] XQ 27 Tryz.func37 fun E hE => ?_
 refine yJ X0 hC XQ [1] [] [] (fun z : Unit => Xz = some r0) (fun z => K6) [(2,.d (eSl 1 false F6_ l_)),(3,.own (.box (ze m_))),(4,.own (.box (ze other)))] [Hh (.cut 1)] ?_ fun J1 ar => ?_
 ·rintro ⟨⟩ aa
  unfold Xz at aa
  obtain rfl := z7 aa
  exact yE X0 hC hE []
 ·obtain ⟨t2,ht2,aa⟩ := z8 aa
  refine yL X0 hC XQ [1,2,1,0] [J1] (fun s => jZ m_ other l_ s) (fun x => K5 m_ other l_ x) 0 ht2  [] ?_
  rintro i_ m2 aw ae hl1 J2 av
  try unfold jZ at ae
  let Z0 : List HO := [Ha (lnM F6_ l_)]
  rcases zy ae with ⟨c0,ae⟩ | ⟨c0,ae⟩
  ·obtain ⟨bj,h0,ae⟩ := z8 ae
   obtain ⟨r_,h1,ae⟩ := z8 ae
   let Z1 : List HO := (Z0 ++ [Hq c0,Hi F6_ h0,Hc h1w (x := (m_,other,bj)) h1 (loC ze m_ <| loC ze other <| loC F6_ bj <| loN)])
   rcases zy ae with ⟨c1,ae⟩ | ⟨c1,ae⟩
   ·obtain rfl := z7 ae
    obtain rfl := hl1
    obtain rfl := z7 aa
    exact yE X0 hC hE (Z1 ++ [Hq c1])
   ·obtain rfl := z7 ae
    exact yB X0 hC av (w64 (i_ + 1)) hl1 (Z1 ++ [Hq c1])
  ·obtain rfl := z7 ae
   obtain rfl := hl1
   exact yB X0 hC ar () aa (Z0 ++ [Hq c0])
def yY : Code := (Tryz.f86.body).getD .skip
def Vl : yK := spF (α := z4 × List Int) (ρ := z4) 86 (fun x => [ze x.1,F6_ x.2]) (fun r => ze r) (fun x => WT x.1 x.2) [] (Uv)
abbrev z1L (m_ : z4) (bw : List (List z5)) : List (Nat × T) := [(4,.own (.box (.agg [I 0,I 0,eOs 1 true zw []]))),(5,.own (.box (.agg [I m_.Inputs,I m_.Outputs,eOs 1 false xJ bw])))]
abbrev z1K (m_ : z4) (l_ : List Int) (k_ : Int) (cx : List (List z5)) : List (Nat × T) := [(1,.d (eSl 1 false (eI .i64) l_)),(2,.own (.box (ze m_))),(4,.own (.box (.agg [I 0,I 0,eOs 1 true zw []]))),(5,.own (.box (.agg [I m_.Inputs,I m_.Outputs,eOs 1 false xJ cx]))),(6,.d (I k_))]
abbrev z1J (m_ : z4) (l_ : List Int) (al : List (List z5)) (k_ : Int) (row : List z5) : List (Nat × T) := [(1,.d (eSl 1 false (eI .i64) l_)),(2,.own (.box (ze m_))),(4,.own (.box (.agg [I 0,I 0,eOs 1 true zw []]))),(5,.own (.box (.agg [I m_.Inputs,I m_.Outputs,eOs 1 false xJ al]))),(6,.d (I k_)),(7,.own (eOs 2 false F8_ row))]
abbrev z1I (m_ : z4) (l_ : List Int) (al : List (List z5)) (k_ : Int) (i_ : Int) (kx : List z5) : List (Nat × T) := [(1,.d (eSl 1 false (eI .i64) l_)),(2,.own (.box (ze m_))),(4,.own (.box (.agg [I 0,I 0,eOs 1 true zw []]))),(5,.own (.box (.agg [I m_.Inputs,I m_.Outputs,eOs 1 false xJ al]))),(6,.d (I k_)),(7,.own (eOs 2 false F8_ kx)),(8,.d (I i_))]
abbrev z1H (m_ : z4) (l_ : List Int) (al : List (List z5)) (k_ : Int) (ay : List z5) (i_ : Int) (ai : z5) (to : Int) : List (Nat × T) := [(1,.d (eSl 1 false (eI .i64) l_)),(2,.own (.box (ze m_))),(4,.own (.box (.agg [I 0,I 0,eOs 1 true zw []]))),(5,.own (.box (.agg [I m_.Inputs,I m_.Outputs,eOs 1 false xJ al]))),(6,.d (I k_)),(7,.own (eOs 2 false F8_ ay)),(8,.d (I i_)),(9,.own (.box (F8_ ai))),(10,.d (I to))]
abbrev z1G (m_ : z4) (l_ : List Int) (al : List (List z5)) (k_ : Int) (ay : List z5) (i_ : Int) (ai : z5) (n_ : Int) (l4 : Int) : List (Nat × T) := [(1,.d (eSl 1 false (eI .i64) l_)),(2,.own (.box (ze m_))),(4,.own (.box (.agg [I 0,I 0,eOs 1 true zw []]))),(5,.own (.box (.agg [I m_.Inputs,I m_.Outputs,eOs 1 false xJ al]))),(6,.d (I k_)),(7,.own (eOs 2 false F8_ ay)),(8,.d (I i_)),(9,.own (.box (F8_ ai))),(10,.d (I l4)),(11,.d (I n_))]
abbrev z1D (m_ : z4) (l_ : List Int) (al : List (List z5)) (k_ : Int) (ay : List z5) (i_ : Int) (ai : z5) (j8 : Int) (n_ : Int) : List (Nat × T) := [(1,.d (eSl 1 false (eI .i64) l_)),(2,.own (.box (ze m_))),(4,.own (.box (.agg [I 0,I 0,eOs 1 true zw []]))),(5,.own (.box (.agg [I m_.Inputs,I m_.Outputs,eOs 1 false xJ al]))),(6,.d (I k_)),(7,.own (eOs 2 false F8_ ay)),(8,.d (I i_)),(9,.own (.box (F8_ ai))),(10,.d (I j8)),(11,.d (I n_))]
abbrev z1E (m_ : z4) (l_ : List Int) (al : List (List z5)) (k_ : Int) (ay : List z5) (i_ : Int) : List (Nat × T) := [(1,.d (eSl 1 false (eI .i64) l_)),(2,.own (.box (ze m_))),(4,.own (.box (.agg [I 0,I 0,eOs 1 true zw []]))),(5,.own (.box (.agg [I m_.Inputs,I m_.Outputs,eOs 1 false xJ al]))),(6,.d (I k_)),(7,.own (eOs 2 false F8_ ay)),(8,.d (I i_))]
abbrev z1F (m_ : z4) (l_ : List Int) (al : List (List z5)) (k_ : Int) : List (Nat × T) := [(1,.d (eSl 1 false (eI .i64) l_)),(2,.own (.box (ze m_))),(4,.own (.box (.agg [I 0,I 0,eOs 1 true zw []]))),(5,.own (.box (.agg [I m_.Inputs,I m_.Outputs,eOs 1 false xJ al]))),(6,.d (I k_))]
theorem z5N (hC : zr Tryz.prog ctr) : Vl.Ok Tryz.prog := by
 refine zp ?_
 rintro ⟨m_,l_⟩ r0 aa
 try unfold WT at aa
 refine yO false [(4,some 34)] yY 68 Tryz.func86 fun E hE => ?_
 refine yJ X0 hC yY [1,1] [] [4,5] (fun z : List (List z5) => YT m_ z = some r0) (fun z => z1L m_ z) [(1,.d (eSl 1 false (eI .i64) l_)),(2,.own (.box (ze m_))),(4,.own (.box (.agg [I 0,I 0,eOs 1 true zw []]))),(5,.own (.box (.agg [I m_.Inputs,I m_.Outputs,eOs 1 true zw []])))] [Hh (.cut 2)] ?_ fun J1 ar => ?_
 ·rintro bw aa
  unfold YT at aa
  obtain rfl := z7 aa
  exact yE X0 hC hE [Hm (shM xJ zw bw)]
 ·obtain ⟨t2,ht2,aa⟩ := z8 aa
  refine yLx X0 hC yY [1,1,2,1,0] [J1] (fun s => uM m_ l_ s.1 s.2) (fun x => z1F m_ l_ x.1 x.2) (([] : List (List z5)),0) ht2 [(1,.d (eSl 1 false (eI .i64) l_)),(2,.own (.box (ze m_))),(4,.own (.box (.agg [I 0,I 0,eOs 1 true zw []]))),(5,.own (.box (.agg [I m_.Inputs,I m_.Outputs,eOs 1 true xJ []]))),(6,.d (I 0))] inferInstance [] ?_
  rintro ⟨al,k_⟩ m2 aw ae hl1 J2 av
  try unfold uM at ae
  rcases zy ae with ⟨c0,ae⟩ | ⟨c0,ae⟩
  ·refine yJ X0 hC yY [1,1,2,1,0,0,1] [J1,J2] [1,2,4,5,6] (fun z : List (List z5) => YS k_ z = some aw) (fun z => z1K m_ l_ k_ z) [(1,.d (eSl 1 false (eI .i64) l_)),(2,.own (.box (ze m_))),(4,.own (.box (.agg [I 0,I 0,eOs 1 true zw []]))),(5,.own (.box (.agg [I m_.Inputs,I m_.Outputs,eOs 1 false xJ al]))),(6,.d (I k_))] [Ha (lnM (eI .i64) l_),Hq c0,Hh (.cut 0)] ?_ fun J3 bk => ?_
   ·rintro cx ae
    unfold YS at ae
    obtain rfl := z7 ae
    exact yB X0 hC av (cx,w64 (k_ + 1)) hl1 []
   ·refine yJ X0 hC yY [1,1,2,1,0,0,1,2,0,1] [J1,J2,J3] [1,2,4,5,6,7] (fun z : List z5 => YR al k_ z = some aw) (fun z => z1J m_ l_ al k_ z) [(1,.d (eSl 1 false (eI .i64) l_)),(2,.own (.box (ze m_))),(4,.own (.box (.agg [I 0,I 0,eOs 1 true zw []]))),(5,.own (.box (.agg [I m_.Inputs,I m_.Outputs,eOs 1 false xJ al]))),(6,.d (I k_)),(7,.own (eOs 2 true F8_ []))] [Hh (.cut 1)] ?_ fun J4 ca => ?_
    ·rintro row ae
     unfold YR at ae
     obtain ⟨g0,ae⟩ := gdE ae
     exact yB X0 hC bk (al ++ [row]) ae [Hq (oC xJ row []),Hn (aL xJ xJ g0),Hl (aM xJ al [row])]
    ·obtain ⟨t5,ht5,ae⟩ := z8 ae
     refine yLx X0 hC yY [1,1,2,1,0,0,1,2,0,1,2,1,0] [J1,J2,J3,J4] (fun s => uL m_ l_ k_ s.1 s.2) (fun x => z1E m_ l_ al k_ x.1 x.2) (([] : List z5),0) ht5 [(1,.d (eSl 1 false (eI .i64) l_)),(2,.own (.box (ze m_))),(4,.own (.box (.agg [I 0,I 0,eOs 1 true zw []]))),(5,.own (.box (.agg [I m_.Inputs,I m_.Outputs,eOs 1 false xJ al]))),(6,.d (I k_)),(7,.own (eOs 2 true F8_ [])),(8,.d (I 0))] inferInstance [] ?_
     rintro ⟨ay,i_⟩ m5 cp ah hl2 J5 cb
     try unfold uL at ah
     rcases zy ah with ⟨c1,ah⟩ | ⟨c1,ah⟩
     ·refine yJ X0 hC yY [1,1,2,1,0,0,1,2,0,1,2,1,0,0,1] [J1,J2,J3,J4,J5] [1,2,4,5,6,7,8] (fun z : List z5 => YQ i_ z = some cp) (fun z => z1I m_ l_ al k_ i_ z) [(1,.d (eSl 1 false (eI .i64) l_)),(2,.own (.box (ze m_))),(4,.own (.box (.agg [I 0,I 0,eOs 1 true zw []]))),(5,.own (.box (.agg [I m_.Inputs,I m_.Outputs,eOs 1 false xJ al]))),(6,.d (I k_)),(7,.own (eOs 2 false F8_ ay)),(8,.d (I i_))] [Hq c1,Hh (.cut 0)] ?_ fun J6 dr => ?_
      ·rintro kx ah
       unfold YQ at ah
       obtain rfl := z7 ah
       exact yB X0 hC cb (kx,w64 (i_ + 1)) hl2 []
      ·obtain ⟨bj,h0,ah⟩ := z8 ah
       obtain ⟨am,h1,ah⟩ := z8 ah
       obtain ⟨ai,h2,ah⟩ := z8 ah
       refine yJ X0 hC yY [1,1,2,1,0,0,1,2,0,1,2,1,0,0,1,2,0,1,1] [J1,J2,J3,J4,J5,J6] [1,2,4,5,6,7,8,9,10] (fun z : Int => YP ay i_ ai z = some cp) (fun z => z1H m_ l_ al k_ ay i_ ai z) [(1,.d (eSl 1 false (eI .i64) l_)),(2,.own (.box (ze m_))),(4,.own (.box (.agg [I 0,I 0,eOs 1 true zw []]))),(5,.own (.box (.agg [I m_.Inputs,I m_.Outputs,eOs 1 false xJ al]))),(6,.d (I k_)),(7,.own (eOs 2 false F8_ ay)),(8,.d (I i_)),(9,.own (.box (F8_ ai))),(10,.d (I (-1)))] [Hi (eI .i64) h0,Hi zw h1,Hi F8_ h2,Hh (.cut 1)] ?_ fun J7 hJ7 => ?_
       ·rintro to ah
        unfold YP at ah
        obtain ⟨g1,ah⟩ := gdE ah
        exact yB X0 hC dr (ay ++ [(z5.mk to ai.Out)]) ah [Hq (dM F8_ [(z5.mk to ai.Out)]),Hn (dM F8_ [(z5.mk to ai.Out)]),Hn (aL F8_ F8_ g1),Hl (aM F8_ ay [(z5.mk to ai.Out)])]
       ·obtain ⟨t8,ht8,ah⟩ := z8 ah
        refine yL X0 hC yY [1,1,2,1,0,0,1,2,0,1,2,1,0,0,1,2,0,1,1,2,1,0] [J1,J2,J3,J4,J5,J6,J7] (fun s => uK l_ ai s.1 s.2) (fun x => z1D m_ l_ al k_ ay i_ ai x.1 x.2) ((-1),0) ht8  [] ?_
        rintro ⟨j8,n_⟩ m8 mf bl hl3 J8 j9
        try unfold uK at bl
        rcases zy bl with ⟨c2,bl⟩ | ⟨c2,bl⟩
        ·refine yJ X0 hC yY [1,1,2,1,0,0,1,2,0,1,2,1,0,0,1,2,0,1,1,2,1,0,0,1] [J1,J2,J3,J4,J5,J6,J7,J8] [1,2,4,5,6,7,8,9,10,11] (fun z : Int => kU n_ z = some mf) (fun z => z1G m_ l_ al k_ ay i_ ai n_ z) [(1,.d (eSl 1 false (eI .i64) l_)),(2,.own (.box (ze m_))),(4,.own (.box (.agg [I 0,I 0,eOs 1 true zw []]))),(5,.own (.box (.agg [I m_.Inputs,I m_.Outputs,eOs 1 false xJ al]))),(6,.d (I k_)),(7,.own (eOs 2 false F8_ ay)),(8,.d (I i_)),(9,.own (.box (F8_ ai))),(10,.d (I j8)),(11,.d (I n_))] [Ha (lnM (eI .i64) l_),Hq c2,Hh (.cut 0)] ?_ fun J9 lc => ?_
         ·rintro l4 bl
          unfold kU at bl
          obtain rfl := z7 bl
          exact yB X0 hC j9 (l4,w64 (n_ + 1)) hl3 []
         ·obtain ⟨d0,h3,bl⟩ := z8 bl
          rcases zy bl with ⟨c3,bl⟩ | ⟨c3,bl⟩
          ·exact yB X0 hC lc n_ bl [Hi (eI .i64) h3,Hq c3]
          ·exact yB X0 hC lc j8 bl [Hi (eI .i64) h3,Hq c3]
        ·obtain rfl := z7 bl
         obtain rfl := hl3
         exact yB X0 hC hJ7 j8 ah [Ha (lnM (eI .i64) l_),Hq c2]
     ·obtain rfl := z7 ah
      obtain rfl := hl2
      exact yB X0 hC ca ay ae [Hq c1]
  ·obtain rfl := z7 ae
   obtain rfl := hl1
   exact yB X0 hC ar al aa [Ha (lnM (eI .i64) l_),Hq c0]
def JU : Code := (Tryz.f59.body).getD .skip
def jS : yK := spF (α := z4) (ρ := z4) 59 (fun x => [ze x]) (fun r => ze r) (fun x => kV x) [] (VY)
theorem KR (hC : zr Tryz.prog ctr) (h0h : ctr.Has ZO) (h0A : ctr.Has Vl) : jS.Ok Tryz.prog := by
 refine zp ?_
 rintro m_ r0 aa
 try unfold kV at aa
 refine yO false [(2,some 34)] JU 7 Tryz.func59 fun E hE => ?_
 obtain ⟨r_,h0,aa⟩ := z8 aa
 obtain ⟨aj,h1,aa⟩ := z8 aa
 obtain rfl := z7 aa
 exact yE X0 hC hE [Hc h0h (x := m_) h0 (loC ze m_ <| loN),Hg (z4x h0A),Hm (shM (eI .i64) (eI .i64) r_),Hs (z4y h0A (x := (m_,r_)) h1 (loC ze m_ <| loC F6_ r_ <| loN)),Hm (shM (eI .i64) (eI .i64) r_)]
def Zp : Code := (Tryz.f16.body).getD .skip
def jU : yK := spF (α := z4 × z4) (ρ := Bool) 16 (fun x => [ze x.1,ze x.2]) (fun r => eB r) (fun x => uN x.1 x.2) [] (Uv)
abbrev z1P : List (Nat × T) := []
abbrev z1O (a_ : z4) (b_ : z4) (s_ : Int) : List (Nat × T) := [(2,.own (.box (ze a_))),(3,.own (.box (ze b_))),(5,.d (I s_))]
abbrev z1M (a_ : z4) (b_ : z4) (s_ : Int) (i_ : Int) : List (Nat × T) := [(2,.own (.box (ze a_))),(3,.own (.box (ze b_))),(5,.d (I s_)),(6,.d (I i_))]
abbrev z1N (a_ : z4) (b_ : z4) (s_ : Int) : List (Nat × T) := [(2,.own (.box (ze a_))),(3,.own (.box (ze b_))),(5,.d (I s_))]
theorem z5O (hC : zr Tryz.prog ctr) : jU.Ok Tryz.prog := by
 refine zp ?_
 rintro ⟨a_,b_⟩ r0 aa
 try unfold uN at aa
 refine yO true [(4,none)] Zp 75 Tryz.func16 fun E hE => ?_
 rcases zy aa with ⟨c0,aa⟩ | ⟨c0,aa⟩
 ·obtain rfl := z7 aa
  exact yE X0 hC hE (rpN 6 (Hq c0) (rpN 9 qT []))
 ·let Z0 : List HO := (rpN 6 (Hq c0) [])
  rcases zy aa with ⟨c1,aa⟩ | ⟨c1,aa⟩
  ·obtain rfl := z7 aa
   exact yE X0 hC hE (Z0 ++ (rpN 8 (Hq c1) [qT]))
  ·let Z1 : List HO := (Z0 ++ [Hq c1,Hq c1,Hq c1,Ha (lnM zw a_.Rows),Hq c1,Hq c1,Hq c1,Ha (lnM zw b_.Rows),Hq c1,Hq c1])
   rcases zy aa with ⟨c2,aa⟩ | ⟨c2,aa⟩
   ·obtain rfl := z7 aa
    exact yE X0 hC hE (Z1 ++ [Hq c2])
   ·refine yJ X0 hC Zp [1,1] [] [] (fun z : Unit => Vy = some r0) (fun z => z1P) [(2,.own (.box (ze a_))),(3,.own (.box (ze b_)))] (Z1 ++ [Hq c2,Hh (.cut 0)]) ?_ fun J1 ar => ?_
    ·rintro ⟨⟩ aa
     unfold Vy at aa
     obtain rfl := z7 aa
     exact yE X0 hC hE []
    ·obtain ⟨t2,ht2,aa⟩ := z8 aa
     refine yL X0 hC Zp [1,1,2,1,0] [J1] (fun s => kX a_ b_ s) (fun x => z1N a_ b_ x) 0 ht2  [] ?_
     rintro s_ m2 aw ae hl1 J2 av
     try unfold kX at ae
     let Z2 : List HO := [Ha (lnM zw a_.Rows)]
     rcases zy ae with ⟨c3,ae⟩ | ⟨c3,ae⟩
     ·refine yJ X0 hC Zp [1,1,2,1,0,0,1] [J1,J2] [2,3,5] (fun z : Unit => YU s_ = some aw) (fun z => z1O a_ b_ s_) [(2,.own (.box (ze a_))),(3,.own (.box (ze b_))),(5,.d (I s_))] (Z2 ++ [Hq c3,Hh (.cut 0)]) ?_ fun J3 bk => ?_
      ·rintro ⟨⟩ ae
       unfold YU at ae
       obtain rfl := z7 ae
       exact yB X0 hC av (w64 (s_ + 1)) hl1 []
      ·obtain ⟨am,h0,ae⟩ := z8 ae
       obtain ⟨bu,h1,ae⟩ := z8 ae
       let Z3 : List HO := [Hi zw h0,Ha (lnM F8_ am),Hi zw h1,Ha (lnM F8_ bu)]
       rcases zy ae with ⟨c4,ae⟩ | ⟨c4,ae⟩
       ·obtain rfl := z7 ae
        obtain rfl := hl1
        obtain rfl := z7 aa
        exact yE X0 hC hE (Z3 ++ [Hq c4])
       ·obtain ⟨t4,ht4,ae⟩ := z8 ae
        refine yL X0 hC Zp [1,1,2,1,0,0,1,2,0,1,1,0] [J1,J2,J3] (fun s => kW a_ b_ s_ s) (fun x => z1M a_ b_ s_ x) 0 ht4  (Z3 ++ [Hq c4]) ?_
        rintro i_ m4 cp ah hl2 J4 ca
        try unfold kW at ah
        obtain ⟨ky,h2,ah⟩ := z8 ah
        let Z4 : List HO := [Hi zw h2,Ha (lnM F8_ ky)]
        rcases zy ah with ⟨c5,ah⟩ | ⟨c5,ah⟩
        ·obtain ⟨l5,h3,ah⟩ := z8 ah
         obtain ⟨ai,h4,ah⟩ := z8 ah
         obtain ⟨l6,h5,ah⟩ := z8 ah
         obtain ⟨aq,h6,ah⟩ := z8 ah
         let Z5 : List HO := (Z4 ++ [Hq c5,Hi zw h3,Hi F8_ h4,Hi zw h5,Hi F8_ h6])
         rcases zy ah with ⟨c6,ah⟩ | ⟨c6,ah⟩
         ·obtain rfl := z7 ah
          obtain rfl := hl2
          obtain rfl := z7 ae
          obtain rfl := hl1
          obtain rfl := z7 aa
          exact yE X0 hC hE (Z5 ++ [Hq c6])
         ·obtain rfl := z7 ah
          exact yB X0 hC ca (w64 (i_ + 1)) hl2 (Z5 ++ [Hq c6])
        ·obtain rfl := z7 ah
         obtain rfl := hl2
         exact yB X0 hC bk () ae (Z4 ++ [Hq c5])
     ·obtain rfl := z7 ae
      obtain rfl := hl1
      exact yB X0 hC ar () aa (Z2 ++ [Hq c3])
def Zo : Code := (Tryz.f38.body).getD .skip
def jO : yK := spF (α := z4) (ρ := Bool) 38 (fun x => [ze x]) (fun r => eB r) (fun x => wS x) [] (VY)
abbrev UI (m_ : z4) : List (Nat × T) := [(1,.own (.box (ze m_)))]
abbrev UH (m_ : z4) (r_ : List (List Int) × List Bool) (s_ : Int) : List (Nat × T) := [(1,.own (.box (ze m_))),(4,.d (eSl 1 true eB r_.2)),(5,.d (I s_))]
theorem KP (hC : zr Tryz.prog ctr) (h0f : ctr.Has jT) (h1x : ctr.Has jS) (h04 : ctr.Has jU) : jO.Ok Tryz.prog := by
 refine zp ?_
 rintro m_ r0 aa
 try unfold wS at aa
 refine yO true [(2,none)] Zo 26 Tryz.func38 fun E hE => ?_
 obtain ⟨r_,h0,aa⟩ := z8 aa
 refine yJ X0 hC Zo [1,1] [] [1] (fun z : Unit => wu m_ = some r0) (fun z => UI m_) [(1,.own (.box (ze m_))),(4,.d (eSl 1 true eB r_.2))] [Hc h0f (x := m_) h0 (loC ze m_ <| loN),Hh (.cut 0)] ?_ fun J1 ar => ?_
 ·rintro ⟨⟩ aa
  unfold wu at aa
  obtain ⟨aj,h1,aa⟩ := z8 aa
  obtain ⟨bc,h2,aa⟩ := z8 aa
  obtain rfl := z7 aa
  exact yE X0 hC hE [Hc h1x (x := m_) h1 (loC ze m_ <| loN),Hc h04 (x := (m_,aj)) h2 (loC ze m_ <| loC ze aj <| loN)]
 ·obtain ⟨t2,ht2,aa⟩ := z8 aa
  refine yL X0 hC Zo [1,1,2,1,0] [J1] (fun s => wt r_ s) (fun x => UH m_ r_ x) 0 ht2  [] ?_
  rintro s_ m2 aw ae hl1 J2 av
  try unfold wt at ae
  rcases zy ae with ⟨c0,ae⟩ | ⟨c0,ae⟩
  ·obtain ⟨u_,h3,ae⟩ := z8 ae
   let Z0 : List HO := [Ha (lnM eB r_.2),Hq c0,Hi eB h3]
   rcases zy ae with ⟨c1,ae⟩ | ⟨c1,ae⟩
   ·obtain rfl := z7 ae
    obtain rfl := hl1
    obtain rfl := z7 aa
    exact yE X0 hC hE (Z0 ++ [Hq c1])
   ·obtain rfl := z7 ae
    exact yB X0 hC av (w64 (s_ + 1)) hl1 (Z0 ++ [Hq c1])
  ·obtain rfl := z7 ae
   obtain rfl := hl1
   exact yB X0 hC ar () aa [Ha (lnM eB r_.2),Hq c0]
def yH : Code := (Tryz.f43.body).getD .skip
def Xr : yK := spF (α := z4 × z4) (ρ := z4) 43 (fun x => [ze x.1,ze x.2]) (fun r => ze r) (fun x => Yc x.1 x.2) [] (Uv)
abbrev Kj (a_ : z4) (b_ : z4) (bp : List (List z5)) : List (Nat × T) := [(4,.own (.box (.agg [I 0,I 0,eOs 1 true zw []]))),(5,.own (.box (.agg [I a_.Inputs,I (mx a_.Outputs b_.Outputs),eOs 1 false zw bp])))]
abbrev Ki (a_ : z4) (b_ : z4) (s_ : Int) (da : List (List z5)) : List (Nat × T) := [(2,.own (.box (ze a_))),(3,.own (.box (ze b_))),(4,.own (.box (.agg [I 0,I 0,eOs 1 true zw []]))),(5,.own (.box (.agg [I a_.Inputs,I (mx a_.Outputs b_.Outputs),eOs 1 false zw da]))),(7,.d (I s_))]
abbrev Kh (a_ : z4) (b_ : z4) (bf : List (List z5)) (s_ : Int) (row : List z5) : List (Nat × T) := [(2,.own (.box (ze a_))),(3,.own (.box (ze b_))),(4,.own (.box (.agg [I 0,I 0,eOs 1 true zw []]))),(5,.own (.box (.agg [I a_.Inputs,I (mx a_.Outputs b_.Outputs),eOs 1 false zw bf]))),(7,.d (I s_)),(8,.own (eOs 2 false F8_ row))]
abbrev Kg (a_ : z4) (b_ : z4) (bf : List (List z5)) (s_ : Int) (ay : List z5) (i_ : Int) (ai : z5) (dz : Int) : List (Nat × T) := [(2,.own (.box (ze a_))),(3,.own (.box (ze b_))),(4,.own (.box (.agg [I 0,I 0,eOs 1 true zw []]))),(5,.own (.box (.agg [I a_.Inputs,I (mx a_.Outputs b_.Outputs),eOs 1 false zw bf]))),(7,.d (I s_)),(8,.own (eOs 2 false F8_ ay)),(9,.d (I i_)),(10,.own (.box (.agg [I dz,I ai.Out])))]
abbrev Ke (a_ : z4) (b_ : z4) (bf : List (List z5)) (s_ : Int) (ay : List z5) (i_ : Int) : List (Nat × T) := [(2,.own (.box (ze a_))),(3,.own (.box (ze b_))),(4,.own (.box (.agg [I 0,I 0,eOs 1 true zw []]))),(5,.own (.box (.agg [I a_.Inputs,I (mx a_.Outputs b_.Outputs),eOs 1 false zw bf]))),(7,.d (I s_)),(8,.own (eOs 2 false F8_ ay)),(9,.d (I i_))]
abbrev Kf (a_ : z4) (b_ : z4) (bf : List (List z5)) (s_ : Int) : List (Nat × T) := [(2,.own (.box (ze a_))),(3,.own (.box (ze b_))),(4,.own (.box (.agg [I 0,I 0,eOs 1 true zw []]))),(5,.own (.box (.agg [I a_.Inputs,I (mx a_.Outputs b_.Outputs),eOs 1 false zw bf]))),(7,.d (I s_))]
abbrev Kk (a_ : z4) (b_ : z4) (cm : List (List z5)) : List (Nat × T) := [(2,.own (.box (ze a_))),(3,.own (.box (ze b_))),(4,.own (.box (.agg [I 0,I 0,eOs 1 true zw []]))),(5,.own (.box (.agg [I a_.Inputs,I (mx a_.Outputs b_.Outputs),eOs 1 false zw cm])))]
abbrev Kd (a_ : z4) (b_ : z4) (cr : List (List z5)) (ax : Int) : List (Nat × T) := [(2,.own (.box (ze a_))),(3,.own (.box (ze b_))),(4,.own (.box (.agg [I 0,I 0,eOs 1 true zw []]))),(5,.own (.box (.agg [I a_.Inputs,I (mx a_.Outputs b_.Outputs),eOs 1 false zw cr]))),(6,.d (I ax))]
def zG : XH Tryz.prog := ((z93 y4 (.inl 75) [74]).or X0)
theorem z3R (hC : zr Tryz.prog ctr) : Xr.Ok Tryz.prog := by
 refine zp ?_
 rintro ⟨a_,b_⟩ r0 aa
 try unfold Yc at aa
 refine yO false [(4,some 34)] yH 78 Tryz.func43 fun E hE => ?_
 refine yJ zG hC yH [1,1] [] [2,3,4,5] (fun z : List (List z5) => kG a_ b_ z = some r0) (fun z => Kk a_ b_ z) [(2,.own (.box (ze a_))),(3,.own (.box (ze b_))),(4,.own (.box (.agg [I 0,I 0,eOs 1 true zw []]))),(5,.own (.box (.agg [I a_.Inputs,I (mx a_.Outputs b_.Outputs),eOs 1 true zw []])))] [Hh (.cut 2)] ?_ fun J1 ar => ?_
 ·rintro cm aa
  unfold kG at aa
  refine yJ zG hC yH [1,1,1] [] [4,5] (fun z : List (List z5) => kF a_ b_ z = some r0) (fun z => Kj a_ b_ z) [(2,.own (.box (ze a_))),(3,.own (.box (ze b_))),(4,.own (.box (.agg [I 0,I 0,eOs 1 true zw []]))),(5,.own (.box (.agg [I a_.Inputs,I (mx a_.Outputs b_.Outputs),eOs 1 false zw cm])))] [Hh (.cut 0)] ?_ fun J2 av => ?_
  ·rintro bp aa
   unfold kF at aa
   obtain rfl := z7 aa
   exact yE zG hC hE [Hm (shM zw zw bp)]
  ·obtain ⟨t3,ht3,aa⟩ := z8 aa
   refine yL zG hC yH [1,1,1,2,1,0] [J2] (fun s => xU a_ b_ s.1 s.2) (fun x => Kf a_ b_ x.1 x.2) (cm,0) ht3  [] ?_
   rintro ⟨bf,s_⟩ m3 aw ae hl1 J3 bk
   try unfold xU at ae
   let Z0 : List HO := [Ha (lnM zw b_.Rows)]
   rcases zy ae with ⟨c0,ae⟩ | ⟨c0,ae⟩
   ·refine yJ zG hC yH [1,1,1,2,1,0,0,1] [J2,J3] [2,3,4,5,7] (fun z : List (List z5) => kE s_ z = some aw) (fun z => Ki a_ b_ s_ z) [(2,.own (.box (ze a_))),(3,.own (.box (ze b_))),(4,.own (.box (.agg [I 0,I 0,eOs 1 true zw []]))),(5,.own (.box (.agg [I a_.Inputs,I (mx a_.Outputs b_.Outputs),eOs 1 false zw bf]))),(7,.d (I s_))] (Z0 ++ [Hq c0,Hh (.cut 0)]) ?_ fun J4 ca => ?_
    ·rintro da ae
     unfold kE at ae
     obtain rfl := z7 ae
     exact yB zG hC bk (da,w64 (s_ + 1)) hl1 []
    ·refine yJ zG hC yH [1,1,1,2,1,0,0,1,2,0,1] [J2,J3,J4] [2,3,4,5,7,8] (fun z : List z5 => kD bf s_ z = some aw) (fun z => Kh a_ b_ bf s_ z) [(2,.own (.box (ze a_))),(3,.own (.box (ze b_))),(4,.own (.box (.agg [I 0,I 0,eOs 1 true zw []]))),(5,.own (.box (.agg [I a_.Inputs,I (mx a_.Outputs b_.Outputs),eOs 1 false zw bf]))),(7,.d (I s_)),(8,.own (eOs 2 true F8_ []))] [Hh (.cut 1)] ?_ fun J5 cb => ?_
     ·rintro row ae
      unfold kD at ae
      obtain ⟨g0,ae⟩ := gdE ae
      exact yB zG hC ca (bf ++ [row]) ae [Hm (shM xJ zw ([row])),Hn (dM zw [row]),Hn (aL zw zw g0),Hl (aM zw bf [row])]
     ·obtain ⟨t6,ht6,ae⟩ := z8 ae
      refine yLx zG hC yH [1,1,1,2,1,0,0,1,2,0,1,2,1,0] [J2,J3,J4,J5] (fun s => xT a_ b_ s_ s.1 s.2) (fun x => Ke a_ b_ bf s_ x.1 x.2) (([] : List z5),0) ht6 [(2,.own (.box (ze a_))),(3,.own (.box (ze b_))),(4,.own (.box (.agg [I 0,I 0,eOs 1 true zw []]))),(5,.own (.box (.agg [I a_.Inputs,I (mx a_.Outputs b_.Outputs),eOs 1 false zw bf]))),(7,.d (I s_)),(8,.own (eOs 2 true F8_ [])),(9,.d (I 0))] inferInstance [] ?_
      rintro ⟨ay,i_⟩ m6 cp ah hl2 J6 dr
      try unfold xT at ah
      rcases zy ah with ⟨c1,ah⟩ | ⟨c1,ah⟩
      ·obtain ⟨am,h0,ah⟩ := z8 ah
       obtain ⟨ai,h1,ah⟩ := z8 ah
       refine yJ zG hC yH [1,1,1,2,1,0,0,1,2,0,1,2,1,0,0,1,0,0,1] [J2,J3,J4,J5,J6] [2,3,4,5,7,8,9,10] (fun z : Int => uu ay i_ ai z = some cp) (fun z => Kg a_ b_ bf s_ ay i_ ai z) [(2,.own (.box (ze a_))),(3,.own (.box (ze b_))),(4,.own (.box (.agg [I 0,I 0,eOs 1 true zw []]))),(5,.own (.box (.agg [I a_.Inputs,I (mx a_.Outputs b_.Outputs),eOs 1 false zw bf]))),(7,.d (I s_)),(8,.own (eOs 2 false F8_ ay)),(9,.d (I i_)),(10,.own (.box (F8_ ai)))] [Hq c1,Hi zw h0,Hi F8_ h1,Hh (.cut 0)] ?_ fun J7 hJ7 => ?_
       ·rintro dz ah
        unfold uu at ah
        obtain ⟨g1,ah⟩ := gdE ah
        obtain rfl := z7 ah
        exact yB zG hC dr ((ay ++ [(z5.mk dz ai.Out)]),w64 (i_ + 1)) hl2 [Hq (dM F8_ [(z5.mk dz ai.Out)]),Hn (dM F8_ [(z5.mk dz ai.Out)]),Hn (aL F8_ F8_ g1),Hl (aM F8_ ay [(z5.mk dz ai.Out)])]
       ·rcases zy ah with ⟨c2,ah⟩ | ⟨c2,ah⟩
        ·exact yB zG hC hJ7 (w64 (ai.To + ((a_.Rows.length : Nat) : Int))) ah [Hq c2,Ha (lnM zw a_.Rows)]
        ·exact yB zG hC hJ7 ai.To ah [Hq c2]
      ·obtain rfl := z7 ah
       obtain rfl := hl2
       exact yB zG hC cb ay ae [Hq c1]
   ·obtain rfl := z7 ae
    obtain rfl := hl1
    exact yB zG hC av bf aa (Z0 ++ [Hq c0])
 ·obtain ⟨t8,ht8,aa⟩ := z8 aa
  refine yLx zG hC yH [1,1,2,1,0] [J1] (fun s => xS a_ s.1 s.2) (fun x => Kd a_ b_ x.1 x.2) (([] : List (List z5)),0) ht8 [(2,.own (.box (ze a_))),(3,.own (.box (ze b_))),(4,.own (.box (.agg [I 0,I 0,eOs 1 true zw []]))),(5,.own (.box (.agg [I a_.Inputs,I (mx a_.Outputs b_.Outputs),eOs 1 true zw []]))),(6,.d (I 0))] inferInstance [] ?_
  rintro ⟨cr,ax⟩ m8 aw ae hl1 J8 j9
  try unfold xS at ae
  let Z1 : List HO := [Ha (lnM zw a_.Rows)]
  rcases zy ae with ⟨c3,ae⟩ | ⟨c3,ae⟩
  ·obtain ⟨bu,h2,ae⟩ := z8 ae
   obtain ⟨g2,ae⟩ := gdE ae
   obtain rfl := z7 ae
   exact yB zG hC j9 ((cr ++ [bu]),w64 (ax + 1)) hl1 (Z1 ++ [Hq c3,Hi zw h2,Hq (dM zw [bu]),Hn (dM zw [bu]),Hn (aL zw zw g2),Hl (aM zw cr [bu])])
  ·obtain rfl := z7 ae
   obtain rfl := hl1
   exact yB zG hC ar cr aa (Z1 ++ [Hq c3])
def w7 : Code := (Tryz.f22.body).getD .skip
def Xq : yK := spF (α := z4 × z4) (ρ := List Int × Bool) 22 (fun x => [ze x.1,ze x.2]) (fun r => .tup [F6_ r.1,eB r.2]) (fun x => ut x.1 x.2) [] (Uv)
abbrev Kb (w_ : List Int) : List (Nat × T) := [(10,.own (eOs 1 false (eI .i64) w_))]
abbrev Ka (r_ : z4) (s_ : Int) (t_ : Int) (ba : Int) (bz : List Int) (aj : List (List Bool)) (i_ : Int) (mz : Int) (m0 : Bool) (m7 : Bool) (nb : Bool) (nc : Bool) (nd : Bool) : List (Nat × T) := [(6,.own (.box (ze r_))),(7,.d (I s_)),(8,.d (I t_)),(9,.d (I (w64 (ba - 1)))),(10,.own (eOs 1 false (eI .i64) bz)),(11,.own (eOs 1 false (eOs 1 true eB) aj)),(12,.d (I i_)),(82,.d (I mz)),(83,.d (B m0)),(84,.d (B m7)),(88,.d (B nb)),(89,.d (B nc)),(99,.d (B nd))]
abbrev K8 (r_ : z4) (s_ : Int) (t_ : Int) (ba : Int) (bz : List Int) (aj : List (List Bool)) (i_ : Int) : List (Nat × T) := [(6,.own (.box (ze r_))),(7,.d (I s_)),(8,.d (I t_)),(9,.d (I (w64 (ba - 1)))),(10,.own (eOs 1 false (eI .i64) bz)),(11,.own (eOs 1 false (eOs 1 true eB) aj)),(12,.d (I i_))]
abbrev K9 (r_ : z4) (s_ : Int) (t_ : Int) (ba : Int) (bz : List Int) : List (Nat × T) := [(6,.own (.box (ze r_))),(7,.d (I s_)),(8,.d (I t_)),(9,.d (I ba)),(10,.own (eOs 1 false (eI .i64) bz))]
abbrev Kc (a_ : z4) (r_ : z4) (n_ : Int) : List (Nat × T) := [(6,.own (.box (ze r_))),(7,.d (I 0)),(8,.d (I ((a_.Rows.length : Nat) : Int))),(9,.d (I n_))]
abbrev K7 (a_ : z4) (r_ : z4) (d9 : Int) : List (Nat × T) := [(6,.own (.box (ze r_))),(7,.d (I 0)),(8,.d (I ((a_.Rows.length : Nat) : Int))),(9,.d (I d9))]
theorem z3Q (hC : zr Tryz.prog ctr) (h1y : ctr.Has Xr) (h0c : ctr.Has jR) : Xq.Ok Tryz.prog := by
 refine zp ?_
 rintro ⟨a_,b_⟩ r0 aa
 try unfold ut at aa
 refine yO false [(4,none),(5,none)] w7 110 Tryz.func22 fun E hE => ?_
 obtain ⟨r_,h0,aa⟩ := z8 aa
 refine yJ X0 hC w7 [1,1,1,1] [] [6,7,8,9] (fun z : Int => kC a_ r_ z = some r0) (fun z => Kc a_ r_ z) [(6,.own (.box (ze r_))),(7,.d (I 0)),(8,.d (I ((a_.Rows.length : Nat) : Int))),(9,.d (I 0))] [Hc h1y (x := (a_,b_)) h0 (loC ze a_ <| loC ze b_ <| loN),Ha (lnM zw a_.Rows),Hh (.cut 1)] ?_ fun J1 ar => ?_
 ·rintro n_ aa
  unfold kC at aa
  let Z0 : List HO := [Ha (lnM zw r_.Rows)]
  rcases zy aa with ⟨c0,aa⟩ | ⟨c0,aa⟩
  ·obtain rfl := z7 aa
   exact yEx X0 hC hE (Z0 ++ [Hq c0,Hm (shM (eI .i64) (eI .i64) [])]) (.tup [eSl 1 true (eI .i64) [],B false]) (show LeV (.tup [eSl 1 true (eI .i64) [],B false]) (.tup [eSl 1 false (eI .i64) ([] : List Int),B false]) from inferInstance)
  ·refine yJ X0 hC w7 [1,1,1,1,1,1,1] [] [10] (fun z : List Int => kB z = some r0) (fun z => Kb z) [(6,.own (.box (ze r_))),(7,.d (I 0)),(8,.d (I ((a_.Rows.length : Nat) : Int))),(9,.d (I n_)),(10,.own (eOs 1 true (eI .i64) []))] (Z0 ++ [Hq c0,Hh (.cut 1)]) ?_ fun J2 av => ?_
   ·rintro w_ aa
    unfold kB at aa
    obtain rfl := z7 aa
    exact yE X0 hC hE [Hm (shM (eI .i64) (eI .i64) w_)]
   ·obtain ⟨t3,ht3,aa⟩ := z8 aa
    refine yLx X0 hC w7 [1,1,1,1,1,1,1,2,0] [J2] (fun s => kA r_ s.1 s.2.1 s.2.2.1 s.2.2.2) (fun x => K9 r_ x.1 x.2.1 x.2.2.1 x.2.2.2) (0,((a_.Rows.length : Nat) : Int),n_,([] : List Int)) ht3 [(6,.own (.box (ze r_))),(7,.d (I 0)),(8,.d (I ((a_.Rows.length : Nat) : Int))),(9,.d (I n_)),(10,.own (eOs 1 true (eI .i64) []))] inferInstance [] ?_
    rintro ⟨s_,t_,ba,bz⟩ m3 aw ae hl1 J3 bk
    try unfold kA at ae
    rcases zy ae with ⟨c1,ae⟩ | ⟨c1,ae⟩
    ·obtain ⟨aj,h1,ae⟩ := z8 ae
     obtain ⟨t4,ht4,ae⟩ := z8 ae
     refine yL X0 hC w7 [1,1,1,1,1,1,1,2,0,0,1,0,1,1,1,0] [J2,J3] (fun s => ur r_ s_ t_ ba bz aj s) (fun x => K8 r_ s_ t_ ba bz aj x) 0 ht4  [Hq c1,Hc h0c (x := (r_,w64 (ba - 1))) h1 (loC ze r_ <| loC (eI .i64) (w64 (ba - 1)) <| loN)] ?_
     rintro i_ m4 cp ah hl2 J4 ca
     try unfold ur at ah
     rcases zy ah with ⟨c2,ah⟩ | ⟨c2,ah⟩
     ·refine yJ X0 hC w7 [1,1,1,1,1,1,1,2,0,0,1,0,1,1,1,0,0,1] [J2,J3,J4] [6,7,8,9,10,11,12,82,83,84,88,89,99] (fun z : Int × Bool × Bool × Bool × Bool × Bool => wT i_ z.1 z.2.1 z.2.2.1 z.2.2.2.1 z.2.2.2.2.1 z.2.2.2.2.2 = some cp) (fun z => Ka r_ s_ t_ ba bz aj i_ z.1 z.2.1 z.2.2.1 z.2.2.2.1 z.2.2.2.2.1 z.2.2.2.2.2) [(6,.own (.box (ze r_))),(7,.d (I s_)),(8,.d (I t_)),(9,.d (I (w64 (ba - 1)))),(10,.own (eOs 1 false (eI .i64) bz)),(11,.own (eOs 1 false (eOs 1 true eB) aj)),(12,.d (I i_))] [Hq c2,Hh (.cut 0)] ?_ fun J5 cb => ?_
      ·rintro ⟨mz,m0,m7,nb,nc,nd⟩ ah
       unfold wT at ah
       obtain rfl := z7 ah
       exact yB X0 hC ca (w64 (i_ + 1)) hl2 []
      ·obtain ⟨am,h2,ah⟩ := z8 ah
       obtain ⟨ai,h3,ah⟩ := z8 ah
       obtain ⟨bu,h4,ah⟩ := z8 ah
       obtain ⟨aq,h5,ah⟩ := z8 ah
       let Z1 : List HO := [Hi zw h2,Hi F8_ h3,Hi zw h4,Hi F8_ h5]
       rcases zy ah with ⟨c3,ah⟩ | ⟨c3,ah⟩
       ·obtain ⟨g0,ah⟩ := gdE ah
        obtain rfl := z7 ah
        obtain rfl := hl2
        obtain rfl := z7 ae
        exact yB X0 hC bk (ai.To,aq.To,w64 (ba - 1),(bz ++ [i_])) hl1 (Z1 ++ (rpN 8 (Hq c3) [qT,Hq (dM (eI .i64) [i_]),Hn (dM (eI .i64) [i_]),Hn (aL (eI .i64) (eI .i64) g0),Hl (aM (eI .i64) bz [i_])]))
       ·let Z2 : List HO := (Z1 ++ (rpN 4 (Hq c3) []))
        rcases zy ah with ⟨c4,ah⟩ | ⟨c4,ah⟩
        ·let Z3 : List HO := (Z2 ++ [Hq c4,Hq c4,Hq c4,Hq c3,Hq c4,Hq c3])
         rcases zy ah with ⟨c5,ah⟩ | ⟨c5,ah⟩
         ·obtain ⟨dx,h6,ah⟩ := z8 ah
          obtain ⟨jw,h7,ah⟩ := z8 ah
          let Z4 : List HO := (Z3 ++ (rpN 4 (Hq c5) [Hn (iL (eOs 1 true eB) h6),Hq c5,Hs (iM (eOs 1 true eB) h6),Hq c5,Hq c5,Hq c5,Hs (iM (eOs 1 true eB) h6),Hn (iL eB h7),Hq c5,Hs (iM (eOs 1 true eB) h6),Hs (iM eB h7),Hq c3,Hq c5,Hq c3]))
          rcases zy ah with ⟨c6,ah⟩ | ⟨c6,ah⟩
          ·obtain ⟨g1,ah⟩ := gdE ah
           obtain rfl := z7 ah
           obtain rfl := hl2
           obtain rfl := z7 ae
           exact yB X0 hC bk (ai.To,aq.To,w64 (ba - 1),(bz ++ [i_])) hl1 (Z4 ++ [Hq c6,Hq (dM (eI .i64) [i_]),Hn (dM (eI .i64) [i_]),Hn (aL (eI .i64) (eI .i64) g1),Hl (aM (eI .i64) bz [i_])])
          ·exact yB X0 hC cb (ai.To,decide (ai.To ≥ 0),decide (ai.To ≥ 0),decide (aq.To ≥ 0),decide (aq.To ≥ 0),jw) ah (Z4 ++ [Hq c6])
         ·exact yB X0 hC cb (ai.To,decide (ai.To ≥ 0),decide (ai.To ≥ 0),decide (aq.To ≥ 0),decide (aq.To ≥ 0),false) ah (Z3 ++ (rpN 9 (Hq c5) [Hq c3,Hq c5,Hq c3,qF]))
        ·exact yB X0 hC cb (ai.To,decide (ai.To ≥ 0),decide (ai.To ≥ 0),false,false,false) ah (Z2 ++ (Hq c4 :: Hq c4 :: Hq c4 :: Hq c3 :: Hq c4 :: Hq c3 :: (rpN 9 qF [Hq c3,qF,Hq c3,qF])))
     ·obtain rfl := z7 ah
      obtain rfl := hl2
      obtain rfl := z7 ae
      exact yB X0 hC bk (s_,t_,w64 (ba - 1),bz) hl1 [Hq c2]
    ·obtain rfl := z7 ae
     obtain rfl := hl1
     exact yB X0 hC av bz aa [Hq c1]
 ·obtain ⟨t6,ht6,aa⟩ := z8 aa
  refine yL X0 hC w7 [1,1,1,1,2,0] [J1] (fun s => uq a_ r_ s) (fun x => K7 a_ r_ x) 0 ht6  [] ?_
  rintro d9 m6 aw ae hl1 J6 dr
  try unfold uq at ae
  let Z5 : List HO := [Ha (lnM zw r_.Rows)]
  rcases zy ae with ⟨c7,ae⟩ | ⟨c7,ae⟩
  ·obtain ⟨bc,h8,ae⟩ := z8 ae
   obtain ⟨dy,h9,ae⟩ := z8 ae
   obtain ⟨lb,h10,ae⟩ := z8 ae
   let Z6 : List HO := (Z5 ++ [Hq c7,Hq c7,Hq c7,Hc h0c (x := (r_,d9)) h8 (loC ze r_ <| loC (eI .i64) d9 <| loN),Hq c7,Hq c7,Hn (iL (eOs 1 true eB) h9),Hq c7,Hs (iM (eOs 1 true eB) h9),Hq c7,Hq c7,Hs (iM (eOs 1 true eB) h9),Hn (iL eB h10),Hq c7,Hs (iM (eOs 1 true eB) h9),Hs (iM eB h10),Hq c7,Hq c7])
   rcases zy ae with ⟨c8,ae⟩ | ⟨c8,ae⟩
   ·obtain rfl := z7 ae
    exact yB X0 hC dr (w64 (d9 + 1)) hl1 (Z6 ++ [Hq c8])
   ·obtain rfl := z7 ae
    obtain rfl := hl1
    exact yB X0 hC ar d9 aa (Z6 ++ [Hq c8])
  ·obtain rfl := z7 ae
   obtain rfl := hl1
   exact yB X0 hC ar d9 aa (Z5 ++ (rpN 11 (Hq c7) [qF]))
def vn : Code := (Tryz.f13.body).getD .skip
def Vi : yK := spF (α := z4 × List (List Int) × Int) (ρ := z4 × Int) 13 (fun x => [ze x.1,qH x.2.1,(eI .i64) x.2.2]) (fun r => .tup [zbO r.1,(eI .i64) r.2]) (fun x => WR x.1 x.2.1 x.2.2) [] (z72)
abbrev z1w (gk : Int) (fz : Int) (gx : List (List z5)) (n_ : Int) : List (Nat × T) := [(6,.own (.box (.agg [I 0,I 0,eOs 1 true zw []]))),(8,.own (.box (.agg [I gk,I fz,eSl 1 false KL gx]))),(9,.d (I n_))]
abbrev z1v (m_ : z4) (l_ : List (List Int)) (states : Int) (s_ : Int) (eg : Int) (du : Int) (fm : List (List z5)) (d9 : Int) : List (Nat × T) := [(1,.d (eSl 1 false F6_ l_)),(2,.d (I states)),(3,.own (.box (ze m_))),(6,.own (.box (.agg [I 0,I 0,eOs 1 true zw []]))),(8,.own (.box (.agg [I eg,I du,eSl 1 false KL fm]))),(9,.d (I d9)),(10,.d (I s_))]
abbrev z1u (m_ : z4) (l_ : List (List Int)) (states : Int) (s_ : Int) (k_ : Int) (em : Int) (dv : Int) (fp : List (List z5)) (l7 : Int) : List (Nat × T) := [(1,.d (eSl 1 false F6_ l_)),(2,.d (I states)),(3,.own (.box (ze m_))),(6,.own (.box (.agg [I 0,I 0,eOs 1 true zw []]))),(8,.own (.box (.agg [I em,I dv,eSl 1 false KL fp]))),(9,.d (I l7)),(10,.d (I s_)),(11,.d (I k_))]
abbrev z1t (m_ : z4) (l_ : List (List Int)) (states : Int) (s_ : Int) (fe : Int) (k_ : Int) (aj : z4) (bt : Bool) (ep : Int) (dw : Int) (fq : List (List z5)) : List (Nat × T) := [(1,.d (eSl 1 false F6_ l_)),(2,.d (I states)),(3,.own (.box (ze m_))),(6,.own (.box (.agg [I 0,I 0,eOs 1 true zw []]))),(8,.own (.box (.agg [I ep,I dw,eSl 1 false KL fq]))),(9,.d (I fe)),(10,.d (I s_)),(11,.d (I k_)),(44,.d (zbO aj)),(45,.d (B bt)),(46,.d (B (!bt)))]
abbrev z1r (m_ : z4) (l_ : List (List Int)) (states : Int) (s_ : Int) (bi : Int) (bg : Int) (bn : List (List z5)) (fe : Int) (k_ : Int) : List (Nat × T) := [(1,.d (eSl 1 false F6_ l_)),(2,.d (I states)),(3,.own (.box (ze m_))),(6,.own (.box (.agg [I 0,I 0,eOs 1 true zw []]))),(8,.own (.box (.agg [I bi,I bg,eSl 1 false KL bn]))),(9,.d (I fe)),(10,.d (I s_)),(11,.d (I k_))]
abbrev z1s (m_ : z4) (l_ : List (List Int)) (states : Int) (cq : Int) (ce : Int) (dc : List (List z5)) (ba : Int) (s_ : Int) : List (Nat × T) := [(1,.d (eSl 1 false F6_ l_)),(2,.d (I states)),(3,.own (.box (ze m_))),(6,.own (.box (.agg [I 0,I 0,eOs 1 true zw []]))),(8,.own (.box (.agg [I cq,I ce,eSl 1 false KL dc]))),(9,.d (I ba)),(10,.d (I s_))]
theorem z5J (hC : zr Tryz.prog ctr) (h09 : ctr.Has ug) (h1z : ctr.Has Wo) (h1A : ctr.Has Xp) (h1B : ctr.Has jO) (h1C : ctr.Has Xq) : Vi.Ok Tryz.prog := by
 refine zp ?_
 rintro ⟨m_,l_,states⟩ r0 aa
 try unfold WR at aa
 refine yO false [(6,some 34),(7,none)] vn 63 Tryz.func13 fun E hE => ?_
 refine yJ X0 hC vn [1,1,1] [] [6,8,9] (fun z : Int × Int × List (List z5) × Int => Vv z.1 z.2.1 z.2.2.1 z.2.2.2 = some r0) (fun z => z1w z.1 z.2.1 z.2.2.1 z.2.2.2) [(1,.d (eSl 1 false F6_ l_)),(2,.d (I states)),(3,.own (.box (ze m_))),(6,.own (.box (.agg [I 0,I 0,eOs 1 true zw []]))),(8,.own (.box (.agg [I 0,I 0,eSl 1 true zw []]))),(9,.d (I 0))] [Hh (.v 4 [8]),Hm (shM zw zw []),Hh (.cut 1)] ?_ fun J1 ar => ?_
 ·rintro ⟨gk,fz,gx,n_⟩ aa
  unfold Vv at aa
  obtain rfl := z7 aa
  exact yE X0 hC hE []
 ·obtain ⟨t2,ht2,aa⟩ := z8 aa
  refine yLx X0 hC vn [1,1,1,2,1,0] [J1] (fun s => xE m_ l_ states s.1 s.2.1 s.2.2.1 s.2.2.2.1 s.2.2.2.2) (fun x => z1s m_ l_ states x.1 x.2.1 x.2.2.1 x.2.2.2.1 x.2.2.2.2) (0,0,([] : List (List z5)),0,1) ht2 [(1,.d (eSl 1 false F6_ l_)),(2,.d (I states)),(3,.own (.box (ze m_))),(6,.own (.box (.agg [I 0,I 0,eOs 1 true zw []]))),(8,.own (.box (.agg [I 0,I 0,eSl 1 true KL []]))),(9,.d (I 0)),(10,.d (I 1))] inferInstance [] ?_
  rintro ⟨cq,ce,dc,ba,s_⟩ m2 aw ae hl1 J2 av
  try unfold xE at ae
  rcases zy ae with ⟨c0,ae⟩ | ⟨c0,ae⟩
  ·refine yJ X0 hC vn [1,1,1,2,1,0,0,1] [J1,J2] [1,2,3,6,8,9,10] (fun z : Int × Int × List (List z5) × Int => YO s_ z.1 z.2.1 z.2.2.1 z.2.2.2 = some aw) (fun z => z1v m_ l_ states s_ z.1 z.2.1 z.2.2.1 z.2.2.2) [(1,.d (eSl 1 false F6_ l_)),(2,.d (I states)),(3,.own (.box (ze m_))),(6,.own (.box (.agg [I 0,I 0,eOs 1 true zw []]))),(8,.own (.box (.agg [I cq,I ce,eSl 1 false KL dc]))),(9,.d (I ba)),(10,.d (I s_))] [Hq c0,Hh (.cut 0)] ?_ fun J3 bk => ?_
   ·rintro ⟨eg,du,fm,d9⟩ ae
    unfold YO at ae
    obtain rfl := z7 ae
    exact yB X0 hC av (eg,du,fm,d9,w64 (s_ + 1)) hl1 []
   ·obtain ⟨t4,ht4,ae⟩ := z8 ae
    refine yL X0 hC vn [1,1,1,2,1,0,0,1,2,0,1,0] [J1,J2,J3] (fun s => xD m_ l_ s_ s.1 s.2.1 s.2.2.1 s.2.2.2.1 s.2.2.2.2) (fun x => z1r m_ l_ states s_ x.1 x.2.1 x.2.2.1 x.2.2.2.1 x.2.2.2.2) (cq,ce,dc,ba,0) ht4  [] ?_
    rintro ⟨bi,bg,bn,fe,k_⟩ m4 cp ah hl2 J4 ca
    try unfold xD at ah
    obtain ⟨r_,h0,ah⟩ := z8 ah
    let Z0 : List HO := [Hc h09 (x := (m_,s_)) h0 (loC ze m_ <| loC (eI .i64) s_ <| loN)]
    rcases zy ah with ⟨c1,ah⟩ | ⟨c1,ah⟩
    ·refine yJ X0 hC vn [1,1,1,2,1,0,0,1,2,0,1,0,0,1] [J1,J2,J3,J4] [1,2,3,6,8,9,10,11] (fun z : Int × Int × List (List z5) × Int => xF k_ z.1 z.2.1 z.2.2.1 z.2.2.2 = some cp) (fun z => z1u m_ l_ states s_ k_ z.1 z.2.1 z.2.2.1 z.2.2.2) [(1,.d (eSl 1 false F6_ l_)),(2,.d (I states)),(3,.own (.box (ze m_))),(6,.own (.box (.agg [I 0,I 0,eOs 1 true zw []]))),(8,.own (.box (.agg [I bi,I bg,eSl 1 false KL bn]))),(9,.d (I fe)),(10,.d (I s_)),(11,.d (I k_))] (Z0 ++ [Hq c1,Hh (.cut 0)]) ?_ fun J5 cb => ?_
     ·rintro ⟨em,dv,fp,l7⟩ ah
      unfold xF at ah
      obtain rfl := z7 ah
      exact yB X0 hC ca (em,dv,fp,l7,w64 (k_ + 1)) hl2 []
     ·obtain ⟨aj,h1,ah⟩ := z8 ah
      obtain ⟨bc,h2,ah⟩ := z8 ah
      let Z1 : List HO := [Hc h1z (x := (m_,s_,k_)) h1 (loC ze m_ <| loC (eI .i64) s_ <| loC (eI .i64) k_ <| loN),Hc h1A (x := (m_,aj,l_)) h2 (loC ze m_ <| loC zbO aj <| loC qH l_ <| loN)]
      rcases zy ah with ⟨c2,ah⟩ | ⟨c2,ah⟩
      ·exact yB X0 hC cb (bi,bg,bn,fe) ah (Z1 ++ (rpN 4 (Hq c2) [qT]))
      ·obtain ⟨bt,h3,ah⟩ := z8 ah
       let Z2 : List HO := (Z1 ++ [Hq c2,Hq c2,Hc h1B (x := aj) h3 (loC zbO aj <| loN),Hq c2,Hq c2])
       rcases zy ah with ⟨c3,ah⟩ | ⟨c3,ah⟩
       ·exact yB X0 hC cb (bi,bg,bn,fe) ah (Z2 ++ [Hq c3])
       ·obtain ⟨gc,h4,ah⟩ := z8 ah
        let Z3 : List HO := (Z2 ++ [Hq c3,Hc h1C (x := (m_,aj)) h4 (loC ze m_ <| loC zbO aj <| loN)])
        rcases zy ah with ⟨c4,ah⟩ | ⟨c4,ah⟩
        ·exact yB X0 hC cb (bi,bg,bn,fe) ah (Z3 ++ [Hq c4])
        ·refine yJ X0 hC vn [1,1,1,2,1,0,0,1,2,0,1,0,0,1,2,0,1,1,1,1] [J1,J2,J3,J4,J5] [1,2,3,6,8,9,10,11,44,45,46] (fun z : Int × Int × List (List z5) => kf fe k_ z.1 z.2.1 z.2.2 = some cp) (fun z => z1t m_ l_ states s_ fe k_ aj bt z.1 z.2.1 z.2.2) [(1,.d (eSl 1 false F6_ l_)),(2,.d (I states)),(3,.own (.box (ze m_))),(6,.own (.box (.agg [I 0,I 0,eOs 1 true zw []]))),(8,.own (.box (.agg [I bi,I bg,eSl 1 false KL bn]))),(9,.d (I fe)),(10,.d (I s_)),(11,.d (I k_)),(12,.own (.box (zbO aj))),(44,.d (zbO aj)),(45,.d (B bt)),(46,.d (B (!bt)))] (Z3 ++ [Hq c4,Hh (.cut 0)]) ?_ fun J6 dr => ?_
         ·rintro ⟨ep,dw,fq⟩ ah
          unfold kf at ah
          exact yB X0 hC cb (ep,dw,fq,w64 (fe + 1)) ah []
         ·rcases zy ah with ⟨c5,ah⟩ | ⟨c5,ah⟩
          ·exact yB X0 hC dr (aj.Inputs,aj.Outputs,aj.Rows) ah [Hq c5]
          ·exact yB X0 hC dr (bi,bg,bn) ah [Hq c5]
    ·obtain rfl := z7 ah
     obtain rfl := hl2
     exact yB X0 hC bk (bi,bg,bn,fe) ae (Z0 ++ [Hq c1])
  ·obtain rfl := z7 ae
   obtain rfl := hl1
   exact yB X0 hC ar (cq,ce,dc,ba) aa [Hq c0]
def YG : Code := (Tryz.f17.body).getD .skip
def Yz : yK := spF (α := List z5) (ρ := z4) 17 (fun x => [zw x]) (fun r => ze r) (fun x => Zg x) [] (VY)
abbrev Jq (cm : List (List z5)) : List (Nat × T) := [(2,.own (.box (.agg [I 0,I 0,eOs 1 true zw []]))),(3,.own (.box (.agg [I 1,I 2,eOs 1 false zw cm])))]
abbrev Jp (l_ : List z5) (bp : List (List z5)) (i_ : Int) : List (Nat × T) := [(0,.d (eSl 2 false F8_ l_)),(2,.own (.box (.agg [I 0,I 0,eOs 1 true zw []]))),(3,.own (.box (.agg [I 1,I 2,eOs 1 false zw bp]))),(4,.d (I i_))]
theorem z2y (hC : zr Tryz.prog ctr) : Yz.Ok Tryz.prog := by
 refine zp ?_
 rintro l_ r0 aa
 try unfold Zg at aa
 refine yO false [(2,some 34)] YG 23 Tryz.func17 fun E hE => ?_
 refine yJ X0 hC YG [1,1] [] [2,3] (fun z : List (List z5) => YE z = some r0) (fun z => Jq z) [(0,.d (eSl 2 false F8_ l_)),(2,.own (.box (.agg [I 0,I 0,eOs 1 true zw []]))),(3,.own (.box (.agg [I 1,I 2,eOs 1 true zw []])))] [Hh (.cut 2)] ?_ fun J1 ar => ?_
 ·rintro cm aa
  unfold YE at aa
  obtain rfl := z7 aa
  exact yE X0 hC hE [Hm (shM zw zw cm)]
 ·obtain ⟨t2,ht2,aa⟩ := z8 aa
  refine yLx X0 hC YG [1,1,2,1,0] [J1] (fun s => YD l_ s.1 s.2) (fun x => Jp l_ x.1 x.2) (([] : List (List z5)),0) ht2 [(0,.d (eSl 2 false F8_ l_)),(2,.own (.box (.agg [I 0,I 0,eOs 1 true zw []]))),(3,.own (.box (.agg [I 1,I 2,eOs 1 true zw []]))),(4,.d (I 0))] inferInstance [] ?_
  rintro ⟨bp,i_⟩ m2 aw ae hl1 J2 av
  try unfold YD at ae
  let Z0 : List HO := [Ha (lnM F8_ l_)]
  rcases zy ae with ⟨c0,ae⟩ | ⟨c0,ae⟩
  ·obtain ⟨g0,ae⟩ := gdE ae
   obtain ⟨g1,ae⟩ := gdE ae
   obtain rfl := z7 ae
   exact yB X0 hC av ((bp ++ ([((l_.drop i_.toNat).take ((w64 (i_ + 1)).toNat - i_.toNat))] : List (List z5))),w64 (i_ + 1)) hl1 (Z0 ++ [Hq c0,Hn (slA g0),Hn (slB g0),Hn (zix F8_ g0),Ha (slM 2 false F8_ l_ i_.toNat (w64 (i_ + 1)).toNat),Hq (dM zw ([((l_.drop i_.toNat).take ((w64 (i_ + 1)).toNat - i_.toNat))] : List (List z5))),Hn (dM zw ([((l_.drop i_.toNat).take ((w64 (i_ + 1)).toNat - i_.toNat))] : List (List z5))),Hn (aL zw zw g1),Hl (aM zw bp ([((l_.drop i_.toNat).take ((w64 (i_ + 1)).toNat - i_.toNat))] : List (List z5)))])
  ·obtain rfl := z7 ae
   obtain rfl := hl1
   exact yB X0 hC ar bp aa (Z0 ++ [Hq c0])
def z46 : Code := (Tryz.f39.body).getD .skip
def Wt : yK := spF (α := Int) (ρ := List Int) 39 (fun x => [(eI .i64) x]) (fun r => F3_ r) (fun x => uC x) [] (VY)
theorem z4X (hC : zr Tryz.prog ctr) : Wt.Ok Tryz.prog := by
 refine zp ?_
 rintro n_ r0 aa
 try unfold uC at aa
 refine yO true [(2,none)] z46 5 Tryz.func39 fun E hE => ?_
 obtain ⟨g0,aa⟩ := gdE aa
 obtain rfl := z7 aa
 exact yE X0 hC hE [Hn (rL g0),Ha (rM 1 (eI .i64) n_ (0 : Int))]
def VR : Code := (Tryz.f41.body).getD .skip
def Vp : yK := spF (α := z4 × z4 × List (List Int)) (ρ := Int) 41 (fun x => [ze x.1,ze x.2.1,qH x.2.2]) (fun r => (eI .i64) r) (fun x => z09 x.1 x.2.1 x.2.2) [] (z72)
abbrev z20 (m_ : z4) (other : z4) (l_ : List (List Int)) : List (Nat × T) := [(2,.d (eSl 1 false F6_ l_)),(3,.own (.box (ze m_))),(4,.own (.box (ze other)))]
abbrev z1Z (m_ : z4) (other : z4) (l_ : List (List Int)) (gu : Int) : List (Nat × T) := [(2,.d (eSl 1 false F6_ l_)),(3,.own (.box (ze m_))),(4,.own (.box (ze other))),(12,.own (eOs 3 true ze ([m_,other]))),(13,.d (I (([m_,other].length : Nat) : Int))),(14,.d (I gu))]
theorem z5T (hC : zr Tryz.prog ctr) (h02 : ctr.Has yR) (h0o : ctr.Has ZN) : Vp.Ok Tryz.prog := by
 refine zp ?_
 rintro ⟨m_,other,l_⟩ r0 aa
 try unfold z09 at aa
 refine yO true [(6,none)] VR 33 Tryz.func41 fun E hE => ?_
 refine yJ X0 hC VR [1] [] [2,3,4] (fun z : Unit => VC m_ other l_ = some r0) (fun z => z20 m_ other l_) [(2,.d (eSl 1 false F6_ l_)),(3,.own (.box (ze m_))),(4,.own (.box (ze other)))] [Hh (.cut 1)] ?_ fun J1 ar => ?_
 ·rintro ⟨⟩ aa
  unfold VC at aa
  rcases zy aa with ⟨c0,aa⟩ | ⟨c0,aa⟩
  ·obtain rfl := z7 aa
   exact yE X0 hC hE [Hq c0]
  ·obtain ⟨r_,h0,aa⟩ := z8 aa
   obtain rfl := z7 aa
   exact yE X0 hC hE [Hq c0,Hc h0o (x := (l_,m_.Inputs)) h0 (loC qH l_ <| loC (eI .i64) m_.Inputs <| loN)]
 ·obtain ⟨t2,ht2,aa⟩ := z8 aa
  refine yL X0 hC VR [1,2,1,0] [J1] (fun s => VB m_ other s) (fun x => z1Z m_ other l_ x) 0 ht2  [Ha (lnM ze [m_,other])] ?_
  rintro gu m2 aw ae hl1 J2 av
  try unfold VB at ae
  rcases zy ae with ⟨c1,ae⟩ | ⟨c1,ae⟩
  ·obtain ⟨i8,h1,ae⟩ := z8 ae
   obtain ⟨aj,h2,ae⟩ := z8 ae
   let Z0 : List HO := [Hq c1,Hn (iL ze h1),Hs (iM ze h1),Hc h02 (x := i8) h2 (loC ze i8 <| loN)]
   rcases zy ae with ⟨c2,ae⟩ | ⟨c2,ae⟩
   ·obtain rfl := z7 ae
    obtain rfl := hl1
    obtain rfl := z7 aa
    exact yE X0 hC hE (Z0 ++ [Hq c2])
   ·obtain rfl := z7 ae
    exact yB X0 hC av (w64 (gu + 1)) hl1 (Z0 ++ [Hq c2])
  ·obtain rfl := z7 ae
   obtain rfl := hl1
   exact yB X0 hC ar () aa [Hq c1]
def WG : Code := (Tryz.f21.body).getD .skip
def Ww : yK := spF (α := z4 × z4 × List (List Int)) (ρ := Int × Int × Int) 21 (fun x => [ze x.1,ze x.2.1,qH x.2.2]) (fun r => .tup [(eI .i64) r.1,(eI .i64) r.2.1,(eI .i64) r.2.2]) (fun x => QQ x.1 x.2.1 x.2.2) [] (z72)
abbrev z0T : List (Nat × T) := []
abbrev z0S (m_ : z4) (other : z4) (l_ : List (List Int)) (ck : Int) : List (Nat × T) := [(3,.own (.box (ze m_))),(4,.own (.box (ze other))),(20,.d (eSl 1 false F6_ l_)),(21,.d (I ((l_.length : Nat) : Int))),(22,.d (I ck))]
theorem z52 (hC : zr Tryz.prog ctr) (h1D : ctr.Has Vp) (h0p : ctr.Has W2) : Ww.Ok Tryz.prog := by
 refine zp ?_
 rintro ⟨m_,other,l_⟩ r0 aa
 try unfold QQ at aa
 refine yO false [(6,none),(7,none),(8,none)] WG 36 Tryz.func21 fun E hE => ?_
 obtain ⟨r_,h0,aa⟩ := z8 aa
 let Z0 : List HO := [Hc h1D (x := (m_,other,l_)) h0 (loC ze m_ <| loC ze other <| loC qH l_ <| loN)]
 rcases zy aa with ⟨c0,aa⟩ | ⟨c0,aa⟩
 ·obtain rfl := z7 aa
  exact yE X0 hC hE (Z0 ++ [Hq c0])
 ·refine yJ X0 hC WG [1,1] [] [] (fun z : Unit => WC = some r0) (fun z => z0T) [(2,.d (eSl 1 false F6_ l_)),(3,.own (.box (ze m_))),(4,.own (.box (ze other)))] (Z0 ++ [Hq c0,Hh (.cut 0)]) ?_ fun J1 ar => ?_
  ·rintro ⟨⟩ aa
   unfold WC at aa
   obtain rfl := z7 aa
   exact yE X0 hC hE []
  ·obtain ⟨t2,ht2,aa⟩ := z8 aa
   refine yL X0 hC WG [1,1,2,1,0] [J1] (fun s => WB m_ other l_ s) (fun x => z0S m_ other l_ x) 0 ht2  [Ha (lnM F6_ l_)] ?_
   rintro ck m2 aw ae hl1 J2 av
   try unfold WB at ae
   rcases zy ae with ⟨c1,ae⟩ | ⟨c1,ae⟩
   ·obtain ⟨bj,h1,ae⟩ := z8 ae
    obtain ⟨aj,h2,ae⟩ := z8 ae
    let Z1 : List HO := [Hq c1,Hi F6_ h1,Hc h0p (x := (m_,other,bj)) h2 (loC ze m_ <| loC ze other <| loC F6_ bj <| loN)]
    rcases zy ae with ⟨c2,ae⟩ | ⟨c2,ae⟩
    ·obtain rfl := z7 ae
     obtain rfl := hl1
     obtain rfl := z7 aa
     exact yE X0 hC hE (Z1 ++ [Hq c2])
    ·obtain rfl := z7 ae
     exact yB X0 hC av (w64 (ck + 1)) hl1 (Z1 ++ [Hq c2])
   ·obtain rfl := z7 ae
    obtain rfl := hl1
    exact yB X0 hC ar () aa [Hq c1]
def Qr : Code := (Tryz.f15.body).getD .skip
def Wu : yK := spF (α := Unit) (ρ := Bool) 15 (fun x => []) (fun r => eB r) (fun x => XF) [] (fun _ _ _ => rfl)
theorem z4Y (hC : zr Tryz.prog ctr) (h06 : ctr.Has Yz) (h0b : ctr.Has ZP) (h0e : ctr.Has W3) (h01 : ctr.Has Vr) (h07 : ctr.Has Wt) (h04 : ctr.Has jU) (h0B : ctr.Has Ww) : Wu.Ok Tryz.prog := by
 refine zp ?_
 rintro ⟨⟩ r0 aa
 try unfold XF at aa
 refine yO true [(0,none)] Qr 178 Tryz.func15 fun E hE => ?_
 obtain ⟨r_,h0,aa⟩ := z8 aa
 obtain ⟨aj,h1,aa⟩ := z8 aa
 obtain ⟨bc,h2,aa⟩ := z8 aa
 obtain ⟨bt,h3,aa⟩ := z8 aa
 obtain ⟨gc,h4,aa⟩ := z8 aa
 obtain ⟨jx,h5,aa⟩ := z8 aa
 let Z0 : List HO := [Hg (z4x h06),Hm (shM F8_ F8_ ([(z5.mk 1 0),(z5.mk 0 1)])),Hs (z4y h06 (x := [(z5.mk 1 0),(z5.mk 0 1)]) h0 (loC KL ([(z5.mk 1 0),(z5.mk 0 1)] : List z5) <| loN)),Hm (shM F8_ F8_ ([(z5.mk 1 0),(z5.mk 0 1)])),Hc h0b (x := (r_,1)) h1 (loC ze r_ <| loC (eI .i64) 1 <| loN),Hc h0b (x := (r_,2)) h2 (loC ze r_ <| loC (eI .i64) 2 <| loN),Hc h0b (x := (r_,5)) h3 (loC ze r_ <| loC (eI .i64) 5 <| loN),Hc h0e (x := (r_,[],1)) h4 (loC ze r_ <| loC zib ([] : List (List Int)) <| loC (eI .i64) 1 <| loN),Hc h0e (x := (r_,[],2)) h5 (loC ze r_ <| loC zib ([] : List (List Int)) <| loC (eI .i64) 2 <| loN)]
 rcases zy aa with ⟨c0,aa⟩ | ⟨c0,aa⟩
 ·obtain rfl := z7 aa
  exact yE X0 hC hE (Z0 ++ (Hq c0 :: Hq c0 :: Hq c0 :: (rpN 22 qT [])))
 ·rcases zy aa with ⟨c1,aa⟩ | ⟨c1,aa⟩
  ·obtain rfl := z7 aa
   exact yE X0 hC hE (Z0 ++ (Hq c0 :: Hq c0 :: Hq c0 :: Hq c1 :: Hq c1 :: Hq c1 :: (rpN 19 qT [])))
  ·let Z1 : List HO := (Z0 ++ [Hq c0,Hq c0,Hq c0,Hq c1,Hq c1,Hq c1])
   rcases zy aa with ⟨c2,aa⟩ | ⟨c2,aa⟩
   ·obtain rfl := z7 aa
    exact yE X0 hC hE (Z1 ++ (Hq c2 :: Hq c2 :: Hq c2 :: (rpN 16 qT [])))
   ·rcases zy aa with ⟨c3,aa⟩ | ⟨c3,aa⟩
    ·obtain rfl := z7 aa
     exact yE X0 hC hE (Z1 ++ (Hq c2 :: Hq c2 :: Hq c2 :: Hq c3 :: Hq c3 :: Hq c3 :: (rpN 13 qT [])))
    ·let Z2 : List HO := (Z1 ++ [Hq c2,Hq c2,Hq c2,Hq c3,Hq c3,Hq c3])
     rcases zy aa with ⟨c4,aa⟩ | ⟨c4,aa⟩
     ·obtain rfl := z7 aa
      exact yE X0 hC hE (Z2 ++ (Hq c4 :: Hq c4 :: Hq c4 :: (rpN 10 qT [])))
     ·rcases zy aa with ⟨c5,aa⟩ | ⟨c5,aa⟩
      ·obtain rfl := z7 aa
       exact yE X0 hC hE (Z2 ++ (Hq c4 :: Hq c4 :: Hq c4 :: Hq c5 :: Hq c5 :: Hq c5 :: (rpN 7 qT [])))
      ·let Z3 : List HO := (Z2 ++ [Hq c4,Hq c4,Hq c4,Hq c5,Hq c5,Hq c5])
       rcases zy aa with ⟨c6,aa⟩ | ⟨c6,aa⟩
       ·obtain rfl := z7 aa
        exact yE X0 hC hE (Z3 ++ (Hq c6 :: Hq c6 :: Hq c6 :: (rpN 4 qT [])))
       ·rcases zy aa with ⟨c7,aa⟩ | ⟨c7,aa⟩
        ·obtain rfl := z7 aa
         exact yE X0 hC hE (Z3 ++ [Hq c6,Hq c6,Hq c6,Hq c7,Hq c7,Hq c7,qT])
        ·let Z4 : List HO := (Z3 ++ [Hq c6,Hq c6,Hq c6,Hq c7,Hq c7,Hq c7])
         rcases zy aa with ⟨c8,aa⟩ | ⟨c8,aa⟩
         ·obtain rfl := z7 aa
          exact yE X0 hC hE (Z4 ++ [Hq c8])
         ·obtain ⟨iv,h6,aa⟩ := z8 aa
          obtain ⟨ig,h7,aa⟩ := z8 aa
          obtain ⟨jf,h8,aa⟩ := z8 aa
          obtain ⟨jy,h9,aa⟩ := z8 aa
          obtain ⟨j4,h10,aa⟩ := z8 aa
          obtain ⟨iw,h11,aa⟩ := z8 aa
          obtain ⟨mb,h12,aa⟩ := z8 aa
          obtain ⟨j5,h13,aa⟩ := z8 aa
          obtain ⟨jh,h14,aa⟩ := z8 aa
          obtain ⟨ja,h15,aa⟩ := z8 aa
          obtain ⟨jb,h16,aa⟩ := z8 aa
          refine yA X0 hC Qr [1,1,1,1,1,1,1,1,1,1,1,1,1,1,1,0] [] [(1,.own (.box (ze r_))),(3,.d (I iv.2)),(5,.d (I jf.2)),(7,.d (I j4.2)),(9,.d (I mb.2)),(11,.d (I jh.2)),(12,.own (.box (zbG iv.1))),(13,.own (.box (zbG jf.1))),(14,.own (.box (zbG jh.1))),(15,.own (.box (ze ja))),(16,.own (.box (ze jb)))] (Z4 ++ [Hq c8,Hc h01 (x := (r_,[],2)) h6 (loC ze r_ <| loC zib ([] : List (List Int)) <| loC (eI .i64) 2 <| loN),Hc h07 (x := 1) h7 (loC (eI .i64) 1 <| loN),Hg (z4x h01),Hm (shM F3_ F2_ ([ig])),Hs (z4y h01 (x := (r_,[ig],2)) h8 (loC ze r_ <| loC F9_ [ig] <| loC (eI .i64) 2 <| loN)),Hm (shM F3_ F2_ ([ig])),Hc h07 (x := 3) h9 (loC (eI .i64) 3 <| loN),Hg (z4x h01),Hm (shM F3_ F2_ ([jy])),Hs (z4y h01 (x := (r_,[jy],2)) h10 (loC ze r_ <| loC F9_ [jy] <| loC (eI .i64) 2 <| loN)),Hm (shM F3_ F2_ ([jy])),Hc h07 (x := 4) h11 (loC (eI .i64) 4 <| loN),Hg (z4x h01),Hm (shM F3_ F2_ ([iw])),Hs (z4y h01 (x := (r_,[iw],2)) h12 (loC ze r_ <| loC F9_ [iw] <| loC (eI .i64) 2 <| loN)),Hm (shM F3_ F2_ ([iw])),Hc h07 (x := 2) h13 (loC (eI .i64) 2 <| loN),Hg (z4x h01),Hm (shM F3_ F2_ ([j5])),Hs (z4y h01 (x := (r_,[j5],2)) h14 (loC ze r_ <| loC F9_ [j5] <| loC (eI .i64) 2 <| loN)),Hm (shM F3_ F2_ ([j5])),Hg (z4x h06),Hm (shM F8_ F8_ ([(z5.mk 0 0)])),Hs (z4y h06 (x := [(z5.mk 0 0)]) h15 (loC KL ([(z5.mk 0 0)] : List z5) <| loN)),Hm (shM F8_ F8_ ([(z5.mk 0 0)])),Hg (z4x h06),Hm (shM F8_ F8_ ([(z5.mk 1 0),(z5.mk 1 1)])),Hs (z4y h06 (x := [(z5.mk 1 0),(z5.mk 1 1)]) h16 (loC KL ([(z5.mk 1 0),(z5.mk 1 1)] : List z5) <| loN)),Hm (shM F8_ F8_ ([(z5.mk 1 0),(z5.mk 1 1)])),Hh (.cut 1)]) ?_
          rcases zy aa with ⟨c9,aa⟩ | ⟨c9,aa⟩
          ·obtain rfl := z7 aa
           exact yE X0 hC hE (Hq c9 :: Hq c9 :: Hq c9 :: (rpN 25 qT []))
          ·rcases zy aa with ⟨c10,aa⟩ | ⟨c10,aa⟩
           ·obtain rfl := z7 aa
            exact yE X0 hC hE (Hq c9 :: Hq c9 :: Hq c9 :: Hq c10 :: Hq c10 :: Hq c10 :: (rpN 22 qT []))
           ·let Z5 : List HO := [Hq c9,Hq c9,Hq c9,Hq c10,Hq c10,Hq c10]
            rcases zy aa with ⟨c11,aa⟩ | ⟨c11,aa⟩
            ·obtain rfl := z7 aa
             exact yE X0 hC hE (Z5 ++ (Hq c11 :: Hq c11 :: Hq c11 :: (rpN 19 qT [])))
            ·rcases zy aa with ⟨c12,aa⟩ | ⟨c12,aa⟩
             ·obtain rfl := z7 aa
              exact yE X0 hC hE (Z5 ++ (Hq c11 :: Hq c11 :: Hq c11 :: Hq c12 :: Hq c12 :: Hq c12 :: (rpN 16 qT [])))
             ·let Z6 : List HO := (Z5 ++ [Hq c11,Hq c11,Hq c11,Hq c12,Hq c12,Hq c12])
              rcases zy aa with ⟨c13,aa⟩ | ⟨c13,aa⟩
              ·obtain rfl := z7 aa
               exact yE X0 hC hE (Z6 ++ (rpN 5 (Hq c13) (rpN 11 qT [])))
              ·obtain ⟨ng,h17,aa⟩ := z8 aa
               let Z7 : List HO := (Z6 ++ [Hq c13,Hq c13,Hq c13,Hc h04 (x := (iv.1,ja)) h17 (loC zbG iv.1 <| loC ze ja <| loN),Hq c13,Hq c13])
               rcases zy aa with ⟨c14,aa⟩ | ⟨c14,aa⟩
               ·obtain rfl := z7 aa
                exact yE X0 hC hE (Z7 ++ (rpN 5 (Hq c14) (rpN 6 qT [])))
               ·obtain ⟨nh,h18,aa⟩ := z8 aa
                let Z8 : List HO := (Z7 ++ [Hq c14,Hq c14,Hq c14,Hc h04 (x := (jf.1,ja)) h18 (loC zbG jf.1 <| loC ze ja <| loN),Hq c14,Hq c14])
                rcases zy aa with ⟨c15,aa⟩ | ⟨c15,aa⟩
                ·obtain rfl := z7 aa
                 exact yE X0 hC hE (Z8 ++ (rpN 5 (Hq c15) [qT]))
                ·obtain ⟨ni,h19,aa⟩ := z8 aa
                 let Z9 : List HO := (Z8 ++ [Hq c15,Hq c15,Hq c15,Hc h04 (x := (jh.1,jb)) h19 (loC zbG jh.1 <| loC ze jb <| loN),Hq c15,Hq c15])
                 rcases zy aa with ⟨c16,aa⟩ | ⟨c16,aa⟩
                 ·obtain rfl := z7 aa
                  exact yE X0 hC hE (Z9 ++ [Hq c16])
                 ·obtain ⟨kz,h20,aa⟩ := z8 aa
                  obtain ⟨k0,h21,aa⟩ := z8 aa
                  obtain ⟨ll,h22,aa⟩ := z8 aa
                  let Z10 : List HO := (Z9 ++ [Hq c16,Hc h07 (x := 1) h20 (loC (eI .i64) 1 <| loN),Hc h07 (x := 3) h21 (loC (eI .i64) 3 <| loN),Hg (z4x h0B),Hm (shM F3_ F2_ ([kz,k0])),Hs (z4y h0B (x := (r_,jb,[kz,k0])) h22 (loC ze r_ <| loC ze jb <| loC F9_ [kz,k0] <| loN))])
                  rcases zy aa with ⟨c17,aa⟩ | ⟨c17,aa⟩
                  ·rcases zy aa with ⟨c18,aa⟩ | ⟨c18,aa⟩
                   ·obtain rfl := z7 aa
                    exact yE X0 hC hE (Z10 ++ [Hq c17,Hq c17,Hq c17,Hq c18,Hq c18,Hq c18])
                   ·obtain rfl := z7 aa
                    exact yE X0 hC hE (Z10 ++ [Hq c17,Hq c17,Hq c17,Hq c18,Hq c18,Hq c18])
                  ·obtain rfl := z7 aa
                   exact yE X0 hC hE (Z10 ++ [Hq c17,Hq c17,Hq c17,qF,qF,qF])
def VZ : Code := (Tryz.f3.body).getD .skip
def YA : yK := spF (α := wH × yf × ye Int) (ρ := Bool) 3 (fun x => [(qD US) x.1,z74 x.2.1,(UA (eI .u8)) x.2.2]) (fun r => eB r) (fun x => YW x.1 x.2.1 x.2.2) [] (z72)
def y8 : XH Tryz.prog := ((zj8 y4 37).or X0)
theorem z2z (hC : zr Tryz.prog ctr) (h1E : ctr.Has Vn) (h1F : ctr.Has Xu) (h1G : ctr.Has Vm) (h0C : ctr.Has Xt) (h01 : ctr.Has Vr) (h0e : ctr.Has W3) (h0b : ctr.Has ZP) (h1H : ctr.Has Vi) (h09 : ctr.Has ug) (h0D : ctr.Has Wu) (h04 : ctr.Has jU) : YA.Ok Tryz.prog := by
 refine zp ?_
 rintro ⟨x_,y_,z_⟩ r0 aa
 try unfold YW at aa
 refine yO true [(6,none)] VZ 106 Tryz.func3 fun E hE => ?_
 obtain ⟨r_,h0,aa⟩ := z8 aa
 obtain ⟨aj,h1,aa⟩ := z8 aa
 obtain ⟨bc,h2,aa⟩ := z8 aa
 obtain ⟨bt,h3,aa⟩ := z8 aa
 obtain ⟨g0,aa⟩ := gdE aa
 obtain ⟨g1,aa⟩ := gdE aa
 obtain ⟨gc,h4,aa⟩ := z8 aa
 obtain ⟨jx,h5,aa⟩ := z8 aa
 obtain ⟨iv,h6,aa⟩ := z8 aa
 obtain ⟨ig,h7,aa⟩ := z8 aa
 refine yA y8 hC VZ [1,1,1,1,1,1,1,1,1,0] [] [(7,.own (.box (ze r_))),(8,.d (I aj)),(10,.own (.box (zbG gc.1))),(11,.d (I gc.2)),(12,.d (I jx.1)),(13,.d (I jx.2)),(14,.d (I iv.1)),(15,.d (I iv.2)),(16,.own (.box (zbO ig.1))),(17,.d (I ig.2))] [Hc h1E (x := (wH.mk x_.C)) h0 (loC (qD US) (wH.mk x_.C) <| loN),Hn (⟨rfl,by decide⟩ : true = true ∧ 0 < 2),Hc h1F (x := (r_,z_.e0)) h1 (loC ze r_ <| loC (eI .u8) z_.e0 <| loN),Hc h1G (x := y_) h2 (loC z74 y_ <| loN),Hg (z4x h0C),Hm (shM F6_ F6_ bc),Hs (z4y h0C (x := (bc,r_.Inputs)) h3 (loC qH bc <| loC (eI .i64) r_.Inputs <| loN)),Hm (shM F6_ F6_ bc),Ha (lnM F6_ bt),Hn (⟨rfl,by decide⟩ : true = true ∧ 1 < 2),Hn g0,Hn g1.1,Hn (cuB F6_ g1),Hl (cuM F6_ bt (mn ((bt.length : Nat) : Int) (w64 (Int.tmod z_.e1 8)))),Hg (z4x h01),Hm (shM F6_ F6_ (bt.take (mn ((bt.length : Nat) : Int) (w64 (Int.tmod z_.e1 8))).toNat)),Hs (z4y h01 (x := (r_,(bt.take (mn ((bt.length : Nat) : Int) (w64 (Int.tmod z_.e1 8))).toNat),aj)) h4 (loC ze r_ <| loC qH (bt.take (mn ((bt.length : Nat) : Int) (w64 (Int.tmod z_.e1 8))).toNat) <| loC (eI .i64) aj <| loN)),Hm (shM F6_ F6_ (bt.take (mn ((bt.length : Nat) : Int) (w64 (Int.tmod z_.e1 8))).toNat)),Hc h0e (x := (r_,(bt.take (mn ((bt.length : Nat) : Int) (w64 (Int.tmod z_.e1 8))).toNat),aj)) h5 (loC ze r_ <| loC qH (bt.take (mn ((bt.length : Nat) : Int) (w64 (Int.tmod z_.e1 8))).toNat) <| loC (eI .i64) aj <| loN),Hc h0b (x := (r_,aj)) h6 (loC ze r_ <| loC (eI .i64) aj <| loN),Hc h1H (x := (r_,(bt.take (mn ((bt.length : Nat) : Int) (w64 (Int.tmod z_.e1 8))).toNat),aj)) h7 (loC ze r_ <| loC qH (bt.take (mn ((bt.length : Nat) : Int) (w64 (Int.tmod z_.e1 8))).toNat) <| loC (eI .i64) aj <| loN),Hh (.cut 1)] ?_
 rcases zy aa with ⟨c0,aa⟩ | ⟨c0,aa⟩
 ·obtain rfl := z7 aa
  exact yE y8 hC hE (Hq c0 :: Hq c0 :: Hq c0 :: (rpN 11 qT []))
 ·rcases zy aa with ⟨c1,aa⟩ | ⟨c1,aa⟩
  ·obtain rfl := z7 aa
   exact yE y8 hC hE (Hq c0 :: Hq c0 :: Hq c0 :: (rpN 4 (Hq c1) (rpN 7 qT [])))
  ·let Z0 : List HO := (Hq c0 :: Hq c0 :: Hq c0 :: (rpN 4 (Hq c1) []))
   rcases zy aa with ⟨c2,aa⟩ | ⟨c2,aa⟩
   ·obtain rfl := z7 aa
    exact yE y8 hC hE (Z0 ++ (rpN 6 (Hq c2) [qT]))
   ·obtain ⟨jf,h8,aa⟩ := z8 aa
    let Z1 : List HO := (Z0 ++ (rpN 4 (Hq c2) [Hc h09 (x := (r_,aj)) h8 (loC ze r_ <| loC (eI .i64) aj <| loN),Hq c2,Hq c2]))
    rcases zy aa with ⟨c3,aa⟩ | ⟨c3,aa⟩
    ·obtain rfl := z7 aa
     exact yE y8 hC hE (Z1 ++ [Hq c3])
    ·rcases zy aa with ⟨c4,aa⟩ | ⟨c4,aa⟩
     ·rcases zy aa with ⟨c5,aa⟩ | ⟨c5,aa⟩
      ·let Z2 : List HO := (Z1 ++ [Hq c3,Hq c4,Hq c5,Hq c5,Hq c5,Ha (lnM KL gc.1.Rows),Hq c5,Hq c5])
       rcases zy aa with ⟨c6,aa⟩ | ⟨c6,aa⟩
       ·obtain ⟨jy,h9,aa⟩ := z8 aa
        obtain rfl := z7 aa
        exact yE y8 hC hE (Z2 ++ [Hq c6,Hc h0D (x := ()) h9 (loN),Hq c6])
       ·obtain rfl := z7 aa
        exact yE y8 hC hE (Z2 ++ [Hq c6,Hq c6])
      ·obtain rfl := z7 aa
       exact yE y8 hC hE (Z1 ++ (Hq c3 :: Hq c4 :: (rpN 5 (Hq c5) [qF,qF])))
     ·rcases zy aa with ⟨c7,aa⟩ | ⟨c7,aa⟩
      ·obtain ⟨j4,h10,aa⟩ := z8 aa
       let Z3 : List HO := (Z1 ++ [Hq c3,Hq c4,Hq c7,Hq c7,Hq c7,Hc h04 (x := (gc.1,ig.1)) h10 (loC zbG gc.1 <| loC zbO ig.1 <| loN),Hq c7])
       rcases zy aa with ⟨c8,aa⟩ | ⟨c8,aa⟩
       ·obtain ⟨iw,h11,aa⟩ := z8 aa
        obtain rfl := z7 aa
        exact yE y8 hC hE (Z3 ++ [Hq c8,Hc h0D (x := ()) h11 (loN),Hq c8])
       ·obtain rfl := z7 aa
        exact yE y8 hC hE (Z3 ++ [Hq c8,Hq c8])
      ·obtain rfl := z7 aa
       exact yE y8 hC hE (Z1 ++ (Hq c3 :: Hq c4 :: (rpN 4 (Hq c7) [qF,qF])))
theorem ziQ {l : List yK} {s : yK} (h : ((l.map yK.k).contains s.k) = false) : ∀ t ∈ l,t.k ≠ s.k := by
 intro t ht e
 have : (l.map yK.k).contains s.k = true := by
  rw [List.contains_iff_mem,← e]
  exact List.mem_map_of_mem ht
 rw [h] at this
 cases this
theorem hat {l : List yK} {c : Ctr} (H : ∀ t ∈ l,c.Has t) (i : Nat) {s : yK} (h : l[i]? = some s := by rfl) : c.Has s := H _ (List.mem_of_getElem? h)
theorem spc {l : List yK} {s : yK} (w : ∀ {c : Ctr},zr Tryz.prog c → (∀ t ∈ l,c.Has t) → s.Ok Tryz.prog) (r : z0h Tryz.prog l) (h : ((l.map yK.k).contains s.k) = false := by kernel_rfl) : z0h Tryz.prog (s :: l) := ⟨fun _ a b => w a b,ziQ h,r⟩
theorem zi9 : z0h Tryz.prog [YA,Wu,Ww,Vp,Wt,Yz,Vi,Xq,Xr,jO,jU,jS,Vl,Xp,Vh,Un,Wo,ZP,W3,Vr,yN,yz,wk,Vq,W2,ZE,qq,YL,ZN,Wl,Wn,Ys,Vs,wK,vR,YB,Wm,Wk,yZ,xP,Yt,YN,YM,qX,qg,uf,jN,xy,vQ,Xo,ZC,qh,ui,xz,wJ,qj,qm,uh,wc,ZD,jW,yR,y7,yg,qY,Yy,qJ,Xt,Vm,YK,Ul,Yu,Wv,qZ,Xu,ug,Vn,Yv,Um,Yw,jP,ZO,Vk,jT,Wr,Vj,Ws,jV,qI,Xs,jQ,jR,Wp,Vo,Xv] :=
 spc (fun hC H => z2z hC (hat H 75) (hat H 73) (hat H 67) (hat H 66) (hat H 18) (hat H 17) (hat H 16) (hat H 5) (hat H 74) (hat H 0) (hat H 9)) <|
 spc (fun hC H => z4Y hC (hat H 3) (hat H 15) (hat H 16) (hat H 17) (hat H 2) (hat H 8) (hat H 0)) <|
 spc (fun hC H => z52 hC (hat H 0) (hat H 21)) <|
 spc (fun hC H => z5T hC (hat H 57) (hat H 24)) <|
 spc (fun hC _ => z4X hC) <|
 spc (fun hC _ => z2y hC) <|
 spc (fun hC H => z5J hC (hat H 68) (hat H 9) (hat H 6) (hat H 2) (hat H 0)) <|
 spc (fun hC H => z3Q hC (hat H 0) (hat H 83)) <|
 spc (fun hC _ => z3R hC) <|
 spc (fun hC H => KP hC (hat H 73) (hat H 1) (hat H 0)) <|
 spc (fun hC _ => z5O hC) <|
 spc (fun hC H => KR hC (hat H 69) (hat H 0)) <|
 spc (fun hC _ => z5N hC) <|
 spc (fun hC H => z3P hC (hat H 0)) <|
 spc (fun hC H => z5I hC (hat H 0)) <|
 spc (fun hC H => z79 hC (hat H 71)) <|
 spc (fun hC _ => z4S hC) <|
 spc (fun hC H => z51 hC (hat H 23) (hat H 24)) <|
 spc (fun hC H => z7b hC (hat H 8) (hat H 7) (hat H 3)) <|
 spc (fun hC H => z95 hC (hat H 7) (hat H 6) (hat H 2) (hat H 1) (hat H 0)) <|
 spc (fun hC _ => Zz hC) <|
 spc (fun hC _ => Zv hC) <|
 spc (fun hC H => KT hC (hat H 2) (hat H 1) (hat H 0)) <|
 spc (fun hC _ => z5V hC) <|
 spc (fun hC _ => z7a hC) <|
 spc (fun hC _ => z1e hC) <|
 spc (fun hC _ => z50 hC) <|
 spc (fun hC H => z5U hC (hat H 13) (hat H 0)) <|
 spc (fun hC H => z4R hC (hat H 7) (hat H 1) (hat H 0)) <|
 spc (fun hC _ => z4O hC) <|
 spc (fun hC H => z4Q hC (hat H 0)) <|
 spc (fun hC H => z2p hC (hat H 2) (hat H 1) (hat H 0)) <|
 spc (fun hC _ => z5Y hC) <|
 spc (fun hC H => WL hC (hat H 0)) <|
 spc (fun hC H => KU hC (hat H 0)) <|
 spc (fun hC _ => z2B hC) <|
 spc (fun hC H => z4P hC (hat H 0)) <|
 spc (fun hC H => z4N hC (hat H 0)) <|
 spc (fun hC H => Yq hC (hat H 0)) <|
 spc (fun hC H => XT hC (hat H 0)) <|
 spc (fun hC _ => z2q hC) <|
 spc (fun hC H => z5X hC (hat H 1) (hat H 0)) <|
 spc (fun hC _ => z5W hC) <|
 spc (fun hC H => Jy hC (hat H 17) (hat H 16) (hat H 11) (hat H 7) (hat H 0)) <|
 spc (fun hC H => Qv hC (hat H 1) (hat H 0)) <|
 spc (fun hC _ => Q4 hC) <|
 spc (fun hC H => KO hC (hat H 14) (hat H 3) (hat H 1) (hat H 0)) <|
 spc (fun hC _ => U0 hC) <|
 spc (fun hC H => KN hC (hat H 0)) <|
 spc (fun hC _ => z3N hC) <|
 spc (fun hC _ => z1b hC) <|
 spc (fun hC H => Qw hC (hat H 0)) <|
 spc (fun hC H => Q6 hC (hat H 8) (hat H 0)) <|
 spc (fun hC H => Xk hC (hat H 0)) <|
 spc (fun hC _ => WK hC) <|
 spc (fun hC H => Qx hC (hat H 0)) <|
 spc (fun hC H => Qy hC (hat H 4) (hat H 0)) <|
 spc (fun hC H => Q5 hC (hat H 1) (hat H 8) (hat H 0)) <|
 spc (fun hC _ => Wh hC) <|
 spc (fun hC _ => z1c hC) <|
 spc (fun hC _ => KS hC) <|
 spc (fun hC H => z1d hC (hat H 0)) <|
 spc (fun hC H => ue hC (hat H 0)) <|
 spc (fun hC H => qp hC (hat H 0)) <|
 spc (fun hC H => JA hC (hat H 0)) <|
 spc (fun hC H => z2x hC (hat H 0)) <|
 spc (fun hC _ => z2w hC) <|
 spc (fun hC H => z3W hC (hat H 1)) <|
 spc (fun hC H => z5Q hC (hat H 3) (hat H 0)) <|
 spc (fun hC H => z5K hC (hat H 0)) <|
 spc (fun hC H => z77 hC (hat H 0)) <|
 spc (fun hC _ => z2r hC) <|
 spc (fun hC H => z4Z hC (hat H 0)) <|
 spc (fun hC _ => JB hC) <|
 spc (fun hC H => z3X hC (hat H 0)) <|
 spc (fun hC _ => z3O hC) <|
 spc (fun hC H => z5R hC (hat H 16) (hat H 0)) <|
 spc (fun hC H => z2s hC (hat H 2) (hat H 0)) <|
 spc (fun hC H => z78 hC (hat H 9) (hat H 1) (hat H 0)) <|
 spc (fun hC _ => z2u hC) <|
 spc (fun hC H => z3S hC (hat H 7) (hat H 0)) <|
 spc (fun hC H => z4V hC (hat H 1) (hat H 0)) <|
 spc (fun hC _ => z5M hC) <|
 spc (fun hC H => z3V hC (hat H 0)) <|
 spc (fun hC H => z4U hC (hat H 1) (hat H 0)) <|
 spc (fun hC _ => z5L hC) <|
 spc (fun hC H => z4W hC (hat H 0)) <|
 spc (fun hC _ => z5P hC) <|
 spc (fun hC H => z2t hC (hat H 0)) <|
 spc (fun hC H => z3T hC (hat H 1) (hat H 0)) <|
 spc (fun hC _ => KQ hC) <|
 spc (fun hC H => z3U hC (hat H 0)) <|
 spc (fun hC _ => z4T hC) <|
 spc (fun hC H => z5S hC (hat H 0)) <|
 spc (fun hC _ => z3Y hC) <|
 trivial
theorem zm {x : Int} (h1 : -9223372036854775808 ≤ x) (h2 : x ≤ 9223372036854775807) : w64 x = x := by
 simp only [w64,IntKind.wrap,IntKind.bits,IntKind.signed]
 simp
 omega
variable {k : Nat}
section
variable {α β σ τ ρ : Type}
def Ret (x : Option α) (Q : α → Prop) : Prop := ∃ a,x = some a ∧ Q a
theorem Ret.mono {x : Option α} {Q R : α → Prop} (h : Ret x Q) (q : ∀ a,Q a → R a) : Ret x R := by
 have ⟨a,e,h⟩ := h
 exact ⟨a,e,q a h⟩
theorem Ret.eq {x : Option α} {a : α} (h : Ret x fun b => b = a) : x = some a := by
 obtain ⟨b,e,rfl⟩ := h
 exact e
theorem z6 {a : α} {Q : α → Prop} : Ret (some a) Q ↔ Q a := ⟨fun ⟨b,e,q⟩ => by cases e; exact q,fun q => ⟨a,rfl,q⟩⟩
theorem zh {x : Option α} {f : α → Option β} {Q : β → Prop} : Ret (Option.bind x f) Q ↔ Ret x fun a => Ret (f a) Q := by
 cases x with
 | none => exact ⟨fun ⟨b,e,_⟩ => (by cases e),fun ⟨b,e,_⟩ => (by cases e)⟩
 | some a => exact ⟨fun h => ⟨a,rfl,h⟩,fun ⟨b,e,h⟩ => by cases e; exact h⟩
theorem WP {p : Prop} [Decidable p] {x : Option α} {Q : α → Prop} : Ret (gd p x) Q ↔ p ∧ Ret x Q := by
 unfold gd
 by_cases h : p
 ·rw [if_pos h]; exact ⟨fun q => ⟨h,q⟩,fun q => q.2⟩
 ·rw [if_neg h]; exact ⟨fun ⟨b,e,_⟩ => by (cases e),fun q => (h q.1).elim⟩
theorem zg {c : Bool} {x y : Option α} {Q : α → Prop} : Ret (bif c then x else y) Q ↔ (c = true → Ret x Q) ∧ (c = false → Ret y Q) := by
 cases c <;> simp
theorem z7t {l : List α} {i : Int} {Q : α → Prop} : Ret (idx l i) Q ↔ 0 ≤ i ∧ ∃ x,l[i.toNat]? = some x ∧ Q x := by
 cases i with
 | ofNat n =>
  show (∃ a,l[n]? = some a ∧ Q a) ↔ _
  simp
 | negSucc n => exact ⟨fun ⟨b,e,_⟩ => by (cases e),fun ⟨h,_⟩ => by omega⟩
theorem zx (l : List α) (i : Nat) : idx l (i : Int) = l[i]? := rfl
theorem gdT {p : Prop} [Decidable p] {x : Option α} (h : p) : gd p x = x := by unfold gd; rw [if_pos h]
theorem bdT {x : Option α} {u : α} {f : α → Option ρ} (h : x = some u) : Option.bind x f = f u := by rw [h]; rfl
theorem V0 (step : σ → Option (LR σ τ)) (n : Nat) (s : σ) : QM step (n + 1) s = (match step s with | none => none | some (.next s') => QM step n s' | some (.done t) => some t) := rfl
def LRP (N : σ → Prop) (D : τ → Prop) : LR σ τ → Prop
 | .next s => N s
 | .done t => D t
theorem zt {step : σ → Option (LR σ τ)} (I : σ → Prop) (m : σ → Nat) {R : τ → Prop} {s : σ} (hs : I s) (hm : m s < 18446744073709551616)
  (h : ∀ s,I s → Ret (step s) (LRP (fun s' => I s' ∧ m s' < m s) R)) : Ret (loop step s) R := by
 have gen : ∀ (n : Nat) (s : σ),I s → m s < n → Ret (QM step n s) R := by
  intro n
  induction n with
  | zero => intro s _ h; omega
  | succ n ih =>
   intro s hs hm
   have ⟨a,e,q⟩ := h s hs
   rw [V0,e]
   cases a with
   | next s' => exact ih s' q.1 (by have := q.2; omega)
   | done t => exact ⟨t,rfl,q⟩
 exact gen WJ s hs hm
theorem xG {step : σ → Option (LR σ τ)} (st : Nat → σ) (n : Nat) {t : τ} (hn : n < 9223372036854775808) (h : ∀ i,i < n → step (st i) = some (.next (st (i + 1)))) (hd : step (st n) = some (.done t)) : loop step (st 0) = some t := by
 have gen : ∀ (k : Nat) (i : Nat),i ≤ n → n - i < k → QM step k (st i) = some t := by
  intro k
  induction k with
  | zero => intro i _ h; omega
  | succ k ih =>
   intro i hi hk
   rw [V0]
   rcases Nat.lt_or_ge i n with q | q
   ·rw [h i q]
    exact ih (i + 1) q (by omega)
   ·have : i = n := by omega
    subst this
    rw [hd]
 exact gen WJ 0 (Nat.zero_le _) (by show n - 0 < 18446744073709551616; omega)
def yu (f : Nat → α → Option ρ) : List α → Nat → Option ρ
 | [],_ => none
 | x :: l,i => match f i x with | some r => some r | none => yu f l (i + 1)
theorem VF {f : Nat → α → Option ρ} : ∀ {l : List α} {k : Nat},(∀ i x,l[i]? = some x → f (k + i) x = none) → yu f l k = none
 | [],_,_ => rfl
 | x :: l,k,h => by
  have h0 := h 0 x rfl
  simp [Nat.add_zero] at h0
  simp [yu,h0]
  exact VF fun i y hy => by have := h (i + 1) y (by simpa using hy); rwa [show k + 1 + i = k + (i + 1) by omega]
theorem jm {f : Nat → α → Option ρ} {r : ρ} : ∀ {l : List α} {k : Nat},yu f l k = some r → ∃ i x,l[i]? = some x ∧ f (k + i) x = some r
 | [],_,h => by cases h
 | x :: l,k,h => by
  simp [yu] at h
  cases hf : f k x with
  | some r' => rw [hf] at h; exact ⟨0,x,rfl,by rw [Nat.add_zero,hf]; exact h⟩
  | none =>
   rw [hf] at h
   have ⟨i,y,h1,h2⟩ := jm h
   exact ⟨i + 1,y,by simpa using h1,by rw [← h2]; congr 1; omega⟩
theorem Zk {f : Nat → α → Option ρ} {l : List α}  (h : yu f l k = none) : ∀ i x,l[i]? = some x → f (k + i) x = none := by
 induction l generalizing k with
 | nil => intro i x h; simp at h
 | cons y l ih =>
  intro i x hx
  simp [yu] at h
  cases hf : f k y with
  | some r' => rw [hf] at h; cases h
  | none =>
   rw [hf] at h
   cases i with
   | zero => simp at hx; subst hx; simpa using hf
   | succ i => have := ih h i x (by simpa using hx); rwa [show k + (i + 1) = k + 1 + i by omega]
def oS : Option ρ → Unit ⊕ ρ
 | some r => .inr r
 | none => .inl ()
def nS (i : Nat) : Option ρ → LR Int (Unit ⊕ ρ)
 | some r => .done (.inr r)
 | none => .next (w64 ((i : Int) + 1))
theorem qA (l : List α) (hl : l.length < 4611686018427387904) {step : Int → Option (LR Int (Unit ⊕ ρ))} (f : Nat → α → Option ρ)
  (h : ∀ (i : Nat) (x : α),l[i]? = some x → step (i : Int) = some (nS i (f i x))) (h2 : step (l.length : Int) = some (.done (.inl ()))) :
  loop step 0 = some (oS (yu f l 0)) := by
 have gen : ∀ (n : Nat) (k : Nat),k ≤ l.length → l.length - k < n → QM step n (k : Int) = some (oS (yu f (l.drop k) k)) := by
  intro n
  induction n with
  | zero => intro k _ h; omega
  | succ n ih =>
   intro k hk hn
   rw [V0]
   rcases Nat.lt_or_ge k l.length with hlt | hge
   ·have hx : l[k]? = some l[k] := List.getElem?_eq_getElem hlt
    rw [h k _ hx,List.drop_eq_getElem_cons hlt]
    simp [yu]
    cases hf : f k l[k] with
    | some r => rfl
    | none =>
     simp [nS]
     rw [zm (by omega) (by omega)]
     exact ih (k + 1) hlt (by omega)
   ·have : k = l.length := by omega
    subst this
    rw [h2,List.drop_length]
    rfl
 exact gen WJ 0 (Nat.zero_le _) (by show l.length - 0 < 18446744073709551616; omega)
end
section
variable {S : Type}
variable {k : Nat} {bad : S → Nat → Bool} {nx : S → Nat → Option S} {p0 : S}
def Mk (k : Nat) (bad : S → Nat → Bool) (nx : S → Nat → Option S) : Nat → S → Prop
 | 0,_ => False
 | n + 1,p => Mk k bad nx n p ∨ ∃ i,i < k ∧ (bad p i = true ∨ ∃ q,nx p i = some q ∧ Mk k bad nx n q)
theorem Mk.mono {n m : Nat} {p : S} (h : Mk k bad nx n p) (hm : n ≤ m) : Mk k bad nx m p := by
 induction hm with
 | refl => exact h
 | step _ ih => exact .inl ih
def Qu (k : Nat) (bad : S → Nat → Bool) (nx : S → Nat → Option S) : Nat → S → List Nat → Prop
 | 0,_,w => w = []
 | n + 1,p,w => ∃ i u,w = i :: u ∧ i < k ∧ (bad p i = true ∨ ∃ q,nx p i = some q ∧ Mk k bad nx n q) ∧ (∀ j,j < i → ¬ (bad p j = true ∨ ∃ q,nx p j = some q ∧ Mk k bad nx n q)) ∧ (0 < n → ∃ q,nx p i = some q ∧ Qu k bad nx n q u) ∧ (n = 0 → u = [])
end
variable {α : Type}
theorem z3g {p q : α → Bool} : ∀ {l : List α},(∀ x ∈ l,p x = true → q x = true) → (∃ x ∈ l,q x = true ∧ p x = false) → l.countP p < l.countP q
 | [],_,⟨x,hx,_⟩ => by cases hx
 | y :: l,h,⟨x,hx,h1,h2⟩ => by
  have hm : l.countP p ≤ l.countP q := List.countP_mono_left fun z hz => h z (List.mem_cons_of_mem _ hz)
  simp [List.countP_cons]
  rcases List.mem_cons.1 hx with rfl | hx
  ·simp [h1,h2,if_true,Bool.false_eq_true,if_false]
   omega
  ·have := z3g (fun z hz => h z (List.mem_cons_of_mem _ hz)) ⟨x,hx,h1,h2⟩
   cases hp : p y with
   | true => simp [h y (by simp) hp,if_true]; omega
   | false =>
    simp [Bool.false_eq_true,if_false]
    split <;> omega
open Classical in
def zed (N : Nat) (R : Nat → Nat → Prop) : Nat := (List.range N).countP fun s => decide (∀ t,t < s → ¬ R s t)
theorem zkf {N : Nat} (hN : 0 < N) (R : Nat → Nat → Nat → Prop) (symm : ∀ k s t,s < N → t < N → R k s t → R k t s) (trans : ∀ k s t u,s < N → t < N → u < N → R k s t → R k t u → R k s u)
  (refl : ∀ k s,s < N → R k s s) (mono : ∀ k s t,s < N → t < N → R (k + 1) s t → R k s t) (stat : ∀ k,(∀ s t,s < N → t < N → R k s t → R (k + 1) s t) → ∀ s t,s < N → t < N → R (k + 1) s t → R (k + 2) s t) :
  ∀ s t,s < N → t < N → R (N - 1) s t → ∀ j,R j s t := by
 classical
 have step : ∀ k,(¬ ∀ s t,s < N → t < N → R k s t → R (k + 1) s t) → zed N (R k) < zed N (R (k + 1)) := by
  intro k hk
  simp only [Classical.not_forall] at hk
  have ⟨s,t,hs,ht,h1,h2⟩ := hk
  unfold zed
  refine z3g (fun x hx => ?_) ?_
  ·have hx := List.mem_range.1 hx
   simp only [decide_eq_true_eq]
   exact fun h t ht q => h t ht (mono k x t hx (by omega) q)
  ·
   have hmin : ∃ z,z < N ∧ R k z s ∧ ∀ y,y < z → ¬ R k y s := by
    have key : ∀ n,∀ z,z ≤ n → z < N → R k z s → ∃ z,z < N ∧ R k z s ∧ ∀ y,y < z → ¬ R k y s := by
     intro n
     induction n with
     | zero => intro z hz hzN hr; exact ⟨z,hzN,hr,fun y hy => by omega⟩
     | succ n ih =>
      intro z hz hzN hr
      by_cases q : ∃ y,y < z ∧ R k y s
      ·have ⟨y,y1,y2⟩ := q
       exact ih y (by omega) (by omega) y2
      ·exact ⟨z,hzN,hr,fun y hy g => q ⟨y,hy,g⟩⟩
    exact key s s (Nat.le_refl _) hs (refl k s hs)
   have ⟨z,hz,hzs,hzm⟩ := hmin
   have hzt : R k z t := trans k z s t hz hs ht hzs h1
   obtain ⟨u,hu,hzu,hne⟩ : ∃ u,u < N ∧ R k z u ∧ ¬ R (k + 1) z u := by
    by_cases q : R (k + 1) z s
    ·by_cases g : R (k + 1) z t
     ·exact (h2 (trans (k + 1) s z t hs hz ht (symm _ _ _ hz hs q) g)).elim
     ·exact ⟨t,ht,hzt,g⟩
    ·exact ⟨s,hs,hzs,q⟩
   have hmin : ∃ y,y < N ∧ R (k + 1) y u ∧ ∀ x,x < y → ¬ R (k + 1) x u := by
    have key : ∀ n,∀ z,z ≤ n → z < N → R (k + 1) z u → ∃ z,z < N ∧ R (k + 1) z u ∧ ∀ y,y < z → ¬ R (k + 1) y u := by
     intro n
     induction n with
     | zero => intro z hz hzN hr; exact ⟨z,hzN,hr,fun y hy => by omega⟩
     | succ n ih =>
      intro z hz hzN hr
      by_cases q : ∃ y,y < z ∧ R (k + 1) y u
      ·have ⟨y,y1,y2⟩ := q
       exact ih y (by omega) (by omega) y2
      ·exact ⟨z,hzN,hr,fun y hy g => q ⟨y,hy,g⟩⟩
    exact key u u (Nat.le_refl _) hu (refl _ u hu)
   have ⟨y,hy,hyu,hym⟩ := hmin
   have hyk : R k y u := mono k y u hy hu hyu
   have hyz : R k y z := trans k y u z hy hu hz hyk (symm _ _ _ hz hu hzu)
   have hzy : z < y := by
    rcases Nat.lt_trichotomy z y with g | g | g
    ·exact g
    ·subst g; exact (hne hyu).elim
    ·exact (hzm y g (trans k y z s hy hz hs hyz hzs)).elim
   refine ⟨y,List.mem_range.2 hy,?_,?_⟩
   ·simp only [decide_eq_true_eq]
    intro x hx q
    exact hym x hx (trans (k + 1) x y u (by omega) hy hu (symm _ _ _ hy (by omega) q) hyu)
   ·simp only [decide_eq_false_iff_not]
    intro q
    exact q z hzy hyz
 have le : ∀ k,zed N (R k) ≤ N := by
  intro k
  unfold zed
  refine Nat.le_trans (List.countP_le_length) ?_
  simp
 have one : ∀ k,1 ≤ zed N (R k) := by
  intro k
  unfold zed
  refine List.countP_pos_iff.2 ⟨0,List.mem_range.2 hN,?_⟩
  simp
 have rest : ∃ k,k < N ∧ ∀ s t,s < N → t < N → R k s t → R (k + 1) s t := by
  refine Classical.byContradiction fun hno => ?_
  have : ∀ k,k ≤ N → k + 1 ≤ zed N (R k) := by
   intro k
   induction k with
   | zero => intro _; exact one 0
   | succ k ih =>
    intro hk
    have := step k fun h => hno ⟨k,by omega,h⟩
    have := ih (by omega)
    omega
  have := this N (Nat.le_refl _)
  have := le N
  omega
 have ⟨k,hk,hst⟩ := rest
 have up : ∀ d,∀ s t,s < N → t < N → R (k + d) s t → R (k + d + 1) s t := by
  intro d
  induction d with
  | zero => exact hst
  | succ d ih => exact stat (k + d) ih
 have down : ∀ d j s t,s < N → t < N → R (j + d) s t → R j s t := by
  intro d
  induction d with
  | zero => intro j s t _ _ h; exact h
  | succ d ih => intro j s t hs ht h; exact ih j s t hs ht (mono _ s t hs ht h)
 intro s t hs ht h j
 have hk' : R k s t := down (N - 1 - k) k s t hs ht (by rw [show k + (N - 1 - k) = N - 1 by omega]; exact h)
 have far : ∀ d,R (k + d) s t := by
  intro d
  induction d with
  | zero => exact hk'
  | succ d ih => exact up d s t hs ht ih
 exact down k j s t hs ht (by rw [Nat.add_comm]; exact far j)
section
variable {S S' : Type} {k : Nat} {bad : S → Nat → Bool} {nx : S → Nat → Option S} {bad' : S' → Nat → Bool} {nx' : S' → Nat → Option S'} (φ : S → S') (I : S → Prop)
 (hI : ∀ p i q,I p → i < k → nx p i = some q → I q) (hb : ∀ p i,I p → i < k → bad' (φ p) i = bad p i) (hn : ∀ p i,I p → i < k → nx' (φ p) i = (nx p i).map φ)
include hI hb hn
theorem Q1 : ∀ (n : Nat) (p : S),I p → (Mk k bad' nx' n (φ p) ↔ Mk k bad nx n p)
 | 0,_,_ => Iff.rfl
 | n + 1,p,hp => by
  simp [Mk]
  rw [Q1 n p hp]
  constructor
  ·rintro (h | ⟨i,hi,h | ⟨q,hq,h⟩⟩)
   ·exact .inl h
   ·exact .inr ⟨i,hi,.inl (by rw [← hb p i hp hi]; exact h)⟩
   ·rw [hn p i hp hi] at hq
    obtain ⟨r,hr,rfl⟩ := Option.map_eq_some_iff.1 hq
    exact .inr ⟨i,hi,.inr ⟨r,hr,(Q1 n r (hI p i r hp hi hr)).1 h⟩⟩
  ·rintro (h | ⟨i,hi,h | ⟨q,hq,h⟩⟩)
   ·exact .inl h
   ·exact .inr ⟨i,hi,.inl (by rw [hb p i hp hi]; exact h)⟩
   ·exact .inr ⟨i,hi,.inr ⟨φ q,by rw [hn p i hp hi,hq]; rfl,(Q1 n q (hI p i q hp hi hq)).2 h⟩⟩
theorem z14 : ∀ (n : Nat) (p : S) (w : List Nat),I p → Qu k bad' nx' n (φ p) w → Qu k bad nx n p w
 | 0,_,_,_,h => h
 | n + 1,p,w,hp,⟨i,u,e,hi,h1,h2,h3,h4⟩ => by
  refine ⟨i,u,e,hi,?_,?_,?_,h4⟩
  ·rcases h1 with h | ⟨q,hq,h⟩
   ·exact .inl (by rw [← hb p i hp hi]; exact h)
   ·rw [hn p i hp hi] at hq
    obtain ⟨r,hr,rfl⟩ := Option.map_eq_some_iff.1 hq
    exact .inr ⟨r,hr,(Q1 φ I hI hb hn n r (hI p i r hp hi hr)).1 h⟩
  ·intro j hj h
   apply h2 j hj
   rcases h with h | ⟨q,hq,h⟩
   ·exact .inl (by rw [hb p j hp (by omega)]; exact h)
   ·exact .inr ⟨φ q,by rw [hn p j hp (by omega),hq]; rfl,(Q1 φ I hI hb hn n q (hI p j q hp (by omega) hq)).2 h⟩
  ·intro hn0
   have ⟨q,hq,h⟩ := h3 hn0
   rw [hn p i hp hi] at hq
   obtain ⟨r,hr,rfl⟩ := Option.map_eq_some_iff.1 hq
   exact ⟨r,hr,z14 n r u (hI p i r hp hi hr) h⟩
end
def z7K (m : z4) (x : z5) : Bool := (x.To == -1 && x.Out == -1) || (decide (0 ≤ x.To) && decide (x.To < (m.Rows.length : Int)) && decide (0 ≤ x.Out) && decide (x.Out < m.Outputs))
def z9f (m : z4) (r : List z5) : Bool := decide ((r.length : Int) = m.Inputs) && r.all (z7K m)
def chk (m : z4) : Int :=
 if m.Inputs > 16 ∨ m.Outputs > 16 ∨ (m.Rows.length : Int) > 64 then 3 else if m.Inputs < 1 ∨ m.Outputs < 1 ∨ m.Rows.length = 0 then 1 else if m.Rows.all (z9f m) = true then 0 else 1
theorem zfV (m : z4) (x : z5) : Zb m x = some (z7K m x) := by
 unfold Zb uS
 simp [Option.bind_some,Bool.and_true]
 rcases Bool.eq_false_or_eq_true (x.To == (-1) && x.Out == (-1)) with h | h
 ·simp [z7K,h]
 ·rw [h]
  simp [z7K,h,Bool.false_or,cond_false]
  by_cases h1 : (0 : Int) ≤ x.To
  ·by_cases h2 : x.To < (m.Rows.length : Int)
   ·by_cases h3 : (0 : Int) ≤ x.Out
    ·simp [Bool.cond_eq_ite,h1,h2,h3]
    ·simp [Bool.cond_eq_ite,h1,h2,h3]
   ·simp [Bool.cond_eq_ite,h1,h2]
  ·simp [h1]
theorem z7O (m : z4) (r : List z5) (hl : r.length < 4611686018427387904) : zH r m = some (!r.all (z7K m)) := by
 have hloop : loop (fun s => zB r m s) 0 = some (oS (yu (fun i x => if z7K m x = true then none else some (i : Int)) r 0)) := by
  refine qA r hl _ ?_ ?_
  ·intro i x hx
   have hi := (List.getElem?_eq_some_iff.1 hx).1
   unfold zB
   have hd : decide ((i : Int) < ((r.length : Nat) : Int)) = true := by simpa using hi
   rw [hd,cond_true,zx,bdT hx]
   unfold qS
   simp [zfV,Option.bind_some]
   cases z7K m x <;> rfl
  ·unfold zB
   simp
 unfold zH zW
 rw [hloop]
 simp [Option.bind_some]
 cases hf : yu (fun i x => if z7K m x = true then none else some (i : Int)) r 0 with
 | some q =>
  have ⟨i,x,h1,h2⟩ := jm hf
  have hx : z7K m x ≠ true := by
   intro h; rw [if_pos h] at h2; cases h2
  rw [if_neg hx] at h2
  simp [Option.some.injEq] at h2
  have : r.all (z7K m) = false := by
   rw [List.all_eq_false]
   exact ⟨x,List.mem_of_getElem? h1,hx⟩
  rw [this]
  have : (q : Int) ≥ 0 := by rw [← h2]; omega
  show some (decide (q ≥ 0)) = _
  simp [this]
 | none =>
  have : r.all (z7K m) = true := by
   rw [List.all_eq_true]
   intro x hx
   have ⟨i,hi⟩ := List.getElem?_of_mem hx
   have := Zk hf i x hi
   by_cases h : z7K m x = true
   ·exact h
   ·rw [if_neg h] at this; cases this
  rw [this]
  rfl
variable {m : z4}
theorem z9u (h0 : (m.Rows.length : Int) ≤ 64) (h1 : m.Inputs ≤ 16) : loop (fun s => xK m s) 0 = some (oS (yu (fun _ r => if z9f m r = true then none else some (1 : Int)) m.Rows 0)) := by
 refine qA m.Rows (by omega) _ ?_ ?_
 ·intro i r hr
  have hi := (List.getElem?_eq_some_iff.1 hr).1
  unfold xK
  have hd : decide ((i : Int) < ((m.Rows.length : Nat) : Int)) = true := by simpa using hi
  rw [hd,cond_true,zx,bdT hr]
  by_cases hlen : (r.length : Int) = m.Inputs
  ·have hne : (((r.length : Nat) : Int) != m.Inputs) = false := by simpa using hlen
   rw [hne,cond_false,bdT (z7O m r (by omega))]
   have : z9f m r = r.all (z7K m) := by simp [z9f,hlen]
   rw [this]
   cases r.all (z7K m) <;> rfl
  ·have hne : (((r.length : Nat) : Int) != m.Inputs) = true := by simpa using hlen
   rw [hne,cond_true]
   have : z9f m r = false := by simp [z9f,hlen]
   rw [this]; rfl
 ·unfold xK
  simp
theorem z9d (m : z4) : yu (fun _ r => if z9f m r = true then none else some (1 : Int)) m.Rows 0 = if m.Rows.all (z9f m) = true then none else some 1 := by
 by_cases h : m.Rows.all (z9f m) = true
 ·rw [if_pos h]
  refine VF fun i r hr => ?_
  rw [if_pos (List.all_eq_true.1 h r (List.mem_of_getElem? hr))]
 ·rw [if_neg h]
  cases hf : yu (fun _ r => if z9f m r = true then none else some (1 : Int)) m.Rows 0 with
  | some q =>
   have ⟨i,x,h1,h2⟩ := jm hf
   split at h2
   ·cases h2
   ·exact h2.symm ▸ rfl
  | none =>
   exfalso
   apply h
   rw [List.all_eq_true]
   intro x hx
   have ⟨i,hi⟩ := List.getElem?_of_mem hx
   have := Zk hf i x hi
   by_cases h : z9f m x = true
   ·exact h
   ·rw [if_neg h] at this; cases this
theorem z2j (m : z4) : yX m = some (chk m) := by
 unfold yX chk
 by_cases h1 : m.Inputs > 16
 ·simp [h1]
 by_cases h2 : m.Outputs > 16
 ·simp [Bool.cond_eq_ite,h1,h2]
 by_cases h3 : (m.Rows.length : Int) > 64
 ·simp [Bool.cond_eq_ite,h1,h2,h3]
 rw [if_neg (by simp [h1,h2,h3])]
 by_cases h4 : m.Inputs < 1
 ·simp [Bool.cond_eq_ite,h1,h2,h3,h4]
 by_cases h5 : m.Outputs < 1
 ·simp [Bool.cond_eq_ite,h1,h2,h3,h4,h5]
 by_cases h6 : m.Rows.length = 0
 ·simp [Bool.cond_eq_ite,h1,h2,h4,h5,h6]
 rw [if_neg (by simp [h4,h5,h6])]
 have h6' : decide (((m.Rows.length : Nat) : Int) < 1) = false := by simp; omega
 have e1 : decide (m.Inputs > 16) = false := by simpa using h1
 have e2 : decide (m.Outputs > 16) = false := by simpa using h2
 have e3 : decide (((m.Rows.length : Nat) : Int) > 64) = false := by simpa using h3
 have e4 : decide (m.Inputs < 1) = false := by simpa using h4
 have e5 : decide (m.Outputs < 1) = false := by simpa using h5
 simp only [e1,e2,e3,e4,e5,h6',cond_false]
 rw [bdT (z9u (by omega) (by omega)),z9d]
 by_cases h : m.Rows.all (z9f m) = true
 ·rw [if_pos h,if_pos h]; rfl
 ·rw [if_neg h,if_neg h]; rfl
structure VM (m : z4) : Prop where
 in1 : 1 ≤ m.Inputs
 in16 : m.Inputs ≤ 16
 out1 : 1 ≤ m.Outputs
 out16 : m.Outputs ≤ 16
 len1 : 1 ≤ m.Rows.length
 len64 : m.Rows.length ≤ 64
 row : ∀ r ∈ m.Rows,(r.length : Int) = m.Inputs
 edge : ∀ r ∈ m.Rows,∀ x ∈ r,(x.To = -1 ∧ x.Out = -1) ∨ (0 ≤ x.To ∧ x.To < (m.Rows.length : Int) ∧ 0 ≤ x.Out ∧ x.Out < m.Outputs)
theorem z8R (h : VM m) : chk m = 0 := by
 unfold chk
 have := h.in1; have := h.in16; have := h.out1; have := h.out16; have := h.len1; have := h.len64
 rw [if_neg (by omega),if_neg (by omega),if_pos]
 rw [List.all_eq_true]
 intro r hr
 simp [z9f,Bool.and_eq_true,decide_eq_true_eq,List.all_eq_true]
 refine ⟨h.row r hr,fun x hx => ?_⟩
 simp [z7K,Bool.or_eq_true,Bool.and_eq_true,beq_iff_eq,decide_eq_true_eq]
 rcases h.edge r hr x hx with ⟨a,b⟩ | ⟨a,b,c,d⟩
 ·exact .inl ⟨a,b⟩
 ·exact .inr ⟨⟨⟨a,b⟩,c⟩,d⟩
def kk (m : z4) : Nat := m.Inputs.toNat
def E (m : z4) (s i : Nat) : z5 := ((m.Rows[s]?.getD [])[i]?).getD ⟨-1,-1⟩
variable {s i : Nat}{β : Type}
section
variable {m : z4} (h : VM m)
include h
theorem VM.kk_eq : ((kk m : Nat) : Int) = m.Inputs := by have := h.in1; unfold kk; omega
theorem VM.kk_pos : 1 ≤ kk m := by have := h.in1; unfold kk; omega
theorem VM.kk_le : kk m ≤ 16 := by have := h.in16; unfold kk; omega
theorem VM.rowAt {s : Nat} (hs : s < m.Rows.length) : ∃ r,m.Rows[s]? = some r ∧ r.length = kk m ∧ ∀ i,i < kk m → r[i]? = some (E m s i) := by
 have hr := List.getElem?_eq_getElem hs
 have hl := h.row _ (List.getElem_mem hs)
 have hl' : m.Rows[s].length = kk m := by unfold kk; omega
 refine ⟨_,hr,hl',fun i hi => ?_⟩
 have hi' : i < m.Rows[s].length := by omega
 unfold E
 rw [hr]
 simp [Option.getD_some]
 rw [List.getElem?_eq_getElem hi']
 rfl
theorem VM.edgeAt (hs : s < m.Rows.length) (hi : i < kk m) : ((E m s i).To = -1 ∧ (E m s i).Out = -1) ∨ (0 ≤ (E m s i).To ∧ (E m s i).To < (m.Rows.length : Int) ∧ 0 ≤ (E m s i).Out ∧ (E m s i).Out < m.Outputs) := by
 have ⟨r,h1,_,h2⟩ := h.rowAt hs
 exact h.edge r (List.mem_of_getElem? h1) _ (List.mem_of_getElem? (h2 i hi))
theorem VM.edge_eq (hs : s < m.Rows.length) (hi : i < kk m)  {f : z5 → Option β} :
  (Option.bind (idx m.Rows (s : Int)) fun r => Option.bind (idx r (i : Int)) f) = f (E m s i) := by
 have ⟨r,h1,_,h2⟩ := h.rowAt hs
 rw [zx,h1,Option.bind_some,zx,h2 i hi,Option.bind_some]
end
section
variable {K V : Type} [BEq K] [LawfulBEq K]
theorem z2d (l : List (K × V)) (x y : K) (v : V) : z0Z (z9i l x v) y = if (x == y) = true then some v else z0Z l y := by
 induction l with
 | nil => simp [z9i,z0Z]
 | cons p l ih =>
  simp [z9i]
  by_cases h : p.1 = x
  ·rw [if_pos (by simpa using h)]
   simp [z0Z]
   by_cases q : x = y
   ·rw [if_pos (by simpa using q),if_pos (by simpa using q)]
   ·rw [if_neg (by simpa using q),if_neg (by simpa using q),if_neg (by rw [h]; simpa using q)]
  ·rw [if_neg (by simpa using h)]
   simp [z0Z,ih]
   by_cases q : p.1 = y
   ·have q' : ¬ x = y := by rintro rfl; exact h q
    have e1 : (p.1 == y) = true := by simpa using q
    have e2 : (x == y) = false := by simpa using q'
    simp [e1,e2]
   ·have e1 : (p.1 == y) = false := by simpa using q
    simp [e1]
end
theorem ZI : ∀ (n : Nat) (l : List Nat),l.Nodup → (∀ x ∈ l,x < n) → l.length ≤ n
 | 0,l,_,h => by
  cases l with
  | nil => simp
  | cons x l => have := h x (by simp); omega
 | n + 1,l,hd,h => by
  by_cases hm : n ∈ l
  ·have h1 := List.length_erase_of_mem hm
   have h2 := ZI n (l.erase n) (hd.erase n) fun x hx => by
    have h3 := (hd.mem_erase_iff).1 hx
    have := h x h3.2
    have := h3.1
    omega
   have : 0 < l.length := List.length_pos_of_mem hm
   omega
  ·have := ZI n l hd fun x hx => by
    have := h x hx
    have : x ≠ n := fun e => hm (e ▸ hx)
    omega
   omega
def qn (a b : z4) (p : Nat × Nat) (i : Nat) : Bool := (E a p.1 i).Out != (E b p.2 i).Out
def nxP (a b : z4) (p : Nat × Nat) (i : Nat) : Option (Nat × Nat) := if 0 ≤ (E a p.1 i).To ∧ 0 ≤ (E b p.2 i).To then some ((E a p.1 i).To.toNat,(E b p.2 i).To.toNat) else none
def pA (q : Nat × Nat) : ye Int := ⟨q.1,q.2⟩
theorem z7I {a b : z4} (hab : a.Inputs = b.Inputs) : kk a = kk b := by unfold kk; rw [hab]
structure WM (m : z4) : Prop where
 in1 : 1 ≤ m.Inputs
 in16 : m.Inputs ≤ 16
 len1 : 1 ≤ m.Rows.length
 len : m.Rows.length ≤ 128
 row : ∀ r ∈ m.Rows,(r.length : Int) = m.Inputs
 edge : ∀ r ∈ m.Rows,∀ x ∈ r,(x.To = -1 ∧ x.Out = -1) ∨ (0 ≤ x.To ∧ x.To < (m.Rows.length : Int) ∧ 0 ≤ x.Out)
theorem VM.wm (h : VM m) : WM m := ⟨h.in1,h.in16,h.len1,by have := h.len64; omega,h.row,fun r hr x hx => by
 rcases h.edge r hr x hx with g | ⟨g1,g2,g3,_⟩
 ·exact .inl g
 ·exact .inr ⟨g1,g2,g3⟩⟩
variable {p : Nat × Nat}
section
variable {m : z4} (h : WM m)
include h
theorem WM.kk_eq : ((kk m : Nat) : Int) = m.Inputs := by have := h.in1; unfold kk; omega
theorem WM.kk_le : kk m ≤ 16 := by have := h.in16; unfold kk; omega
theorem WM.rowAt {s : Nat} (hs : s < m.Rows.length) : ∃ r,m.Rows[s]? = some r ∧ r.length = kk m ∧ ∀ i,i < kk m → r[i]? = some (E m s i) := by
 have hr := List.getElem?_eq_getElem hs
 have hl := h.row _ (List.getElem_mem hs)
 have hl' : m.Rows[s].length = kk m := by unfold kk; omega
 refine ⟨_,hr,hl',fun i hi => ?_⟩
 have hi' : i < m.Rows[s].length := by omega
 unfold E
 rw [hr]
 simp [Option.getD_some]
 rw [List.getElem?_eq_getElem hi']
 rfl
theorem WM.edgeAt (hs : s < m.Rows.length) (hi : i < kk m) : ((E m s i).To = -1 ∧ (E m s i).Out = -1) ∨ (0 ≤ (E m s i).To ∧ (E m s i).To < (m.Rows.length : Int) ∧ 0 ≤ (E m s i).Out) := by
 have ⟨r,h1,_,h2⟩ := h.rowAt hs
 exact h.edge r (List.mem_of_getElem? h1) _ (List.mem_of_getElem? (h2 i hi))
theorem WM.edge_eq (hs : s < m.Rows.length) (hi : i < kk m)  {f : z5 → Option β} :
  (Option.bind (idx m.Rows (s : Int)) fun r => Option.bind (idx r (i : Int)) f) = f (E m s i) := by
 have ⟨r,h1,_,h2⟩ := h.rowAt hs
 rw [zx,h1,Option.bind_some,zx,h2 i hi,Option.bind_some]
theorem WM.nx_in {i : Nat} {q : Nat × Nat} (h1 : p.1 < m.Rows.length) (h2 : p.2 < m.Rows.length) (hi : i < kk m) (hq : nxP m m p i = some q) : q.1 < m.Rows.length ∧ q.2 < m.Rows.length := by
 unfold nxP at hq
 split at hq
 ·rename_i hc
  cases hq
  have a := h.edgeAt h1 hi
  have b := h.edgeAt h2 hi
  simp only
  omega
 ·cases hq
end
def mkb (k : Nat) (bad : Nat × Nat → Nat → Bool) (nx : Nat × Nat → Nat → Option (Nat × Nat)) : Nat → Nat × Nat → Bool
 | 0,_ => false
 | n + 1,p => mkb k bad nx n p || (List.range k).any fun i => bad p i || (match nx p i with | some q => mkb k bad nx n q | none => false)
theorem VA (k : Nat) (bad : Nat × Nat → Nat → Bool) (nx : Nat × Nat → Nat → Option (Nat × Nat)) : ∀ (n : Nat) (p : Nat × Nat),mkb k bad nx n p = true ↔ Mk k bad nx n p
 | 0,p => by simp [mkb,Mk]
 | n + 1,p => by
  simp only [mkb,Mk,Bool.or_eq_true,List.any_eq_true,List.mem_range,VA k bad nx n p]
  constructor
  ·rintro (h | ⟨i,hi,h | h⟩)
   ·exact .inl h
   ·exact .inr ⟨i,hi,.inl h⟩
   ·cases hq : nx p i with
    | none => rw [hq] at h; cases h
    | some q => rw [hq] at h; exact .inr ⟨i,hi,.inr ⟨q,hq,(VA k bad nx n q).1 h⟩⟩
  ·rintro (h | ⟨i,hi,h | ⟨q,hq,h⟩⟩)
   ·exact .inl h
   ·exact .inr ⟨i,hi,.inl h⟩
   ·exact .inr ⟨i,hi,.inr (by rw [hq]; exact (VA k bad nx n q).2 h)⟩
def tab (N : Nat) (f : Nat → Nat → Bool) : List (List Bool) := (List.range N).map fun s => (List.range N).map fun t => f s t
theorem z62 {N s t : Nat} (f : Nat → Nat → Bool) (hs : s < N) (ht : t < N)  {g : Bool → Option β} : (Option.bind (idx (tab N f) (s : Int)) fun r => Option.bind (idx r (t : Int)) g) = g (f s t) := by
 have e1 : (tab N f)[s]? = some ((List.range N).map fun t => f s t) := by simp [tab,hs]
 have e2 : ((List.range N).map fun t => f s t)[t]? = some (f s t) := by simp [ht]
 rw [zx,e1,Option.bind_some,zx,e2,Option.bind_some]
theorem JG (N t : Nat) (g : Nat → α) (v : α) : ((List.range N).map g).set t v = (List.range N).map fun x => if x = t then v else g x := by
 refine List.ext_getElem (by simp) fun n h1 h2 => ?_
 simp [List.getElem_set,List.getElem_map,List.getElem_range]
 by_cases e : t = n
 ·rw [if_pos e,if_pos e.symm]
 ·rw [if_neg e,if_neg (Ne.symm e)]
def UU (m : z4) (f : Nat → Nat → Bool) (p : Nat × Nat) (i : Nat) : Bool := qn m m p i || (match nxP m m p i with | some q => f q.1 q.2 | none => false)
theorem zdR (h : WM m) (f : Nat → Nat → Bool) {s t : Nat} (hs : s < m.Rows.length) (ht : t < m.Rows.length) :
  XA m (tab m.Rows.length f) (s : Int) (t : Int) = some (if (List.range (kk m)).any (UU m f (s,t)) = true then 1 else 0) := by
 have hk := h.kk_eq
 have k16 := h.kk_le
 have hl : loop (fun q => vG m (tab m.Rows.length f) (s : Int) (t : Int) q) 0 = some (oS (yu (fun _ i => if UU m f (s,t) i = true then some (1 : Int) else none) (List.range (kk m)) 0)) := by
  refine qA (List.range (kk m)) (by simp; omega) _ ?_ ?_
  ·intro i x hx
   have hi : i < kk m := by have := (List.getElem?_eq_some_iff.1 hx).1; simpa using this
   have : x = i := by rw [List.getElem?_range hi] at hx; exact (Option.some.inj hx).symm
   subst this
   unfold vG vH
   have hd : decide ((x : Int) < m.Inputs) = true := by rw [← hk]; simpa using hi
   rw [hd,cond_true,h.edge_eq hs hi,h.edge_eq ht hi]
   have e1 := h.edgeAt hs hi
   have e2 := h.edgeAt ht hi
   by_cases hbad : (E m s x).Out = (E m t x).Out
   ·have n1 : ((E m s x).Out != (E m t x).Out) = false := by simpa using hbad
    rw [n1,cond_false]
    by_cases t1 : (E m s x).To ≥ 0
    ·by_cases t2 : (E m t x).To ≥ 0
     ·have hnx : nxP m m (s,t) x = some ((E m s x).To.toNat,(E m t x).To.toNat) := by unfold nxP; rw [if_pos ⟨t1,t2⟩]
      have hin := h.nx_in hs ht hi hnx
      have c1 : (E m s x).To = (((E m s x).To.toNat : Nat) : Int) := by omega
      have c2 : (E m t x).To = (((E m t x).To.toNat : Nat) : Int) := by omega
      have ht1 : UU m f (s,t) x = f (E m s x).To.toNat (E m t x).To.toNat := by
       unfold UU qn
       rw [hnx]
       simp [n1,Bool.false_or]
      rw [decide_eq_true t1,decide_eq_true t2]
      simp [cond_true]
      have := z62 f hin.1 hin.2 (g := fun v => bif v then some (LR.done (Sum.inr (1 : Int)) : LR Int (Unit ⊕ Int)) else some (LR.next (w64 ((x : Int) + 1))))
      rw [← c1,← c2] at this
      rw [this,ht1]
      cases f (E m s x).To.toNat (E m t x).To.toNat <;> rfl
     ·have ht1 : UU m f (s,t) x = false := by
       unfold UU qn nxP
       rw [if_neg (by simp only; omega)]
       simp [n1,Bool.false_or]
      rw [decide_eq_true t1,decide_eq_false t2,ht1]
      rfl
    ·have ht1 : UU m f (s,t) x = false := by
      unfold UU qn nxP
      rw [if_neg (by simp only; omega)]
      simp [n1,Bool.false_or]
     rw [decide_eq_false t1,ht1]
     rfl
   ·have n1 : ((E m s x).Out != (E m t x).Out) = true := by simpa using hbad
    have ht1 : UU m f (s,t) x = true := by
     unfold UU qn
     simp [n1,Bool.true_or]
    rw [n1,ht1]
    rfl
  ·unfold vG
   rw [List.length_range,hk]
   simp
 unfold XA
 rw [bdT hl]
 cases hf : yu (fun (_ : Nat) i => if UU m f (s,t) i = true then some (1 : Int) else none) (List.range (kk m)) 0 with
 | some q =>
  have ⟨i,x,h1,h2⟩ := jm hf
  split at h2
  ·rename_i hx
   cases h2
   have : (List.range (kk m)).any (UU m f (s,t)) = true := List.any_eq_true.2 ⟨x,List.mem_of_getElem? h1,hx⟩
   rw [if_pos this]
   rfl
  ·cases h2
 | none =>
  have : ¬ (List.range (kk m)).any (UU m f (s,t)) = true := by
   rw [List.any_eq_true]
   rintro ⟨x,hx,hx2⟩
   have ⟨i,hi⟩ := List.getElem?_of_mem hx
   have := Zk hf i x hi
   rw [if_pos hx2] at this
   cases this
  rw [if_neg this]
  rfl
theorem zaf (N : Nat) : List.replicate ((N : Nat) : Int).toNat false = (List.range N).map fun _ => false := by
 refine List.ext_getElem (by simp) fun n h1 h2 => ?_
 simp
def XW (m : z4) (f : Nat → Nat → Bool) (s t : Nat) : Bool := f s t || (List.range (kk m)).any (UU m f (s,t))
theorem zcJ (h : WM m) (f : Nat → Nat → Bool) : loop (fun q => xX m (tab m.Rows.length f) q.1 q.2) (([] : List (List Bool)),0) = some (tab m.Rows.length (XW m f)) := by
 have l128 := h.len
 have row : ∀ (s : Nat),s < m.Rows.length → loop (fun q => xW m (tab m.Rows.length f) (s : Int) q.1 q.2) (((List.range s).map fun s => (List.range m.Rows.length).map fun t => XW m f s t) ++ [(List.range m.Rows.length).map fun _ => false],0) = some ((List.range (s + 1)).map fun s => (List.range m.Rows.length).map fun t => XW m f s t) := by
  intro s hs
  have hst := xG (step := fun q => xW m (tab m.Rows.length f) (s : Int) q.1 q.2) (fun t : Nat => (((List.range s).map fun s => (List.range m.Rows.length).map fun t => XW m f s t) ++ [(List.range m.Rows.length).map fun t' => if t' < t then XW m f s t' else false],(t : Int))) m.Rows.length (t := (List.range (s + 1)).map fun s => (List.range m.Rows.length).map fun t => XW m f s t) (by omega) ?_ ?_
  ·simpa using hst
  ·intro t ht
   unfold xW
   have hd : decide ((t : Int) < ((m.Rows.length : Nat) : Int)) = true := by simpa using ht
   have hw : w64 ((t : Int) + 1) = ((t + 1 : Nat) : Int) := by rw [zm (by omega) (by omega)]; rfl
   simp only [hd,cond_true]
   have e1 : (((List.range s).map fun s => (List.range m.Rows.length).map fun t => XW m f s t) ++ [(List.range m.Rows.length).map fun t' => if t' < t then XW m f s t' else false])[s]? = some ((List.range m.Rows.length).map fun t' => if t' < t then XW m f s t' else false) := by
    rw [List.getElem?_append_right (by simp)]
    simp
   have e2 : ∀ x,((List.range m.Rows.length).map fun t' => if t' < t then XW m f s t' else false)[t]? = some x ↔ x = false := by
    intro x
    simp [ht,eq_comm]
   have e2' := (e2 false).2 rfl
   have fin : ∀ v : Bool,v = XW m f s t → (((List.range s).map fun s => (List.range m.Rows.length).map fun t => XW m f s t) ++ [(List.range m.Rows.length).map fun t' => if t' < t then XW m f s t' else false]).set s (((List.range m.Rows.length).map fun t' => if t' < t then XW m f s t' else false).set t v) = ((List.range s).map fun s => (List.range m.Rows.length).map fun t => XW m f s t) ++ [(List.range m.Rows.length).map fun t' => if t' < t + 1 then XW m f s t' else false] := by
    intro v hv
    rw [List.set_append,if_neg (by simp),JG]
    simp only [List.length_map,List.length_range,Nat.sub_self,List.set_cons_zero]
    congr 3
    funext x
    by_cases e : x = t
    ·subst e; rw [if_pos rfl,if_pos (by omega)]; exact hv
    ·rw [if_neg e]
     by_cases g : x < t
     ·rw [if_pos g,if_pos (by omega)]
     ·rw [if_neg g,if_neg (by omega)]
   rw [zx,bdT e1,z62 f hs ht]
   cases hf : f s t with
   | true =>
    simp only [cond_true]
    rw [zx,bdT e2',hw,Int.toNat_natCast,Int.toNat_natCast,fin true (by simp [XW,hf])]
   | false =>
    simp only [cond_false]
    rw [bdT (zdR h f hs ht),zx,bdT e2',hw,Int.toNat_natCast,Int.toNat_natCast,fin _ ?_]
    unfold XW
    rw [hf,Bool.false_or]
    cases (List.range (kk m)).any (UU m f (s,t)) <;> rfl
  ·unfold xW
   simp only [Int.lt_irrefl,decide_false,cond_false]
   congr 3
   rw [List.range_succ,List.map_append]
   congr 1
   simp only [List.map_cons,List.map_nil]
   congr 1
   refine List.map_congr_left fun x hx => ?_
   rw [if_pos (List.mem_range.1 hx)]
 have := xG (step := fun q => xX m (tab m.Rows.length f) q.1 q.2) (fun s : Nat => ((List.range s).map fun s => (List.range m.Rows.length).map fun t => XW m f s t,(s : Int))) m.Rows.length (t := tab m.Rows.length (XW m f)) (by omega) ?_ ?_
 ·exact this
 ·intro s hs
  unfold xX kM
  have hd : decide ((s : Int) < ((m.Rows.length : Nat) : Int)) = true := by simpa using hs
  have hw : w64 ((s : Int) + 1) = ((s + 1 : Nat) : Int) := by rw [zm (by omega) (by omega)]; rfl
  simp only [hd,cond_true]
  rw [gdT (by omega),gdT (by simp; omega),zaf,bdT (row s hs),hw]
 ·unfold xX
  simp only [Int.lt_irrefl,decide_false,cond_false]
  rfl
def mrk (m : z4) (n s t : Nat) : Bool := mkb (kk m) (qn m m) (nxP m m) n (s,t)
theorem zcX (m : z4) (n : Nat) : XW m (mrk m n) = mrk m (n + 1) := by
 funext s t
 unfold XW mrk
 simp [mkb]
 congr 1
theorem z35 (h : WM m) (n : Nat) (hn : n ≤ 1000000) : uB m (n : Int) = some (tab m.Rows.length (mrk m n)) := by
 have l128 := h.len
 have l9 : loop (fun q => xV m q.1 q.2) (([] : List (List Bool)),0) = some (tab m.Rows.length (mrk m 0)) := by
  have := xG (step := fun q => xV m q.1 q.2) (fun s : Nat => ((List.range s).map fun _ => (List.range m.Rows.length).map fun _ => false,(s : Int))) m.Rows.length (t := tab m.Rows.length (mrk m 0)) (by omega) ?_ ?_
  ·exact this
  ·intro s hs
   unfold xV
   have hd : decide ((s : Int) < ((m.Rows.length : Nat) : Int)) = true := by simpa using hs
   have hw : w64 ((s : Int) + 1) = ((s + 1 : Nat) : Int) := by rw [zm (by omega) (by omega)]; rfl
   simp only [hd,cond_true]
   rw [gdT (by omega),gdT (by simp; omega),zaf,hw,List.range_succ,List.map_append]
   rfl
  ·unfold xV
   simp only [Int.lt_irrefl,decide_false,cond_false]
   rfl
 have l3 := xG (step := fun q => xY m (n : Int) q.1 q.2) (fun r : Nat => (tab m.Rows.length (mrk m r),(r : Int))) n (t := tab m.Rows.length (mrk m n)) (by omega) ?_ ?_
 ·unfold uB kQ kP
  rw [bdT l9]
  have l3' : loop (fun q => xY m (n : Int) q.1 q.2) (tab m.Rows.length (mrk m 0),0) = some (tab m.Rows.length (mrk m n)) := l3
  rw [bdT l3']
 ·intro r hr
  unfold xY kN kO
  have hd : decide ((r : Int) < (n : Int)) = true := by simpa using hr
  have hw : w64 ((r : Int) + 1) = ((r + 1 : Nat) : Int) := by rw [zm (by omega) (by omega)]; rfl
  simp only [hd,cond_true]
  rw [bdT (zcJ h (mrk m r)),zcX,hw]
 ·unfold xY
  simp only [Int.lt_irrefl,decide_false,cond_false]
theorem z8v (h : WM m) {s t : Nat} (hs : s < m.Rows.length) (ht : t < m.Rows.length) {j : Nat} (hj : Mk (kk m) (qn m m) (nxP m m) j (s,t)) : Mk (kk m) (qn m m) (nxP m m) (m.Rows.length - 1) (s,t) := by
 refine Classical.byContradiction fun hno => ?_
 have same : ∀ {p : Nat × Nat} {i : Nat},p.1 < m.Rows.length → p.2 < m.Rows.length → i < kk m → qn m m p i = false → ((E m p.1 i).To ≥ 0 ↔ (E m p.2 i).To ≥ 0) := by
  intro p i h1 h2 hi hb
  have e : (E m p.1 i).Out = (E m p.2 i).Out := by simpa [qn] using hb
  have a := h.edgeAt h1 hi
  have b := h.edgeAt h2 hi
  omega
 have symm : ∀ k s t,Mk (kk m) (qn m m) (nxP m m) k (s,t) → Mk (kk m) (qn m m) (nxP m m) k (t,s) := by
  intro k
  induction k with
  | zero => intro s t h; exact h
  | succ k ih =>
   rintro s t (h | ⟨i,hi,h | ⟨q,hq,h⟩⟩)
   ·exact .inl (ih _ _ h)
   ·exact .inr ⟨i,hi,.inl (by
     unfold qn at h ⊢
     simp [bne_iff_ne,ne_eq] at h ⊢
     exact fun e => h e.symm)⟩
   ·refine .inr ⟨i,hi,.inr ⟨(q.2,q.1),?_,ih _ _ h⟩⟩
    unfold nxP at hq ⊢
    split at hq
    ·rename_i hc
     cases hq
     rw [if_pos ⟨hc.2,hc.1⟩]
    ·cases hq
 have trans : ∀ k s t u,s < m.Rows.length → t < m.Rows.length → u < m.Rows.length → Mk (kk m) (qn m m) (nxP m m) k (s,u) → Mk (kk m) (qn m m) (nxP m m) k (s,t) ∨ Mk (kk m) (qn m m) (nxP m m) k (t,u) := by
  intro k
  induction k with
  | zero => intro s t u _ _ _ h; exact h.elim
  | succ k ih =>
   rintro s t u hs ht hu (g | ⟨i,hi,g | ⟨q,hq,g⟩⟩)
   ·rcases ih s t u hs ht hu g with g | g
    ·exact .inl (.inl g)
    ·exact .inr (.inl g)
   ·cases b1 : qn m m (s,t) i with
    | true => exact .inl (.inr ⟨i,hi,.inl b1⟩)
    | false =>
     refine .inr (.inr ⟨i,hi,.inl ?_⟩)
     unfold qn at b1 g ⊢
     simp [bne_iff_ne,ne_eq,bne_eq_false_iff_eq] at b1 g ⊢
     rw [← b1]
     exact g
   ·cases b1 : qn m m (s,t) i with
    | true => exact .inl (.inr ⟨i,hi,.inl b1⟩)
    | false =>
     cases b2 : qn m m (t,u) i with
     | true => exact .inr (.inr ⟨i,hi,.inl b2⟩)
     | false =>
      have c1 := same (p := (s,t)) hs ht hi b1
      have c2 := same (p := (t,u)) ht hu hi b2
      simp only at c1 c2
      unfold nxP at hq
      split at hq
      ·rename_i hc
       cases hq
       simp only at hc g
       have e1 := h.edgeAt hs hi
       have e2 := h.edgeAt ht hi
       have e3 := h.edgeAt hu hi
       rcases ih (E m s i).To.toNat (E m t i).To.toNat (E m u i).To.toNat (by omega) (by omega) (by omega) g with g | g
       ·exact .inl (.inr ⟨i,hi,.inr ⟨_,by unfold nxP; rw [if_pos ⟨hc.1,by simp only; omega⟩],g⟩⟩)
       ·exact .inr (.inr ⟨i,hi,.inr ⟨_,by unfold nxP; rw [if_pos ⟨by simp only; omega,hc.2⟩],g⟩⟩)
      ·cases hq
 have refl : ∀ k s,¬ Mk (kk m) (qn m m) (nxP m m) k (s,s) := by
  intro k
  induction k with
  | zero => intro s h; exact h
  | succ k ih =>
   rintro s (g | ⟨i,hi,g | ⟨q,hq,g⟩⟩)
   ·exact ih s g
   ·simp [qn] at g
   ·unfold nxP at hq
    split at hq
    ·cases hq; exact ih _ g
    ·cases hq
 exact zkf (N := m.Rows.length) h.len1 (fun k s t => ¬ Mk (kk m) (qn m m) (nxP m m) k (s,t)) (fun k s t _ _ g q => g (symm k t s q)) (fun k s t u hs ht hu g1 g2 q => by
   rcases trans k s t u hs ht hu q with g | g
   ·exact g1 g
   ·exact g2 g) (fun k s _ => refl k s) (fun k s t _ _ g q => g (.inl q)) (fun k hk s t hs ht g q => by
   rcases q with q | ⟨i,hi,q | ⟨r,hr,q⟩⟩
   ·exact g q
   ·exact g (.inr ⟨i,hi,.inl q⟩)
   ·have hin := h.nx_in (p := (s,t)) hs ht hi hr
    have : Mk (kk m) (qn m m) (nxP m m) k r := Classical.byContradiction fun c => hk r.1 r.2 hin.1 hin.2 c q
    exact g (.inr ⟨i,hi,.inr ⟨r,hr,this⟩⟩)) s t hs ht hno j hj
theorem z7y {a k : Int} (h0 : 0 ≤ a) (hk : 1 ≤ k) (hk2 : k ≤ 1000000) : 1 ≤ w64 (1 + w64 (Int.tmod a k)) ∧ w64 (1 + w64 (Int.tmod a k)) ≤ k := by
 have h1 := Int.tmod_nonneg k h0
 have h2 := Int.tmod_lt_of_pos a (show 0 < k by omega)
 rw [zm (x := Int.tmod a k) (by omega) (by omega),zm (by omega) (by omega)]
 omega
def shE (n : Nat) (x : z5) : z5 := if x.To ≥ 0 then ⟨x.To + (n : Int),x.Out⟩ else x
def bes (a b : z4) : z4 := ⟨a.Inputs,mx a.Outputs b.Outputs,a.Rows ++ b.Rows.map (List.map (shE a.Rows.length))⟩
section
variable {a b : z4} (va : VM a) (vb : VM b) (hab : a.Inputs = b.Inputs)
theorem z5q : (bes a b).Rows.length = a.Rows.length + b.Rows.length := by simp [bes]
include va vb hab
theorem zi1 : WM (bes a b) := by
 have := va.len64; have := vb.len64; have := va.len1
 refine ⟨va.in1,va.in16,by rw [z5q]; omega,by rw [z5q]; omega,fun r hr => ?_,fun r hr x hx => ?_⟩
 ·simp only [bes] at hr ⊢
  rcases List.mem_append.1 hr with g | g
  ·exact va.row r g
  ·obtain ⟨r',h1,rfl⟩ := List.mem_map.1 g
   rw [List.length_map,hab]
   exact vb.row r' h1
 ·rw [z5q]
  simp only [bes] at hr
  rcases List.mem_append.1 hr with g | g
  ·rcases va.edge r g x hx with q | ⟨q1,q2,q3,_⟩
   ·exact .inl q
   ·exact .inr ⟨q1,by omega,q3⟩
  ·obtain ⟨r',h1,rfl⟩ := List.mem_map.1 g
   obtain ⟨x',h2,rfl⟩ := List.mem_map.1 hx
   unfold shE
   rcases vb.edge r' h1 x' h2 with q | ⟨q1,q2,q3,_⟩
   ·rw [if_neg (by omega)]
    exact .inl q
   ·rw [if_pos q1]
    exact .inr ⟨by simp only; omega,by simp only; omega,q3⟩
end
theorem z8T {a b : z4}  (hs : s < a.Rows.length) : E (bes a b) s i = E a s i := by
 unfold E bes
 simp only
 rw [List.getElem?_append_left hs]
theorem z6W {a b : z4} (vb : VM b)  (hs : s < b.Rows.length) (hi : i < kk b) : E (bes a b) (a.Rows.length + s) i = shE a.Rows.length (E b s i) := by
 have ⟨r,h1,h2,h3⟩ := vb.rowAt hs
 unfold E bes
 simp only
 rw [List.getElem?_append_right (by omega),Nat.add_sub_cancel_left,List.getElem?_map,h1]
 simp only [Option.map_some,Option.getD_some]
 rw [List.getElem?_map]
 have h3 := h3 i hi
 rw [h3]
 rfl
theorem zfd (n : Nat) (x : z5) : (shE n x).Out = x.Out := by unfold shE; split <;> rfl
theorem zbn {a b : z4} (va : VM a) (vb : VM b) : Yc a b = some (bes a b) := by
 have la := va.len64; have lb := vb.len64; have k16 := vb.kk_le; have hk := vb.kk_eq
 have l8 : loop (fun s => xS a s.1 s.2) (([] : List (List z5)),0) = some a.Rows := by
  have := xG (step := fun s => xS a s.1 s.2) (fun i : Nat => (a.Rows.take i,(i : Int))) a.Rows.length (t := a.Rows) (by omega) ?_ ?_
  ·exact this
  ·intro i hi
   have hx : a.Rows[i]? = some a.Rows[i] := List.getElem?_eq_getElem hi
   have hd : decide ((i : Int) < ((a.Rows.length : Nat) : Int)) = true := by simpa using hi
   have hw : w64 ((i : Int) + 1) = ((i + 1 : Nat) : Int) := by rw [zm (by omega) (by omega)]; rfl
   simp only [xS,hd,cond_true]
   rw [zx,bdT hx,gdT (by simp; omega),hw,List.take_add_one,hx]
   rfl
  ·simp only [xS,Int.lt_irrefl,decide_false,cond_false,List.take_length]
 have l6 : ∀ s : Nat,s < b.Rows.length → loop (fun q => xT a b (s : Int) q.1 q.2) (([] : List z5),0) = some ((List.range (kk b)).map fun i => shE a.Rows.length (E b s i)) := by
  intro s hs
  have := xG (step := fun q => xT a b (s : Int) q.1 q.2) (fun i : Nat => ((List.range i).map fun i => shE a.Rows.length (E b s i),(i : Int))) (kk b) (t := (List.range (kk b)).map fun i => shE a.Rows.length (E b s i)) (by omega) ?_ ?_
  ·exact this
  ·intro i hi
   have hd : decide ((i : Int) < b.Inputs) = true := by rw [← hk]; simpa using hi
   have hw : w64 ((i : Int) + 1) = ((i + 1 : Nat) : Int) := by rw [zm (by omega) (by omega)]; rfl
   simp only [xT,hd,cond_true]
   rw [vb.edge_eq hs hi]
   have hed := vb.edgeAt hs hi
   unfold uu
   have gl : ∀ e : z5,((List.range i).map fun i => shE a.Rows.length (E b s i)).length + ([e] : List z5).length ≤ 4294967296 := fun e => by simp; omega
   by_cases ht : (E b s i).To ≥ 0
   ·have hw2 : w64 ((E b s i).To + ((a.Rows.length : Nat) : Int)) = (E b s i).To + (a.Rows.length : Int) := zm (by omega) (by omega)
    rw [decide_eq_true ht,cond_true,gdT (gl _),hw,hw2,List.range_succ,List.map_append]
    simp only [List.map_cons,List.map_nil,shE,if_pos ht]
   ·rw [decide_eq_false ht,cond_false,gdT (gl _),hw,List.range_succ,List.map_append]
    simp only [List.map_cons,List.map_nil,shE,if_neg ht]
  ·simp only [xT,hk,Int.lt_irrefl,decide_false,cond_false]
 have rowE : ∀ s : Nat,s < b.Rows.length → ((List.range (kk b)).map fun i => shE a.Rows.length (E b s i)) = (b.Rows.map (List.map (shE a.Rows.length)))[s]?.getD [] := by
  intro s hs
  have ⟨r,h1,h2,h3⟩ := vb.rowAt hs
  rw [List.getElem?_map,h1]
  simp only [Option.map_some,Option.getD_some]
  refine List.ext_getElem (by simp [h2]) fun n g1 g2 => ?_
  simp only [List.getElem_map,List.getElem_range]
  have := h3 n (by simpa using g1)
  rw [List.getElem?_eq_getElem (by simpa using g2)] at this
  rw [Option.some.inj this]
 have l3 : loop (fun s => xU a b s.1 s.2) (a.Rows,0) = some (a.Rows ++ b.Rows.map (List.map (shE a.Rows.length))) := by
  have := xG (step := fun s => xU a b s.1 s.2) (fun i : Nat => (a.Rows ++ (b.Rows.map (List.map (shE a.Rows.length))).take i,(i : Int))) b.Rows.length (t := a.Rows ++ b.Rows.map (List.map (shE a.Rows.length))) (by omega) ?_ ?_
  ·simpa using this
  ·intro i hi
   have hd : decide ((i : Int) < ((b.Rows.length : Nat) : Int)) = true := by simpa using hi
   have hw : w64 ((i : Int) + 1) = ((i + 1 : Nat) : Int) := by rw [zm (by omega) (by omega)]; rfl
   simp only [xU,hd,cond_true]
   rw [bdT (l6 i hi)]
   unfold kD kE
   rw [gdT (by simp; omega),hw,rowE i hi,List.take_add_one]
   obtain ⟨x,hx⟩ : ∃ x,(b.Rows.map (List.map (shE a.Rows.length)))[i]? = some x := ⟨_,List.getElem?_eq_getElem (by simpa using hi)⟩
   rw [hx]
   simp only [Option.getD_some,Option.toList_some,List.append_assoc]
  ·simp only [xU,Int.lt_irrefl,decide_false,cond_false]
   rw [List.take_of_length_le (by simp)]
 unfold Yc kG kF
 rw [bdT l8,bdT l3]
 rfl
def phi (a : z4) (p : Nat × Nat) : Nat × Nat := (p.1,a.Rows.length + p.2)
def InP (a b : z4) (p : Nat × Nat) : Prop := p.1 < a.Rows.length ∧ p.2 < b.Rows.length
section
variable {a b : z4} (va : VM a) (vb : VM b) (hab : a.Inputs = b.Inputs)
include va vb hab
theorem zaP (p : Nat × Nat) (i : Nat) (q : Nat × Nat) (hp : InP a b p) (hi : i < kk a) (hq : nxP a b p i = some q) : InP a b q := by
 unfold nxP at hq
 split at hq
 ·rename_i hc
  cases hq
  have h1 := va.edgeAt hp.1 hi
  have h2 := vb.edgeAt hp.2 (by rw [← z7I hab]; exact hi)
  refine ⟨?_,?_⟩ <;> simp only <;> omega
 ·cases hq
theorem zbo (p : Nat × Nat) (i : Nat) (hp : InP a b p) (hi : i < kk a) : qn (bes a b) (bes a b) (phi a p) i = qn a b p i := by
 have := va.in1
 unfold qn phi
 simp only
 rw [z8T hp.1,z6W vb hp.2 (by rw [← z7I hab]; exact hi),zfd]
theorem zet (p : Nat × Nat) (i : Nat) (hp : InP a b p) (hi : i < kk a) : nxP (bes a b) (bes a b) (phi a p) i = (nxP a b p i).map (phi a) := by
 have := va.in1
 unfold nxP phi
 simp only
 rw [z8T hp.1,z6W vb hp.2 (by rw [← z7I hab]; exact hi)]
 by_cases h2 : (E b p.2 i).To ≥ 0
 ·by_cases h1 : (E a p.1 i).To ≥ 0
  ·rw [if_pos ⟨h1,by unfold shE; rw [if_pos h2]; simp only; omega⟩,if_pos ⟨h1,h2⟩]
   unfold shE
   rw [if_pos h2]
   exact congrArg some (Prod.ext rfl (by simp only; omega))
  ·rw [if_neg (by omega),if_neg (by omega)]
   rfl
 ·rw [if_neg (by unfold shE; rw [if_neg h2]; omega),if_neg (by omega)]
  rfl
theorem zay (n : Nat) (p : Nat × Nat) (hp : InP a b p) : Mk (kk a) (qn (bes a b) (bes a b)) (nxP (bes a b) (bes a b)) n (phi a p) ↔ Mk (kk a) (qn a b) (nxP a b) n p :=
 Q1 (phi a) (InP a b) (zaP va vb hab) (zbo va vb hab) (zet va vb hab) n p hp
theorem z9l (n : Nat) (p : Nat × Nat) (w : List Nat) (hp : InP a b p) : Qu (kk a) (qn (bes a b) (bes a b)) (nxP (bes a b) (bes a b)) n (phi a p) w → Qu (kk a) (qn a b) (nxP a b) n p w :=
 z14 (phi a) (InP a b) (zaP va vb hab) (zbo va vb hab) (zet va vb hab) n p w hp
def zkD (a b : z4) (r : List Int × Bool) : Prop :=
 (∃ n w,Mk (kk a) (qn a b) (nxP a b) (n + 1) (0,0) ∧ ¬ Mk (kk a) (qn a b) (nxP a b) n (0,0) ∧ Qu (kk a) (qn a b) (nxP a b) (n + 1) (0,0) w ∧ n + 1 < a.Rows.length + b.Rows.length ∧ r = (w.map Int.ofNat,true)) ∨
 ((∀ n,¬ Mk (kk a) (qn a b) (nxP a b) n (0,0)) ∧ r = ([],false))
end
theorem z7e {n : Nat}  {i : Nat} : UU m (mrk m n) p i = true ↔ (qn m m p i = true ∨ ∃ q,nxP m m p i = some q ∧ Mk (kk m) (qn m m) (nxP m m) n q) := by
 unfold UU
 rw [Bool.or_eq_true]
 constructor
 ·rintro (h | h)
  ·exact .inl h
  ·cases hq : nxP m m p i with
   | none => rw [hq] at h; cases h
   | some q => rw [hq] at h; exact .inr ⟨q,rfl,(VA _ _ _ n q).1 h⟩
 ·rintro (h | ⟨q,hq,h⟩)
  ·exact .inl h
  ·refine .inr ?_
   rw [hq]
   exact (VA _ _ _ n q).2 h
theorem zcR (h : WM m)   (h1 : p.1 < m.Rows.length) (h2 : p.2 < m.Rows.length) (n w : Int) (ws : List Int) (hw : ws.length ≤ 1000) (hn : n = (k : Int) + 1) (hk1 : k ≤ 1000) (hex : Mk (kk m) (qn m m) (nxP m m) (k + 1) p) (hno : ¬ Mk (kk m) (qn m m) (nxP m m) k p) :
  Ret (loop (fun s => ur m (p.1 : Int) (p.2 : Int) n ws (tab m.Rows.length (mrk m k)) s) 0) fun r => ∃ i,i < kk m ∧ UU m (mrk m k) p i = true ∧ (∀ j,j < i → UU m (mrk m k) p j = false) ∧ r = ((E m p.1 i).To,(E m p.2 i).To,(k : Int),ws ++ [(i : Int)]) := by
 have hk := h.kk_eq
 have k16 := h.kk_le
 obtain ⟨i0,hi0,ht0⟩ : ∃ i,i < kk m ∧ UU m (mrk m k) p i = true := by
  rcases hex with g | ⟨i,hi,g⟩
  ·exact (hno g).elim
  ·exact ⟨i,hi,z7e.2 g⟩
 refine zt (fun s => ∃ i : Nat,s = (i : Int) ∧ i ≤ kk m ∧ ∀ j,j < i → UU m (mrk m k) p j = false) (fun s => 100 - s.toNat) ⟨0,rfl,Nat.zero_le _,fun j hj => by omega⟩ (by simp) ?_
 rintro i' ⟨i,hi',hik,hall⟩
 subst hi'
 unfold ur wT
 rw [zg]
 refine ⟨fun hlt => ?_,fun hge => ?_⟩
 ·have hlt : i < kk m := by rw [← hk] at hlt; simpa using hlt
  have hw1 : w64 ((i : Int) + 1) = ((i + 1 : Nat) : Int) := by rw [zm (by omega) (by omega)]; rfl
  have hn1 : w64 (n - 1) = (k : Int) := by rw [zm (by omega) (by omega)]; omega
  rw [h.edge_eq h1 hlt,h.edge_eq h2 hlt,hw1,hn1]
  have e1 := h.edgeAt h1 hlt
  have e2 := h.edgeAt h2 hlt
  have gl : ws.length + ([(i : Int)] : List Int).length ≤ 4294967296 := by simp; omega
  have found : UU m (mrk m k) p i = true → Ret (some (.done ((E m p.1 i).To,(E m p.2 i).To,(k : Int),ws ++ [(i : Int)])) : Option (LR Int (Int × Int × Int × List Int))) (LRP (fun s' => (∃ j : Nat,s' = (j : Int) ∧ j ≤ kk m ∧ ∀ l,l < j → UU m (mrk m k) p l = false) ∧ 100 - s'.toNat < 100 - (i : Int).toNat) (fun r => ∃ i,i < kk m ∧ UU m (mrk m k) p i = true ∧ (∀ j,j < i → UU m (mrk m k) p j = false) ∧ r = ((E m p.1 i).To,(E m p.2 i).To,(k : Int),ws ++ [(i : Int)]))) :=
   fun ht => z6.2 ⟨i,hlt,ht,hall,rfl⟩
  have on : UU m (mrk m k) p i = false → Ret (some (.next ((i + 1 : Nat) : Int)) : Option (LR Int (Int × Int × Int × List Int))) (LRP (fun s' => (∃ j : Nat,s' = (j : Int) ∧ j ≤ kk m ∧ ∀ l,l < j → UU m (mrk m k) p l = false) ∧ 100 - s'.toNat < 100 - (i : Int).toNat) (fun r => ∃ i,i < kk m ∧ UU m (mrk m k) p i = true ∧ (∀ j,j < i → UU m (mrk m k) p j = false) ∧ r = ((E m p.1 i).To,(E m p.2 i).To,(k : Int),ws ++ [(i : Int)]))) := by
   intro ht
   refine z6.2 ⟨⟨i + 1,rfl,hlt,fun j hj => ?_⟩,by omega⟩
   by_cases e : j = i
   ·subst e; exact ht
   ·exact hall j (by omega)
  rw [zg]
  refine ⟨fun hb => ?_,fun hb => ?_⟩
  ·rw [gdT gl]
   exact found (by unfold UU qn; rw [hb,Bool.true_or])
  ·rw [zg]
   refine ⟨fun t1 => ?_,fun t1 => ?_⟩
   ·have t1 : (E m p.1 i).To ≥ 0 := of_decide_eq_true t1
    rw [zg]
    refine ⟨fun t2 => ?_,fun t2 => ?_⟩
    ·have t2 : (E m p.2 i).To ≥ 0 := of_decide_eq_true t2
     have hnx : nxP m m p i = some ((E m p.1 i).To.toNat,(E m p.2 i).To.toNat) := by unfold nxP; rw [if_pos ⟨t1,t2⟩]
     have hin := h.nx_in h1 h2 hlt hnx
     have c1 : (E m p.1 i).To = (((E m p.1 i).To.toNat : Nat) : Int) := by omega
     have c2 : (E m p.2 i).To = (((E m p.2 i).To.toNat : Nat) : Int) := by omega
     have ht1 : UU m (mrk m k) p i = mrk m k (E m p.1 i).To.toNat (E m p.2 i).To.toNat := by
      unfold UU qn
      rw [hnx,hb,Bool.false_or]
     have := z62 (mrk m k) hin.1 hin.2 (g := fun v => bif v then gd (ws.length + ([(i : Int)] : List Int).length ≤ 4294967296) (some (LR.done ((E m p.1 i).To,(E m p.2 i).To,(k : Int),ws ++ [(i : Int)])) : Option (LR Int (Int × Int × Int × List Int))) else some (LR.next ((i + 1 : Nat) : Int)))
     rw [← c1,← c2] at this
     refine (congrArg (fun o => Ret o _) this).mpr ?_
     rw [zg]
     refine ⟨fun g => ?_,fun g => on (by rw [ht1]; exact g)⟩
     rw [gdT gl]
     exact found (by rw [ht1]; exact g)
    ·have t2 : ¬ (E m p.2 i).To ≥ 0 := of_decide_eq_false t2
     exact on (by unfold UU qn nxP; rw [hb,if_neg (by omega)]; rfl)
   ·have t1 : ¬ (E m p.1 i).To ≥ 0 := of_decide_eq_false t1
    exact on (by unfold UU qn nxP; rw [hb,if_neg (by omega)]; rfl)
 ·have : i = kk m := by rw [← hk] at hge; simp at hge; omega
  have := hall i0 (by omega)
  rw [ht0] at this
  cases this
section
variable {a b : z4} (va : VM a) (vb : VM b) (hab : a.Inputs = b.Inputs)
include va vb hab
theorem zcL : Ret (ut a b) (zkD a b) := by
 have hm := zi1 va vb hab
 have hN := z5q (a := a) (b := b)
 have la := va.len64; have lb := vb.len64; have la1 := va.len1; have lb1 := vb.len1
 have hp0 : InP a b (0,0) := ⟨va.len1,vb.len1⟩
 have hkb : kk (bes a b) = kk a := rfl
 have z1 : 0 < (bes a b).Rows.length := by omega
 have z2 : a.Rows.length < (bes a b).Rows.length := by omega
 unfold ut
 rw [bdT (zbn va vb),zh]
 have l6 : Ret (loop (fun s => uq a (bes a b) s) 0) fun r => ∃ n : Nat,r = (n : Int) ∧ n ≤ (bes a b).Rows.length ∧ (∀ j,j < n → mrk (bes a b) j 0 a.Rows.length = false) ∧ (n < (bes a b).Rows.length → mrk (bes a b) n 0 a.Rows.length = true) := by
  refine zt (fun s => ∃ n : Nat,s = (n : Int) ∧ n ≤ (bes a b).Rows.length ∧ ∀ j,j < n → mrk (bes a b) j 0 a.Rows.length = false) (fun s => 1000 - s.toNat) ⟨0,rfl,Nat.zero_le _,fun j hj => by omega⟩ (by simp) ?_
  rintro n' ⟨n,hn,hnl,hall⟩
  subst hn
  unfold uq
  rw [zg]
  refine ⟨fun hlt => ?_,fun hge => ?_⟩
  ·have hlt : n < (bes a b).Rows.length := by simpa using hlt
   have hw : w64 ((n : Int) + 1) = ((n + 1 : Nat) : Int) := by rw [zm (by omega) (by omega)]; rfl
   rw [bdT (z35 hm n (by omega))]
   have := z62 (mrk (bes a b) n) z1 z2 (g := fun v => bif !v then (some (LR.next (w64 ((n : Int) + 1))) : Option (LR Int Int)) else some (LR.done (n : Int)))
   refine (congrArg (fun o => Ret o _) this).mpr ?_
   rw [zg]
   refine ⟨fun g => ?_,fun g => ?_⟩
   ·have g : mrk (bes a b) n 0 a.Rows.length = false := by simpa using g
    rw [z6,hw]
    refine ⟨⟨n + 1,rfl,hlt,fun j hj => ?_⟩,by omega⟩
    by_cases e : j = n
    ·subst e; exact g
    ·exact hall j (by omega)
   ·have g : mrk (bes a b) n 0 a.Rows.length = true := by simpa using g
    rw [z6]
    exact ⟨n,rfl,hnl,hall,fun _ => g⟩
  ·have : n = (bes a b).Rows.length := by simp at hge; omega
   rw [z6]
   exact ⟨n,rfl,hnl,hall,fun h => by omega⟩
 refine l6.mono ?_
 rintro n' ⟨n,hn,hnl,hall,hat⟩
 subst hn
 unfold kC kB
 rw [zg]
 refine ⟨fun he => ?_,fun hne => ?_⟩
 ·have he : n = (bes a b).Rows.length := by simp at he; omega
  rw [z6]
  refine .inr ⟨fun j hj => ?_,rfl⟩
  have h1 := (zay va vb hab j (0,0) hp0).2 hj
  have h2 := z8v hm (s := 0) (t := a.Rows.length) z1 z2 h1
  have h3 := hall ((bes a b).Rows.length - 1) (by omega)
  have h4 := (VA _ _ _ _ _).2 h2
  unfold mrk at h3
  rw [h3] at h4
  cases h4
 ·have hne : n ≠ (bes a b).Rows.length := by intro e; rw [e] at hne; simp at hne
  have hat := hat (by omega)
  cases n with
  | zero => simp [mrk,mkb] at hat
  | succ n =>
   have hmk : Mk (kk a) (qn (bes a b) (bes a b)) (nxP (bes a b) (bes a b)) (n + 1) (phi a (0,0)) := (VA _ _ _ _ _).1 hat
   have hno : ¬ Mk (kk a) (qn (bes a b) (bes a b)) (nxP (bes a b) (bes a b)) n (phi a (0,0)) := by
    intro c
    have h4 := (VA _ _ _ _ _).2 c
    have h3 := hall n (by omega)
    unfold mrk at h3
    have h3' : mkb (kk a) (qn (bes a b) (bes a b)) (nxP (bes a b) (bes a b)) n (phi a (0,0)) = false := h3
    rw [h3'] at h4
    cases h4
   rw [zh]
   refine (zt (R := fun r => ∃ w,Qu (kk a) (qn (bes a b) (bes a b)) (nxP (bes a b) (bes a b)) (n + 1) (phi a (0,0)) w ∧ r = w.map Int.ofNat) (fun s => ∃ (wn : List Nat),s.2.2.2 = wn.map Int.ofNat ∧ wn.length ≤ 200 ∧ ((s.2.2.1 = 0 ∧ Qu (kk a) (qn (bes a b) (bes a b)) (nxP (bes a b) (bes a b)) (n + 1) (phi a (0,0)) wn) ∨
    ∃ (k : Nat) (p : Nat × Nat),s.2.2.1 = (k : Int) + 1 ∧ k ≤ n ∧ wn.length + k = n ∧ s.1 = (p.1 : Int) ∧ s.2.1 = (p.2 : Int) ∧ p.1 < (bes a b).Rows.length ∧ p.2 < (bes a b).Rows.length ∧ Mk (kk a) (qn (bes a b) (bes a b)) (nxP (bes a b) (bes a b)) (k + 1) p ∧ ¬ Mk (kk a) (qn (bes a b) (bes a b)) (nxP (bes a b) (bes a b)) k p ∧
     ∀ u,Qu (kk a) (qn (bes a b) (bes a b)) (nxP (bes a b) (bes a b)) (k + 1) p u → Qu (kk a) (qn (bes a b) (bes a b)) (nxP (bes a b) (bes a b)) (n + 1) (phi a (0,0)) (wn ++ u))) (fun s => s.2.2.1.toNat) ⟨[],rfl,by simp,.inr ⟨n,phi a (0,0),by simp,Nat.le_refl _,by simp,rfl,by simp [phi],by simp [phi]; omega,by simp [phi]; omega,hmk,hno,fun u h => h⟩⟩ ?_ ?_).mono ?_
   ·simp only; omega
   ·rintro ⟨s,t,c,w⟩ ⟨wn,hw,hwl,hcase⟩
    simp only at hw hcase
    subst hw
    unfold kA
    rcases hcase with ⟨hc,hg⟩ | ⟨k,p,hc,hkn,hwk,hs,ht,hp1,hp2,hk1,hk2,hgr⟩
    ·subst hc
     rw [zg]
     refine ⟨fun h => by have h := of_decide_eq_true h; simp only at h; omega,fun _ => ?_⟩
     rw [z6]
     exact ⟨wn,hg,rfl⟩
    ·subst hs ht
     rw [zg]
     refine ⟨fun _ => ?_,fun h => ?_⟩
     ·have hn1 : w64 (c - 1) = (k : Int) := by rw [zm (by omega) (by omega)]; omega
      rw [hn1,bdT (z35 hm k (by omega)),zh]
      refine (zcR hm hp1 hp2 c 0 _ (by simp; omega) hc (by omega) hk1 hk2).mono ?_
      rintro r ⟨i,hi,htel,hleast,rfl⟩
      rw [z6]
      have htel' := z7e.1 htel
      have hleast' : ∀ j,j < i → ¬ (qn (bes a b) (bes a b) p j = true ∨ ∃ q,nxP (bes a b) (bes a b) p j = some q ∧ Mk (kk a) (qn (bes a b) (bes a b)) (nxP (bes a b) (bes a b)) k q) := by
       intro j hj g
       have := hleast j hj
       rw [z7e.2 g] at this
       cases this
      refine ⟨⟨wn ++ [i],by simp,by simp; omega,?_⟩,by simp only; omega⟩
      cases k with
      | zero =>
       refine .inl ⟨rfl,hgr [i] ⟨i,[],rfl,hi,htel',hleast',fun h => absurd h (Nat.lt_irrefl _),fun _ => rfl⟩⟩
      | succ k =>
       have hbad : qn (bes a b) (bes a b) p i ≠ true := fun g => hk2 (Mk.mono (n := 1) (.inr ⟨i,hi,.inl g⟩) (by omega))
       obtain ⟨q,hq,hqm⟩ : ∃ q,nxP (bes a b) (bes a b) p i = some q ∧ Mk (kk a) (qn (bes a b) (bes a b)) (nxP (bes a b) (bes a b)) (k + 1) q := by
        rcases htel' with g | g
        ·exact (hbad g).elim
        ·exact g
       have hin := hm.nx_in hp1 hp2 hi hq
       have hqv : (E (bes a b) p.1 i).To = (q.1 : Int) ∧ (E (bes a b) p.2 i).To = (q.2 : Int) := by
        unfold nxP at hq
        split at hq
        ·cases hq
         simp only
         omega
        ·cases hq
       refine .inr ⟨k,q,by simp,by omega,by simp; omega,hqv.1,hqv.2,hin.1,hin.2,hqm,fun g => hk2 (.inr ⟨i,hi,.inr ⟨q,hq,g⟩⟩),fun u hu => ?_⟩
       have := hgr (i :: u) ⟨i,u,rfl,hi,htel',hleast',fun _ => ⟨q,hq,hu⟩,fun h => by omega⟩
       simpa using this
     ·have h := of_decide_eq_false h
      simp only at h
      omega
   ·rintro r ⟨w,hg,rfl⟩
    rw [z6]
    exact .inl ⟨n,w,(zay va vb hab _ _ hp0).1 hmk,fun g => hno ((zay va vb hab _ _ hp0).2 g),z9l va vb hab _ _ _ hp0 hg,by omega,rfl⟩
end
def nxE (m : z4) (s : Int) (i : Nat) : z5 := if s < 0 then ⟨-1,-1⟩ else E m s.toNat i
def rsp (m : z4) : Int → List Nat → List Int
 | _,[] => []
 | s,i :: w => (nxE m s i).Out :: rsp m (nxE m s i).To w
def aft (m : z4) : Int → List Nat → Int
 | s,[] => s
 | s,i :: w => aft m (nxE m s i).To w
theorem JK (m : z4) : ∀ (w : List Nat) (s : Int) (i : Nat),rsp m s (w ++ [i]) = rsp m s w ++ [(nxE m (aft m s w) i).Out] ∧ aft m s (w ++ [i]) = (nxE m (aft m s w) i).To
 | [],s,i => ⟨rfl,rfl⟩
 | j :: w,s,i => by
  have := JK m w (nxE m s j).To i
  simp only [List.cons_append,rsp,aft,this.1,this.2,and_self]
theorem z5c (m : z4) : ∀ (w : List Nat) (s : Int),(rsp m s w).length = w.length
 | [],_ => rfl
 | i :: w,s => by simp [rsp,z5c m w]
def z1o (m : z4) (s : Int) : Prop := -1 ≤ s ∧ s < (m.Rows.length : Int)
theorem zfD (h : VM m) {s : Int} (hs : z1o m s) {i : Nat} (hi : i < kk m) : z1o m (nxE m s i).To := by
 unfold nxE
 have := h.len1
 by_cases h0 : s < 0
 ·rw [if_pos h0]
  unfold z1o
  simp only
  omega
 ·rw [if_neg h0]
  have hl : s.toNat < m.Rows.length := by have := hs.2; omega
  have := h.edgeAt hl hi
  unfold z1o
  omega
theorem zax (h : VM m) {s : Int} (hs : z1o m s) {i : Nat} (hi : i < kk m) : Xd m s (i : Int) = some (nxE m s i) ∧ z1o m (nxE m s i).To := by
 unfold Xd nxE
 have := h.len1
 by_cases h0 : s < 0
 ·rw [decide_eq_true h0,cond_true,if_pos h0]
  exact ⟨rfl,by unfold z1o; simp only; omega⟩
 ·rw [decide_eq_false h0,cond_false,if_neg h0]
  have hl : s.toNat < m.Rows.length := by have := hs.2; omega
  have he := h.edge_eq hl hi (f := fun e => some e)
  have hc : ((s.toNat : Nat) : Int) = s := by omega
  rw [hc] at he
  refine ⟨he,?_⟩
  have := h.edgeAt hl hi
  unfold z1o
  omega
theorem zeb (h : VM m) {s : Int} (hs : z1o m s) (w : List Nat) (hw : ∀ i ∈ w,i < kk m) (hl : w.length ≤ 100000) : WU m s (w.map Int.ofNat) = some (rsp m s w) := by
 have hloop : loop (fun q => Ye m (w.map Int.ofNat) q.1 q.2.1 q.2.2) (s,([] : List Int),0) = some (rsp m s w) := by
  refine Ret.eq (zt (fun q => ∃ k : Nat,q.2.2 = (k : Int) ∧ k ≤ w.length ∧ z1o m q.1 ∧ q.2.1.length = k ∧ q.2.1 ++ rsp m q.1 (w.drop k) = rsp m s w) (fun q => 200000 - q.2.2.toNat) ⟨0,rfl,Nat.zero_le _,hs,rfl,rfl⟩ (by simp) ?_)
  rintro ⟨s',out,k'⟩ ⟨k,hk,hkl,hst,hol,ho⟩
  simp only at hk hst hol ho
  subst hk
  unfold Ye
  rw [zg]
  refine ⟨fun hlt => ?_,fun hge => ?_⟩
  ·have hlt : k < w.length := by simpa using hlt
   have hx : (w.map Int.ofNat)[k]? = some ((w[k] : Nat) : Int) := by simp [hlt]
   have hi := hw _ (List.getElem_mem hlt)
   have hn := zax h hst hi
   have hw1 : w64 ((k : Int) + 1) = ((k + 1 : Nat) : Int) := by rw [zm (by omega) (by omega)]; rfl
   rw [zx,bdT hx,bdT hn.1,gdT (by simp; omega),z6,hw1]
   refine ⟨⟨k + 1,rfl,hlt,hn.2,by simp [hol],?_⟩,by simp only; omega⟩
   rw [← ho,List.drop_eq_getElem_cons hlt]
   simp [rsp]
  ·have : k = w.length := by simp at hge; omega
   subst this
   rw [z6]
   rw [List.drop_length] at ho
   show out = rsp m s w
   simpa [rsp] using ho
 unfold WU Wc
 rw [bdT hloop]
section
variable {N : Nat} {f : Nat → Nat → Bool}
structure zi8 (N : Nat) (f : Nat → Nat → Bool) (out : List Int) (n : Int) (s : Nat) : Prop where
 len : out.length = s
 sN : s ≤ N
 n0 : 0 ≤ n
 nS : n ≤ (s : Int)
 lt : ∀ (i : Nat) (x : Int),out[i]? = some x → 0 ≤ x ∧ x < n
 cls : ∀ (i j : Nat),i < s → j < s → (out[i]? = out[j]? ↔ f i j = false)
theorem zcU (hN : N ≤ 1000) (hr : ∀ s,s < N → f s s = false) (hs : ∀ s t,s < N → t < N → f s t = false → f t s = false) (ht : ∀ s t u,s < N → t < N → u < N → f s t = false → f t u = false → f s u = false) :
  Ret (uA (tab N f)) fun out => out.length = N ∧ ∀ i j,i < N → j < N → (out[i]? = out[j]? ↔ f i j = false) := by
 have hl : (tab N f).length = N := by simp [tab]
 unfold uA
 rw [zh]
 refine Ret.mono (Q := fun out => out.length = N ∧ ∀ i j,i < N → j < N → (out[i]? = out[j]? ↔ f i j = false)) ?_ fun out h => z6.2 h
 refine zt (fun q => zi8 N f q.1 q.2.1 q.2.2.toNat ∧ 0 ≤ q.2.2) (fun q => N - q.2.2.toNat) ⟨⟨rfl,Nat.zero_le _,Int.le_refl 0,Int.le_refl 0,fun i x h => by simp at h,fun i j h => by simp at h⟩,Int.le_refl 0⟩ (by show N - 0 < _; omega) ?_
 rintro ⟨out,n,s⟩ ⟨hI,h0⟩
 obtain ⟨s,rfl⟩ := Int.eq_ofNat_of_zero_le h0
 simp [Int.toNat_natCast] at hI ⊢
 unfold vU
 rw [zg]
 refine ⟨fun hc => ?_,fun hc => ?_⟩
 ·rw [hl] at hc
  have hsN : s < N := by simpa using hc
  rw [zh]
  have inner : Ret (loop (fun s_1 => ww (tab N f) out (s : Int) s_1.1 s_1.2) (-1,0)) fun b => (b = -1 ∧ ∀ t,t < s → f s t = true) ∨ ∃ t,t < s ∧ f s t = false ∧ out[t]? = some b := by
   refine zt (fun q => 0 ≤ q.2 ∧ q.2 ≤ (s : Int) ∧ ((q.1 = -1 ∧ ∀ t : Nat,(t : Int) < q.2 → f s t = true) ∨ ∃ t,t < s ∧ f s t = false ∧ out[t]? = some q.1)) (fun q => s - q.2.toNat) ⟨by omega,by omega,.inl ⟨rfl,fun t ht => by simp at ht; omega⟩⟩ (by show s - 0 < _; omega) ?_
   rintro ⟨b,t⟩ ⟨g0,g1,g2⟩
   simp only at g0 g1 g2 ⊢
   obtain ⟨t,rfl⟩ := Int.eq_ofNat_of_zero_le g0
   unfold ww wx
   rw [zg]
   refine ⟨fun hc => ?_,fun hc => ?_⟩
   ·have hts : t < s := by simpa using hc
    have hw : w64 ((t : Int) + 1) = ((t + 1 : Nat) : Int) := by rw [zm (by omega) (by omega)]; rfl
    rw [z62 f hsN (by omega),hw,zg]
    refine ⟨fun hf => ?_,fun hf => ?_⟩
    ·rw [zh,z7t]
     have : ∃ x,out[t]? = some x := ⟨out[t]'(by rw [hI.len]; exact hts),List.getElem?_eq_getElem _⟩
     have ⟨x,hx⟩ := this
     refine ⟨by omega,x,by rw [Int.toNat_natCast]; exact hx,z6.2 ⟨⟨by omega,by omega,.inr ⟨t,hts,by simpa using hf,hx⟩⟩,by simp [Int.toNat_natCast]; omega⟩⟩
    ·refine z6.2 ⟨⟨by omega,by omega,?_⟩,by simp [Int.toNat_natCast]; omega⟩
     rcases g2 with ⟨e,g2⟩ | g2
     ·refine .inl ⟨e,fun u hu => ?_⟩
      rcases Nat.lt_or_ge u t with q | q
      ·exact g2 u (by omega)
      ·have : u = t := by omega
       subst this; simpa using hf
     ·exact .inr g2
   ·have hts : ¬ t < s := by simpa using hc
    refine z6.2 ?_
    rcases g2 with ⟨e,g2⟩ | g2
    ·exact .inl ⟨e,fun u hu => g2 u (by omega)⟩
    ·exact .inr g2
  refine inner.mono fun b hb => ?_
  have hw : w64 ((s : Int) + 1) = ((s + 1 : Nat) : Int) := by rw [zm (by omega) (by omega)]; rfl
  have hlen := hI.len
  have hnS := hI.nS
  have hn0 := hI.n0
  have fin : ∀ (n' c : Int),0 ≤ n' → n' ≤ ((s + 1 : Nat) : Int) → n ≤ n' → 0 ≤ c → c < n' → (∀ t,t < s → (out[t]? = some c ↔ f s t = false)) →
    Ret (xl out (s : Int) n' c) (LRP (fun s' => (zi8 N f s'.1 s'.2.1 s'.2.2.toNat ∧ 0 ≤ s'.2.2) ∧ N - s'.2.2.toNat < N - s) fun out => out.length = N ∧ ∀ i j,i < N → j < N → (out[i]? = out[j]? ↔ f i j = false)) := by
   intro n' c a1 a2 a3 a4 a5 a6
   unfold xl vW
   rw [WP,hw]
   refine ⟨by simp [hlen]; omega,z6.2 ⟨⟨⟨by simp [hlen],by simp; omega,a1,by simp; exact a2,?_,?_⟩,Int.natCast_nonneg _⟩,by simp; omega⟩⟩
   ·intro i x hx
    rcases Nat.lt_or_ge i s with q | q
    ·rw [List.getElem?_append_left (by omega)] at hx
     have := hI.lt i x hx
     exact ⟨this.1,by have := this.2; simp only; omega⟩
    ·rw [List.getElem?_append_right (by omega)] at hx
     cases hh : i - out.length with
     | zero => rw [hh] at hx; simp at hx; subst hx; exact ⟨a4,a5⟩
     | succ k => rw [hh] at hx; simp at hx
   ·intro i j hi hj
    simp at hi hj
    have at_ : ∀ i,i < s → (out ++ [c])[i]? = out[i]? := fun i h => List.getElem?_append_left (by omega)
    have at_s : (out ++ [c])[s]? = some c := by rw [← hlen,List.getElem?_append_right (Nat.le_refl _)]; simp
    rcases Nat.lt_or_ge i s with q | q <;> rcases Nat.lt_or_ge j s with q' | q'
    ·show (out ++ [c])[i]? = (out ++ [c])[j]? ↔ _
     rw [at_ i q,at_ j q']; exact hI.cls i j q q'
    ·have : j = s := by omega
     subst this
     show (out ++ [c])[i]? = (out ++ [c])[j]? ↔ _
     rw [at_ i q,at_s,a6 i q]
     exact ⟨fun h => hs _ _ (by omega) (by omega) h,fun h => hs _ _ (by omega) (by omega) h⟩
    ·have : i = s := by omega
     subst this
     show (out ++ [c])[i]? = (out ++ [c])[j]? ↔ _
     rw [at_ j q',at_s,eq_comm,a6 j q']
    ·have e1 : i = s := by omega
     have e2 : j = s := by omega
     subst e1; subst e2
     exact ⟨fun _ => hr _ hsN,fun _ => rfl⟩
  unfold vV
  rw [zg]
  rcases hb with ⟨rfl,hb⟩ | ⟨t,ht1,ht2,ht3⟩
  ·refine ⟨fun _ => ?_,fun h => by simp at h⟩
   rw [zm (by omega) (by omega)]
   refine fin (n + 1) n (by omega) (by omega) (by omega) hn0 (by omega) fun t hts => ?_
   rw [hb t hts]
   refine ⟨fun h => ?_,fun h => by cases h⟩
   have := hI.lt t n h
   omega
  ·have hb0 := hI.lt t b ht3
   refine ⟨fun h => by simp at h; omega,fun _ => fin n b hn0 (by omega) (by omega) hb0.1 hb0.2 fun u hu => ?_⟩
   rw [← ht3,hI.cls u t hu ht1]
   exact ⟨fun h => ht _ _ _ (by omega) (by omega) (by omega) ht2 (hs _ _ (by omega) (by omega) h),fun h => ht _ _ _ (by omega) (by omega) (by omega) (hs _ _ (by omega) (by omega) h) ht2⟩
 ·rw [hl] at hc
  have hsN : ¬ s < N := by simpa using hc
  have : s = N := by have := hI.sN; omega
  subst this
  exact z6.2 ⟨hI.len,hI.cls⟩
end
def SEq (m : z4) (s t : Nat) : Prop := ∀ w : List Nat,(∀ i ∈ w,i < kk m) → rsp m (s : Int) w = rsp m (t : Int) w
theorem z7r (m : z4) : ∀ (w : List Nat) (s : Int),s < 0 → rsp m s w = w.map fun _ => -1
 | [],_,_ => rfl
 | i :: w,s,h => by
  simp [rsp,nxE,if_pos h,List.map_cons]
  rw [z7r m w (-1) (by omega)]
theorem j0 (m : z4) (s i : Nat) : nxE m (s : Int) i = E m s i := by
 unfold nxE
 rw [if_neg (by omega),Int.toNat_natCast]
section
variable {m : z4} (h : WM m)
include h
theorem z7B : ∀ (n : Nat) (p : Nat × Nat),p.1 < m.Rows.length → p.2 < m.Rows.length → Mk (kk m) (qn m m) (nxP m m) n p → ∃ w : List Nat,(∀ i ∈ w,i < kk m) ∧ rsp m (p.1 : Int) w ≠ rsp m (p.2 : Int) w
 | 0,p,_,_,q => q.elim
 | n + 1,p,h1,h2,q => by
  rcases q with q | ⟨i,hi,q | ⟨r,hr,q⟩⟩
  ·exact z7B n p h1 h2 q
  ·refine ⟨[i],by simpa using hi,fun e => ?_⟩
   simp [rsp,j0,List.cons.injEq,and_true] at e
   simp [qn,e] at q
  ·have hin := h.nx_in h1 h2 hi hr
   have ⟨w,hw,hne⟩ := z7B n r hin.1 hin.2 q
   refine ⟨i :: w,fun j hj => by rcases List.mem_cons.1 hj with rfl | hj; exact hi; exact hw j hj,fun e => hne ?_⟩
   simp [rsp,j0,List.cons.injEq] at e
   unfold nxP at hr
   split at hr
   ·rename_i hc
    cases hr
    have e1 : (((E m p.1 i).To.toNat : Nat) : Int) = (E m p.1 i).To := by omega
    have e2 : (((E m p.2 i).To.toNat : Nat) : Int) = (E m p.2 i).To := by omega
    simp [e1,e2]
    exact e.2
   ·cases hr
theorem z9B : ∀ (w : List Nat) (p : Nat × Nat),p.1 < m.Rows.length → p.2 < m.Rows.length → (∀ i ∈ w,i < kk m) → rsp m (p.1 : Int) w ≠ rsp m (p.2 : Int) w → Mk (kk m) (qn m m) (nxP m m) w.length p
 | [],p,_,_,_,q => (q rfl).elim
 | i :: w,p,h1,h2,hw,q => by
  have hi := hw i (by simp)
  refine .inr ⟨i,hi,?_⟩
  by_cases hb : qn m m p i = true
  ·exact .inl hb
  ·have he : (E m p.1 i).Out = (E m p.2 i).Out := by simpa [qn] using hb
   simp [rsp,j0,he,ne_eq,List.cons.injEq,true_and] at q
   have a := h.edgeAt h1 hi
   have b := h.edgeAt h2 hi
   by_cases hc : 0 ≤ (E m p.1 i).To ∧ 0 ≤ (E m p.2 i).To
   ·have hr : nxP m m p i = some ((E m p.1 i).To.toNat,(E m p.2 i).To.toNat) := by unfold nxP; rw [if_pos hc]
    have hin := h.nx_in h1 h2 hi hr
    have e1 : (((E m p.1 i).To.toNat : Nat) : Int) = (E m p.1 i).To := by omega
    have e2 : (((E m p.2 i).To.toNat : Nat) : Int) = (E m p.2 i).To := by omega
    exact .inr ⟨_,hr,z9B w _ hin.1 hin.2 (fun j hj => hw j (by simp [hj])) (by simpa only [e1,e2] using q)⟩
   ·exfalso
    refine q ?_
    have e1 : (E m p.1 i).To = -1 := by omega
    have e2 : (E m p.2 i).To = -1 := by omega
    rw [e1,e2]
theorem QJ {s t : Nat} (hs : s < m.Rows.length) (ht : t < m.Rows.length) : mrk m m.Rows.length s t = false ↔ SEq m s t := by
 have e : mrk m m.Rows.length s t = true ↔ ¬ SEq m s t := by
  unfold mrk
  rw [VA]
  constructor
  ·intro q g
   have ⟨w,hw,hne⟩ := z7B h _ (s,t) hs ht q
   exact hne (g w hw)
  ·intro q
   have ⟨w,hw⟩ := Classical.not_forall.1 q
   have ⟨hw,hne⟩ := Classical.not_imp.1 hw
   have := z8v h hs ht (z9B h w (s,t) hs ht hw hne)
   exact this.mono (by omega)
 constructor
 ·intro q
  exact Classical.byContradiction fun g => by rw [e.2 g] at q; cases q
 ·intro q
  cases hm : mrk m m.Rows.length s t with
  | false => rfl
  | true => exact (e.1 hm q).elim
theorem z3i : Ret (uJ m) fun l => l.length = m.Rows.length ∧ ∀ s t,s < m.Rows.length → t < m.Rows.length → (l[s]? = l[t]? ↔ SEq m s t) := by
 have hl := h.len
 unfold uJ Wb
 rw [zh,bdT (z35 h m.Rows.length (by omega)),zh]
 refine Ret.mono (zcU (by omega) (fun s hs => (QJ h hs hs).2 fun w _ => rfl) (fun s t hs ht q => (QJ h ht hs).2 fun w hw => ((QJ h hs ht).1 q w hw).symm) (fun s t u hs ht hu q r => (QJ h hs hu).2 fun w hw => ((QJ h hs ht).1 q w hw).trans ((QJ h ht hu).1 r w hw))) ?_
 rintro l ⟨h1,h2⟩
 exact z6.2 (z6.2 ⟨h1,fun s t hs ht => (h2 s t hs ht).trans (QJ h hs ht)⟩)
end
theorem z8Y (h : VM m) : ∀ (w : List Nat) (n : Nat) (s : Int),z1o m s → (∀ i ∈ w,i < kk m) → w.length < n → kZ n m s (w.map Int.ofNat) = some (aft m s w)
 | w,0,_,_,_,hn => by omega
 | [],n + 1,s,hs,_,_ => by
  show uO (kZ n) m s [] = _
  rfl
 | i :: w,n + 1,s,hs,hw,hn => by
  show uO (kZ n) m s ((i : Int) :: w.map Int.ofNat) = _
  have hi := hw i (by simp)
  have hx := zax h hs hi
  unfold uO
  have hz : (((((i : Int) :: w.map Int.ofNat).length : Nat) : Int) == 0) = false := by
   rw [beq_eq_false_iff_ne]
   simp [List.length_cons]
   omega
  rw [hz,cond_false]
  have e0 : idx ((i : Int) :: w.map Int.ofNat) 0 = some (i : Int) := rfl
  rw [bdT e0,bdT hx.1,gdT (by simp; omega)]
  have e1 : ((i : Int) :: w.map Int.ofNat).drop (1 : Int).toNat = w.map Int.ofNat := rfl
  rw [e1,bdT (z8Y h w n _ hx.2 (fun j hj => hw j (by simp [hj])) (by simp at hn; omega))]
  rfl
theorem ze2 (h : VM m) {s : Int} (hs : z1o m s) (w : List Nat) (hw : ∀ i ∈ w,i < kk m) : Vz m s (w.map Int.ofNat) = some (aft m s w) := by
 unfold Vz
 exact z8Y h w _ s hs hw (by simp)
def z6H (k : Nat) : List Nat → Option (List Nat)
 | [] => none
 | d :: r => if d + 1 < k then some ((d + 1) :: r) else (z6H k r).map (0 :: ·)
def Ub (k : Nat) : List Nat → Nat
 | [] => 0
 | d :: r => d + k * Ub k r
theorem z7c {k : Nat} : ∀ {r : List Nat},(∀ d ∈ r,d < k) → Ub k r < k ^ r.length
 | [],_ => by simp [Ub]
 | d :: r,h => by
  have ih := z7c (k := k) (r := r) fun x hx => h x (by simp [hx])
  have hd := h d (by simp)
  simp [Ub,List.length_cons,Nat.pow_succ]
  have : k * (Ub k r + 1) ≤ k * k ^ r.length := Nat.mul_le_mul_left k ih
  rw [Nat.mul_add,Nat.mul_one] at this
  rw [Nat.mul_comm (k ^ r.length) k]
  omega
theorem z7U : ∀ {r s : List Nat},r.length = s.length → (∀ d ∈ r,d < k) → (∀ d ∈ s,d < k) → Ub k r = Ub k s → r = s
 | [],[],_,_,_,_ => rfl
 | [],_ :: _,h,_,_,_ => by simp at h
 | _ :: _,[],h,_,_,_ => by simp at h
 | d :: r,e :: s,h,h1,h2,hv => by
  have hd := h1 d (by simp)
  have he := h2 e (by simp)
  simp [Ub] at hv
  have a1 : (d + k * Ub k r) % k = d := by rw [Nat.add_mul_mod_self_left,Nat.mod_eq_of_lt hd]
  have a2 : (e + k * Ub k s) % k = e := by rw [Nat.add_mul_mod_self_left,Nat.mod_eq_of_lt he]
  have hde : d = e := by rw [← a1,← a2,hv]
  subst hde
  have hk : 0 < k := by omega
  have : k * Ub k r = k * Ub k s := by omega
  have := Nat.eq_of_mul_eq_mul_left hk this
  rw [z7U (by simpa using h) (fun x hx => h1 x (by simp [hx])) (fun x hx => h2 x (by simp [hx])) this]
theorem z6F : ∀ {r s : List Nat},(∀ d ∈ r,d < k) → z6H k r = some s → s.length = r.length ∧ (∀ d ∈ s,d < k) ∧ Ub k s = Ub k r + 1
 | [],s,_,h => by cases h
 | d :: r,s,hr,h => by
  have hd := hr d (by simp)
  unfold z6H at h
  split at h
  ·rename_i hc
   cases h
   exact ⟨rfl,fun x hx => by rcases List.mem_cons.1 hx with rfl | hx; exact hc; exact hr x (by simp [hx]),by simp [Ub]; omega⟩
  ·rename_i hc
   obtain ⟨s',h1,rfl⟩ := Option.map_eq_some_iff.1 h
   have ⟨g1,g2,g3⟩ := z6F (fun x hx => hr x (by simp [hx])) h1
   refine ⟨by simp [g1],fun x hx => by rcases List.mem_cons.1 hx with rfl | hx; omega; exact g2 x hx,?_⟩
   simp [Ub,g3,Nat.mul_add,Nat.mul_one]
   omega
theorem z6G (hk : 0 < k) : ∀ {r : List Nat},(∀ d ∈ r,d < k) → z6H k r = none → Ub k r + 1 = k ^ r.length
 | [],_,_ => by simp [Ub]
 | d :: r,hr,h => by
  have hd := hr d (by simp)
  unfold z6H at h
  split at h
  ·cases h
  ·rename_i hc
   have h1 : z6H k r = none := by cases e : z6H k r with | none => rfl | some x => rw [e] at h; cases h
   have := z6G hk (fun x hx => hr x (by simp [hx])) h1
   simp [Ub,List.length_cons,Nat.pow_succ,← this,Nat.add_mul,Nat.one_mul,Nat.mul_comm k]
   omega
def z7A (k : Nat) (w : List Nat) : List Nat := match z6H k w.reverse with | some r => r.reverse | none => List.replicate (w.length + 1) 0
variable {w : List Nat}
theorem zaw (hk : 1 ≤ k) (hk2 : k ≤ 1000)  (hw : ∀ i ∈ w,i < k) (hl : w.length ≤ 100000) : Xc (w.map Int.ofNat) (k : Int) = some ((z7A k w).map Int.ofNat) := by
 have hloop : Ret (loop (fun s => kR (k : Int) s.1 s.2) (w.map Int.ofNat,w64 ((((w.map Int.ofNat).length : Nat) : Int) - 1))) fun r => match r with
   | .inl o => z6H k w.reverse = none ∧ o = List.replicate w.length (0 : Int)
   | .inr o => ∃ r,z6H k w.reverse = some r ∧ o = r.reverse.map Int.ofNat := by
  refine zt (fun q => ∃ (p : List Nat) (z : Nat),q.1 = (p ++ List.replicate z 0).map Int.ofNat ∧ q.2 = (p.length : Int) - 1 ∧ (∀ i ∈ p,i < k) ∧ p.length + z = w.length ∧ z6H k w.reverse = (z6H k p.reverse).map (fun r => List.replicate z 0 ++ r)) (fun q => (q.2 + 1).toNat) ⟨w,0,by simp,by rw [zm (by simp; omega) (by simp; omega)]; simp,hw,by simp,by cases z6H k w.reverse <;> simp⟩ (by simp only; rw [zm (by simp; omega) (by simp; omega)]; simp; omega) ?_
  rintro ⟨out,j⟩ ⟨p,z,h1,h2,h3,h4,h5⟩
  simp only at h1 h2
  subst h1; subst h2
  unfold kR
  rw [zg]
  refine ⟨fun hc => ?_,fun hc => ?_⟩
  ·have hp : 1 ≤ p.length := by simp at hc; omega
   obtain ⟨p',d,rfl⟩ : ∃ p' d,p = p' ++ [d] := by
    rcases List.eq_nil_or_concat p with e | ⟨p',d,e⟩
    ·subst e; simp at hp
    ·exact ⟨p',d,by simpa using e⟩
   have hd := h3 d (by simp)
   have hj : (((p' ++ [d]).length : Nat) : Int) - 1 = ((p'.length : Nat) : Int) := by simp
   have hx : ((p' ++ [d] ++ List.replicate z 0).map Int.ofNat)[p'.length]? = some (d : Int) := by
    simp
   have hset : ∀ e : Nat,((p' ++ [d] ++ List.replicate z 0).map Int.ofNat).set p'.length (e : Int) = (p' ++ e :: List.replicate z 0).map Int.ofNat := by
    intro e
    rw [List.append_assoc,List.map_append,List.set_append,if_neg (by simp)]
    simp
   have hr : (p' ++ [d]).reverse = d :: p'.reverse := by simp
   rw [hr] at h5
   have hin : z6H k (d :: p'.reverse) = if d + 1 < k then some ((d + 1) :: p'.reverse) else (z6H k p'.reverse).map (0 :: ·) := rfl
   have hw1 : w64 ((d : Int) + 1) = ((d + 1 : Nat) : Int) := by rw [zm (by omega) (by omega)]; rfl
   rw [hj,zx,bdT hx,hw1,zg]
   refine ⟨fun hc => ?_,fun hc => ?_⟩
   ·have hdk : d + 1 < k := by simp at hc; omega
    rw [bdT hx,bdT hx,hw1,Int.toNat_natCast,hset]
    refine z6.2 ?_
    rw [hin,if_pos hdk] at h5
    exact ⟨_,h5,by simp⟩
   ·have hdk : ¬ d + 1 < k := by simp at hc; omega
    rw [bdT hx,Int.toNat_natCast,zm (by omega) (by omega)]
    have h0 := hset 0
    simp only [Int.natCast_zero] at h0
    refine z6.2 ⟨⟨p',z + 1,?_,rfl,fun i hi => h3 i (by simp [hi]),by simp at h4; omega,?_⟩,?_⟩
    ·rw [List.replicate_succ]; exact h0
    ·rw [hin,if_neg hdk] at h5
     rw [h5]
     cases z6H k p'.reverse with
     | none => rfl
     | some r => simp [List.replicate_succ']
    ·simp only
     omega
  ·have hp : p = [] := List.eq_nil_of_length_eq_zero (by simp at hc; omega)
   subst hp
   refine z6.2 ⟨?_,?_⟩
   ·rw [h5]; rfl
   ·simp at h4; simp [h4]
 unfold Xc
 rw [gdT (by simp; omega)]
 have ⟨r,e,hr⟩ := hloop
 rw [bdT e]
 unfold z7A
 cases r with
 | inl o =>
  obtain ⟨g1,rfl⟩ := hr
  show kS _ = _
  unfold kS
  rw [gdT (by simp; omega),g1]
  simp [List.replicate_succ']
 | inr o =>
  obtain ⟨r,g1,rfl⟩ := hr
  show some _ = _
  rw [g1]
def GG (k : Nat) : Nat → Nat
 | 0 => 0
 | n + 1 => GG k n + k ^ n
theorem z3I {k n m : Nat} (h : n ≤ m) : GG k n ≤ GG k m := by
 induction h with
 | refl => exact Nat.le_refl _
 | step _ ih => exact Nat.le_trans ih (Nat.le_add_right _ _)
def rk (k : Nat) (w : List Nat) : Nat := GG k w.length + Ub k w.reverse
def Wd (k : Nat) (w : List Nat) : Prop := ∀ i ∈ w,i < k
theorem Wd.rev (h : Wd k w) : ∀ d ∈ w.reverse,d < k := fun d hd => h d (by simpa using hd)
theorem zfr (h : Wd k w) : rk k w < GG k (w.length + 1) := by
 have := z7c h.rev
 rw [List.length_reverse] at this
 show GG k w.length + Ub k w.reverse < GG k w.length + k ^ w.length
 omega
theorem z8g {k : Nat} {w u : List Nat} (hw : Wd k w) (h : w.length < u.length) : rk k w < rk k u := by
 have h1 := zfr hw
 have h2 := z3I (k := k) (show w.length + 1 ≤ u.length from h)
 unfold rk at *
 omega
theorem z8h {w u : List Nat} (hw : Wd k w) (hu : Wd k u) (h : rk k w = rk k u) : w = u := by
 have hl : w.length = u.length := by
  rcases Nat.lt_trichotomy w.length u.length with q | q | q
  ·have := z8g hw q; omega
  ·exact q
  ·have := z8g hu q; omega
 have hv : Ub k w.reverse = Ub k u.reverse := by unfold rk at h; rw [hl] at h; omega
 have := z7U (by simpa using hl) hw.rev hu.rev hv
 simpa using congrArg List.reverse this
theorem z5Z (k : Nat) : ∀ n,Ub k (List.replicate n 0) = 0
 | 0 => rfl
 | n + 1 => by simp [List.replicate_succ,Ub,z5Z k n]
theorem zcY (hk : 1 ≤ k)  (hw : Wd k w) : Wd k (z7A k w) ∧ rk k (z7A k w) = rk k w + 1 ∧ (z7A k w).length ≤ w.length + 1 := by
 unfold z7A
 cases e : z6H k w.reverse with
 | some r =>
  have ⟨h1,h2,h3⟩ := z6F hw.rev e
  rw [List.length_reverse] at h1
  refine ⟨fun i hi => h2 i (by simpa using hi),?_,by simp [h1]⟩
  simp [rk,List.length_reverse,List.reverse_reverse,h1,h3]
  omega
 | none =>
  have h := z6G (by omega) hw.rev e
  rw [List.length_reverse] at h
  refine ⟨fun i hi => by have := (List.mem_replicate.1 hi).2; omega,?_,by simp⟩
  simp [rk,List.length_replicate,List.reverse_replicate,z5Z,GG,← h]
  omega
section
variable {m : z4}
def z3G (m : z4) (from_ : Int) (l : List (List Int)) (is : List Bool) (r t : Nat) : Prop :=
 (is[t]? = some true ∧ ∃ v : List Nat,l[t]? = some (v.map Int.ofNat) ∧ rk (kk m) v < r ∧ Wd (kk m) v ∧ v.length < m.Rows.length ∧ aft m from_ v = (t : Int) ∧ ∀ u,Wd (kk m) u → aft m from_ u = (t : Int) → rk (kk m) v ≤ rk (kk m) u) ∨
 (is[t]? = some false ∧ l[t]? = some [] ∧ ∀ u,Wd (kk m) u → rk (kk m) u < r → aft m from_ u ≠ (t : Int))
theorem z6Z (h : VM m) : ∀ (w : List Nat) (s : Int),z1o m s → Wd (kk m) w → z1o m (aft m s w)
 | [],s,hs,_ => hs
 | i :: w,s,hs,hw => z6Z h w _ (zfD h hs (hw i (by simp))) fun j hj => hw j (by simp [hj])
theorem zao (h : VM m) (hG : GG (kk m) m.Rows.length ≤ 1000000000) {from_ : Int} (hf : z1o m from_) :
  Ret (XB m from_) fun r => r.1.length = m.Rows.length ∧ r.2.length = m.Rows.length ∧ ∀ t,t < m.Rows.length → z3G m from_ r.1 r.2 (GG (kk m) m.Rows.length) t := by
 have l64 := h.len64
 have l1 := h.len1
 have hk := h.kk_pos
 have hk2 := h.kk_le
 have hke := h.kk_eq
 unfold XB ZV
 rw [WP,WP]
 refine ⟨by omega,by omega,?_⟩
 rw [zh]
 refine Ret.mono ?_ fun r hr => z6.2 hr
 refine zt (fun q => ∃ w : List Nat,q.2.2 = w.map Int.ofNat ∧ Wd (kk m) w ∧ w.length ≤ m.Rows.length ∧ rk (kk m) w ≤ GG (kk m) m.Rows.length ∧ q.1.length = m.Rows.length ∧ q.2.1.length = m.Rows.length ∧ ∀ t,t < m.Rows.length → z3G m from_ q.1 q.2.1 (rk (kk m) w) t)
  (fun q => GG (kk m) m.Rows.length - rk (kk m) (q.2.2.map Int.toNat)) ⟨[],rfl,fun i hi => by simp at hi,by simp,by simp [rk,GG,Ub],by simp,by simp,fun t ht => .inr ⟨by simp [ht],by simp [ht],fun u _ hu => by simp [rk,GG,Ub] at hu⟩⟩ (by simp only; omega) ?_
 rintro ⟨l,is,wi⟩ ⟨w,h1,hw,hwl,hwr,h2,h3,h4⟩
 simp only at h1 h2 h3 h4
 subst h1
 have hback : ∀ w : List Nat,(w.map Int.ofNat).map Int.toNat = w := fun w => by induction w with | nil => rfl | cons a w ih => simp only [List.map_cons,ih]; rfl
 simp only [hback]
 unfold ZU
 rw [zg]
 refine ⟨fun hc => ?_,fun hc => ?_⟩
 ·have hlt : w.length < m.Rows.length := by simpa using hc
  have hrk : rk (kk m) w < GG (kk m) m.Rows.length := Nat.lt_of_lt_of_le (zfr hw) (z3I hlt)
  have ⟨n1,n2,n3⟩ := zcY hk hw
  have hnx : Xc (w.map Int.ofNat) m.Inputs = some ((z7A (kk m) w).map Int.ofNat) := by rw [← hke]; exact zaw hk (by omega) hw (by omega)
  have fin : ∀ (l2 : List (List Int)) (is2 : List Bool),l2.length = m.Rows.length → is2.length = m.Rows.length → (∀ t,t < m.Rows.length → z3G m from_ l2 is2 (rk (kk m) w + 1) t) →
    Ret (wM m (w.map Int.ofNat) l2 is2) (LRP (fun s' => (∃ w : List Nat,s'.2.2 = w.map Int.ofNat ∧ Wd (kk m) w ∧ w.length ≤ m.Rows.length ∧ rk (kk m) w ≤ GG (kk m) m.Rows.length ∧ s'.1.length = m.Rows.length ∧ s'.2.1.length = m.Rows.length ∧ ∀ t,t < m.Rows.length → z3G m from_ s'.1 s'.2.1 (rk (kk m) w) t) ∧ GG (kk m) m.Rows.length - rk (kk m) (s'.2.2.map Int.toNat) < GG (kk m) m.Rows.length - rk (kk m) w)
     fun r => r.1.length = m.Rows.length ∧ r.2.length = m.Rows.length ∧ ∀ t,t < m.Rows.length → z3G m from_ r.1 r.2 (GG (kk m) m.Rows.length) t) := by
   intro l2 is2 a1 a2 a3
   unfold wM
   rw [bdT hnx]
   refine z6.2 ⟨⟨_,rfl,n1,by omega,by omega,a1,a2,fun t ht => by rw [n2]; exact a3 t ht⟩,?_⟩
   rw [hback,n2]
   omega
  have hin := z6Z h w from_ hf hw
  rw [bdT (ze2 h hf w hw),zg]
  have stay : ∀ t,t < m.Rows.length → (aft m from_ w = (t : Int) → is[t]? = some true) → z3G m from_ l is (rk (kk m) w + 1) t := by
   intro t ht hn
   rcases h4 t ht with ⟨g1,v,g2,g3,g4⟩ | ⟨g1,g2,g3⟩
   ·exact .inl ⟨g1,v,g2,by omega,g4⟩
   ·refine .inr ⟨g1,g2,fun u hu hr e => ?_⟩
    rcases Nat.lt_or_ge (rk (kk m) u) (rk (kk m) w) with q | q
    ·exact g3 u hu q e
    ·have := z8h hu hw (by omega)
     subst this
     rw [hn e] at g1
     cases g1
  refine ⟨fun hc => ?_,fun hc => ?_⟩
  ·have hs0 : 0 ≤ aft m from_ w := by simpa using hc
   have ⟨s,hs⟩ := Int.eq_ofNat_of_zero_le hs0
   have hsN : s < m.Rows.length := by have := hin.2; omega
   rw [hs]
   rcases h4 s hsN with ⟨g1,v,g2,g3⟩ | ⟨g1,g2,g3⟩
   ·rw [zx,bdT g1]
    simp only [Bool.not_true,cond_false]
    refine fin l is h2 h3 fun t ht => stay t ht fun e => ?_
    have : t = s := by omega
    subst this; exact g1
   ·rw [zx,bdT g1]
    simp only [Bool.not_false,cond_true]
    rw [bdT g1,zx,bdT g2,Int.toNat_natCast]
    refine fin _ _ (by simpa using h2) (by simpa using h3) fun t ht => ?_
    by_cases e : t = s
    ·subst e
     refine .inl ⟨by simp [h3,ht],w,by simp [h2,ht],by omega,hw,hlt,hs,fun u hu he => ?_⟩
     rcases Nat.lt_or_ge (rk (kk m) u) (rk (kk m) w) with q | q
     ·exact (g3 u hu q he).elim
     ·exact q
    ·have := stay t ht fun e2 => by omega
     unfold z3G at this ⊢
     rw [List.getElem?_set_ne (by omega),List.getElem?_set_ne (by omega)]
     exact this
  ·have hs0 : ¬ 0 ≤ aft m from_ w := by simpa using hc
   exact fin l is h2 h3 fun t ht => stay t ht fun e => by omega
 ·have hlt : ¬ w.length < m.Rows.length := by simpa using hc
  have hle : w.length = m.Rows.length := by omega
  have hrk : rk (kk m) w = GG (kk m) m.Rows.length := by
   have : GG (kk m) m.Rows.length ≤ rk (kk m) w := by rw [← hle]; unfold rk; omega
   omega
  refine z6.2 ⟨h2,h3,fun t ht => ?_⟩
  rw [← hrk]
  exact h4 t ht
end
theorem Uk (k : Nat) : ∀ (r : List Nat) (d : Nat),Ub k (r ++ [d]) = Ub k r + d * k ^ r.length
 | [],d => by simp [Ub]
 | e :: r,d => by
  simp [List.cons_append,Ub,Uk k r d,List.length_cons,Nat.pow_succ,Nat.mul_add]
  rw [Nat.mul_left_comm k d,Nat.mul_comm k (k ^ r.length)]
  omega
theorem z9F {k : Nat} : ∀ (i : Nat) (a b : List Nat),a.length = b.length → Wd k a → Wd k b → ∀ x y,a.take i = b.take i → a[i]? = some x → b[i]? = some y → x < y → Ub k a.reverse < Ub k b.reverse
 | 0,a,b,hl,ha,hb,x,y,_,h1,h2,h => by
  cases a with
  | nil => simp at h1
  | cons d a =>
   cases b with
   | nil => simp at h2
   | cons e b =>
    simp at h1 h2 hl
    subst h1; subst h2
    rw [List.reverse_cons,List.reverse_cons,Uk,Uk,List.length_reverse,List.length_reverse,← hl]
    have := z7c (k := k) (r := a.reverse) (fun z hz => ha z (by simp at hz; simp [hz]))
    rw [List.length_reverse] at this
    have h3 : (d + 1) * k ^ a.length ≤ e * k ^ a.length := Nat.mul_le_mul_right _ h
    rw [Nat.add_mul,Nat.one_mul] at h3
    omega
 | i + 1,a,b,hl,ha,hb,x,y,ht,h1,h2,h => by
  cases a with
  | nil => simp at h1
  | cons d a =>
   cases b with
   | nil => simp at h2
   | cons e b =>
    simp [List.take_succ_cons,List.cons.injEq] at ht
    simp at h1 h2 hl
    have ih := z9F i a b hl (fun z hz => ha z (by simp [hz])) (fun z hz => hb z (by simp [hz])) x y ht.2 h1 h2 h
    rw [List.reverse_cons,List.reverse_cons,Uk,Uk,List.length_reverse,List.length_reverse,← hl,ht.1]
    omega
theorem zfO {a b : List Nat} (ha : Wd k a) (hb : Wd k b) (hl : a.length ≤ 100000) (hl2 : b.length ≤ 100000) : WS (a.map Int.ofNat) (b.map Int.ofNat) = some (if rk k a < rk k b then 1 else 0) := by
 refine Ret.eq ?_
 unfold WS
 rw [zg]
 refine ⟨fun hc => ?_,fun hc => ?_⟩
 ·have hne : a.length ≠ b.length := by intro e; simp [e] at hc
  rw [zg]
  refine ⟨fun hc => ?_,fun hc => ?_⟩
  ·have : a.length < b.length := by simpa using hc
   exact z6.2 (by rw [if_pos (z8g ha this)])
  ·have : ¬ a.length < b.length := by simpa using hc
   have := z8g hb (u := a) (w := b) (by omega)
   exact z6.2 (by rw [if_neg (by omega)])
 ·have he : a.length = b.length := by
   have : ((a.length : Nat) : Int) = ((b.length : Nat) : Int) := by simpa using hc
   omega
  rw [zh]
  have hloop : Ret (loop (fun s => kT (a.map Int.ofNat) (b.map Int.ofNat) s) 0) fun r => match r with
    | .inl _ => a = b
    | .inr r => r = if rk k a < rk k b then 1 else 0 := by
   refine zt (fun q => ∃ i : Nat,q = (i : Int) ∧ i ≤ a.length ∧ a.take i = b.take i) (fun q => 100000 - q.toNat) ⟨0,rfl,Nat.zero_le _,rfl⟩ (by simp) ?_
   rintro q ⟨i,rfl,hi,ht⟩
   unfold kT
   rw [zg]
   refine ⟨fun hc => ?_,fun hc => ?_⟩
   ·have hia : i < a.length := by simpa using hc
    have hib : i < b.length := by omega
    have ea : (a.map Int.ofNat)[i]? = some ((a[i] : Nat) : Int) := by simp [hia]
    have eb : (b.map Int.ofNat)[i]? = some ((b[i] : Nat) : Int) := by simp [hib]
    have ea' : a[i]? = some a[i] := List.getElem?_eq_getElem hia
    have eb' : b[i]? = some b[i] := List.getElem?_eq_getElem hib
    rw [zx,bdT ea,zx,bdT eb,zg]
    refine ⟨fun hc => ?_,fun hc => ?_⟩
    ·rw [bdT ea,bdT eb,zg]
     refine ⟨fun hc => ?_,fun hc2 => ?_⟩
     ·have hlt : a[i] < b[i] := by simpa using hc
      have := z9F i a b he ha hb _ _ ht ea' eb' hlt
      refine z6.2 ?_
      show (1 : Int) = _
      rw [if_pos (by unfold rk; rw [he]; omega)]
     ·have h1 : ¬ a[i] < b[i] := by simpa using hc2
      have h2 : a[i] ≠ b[i] := by intro e; simp [e] at hc
      have := z9F i b a he.symm hb ha _ _ ht.symm eb' ea' (by omega)
      refine z6.2 ?_
      show (0 : Int) = _
      rw [if_neg (by unfold rk; rw [he]; omega)]
    ·have h2 : a[i] = b[i] := by
      have : ((a[i] : Nat) : Int) = ((b[i] : Nat) : Int) := by simpa using hc
      omega
     rw [zm (by omega) (by omega)]
     refine z6.2 ⟨⟨i + 1,rfl,hia,?_⟩,by simp [Int.toNat_natCast]; omega⟩
     rw [List.take_add_one,List.take_add_one,ht,ea',eb',h2]
   ·have : i = a.length := by
     have : ¬ i < a.length := by simpa using hc
     omega
    subst this
    refine z6.2 ?_
    show a = b
    rw [List.take_length] at ht
    rw [ht,he,List.take_length]
  refine hloop.mono fun r hr => ?_
  cases r with
  | inl u =>
   have hr : a = b := hr
   subst hr
   exact z6.2 (by rw [if_neg (Nat.lt_irrefl _)])
  | inr r => exact z6.2 hr
theorem z5B (m : z4) : ∀ (u w : List Nat) (s : Int),aft m s (u ++ w) = aft m (aft m s u) w
 | [],_,_ => rfl
 | i :: u,w,s => by simp [List.cons_append,aft,z5B m u w]
theorem zbC (m : z4) : ∀ (w : List Nat) (s : Int),s < 0 → aft m s w < 0
 | [],s,h => h
 | i :: w,s,h => by
  simp [aft,nxE,if_pos h]
  exact zbC m w (-1) (by omega)
section
variable {m : z4} (h : VM m)
include h
theorem QF : ∀ (n : Nat) (u : List Nat),u.length ≤ n → Wd (kk m) u → 0 ≤ aft m 0 u → ∃ w,Wd (kk m) w ∧ w.length < m.Rows.length ∧ w.length ≤ u.length ∧ aft m 0 w = aft m 0 u
 | n,u,hn,hu,h0 => by
  have l1 := h.len1
  rcases Nat.lt_or_ge u.length m.Rows.length with q | q
  ·exact ⟨u,hu,q,Nat.le_refl _,rfl⟩
  ·cases n with
   | zero => omega
   | succ n =>
    have hin0 : z1o m 0 := ⟨by omega,by omega⟩
    have hpre : ∀ i,0 ≤ aft m 0 (u.take i) ∧ aft m 0 (u.take i) < (m.Rows.length : Int) := by
     intro i
     have e := z5B m (u.take i) (u.drop i) 0
     rw [List.take_append_drop] at e
     have h1 := z6Z h (u.take i) 0 hin0 fun j hj => hu j (List.mem_of_mem_take hj)
     refine ⟨?_,h1.2⟩
     rcases Int.lt_or_le (aft m 0 (u.take i)) 0 with g | g
     ·have := zbC m (u.drop i) _ g
      omega
     ·exact g
    have hex : ∃ i j,i < j ∧ j ≤ m.Rows.length ∧ aft m 0 (u.take i) = aft m 0 (u.take j) := by
     refine Classical.byContradiction fun hno => ?_
     have hnd : ((List.range (m.Rows.length + 1)).map fun i => (aft m 0 (u.take i)).toNat).Nodup := by
      unfold List.Nodup
      rw [List.pairwise_map]
      refine List.Pairwise.imp_of_mem ?_ (List.pairwise_lt_range (n := m.Rows.length + 1))
      intro a b ha hb hab e
      have h1 := (hpre a).1
      have h2 := (hpre b).1
      exact hno ⟨a,b,hab,by have := List.mem_range.1 hb; omega,by omega⟩
     have := ZI m.Rows.length _ hnd fun x hx => by
      obtain ⟨i,_,rfl⟩ := List.mem_map.1 hx
      have := hpre i
      omega
     simp at this
     omega
    have ⟨i,j,hij,hj,e⟩ := hex
    have e1 : aft m 0 (u.take i ++ u.drop j) = aft m 0 u := by
     rw [z5B,e,← z5B,List.take_append_drop]
    have hlen : (u.take i ++ u.drop j).length ≤ n := by simp; omega
    have ⟨w,w1,w2,w3,w4⟩ := QF n (u.take i ++ u.drop j) hlen (fun x hx => by
     rcases List.mem_append.1 hx with q | q
     ·exact hu x (List.mem_of_mem_take q)
     ·exact hu x (List.mem_of_mem_drop q)) (by rw [e1]; exact h0)
    exact ⟨w,w1,w2,by simp at w3; omega,w4.trans e1⟩
end
structure Acc (m : z4) (t : Nat) (v : List Nat) : Prop where
 wd : Wd (kk m) v
 len : v.length < m.Rows.length
 aft : aft m 0 v = (t : Int)
 least : ∀ u,Wd (kk m) u → Go.Own.aft m 0 u = (t : Int) → rk (kk m) v ≤ rk (kk m) u
section
variable {m : z4} (h : VM m) (hG : GG (kk m) m.Rows.length ≤ 1000000000)
include h hG
def zj6 (m : z4) (r : List (List Int) × List Bool) : Prop :=
 r.1.length = m.Rows.length ∧ r.2.length = m.Rows.length ∧ ∀ t,t < m.Rows.length →
  (r.2[t]? = some true ∧ ∃ v : List Nat,r.1[t]? = some (v.map Int.ofNat) ∧ Acc m t v) ∨ (r.2[t]? = some false ∧ ∀ u,Wd (kk m) u → aft m 0 u ≠ (t : Int))
theorem z0g : Ret (jI m) (zj6 m) := by
 have l1 := h.len1
 unfold jI
 rw [zh]
 refine (zao h hG (from_ := 0) ⟨by omega,by omega⟩).mono fun r hr => z6.2 ⟨hr.1,hr.2.1,fun t ht => ?_⟩
 rcases hr.2.2 t ht with ⟨g1,v,g2,g3,g4,g5,g6,g7⟩ | ⟨g1,g2,g3⟩
 ·exact .inl ⟨g1,v,g2,⟨g4,g5,g6,g7⟩⟩
 ·refine .inr ⟨g1,fun u hu e => ?_⟩
  have ⟨w,w1,w2,w3,w4⟩ := QF h u.length u (Nat.le_refl _) hu (by omega)
  exact g3 w w1 (Nat.lt_of_lt_of_le (zfr w1) (z3I w2)) (w4.trans e)
end
theorem zgp {s t : Nat} {v w : List Nat} (hv : Acc m s v) (hw : Acc m t w) (h : rk (kk m) v = rk (kk m) w) : s = t := by
 have := z8h hv.wd hw.wd h
 subst this
 have h1 := hv.aft
 have h2 := hw.aft
 omega
def z90 (m : z4) (L : List Nat) : Prop := L.Pairwise fun s t => ∀ v w,Acc m s v → Acc m t w → rk (kk m) v < rk (kk m) w
theorem VV {s : Nat} {v w : List Nat} (hv : Acc m s v) (hw : Acc m s w) : v = w :=
 z8h hv.wd hw.wd (Nat.le_antisymm (hv.least w hw.wd hw.aft) (hw.least v hv.wd hv.aft))
section
variable {m : z4} (h : VM m) (hG : GG (kk m) m.Rows.length ≤ 1000000000)
include h hG
theorem z6o : Ret (ZH m) fun o => ∃ L : List Nat,o = L.map Int.ofNat ∧ z90 m L ∧ (∀ t ∈ L,t < m.Rows.length ∧ ∃ v,Acc m t v) ∧ ∀ t,t < m.Rows.length → t ∉ L → ∀ u,Wd (kk m) u → aft m 0 u ≠ (t : Int) := by
 have l64 := h.len64
 unfold ZH
 rw [zh]
 refine (z0g h hG).mono ?_
 rintro r ⟨r1,r2,r3⟩
 rw [zh]
 let I : List Nat → Nat → Prop := fun L s => s ≤ m.Rows.length ∧ L.length ≤ s ∧ z90 m L ∧ (∀ t ∈ L,t < s ∧ ∃ v,Acc m t v) ∧ ∀ t,t < s → t ∉ L → ∀ u,Wd (kk m) u → aft m 0 u ≠ (t : Int)
 have hI : ∀ L s,I L s = (s ≤ m.Rows.length ∧ L.length ≤ s ∧ z90 m L ∧ (∀ t ∈ L,t < s ∧ ∃ v,Acc m t v) ∧ ∀ t,t < s → t ∉ L → ∀ u,Wd (kk m) u → aft m 0 u ≠ (t : Int)) := fun _ _ => rfl
 suffices hloop : Ret (loop (fun s => qw r s.1 s.2) (([] : List Int),0)) fun o => ∃ L : List Nat,o = L.map Int.ofNat ∧ I L m.Rows.length from by
  refine hloop.mono ?_
  rintro o ⟨L,rfl,q1,q2,q3,q4,q5⟩
  exact z6.2 ⟨L,rfl,q3,q4,q5⟩
 refine zt (fun q => ∃ (L : List Nat) (s : Nat),q.1 = L.map Int.ofNat ∧ q.2 = (s : Int) ∧ I L s) (fun q => 1000 - q.2.toNat) ⟨[],0,rfl,rfl,Nat.zero_le _,Nat.le_refl _,List.Pairwise.nil,fun t ht => by simp at ht,fun t ht => by omega⟩ (by simp) ?_
 rintro ⟨out,q⟩ ⟨L,s,e1,e2,i1,i2,i3,i4,i5⟩
 simp only at e1 e2
 subst e1; subst e2
 unfold qw
 rw [zg]
 refine ⟨fun hc => ?_,fun hc => ?_⟩
 ·have hs : s < m.Rows.length := by rw [r1] at hc; simpa using hc
  have hw : w64 ((s : Int) + 1) = ((s + 1 : Nat) : Int) := by rw [zm (by omega) (by omega)]; rfl
  have fin : ∀ L' : List Nat,I L' (s + 1) → Ret (vI (s : Int) (L'.map Int.ofNat)) (LRP (fun s' => (∃ (L : List Nat) (s : Nat),s'.1 = L.map Int.ofNat ∧ s'.2 = (s : Int) ∧ I L s) ∧ 1000 - s'.2.toNat < 1000 - (s : Int).toNat) fun o => ∃ L : List Nat,o = L.map Int.ofNat ∧ I L m.Rows.length) := by
   intro L' hL
   unfold vI
   rw [hw]
   exact z6.2 ⟨⟨L',s + 1,rfl,rfl,hL⟩,by simp only [Int.toNat_natCast]; omega⟩
  rcases r3 s hs with ⟨g1,v,g2,g3⟩ | ⟨g1,g2⟩
  ·rw [zx,bdT g1]
   simp only [Bool.not_true,cond_false]
   rw [zh]
   have inner : Ret (loop (fun k => qu r (L.map Int.ofNat) (s : Int) k) 0) fun k => ∃ n : Nat,k = (n : Int) ∧ n ≤ L.length ∧ (∀ t ∈ L.take n,∀ w,Acc m t w → rk (kk m) w < rk (kk m) v) ∧ ∀ t,L[n]? = some t → ∀ w,Acc m t w → rk (kk m) v < rk (kk m) w := by
    refine zt (fun k => ∃ n : Nat,k = (n : Int) ∧ n ≤ L.length ∧ ∀ t ∈ L.take n,∀ w,Acc m t w → rk (kk m) w < rk (kk m) v) (fun k => 1000 - k.toNat) ⟨0,rfl,Nat.zero_le _,fun t ht => by simp at ht⟩ (by simp) ?_
    rintro k ⟨n,rfl,n1,n2⟩
    unfold qu
    rw [zg]
    refine ⟨fun hc => ?_,fun hc => ?_⟩
    ·have hn : n < L.length := by simpa using hc
     have hx : (L.map Int.ofNat)[n]? = some ((L[n] : Nat) : Int) := by simp [hn]
     have hx' : L[n]? = some L[n] := List.getElem?_eq_getElem hn
     have ⟨ht,w,hw2⟩ := i4 L[n] (List.getElem_mem hn)
     have hacc : r.1[L[n]]? = some (w.map Int.ofNat) := by
      rcases r3 L[n] (by omega) with ⟨_,w',k2,k3⟩ | ⟨_,k2⟩
      ·rw [k2,VV k3 hw2]
      ·exact (k2 w hw2.wd hw2.aft).elim
     have hle := hw2.len
     have hlv := g3.len
     rw [zx,bdT hx,zx,bdT hacc,zx,bdT g2,bdT (zfO hw2.wd g3.wd (by omega) (by omega)),zg]
     by_cases hlt : rk (kk m) w < rk (kk m) v
     ·rw [if_pos hlt]
      refine ⟨fun _ => ?_,fun e => by simp at e⟩
      rw [zm (by omega) (by omega)]
      refine z6.2 ⟨⟨n + 1,rfl,hn,fun t ht => ?_⟩,by simp only [Int.toNat_natCast]; omega⟩
      rw [List.take_add_one,hx',List.mem_append] at ht
      rcases ht with ht | ht
      ·exact n2 t ht
      ·have : t = L[n] := by simpa using ht
       subst this
       intro w' hw'
       rw [VV hw' hw2]; exact hlt
     ·rw [if_neg hlt]
      refine ⟨fun e => by simp at e,fun _ => z6.2 ⟨n,rfl,n1,n2,fun t ht w' hw' => ?_⟩⟩
      rw [hx'] at ht
      cases ht
      rw [VV hw' hw2]
      rcases Nat.lt_or_ge (rk (kk m) v) (rk (kk m) w) with q | q
      ·exact q
      ·have := zgp hw2 g3 (by omega)
       omega
    ·have hn : ¬ n < L.length := by simpa using hc
     refine z6.2 ⟨n,rfl,n1,n2,fun t ht => ?_⟩
     have : n < L.length := (List.getElem?_eq_some_iff.1 ht).1
     omega
   refine inner.mono ?_
   rintro k ⟨n,rfl,n1,n2,n3⟩
   unfold ZW
   have e1 : (((L.map Int.ofNat).drop 0).take ((n : Int).toNat - 0)) = (L.take n).map Int.ofNat := by simp [List.map_take]
   have e2 : (L.map Int.ofNat).drop (n : Int).toNat = (L.drop n).map Int.ofNat := by simp [List.map_drop]
   rw [e1,e2,WP,WP,WP,WP,WP]
   refine ⟨by simp; omega,by simp; omega,by simp; omega,by simp; omega,by simp; omega,?_⟩
   have e3 : ((L.take n).map Int.ofNat ++ ([(s : Int)] : List Int)) ++ (L.drop n).map Int.ofNat = (L.take n ++ s :: L.drop n).map Int.ofNat := by simp
   rw [e3]
   have hperm : ∀ t,t ∈ L.take n ++ s :: L.drop n ↔ t = s ∨ t ∈ L := by
    intro t
    have : t ∈ L ↔ t ∈ L.take n ∨ t ∈ L.drop n := by rw [← List.mem_append,List.take_append_drop]
    rw [this,List.mem_append,List.mem_cons]
    constructor
    ·rintro (q | q | q)
     ·exact .inr (.inl q)
     ·exact .inl q
     ·exact .inr (.inr q)
    ·rintro (q | q | q)
     ·exact .inr (.inl q)
     ·exact .inl q
     ·exact .inr (.inr q)
   have hdrop : ∀ t ∈ L.drop n,∀ w,Acc m t w → rk (kk m) v < rk (kk m) w := by
    intro t ht w hw'
    rcases Nat.lt_or_ge n L.length with q | q
    ·rw [List.drop_eq_getElem_cons q] at ht
     have hx' : L[n]? = some L[n] := List.getElem?_eq_getElem q
     have ⟨_,w0,hw0⟩ := i4 L[n] (List.getElem_mem q)
     have h0 := n3 L[n] hx' w0 hw0
     rcases List.mem_cons.1 ht with rfl | ht
     ·rw [VV hw' hw0]; exact h0
     ·have hd : (L.drop n).Pairwise fun s t => ∀ v w,Acc m s v → Acc m t w → rk (kk m) v < rk (kk m) w := List.Pairwise.sublist (List.drop_sublist n L) i3
      rw [List.drop_eq_getElem_cons q] at hd
      exact Nat.lt_trans h0 ((List.pairwise_cons.1 hd).1 t ht w0 w hw0 hw')
    ·rw [List.drop_eq_nil_of_le q] at ht
     cases ht
   refine fin _ ⟨hs,by simp; omega,?_,fun t ht => ?_,fun t ht hn u hu => ?_⟩
   ·show List.Pairwise _ _
    rw [List.pairwise_append]
    refine ⟨List.Pairwise.sublist (List.take_sublist n L) i3,List.pairwise_cons.2 ⟨fun t ht v' w hv' hw' => ?_,List.Pairwise.sublist (List.drop_sublist n L) i3⟩,?_⟩
    ·rw [VV hv' g3]
     exact hdrop t ht w hw'
    ·intro a ha b hb v' w hv' hw'
     have hav := n2 a ha v' hv'
     rcases List.mem_cons.1 hb with rfl | hb
     ·rw [VV hw' g3]; exact hav
     ·exact Nat.lt_trans hav (hdrop b hb w hw')
   ·rcases (hperm t).1 ht with rfl | ht
    ·exact ⟨by omega,v,g3⟩
    ·have := i4 t ht
     exact ⟨by omega,this.2⟩
   ·have hne : t ≠ s := fun e => hn ((hperm t).2 (.inl e))
    exact i5 t (by omega) (fun q => hn ((hperm t).2 (.inr q))) u hu
  ·rw [zx,bdT g1]
   simp only [Bool.not_false,cond_true]
   refine fin L ⟨hs,by omega,i3,fun t ht => ⟨by have := (i4 t ht).1; omega,(i4 t ht).2⟩,fun t ht hn u hu => ?_⟩
   rcases Nat.lt_or_ge t s with q | q
   ·exact i5 t q hn u hu
   ·have : t = s := by omega
    subst this; exact g2 u hu
 ·have hs : ¬ s < m.Rows.length := by rw [r1] at hc; simpa using hc
  have : s = m.Rows.length := by omega
  subst this
  exact z6.2 ⟨L,rfl,i1,i2,i3,i4,i5⟩
end
def vY : List Int → List Int → Int
 | [],[] => 0
 | [],_ :: _ => -1
 | _ :: _,[] => 1
 | x :: a,y :: b => if x < y then -1 else if y < x then 1 else vY a b
def XN (a b : List Int) : Int := if a.length < b.length then -1 else if b.length < a.length then 1 else vY a b
theorem zaG : ∀ {a b : List Int},vY a b = 0 → a = b
 | [],[],_ => rfl
 | [],_ :: _,h => by simp [vY] at h
 | _ :: _,[],h => by simp [vY] at h
 | x :: a,y :: b,h => by
  simp [vY] at h
  split at h
  ·simp at h
  ·split at h
   ·simp at h
   ·rw [show x = y by omega,zaG h]
theorem z6x : ∀ a : List Int,vY a a = 0
 | [] => rfl
 | x :: a => by simp [vY,z6x a]
theorem z8y : ∀ a b : List Int,vY b a = - vY a b
 | [],[] => rfl
 | [],_ :: _ => rfl
 | _ :: _,[] => rfl
 | x :: a,y :: b => by
  simp [vY]
  split
  ·rw [if_neg (by omega)]
  ·split
   ·rfl
   ·exact z8y a b
theorem z4u : ∀ {a b c : List Int},vY a b < 0 → vY b c < 0 → vY a c < 0
 | [],[],_,h,_ => by simp [vY] at h
 | [],_ :: _,[],_,h => by simp [vY] at h
 | [],_ :: _,_ :: _,_,_ => by simp [vY]
 | _ :: _,[],_,h,_ => by simp [vY] at h
 | _ :: _,_ :: _,[],_,h => by simp [vY] at h
 | x :: a,y :: b,z :: c,h1,h2 => by
  simp [vY] at h1 h2 ⊢
  by_cases e1 : x < y
  ·by_cases e2 : y < z
   ·rw [if_pos (by omega)]; omega
   ·rw [if_neg e2] at h2
    by_cases e3 : z < y
    ·rw [if_pos e3] at h2; omega
    ·rw [if_pos (by omega)]; omega
  ·rw [if_neg e1] at h1
   by_cases e3 : y < x
   ·rw [if_pos e3] at h1; omega
   ·rw [if_neg e3] at h1
    have : x = y := by omega
    subst this
    by_cases e2 : x < z
    ·rw [if_pos e2]; omega
    ·rw [if_neg e2] at h2 ⊢
     by_cases e4 : z < x
     ·rw [if_pos e4] at h2; omega
     ·rw [if_neg e4] at h2 ⊢
      exact z4u h1 h2
variable {a b : List Int}
theorem z7Q (h : XN a b = 0) : a = b := by
 unfold XN at h
 split at h
 ·simp at h
 ·split at h
  ·simp at h
  ·exact zaG h
theorem z3h (a : List Int) : XN a a = 0 := by simp [XN,z6x]
theorem z8Q : XN a b = 0 ↔ a = b := ⟨z7Q,fun h => h ▸ z3h a⟩
theorem z8O (a b : List Int) : XN b a = - XN a b := by
 unfold XN
 by_cases h1 : a.length < b.length
 ·rw [if_pos h1,if_neg (by omega),if_pos h1]; rfl
 ·by_cases h2 : b.length < a.length
  ·rw [if_pos h2,if_neg h1,if_pos h2]
  ·rw [if_neg h1,if_neg h2,if_neg h2,if_neg h1,z8y]
theorem Xj {a b c : List Int} (h1 : XN a b < 0) (h2 : XN b c < 0) : XN a c < 0 := by
 unfold XN at *
 by_cases e1 : a.length < b.length
 ·by_cases e2 : b.length < c.length
  ·rw [if_pos (by omega)]; omega
  ·rw [if_neg e2] at h2
   by_cases e3 : c.length < b.length
   ·rw [if_pos e3] at h2; omega
   ·rw [if_pos (by omega)]; omega
 ·rw [if_neg e1] at h1
  by_cases e3 : b.length < a.length
  ·rw [if_pos e3] at h1; omega
  ·rw [if_neg e3] at h1
   have e : a.length = b.length := by omega
   rw [e]
   by_cases e2 : b.length < c.length
   ·rw [if_pos e2]; omega
   ·rw [if_neg e2] at h2 ⊢
    by_cases e4 : c.length < b.length
    ·rw [if_pos e4] at h2; omega
    ·rw [if_neg e4] at h2 ⊢
     exact z4u h1 h2
theorem z8P (a : List Int) : ¬ XN a a < 0 := by rw [z3h]; omega
theorem zbe (h : XN a b < 0) : ¬ XN b a < 0 := by rw [z8O a b]; omega
theorem zbd {a b : List Int} : ¬ XN a b < 0 ↔ XN b a < 0 ∨ a = b := by
 rw [← z8Q,z8O a b]; omega
def SW (l : List (List Int)) : Prop := l.Pairwise fun a b => XN a b < 0
theorem SW.nil : SW [] := List.Pairwise.nil
variable {l : List (List Int)}{x : List Int}
theorem SW.tail (h : SW (x :: l)) : SW l := (List.pairwise_cons.1 h).2
theorem SW.head (h : SW (x :: l)) : ∀ y ∈ l,XN x y < 0 := (List.pairwise_cons.1 h).1
theorem SW.unique : ∀ {l m : List (List Int)},SW l → SW m → (∀ x,x ∈ l ↔ x ∈ m) → l = m
 | [],[],_,_,_ => rfl
 | [],y :: m,_,_,h => by have := (h y).2 (by simp); simp at this
 | x :: l,[],_,_,h => by have := (h x).1 (by simp); simp at this
 | x :: l,y :: m,h1,h2,h => by
  have hxy : x = y := by
   rcases List.mem_cons.1 ((h x).1 (by simp)) with e | e
   ·exact e
   ·rcases List.mem_cons.1 ((h y).2 (by simp)) with e' | e'
    ·exact e'.symm
    ·exact absurd (h2.head x e) (zbe (h1.head y e'))
  subst hxy
  rw [SW.unique h1.tail h2.tail fun z => ?_]
  constructor
  ·intro hz
   rcases List.mem_cons.1 ((h z).1 (by simp [hz])) with e | e
   ·subst e; exact absurd (h1.head _ hz) (z8P _)
   ·exact e
  ·intro hz
   rcases List.mem_cons.1 ((h z).2 (by simp [hz])) with e | e
   ·subst e; exact absurd (h2.head _ hz) (z8P _)
   ·exact e
theorem SW.sub {l m : List (List Int)} (h : SW l) (hs : List.Sublist m l) : SW m := List.Pairwise.sublist hs h
def z4n (w : List Int) : List (List Int) → List (List Int)
 | [] => [w]
 | x :: l => if XN x w < 0 then x :: z4n w l else if XN x w = 0 then x :: l else w :: x :: l
theorem JN {w x : List Int} : ∀ {l : List (List Int)},x ∈ z4n w l ↔ x = w ∨ x ∈ l
 | [] => by simp [z4n]
 | y :: l => by
  simp [z4n]
  split
  ·simp [List.mem_cons,JN]
   constructor
   ·rintro (h | h | h) <;> simp [h]
   ·rintro (h | h | h) <;> simp [h]
  ·split
   ·rename_i h1 h2
    have := z7Q h2
    subst this
    simp
   ·simp
theorem SW.put {w : List Int} : ∀ {l : List (List Int)},SW l → SW (z4n w l)
 | [],_ => by simp [z4n,SW]
 | y :: l,h => by
  simp [z4n]
  split
  ·rename_i h1
   refine List.pairwise_cons.2 ⟨fun z hz => ?_,SW.put h.tail⟩
   rcases JN.1 hz with rfl | hz
   ·exact h1
   ·exact h.head z hz
  ·split
   ·exact h
   ·rename_i h1 h2
    have hw : XN w y < 0 := by
     rcases zbd.1 h1 with q | q
     ·exact q
     ·exact absurd (z8Q.2 q) h2
    refine List.pairwise_cons.2 ⟨fun z hz => ?_,h⟩
    rcases List.mem_cons.1 hz with rfl | hz
    ·exact hw
    ·exact Xj hw (h.head z hz)
theorem z8q (w : List Int) : ∀ l,(z4n w l).length ≤ l.length + 1
 | [] => by simp [z4n]
 | y :: l => by
  simp [z4n]
  split
  ·have := z8q w l; simp; omega
  ·split <;> simp
def srt (l : List (List Int)) : List (List Int) := l.foldl (fun m w => z4n w m) []
theorem z7k : ∀ (l m : List (List Int)),SW m → SW (l.foldl (fun m w => z4n w m) m) ∧ ∀ x,x ∈ l.foldl (fun m w => z4n w m) m ↔ x ∈ m ∨ x ∈ l
 | [],m,h => ⟨h,by simp⟩
 | w :: l,m,h => by
  have ⟨h1,h2⟩ := z7k l (z4n w m) h.put
  refine ⟨h1,fun x => ?_⟩
  rw [List.foldl_cons,h2,JN]
  simp [List.mem_cons]
  constructor
  ·rintro ((h | h) | h) <;> simp [h]
  ·rintro (h | h | h) <;> simp [h]
theorem z9P (l : List (List Int)) : SW (srt l) := (z7k l [] .nil).1
theorem z7D : x ∈ srt l ↔ x ∈ l := by rw [srt,(z7k l [] .nil).2]; simp
theorem zcp (l : List (List Int)) (w : List Int) : srt (l ++ [w]) = z4n w (srt l) := by simp [srt]
theorem z7j (l : List (List Int)) : (srt l).length ≤ l.length := by
 have : ∀ (l m : List (List Int)),(l.foldl (fun m w => z4n w m) m).length ≤ m.length + l.length := by
  intro l
  induction l with
  | nil => intro m; simp
  | cons w l ih => intro m; have := ih (z4n w m); have := z8q w m; simp [List.foldl_cons,List.length_cons]; omega
 have q := this l []
 simp [List.length_nil,Nat.zero_add] at q
 exact q
end Go.Own
end
