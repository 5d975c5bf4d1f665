/- -/
import Derived.Test.YtkalhfmehmcofaaGreatPartG
import Derived.Test.YtkalhfmehmcofaaGreatPartH
import Derived.Test.YtkalhfmehmcofaaGreatPartE
import Derived.Test.YtkalhfmehmcofaaGreatPartB
import Derived.OpenShut
import Derived.ChangeShapes
import Derived.Test.YtkalhfmehmcofaaGreatPartC
import Derived.WalkKit
import Derived.ProofKit
import Derived.Carry
import Derived.Test.YtkalhfmehmcofaaGreatRows
import Derived.Test.YtkalhfmehmcofaaGreatChecked
set_option linter.unusedVariables false
set_option linter.unusedSimpArgs false
namespace Go.Own
def ed (rows : List (List z5)) (s i : Nat) : z5 := ((rows[s]?.getD [])[i]?).getD ⟨-1,-1⟩
structure TM (n k o : Nat) (rows : List (List z5)) : Prop where
 len : rows.length = n
 row : ∀ (s : Nat) (r : List z5),rows[s]? = some r → r.length = k
 edge : ∀ s i,s < n → i < k → -1 ≤ (ed rows s i).To ∧ (ed rows s i).To < (n : Int) ∧ 0 ≤ (ed rows s i).Out ∧ (ed rows s i).Out < (o : Int)
variable {s : Nat}
section
variable {n k o : Nat} {rows : List (List z5)}
theorem TM.rowAt (h : TM n k o rows)  (hs : s < n) : ∃ r,rows[s]? = some r ∧ r.length = k ∧ ∀ i,i < k → r[i]? = some (ed rows s i) := by
 have hsl : s < rows.length := by rw [h.len]; exact hs
 have hr : rows[s]? = some rows[s] := List.getElem?_eq_getElem hsl
 have hl := h.row s _ hr
 refine ⟨_,hr,hl,fun i hi => ?_⟩
 unfold ed
 rw [hr,Option.getD_some,List.getElem?_eq_getElem (by omega),Option.getD_some]
theorem TM.upd (h : TM n k o rows) {s i : Nat} (hs : s < n) (hi : i < k) {r : List z5} (hr : rows[s]? = some r) {t : Int} (t0 : -1 ≤ t) (t1 : t < (n : Int)) :
  TM n k o (rows.set s (r.set i ⟨t,(ed rows s i).Out⟩)) ∧ ∀ s' i',ed (rows.set s (r.set i ⟨t,(ed rows s i).Out⟩)) s' i' = if s' = s ∧ i' = i then ⟨t,(ed rows s i).Out⟩ else ed rows s' i' := by
 have hsl : s < rows.length := by rw [h.len]; exact hs
 have hrl := h.row s r hr
 have q2 := h.edge s i hs hi
 generalize (ed rows s i).Out = oo at q2 ⊢
 have key : ∀ s' i',ed (rows.set s (r.set i ⟨t,oo⟩)) s' i' = if s' = s ∧ i' = i then ⟨t,oo⟩ else ed rows s' i' := by
  intro s' i'
  by_cases e : s' = s
  ·subst e
   conv => lhs; unfold ed
   rw [List.getElem?_set_self hsl,Option.getD_some]
   by_cases e2 : i' = i
   ·subst e2
    rw [List.getElem?_set_self (by omega),if_pos ⟨rfl,rfl⟩,Option.getD_some]
   ·rw [List.getElem?_set_ne (fun q => e2 q.symm),if_neg (fun q => e2 q.2)]
    unfold ed
    rw [hr,Option.getD_some]
  ·conv => lhs; unfold ed
   rw [List.getElem?_set_ne (fun q => e q.symm),if_neg (fun q => e q.1)]
   rfl
 refine ⟨⟨by rw [List.length_set]; exact h.len,fun s' r' hr' => ?_,fun s' i' hs' hi' => ?_⟩,key⟩
 ·rw [List.getElem?_set] at hr'
  split at hr'
  ·cases hr'; rw [List.length_set]; exact hrl
  ·exact h.row s' r' hr'
 ·rw [key]
  have q := h.edge s' i' hs' hi'
  split
  ·rename_i e
   exact ⟨t0,t1,q2.2.2.1,q2.2.2.2⟩
  ·exact q
theorem TM.idx2 (h : TM n k o rows) {s i : Nat} (hs : s < n) (hi : i < k) : ∃ r,rows[s]? = some r ∧ r.length = k ∧ r[i]? = some (ed rows s i) := by
 have ⟨r,h1,h2,h3⟩ := h.rowAt hs
 exact ⟨r,h1,h2,h3 i hi⟩
end
theorem z4r (l : List Int) (hl : ∀ v ∈ l,0 ≤ v ∧ v ≤ 65535) {q : Int} (hq : 0 ≤ q) : Ret (jJ l q) fun v => 0 ≤ v ∧ v ≤ 65535 := by
 unfold jJ
 rw [zg]
 refine ⟨fun hc => ?_,fun _ => z6.2 (by omega)⟩
 have hc : q < ((l.length : Nat) : Int) := of_decide_eq_true hc
 have hx : l[q.toNat]? = some l[q.toNat] := List.getElem?_eq_getElem (by omega)
 rw [zh,z7t]
 have := hl _ (List.mem_of_getElem? hx)
 exact ⟨hq,_,hx,z6.2 (by rw [zm (by omega) (by omega)]; exact this)⟩
structure ziq (x : zu) : Prop where
 s0 : 0 ≤ x.States
 i0 : 0 ≤ x.Inputs
 o0 : 0 ≤ x.Outputs
 t0 : ∀ v ∈ x.Tree,0 ≤ v ∧ v ≤ 255
 e0 : ∀ v ∈ x.Edges,0 ≤ v ∧ v ≤ 65535
variable {rows : List (List z5)}
section
variable {x : zu} (h : ziq x) {n k o : Nat} (hn : w64 (1 + w64 (Int.tmod x.States 6)) = (n : Int)) (hk : w64 (1 + w64 (Int.tmod x.Inputs 3)) = (k : Int)) (ho : w64 (1 + w64 (Int.tmod x.Outputs 3)) = (o : Int))
 (n1 : 1 ≤ n ∧ n ≤ 6) (k1 : 1 ≤ k ∧ k ≤ 3) (o1 : 1 ≤ o ∧ o ≤ 3)
include h hn hk ho n1 k1 o1
theorem zcH (hs : s < n) : Ret (loop (fun st => vK x (s : Int) st.1 st.2) (([] : List z5),0)) fun r => r.length = k ∧ ∀ e ∈ r,e.To = -1 ∧ 0 ≤ e.Out ∧ e.Out < (o : Int) := by
 refine zt (fun st => ∃ i : Nat,st.2 = (i : Int) ∧ i ≤ k ∧ st.1.length = i ∧ ∀ e ∈ st.1,e.To = -1 ∧ 0 ≤ e.Out ∧ e.Out < (o : Int)) (fun st => 10 - st.2.toNat) ⟨0,rfl,by omega,rfl,by simp⟩ (by show 10 - _ < _; omega) ?_
 rintro ⟨row,_⟩ ⟨i,rfl,h1,h2,h3⟩
 simp only at h2 h3
 show Ret (vK x (s : Int) row (i : Int)) _
 unfold vK
 rw [hk,hn,ho,zg]
 have hsk : s * k ≤ 5 * 3 := Nat.mul_le_mul (by omega) (by omega)
 have w1 : w64 ((s : Int) * (k : Int)) = ((s * k : Nat) : Int) := by rw [zm (by rw [← Int.natCast_mul]; omega) (by rw [← Int.natCast_mul]; omega)]; exact (Int.natCast_mul s k).symm
 refine ⟨fun hc => ?_,fun hc => z6.2 ⟨by have := of_decide_eq_false hc; omega,h3⟩⟩
 have hc : (i : Int) < (k : Int) := of_decide_eq_true hc
 rw [w1,zm (x := ((s * k : Nat) : Int) + (i : Int)) (by omega) (by omega),zh]
 refine (z4r x.Edges h.e0 (q := ((s * k : Nat) : Int) + (i : Int)) (by omega)).mono fun v hv => ?_
 have d0 : 0 ≤ Int.tdiv v n ∧ Int.tdiv v n ≤ v := by
  rw [Int.tdiv_eq_ediv_of_nonneg hv.1]
  exact ⟨Int.ediv_nonneg hv.1 (by omega),Int.ediv_le_self _ hv.1⟩
 rw [gdT (by omega),gdT (by omega),gdT (by simp; omega),z6,zm (x := Int.tdiv v n) (by omega) (by omega),zm (x := (i : Int) + 1) (by omega) (by omega)]
 refine ⟨⟨i + 1,rfl,by omega,by simp [h2],fun e he => ?_⟩,by simp only; omega⟩
 rcases List.mem_append.1 he with q | q
 ·exact h3 e q
 ·simp [List.mem_cons,List.not_mem_nil,or_false] at q
  subst q
  exact ⟨rfl,Int.tmod_nonneg _ d0.1,Int.tmod_lt_of_pos _ (by omega)⟩
theorem zad : Ret (loop (fun st => vL x st.1 st.2) (([] : List (List z5)),0)) fun rows => TM n k o rows ∧ ∀ s i,s < n → i < k → (ed rows s i).To = -1 := by
 refine zt (fun st => ∃ s : Nat,st.2 = (s : Int) ∧ s ≤ n ∧ st.1.length = s ∧ ∀ r ∈ st.1,r.length = k ∧ ∀ e ∈ r,e.To = -1 ∧ 0 ≤ e.Out ∧ e.Out < (o : Int)) (fun st => 10 - st.2.toNat) ⟨0,rfl,by omega,rfl,by simp⟩ (by show 10 - _ < _; omega) ?_
 rintro ⟨rows,_⟩ ⟨s,rfl,h1,h2,h3⟩
 simp only at h2 h3
 show Ret (vL x rows (s : Int)) _
 unfold vL
 rw [hn,zg]
 refine ⟨fun hc => ?_,fun hc => ?_⟩
 ·have hc : (s : Int) < (n : Int) := of_decide_eq_true hc
  rw [zh]
  refine (zcH h hn hk ho n1 k1 o1 (s := s) (by omega)).mono fun r hr => ?_
  unfold Y1 Y2
  rw [gdT (by simp; omega),z6,zm (x := (s : Int) + 1) (by omega) (by omega)]
  refine ⟨⟨s + 1,rfl,by omega,by simp [h2],fun r' hr' => ?_⟩,by simp only; omega⟩
  rcases List.mem_append.1 hr' with q | q
  ·exact h3 r' q
  ·simp [List.mem_cons,List.not_mem_nil,or_false] at q
   subst q
   exact hr
 ·have hsn : s = n := by have := of_decide_eq_false hc; omega
  have all : ∀ s i,s < n → i < k → (ed rows s i).To = -1 ∧ 0 ≤ (ed rows s i).Out ∧ (ed rows s i).Out < (o : Int) := by
   intro t i ht hi
   have hr : rows[t]? = some rows[t] := List.getElem?_eq_getElem (by omega)
   have ⟨g1,g2⟩ := h3 _ (List.getElem_mem (by omega : t < rows.length))
   have hx : (rows[t])[i]? = some (rows[t])[i] := List.getElem?_eq_getElem (by omega)
   unfold ed
   rw [hr,Option.getD_some,hx,Option.getD_some]
   exact g2 _ (List.getElem_mem _)
  refine z6.2 ⟨⟨by omega,fun t r hr => (h3 r (List.mem_of_getElem? hr)).1,fun t i ht hi => ?_⟩,fun t i ht hi => (all t i ht hi).1⟩
  have ⟨a,b,c⟩ := all t i ht hi
  omega
omit h hn hk ho n1 k1 o1 in
theorem z9U : ∀ a : Nat,a ≤ 100 → w64 (a : Int) = (a : Int) := fun a ha => zm (by omega) (by omega)
omit h hn hk ho n1 o1 in
theorem zes {c s : Nat} (hc : c < s * k) : c / k < s ∧ c % k < k ∧ Int.tdiv (c : Int) (k : Int) = ((c / k : Nat) : Int) ∧ Int.tmod (c : Int) (k : Int) = ((c % k : Nat) : Int) :=
 ⟨Nat.div_lt_of_lt_mul (by rw [Nat.mul_comm]; exact hc),Nat.mod_lt _ (by omega),by rw [Int.tdiv_eq_ediv_of_nonneg (by omega)]; rfl,by rw [Int.tmod_eq_emod_of_nonneg (by omega)]; rfl⟩
omit h hn ho o1 in
theorem zdr (hT : TM n k o rows) {s : Nat} (s1 : 1 ≤ s) (sn : s < n) (hfree : ∀ i,i < k → (ed rows (s - 1) i).To = -1) :
  Ret (loop (fun st => vM x rows (s : Int) st.1 st.2) (([] : List Int),0)) fun fr => fr ≠ [] ∧ fr.length ≤ 100 ∧ ∀ c ∈ fr,∃ q : Nat,c = (q : Int) ∧ q < s * k ∧ (ed rows (q / k) (q % k)).To < 0 := by
 have hsk : s * k ≤ 5 * 3 := Nat.mul_le_mul (by omega) (by omega)
 refine zt (fun st => ∃ q : Nat,st.2 = (q : Int) ∧ q ≤ s * k ∧ st.1.length ≤ q ∧ ((s - 1) * k < q → st.1 ≠ []) ∧ ∀ c ∈ st.1,∃ q : Nat,c = (q : Int) ∧ q < s * k ∧ (ed rows (q / k) (q % k)).To < 0) (fun st => 20 - st.2.toNat) ⟨0,rfl,by omega,by simp,by omega,by simp⟩ (by show 20 - _ < _; omega) ?_
 rintro ⟨fr,_⟩ ⟨q,rfl,h1,h2,h3,h4⟩
 simp only at h2 h3 h4
 show Ret (vM x rows (s : Int) fr (q : Int)) _
 unfold vM
 have w1 : w64 ((s : Int) * (k : Int)) = ((s * k : Nat) : Int) := by rw [zm (by rw [← Int.natCast_mul]; omega) (by rw [← Int.natCast_mul]; omega)]; exact (Int.natCast_mul s k).symm
 rw [hk,w1,zg]
 refine ⟨fun hc => ?_,fun hc => ?_⟩
 ·have hc : ((q : Nat) : Int) < ((s * k : Nat) : Int) := of_decide_eq_true hc
  have hqs : q < s * k := by omega
  have ⟨d1,d2,d3,d4⟩ := zes k1 hqs
  have ⟨r,r1,r2,r3⟩ := hT.idx2 (s := q / k) (i := q % k) (by omega) d2
  rw [gdT (by omega),d3,z9U (q / k) (by omega),bdT (zC r1),gdT (by omega),d4,bdT (zC r3),zg]
  have w2 : w64 ((q : Int) + 1) = ((q + 1 : Nat) : Int) := by rw [zm (by omega) (by omega)]; rfl
  unfold qC
  refine ⟨fun ht => ?_,fun ht => ?_⟩
  ·have ht : (ed rows (q / k) (q % k)).To < 0 := of_decide_eq_true ht
   rw [gdT (by simp; omega),z6,w2]
   refine ⟨⟨q + 1,rfl,by omega,by simp; omega,fun _ => by simp,fun c hc => ?_⟩,by simp [Int.toNat_natCast]; omega⟩
   rcases List.mem_append.1 hc with g | g
   ·exact h4 c g
   ·simp [List.mem_cons,List.not_mem_nil,or_false] at g
    exact ⟨q,g,hqs,ht⟩
  ·have ht := of_decide_eq_false ht
   rw [z6,w2]
   refine ⟨⟨q + 1,rfl,by omega,by simp only; omega,fun hlt => ?_,h4⟩,by simp [Int.toNat_natCast]; omega⟩
   by_cases e : (s - 1) * k < q
   ·exact h3 e
   ·exfalso
    have e2 : q = (s - 1) * k := by omega
    have : q / k = s - 1 := by rw [e2]; exact Nat.mul_div_cancel _ (by omega)
    have q2 := hfree (q % k) d2
    rw [this,q2] at ht
    omega
 ·have hc := of_decide_eq_false hc
  have e : (s - 1) * k < s * k := Nat.mul_lt_mul_of_pos_right (by omega) (by omega)
  exact z6.2 ⟨h3 (by omega),by omega,h4⟩
structure Tree (s : Nat) (rows : List (List z5)) : Prop where
 tm : TM n k o rows
 par : ∀ t,1 ≤ t → t < s → ∃ r i,r < t ∧ i < k ∧ (ed rows r i).To = (t : Int)
 free : ∀ r i,s ≤ r + 1 → r < n → i < k → (ed rows r i).To = -1
omit h hn ho o1 in
theorem zfz {rows : List (List z5)} {s : Nat} (s1 : 1 ≤ s) (sn : s < n) (hT : Tree (n := n) (k := k) (o := o) s rows) {q : Nat} (hq : q < s * k) (hf : (ed rows (q / k) (q % k)).To < 0) :
  ∃ rows',wN x rows (s : Int) (q : Int) = some (.next (rows',((s + 1 : Nat) : Int))) ∧ Tree (n := n) (k := k) (o := o) (s + 1) rows' := by
 have hsk : s * k ≤ 5 * 3 := Nat.mul_le_mul (by omega) (by omega)
 have ⟨d1,d2,d3,d4⟩ := zes k1 hq
 have ⟨r,r1,r2,r3⟩ := hT.tm.idx2 (s := q / k) (i := q % k) (by omega) d2
 have ⟨u1,u2⟩ := hT.tm.upd (s := q / k) (i := q % k) (by omega) d2 r1 (t := (s : Int)) (by omega) (by omega)
 refine ⟨_,?_,u1,fun t t1 t2 => ?_,fun r' i g1 g2 g3 => ?_⟩
 ·unfold wN YX
  have w2 : w64 ((s : Int) + 1) = ((s + 1 : Nat) : Int) := by rw [zm (by omega) (by omega)]; rfl
  rw [hk,gdT (by omega),d3,z9U (q / k) (by omega),bdT (zC r1),gdT (by omega),d4,bdT (zC r3),w2]
  rfl
 ·by_cases e : t = s
  ·subst e
   exact ⟨q / k,q % k,d1,d2,by rw [u2,if_pos ⟨rfl,rfl⟩]⟩
  ·have ⟨r',i,g1,g2,g3⟩ := hT.par t t1 (by omega)
   refine ⟨r',i,g1,g2,?_⟩
   rw [u2,if_neg,g3]
   rintro ⟨rfl,rfl⟩
   omega
 ·rw [u2,if_neg (by rintro ⟨e,_⟩; omega)]
  exact hT.free r' i (by omega) g2 g3
omit ho o1 in
theorem zbT (hT : TM n k o rows) (hfree : ∀ s i,s < n → i < k → (ed rows s i).To = -1) : Ret (loop (fun st => uT x st.1 st.2) (rows,1)) (Tree (n := n) (k := k) (o := o) n) := by
 refine zt (fun st => ∃ s : Nat,st.2 = (s : Int) ∧ 1 ≤ s ∧ s ≤ n ∧ Tree (n := n) (k := k) (o := o) s st.1) (fun st => 10 - st.2.toNat) ⟨1,rfl,by omega,by omega,hT,fun t _ _ => by omega,fun r i _ => hfree r i⟩ (by show 10 - _ < _; omega) ?_
 rintro ⟨rows,_⟩ ⟨s,rfl,s1,sn,hS⟩
 simp only at hS
 show Ret (uT x rows (s : Int)) _
 unfold uT
 rw [hn,zg]
 refine ⟨fun hc => ?_,fun hc => ?_⟩
 ·have hc : (s : Int) < (n : Int) := of_decide_eq_true hc
  have hsn : s < n := by omega
  rw [zh]
  refine (zdr hk n1 k1 hS.tm s1 hsn fun i hi => hS.free (s - 1) i (by omega) (by omega) hi).mono fun fr hfr => ?_
  have ⟨f1,f2,f3⟩ := hfr
  have flen : 0 < fr.length := List.length_pos_iff.2 f1
  have fin : ∀ c ∈ fr,Ret (wN x rows (s : Int) c) (LRP (fun s' => (∃ s : Nat,s'.2 = (s : Int) ∧ 1 ≤ s ∧ s ≤ n ∧ Tree (n := n) (k := k) (o := o) s s'.1) ∧ 10 - s'.2.toNat < 10 - (s : Int).toNat) (Tree (n := n) (k := k) (o := o) n)) := by
   intro c hc
   obtain ⟨q,rfl,q1,q2⟩ := f3 c hc
   have ⟨rows',e,g⟩ := zfz hk n1 k1 s1 hsn hS q1 q2
   rw [e,z6]
   exact ⟨⟨s + 1,rfl,by omega,by omega,g⟩,by simp [Int.toNat_natCast]; omega⟩
  unfold Y3
  have e0 : fr[0]? = some fr[0] := List.getElem?_eq_getElem flen
  have w3 : w64 ((s : Int) - 1) = ((s - 1 : Nat) : Int) := by rw [zm (by omega) (by omega)]; omega
  rw [bdT (show idx fr 0 = some fr[0] from e0),w3,zg]
  refine ⟨fun hc2 => ?_,fun _ => fin _ (List.getElem_mem _)⟩
  have hc2 : ((s - 1 : Nat) : Int) < ((x.Tree.length : Nat) : Int) := of_decide_eq_true hc2
  have hx : x.Tree[s - 1]? = some x.Tree[s - 1] := List.getElem?_eq_getElem (by omega)
  have hv := h.t0 _ (List.getElem_mem (by omega : s - 1 < x.Tree.length))
  rw [bdT (zC hx),gdT (by omega),zm (x := x.Tree[s - 1]) (by omega) (by omega)]
  have m1 := Int.tmod_nonneg (fr.length : Int) hv.1
  have m2 := Int.tmod_lt_of_pos x.Tree[s - 1] (show (0 : Int) < (fr.length : Int) by omega)
  have hy : fr[(Int.tmod x.Tree[s - 1] (fr.length : Int)).toNat]? = some fr[(Int.tmod x.Tree[s - 1] (fr.length : Int)).toNat] := List.getElem?_eq_getElem (by omega)
  rw [zh,z7t]
  exact ⟨m1,_,hy,fin _ (List.getElem_mem _)⟩
 ·have hsn : s = n := by have := of_decide_eq_false hc; omega
  subst hsn
  exact z6.2 hS
structure zia (s i : Nat) (rows : List (List z5)) : Prop where
 tm : TM n k o rows
 par : ∀ t,1 ≤ t → t < n → ∃ r i,r < t ∧ i < k ∧ (ed rows r i).To = (t : Int)
 full : ∀ r j,r < n → j < k → r < s ∨ r = s ∧ j < i → 0 ≤ (ed rows r j).To
omit ho o1 in
theorem z7M {rows : List (List z5)}  (sn : s < n) (hF : zia (n := n) (k := k) (o := o) s 0 rows) : Ret (loop (fun st => uU x (s : Int) st.1 st.2) (rows,0)) (zia (n := n) (k := k) (o := o) (s + 1) 0) := by
 have hsk : s * k ≤ 5 * 3 := Nat.mul_le_mul (by omega) (by omega)
 refine zt (fun st => ∃ i : Nat,st.2 = (i : Int) ∧ i ≤ k ∧ zia (n := n) (k := k) (o := o) s i st.1) (fun st => 10 - st.2.toNat) ⟨0,rfl,by omega,hF⟩ (by show 10 - _ < _; omega) ?_
 rintro ⟨rows,_⟩ ⟨i,rfl,ik,hS⟩
 simp only at hS
 show Ret (uU x (s : Int) rows (i : Int)) _
 unfold uU
 have w1 : w64 ((s : Int) * (k : Int)) = ((s * k : Nat) : Int) := by rw [zm (by rw [← Int.natCast_mul]; omega) (by rw [← Int.natCast_mul]; omega)]; exact (Int.natCast_mul s k).symm
 rw [hk,hn,w1,zg]
 refine ⟨fun hc => ?_,fun hc => ?_⟩
 ·have hc : (i : Int) < (k : Int) := of_decide_eq_true hc
  have hik : i < k := by omega
  have ⟨r,r1,r2,r3⟩ := hS.tm.idx2 sn hik
  have w2 : w64 ((i : Int) + 1) = ((i + 1 : Nat) : Int) := by rw [zm (by omega) (by omega)]; rfl
  rw [bdT (zC r1),bdT (zC r3),zg]
  unfold Zh
  refine ⟨fun ht => ?_,fun ht => ?_⟩
  ·have ht : (ed rows s i).To < 0 := of_decide_eq_true ht
   rw [bdT (zC r1),zm (x := ((s * k : Nat) : Int) + (i : Int)) (by omega) (by omega),zh]
   refine (z4r x.Edges h.e0 (q := ((s * k : Nat) : Int) + (i : Int)) (by omega)).mono fun v hv => ?_
   have m1 := Int.tmod_nonneg (n : Int) hv.1
   have m2 := Int.tmod_lt_of_pos v (show (0 : Int) < (n : Int) by omega)
   have ⟨u1,u2⟩ := hS.tm.upd sn hik r1 (t := Int.tmod v n) (by omega) m2
   rw [gdT (by omega),bdT (zC r3),z6,w2]
   refine ⟨⟨i + 1,rfl,by omega,u1,fun t t1 t2 => ?_,fun r' j g1 g2 g3 => ?_⟩,by simp [Int.toNat_natCast]; omega⟩
   ·have ⟨r',j,g1,g2,g3⟩ := hS.par t t1 t2
    refine ⟨r',j,g1,g2,?_⟩
    show (ed (rows.set s (r.set i ⟨Int.tmod v n,(ed rows s i).Out⟩)) r' j).To = _
    rw [u2,if_neg,g3]
    rintro ⟨rfl,rfl⟩
    omega
   ·show 0 ≤ (ed (rows.set s (r.set i ⟨Int.tmod v n,(ed rows s i).Out⟩)) r' j).To
    rw [u2]
    split
    ·exact m1
    ·rename_i e
     exact hS.full r' j g1 g2 (by rcases g3 with g3 | ⟨rfl,g3⟩; exact .inl g3; exact .inr ⟨rfl,by have : ¬ j = i := fun q => e ⟨rfl,q⟩; omega⟩)
  ·have ht := of_decide_eq_false ht
   rw [z6,w2]
   refine ⟨⟨i + 1,rfl,by omega,hS.tm,hS.par,fun r' j g1 g2 g3 => ?_⟩,by simp [Int.toNat_natCast]; omega⟩
   rcases g3 with g3 | ⟨rfl,g3⟩
   ·exact hS.full r' j g1 g2 (.inl g3)
   ·by_cases e : j = i
    ·subst e; show 0 ≤ (ed rows r' j).To; omega
    ·exact hS.full r' j g1 g2 (.inr ⟨rfl,by omega⟩)
 ·have hik : i = k := by have := of_decide_eq_false hc; omega
  subst hik
  exact z6.2 ⟨hS.tm,hS.par,fun r' j g1 g2 g3 => hS.full r' j g1 g2 (by omega)⟩
omit ho o1 in
theorem zdt {rows : List (List z5)} (hT : Tree (n := n) (k := k) (o := o) n rows) : Ret (loop (fun st => uV x st.1 st.2) (rows,0)) (zia (n := n) (k := k) (o := o) n 0) := by
 refine zt (fun st => ∃ s : Nat,st.2 = (s : Int) ∧ s ≤ n ∧ zia (n := n) (k := k) (o := o) s 0 st.1) (fun st => 10 - st.2.toNat) ⟨0,rfl,by omega,hT.tm,hT.par,fun r j _ _ g => by omega⟩ (by show 10 - _ < _; omega) ?_
 rintro ⟨rows,_⟩ ⟨s,rfl,sn,hS⟩
 simp only at hS
 show Ret (uV x rows (s : Int)) _
 unfold uV
 rw [hn,zg]
 refine ⟨fun hc => ?_,fun hc => ?_⟩
 ·have hc : (s : Int) < (n : Int) := of_decide_eq_true hc
  rw [zh]
  refine (z7M h hn hk n1 k1 (s := s) (by omega) hS).mono fun r hr => ?_
  unfold YZ
  rw [z6,zm (x := (s : Int) + 1) (by omega) (by omega)]
  exact ⟨⟨s + 1,rfl,by omega,hr⟩,by simp only; omega⟩
 ·have hsn : s = n := by have := of_decide_eq_false hc; omega
  subst hsn
  exact z6.2 hS
end
theorem zfB {x : zu} (h : ziq x) : Ret (V4 x) fun m => VM m ∧ m.Inputs ≤ 3 ∧ m.Rows.length ≤ 6 ∧ (∀ s i,s < m.Rows.length → i < kk m → 0 ≤ (E m s i).To) ∧ ∀ t,t < m.Rows.length → Rch m t := by
 have hn' := z7y h.s0 (k := 6) (by omega) (by omega)
 have hi' := z7y h.i0 (k := 3) (by omega) (by omega)
 have ho' := z7y h.o0 (k := 3) (by omega) (by omega)
 obtain ⟨n,hn⟩ : ∃ n : Nat,w64 (1 + w64 (Int.tmod x.States 6)) = (n : Int) := ⟨(w64 (1 + w64 (Int.tmod x.States 6))).toNat,by omega⟩
 obtain ⟨k,hk⟩ : ∃ n : Nat,w64 (1 + w64 (Int.tmod x.Inputs 3)) = (n : Int) := ⟨(w64 (1 + w64 (Int.tmod x.Inputs 3))).toNat,by omega⟩
 obtain ⟨o,ho⟩ : ∃ n : Nat,w64 (1 + w64 (Int.tmod x.Outputs 3)) = (n : Int) := ⟨(w64 (1 + w64 (Int.tmod x.Outputs 3))).toNat,by omega⟩
 rw [hn] at hn'
 rw [hk] at hi'
 rw [ho] at ho'
 have n1 : 1 ≤ n ∧ n ≤ 6 := by omega
 have k1 : 1 ≤ k ∧ k ≤ 3 := by omega
 have o1 : 1 ≤ o ∧ o ≤ 3 := by omega
 unfold V4 X3 X2 X1
 rw [gdT (by decide),gdT (by decide),gdT (by decide),zh]
 refine (zad h hn hk ho n1 k1 o1).mono fun r0 h0 => ?_
 rw [zh]
 refine (zbT h hn hk n1 k1 h0.1 h0.2).mono fun r1 h1 => ?_
 rw [zh]
 refine (zdt h hn hk n1 k1 h1).mono fun r hF => ?_
 rw [z6,hk,ho]
 have hlen : r.length = n := hF.tm.len
 have hkk : kk (z4.mk (k : Int) (o : Int) r) = k := by show (k : Int).toNat = k; omega
 have hfull : ∀ s i,s < n → i < k → 0 ≤ (ed r s i).To := fun s i a b => hF.full s i a b (.inl a)
 refine ⟨⟨by show (1 : Int) ≤ (k : Int); omega,by show (k : Int) ≤ 16; omega,by show (1 : Int) ≤ (o : Int); omega,by show (o : Int) ≤ 16; omega,by show 1 ≤ r.length; omega,by show r.length ≤ 64; omega,fun row hr => ?_,fun row hr e he => ?_⟩,by show (k : Int) ≤ 3; omega,by show r.length ≤ 6; omega,fun s i hs hi => ?_,?_⟩
 ·have ⟨s,hs⟩ := List.mem_iff_getElem?.1 hr
  have := hF.tm.row s row hs
  show ((row.length : Nat) : Int) = (k : Int)
  omega
 ·have ⟨s,hs⟩ := List.mem_iff_getElem?.1 hr
  have hrow := hF.tm.row s row hs
  have hsl : s < n := by have := (List.getElem?_eq_some_iff.1 hs).1; rw [hlen] at this; exact this
  have ⟨i,hi⟩ := List.mem_iff_getElem?.1 he
  have hil : i < k := by have := (List.getElem?_eq_some_iff.1 hi).1; omega
  have e1 : ed r s i = e := by unfold ed; rw [hs,Option.getD_some,hi,Option.getD_some]
  have q1 := hF.tm.edge s i hsl hil
  have q2 := hfull s i hsl hil
  rw [e1] at q1 q2
  exact .inr ⟨q2,by show e.To < ((r.length : Nat) : Int); rw [hlen]; exact q1.2.1,q1.2.2.1,q1.2.2.2⟩
 ·exact hfull s i (by have hs : s < r.length := hs; omega) (by rw [hkk] at hi; exact hi)
 ·have gen : ∀ b t,t < b → t < n → Rch (z4.mk (k : Int) (o : Int) r) t := by
   intro b
   induction b with
   | zero => intro t q; omega
   | succ b ih =>
    intro t q ht
    by_cases e : t = 0
    ·subst e; exact ⟨[],(fun i hi => by cases hi),rfl⟩
    ·have ⟨s,i,g1,g2,g3⟩ := hF.par t (by omega) ht
     have e3 : (E (z4.mk (k : Int) (o : Int) r) s i).To = (t : Int) := g3
     have := rch_step (m := z4.mk (k : Int) (o : Int) r) (i := i) (ih s (by omega) (by omega)) (by rw [hkk]; exact g2) (by rw [e3]; omega)
     rw [e3] at this
     exact this
  intro t ht
  exact gen (t + 1) t (by omega) (by have ht : t < r.length := ht; omega)
theorem zj2 {x : wH} (h : ziq x.C) : Ret (V3 x) KM := by
 unfold V3
 rw [gdT (by decide),zh]
 have h' : ziq (zu.mk (Int.tmod x.C.States 5) x.C.Inputs x.C.Outputs x.C.Tree x.C.Edges) := ⟨Int.tmod_nonneg _ h.s0,h.i0,h.o0,h.t0,h.e0⟩
 refine (zfB h').mono fun m hm => ?_
 obtain ⟨h1,h2,h3,h4,h5⟩ := hm
 have k1 := h1.kk_pos
 have k2 := h1.kk_eq
 have hG : GG (kk m) m.Rows.length ≤ 1000000000 := by
  have e : kk m = 1 ∨ kk m = 2 ∨ kk m = 3 := by omega
  have hm : GG (kk m) m.Rows.length ≤ GG (kk m) 8 := z3I (by omega)
  rcases e with e | e | e <;> rw [e] at hm ⊢ <;> exact Nat.le_trans hm (by decide)
 rw [zh]
 refine (z7C h1 hG).mono fun p hp => ?_
 obtain ⟨F,hF,hp⟩ := hp
 have hc : Cpl m := h4
 have hl := hF.len
 exact z6.2 ⟨zhF h1 hc hF hp,zfJ hc hF hp,zd0 hF hp,zcZ h1 hc hF hp,by rw [hp.inp]; omega,by rw [hp.len]; omega⟩
theorem z6w : XF = some true := by kernel_rfl
def Ok5 (a : Int) : Prop := (0) ≤ a ∧ a ≤ 255
def zin (l : List Int) : Prop := ∀ a ∈ l,Ok5 a
def zgs (a : Int) : Prop := (0) ≤ a ∧ a ≤ 65535
def zk6 (l : List Int) : Prop := ∀ a ∈ l,zgs a
def zk5 (a : zu) : Prop := Ok5 a.States ∧ Ok5 a.Inputs ∧ Ok5 a.Outputs ∧ zin a.Tree ∧ zk6 a.Edges
def zk4 (a : wH) : Prop := zk5 a.C
def zk3 (l : List (List Int)) : Prop := ∀ a ∈ l,zin a
def zk2 (a : yf) : Prop := Ok5 a.Inputs ∧ zk3 a.Words
def zk1 (a : ye Int) : Prop := Ok5 a.e0 ∧ Ok5 a.e1
theorem zg9 (l : List z5) (hl : l.length ≤ 1000) : zP l = some l := by
 unfold zP
 rw [gdT (by simp; omega)]
theorem zhW (l : List z5) : zV l = some l := by
 unfold zV
 rw [gdT (by omega)]
 simp
variable {m : z4}
theorem zbU (h : VM m) {S T : Nat} (hS : 1 ≤ S) (hT : S ≤ T) : tot m S ≤ tot m T := by
 have o1 := h.out1
 have hO : 1 ≤ m.Outputs.toNat := by omega
 exact Nat.le_trans (Nat.pow_le_pow_left (Nat.mul_le_mul_right _ hT) _) (Nat.pow_le_pow_right (Nat.mul_pos (by omega) hO) (Nat.mul_le_mul_right _ hT))
theorem zeC (h : VM m) (h4 : m.Inputs ≤ 4) : tot m 1 ≤ 65536 := by
 have o2 := h.out16
 have k1 := h.kk_pos
 have k2 := h.kk_eq
 unfold tot
 rw [Nat.one_mul,Nat.one_mul]
 have a := Nat.pow_le_pow_left (show m.Outputs.toNat ≤ 16 by omega) (kk m)
 have b := Nat.pow_le_pow_right (show 0 < 16 by decide) (show kk m ≤ 4 by omega)
 exact Nat.le_trans a (Nat.le_trans b (by decide))
theorem z99 (h : VM m) {z : Int} (hz : 0 ≤ z ∧ z ≤ 255) : Ret (Yg m z) fun s => ∃ S : Nat,s = (S : Int) ∧ 1 ≤ S ∧ S ≤ 3 ∧ (S = 1 ∨ tot m S ≤ 5000) := by
 unfold Yg
 have e : Int.tmod z 3 = z % 3 := Int.tmod_eq_emod_of_nonneg hz.1
 rw [gdT (by decide),e,zm (x := z % 3) (by omega) (by omega),zm (by omega) (by omega),zh]
 refine Ret.mono (zt (R := fun s => ∃ S : Nat,s = (S : Int) ∧ 1 ≤ S ∧ S ≤ 3 ∧ (S = 1 ∨ tot m S ≤ 5000)) (fun q => ∃ S : Nat,q = (S : Int) ∧ 1 ≤ S ∧ S ≤ 3) (fun q => q.toNat) ⟨(1 + z % 3).toNat,by omega,by omega,by omega⟩ (by omega) ?_) fun s hs => z6.2 hs
 rintro _ ⟨S,rfl,s1,s2⟩
 unfold Zf
 rw [zg]
 refine ⟨fun c => ?_,fun c => ?_⟩
 ·have hS : 1 < S := by have := of_decide_eq_true c; omega
  rw [bdT (z2P h (by omega)),zg]
  refine ⟨fun c => ?_,fun c => ?_⟩
  ·rw [zm (by omega) (by omega)]
   exact z6.2 ⟨⟨S - 1,by omega,by omega,by omega⟩,by omega⟩
  ·have c := of_decide_eq_false c
   refine z6.2 ⟨S,rfl,s1,s2,.inr ?_⟩
   unfold tot
   omega
 ·exact z6.2 ⟨S,rfl,s1,s2,.inl (by have := of_decide_eq_false c; omega)⟩
variable {l : List (List Int)}
theorem za6 {S : Nat} {q : G18} {P : z4 → Prop} (hP : ∀ k,P (tb m S k)) (hq : ∀ x,q.1 = some x → P x) : ∀ K x,(XV m l S q K).1 = some x → P x
 | 0,x,e => hq x e
 | K + 1,x,e => by
  have e : (Yr (z2f m l S K) (tb m S K) (XV m l S q K)).1 = some x := e
  unfold Yr at e
  split at e
  ·cases g : (XV m l S q K).1 with
   | none => rw [g] at e; cases e; exact hP K
   | some y => rw [g] at e; cases e; exact za6 hP hq K y g
  ·exact za6 hP hq K x e
theorem zbz : ∀ {S : Nat} {x : z4},(jB m l S).1 = some x → ∃ T k,1 ≤ T ∧ T ≤ S ∧ x = tb m T k
 | 0,x,e => by cases e
 | S + 1,x,e => za6 (P := fun x => ∃ T k,1 ≤ T ∧ T ≤ S + 1 ∧ x = tb m T k) (fun k => ⟨S + 1,k,by omega,by omega,rfl⟩) (fun x e => by
  obtain ⟨T,k,h1,h2,h3⟩ := zbz e
  exact ⟨T,k,h1,by omega,h3⟩) _ _ e
theorem z9e {a : z4} (hl : a.Rows.length ≤ 1000) (hr : ∀ r ∈ a.Rows,r.length ≤ 1000) : loop (fun s => vh a s.1 s.2) ((List.replicate a.Rows.length ([] : List z5)),0) = some a.Rows := by
 have := xG (step := fun s => vh a s.1 s.2) (fun i => ((a.Rows.take i ++ List.replicate (a.Rows.length - i) ([] : List z5)),(i : Int))) a.Rows.length (t := a.Rows) (by omega) (fun i hi => ?_) ?_
 ·simpa using this
 ·show vh a _ (i : Int) = _
  have hx := List.getElem?_eq_getElem hi
  have hrl := hr _ (List.getElem_mem hi)
  have htl : (a.Rows.take i).length = i := by rw [List.length_take]; omega
  unfold vh
  rw [decide_eq_true (by omega),cond_true,zx,bdT hx,bdT (zg9 _ hrl),bdT (zhW _),bdT (u := []) (by rw [zx,List.getElem?_append_right (by omega),htl,Nat.sub_self,show a.Rows.length - i = (a.Rows.length - (i + 1)) + 1 by omega]; rfl),Qz (by omega),Int.toNat_natCast]
  refine congrArg some (congrArg LR.next (Prod.ext ?_ rfl))
  show (a.Rows.take i ++ _).set i _ = _
  rw [List.set_append,if_neg (by omega),htl,Nat.sub_self,show a.Rows.length - i = (a.Rows.length - (i + 1)) + 1 by omega,List.replicate_succ,List.set_cons_zero]
  have ta : a.Rows.take (i + 1) = a.Rows.take i ++ [a.Rows[i]] := by rw [List.take_add_one,hx]; rfl
  show a.Rows.take i ++ a.Rows[i] :: _ = a.Rows.take (i + 1) ++ _
  rw [ta,List.append_assoc]
  rfl
 ·show vh a _ (a.Rows.length : Int) = _
  unfold vh
  rw [decide_eq_false (by omega),cond_false]
  simp
theorem zdh {x : wH} {y : yf} {z : ye Int} (hx : zk4 x) (hy : zk2 y) (hz : zk1 z) : YW x y z = some true := by
 obtain ⟨m,e0,h⟩ := zj2 (x := x) ⟨hx.1.1,hx.2.1.1,hx.2.2.1.1,hx.2.2.2.1,hx.2.2.2.2⟩
 obtain ⟨_,e1,S,rfl,s1,s2,s3⟩ := z99 h.vm hz.1
 obtain ⟨n,hn,n1,n2⟩ := zdS hy.1
 obtain ⟨l0,hl0,wl0⟩ := zfN hn ⟨n1,n2⟩ hy.2
 obtain ⟨l1,hl1,wl1⟩ := z94 wl0 (by omega) (by omega) (k := m.Inputs) h.vm.in1
 obtain ⟨K,hK⟩ : ∃ K : Nat,mn ((l1.length : Nat) : Int) (w64 (Int.tmod z.e1 8)) = (K : Int) ∧ K ≤ 7 ∧ K ≤ l1.length := by
  have h1 := hz.2.1
  have h2 := hz.2.2
  have e : Int.tmod z.e1 8 = z.e1 % 8 := Int.tmod_eq_emod_of_nonneg h1
  rw [e,zm (by omega) (by omega)]
  unfold mn
  refine ⟨min l1.length (z.e1 % 8).toNat,?_,by omega,by omega⟩
  split <;> omega
 have wl := wl1.take K
 obtain ⟨l,hle⟩ : ∃ l,l = l1.take K := ⟨_,rfl⟩
 rw [← hle] at wl
 have hch : chE m.Inputs l = 0 := wl.ch ⟨h.vm.in1,h.vm.in16⟩ (by omega) (by omega) (by omega)
 have hll : l.length ≤ 1000 := by have := wl.2.1; omega
 have hw : ∀ w ∈ l,w.length ≤ 1000 ∧ ∀ c ∈ w,0 ≤ c ∧ c < m.Inputs := fun w hw => ⟨by have := (wl.2.2 w hw).1; omega,(wl.2.2 w hw).2⟩
 have ht : ∀ T,1 ≤ T → T ≤ S → tot m T ≤ 65536 := fun T t1 t2 => by
  have a := zbU h.vm t1 t2
  have b := zeC h.vm h.inp
  rcases s3 with q | q
  ·rw [q] at a; omega
  ·omega
 have hS : 1 ≤ S ∧ S ≤ 5 := by omega
 have hT := ht S s1 (Nat.le_refl _)
 have hmin : min ((S * m.Outputs.toNat) ^ (S * kk m)) 65537 = tot m S := Nat.min_eq_left (by unfold tot at hT; omega)
 have rT : xc m (S : Int) = some ((tot m S : Nat) : Int) := by rw [z2P h.vm (by omega),hmin]
 have cT : uZ m (S : Int) = some ((tot m S : Nat) : Int) := by
  obtain ⟨x,r,c1,c2,c3,c4⟩ := z9r h.vm (n := (S : Int)) (by omega)
  rw [rT] at c2
  cases c2
  rw [c1,c4 (by omega)]
 have bd : Xh m (S : Int) = some 0 := by
  unfold Xh
  rw [bdT h.proper,show ((0 : Int) != 0) = false from rfl,cond_false,decide_eq_false (by omega),cond_false,bdT cT,decide_eq_false (by omega)]
  rfl
 have fs : Xf m l (S : Int) = some 0 := by
  unfold Xf
  rw [bdT bd,show ((0 : Int) != 0) = false from rfl,cond_false,bdT (z9K _ _),hch]
 have tT : uF m (S : Int) = some (((tot m S : Nat) : Int),0) := by
  unfold uF
  rw [bdT bd,show ((0 : Int) != 0) = false from rfl,cond_false,bdT cT]
 have gs : XJ m l (S : Int) = some ((((jB m l S).2 : Nat) : Int),0) := by
  unfold XJ
  rw [bdT fs,show ((0 : Int) != 0) = false from rfl,cond_false,bdT (zg8 h.vm h.cpl hll hw h.inp hS ht)]
 have rg := zfw h.vm h.cpl hll hw h.inp hS ht
 have fa := zfU h.vm h.cpl hll hw h.inp hS ht
 have ok := zbA m l S
 have gp : Y5 m l (S : Int) = some (match (jB m l S).1 with | none => (z18,7) | some a => (a,0)) := by
  unfold Y5
  rw [bdT fs,show ((0 : Int) != 0) = false from rfl,cond_false]
  show Option.bind (yG _ m l (S : Int) z18) _ = _
  rw [bdT fa]
  cases e : (jB m l S).1 with
  | none => rfl
  | some a =>
   obtain ⟨T,k,t1,t2,rfl⟩ := zbz e
   have tv := zf5 h.vm (S := T) (by omega) k
   have tl := z61 h.vm (S := T) (by omega) k
   have k16 := h.vm.kk_le
   rw [Option.getD_some,tl]
   rw [show (((T : Nat) : Int) == 0) = false by simp only [beq_eq_false_iff_ne,ne_eq]; omega,cond_false,gdT (by omega),Int.toNat_natCast]
   have rc := z9e (a := tb m T k) (by omega) (fun r hr => by have := tv.row r hr; have := tv.in16; omega)
   rw [tl] at rc
   rw [bdT rc]
   rfl
 unfold YW
 rw [show wH.mk x.C = x from rfl,bdT e0,bdT e1,bdT hl0,bdT hl1,gdT (by decide),hK.1,gdT (by omega),Int.toNat_natCast,← hle,bdT gp,bdT gs,bdT tT,bdT rg]
 simp only [bne_self_eq_false,cond_false]
 rw [bdT rT,bne_self_eq_false,cond_false,z63 ok,z6w]
 cases e : (jB m l S).1 with
 | none => rfl
 | some a =>
  obtain ⟨T,k,t1,t2,rfl⟩ := zbz e
  have tv := zf5 h.vm (S := T) (by omega) k
  have tl := z61 h.vm (S := T) (by omega) k
  simp only [Option.isNone_some,cond_false,beq_self_eq_true,cond_true,Option.getD_some]
  rw [bdT (zea rfl rfl (by omega) (fun r hr => by have := tv.row r hr; have := tv.in16; omega)),decide_eq_true rfl]
  rfl
def z2m (w : World) : zb := fun b o => zR w.heap b o
variable {v : Value}
theorem zbi {w : World} {a : Addr}  (h : w.cell? a = some v) : a.spot = none ∧ zR w.heap a.block a.off = some v := by
 unfold World.cell? at h
 unfold zR
 split at h
 ·rename_i c ty fr he
  rw [he]
  split at h
  ·cases h
  ·rename_i hs
   exact ⟨by simpa using hs,h⟩
 ·cases h
variable {cs : List Value}{S : zb}{n : Nat}
section
variable {H : Type} {enc : TypeId × Value → H} {P : Program} {w : World} {base : Nat} {spare : Nat → Bool} {held : Bool}
theorem zbf {a : Addr}   (h : w.cells? base a n = some cs) (hn : 0 < n) : a.spot = none ∧ cs.length = n ∧ z4b (z2m w) a.block a.off cs := by
 have ⟨_,h2,h3⟩ := World.cells?_some h
 have h0 : a.spot = none := by
  have h4 := h3 0 hn
  cases hc : cs[0]? with
  | none => rw [List.getElem?_eq_none_iff] at hc; omega
  | some v =>
   rw [hc] at h4
   have := (zbi h4).1
   simpa [Addr.add] using this
 refine ⟨h0,h2,fun j v hj => ?_⟩
 have hlt := (List.getElem?_eq_some_iff.1 hj).1
 have h4 := h3 j (by omega)
 rw [hj] at h4
 have q := (zbi h4).2
 unfold Addr.add at q
 split at q
 ·rename_i e; subst e; exact q
 ·exact q
theorem z6h : ∀ {bs : List A} {cs : List Value} {a : A} {c : List Value},y9 S bs cs → Rep S a c → y9 S (bs ++ [a]) (cs ++ c)
 | [],cs,a,c,h1,h2 => by
  simp only [y9] at h1
  subst h1
  simp only [List.nil_append,y9]
  exact ⟨c,[],by simp,h2,rfl⟩
 | x :: bs,cs,a,c,h1,h2 => by
  simp only [y9] at h1
  obtain ⟨c1,c2,rfl,r1,r2⟩ := h1
  simp only [List.cons_append,y9]
  exact ⟨c1,c2 ++ c,by simp,r1,z6h r2 h2⟩
theorem zdb {b o : Nat} {c1 c2 : List Value} (h1 : z4b S b o c1) (h2 : z4b S b (o + c1.length) c2) : z4b S b o (c1 ++ c2) := by
 intro j v hj
 rcases Nat.lt_or_ge j c1.length with q | q
 ·rw [List.getElem?_append_left q] at hj
  exact h1 j v hj
 ·rw [List.getElem?_append_right q] at hj
  have := h2 _ _ hj
  rwa [show o + c1.length + (j - c1.length) = o + j by omega] at this
theorem z2H {α : Type} {t e sz : Nat} (f : α → A) (ok : α → Prop) (ht : P.underlying t = some (.slice e)) (hsz : P.cellsOf e = sz) (h0 : 0 < sz) (hf : ∀ a,(f a).size = sz)
    (hel : ∀ n cs x,DataW.trod enc P w base spare held n e cs = some x → ∃ a,ok a ∧ Rep (z2m w) (f a) cs)
    {WJ : Nat} {cs : List Value} {x : DataW H × List MemPlace} (h : DataW.trod enc P w base spare held WJ t cs = some x) : ∃ l : List α,(∀ a ∈ l,ok a) ∧ Rep (z2m w) (.sl sz false (l.map f)) cs := by
  rcases DataW.trod_slice ht h with ⟨rfl,_⟩ | ⟨a,len,cap,elems,rest,n,_,rfl,_,_,hlc,_,hlen,hall,_,_⟩
  · refine ⟨[],by simp,?_⟩
    simp only [Rep,List.map_nil,List.length_nil]
    exact ⟨none,0,rfl,by simp,Nat.le_refl _,by simp,.inl trivial⟩
  · have key : ∀ k,k ≤ len → ∃ (l : List α) (cells : List Value),l.length = k ∧ (∀ a ∈ l,ok a) ∧ y9 (z2m w) (l.map f) cells ∧ cells.length = k * sz ∧ (0 < k → a.spot = none) ∧ z4b (z2m w) a.block a.off cells := by
      intro k
      induction k with
      | zero => intro _; exact ⟨[],[],rfl,by simp,by simp [y9],by simp,by simp,fun j v h => by simp at h⟩
      | succ k ih =>
        intro hk
        have ⟨l,cells,q1,q2,q3,q4,q5,q6⟩ := ih (by omega)
        have hk' := hall k (by omega)
        have hsome : elems[k]? = some elems[k] := List.getElem?_eq_getElem (by omega)
        rw [hsome,Option.bind_eq_some_iff,hsz] at hk'
        have ⟨c,hc,htr⟩ := hk'
        have ⟨y,hy,hr⟩ := hel _ _ _ htr
        have ⟨g1,g2,g3⟩ := zbf hc h0
        refine ⟨l ++ [y],cells ++ c,by simp [q1],?_,?_,?_,?_,?_⟩
        · intro z hz
          rcases List.mem_append.1 hz with q | q
          · exact q2 z q
          · simp only [List.mem_cons,List.not_mem_nil,or_false] at q; subst q; exact hy
        · rw [List.map_append]; exact z6h q3 hr
        · rw [List.length_append,q4,g2,Nat.succ_mul]
        · intro _
          rcases Nat.eq_zero_or_pos k with rfl | hk0
          · simpa [Addr.add] using g1
          · exact q5 hk0
        · refine zdb q6 ?_
          rw [q4]
          unfold Addr.add at g3
          split at g3
          · rename_i e0
            rw [e0,Nat.add_zero]
            exact g3
          · exact g3
    have ⟨l,cells,q1,q2,q3,q4,q5,q6⟩ := key len (Nat.le_refl _)
    refine ⟨l,q2,?_⟩
    simp only [Rep,List.length_map]
    refine ⟨some a,cap,by rw [q1],by simp,by omega,?_,?_⟩
    · intro y hy
      obtain ⟨z,_,rfl⟩ := List.mem_map.1 hy
      exact hf z
    · rcases Nat.eq_zero_or_pos len with rfl | hl
      · left; rw [List.length_eq_zero_iff.1 q1]; rfl
      · right
        refine ⟨a.block,a.off,cells,?_,q3,q6⟩
        have := q5 hl
        have ⟨b,o,s⟩ := a
        simp only at this
        subst this
        rfl
theorem zaO {t : Nat} {k : IntKind} {lo hi : Int} (ht : P.underlying t = some (.int k)) (hlo : k.min = lo) (hhi : k.max = hi) {WJ : Nat}  {x : DataW H × List MemPlace} (h : DataW.trod enc P w base spare held WJ t cs = some x) :
  ∃ n : Int,(lo ≤ n ∧ n ≤ hi) ∧ cs = [.int k n] ∧ Rep (z2m w) (.atom (.int k n)) cs := by
 obtain ⟨n,rfl,_,hw⟩ := DataW.trod_int ht h
 simp only [Lit.wf,Bool.and_eq_true,decide_eq_true_eq,hlo,hhi] at hw
 exact ⟨n,hw,rfl,by simp only [Rep]; exact ⟨trivial,rfl⟩⟩
theorem Vg {t : Nat} {fs : List Field} (ht : P.underlying t = some (.struct ⟨fs⟩)) {WJ : Nat}  {x : DataW H × List MemPlace} (h : DataW.trod enc P w base spare held WJ t cs = some x) :
  cs.length = P.cellsOf t ∧ ∀ (i : Nat) (f : Field),fs[i]? = some f → ∃ n y,DataW.trod enc P w base spare held n f.type ((cs.drop f.offset).take (P.cellsOf f.type)) = some y := by
 have ⟨xs,n,_,_,hl,hxl,hall⟩ := DataW.trod_struct ht h
 refine ⟨hl,fun i f hf => ?_⟩
 have hlt := (List.getElem?_eq_some_iff.1 hf).1
 have := hall i f (by simpa using hf)
 rw [List.getElem?_eq_getElem (by rw [hxl]; simpa using hlt)] at this
 exact ⟨n,_,this⟩
end
variable {a : A}
theorem qt {bs : List A}   (h1 : Rep S a (cs.take n)) (h2 : y9 S bs (cs.drop n)) : y9 S (a :: bs) cs := by
 simp [y9]
 exact ⟨cs.take n,cs.drop n,(List.take_append_drop n cs).symm,h1,h2⟩
variable {P : Program}
section
open Go Go.ChangeShapes Go.WideShapes Go.ChangeAt Go.RowKit
theorem zal {P : Program} {H : Type} {enc : TypeId × Value → H} {f : Func} {s : ChangeSpec} {apart fresh handsOn again : Bool} {W W' : World} {args : Array Value} {v : Value} {ds : List (DataW H)} {pa : List MemPlace}
  (hvar : s.vars = []) (hvars2 : (s.fn H (ds ++ [])).vars = []) (hW : DataW.Whole enc P f.params.toList s.vars apart W args.toList ds [] (pa ++ [])) (hb : Below W.heap.size W W')
  (hres : ∀ (b : Nat) (sp : Nat → Bool) (hd : Bool),DataW.TrodAll enc P W' b sp hd f.resultTypes.toList (v.resultList f.resultTypes.size) (s.fn H (ds ++ [])).results [])
  (hargs : ∀ sp : Nat → Bool,(∀ p ∈ pa ++ [],sp p.block = true) → DataW.TrodAll enc P W' 0 sp true f.params.toList args.toList (s.fn H (ds ++ [])).args pa)
  (hok : ∀ (j : Nat) (t : TypeId) (r : Value),f.resultTypes[j]? = some t → (v.resultList f.resultTypes.size)[j]? = some r → Value.okWide P W' .any 0 t r) :
  s.post enc P f apart fresh handsOn again W args v W' := by
 have hlt : ∀ p ∈ pa ++ [],p.block < W.heap.size := fun p hp => by simpa using hW.lt p hp
 have hvr : ∀ sp : Nat → Bool,DataW.TrodVars enc P W' sp s.vars (s.fn H (ds ++ [])).vars [] := fun sp => by rw [hvar,hvars2]; rfl
 refine ⟨ds,[],pa ++ [],[],pa,[],hW,hres _ _ _,hargs _ (fun p hp => by simpa using hlt p hp),hvr _,World.keptBut_mono (fun _ q => q.elim) (hb.frame fun _ => False),fun _ => ?_⟩
 have ⟨_,_,_,_,_,hz,hn⟩ := hW
 refine ⟨hok,_,_,([] ++ pa) ++ [],⟨[] ++ pa,[],trodAll_append (hargs _ (fun _ _ => rfl)) (hres _ _ _),hvr _,rfl,?_,?_⟩,?_⟩
 ·intro b off hp
  have hp' : MemPlace.cell b off ∈ pa ++ [] := by simpa using hp
  rw [hb.frozen (p := ⟨b,off,none⟩) (hlt _ hp')]
  exact hz b off hp'
 ·intro ha
  simpa using hn ha
 ·intro p hp _
  simpa using hp
end
theorem zcq {k : Nat} {α ρ : Type} {enc : α → List A} {encR : ρ → A} {F : α → Option ρ} {gives : List Bool} {inj : ∀ x y,enc x = enc y → x = y} (h : (spF k enc encR F gives inj).Ok P) {x : α} {r : ρ} (hr : F x = some r) : z1a P k (enc x) (encR r) := by
 have := h x ⟨r,hr⟩
 simpa only [spF,hr] using this
variable {fs : Array Field}{e : TypeId}
section
variable {P : Program} {w : World} {r : Reach} {base t : Nat} {v : Value}
theorem z96 (hu : P.underlying t = some (.struct fs)) (h : Value.okWide P w r base t v) : v = .agg v.cells.toList.toArray := by
 unfold Value.okWide at h
 rw [hu] at h
 obtain ⟨cs,rfl,_⟩ := h
 rfl
theorem z9G (hu : P.underlying t = some (.array n e)) (h : Value.okWide P w r base t v) : v = .agg v.cells.toList.toArray := by
 unfold Value.okWide at h
 rw [hu] at h
 obtain ⟨cs,rfl,_⟩ := h
 rfl
theorem z2T (hu : P.underlying t = some (.struct fs)) (hr : Rep S a v.cells.toList) (h : Value.okWide P w r base t v) (ha : a.isAgg = true) : ud S a v := ⟨_,hr,by cases a <;> first | exact z96 hu h | cases ha⟩
theorem z9g (hu : P.underlying t = some (.array n e)) (hr : Rep S a v.cells.toList) (h : Value.okWide P w r base t v) (ha : a.isAgg = true) : ud S a v := ⟨_,hr,by cases a <;> first | exact z9G hu h | cases ha⟩
theorem zdm {h : Array Obj}  {F : List Nat} (q : Has S h (.atom (.bool true)) v F) : v = .bool true := by
 rcases q with ⟨q,_⟩ | ⟨cs,q,_,rfl⟩
 ·rw [(zo.1 q).1]
 ·simp [zz,Rep] at q
  obtain ⟨⟨rfl,_⟩,_⟩ := q
  rfl
end
open Go.Proofs
section
variable {H : Type} {enc : TypeId × Value → H} {w : World} {base : Nat} {spare : Nat → Bool} {held : Bool}
theorem z8S : Tryz.prog.cellsOf 5 = 1 := by kernel_rfl
theorem rd5 {WJ : Nat}  {x : DataW H × List MemPlace} (h : DataW.trod enc Tryz.prog w base spare held WJ 5 cs = some x) : ∃ a : Int,Ok5 a ∧ Rep (z2m w) ((eI .u8) a) cs := by
 obtain ⟨n,h1,_,h2⟩ := zaO Tryz.underlying5 (lo := 0) (hi := 255) rfl rfl h
 exact ⟨n,h1,h2⟩
theorem zbh : Tryz.prog.cellsOf 22 = 1 := by kernel_rfl
theorem zjC {WJ : Nat}  {x : DataW H × List MemPlace} (h : DataW.trod enc Tryz.prog w base spare held WJ 22 cs = some x) : ∃ a : List Int,zin a ∧ Rep (z2m w) ((eSl 1 false (eI .u8)) a) cs := by
 exact z2H (eI .u8) Ok5 Tryz.underlying22 z8S (by omega) (fun _ => rfl) (fun _ _ _ q => rd5 q) h
theorem zdE : Tryz.prog.cellsOf 121 = 1 := by kernel_rfl
theorem ziF {WJ : Nat}  {x : DataW H × List MemPlace} (h : DataW.trod enc Tryz.prog w base spare held WJ 121 cs = some x) : ∃ a : Int,zgs a ∧ Rep (z2m w) ((eI .u16) a) cs := by
 obtain ⟨n,h1,_,h2⟩ := zaO Tryz.underlying121 (lo := 0) (hi := 65535) rfl rfl h
 exact ⟨n,h1,h2⟩
theorem zge : Tryz.prog.cellsOf 23 = 1 := by kernel_rfl
theorem zkv {WJ : Nat}  {x : DataW H × List MemPlace} (h : DataW.trod enc Tryz.prog w base spare held WJ 23 cs = some x) : ∃ a : List Int,zk6 a ∧ Rep (z2m w) ((eSl 1 false (eI .u16)) a) cs := by
 exact z2H (eI .u16) zgs Tryz.underlying23 zdE (by omega) (fun _ => rfl) (fun _ _ _ q => ziF q) h
theorem zbg : Tryz.prog.cellsOf 25 = 5 := by kernel_rfl
theorem zku {WJ : Nat}  {x : DataW H × List MemPlace} (h : DataW.trod enc Tryz.prog w base spare held WJ 25 cs = some x) : ∃ a : zu,zk5 a ∧ Rep (z2m w) ((qE (eI .u8) (eI .u8) (eI .u8) (eSl 1 false (eI .u8)) (eSl 1 false (eI .u16))) a) cs := by
 obtain ⟨hl,hf⟩ := Vg Tryz.underlying25 h
 rw [zbg] at hl
 obtain ⟨_,_,q0⟩ := hf 0 _ rfl
 obtain ⟨_,_,q1⟩ := hf 1 _ rfl
 obtain ⟨_,_,q2⟩ := hf 2 _ rfl
 obtain ⟨_,_,q3⟩ := hf 3 _ rfl
 obtain ⟨_,_,q4⟩ := hf 4 _ rfl
 simp only [zbh,zge,z8S] at q0 q1 q2 q3 q4
 obtain ⟨a0,k0,r0⟩ := rd5 q0
 obtain ⟨a1,k1,r1⟩ := rd5 q1
 obtain ⟨a2,k2,r2⟩ := rd5 q2
 obtain ⟨a3,k3,r3⟩ := zjC q3
 obtain ⟨a4,k4,r4⟩ := zkv q4
 refine ⟨⟨a0,a1,a2,a3,a4⟩,⟨k0,k1,k2,k3,k4⟩,?_⟩
 show Rep (z2m w) (.agg [(eI .u8) a0,(eI .u8) a1,(eI .u8) a2,(eSl 1 false (eI .u8)) a3,(eSl 1 false (eI .u16)) a4]) cs
 simp only [Rep]
 refine qt (n := 1) (by simpa [List.drop_drop] using r0) (qt (n := 1) (by simpa [List.drop_drop] using r1) (qt (n := 1) (by simpa [List.drop_drop] using r2) (qt (n := 1) (by simpa [List.drop_drop] using r3) (qt (n := 1) (by simpa [List.drop_drop] using r4) ?_))))
 simp only [List.drop_drop,y9]
 exact List.drop_eq_nil_of_le (by omega)
theorem zgd : Tryz.prog.cellsOf 27 = 5 := by kernel_rfl
theorem zkt {WJ : Nat}  {x : DataW H × List MemPlace} (h : DataW.trod enc Tryz.prog w base spare held WJ 27 cs = some x) : ∃ a : wH,zk4 a ∧ Rep (z2m w) ((qD (qE (eI .u8) (eI .u8) (eI .u8) (eSl 1 false (eI .u8)) (eSl 1 false (eI .u16)))) a) cs := by
 obtain ⟨hl,hf⟩ := Vg Tryz.underlying27 h
 rw [zgd] at hl
 obtain ⟨_,_,q0⟩ := hf 0 _ rfl
 simp only [zbg] at q0
 obtain ⟨a0,k0,r0⟩ := zku q0
 refine ⟨⟨a0⟩,k0,?_⟩
 show Rep (z2m w) (.agg [(qE (eI .u8) (eI .u8) (eI .u8) (eSl 1 false (eI .u8)) (eSl 1 false (eI .u16))) a0]) cs
 simp only [Rep]
 refine qt (n := 5) (by simpa [List.drop_drop] using r0) ?_
 simp only [y9]
 exact List.drop_eq_nil_of_le (by omega)
theorem zgc : Tryz.prog.cellsOf 28 = 1 := by kernel_rfl
theorem zks {WJ : Nat}  {x : DataW H × List MemPlace} (h : DataW.trod enc Tryz.prog w base spare held WJ 28 cs = some x) : ∃ a : List (List Int),zk3 a ∧ Rep (z2m w) ((eSl 1 false (eSl 1 false (eI .u8))) a) cs := by
 exact z2H (eSl 1 false (eI .u8)) zin Tryz.underlying28 zbh (by omega) (fun _ => rfl) (fun _ _ _ q => zjC q) h
theorem zgb : Tryz.prog.cellsOf 30 = 2 := by kernel_rfl
theorem zkr {WJ : Nat}  {x : DataW H × List MemPlace} (h : DataW.trod enc Tryz.prog w base spare held WJ 30 cs = some x) : ∃ a : yf,zk2 a ∧ Rep (z2m w) ((Yi (eI .u8) (eSl 1 false (eSl 1 false (eI .u8)))) a) cs := by
 obtain ⟨hl,hf⟩ := Vg Tryz.underlying30 h
 rw [zgb] at hl
 obtain ⟨_,_,q0⟩ := hf 0 _ rfl
 obtain ⟨_,_,q1⟩ := hf 1 _ rfl
 simp only [zgc,z8S] at q0 q1
 obtain ⟨a0,k0,r0⟩ := rd5 q0
 obtain ⟨a1,k1,r1⟩ := zks q1
 refine ⟨⟨a0,a1⟩,⟨k0,k1⟩,?_⟩
 show Rep (z2m w) (.agg [(eI .u8) a0,(eSl 1 false (eSl 1 false (eI .u8))) a1]) cs
 simp only [Rep]
 refine qt (n := 1) (by simpa [List.drop_drop] using r0) (qt (n := 1) (by simpa [List.drop_drop] using r1) ?_)
 simp only [List.drop_drop,y9]
 exact List.drop_eq_nil_of_le (by omega)
theorem zga : Tryz.prog.cellsOf 31 = 2 := by kernel_rfl
theorem zkq {WJ : Nat}  {x : DataW H × List MemPlace} (h : DataW.trod enc Tryz.prog w base spare held WJ 31 cs = some x) : ∃ a : ye Int,zk1 a ∧ Rep (z2m w) ((UA (eI .u8)) a) cs := by
 obtain ⟨xs,m,_,_,hl,hx,hall⟩ := DataW.trod_array Tryz.underlying31 h
 rw [zga] at hl
 rw [z8S] at hall
 have get : ∀ i,i < 2 → ∃ n : Int,Ok5 n ∧ Rep (z2m w) ((eI .u8) n) ((cs.drop (i * 1)).take 1) := by
  intro i hi
  have q := hall i hi
  rw [List.getElem?_eq_getElem (by omega)] at q
  exact rd5 q
 obtain ⟨a0,k0,r0⟩ := get 0 (by omega)
 obtain ⟨a1,k1,r1⟩ := get 1 (by omega)
 refine ⟨⟨a0,a1⟩,⟨k0,k1⟩,?_⟩
 show Rep (z2m w) (.agg [(eI .u8) a0,(eI .u8) a1]) cs
 simp only [Rep]
 refine qt (n := 1) (by simpa [List.drop_drop] using r0) (qt (n := 1) (by simpa [List.drop_drop] using r1) ?_)
 simp only [List.drop_drop,y9]
 exact List.drop_eq_nil_of_le (by omega)
end
end Go.Own
namespace Go.Proofs.YtkalhfmehmcofaaGreat.gapsGap
open Go Go.ChangeShapes Go.WideShapes Go.ChangeAt Go.RowKit
theorem own : ownKnob Tryz.prog.godebug = none := by kernel_rfl
theorem zfP : laidOutB Tryz.prog = true := by kernel_rfl
section
variable {H : Type} {enc : TypeId × Value → H} {W : World}
set_option maxRecDepth 100000 in
theorem zkd {base : Nat} {v0 : Value} {d0 : DataW H} {p0 : List MemPlace} {v1 : Value} {d1 : DataW H} {p1 : List MemPlace} {v2 : Value} {d2 : DataW H} {p2 : List MemPlace} (h0 : DataW.Trod enc Tryz.prog W 0 (fun _ => true) true 27 v0 d0 p0) (h1 : DataW.Trod enc Tryz.prog W 0 (fun _ => true) true 30 v1 d1 p1) (h2 : DataW.Trod enc Tryz.prog W 0 (fun _ => true) true 31 v2 d2 p2) (k0 : Value.okWide Tryz.prog W .any base (27 : Nat) v0) (k1 : Value.okWide Tryz.prog W .any base (30 : Nat) v1) (k2 : Value.okWide Tryz.prog W .any base (31 : Nat) v2) :
  Calls Tryz.prog 3 #[v0,v1,v2] W fun e w' => e = .returned (.bool true) ∧ Go.Own.Ui (fun k => W.heap.size ≤ k) W w' := by
 obtain ⟨n0,h0⟩ := h0
 obtain ⟨x0,o0,r0⟩ := Go.Own.zkt h0
 obtain ⟨n1,h1⟩ := h1
 obtain ⟨x1,o1,r1⟩ := Go.Own.zkr h1
 obtain ⟨n2,h2⟩ := h2
 obtain ⟨x2,o2,r2⟩ := Go.Own.zkq h2
 have q := (Go.Own.zcq (Go.Own.z9q Go.Own.zi9 List.mem_cons_self : Go.Own.YA.Ok Tryz.prog) (x := (x0,x1,x2)) (r := true) (Go.Own.zdh o0 o1 o2)).2 (Go.Own.z2m W) W [v0,v1,v2] [] ⟨fun _ _ _ h => h,fun _ _ e => (by cases e),fun _ _ e => (by cases e)⟩ ?_ (by simp)
 ·refine Calls.mono q ?_
  rintro e w' ⟨v,S',F',rfl,hk,_,_,_,hr,_,_⟩
  refine ⟨?_,hk.mono (by rintro k (h | h) <;> simp_all)⟩
  rw [Go.Own.zdm hr]
 ·refine Go.Own.UC ?_
  have g0 : Go.Own.ud (Go.Own.z2m W) ((Go.Own.qD (Go.Own.qE (Go.Own.eI .u8) (Go.Own.eI .u8) (Go.Own.eI .u8) (Go.Own.eSl 1 false (Go.Own.eI .u8)) (Go.Own.eSl 1 false (Go.Own.eI .u16)))) x0) v0 := Go.Own.z2T (t := (27 : Nat)) Tryz.underlying27 r0 k0 rfl
  have g1 : Go.Own.ud (Go.Own.z2m W) ((Go.Own.Yi (Go.Own.eI .u8) (Go.Own.eSl 1 false (Go.Own.eSl 1 false (Go.Own.eI .u8)))) x1) v1 := Go.Own.z2T (t := (30 : Nat)) Tryz.underlying30 r1 k1 rfl
  have g2 : Go.Own.ud (Go.Own.z2m W) ((Go.Own.UA (Go.Own.eI .u8)) x2) v2 := Go.Own.z9g (t := (31 : Nat)) Tryz.underlying31 r2 k2 rfl
  exact ⟨g0,g1,g2,trivial⟩
end
set_option maxRecDepth 100000 in
theorem zhH (os : Os) (started : os.Started) (H : Type) (enc : TypeId × Value → H) :
  ReturnsInHanded {} Tryz.checked os 3 .any (Rows.gapsGapSpec.pre6 enc Tryz.prog Tryz.f3 Rows.gapsGapRow.domain false) (Rows.gapsGapSpec.post enc Tryz.prog Tryz.f3 false true false false) := by
 refine returnsInHanded_of_change (C := Tryz.checked) own started (by kernel_rfl) Tryz.func3
  (ChangeSpec.witness6 (enc := enc) (C := Tryz.checked) false ⟨#[],#[.agg #[.int .u8 0,.int .u8 0,.int .u8 0,.slice none 0 0,.slice none 0 0],.agg #[.int .u8 0,.slice none 0 0],.agg #[.int .u8 0,.int .u8 0]],[]⟩ 8 (by kernel_rfl) (by kernel_rfl) (by kernel_rfl) (by kernel_rfl)) ?_
 intro W base args ds gs before hval0 hW hcnd _
 have hval : ∀ (j : Nat) t v,Tryz.f3.params[j]? = some t → args[j]? = some v → Value.okWide Tryz.prog W .any base t v := hval0
 have hW' := hW
 obtain ⟨p,q,hA0,hV,rfl,hfz,hnd⟩ := hW
 have hA : DataW.TrodAll enc Tryz.prog W 0 (fun _ => true) true Tryz.f3.params.toList args.toList ds p := hA0
 rw [Tryz.params3] at hA hval
 obtain ⟨v0,v1,v2,d0,d1,d2,p0,p1,p2,rfl,rfl,rfl,h0,h1,h2⟩ := trodAll_three hA
 obtain ⟨rfl,rfl⟩ := trodVars_none hV
 clear hA0 hval0
 refine (zkd h0 h1 h2 (hval 0 (27 : Nat) v0 rfl rfl) (hval 1 (30 : Nat) v1 rfl rfl) (hval 2 (31 : Nat) v2 rfl rfl)).mono fun e W' ⟨he,hk⟩ => ?_
 subst he
 have hb : Below W.heap.size W W' := ⟨hk.os,hk.tape,hk.output,hk.size,fun k q => hk.block k (by omega)⟩
 have hlt : ∀ x ∈ p0 ++ p1 ++ p2,x.block < W.heap.size := fun x hx => by simpa using hW'.lt x (by simpa using hx)
 refine ⟨_,rfl,Go.Own.zal rfl rfl hW' hb (fun _ _ _ => trodAll_cons_mk (shut_bool Tryz.underlying4 _) trodAll_mk0) (fun sp hsp => ?_) (ok_one (by kernel_rfl) rfl (okWide_bool_mk Tryz.underlying4 _))⟩
 have st : ∀ {t : Nat} {v : Value} {d : DataW H} {p' : List MemPlace},DataW.Trod enc Tryz.prog W 0 (fun _ => true) true t v d p' → Tryz.prog.readableRec t = true → t < Tryz.prog.types.size → (∀ x ∈ p',x ∈ p0 ++ p1 ++ p2) → DataW.Trod enc Tryz.prog W' 0 sp true t v d p' := by
  intro t v d p' hd h1 h2 hp
  exact WideElems.Trod_stays zfP h1 h2 hd (fun x hx => hb.same (hlt x (hp x hx))) (fun x hx => hsp x (by simpa using hp x hx))
 have := trodAll_mk3 (st h0 (by kernel_rfl) (of_decide_eq_true (by kernel_rfl)) (fun x hx => by simp [hx])) (st h1 (by kernel_rfl) (of_decide_eq_true (by kernel_rfl)) (fun x hx => by simp [hx])) (st h2 (by kernel_rfl) (of_decide_eq_true (by kernel_rfl)) (fun x hx => by simp [hx]))
 rw [← List.append_assoc] at this
 rw [Tryz.params3]
 exact this
theorem Qo : Rows.gapsGapRow.holds Tryz.pinned (OpenSpec.ofChange Rows.gapsGapSpec) :=
 OpenClaim.holds_of_wide 3 Tryz.f3 rfl rfl rfl rfl rfl rfl rfl ⟨rfl,rfl,rfl,rfl,rfl⟩ rfl rfl rfl rfl rfl (by kernel_rfl) Tryz.func3 (by kernel_rfl)
  (of_decide_eq_true (by kernel_rfl)) (by unfold Func.isWrapper; first | (rw [if_pos (by decide +kernel)]; kernel_rfl) | (rw [if_neg (by decide +kernel)]; exact ⟨rfl,rfl⟩))
  (fun os started H enc _ => zhH os started H enc)
theorem proved : Rows.GapsGapSaid :=
 Qo
#print axioms proved
end Go.Proofs.YtkalhfmehmcofaaGreat.gapsGap
