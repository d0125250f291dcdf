/- Texts of this claim, one behind the other. -/
import Derived.Test.YtbdgamoicleieaaGreatPhc
set_option linter.unusedVariables false
set_option linter.unusedSimpArgs false
set_option linter.unnecessarySimpa false
section
set_option linter.unusedVariables false
set_option maxRecDepth 100000
set_option maxHeartbeats 4000000
namespace Go.Proofs
open Go.Vm
attribute [local irreducible] vOps vDraw vC vK retP retH PureSpec HSpec
theorem ic138 : fnIC Tryz.prog H0 138 = some ([.tmp 0], 2, (.seq (.ops [zO 0 (.nil 0 9 1)]) (.seq (.ops [zO 1 (.isl 1 [(.c (.string ⟨#[58, 61]⟩)), (.c (.string ⟨#[47, 61]⟩)), (.c (.string ⟨#[60, 61]⟩)), (.c (.string ⟨#[62, 61]⟩)), (.c (.string ⟨#[47, 47]⟩)), (.c (.string ⟨#[61]⟩)), (.c (.string ⟨#[60]⟩)), (.c (.string ⟨#[62]⟩)), (.c (.string ⟨#[43]⟩)), (.c (.string ⟨#[45]⟩)), (.c (.string ⟨#[42]⟩)), (.c (.string ⟨#[37]⟩)), (.c (.string ⟨#[40]⟩)), (.c (.string ⟨#[41]⟩)), (.c (.string ⟨#[91]⟩)), (.c (.string ⟨#[93]⟩)), (.c (.string ⟨#[123]⟩)), (.c (.string ⟨#[125]⟩)), (.c (.string ⟨#[44]⟩)), (.c (.string ⟨#[59]⟩)), (.c (.string ⟨#[58]⟩)), (.c (.string ⟨#[46]⟩))]), zM 0 1]) .ret))) := by kernel_rfl
def f130 (n : Nat) : Option (List ByteArray) := some [(ByteArray.mk #[58, 61]), (ByteArray.mk #[47, 61]), (ByteArray.mk #[60, 61]), (ByteArray.mk #[62, 61]), (ByteArray.mk #[47, 47]), (ByteArray.mk #[61]), (ByteArray.mk #[60]), (ByteArray.mk #[62]), (ByteArray.mk #[43]), (ByteArray.mk #[45]), (ByteArray.mk #[42]), (ByteArray.mk #[37]), (ByteArray.mk #[40]), (ByteArray.mk #[41]), (ByteArray.mk #[91]), (ByteArray.mk #[93]), (ByteArray.mk #[123]), (ByteArray.mk #[125]), (ByteArray.mk #[44]), (ByteArray.mk #[59]), (ByteArray.mk #[58]), (ByteArray.mk #[46])]
def f130_r (r : (List ByteArray)) : AV := (vL cS r)
theorem p_f130 {n : Nat} {r : (List ByteArray)} (h : f130 n = some r) : PureSpec Tryz.prog 138 [] (f130_r r) := by
 rw [f130.eq_1] at h
 refine pure_of hmix ic138 ?_
 refine go_to (mkd (.val undef) 2 0 []) ?_
 refine s_so fun N1 k1 w1 => ?_
 refine o_h1 [(0, (.own 0 0))] [(some (.row 9 1 (List.map cS [])))] ?_
 refine o_end (k1 _ ?_)
 refine s_so fun N2 k2 w2 => ?_
 refine o_r2 [(0, (vL cS [(ByteArray.mk #[58, 61]), (ByteArray.mk #[47, 61]), (ByteArray.mk #[60, 61]), (ByteArray.mk #[62, 61]), (ByteArray.mk #[47, 47]), (ByteArray.mk #[61]), (ByteArray.mk #[60]), (ByteArray.mk #[62]), (ByteArray.mk #[43]), (ByteArray.mk #[45]), (ByteArray.mk #[42]), (ByteArray.mk #[37]), (ByteArray.mk #[40]), (ByteArray.mk #[41]), (ByteArray.mk #[91]), (ByteArray.mk #[93]), (ByteArray.mk #[123]), (ByteArray.mk #[125]), (ByteArray.mk #[44]), (ByteArray.mk #[59]), (ByteArray.mk #[58]), (ByteArray.mk #[46])])), (1, (vL cS [(ByteArray.mk #[58, 61]), (ByteArray.mk #[47, 61]), (ByteArray.mk #[60, 61]), (ByteArray.mk #[62, 61]), (ByteArray.mk #[47, 47]), (ByteArray.mk #[61]), (ByteArray.mk #[60]), (ByteArray.mk #[62]), (ByteArray.mk #[43]), (ByteArray.mk #[45]), (ByteArray.mk #[42]), (ByteArray.mk #[37]), (ByteArray.mk #[40]), (ByteArray.mk #[41]), (ByteArray.mk #[91]), (ByteArray.mk #[93]), (ByteArray.mk #[123]), (ByteArray.mk #[125]), (ByteArray.mk #[44]), (ByteArray.mk #[59]), (ByteArray.mk #[58]), (ByteArray.mk #[46])]))] ?_
 refine o_end (k2 _ ?_)
 exact c_ret (rets [] [(vL cS [(ByteArray.mk #[58, 61]), (ByteArray.mk #[47, 61]), (ByteArray.mk #[60, 61]), (ByteArray.mk #[62, 61]), (ByteArray.mk #[47, 47]), (ByteArray.mk #[61]), (ByteArray.mk #[60]), (ByteArray.mk #[62]), (ByteArray.mk #[43]), (ByteArray.mk #[45]), (ByteArray.mk #[42]), (ByteArray.mk #[37]), (ByteArray.mk #[40]), (ByteArray.mk #[41]), (ByteArray.mk #[91]), (ByteArray.mk #[93]), (ByteArray.mk #[123]), (ByteArray.mk #[125]), (ByteArray.mk #[44]), (ByteArray.mk #[59]), (ByteArray.mk #[58]), (ByteArray.mk #[46])])] [(vL cS [(ByteArray.mk #[58, 61]), (ByteArray.mk #[47, 61]), (ByteArray.mk #[60, 61]), (ByteArray.mk #[62, 61]), (ByteArray.mk #[47, 47]), (ByteArray.mk #[61]), (ByteArray.mk #[60]), (ByteArray.mk #[62]), (ByteArray.mk #[43]), (ByteArray.mk #[45]), (ByteArray.mk #[42]), (ByteArray.mk #[37]), (ByteArray.mk #[40]), (ByteArray.mk #[41]), (ByteArray.mk #[91]), (ByteArray.mk #[93]), (ByteArray.mk #[123]), (ByteArray.mk #[125]), (ByteArray.mk #[44]), (ByteArray.mk #[59]), (ByteArray.mk #[58]), (ByteArray.mk #[46])])] h)
theorem ic137 : fnIC Tryz.prog H0 137 = some ([.tmp 4], 18, (.seq (.ops [zO 4 (.mov (.c (.bool false)))]) (.seq (.seq (.ops [zO 5 (.mov (.c (.int .i64 0)))]) (.block 0 (.loop (.seq (.seq (.ops [zM 6 5, zM 7 0, zO 8 (.len false (.t 7)), zO 9 (.sc (.bin .lss 3) [(.t 6), (.t 8)])]) (.cond (.t 9)
  .skip
  (.exit 0))) (.seq (.block 1 (.seq (.ops [zM 12 0, zM 13 5, zO 14 (.iaddr 1 (.t 12) (.t 13)), zO 15 (.ld (.t 14) 1 false), zM 16 1, zO 17 (.sc (.bin .eql 9) [(.t 15), (.t 16)])]) (.cond (.t 17)
  (.seq (.ops [zO 4 (.mov (.c (.bool true)))]) .ret)
  .skip))) (.ops [zM 10 5, zO 11 (.sc (.bin .add 3) [(.t 10), (.c (.int .i64 1))]), zM 5 11])))))) (.seq (.ops [zO 4 (.mov (.c (.bool false)))]) .ret)))) := by kernel_rfl
def f129_k4 : Option Bool := some false
def f129_l7 (a1 : (List ByteArray)) (a2 : ByteArray) (k4k : Option Bool) : Nat → Int → Option Bool
  | 0, _ => none
  | m7 + 1, x20 => (bif (decide (x20 < (len a1))) then ((gi a1 x20).bind fun x28 => (bif (sEqF x28 a2) then some true else (f129_l7 a1 a2 (k4k) m7 (wr .i64 (x20 + 1))))) else (k4k))
def f129 (n : Nat) (a1 : (List ByteArray)) (a2 : ByteArray) : Option Bool := (f129_l7 a1 a2 (f129_k4) n 0)
def f129_r (r : Bool) : AV := (vB r)
theorem p_f129 {n : Nat} {a1 : (List ByteArray)} {a2 : ByteArray} {r : Bool} (h : f129 n a1 a2 = some r) : PureSpec Tryz.prog 137 [(vL cS a1), (vS a2)] (f129_r r) := by
 rw [f129.eq_1] at h
 refine pure_of hmix ic137 ?_
 refine go_to (mkd (.val undef) 18 0 [(0, (vL cS a1)), (1, (vS a2))]) ?_
 refine s_so fun N3 k3 w3 => ?_
 refine o_r1 [(4, (vB false))] ?_
 refine o_end (k3 _ ?_)
 refine J0 (r := r) ⟨(mkd .any 18 0 []), []⟩ (f129_k4) ?_ ?_
 · intro h
   rw [f129_k4.eq_1] at h
   refine s_so fun N33 k33 w33 => ?_
   refine o_r1 [(4, (vB false))] ?_
   refine o_end (k33 _ ?_)
   exact c_ret (rets [] [(vB false)] [(vB false)] h)
 · intro N4 w4
   refine s_so fun N5 k5 w5 => ?_
   refine o_r1 [(5, (vI 0))] ?_
   refine o_end (k5 _ ?_)
   refine c_block fun E6 hE6 hO6 => ?_
   refine W1 (fun (x20 : Int) => ⟨(mkd .any 18 0 [(0, (vL cS a1)), (1, (vS a2)), (5, (vI x20))]), []⟩) (f129_l7 a1 a2 (f129_k4)) h (wkm [0, 1, 5] wh_nil) (by intros; rw [f129_l7.eq_1]) ?_
   intro m7 x20 h N7 w7
   rw [f129_l7.eq_2] at h
   refine s_seq fun N21 k21 w21 => ?_
   refine s_so fun N22 k22 w22 => ?_
   refine o_r2 [(6, (vI x20)), (7, (vL cS a1))] ?_
   refine o_o (one_len (f := cS) (l := a1)) ?_
   refine o_r1 [(9, (vB (decide (x20 < (len a1)))))] ?_
   refine o_end (k22 _ ?_)
   refine i_c [9] h (fun h => ?_) (fun h => ?_)
   · refine c_skip (k21 _ ?_)
     refine s_seq fun N25 k25 w25 => ?_
     refine c_block fun E26 hE26 hO26 => ?_
     refine s_so fun N27 k27 w27 => ?_
     refine o_r2 [(12, (vL cS a1)), (13, (vI x20))] ?_
     refine bnd h fun x28 g29 h => ?_
     refine o_o (one_ia (f := cS) (ki := .i64) g29) ?_
     refine o_r2 [(15, (vS x28)), (16, (vS a2))] ?_
     refine o_o (one_sc (vs := [.string x28, .string a2]) (str_eql x28 a2)) ?_
     refine o_end (k27 _ ?_)
     refine i_c [17] h (fun h => ?_) (fun h => ?_)
     · refine s_so fun N32 k32 w32 => ?_
       refine o_r1 [(4, (vB true))] ?_
       refine o_end (k32 _ ?_)
       exact c_ret (rets [] [(vB true)] [(vB true)] h)
     · refine c_skip (k25 _ ?_)
       refine c_ops ?_
       refine o_r3 [(5, (vI (wr .i64 (x20 + 1)))), (10, (vI x20)), (11, (vI (wr .i64 (x20 + 1))))] ?_
       exact o_end (w7 _ _ (wkm [0, 1, 5] wh_nil) h)
   · refine c_exit (hE6 _ ?_)
     exact w4 _ (wkm [] wh_nil) h
theorem ic147 : fnIC Tryz.prog H0 147 = some ([.tmp 2], 9, (.seq (.ops [zO 2 (.mov (.c (.bool false)))]) (.seq (.ops [zM 3 0, zO 4 (.sc (.bin .geq 5) [(.t 3), (.c (.int .u8 97))]), zM 5 4, zN 6 5 true 0, zG 7 5 true (.sc (.bin .leq 5) [(.t 6), (.c (.int .u8 122))]), zO 8 (.pick (.t 5) (.t 7) (.c (.bool false))), zM 2 8]) .ret))) := by kernel_rfl
def f148_k3 (x5 : Bool) : Option Bool := some x5
def f148 (n : Nat) (a1 : Int) : Option Bool := (bif (decide (a1 ≥ 97)) then (f148_k3 (decide (a1 ≤ 122))) else (f148_k3 false))
def f148_r (r : Bool) : AV := (vB r)
theorem p_f148 {n : Nat} {a1 : Int} {r : Bool} (h : f148 n a1 = some r) : PureSpec Tryz.prog 147 [(vKi .u8 a1)] (f148_r r) := by
 rw [f148.eq_1] at h
 refine pure_of hmix ic147 ?_
 refine go_to (mkd (.val undef) 9 0 [(0, (vKi .u8 a1))]) ?_
 refine s_so fun N2 k2 w2 => ?_
 refine o_r1 [(2, (vB false))] ?_
 refine o_end (k2 _ ?_)
 refine J1 (r := r) (fun (x5 : Bool) => ⟨(mkd .any 9 0 [(2, (vB x5))]), []⟩) (f148_k3) ?_ ?_
 · intro x5 h
   rw [f148_k3.eq_1] at h
   exact c_ret (rets [] [(vB x5)] [(vB x5)] h)
 · intro N3 w3
   refine c_ops ?_
   refine o_r3 [(3, (vKi .u8 a1)), (4, (vB (decide (a1 ≥ 97)))), (5, (vB (decide (a1 ≥ 97))))] ?_
   refine i_o [4, 5] h (fun h => ?_) (fun h => ?_)
   · refine o_r4 [(2, (vB (decide (a1 ≤ 122)))), (6, (vKi .u8 a1)), (7, (vB (decide (a1 ≤ 122)))), (8, (vB (decide (a1 ≤ 122))))] ?_
     exact o_end (w3 _ _ (wkm [2] wh_nil) h)
   · refine o_r4 [(6, (.val undef)), (7, (.val undef)), (8, (vB false))] ?_
     exact o_end (w3 _ _ (wkm [2] wh_nil) h)
theorem ic148 : fnIC Tryz.prog H0 148 = some ([.tmp 2], 9, (.seq (.ops [zO 2 (.mov (.c (.bool false)))]) (.seq (.ops [zM 3 0, zO 4 (.sc (.bin .geq 5) [(.t 3), (.c (.int .u8 65))]), zM 5 4, zN 6 5 true 0, zG 7 5 true (.sc (.bin .leq 5) [(.t 6), (.c (.int .u8 90))]), zO 8 (.pick (.t 5) (.t 7) (.c (.bool false))), zM 2 8]) .ret))) := by kernel_rfl
def f149_k3 (x5 : Bool) : Option Bool := some x5
def f149 (n : Nat) (a1 : Int) : Option Bool := (bif (decide (a1 ≥ 65)) then (f149_k3 (decide (a1 ≤ 90))) else (f149_k3 false))
def f149_r (r : Bool) : AV := (vB r)
theorem p_f149 {n : Nat} {a1 : Int} {r : Bool} (h : f149 n a1 = some r) : PureSpec Tryz.prog 148 [(vKi .u8 a1)] (f149_r r) := by
 rw [f149.eq_1] at h
 refine pure_of hmix ic148 ?_
 refine go_to (mkd (.val undef) 9 0 [(0, (vKi .u8 a1))]) ?_
 refine s_so fun N2 k2 w2 => ?_
 refine o_r1 [(2, (vB false))] ?_
 refine o_end (k2 _ ?_)
 refine J1 (r := r) (fun (x5 : Bool) => ⟨(mkd .any 9 0 [(2, (vB x5))]), []⟩) (f149_k3) ?_ ?_
 · intro x5 h
   rw [f149_k3.eq_1] at h
   exact c_ret (rets [] [(vB x5)] [(vB x5)] h)
 · intro N3 w3
   refine c_ops ?_
   refine o_r3 [(3, (vKi .u8 a1)), (4, (vB (decide (a1 ≥ 65)))), (5, (vB (decide (a1 ≥ 65))))] ?_
   refine i_o [4, 5] h (fun h => ?_) (fun h => ?_)
   · refine o_r4 [(2, (vB (decide (a1 ≤ 90)))), (6, (vKi .u8 a1)), (7, (vB (decide (a1 ≤ 90)))), (8, (vB (decide (a1 ≤ 90))))] ?_
     exact o_end (w3 _ _ (wkm [2] wh_nil) h)
   · refine o_r4 [(6, (.val undef)), (7, (.val undef)), (8, (vB false))] ?_
     exact o_end (w3 _ _ (wkm [2] wh_nil) h)
theorem ic140 : fnIC Tryz.prog H0 140 = some ([.tmp 2], 9, (.seq (.ops [zO 2 (.mov (.c (.bool false)))]) (.seq (.ops [zM 3 0, zO 4 (.sc (.bin .geq 5) [(.t 3), (.c (.int .u8 48))]), zM 5 4, zN 6 5 true 0, zG 7 5 true (.sc (.bin .leq 5) [(.t 6), (.c (.int .u8 57))]), zO 8 (.pick (.t 5) (.t 7) (.c (.bool false))), zM 2 8]) .ret))) := by kernel_rfl
def f132_k3 (x5 : Bool) : Option Bool := some x5
def f132 (n : Nat) (a1 : Int) : Option Bool := (bif (decide (a1 ≥ 48)) then (f132_k3 (decide (a1 ≤ 57))) else (f132_k3 false))
def f132_r (r : Bool) : AV := (vB r)
theorem p_f132 {n : Nat} {a1 : Int} {r : Bool} (h : f132 n a1 = some r) : PureSpec Tryz.prog 140 [(vKi .u8 a1)] (f132_r r) := by
 rw [f132.eq_1] at h
 refine pure_of hmix ic140 ?_
 refine go_to (mkd (.val undef) 9 0 [(0, (vKi .u8 a1))]) ?_
 refine s_so fun N2 k2 w2 => ?_
 refine o_r1 [(2, (vB false))] ?_
 refine o_end (k2 _ ?_)
 refine J1 (r := r) (fun (x5 : Bool) => ⟨(mkd .any 9 0 [(2, (vB x5))]), []⟩) (f132_k3) ?_ ?_
 · intro x5 h
   rw [f132_k3.eq_1] at h
   exact c_ret (rets [] [(vB x5)] [(vB x5)] h)
 · intro N3 w3
   refine c_ops ?_
   refine o_r3 [(3, (vKi .u8 a1)), (4, (vB (decide (a1 ≥ 48)))), (5, (vB (decide (a1 ≥ 48))))] ?_
   refine i_o [4, 5] h (fun h => ?_) (fun h => ?_)
   · refine o_r4 [(2, (vB (decide (a1 ≤ 57)))), (6, (vKi .u8 a1)), (7, (vB (decide (a1 ≤ 57)))), (8, (vB (decide (a1 ≤ 57))))] ?_
     exact o_end (w3 _ _ (wkm [2] wh_nil) h)
   · refine o_r4 [(6, (.val undef)), (7, (.val undef)), (8, (vB false))] ?_
     exact o_end (w3 _ _ (wkm [2] wh_nil) h)
theorem ic145 : fnIC Tryz.prog H0 145 = some ([.tmp 2], 17, (.seq (.ops [zO 2 (.mov (.c (.bool false)))]) (.seq (.ops [zM 3 0, zO 4 (.call 147 [(.t 3)]), zM 5 4, zN 6 5 false 0, zG 7 5 false (.call 148 [(.t 6)]), zO 8 (.pick (.t 5) (.c (.bool true)) (.t 7)), zM 9 8, zN 10 9 false 0, zG 11 9 false (.call 140 [(.t 10)]), zO 12 (.pick (.t 9) (.c (.bool true)) (.t 11)), zM 13 12, zN 14 13 false 0, zG 15 13 false (.sc (.bin .eql 5) [(.t 14), (.c (.int .u8 95))]), zO 16 (.pick (.t 13) (.c (.bool true)) (.t 15)), zM 2 16]) .ret))) := by kernel_rfl
def f146_k3 (x13 : Bool) : Option Bool := some x13
def f146 (n : Nat) (a1 : Int) : Option Bool := ((f148 n a1).bind fun r4 => (bif r4 then (f146_k3 true) else ((f149 n a1).bind fun r7 => (bif r7 then (f146_k3 true) else ((f132 n a1).bind fun r10 => (bif r10 then (f146_k3 true) else (f146_k3 (a1 == 95))))))))
def f146_r (r : Bool) : AV := (vB r)
theorem p_f146 {n : Nat} {a1 : Int} {r : Bool} (h : f146 n a1 = some r) : PureSpec Tryz.prog 145 [(vKi .u8 a1)] (f146_r r) := by
 rw [f146.eq_1] at h
 refine pure_of hmix ic145 ?_
 refine go_to (mkd (.val undef) 17 0 [(0, (vKi .u8 a1))]) ?_
 refine s_so fun N2 k2 w2 => ?_
 refine o_r1 [(2, (vB false))] ?_
 refine o_end (k2 _ ?_)
 refine J1 (r := r) (fun (x13 : Bool) => ⟨(mkd .any 17 0 [(2, (vB x13))]), []⟩) (f146_k3) ?_ ?_
 · intro x13 h
   rw [f146_k3.eq_1] at h
   exact c_ret (rets [] [(vB x13)] [(vB x13)] h)
 · intro N3 w3
   refine c_ops ?_
   refine o_r1 [(3, (vKi .u8 a1))] ?_
   refine bnd h fun r4 g5 h => ?_
   refine o_o (one_call (p_f148 g5)) ?_
   refine o_r1 [(5, (vB r4))] ?_
   refine i_o [4, 5] h (fun h => ?_) (fun h => ?_)
   · refine o_r12 [(2, (vB true)), (6, (.val undef)), (7, (.val undef)), (8, (vB true)), (9, (vB true)), (10, (.val undef)), (11, (.val undef)), (12, (vB true)), (13, (vB true)), (14, (.val undef)), (15, (.val undef)), (16, (vB true))] ?_
     exact o_end (w3 _ _ (wkm [2] wh_nil) h)
   · refine o_r1 [(6, (vKi .u8 a1))] ?_
     refine bnd h fun r7 g8 h => ?_
     refine o_g ?_
     refine o_o (one_call (p_f149 g8)) ?_
     refine o_r2 [(8, (vB r7)), (9, (vB r7))] ?_
     refine i_o [7, 8, 9] h (fun h => ?_) (fun h => ?_)
     · refine o_r8 [(2, (vB true)), (10, (.val undef)), (11, (.val undef)), (12, (vB true)), (13, (vB true)), (14, (.val undef)), (15, (.val undef)), (16, (vB true))] ?_
       exact o_end (w3 _ _ (wkm [2] wh_nil) h)
     · refine o_r1 [(10, (vKi .u8 a1))] ?_
       refine bnd h fun r10 g11 h => ?_
       refine o_g ?_
       refine o_o (one_call (p_f132 g11)) ?_
       refine o_r2 [(12, (vB r10)), (13, (vB r10))] ?_
       refine s_tm (mkd (.val undef) 17 0 [(0, (vKi .u8 a1)), (2, (vB false)), (3, (vKi .u8 a1)), (4, (vB false)), (5, (vB false)), (6, (vKi .u8 a1)), (7, (vB false)), (8, (vB false)), (9, (vB false)), (10, (vKi .u8 a1)), (11, (vB r10)), (12, (vB r10)), (13, (vB r10))]) ?_
       refine i_o [11, 12, 13] h (fun h => ?_) (fun h => ?_)
       · refine o_r4 [(2, (vB true)), (14, (.val undef)), (15, (.val undef)), (16, (vB true))] ?_
         exact o_end (w3 _ _ (wkm [2] wh_nil) h)
       · refine o_r4 [(2, (vB (a1 == 95))), (14, (vKi .u8 a1)), (15, (vB (a1 == 95))), (16, (vB (a1 == 95)))] ?_
         exact o_end (w3 _ _ (wkm [2] wh_nil) h)
theorem ic139 : fnIC Tryz.prog H0 139 = some ([.tmp 4], 23, (.seq (.ops [zO 4 (.mov (.c (.int .i64 0)))]) (.seq (.ops [zO 5 (.mov (.c (.int .i64 0)))]) (.seq (.block 0 (.loop (.seq (.seq (.ops [zM 6 1, zM 7 5, zO 8 (.sc (.bin .add 3) [(.t 6), (.t 7)]), zM 9 0, zO 10 (.len true (.t 9)), zO 11 (.sc (.bin .lss 3) [(.t 8), (.t 10)]), zM 12 11, zN 13 12 true 0, zN 14 12 true 1, zN 15 12 true 5, zG 16 12 true (.sc (.bin .add 3) [(.t 14), (.t 15)]), zG 17 12 true (.sc (.idx 9) [(.t 13), (.t 16)]), zG 18 12 true (.call 145 [(.t 17)]), zO 19 (.pick (.t 12) (.t 18) (.c (.bool false)))]) (.cond (.t 19)
  .skip
  (.exit 0))) (.block 1 (.ops [zM 20 5, zO 21 (.sc (.bin .add 3) [(.t 20), (.c (.int .i64 1))]), zM 5 21]))))) (.seq (.ops [zM 22 5, zM 4 22]) .ret))))) := by kernel_rfl
def f131_k5 (x29 : Int) : Option Int := some x29
def f131_k20 (x18 : Int) (c7k : Int → Option Int) (k5k : Int → Option Int) (x26 : Bool) : Option Int := (bif x26 then (c7k (wr .i64 (x18 + 1))) else (k5k x18))
def f131_l7 (a2 : Int) (a1 : ByteArray) (n : Nat) (k5k : Int → Option Int) : Nat → Int → Option Int
  | 0, _ => none
  | m7 + 1, x18 => (bif (decide ((wr .i64 (a2 + x18)) < (bsz a1))) then ((si a1 (wr .i64 (a2 + x18))).bind fun c22 => ((f146 n c22).bind fun r24 => (f131_k20 x18 (f131_l7 a2 a1 n (k5k) m7) (k5k) r24))) else (f131_k20 x18 (f131_l7 a2 a1 n (k5k) m7) (k5k) false))
def f131 (n : Nat) (a1 : ByteArray) (a2 : Int) : Option Int := (f131_l7 a2 a1 n (f131_k5) n 0)
def f131_r (r : Int) : AV := (vI r)
theorem p_f131 {n : Nat} {a1 : ByteArray} {a2 : Int} {r : Int} (h : f131 n a1 a2 = some r) : PureSpec Tryz.prog 139 [(vS a1), (vI a2)] (f131_r r) := by
 rw [f131.eq_1] at h
 refine pure_of hmix ic139 ?_
 refine go_to (mkd (.val undef) 23 0 [(0, (vS a1)), (1, (vI a2))]) ?_
 refine s_so fun N3 k3 w3 => ?_
 refine o_r1 [(4, (vI 0))] ?_
 refine o_end (k3 _ ?_)
 refine s_so fun N4 k4 w4 => ?_
 refine o_r1 [(5, (vI 0))] ?_
 refine o_end (k4 _ ?_)
 refine J1 (r := r) (fun (x29 : Int) => ⟨(mkd .any 23 0 [(5, (vI x29))]), []⟩) (f131_k5) ?_ ?_
 · intro x29 h
   rw [f131_k5.eq_1] at h
   refine s_so fun N30 k30 w30 => ?_
   refine o_r2 [(4, (vI x29)), (22, (vI x29))] ?_
   refine o_end (k30 _ ?_)
   exact c_ret (rets [] [(vI x29)] [(vI x29)] h)
 · intro N5 w5
   refine c_block fun E6 hE6 hO6 => ?_
   refine W1 (fun (x18 : Int) => ⟨(mkd .any 23 0 [(0, (vS a1)), (1, (vI a2)), (5, (vI x18))]), []⟩) (f131_l7 a2 a1 n (f131_k5)) h (wkm [0, 1, 5] wh_nil) (by intros; rw [f131_l7.eq_1]) ?_
   intro m7 x18 h N7 w7
   rw [f131_l7.eq_2] at h
   refine s_seq fun N19 k19 w19 => ?_
   refine J1 (r := r) (fun (x26 : Bool) => ⟨(mkd .any 23 0 [(0, (vS a1)), (1, (vI a2)), (5, (vI x18)), (19, (vB x26))]), []⟩) (f131_k20 x18 (f131_l7 a2 a1 n (f131_k5) m7) (f131_k5)) ?_ ?_
   · intro x26 h
     rw [f131_k20.eq_1] at h
     refine i_c [19] h (fun h => ?_) (fun h => ?_)
     · refine c_skip (k19 _ ?_)
       refine c_block fun E28 hE28 hO28 => ?_
       refine c_ops ?_
       refine o_r3 [(5, (vI (wr .i64 (x18 + 1)))), (20, (vI x18)), (21, (vI (wr .i64 (x18 + 1))))] ?_
       exact o_end (w7 _ _ (wkm [0, 1, 5] wh_nil) h)
     · refine c_exit (hE6 _ ?_)
       exact w5 _ _ (wkm [5] wh_nil) h
   · intro N20 w20
     refine c_ops ?_
     refine o_r7 [(6, (vI a2)), (7, (vI x18)), (8, (vI (wr .i64 (a2 + x18)))), (9, (vS a1)), (10, (vI (bsz a1))), (11, (vB (decide ((wr .i64 (a2 + x18)) < (bsz a1))))), (12, (vB (decide ((wr .i64 (a2 + x18)) < (bsz a1)))))] ?_
     refine i_o [11, 12] h (fun h => ?_) (fun h => ?_)
     · refine o_r4 [(13, (vS a1)), (14, (vI a2)), (15, (vI x18)), (16, (vI (wr .i64 (a2 + x18))))] ?_
       refine bnd h fun c22 g23 h => ?_
       refine o_g ?_
       refine o_o (one_idx (ki := .i64) g23) ?_
       refine bnd h fun r24 g25 h => ?_
       refine o_g ?_
       refine o_o (one_call (p_f146 g25)) ?_
       refine o_r1 [(19, (vB r24))] ?_
       exact o_end (w20 _ _ (wkm [0, 1, 5, 19] wh_nil) h)
     · refine o_r7 [(13, (.val undef)), (14, (.val undef)), (15, (.val undef)), (16, (.val undef)), (17, (.val undef)), (18, (.val undef)), (19, (vB false))] ?_
       exact o_end (w20 _ _ (wkm [0, 1, 5, 19] wh_nil) h)
theorem ic141 : fnIC Tryz.prog H0 141 = some ([.cell 2 197], 46, (.seq (.ops [zO 2 (.alloc 0 197 [] [(.int .i64 0), (.int .i64 0)])]) (.seq (.seq (.ops [zO 3 (.mov (.c (.int .i64 0)))]) (.block 0 (.loop (.seq (.seq (.ops [zM 6 3, zM 7 0, zO 8 (.len true (.t 7)), zO 9 (.sc (.bin .lss 3) [(.t 6), (.t 8)])]) (.cond (.t 9)
  .skip
  (.exit 0))) (.seq (.block 1 (.seq (.ops [zM 12 0, zM 13 3, zO 14 (.sc (.idx 9) [(.t 12), (.t 13)]), zO 15 (.call 140 [(.t 14)]), zO 16 (.sc (.un .not) [(.t 15)])]) (.cond (.t 16)
  (.seq (.ops [zO 17 (.bld [(.int .i64 0), (.int .i64 0)] [(1, 1, (.c (.int .i64 2)))]), zU (.st true 2 [] (.t 2) (.t 17))]) .ret)
  .skip))) (.ops [zM 10 3, zO 11 (.sc (.bin .add 3) [(.t 10), (.c (.int .i64 1))]), zM 3 11])))))) (.seq (.seq (.ops [zM 18 0, zO 19 (.sc (.idx 9) [(.t 18), (.c (.int .i64 0))]), zO 20 (.sc (.bin .eql 5) [(.t 19), (.c (.int .u8 48))]), zM 21 20, zN 22 21 true 0, zG 23 21 true (.len true (.t 22)), zG 24 21 true (.sc (.bin .gtr 3) [(.t 23), (.c (.int .i64 1))]), zO 25 (.pick (.t 21) (.t 24) (.c (.bool false)))]) (.cond (.t 25)
  (.seq (.ops [zO 26 (.bld [(.int .i64 0), (.int .i64 0)] [(1, 1, (.c (.int .i64 2)))]), zU (.st true 2 [] (.t 2) (.t 26))]) .ret)
  .skip)) (.seq (.ops [zO 4 (.mov (.c (.int .i64 0)))]) (.seq (.seq (.ops [zO 5 (.mov (.c (.int .i64 0)))]) (.block 2 (.loop (.seq (.seq (.ops [zM 27 5, zM 28 0, zO 29 (.len true (.t 28)), zO 30 (.sc (.bin .lss 3) [(.t 27), (.t 29)])]) (.cond (.t 30)
  .skip
  (.exit 2))) (.seq (.block 3 (.seq (.ops [zM 33 4, zO 34 (.sc (.bin .mul 3) [(.c (.int .i64 10)), (.t 33)]), zM 35 0, zM 36 5, zO 37 (.sc (.idx 9) [(.t 35), (.t 36)]), zO 38 (.sc (.conv 5 3) [(.t 37)]), zO 39 (.sc (.bin .add 3) [(.t 34), (.t 38)]), zO 40 (.sc (.bin .sub 3) [(.t 39), (.c (.int .i64 48))]), zM 4 40]) (.seq (.ops [zM 41 4, zO 42 (.sc (.bin .gtr 3) [(.t 41), (.c (.int .i64 1099511627776))])]) (.cond (.t 42)
  (.seq (.ops [zO 43 (.bld [(.int .i64 0), (.int .i64 0)] [(1, 1, (.c (.int .i64 3)))]), zU (.st true 2 [] (.t 2) (.t 43))]) .ret)
  .skip)))) (.ops [zM 31 5, zO 32 (.sc (.bin .add 3) [(.t 31), (.c (.int .i64 1))]), zM 5 32])))))) (.seq (.ops [zM 44 4, zO 45 (.bld [(.int .i64 0), (.int .i64 0)] [(0, 1, (.t 44))]), zU (.st true 2 [] (.t 2) (.t 45))]) .ret))))))) := by kernel_rfl
def f133_k41 (x69 : Int) : Option NE := some (NE.mk x69 0)
def f133_l44 (a1 : ByteArray) (k41k : Int → Option NE) : Nat → Int → Int → Option NE
  | 0, _, _ => none
  | m44 + 1, x56, x57 => (bif (decide (x57 < (bsz a1))) then ((si a1 x57).bind fun c64 => (bif (decide ((wr .i64 ((wr .i64 ((wr .i64 (10 * x56)) + (wr .i64 c64))) - 48)) > 1099511627776)) then some (NE.mk 0 3) else (f133_l44 a1 (k41k) m44 (wr .i64 ((wr .i64 ((wr .i64 (10 * x56)) + (wr .i64 c64))) - 48)) (wr .i64 (x57 + 1))))) else (k41k x56))
def f133_k33 (n : Nat) (a1 : ByteArray) (x37 : Bool) : Option NE := (bif x37 then some (NE.mk 0 2) else (f133_l44 a1 (f133_k41) n 0 0))
def f133_k3 (a1 : ByteArray) (n : Nat) : Option NE := ((si a1 0).bind fun c34 => (bif (c34 == 48) then (f133_k33 n a1 (decide ((bsz a1) > 1))) else (f133_k33 n a1 false)))
def f133_l6 (a1 : ByteArray) (n : Nat) (k3k : Option NE) : Nat → Int → Option NE
  | 0, _ => none
  | m6 + 1, x19 => (bif (decide (x19 < (bsz a1))) then ((si a1 x19).bind fun c26 => ((f132 n c26).bind fun r28 => (bif (!r28) then some (NE.mk 0 2) else (f133_l6 a1 n (k3k) m6 (wr .i64 (x19 + 1)))))) else (k3k))
def f133 (n : Nat) (a1 : ByteArray) : Option NE := (f133_l6 a1 n (f133_k3 a1 n) n 0)
def f133_r (r : NE) : AV := (.agg [(vI r.fN), (vI r.fE)])
theorem p_f133 {n : Nat} {a1 : ByteArray} {r : NE} (h : f133 n a1 = some r) : PureSpec Tryz.prog 141 [(vS a1)] (f133_r r) := by
 rw [f133.eq_1] at h
 refine pure_of hmix ic141 ?_
 refine go_to (mkd (.val undef) 46 0 [(0, (vS a1))]) ?_
 refine s_so fun N2 k2 w2 => ?_
 refine o_h1 [(2, (.ptr 0 0))] [(some (.box 197 [(vI 0), (vI 0)]))] ?_
 refine o_end (k2 _ ?_)
 refine J0 (r := r) ⟨(mkd .any 46 0 [(0, (vS a1)), (2, (.ptr 0 0))]), [(some (.box 197 [(vI 0), (vI 0)]))]⟩ (f133_k3 a1 n) ?_ ?_
 · intro h
   rw [f133_k3.eq_1] at h
   refine s_seq fun N32 k32 w32 => ?_
   refine J1 (r := r) (fun (x37 : Bool) => ⟨(mkd .any 46 0 [(0, (vS a1)), (2, (.ptr 0 0)), (25, (vB x37))]), [(some (.box 197 [(vI 0), (vI 0)]))]⟩) (f133_k33 n a1) ?_ ?_
   · intro x37 h
     rw [f133_k33.eq_1] at h
     refine i_c [25] h (fun h => ?_) (fun h => ?_)
     · refine s_so fun N39 k39 w39 => ?_
       refine o_h2 [(26, (.agg [(vI 0), (vI 2)]))] [(some (.box 197 [(vI 0), (vI 2)]))] ?_
       refine o_end (k39 _ ?_)
       exact c_ret (rets [] [(.agg [(vI 0), (vI 2)])] [(.agg [(vI 0), (vI 2)])] h)
     · refine c_skip (k32 _ ?_)
       refine s_so fun N40 k40 w40 => ?_
       refine o_r1 [(4, (vI 0))] ?_
       refine o_end (k40 _ ?_)
       refine J1 (r := r) (fun (x69 : Int) => ⟨(mkd .any 46 0 [(2, (.ptr 0 0)), (4, (vI x69))]), [(some (.box 197 [(vI 0), (vI 0)]))]⟩) (f133_k41) ?_ ?_
       · intro x69 h
         rw [f133_k41.eq_1] at h
         refine s_so fun N70 k70 w70 => ?_
         refine o_h3 [(44, (vI x69)), (45, (.agg [(vI x69), (vI 0)]))] [(some (.box 197 [(vI x69), (vI 0)]))] ?_
         refine o_end (k70 _ ?_)
         exact c_ret (rets [] [(.agg [(vI x69), (vI 0)])] [(.agg [(vI x69), (vI 0)])] h)
       · intro N41 w41
         refine s_so fun N42 k42 w42 => ?_
         refine o_r1 [(5, (vI 0))] ?_
         refine o_end (k42 _ ?_)
         refine c_block fun E43 hE43 hO43 => ?_
         refine W2 (fun (x56 : Int) (x57 : Int) => ⟨(mkd .any 46 0 [(0, (vS a1)), (2, (.ptr 0 0)), (4, (vI x56)), (5, (vI x57))]), [(some (.box 197 [(vI 0), (vI 0)]))]⟩) (f133_l44 a1 (f133_k41)) h (wkm [0, 2, 4, 5] (whk wh_nil)) (by intros; rw [f133_l44.eq_1]) ?_
         intro m44 x56 x57 h N44 w44
         rw [f133_l44.eq_2] at h
         refine s_seq fun N58 k58 w58 => ?_
         refine s_so fun N59 k59 w59 => ?_
         refine o_r4 [(27, (vI x57)), (28, (vS a1)), (29, (vI (bsz a1))), (30, (vB (decide (x57 < (bsz a1)))))] ?_
         refine o_end (k59 _ ?_)
         refine i_c [30] h (fun h => ?_) (fun h => ?_)
         · refine c_skip (k58 _ ?_)
           refine s_seq fun N61 k61 w61 => ?_
           refine c_block fun E62 hE62 hO62 => ?_
           refine s_so fun N63 k63 w63 => ?_
           refine o_r4 [(33, (vI x56)), (34, (vI (wr .i64 (10 * x56)))), (35, (vS a1)), (36, (vI x57))] ?_
           refine bnd h fun c64 g65 h => ?_
           refine o_o (one_idx (ki := .i64) g65) ?_
           refine o_r4 [(4, (vI (wr .i64 ((wr .i64 ((wr .i64 (10 * x56)) + (wr .i64 c64))) - 48)))), (38, (vI (wr .i64 c64))), (39, (vI (wr .i64 ((wr .i64 (10 * x56)) + (wr .i64 c64))))), (40, (vI (wr .i64 ((wr .i64 ((wr .i64 (10 * x56)) + (wr .i64 c64))) - 48))))] ?_
           refine o_end (k63 _ ?_)
           refine s_so fun N66 k66 w66 => ?_
           refine o_r2 [(41, (vI (wr .i64 ((wr .i64 ((wr .i64 (10 * x56)) + (wr .i64 c64))) - 48)))), (42, (vB (decide ((wr .i64 ((wr .i64 ((wr .i64 (10 * x56)) + (wr .i64 c64))) - 48)) > 1099511627776))))] ?_
           refine o_end (k66 _ ?_)
           refine i_c [42] h (fun h => ?_) (fun h => ?_)
           · refine s_so fun N68 k68 w68 => ?_
             refine o_h2 [(43, (.agg [(vI 0), (vI 3)]))] [(some (.box 197 [(vI 0), (vI 3)]))] ?_
             refine o_end (w68 _ ⟨(mkd .any 46 0 [(2, (.ptr 0 0))]), [(some (.box 197 [(vI 0), (vI 3)]))]⟩ (wkm [2] (whk wh_nil)) ?_)
             exact c_ret (rets [] [(.agg [(vI 0), (vI 3)])] [(.agg [(vI 0), (vI 3)])] h)
           · refine c_skip (k61 _ ?_)
             refine c_ops ?_
             refine o_r3 [(5, (vI (wr .i64 (x57 + 1)))), (31, (vI x57)), (32, (vI (wr .i64 (x57 + 1))))] ?_
             exact o_end (w44 _ _ _ (wkm [0, 2, 4, 5] (whk wh_nil)) h)
         · refine c_exit (hE43 _ ?_)
           exact w41 _ _ (wkm [2, 4] (whk wh_nil)) h
   · intro N33 w33
     refine c_ops ?_
     refine o_r1 [(18, (vS a1))] ?_
     refine bnd h fun c34 g35 h => ?_
     refine o_o (one_idx (ki := .i64) g35) ?_
     refine o_r2 [(20, (vB (c34 == 48))), (21, (vB (c34 == 48)))] ?_
     refine i_o [20, 21] h (fun h => ?_) (fun h => ?_)
     · refine o_r4 [(22, (vS a1)), (23, (vI (bsz a1))), (24, (vB (decide ((bsz a1) > 1)))), (25, (vB (decide ((bsz a1) > 1))))] ?_
       exact o_end (w33 _ _ (wkm [0, 2, 25] (whk wh_nil)) h)
     · refine o_r4 [(22, (.val undef)), (23, (.val undef)), (24, (.val undef)), (25, (vB false))] ?_
       exact o_end (w33 _ _ (wkm [0, 2, 25] (whk wh_nil)) h)
 · intro N3 w3
   refine s_so fun N4 k4 w4 => ?_
   refine o_r1 [(3, (vI 0))] ?_
   refine o_end (k4 _ ?_)
   refine c_block fun E5 hE5 hO5 => ?_
   refine W1 (fun (x19 : Int) => ⟨(mkd .any 46 0 [(0, (vS a1)), (2, (.ptr 0 0)), (3, (vI x19))]), [(some (.box 197 [(vI 0), (vI 0)]))]⟩) (f133_l6 a1 n (f133_k3 a1 n)) h (wkm [0, 2, 3] (whk wh_nil)) (by intros; rw [f133_l6.eq_1]) ?_
   intro m6 x19 h N6 w6
   rw [f133_l6.eq_2] at h
   refine s_seq fun N20 k20 w20 => ?_
   refine s_so fun N21 k21 w21 => ?_
   refine o_r4 [(6, (vI x19)), (7, (vS a1)), (8, (vI (bsz a1))), (9, (vB (decide (x19 < (bsz a1)))))] ?_
   refine o_end (k21 _ ?_)
   refine i_c [9] h (fun h => ?_) (fun h => ?_)
   · refine c_skip (k20 _ ?_)
     refine s_seq fun N23 k23 w23 => ?_
     refine c_block fun E24 hE24 hO24 => ?_
     refine s_so fun N25 k25 w25 => ?_
     refine o_r2 [(12, (vS a1)), (13, (vI x19))] ?_
     refine bnd h fun c26 g27 h => ?_
     refine o_o (one_idx (ki := .i64) g27) ?_
     refine bnd h fun r28 g29 h => ?_
     refine o_o (one_call (p_f132 g29)) ?_
     refine o_r1 [(16, (vB (!r28)))] ?_
     refine o_end (k25 _ ?_)
     refine i_c [16] h (fun h => ?_) (fun h => ?_)
     · refine s_so fun N31 k31 w31 => ?_
       refine o_h2 [(17, (.agg [(vI 0), (vI 2)]))] [(some (.box 197 [(vI 0), (vI 2)]))] ?_
       refine o_end (k31 _ ?_)
       exact c_ret (rets [] [(.agg [(vI 0), (vI 2)])] [(.agg [(vI 0), (vI 2)])] h)
     · refine c_skip (k23 _ ?_)
       refine c_ops ?_
       refine o_r3 [(3, (vI (wr .i64 (x19 + 1)))), (10, (vI x19)), (11, (vI (wr .i64 (x19 + 1))))] ?_
       exact o_end (w6 _ _ (wkm [0, 2, 3] (whk wh_nil)) h)
   · refine c_exit (hE5 _ ?_)
     exact w3 _ (wkm [0, 2] (whk wh_nil)) h
theorem ic146 : fnIC Tryz.prog H0 146 = some ([.tmp 0], 2, (.seq (.ops [zO 0 (.nil 0 9 1)]) (.seq (.ops [zO 1 (.isl 1 [(.c (.string ⟨#[97, 110, 100]⟩)), (.c (.string ⟨#[97, 115]⟩)), (.c (.string ⟨#[97, 116, 116, 97, 99, 104, 101, 100]⟩)), (.c (.string ⟨#[99, 104, 101, 99, 107]⟩)), (.c (.string ⟨#[99, 108, 97, 115, 115]⟩)), (.c (.string ⟨#[99, 114, 101, 97, 116, 101]⟩)), (.c (.string ⟨#[100, 101, 102, 101, 114, 114, 101, 100]⟩)), (.c (.string ⟨#[100, 101, 116, 97, 99, 104, 97, 98, 108, 101]⟩)), (.c (.string ⟨#[100, 111]⟩)), (.c (.string ⟨#[101, 108, 115, 101]⟩)), (.c (.string ⟨#[101, 110, 100]⟩)), (.c (.string ⟨#[101, 110, 115, 117, 114, 101]⟩)), (.c (.string ⟨#[102, 101, 97, 116, 117, 114, 101]⟩)), (.c (.string ⟨#[102, 114, 111, 109]⟩)), (.c (.string ⟨#[105, 102]⟩)), (.c (.string ⟨#[105, 109, 112, 108, 105, 101, 115]⟩)), (.c (.string ⟨#[105, 110, 104, 101, 114, 105, 116]⟩)), (.c (.string ⟨#[105, 110, 118, 97, 114, 105, 97, 110, 116]⟩)), (.c (.string ⟨#[108, 111, 99, 97, 108]⟩)), (.c (.string ⟨#[108, 111, 111, 112]⟩)), (.c (.string ⟨#[110, 111, 116]⟩)), (.c (.string ⟨#[111, 108, 100]⟩)), (.c (.string ⟨#[111, 114]⟩)), (.c (.string ⟨#[112, 117, 116]⟩)), (.c (.string ⟨#[114, 97, 105, 115, 101]⟩)), (.c (.string ⟨#[114, 101, 100, 101, 102, 105, 110, 101]⟩)), (.c (.string ⟨#[114, 101, 110, 97, 109, 101]⟩)), (.c (.string ⟨#[114, 101, 113, 117, 105, 114, 101]⟩)), (.c (.string ⟨#[114, 101, 115, 99, 117, 101]⟩)), (.c (.string ⟨#[114, 101, 116, 114, 121]⟩)), (.c (.string ⟨#[115, 101, 108, 101, 99, 116]⟩)), (.c (.string ⟨#[115, 101, 112, 97, 114, 97, 116, 101]⟩)), (.c (.string ⟨#[116, 104, 101, 110]⟩)), (.c (.string ⟨#[117, 110, 100, 101, 102, 105, 110, 101]⟩)), (.c (.string ⟨#[117, 110, 116, 105, 108]⟩)), (.c (.string ⟨#[118, 97, 114, 105, 97, 110, 116]⟩)), (.c (.string ⟨#[119, 104, 101, 110]⟩))]), zM 0 1]) .ret))) := by kernel_rfl
def f147 (n : Nat) : Option (List ByteArray) := some [(ByteArray.mk #[97, 110, 100]), (ByteArray.mk #[97, 115]), (ByteArray.mk #[97, 116, 116, 97, 99, 104, 101, 100]), (ByteArray.mk #[99, 104, 101, 99, 107]), (ByteArray.mk #[99, 108, 97, 115, 115]), (ByteArray.mk #[99, 114, 101, 97, 116, 101]), (ByteArray.mk #[100, 101, 102, 101, 114, 114, 101, 100]), (ByteArray.mk #[100, 101, 116, 97, 99, 104, 97, 98, 108, 101]), (ByteArray.mk #[100, 111]), (ByteArray.mk #[101, 108, 115, 101]), (ByteArray.mk #[101, 110, 100]), (ByteArray.mk #[101, 110, 115, 117, 114, 101]), (ByteArray.mk #[102, 101, 97, 116, 117, 114, 101]), (ByteArray.mk #[102, 114, 111, 109]), (ByteArray.mk #[105, 102]), (ByteArray.mk #[105, 109, 112, 108, 105, 101, 115]), (ByteArray.mk #[105, 110, 104, 101, 114, 105, 116]), (ByteArray.mk #[105, 110, 118, 97, 114, 105, 97, 110, 116]), (ByteArray.mk #[108, 111, 99, 97, 108]), (ByteArray.mk #[108, 111, 111, 112]), (ByteArray.mk #[110, 111, 116]), (ByteArray.mk #[111, 108, 100]), (ByteArray.mk #[111, 114]), (ByteArray.mk #[112, 117, 116]), (ByteArray.mk #[114, 97, 105, 115, 101]), (ByteArray.mk #[114, 101, 100, 101, 102, 105, 110, 101]), (ByteArray.mk #[114, 101, 110, 97, 109, 101]), (ByteArray.mk #[114, 101, 113, 117, 105, 114, 101]), (ByteArray.mk #[114, 101, 115, 99, 117, 101]), (ByteArray.mk #[114, 101, 116, 114, 121]), (ByteArray.mk #[115, 101, 108, 101, 99, 116]), (ByteArray.mk #[115, 101, 112, 97, 114, 97, 116, 101]), (ByteArray.mk #[116, 104, 101, 110]), (ByteArray.mk #[117, 110, 100, 101, 102, 105, 110, 101]), (ByteArray.mk #[117, 110, 116, 105, 108]), (ByteArray.mk #[118, 97, 114, 105, 97, 110, 116]), (ByteArray.mk #[119, 104, 101, 110])]
def f147_r (r : (List ByteArray)) : AV := (vL cS r)
theorem p_f147 {n : Nat} {r : (List ByteArray)} (h : f147 n = some r) : PureSpec Tryz.prog 146 [] (f147_r r) := by
 rw [f147.eq_1] at h
 refine pure_of hmix ic146 ?_
 refine go_to (mkd (.val undef) 2 0 []) ?_
 refine s_so fun N1 k1 w1 => ?_
 refine o_h1 [(0, (.own 0 0))] [(some (.row 9 1 (List.map cS [])))] ?_
 refine o_end (k1 _ ?_)
 refine s_so fun N2 k2 w2 => ?_
 refine o_r2 [(0, (vL cS [(ByteArray.mk #[97, 110, 100]), (ByteArray.mk #[97, 115]), (ByteArray.mk #[97, 116, 116, 97, 99, 104, 101, 100]), (ByteArray.mk #[99, 104, 101, 99, 107]), (ByteArray.mk #[99, 108, 97, 115, 115]), (ByteArray.mk #[99, 114, 101, 97, 116, 101]), (ByteArray.mk #[100, 101, 102, 101, 114, 114, 101, 100]), (ByteArray.mk #[100, 101, 116, 97, 99, 104, 97, 98, 108, 101]), (ByteArray.mk #[100, 111]), (ByteArray.mk #[101, 108, 115, 101]), (ByteArray.mk #[101, 110, 100]), (ByteArray.mk #[101, 110, 115, 117, 114, 101]), (ByteArray.mk #[102, 101, 97, 116, 117, 114, 101]), (ByteArray.mk #[102, 114, 111, 109]), (ByteArray.mk #[105, 102]), (ByteArray.mk #[105, 109, 112, 108, 105, 101, 115]), (ByteArray.mk #[105, 110, 104, 101, 114, 105, 116]), (ByteArray.mk #[105, 110, 118, 97, 114, 105, 97, 110, 116]), (ByteArray.mk #[108, 111, 99, 97, 108]), (ByteArray.mk #[108, 111, 111, 112]), (ByteArray.mk #[110, 111, 116]), (ByteArray.mk #[111, 108, 100]), (ByteArray.mk #[111, 114]), (ByteArray.mk #[112, 117, 116]), (ByteArray.mk #[114, 97, 105, 115, 101]), (ByteArray.mk #[114, 101, 100, 101, 102, 105, 110, 101]), (ByteArray.mk #[114, 101, 110, 97, 109, 101]), (ByteArray.mk #[114, 101, 113, 117, 105, 114, 101]), (ByteArray.mk #[114, 101, 115, 99, 117, 101]), (ByteArray.mk #[114, 101, 116, 114, 121]), (ByteArray.mk #[115, 101, 108, 101, 99, 116]), (ByteArray.mk #[115, 101, 112, 97, 114, 97, 116, 101]), (ByteArray.mk #[116, 104, 101, 110]), (ByteArray.mk #[117, 110, 100, 101, 102, 105, 110, 101]), (ByteArray.mk #[117, 110, 116, 105, 108]), (ByteArray.mk #[118, 97, 114, 105, 97, 110, 116]), (ByteArray.mk #[119, 104, 101, 110])])), (1, (vL cS [(ByteArray.mk #[97, 110, 100]), (ByteArray.mk #[97, 115]), (ByteArray.mk #[97, 116, 116, 97, 99, 104, 101, 100]), (ByteArray.mk #[99, 104, 101, 99, 107]), (ByteArray.mk #[99, 108, 97, 115, 115]), (ByteArray.mk #[99, 114, 101, 97, 116, 101]), (ByteArray.mk #[100, 101, 102, 101, 114, 114, 101, 100]), (ByteArray.mk #[100, 101, 116, 97, 99, 104, 97, 98, 108, 101]), (ByteArray.mk #[100, 111]), (ByteArray.mk #[101, 108, 115, 101]), (ByteArray.mk #[101, 110, 100]), (ByteArray.mk #[101, 110, 115, 117, 114, 101]), (ByteArray.mk #[102, 101, 97, 116, 117, 114, 101]), (ByteArray.mk #[102, 114, 111, 109]), (ByteArray.mk #[105, 102]), (ByteArray.mk #[105, 109, 112, 108, 105, 101, 115]), (ByteArray.mk #[105, 110, 104, 101, 114, 105, 116]), (ByteArray.mk #[105, 110, 118, 97, 114, 105, 97, 110, 116]), (ByteArray.mk #[108, 111, 99, 97, 108]), (ByteArray.mk #[108, 111, 111, 112]), (ByteArray.mk #[110, 111, 116]), (ByteArray.mk #[111, 108, 100]), (ByteArray.mk #[111, 114]), (ByteArray.mk #[112, 117, 116]), (ByteArray.mk #[114, 97, 105, 115, 101]), (ByteArray.mk #[114, 101, 100, 101, 102, 105, 110, 101]), (ByteArray.mk #[114, 101, 110, 97, 109, 101]), (ByteArray.mk #[114, 101, 113, 117, 105, 114, 101]), (ByteArray.mk #[114, 101, 115, 99, 117, 101]), (ByteArray.mk #[114, 101, 116, 114, 121]), (ByteArray.mk #[115, 101, 108, 101, 99, 116]), (ByteArray.mk #[115, 101, 112, 97, 114, 97, 116, 101]), (ByteArray.mk #[116, 104, 101, 110]), (ByteArray.mk #[117, 110, 100, 101, 102, 105, 110, 101]), (ByteArray.mk #[117, 110, 116, 105, 108]), (ByteArray.mk #[118, 97, 114, 105, 97, 110, 116]), (ByteArray.mk #[119, 104, 101, 110])]))] ?_
 refine o_end (k2 _ ?_)
 exact c_ret (rets [] [(vL cS [(ByteArray.mk #[97, 110, 100]), (ByteArray.mk #[97, 115]), (ByteArray.mk #[97, 116, 116, 97, 99, 104, 101, 100]), (ByteArray.mk #[99, 104, 101, 99, 107]), (ByteArray.mk #[99, 108, 97, 115, 115]), (ByteArray.mk #[99, 114, 101, 97, 116, 101]), (ByteArray.mk #[100, 101, 102, 101, 114, 114, 101, 100]), (ByteArray.mk #[100, 101, 116, 97, 99, 104, 97, 98, 108, 101]), (ByteArray.mk #[100, 111]), (ByteArray.mk #[101, 108, 115, 101]), (ByteArray.mk #[101, 110, 100]), (ByteArray.mk #[101, 110, 115, 117, 114, 101]), (ByteArray.mk #[102, 101, 97, 116, 117, 114, 101]), (ByteArray.mk #[102, 114, 111, 109]), (ByteArray.mk #[105, 102]), (ByteArray.mk #[105, 109, 112, 108, 105, 101, 115]), (ByteArray.mk #[105, 110, 104, 101, 114, 105, 116]), (ByteArray.mk #[105, 110, 118, 97, 114, 105, 97, 110, 116]), (ByteArray.mk #[108, 111, 99, 97, 108]), (ByteArray.mk #[108, 111, 111, 112]), (ByteArray.mk #[110, 111, 116]), (ByteArray.mk #[111, 108, 100]), (ByteArray.mk #[111, 114]), (ByteArray.mk #[112, 117, 116]), (ByteArray.mk #[114, 97, 105, 115, 101]), (ByteArray.mk #[114, 101, 100, 101, 102, 105, 110, 101]), (ByteArray.mk #[114, 101, 110, 97, 109, 101]), (ByteArray.mk #[114, 101, 113, 117, 105, 114, 101]), (ByteArray.mk #[114, 101, 115, 99, 117, 101]), (ByteArray.mk #[114, 101, 116, 114, 121]), (ByteArray.mk #[115, 101, 108, 101, 99, 116]), (ByteArray.mk #[115, 101, 112, 97, 114, 97, 116, 101]), (ByteArray.mk #[116, 104, 101, 110]), (ByteArray.mk #[117, 110, 100, 101, 102, 105, 110, 101]), (ByteArray.mk #[117, 110, 116, 105, 108]), (ByteArray.mk #[118, 97, 114, 105, 97, 110, 116]), (ByteArray.mk #[119, 104, 101, 110])])] [(vL cS [(ByteArray.mk #[97, 110, 100]), (ByteArray.mk #[97, 115]), (ByteArray.mk #[97, 116, 116, 97, 99, 104, 101, 100]), (ByteArray.mk #[99, 104, 101, 99, 107]), (ByteArray.mk #[99, 108, 97, 115, 115]), (ByteArray.mk #[99, 114, 101, 97, 116, 101]), (ByteArray.mk #[100, 101, 102, 101, 114, 114, 101, 100]), (ByteArray.mk #[100, 101, 116, 97, 99, 104, 97, 98, 108, 101]), (ByteArray.mk #[100, 111]), (ByteArray.mk #[101, 108, 115, 101]), (ByteArray.mk #[101, 110, 100]), (ByteArray.mk #[101, 110, 115, 117, 114, 101]), (ByteArray.mk #[102, 101, 97, 116, 117, 114, 101]), (ByteArray.mk #[102, 114, 111, 109]), (ByteArray.mk #[105, 102]), (ByteArray.mk #[105, 109, 112, 108, 105, 101, 115]), (ByteArray.mk #[105, 110, 104, 101, 114, 105, 116]), (ByteArray.mk #[105, 110, 118, 97, 114, 105, 97, 110, 116]), (ByteArray.mk #[108, 111, 99, 97, 108]), (ByteArray.mk #[108, 111, 111, 112]), (ByteArray.mk #[110, 111, 116]), (ByteArray.mk #[111, 108, 100]), (ByteArray.mk #[111, 114]), (ByteArray.mk #[112, 117, 116]), (ByteArray.mk #[114, 97, 105, 115, 101]), (ByteArray.mk #[114, 101, 100, 101, 102, 105, 110, 101]), (ByteArray.mk #[114, 101, 110, 97, 109, 101]), (ByteArray.mk #[114, 101, 113, 117, 105, 114, 101]), (ByteArray.mk #[114, 101, 115, 99, 117, 101]), (ByteArray.mk #[114, 101, 116, 114, 121]), (ByteArray.mk #[115, 101, 108, 101, 99, 116]), (ByteArray.mk #[115, 101, 112, 97, 114, 97, 116, 101]), (ByteArray.mk #[116, 104, 101, 110]), (ByteArray.mk #[117, 110, 100, 101, 102, 105, 110, 101]), (ByteArray.mk #[117, 110, 116, 105, 108]), (ByteArray.mk #[118, 97, 114, 105, 97, 110, 116]), (ByteArray.mk #[119, 104, 101, 110])])] h)
theorem ic142 : fnIC Tryz.prog H0 142 = some ([.cell 2 182], 51, (.seq (.ops [zO 2 (.alloc 0 182 [] [(.int .i64 0), (.int .i64 0)])]) (.seq (.seq (.ops [zO 6 (.call 146 []), zM 7 0, zO 8 (.call 137 [(.t 6), (.t 7)]), zM 9 8, zG 10 9 false (.isl 1 [(.c (.string ⟨#[84, 114, 117, 101]⟩)), (.c (.string ⟨#[70, 97, 108, 115, 101]⟩)), (.c (.string ⟨#[86, 111, 105, 100]⟩)), (.c (.string ⟨#[67, 117, 114, 114, 101, 110, 116]⟩)), (.c (.string ⟨#[82, 101, 115, 117, 108, 116]⟩))]), zN 11 9 false 0, zG 12 9 false (.call 137 [(.t 10), (.t 11)]), zO 13 (.pick (.t 9) (.c (.bool true)) (.t 12))]) (.cond (.t 13)
  (.seq (.ops [zO 14 (.bld [(.int .i64 0), (.int .i64 0)] [(0, 1, (.c (.int .i64 3)))]), zU (.st true 2 [] (.t 2) (.t 14))]) .ret)
  .skip)) (.seq (.seq (.ops [zO 15 (.isl 1 [(.c (.string ⟨#[116, 114, 117, 101]⟩)), (.c (.string ⟨#[102, 97, 108, 115, 101]⟩)), (.c (.string ⟨#[118, 111, 105, 100]⟩)), (.c (.string ⟨#[99, 117, 114, 114, 101, 110, 116]⟩)), (.c (.string ⟨#[114, 101, 115, 117, 108, 116]⟩))]), zM 16 0, zO 17 (.call 137 [(.t 15), (.t 16)])]) (.cond (.t 17)
  (.seq (.ops [zO 18 (.bld [(.int .i64 0), (.int .i64 0)] [(1, 1, (.c (.int .i64 4)))]), zU (.st true 2 [] (.t 2) (.t 18))]) .ret)
  .skip)) (.seq (.ops [zO 3 (.mov (.c (.bool false)))]) (.seq (.ops [zO 4 (.mov (.c (.bool false)))]) (.seq (.seq (.ops [zO 5 (.mov (.c (.int .i64 0)))]) (.block 0 (.loop (.seq (.seq (.ops [zM 19 5, zM 20 0, zO 21 (.len true (.t 20)), zO 22 (.sc (.bin .lss 3) [(.t 19), (.t 21)])]) (.cond (.t 22)
  .skip
  (.exit 0))) (.seq (.block 1 (.seq (.ops [zM 25 3, zM 26 25, zN 27 26 false 0, zN 28 26 false 5, zG 29 26 false (.sc (.idx 9) [(.t 27), (.t 28)]), zG 30 26 false (.call 147 [(.t 29)]), zO 31 (.pick (.t 26) (.c (.bool true)) (.t 30)), zM 3 31]) (.ops [zM 32 4, zM 33 32, zN 34 33 false 0, zN 35 33 false 5, zG 36 33 false (.sc (.idx 9) [(.t 34), (.t 35)]), zG 37 33 false (.call 148 [(.t 36)]), zO 38 (.pick (.t 33) (.c (.bool true)) (.t 37)), zM 4 38]))) (.ops [zM 23 5, zO 24 (.sc (.bin .add 3) [(.t 23), (.c (.int .i64 1))]), zM 5 24])))))) (.seq (.seq (.ops [zM 39 3, zM 40 39, zN 41 40 true 4, zO 42 (.pick (.t 40) (.t 41) (.c (.bool false)))]) (.cond (.t 42)
  (.seq (.ops [zO 43 (.bld [(.int .i64 0), (.int .i64 0)] [(1, 1, (.c (.int .i64 2)))]), zU (.st true 2 [] (.t 2) (.t 43))]) .ret)
  .skip)) (.seq (.seq (.ops [zM 44 0, zO 45 (.len true (.t 44)), zO 46 (.sc (.bin .gtr 3) [(.t 45), (.c (.int .i64 20))])]) (.cond (.t 46)
  (.seq (.ops [zO 47 (.bld [(.int .i64 0), (.int .i64 0)] [(1, 1, (.c (.int .i64 3)))]), zU (.st true 2 [] (.t 2) (.t 47))]) .ret)
  .skip)) (.seq (.seq (.ops [zM 48 3]) (.cond (.t 48)
  (.seq (.ops [zO 49 (.bld [(.int .i64 0), (.int .i64 0)] [(0, 1, (.c (.int .i64 1)))]), zU (.st true 2 [] (.t 2) (.t 49))]) .ret)
  .skip)) (.seq (.ops [zO 50 (.bld [(.int .i64 0), (.int .i64 0)] [(0, 1, (.c (.int .i64 2)))]), zU (.st true 2 [] (.t 2) (.t 50))]) .ret))))))))))) := by kernel_rfl
def f134_k47 (x43 : Int) (c26k : Bool → Bool → Int → Option KE) (x61 : Bool) (x62 : Bool) : Option KE := (c26k x62 x61 (wr .i64 (x43 + 1)))
def f134_k49 (x42 : Bool) (a1 : ByteArray) (x43 : Int) (n : Nat) (c26k : Bool → Bool → Int → Option KE) (x55 : Bool) : Option KE := (bif x42 then (f134_k47 x43 (c26k) true x55) else ((si a1 x43).bind fun c57 => ((f149 n c57).bind fun r59 => (f134_k47 x43 (c26k) r59 x55))))
def f134_k66 (a1 : ByteArray) (x68 : Bool) (x69 : Bool) : Option KE := (bif x69 then some (KE.mk 0 2) else (bif (decide ((bsz a1) > 20)) then some (KE.mk 0 3) else (bif x68 then some (KE.mk 1 0) else some (KE.mk 2 0))))
def f134_k23 (a1 : ByteArray) (x63 : Bool) (x64 : Bool) : Option KE := (bif x63 then (f134_k66 a1 true x64) else (f134_k66 a1 false false))
def f134_l26 (a1 : ByteArray) (n : Nat) (k23k : Bool → Bool → Option KE) : Nat → Bool → Bool → Int → Option KE
  | 0, _, _, _ => none
  | m26 + 1, x41, x42, x43 => (bif (decide (x43 < (bsz a1))) then (bif x41 then (f134_k49 x42 a1 x43 n (f134_l26 a1 n (k23k) m26) true) else ((si a1 x43).bind fun c51 => ((f148 n c51).bind fun r53 => (f134_k49 x42 a1 x43 n (f134_l26 a1 n (k23k) m26) r53)))) else (k23k x41 x42))
def f134_k4 (n : Nat) (a1 : ByteArray) (x12 : Bool) : Option KE := (bif x12 then some (KE.mk 3 0) else ((f129 n [(ByteArray.mk #[116, 114, 117, 101]), (ByteArray.mk #[102, 97, 108, 115, 101]), (ByteArray.mk #[118, 111, 105, 100]), (ByteArray.mk #[99, 117, 114, 114, 101, 110, 116]), (ByteArray.mk #[114, 101, 115, 117, 108, 116])] a1).bind fun r17 => (bif r17 then some (KE.mk 0 4) else (f134_l26 a1 n (f134_k23 a1) n false false 0))))
def f134 (n : Nat) (a1 : ByteArray) : Option KE := ((f147 n).bind fun r5 => ((f129 n r5 a1).bind fun r7 => (bif r7 then (f134_k4 n a1 true) else ((f129 n [(ByteArray.mk #[84, 114, 117, 101]), (ByteArray.mk #[70, 97, 108, 115, 101]), (ByteArray.mk #[86, 111, 105, 100]), (ByteArray.mk #[67, 117, 114, 114, 101, 110, 116]), (ByteArray.mk #[82, 101, 115, 117, 108, 116])] a1).bind fun r10 => (f134_k4 n a1 r10)))))
def f134_r (r : KE) : AV := (.agg [(vI r.fK), (vI r.fE)])
theorem p_f134 {n : Nat} {a1 : ByteArray} {r : KE} (h : f134 n a1 = some r) : PureSpec Tryz.prog 142 [(vS a1)] (f134_r r) := by
 rw [f134.eq_1] at h
 refine pure_of hmix ic142 ?_
 refine go_to (mkd (.val undef) 51 0 [(0, (vS a1))]) ?_
 refine s_so fun N2 k2 w2 => ?_
 refine o_h1 [(2, (.ptr 0 0))] [(some (.box 182 [(vI 0), (vI 0)]))] ?_
 refine o_end (k2 _ ?_)
 refine s_seq fun N3 k3 w3 => ?_
 refine J1 (r := r) (fun (x12 : Bool) => ⟨(mkd .any 51 0 [(0, (vS a1)), (2, (.ptr 0 0)), (13, (vB x12))]), [(some (.box 182 [(vI 0), (vI 0)]))]⟩) (f134_k4 n a1) ?_ ?_
 · intro x12 h
   rw [f134_k4.eq_1] at h
   refine i_c [13] h (fun h => ?_) (fun h => ?_)
   · refine s_so fun N14 k14 w14 => ?_
     refine o_h2 [(14, (.agg [(vI 3), (vI 0)]))] [(some (.box 182 [(vI 3), (vI 0)]))] ?_
     refine o_end (k14 _ ?_)
     exact c_ret (rets [] [(.agg [(vI 3), (vI 0)])] [(.agg [(vI 3), (vI 0)])] h)
   · refine c_skip (k3 _ ?_)
     refine s_seq fun N15 k15 w15 => ?_
     refine s_so fun N16 k16 w16 => ?_
     refine o_r2 [(15, (vL cS [(ByteArray.mk #[116, 114, 117, 101]), (ByteArray.mk #[102, 97, 108, 115, 101]), (ByteArray.mk #[118, 111, 105, 100]), (ByteArray.mk #[99, 117, 114, 114, 101, 110, 116]), (ByteArray.mk #[114, 101, 115, 117, 108, 116])])), (16, (vS a1))] ?_
     refine bnd h fun r17 g18 h => ?_
     refine o_o (one_call (p_f129 g18)) ?_
     refine o_end (k16 _ ?_)
     refine i_c [17] h (fun h => ?_) (fun h => ?_)
     · refine s_so fun N20 k20 w20 => ?_
       refine o_h2 [(18, (.agg [(vI 0), (vI 4)]))] [(some (.box 182 [(vI 0), (vI 4)]))] ?_
       refine o_end (k20 _ ?_)
       exact c_ret (rets [] [(.agg [(vI 0), (vI 4)])] [(.agg [(vI 0), (vI 4)])] h)
     · refine c_skip (k15 _ ?_)
       refine s_so fun N21 k21 w21 => ?_
       refine o_r1 [(3, (vB false))] ?_
       refine o_end (k21 _ ?_)
       refine s_so fun N22 k22 w22 => ?_
       refine o_r1 [(4, (vB false))] ?_
       refine o_end (k22 _ ?_)
       refine J2 (r := r) (fun (x63 : Bool) (x64 : Bool) => ⟨(mkd .any 51 0 [(0, (vS a1)), (2, (.ptr 0 0)), (3, (vB x63)), (4, (vB x64))]), [(some (.box 182 [(vI 0), (vI 0)]))]⟩) (f134_k23 a1) ?_ ?_
       · intro x63 x64 h
         rw [f134_k23.eq_1] at h
         refine s_seq fun N65 k65 w65 => ?_
         refine J2 (r := r) (fun (x68 : Bool) (x69 : Bool) => ⟨(mkd .any 51 0 [(0, (vS a1)), (2, (.ptr 0 0)), (3, (vB x68)), (42, (vB x69))]), [(some (.box 182 [(vI 0), (vI 0)]))]⟩) (f134_k66 a1) ?_ ?_
         · intro x68 x69 h
           rw [f134_k66.eq_1] at h
           refine i_c [42] h (fun h => ?_) (fun h => ?_)
           · refine s_so fun N71 k71 w71 => ?_
             refine o_h2 [(43, (.agg [(vI 0), (vI 2)]))] [(some (.box 182 [(vI 0), (vI 2)]))] ?_
             refine o_end (k71 _ ?_)
             exact c_ret (rets [] [(.agg [(vI 0), (vI 2)])] [(.agg [(vI 0), (vI 2)])] h)
           · refine c_skip (k65 _ ?_)
             refine s_seq fun N72 k72 w72 => ?_
             refine s_so fun N73 k73 w73 => ?_
             refine o_r3 [(44, (vS a1)), (45, (vI (bsz a1))), (46, (vB (decide ((bsz a1) > 20))))] ?_
             refine o_end (k73 _ ?_)
             refine i_c [46] h (fun h => ?_) (fun h => ?_)
             · refine s_so fun N75 k75 w75 => ?_
               refine o_h2 [(47, (.agg [(vI 0), (vI 3)]))] [(some (.box 182 [(vI 0), (vI 3)]))] ?_
               refine o_end (k75 _ ?_)
               exact c_ret (rets [] [(.agg [(vI 0), (vI 3)])] [(.agg [(vI 0), (vI 3)])] h)
             · refine c_skip (k72 _ ?_)
               refine s_seq fun N76 k76 w76 => ?_
               refine s_so fun N77 k77 w77 => ?_
               refine o_r1 [(48, (vB x68))] ?_
               refine o_end (k77 _ ?_)
               refine i_c [3, 48] h (fun h => ?_) (fun h => ?_)
               · refine s_so fun N79 k79 w79 => ?_
                 refine o_h2 [(49, (.agg [(vI 1), (vI 0)]))] [(some (.box 182 [(vI 1), (vI 0)]))] ?_
                 refine o_end (k79 _ ?_)
                 exact c_ret (rets [] [(.agg [(vI 1), (vI 0)])] [(.agg [(vI 1), (vI 0)])] h)
               · refine c_skip (k76 _ ?_)
                 refine s_so fun N80 k80 w80 => ?_
                 refine o_h2 [(50, (.agg [(vI 2), (vI 0)]))] [(some (.box 182 [(vI 2), (vI 0)]))] ?_
                 refine o_end (k80 _ ?_)
                 exact c_ret (rets [] [(.agg [(vI 2), (vI 0)])] [(.agg [(vI 2), (vI 0)])] h)
         · intro N66 w66
           refine c_ops ?_
           refine o_r2 [(39, (vB x63)), (40, (vB x63))] ?_
           refine i_o [3, 39, 40] h (fun h => ?_) (fun h => ?_)
           · refine o_r2 [(41, (vB x64)), (42, (vB x64))] ?_
             exact o_end (w66 _ _ _ (wkm [0, 2, 3, 42] (whk wh_nil)) h)
           · refine o_r2 [(41, (.val undef)), (42, (vB false))] ?_
             exact o_end (w66 _ _ _ (wkm [0, 2, 3, 42] (whk wh_nil)) h)
       · intro N23 w23
         refine s_so fun N24 k24 w24 => ?_
         refine o_r1 [(5, (vI 0))] ?_
         refine o_end (k24 _ ?_)
         refine c_block fun E25 hE25 hO25 => ?_
         refine W3 (fun (x41 : Bool) (x42 : Bool) (x43 : Int) => ⟨(mkd .any 51 0 [(0, (vS a1)), (2, (.ptr 0 0)), (3, (vB x41)), (4, (vB x42)), (5, (vI x43))]), [(some (.box 182 [(vI 0), (vI 0)]))]⟩) (f134_l26 a1 n (f134_k23 a1)) h (wkm [0, 2, 3, 4, 5] (whk wh_nil)) (by intros; rw [f134_l26.eq_1]) ?_
         intro m26 x41 x42 x43 h N26 w26
         rw [f134_l26.eq_2] at h
         refine s_seq fun N44 k44 w44 => ?_
         refine s_so fun N45 k45 w45 => ?_
         refine o_r4 [(19, (vI x43)), (20, (vS a1)), (21, (vI (bsz a1))), (22, (vB (decide (x43 < (bsz a1)))))] ?_
         refine o_end (k45 _ ?_)
         refine i_c [22] h (fun h => ?_) (fun h => ?_)
         · refine c_skip (k44 _ ?_)
           refine J2 (r := r) (fun (x61 : Bool) (x62 : Bool) => ⟨(mkd .any 51 0 [(0, (vS a1)), (2, (.ptr 0 0)), (3, (vB x62)), (4, (vB x61)), (5, (vI x43))]), [(some (.box 182 [(vI 0), (vI 0)]))]⟩) (f134_k47 x43 (f134_l26 a1 n (f134_k23 a1) m26)) ?_ ?_
           · intro x61 x62 h
             rw [f134_k47.eq_1] at h
             refine c_ops ?_
             refine o_r3 [(5, (vI (wr .i64 (x43 + 1)))), (23, (vI x43)), (24, (vI (wr .i64 (x43 + 1))))] ?_
             exact o_end (w26 _ _ _ _ (wkm [0, 2, 3, 4, 5] (whk wh_nil)) h)
           · intro N47 w47
             refine c_block fun E48 hE48 hO48 => ?_
             refine J1 (r := r) (fun (x55 : Bool) => ⟨(mkd .any 51 0 [(0, (vS a1)), (2, (.ptr 0 0)), (3, (vB x55)), (4, (vB x42)), (5, (vI x43))]), [(some (.box 182 [(vI 0), (vI 0)]))]⟩) (f134_k49 x42 a1 x43 n (f134_l26 a1 n (f134_k23 a1) m26)) ?_ ?_
             · intro x55 h
               rw [f134_k49.eq_1] at h
               refine c_ops ?_
               refine o_r2 [(32, (vB x42)), (33, (vB x42))] ?_
               refine i_o [4, 32, 33] h (fun h => ?_) (fun h => ?_)
               · refine o_r6 [(34, (.val undef)), (35, (.val undef)), (36, (.val undef)), (37, (.val undef)), (38, (vB true))] ?_
                 exact o_end (w47 _ _ _ (wkm [0, 2, 3, 4, 5] (whk wh_nil)) h)
               · refine o_r2 [(34, (vS a1)), (35, (vI x43))] ?_
                 refine bnd h fun c57 g58 h => ?_
                 refine o_g ?_
                 refine o_o (one_idx (ki := .i64) g58) ?_
                 refine bnd h fun r59 g60 h => ?_
                 refine o_g ?_
                 refine o_o (one_call (p_f149 g60)) ?_
                 refine o_r2 [(4, (vB r59)), (38, (vB r59))] ?_
                 exact o_end (w47 _ _ _ (wkm [0, 2, 3, 4, 5] (whk wh_nil)) h)
             · intro N49 w49
               refine c_ops ?_
               refine o_r2 [(25, (vB x41)), (26, (vB x41))] ?_
               refine i_o [3, 25, 26] h (fun h => ?_) (fun h => ?_)
               · refine o_r6 [(27, (.val undef)), (28, (.val undef)), (29, (.val undef)), (30, (.val undef)), (31, (vB true))] ?_
                 exact o_end (w49 _ _ (wkm [0, 2, 3, 4, 5] (whk wh_nil)) h)
               · refine o_r2 [(27, (vS a1)), (28, (vI x43))] ?_
                 refine bnd h fun c51 g52 h => ?_
                 refine o_g ?_
                 refine o_o (one_idx (ki := .i64) g52) ?_
                 refine bnd h fun r53 g54 h => ?_
                 refine o_g ?_
                 refine o_o (one_call (p_f148 g54)) ?_
                 refine o_r2 [(3, (vB r53)), (31, (vB r53))] ?_
                 exact o_end (w49 _ _ (wkm [0, 2, 3, 4, 5] (whk wh_nil)) h)
         · refine c_exit (hE25 _ ?_)
           exact w23 _ _ _ (wkm [0, 2, 3, 4] (whk wh_nil)) h
 · intro N4 w4
   refine c_ops ?_
   refine bnd h fun r5 g6 h => ?_
   refine o_o (one_call (p_f147 g6)) ?_
   refine o_r1 [(7, (vS a1))] ?_
   refine bnd h fun r7 g8 h => ?_
   refine o_o (one_call (p_f129 g8)) ?_
   refine o_r1 [(9, (vB r7))] ?_
   refine i_o [8, 9] h (fun h => ?_) (fun h => ?_)
   · refine o_r4 [(10, (.val undef)), (11, (.val undef)), (12, (.val undef)), (13, (vB true))] ?_
     exact o_end (w4 _ _ (wkm [0, 2, 13] (whk wh_nil)) h)
   · refine o_r2 [(10, (vL cS [(ByteArray.mk #[84, 114, 117, 101]), (ByteArray.mk #[70, 97, 108, 115, 101]), (ByteArray.mk #[86, 111, 105, 100]), (ByteArray.mk #[67, 117, 114, 114, 101, 110, 116]), (ByteArray.mk #[82, 101, 115, 117, 108, 116])])), (11, (vS a1))] ?_
     refine bnd h fun r10 g11 h => ?_
     refine o_g ?_
     refine o_o (one_call (p_f129 g11)) ?_
     refine o_r1 [(13, (vB r10))] ?_
     exact o_end (w4 _ _ (wkm [0, 2, 13] (whk wh_nil)) h)
theorem ic124 : fnIC Tryz.prog H0 124 = some ([.cell 2 182], 38, (.seq (.ops [zO 2 (.alloc 0 182 [] [(.int .i64 0), (.int .i64 0)])]) (.seq (.seq (.ops [zO 4 (.call 138 []), zM 5 0, zO 6 (.call 137 [(.t 4), (.t 5)])]) (.cond (.t 6)
  (.seq (.ops [zO 7 (.bld [(.int .i64 0), (.int .i64 0)] [(0, 1, (.c (.int .i64 5)))]), zU (.st true 2 [] (.t 2) (.t 7))]) .ret)
  .skip)) (.seq (.seq (.ops [zM 8 0, zO 9 (.len true (.t 8)), zO 10 (.sc (.bin .eql 3) [(.t 9), (.c (.int .i64 0))]), zM 11 10, zN 12 11 false 0, zG 13 11 false (.call 139 [(.t 12), (.c (.int .i64 0))]), zN 14 11 false 0, zG 15 11 false (.len true (.t 14)), zG 16 11 false (.sc (.bin .lss 3) [(.t 13), (.t 15)]), zO 17 (.pick (.t 11) (.c (.bool true)) (.t 16)), zM 18 17, zN 19 18 false 0, zG 20 18 false (.sc (.idx 9) [(.t 19), (.c (.int .i64 0))]), zG 21 18 false (.sc (.bin .eql 5) [(.t 20), (.c (.int .u8 95))]), zO 22 (.pick (.t 18) (.c (.bool true)) (.t 21))]) (.cond (.t 22)
  (.seq (.ops [zO 23 (.bld [(.int .i64 0), (.int .i64 0)] [(1, 1, (.c (.int .i64 2)))]), zU (.st true 2 [] (.t 2) (.t 23))]) .ret)
  .skip)) (.seq (.seq (.ops [zM 24 0, zO 25 (.sc (.idx 9) [(.t 24), (.c (.int .i64 0))]), zO 26 (.call 140 [(.t 25)])]) (.cond (.t 26)
  (.seq (.ops [zM 27 0, zO 28 (.call 141 [(.t 27)]), zO 3 (.alloc 0 197 [] [(.int .i64 0), (.int .i64 0)]), zU (.st true 2 [] (.t 3) (.t 28))]) (.seq (.seq (.ops [zO 29 (.faddr (.t 3) 1), zO 30 (.ld (.t 29) 1 false), zO 31 (.sc (.bin .neq 34) [(.t 30), (.c (.int .i64 0))])]) (.cond (.t 31)
  (.seq (.ops [zO 32 (.faddr (.t 3) 1), zO 33 (.ld (.t 32) 1 false), zO 34 (.bld [(.int .i64 0), (.int .i64 0)] [(1, 1, (.t 33))]), zU (.st true 2 [] (.t 2) (.t 34))]) .ret)
  .skip)) (.seq (.ops [zO 35 (.bld [(.int .i64 0), (.int .i64 0)] [(0, 1, (.c (.int .i64 4)))]), zU (.st true 2 [] (.t 2) (.t 35))]) .ret)))
  .skip)) (.seq (.ops [zM 36 0, zO 37 (.call 142 [(.t 36)]), zU (.st true 2 [] (.t 2) (.t 37))]) .ret)))))) := by kernel_rfl
def f96_k12 (a1 : ByteArray) (n : Nat) (x19 : Bool) : Option KE := (bif x19 then some (KE.mk 0 2) else ((si a1 0).bind fun c24 => ((f132 n c24).bind fun r26 => (bif r26 then ((f133 n a1).bind fun r30 => (bif (r30.fE != 0) then some (KE.mk 0 r30.fE) else some (KE.mk 4 0))) else ((f134 n a1).bind fun r38 => some (KE.mk r38.fK r38.fE))))))
def f96 (n : Nat) (a1 : ByteArray) : Option KE := ((f130 n).bind fun r5 => ((f129 n r5 a1).bind fun r7 => (bif r7 then some (KE.mk 5 0) else (bif ((bsz a1) == 0) then (f96_k12 a1 n true) else ((f131 n a1 0).bind fun r14 => (bif (decide (r14 < (bsz a1))) then (f96_k12 a1 n true) else ((si a1 0).bind fun c17 => (f96_k12 a1 n (c17 == 95)))))))))
def f96_r (r : KE) : AV := (.agg [(vI r.fK), (vI r.fE)])
theorem p_f96 {n : Nat} {a1 : ByteArray} {r : KE} (h : f96 n a1 = some r) : PureSpec Tryz.prog 124 [(vS a1)] (f96_r r) := by
 rw [f96.eq_1] at h
 refine pure_of hmix ic124 ?_
 refine go_to (mkd (.val undef) 38 0 [(0, (vS a1))]) ?_
 refine s_so fun N2 k2 w2 => ?_
 refine o_h1 [(2, (.ptr 0 0))] [(some (.box 182 [(vI 0), (vI 0)]))] ?_
 refine o_end (k2 _ ?_)
 refine s_seq fun N3 k3 w3 => ?_
 refine s_so fun N4 k4 w4 => ?_
 refine bnd h fun r5 g6 h => ?_
 refine o_o (one_call (p_f130 g6)) ?_
 refine o_r1 [(5, (vS a1))] ?_
 refine bnd h fun r7 g8 h => ?_
 refine o_o (one_call (p_f129 g8)) ?_
 refine o_end (k4 _ ?_)
 refine i_c [6] h (fun h => ?_) (fun h => ?_)
 · refine s_so fun N10 k10 w10 => ?_
   refine o_h2 [(7, (.agg [(vI 5), (vI 0)]))] [(some (.box 182 [(vI 5), (vI 0)]))] ?_
   refine o_end (k10 _ ?_)
   exact c_ret (rets [] [(.agg [(vI 5), (vI 0)])] [(.agg [(vI 5), (vI 0)])] h)
 · refine c_skip (k3 _ ?_)
   refine s_seq fun N11 k11 w11 => ?_
   refine J1 (r := r) (fun (x19 : Bool) => ⟨(mkd .any 38 0 [(0, (vS a1)), (2, (.ptr 0 0)), (22, (vB x19))]), [(some (.box 182 [(vI 0), (vI 0)]))]⟩) (f96_k12 a1 n) ?_ ?_
   · intro x19 h
     rw [f96_k12.eq_1] at h
     refine i_c [22] h (fun h => ?_) (fun h => ?_)
     · refine s_so fun N21 k21 w21 => ?_
       refine o_h2 [(23, (.agg [(vI 0), (vI 2)]))] [(some (.box 182 [(vI 0), (vI 2)]))] ?_
       refine o_end (k21 _ ?_)
       exact c_ret (rets [] [(.agg [(vI 0), (vI 2)])] [(.agg [(vI 0), (vI 2)])] h)
     · refine c_skip (k11 _ ?_)
       refine s_seq fun N22 k22 w22 => ?_
       refine s_so fun N23 k23 w23 => ?_
       refine o_r1 [(24, (vS a1))] ?_
       refine bnd h fun c24 g25 h => ?_
       refine o_o (one_idx (ki := .i64) g25) ?_
       refine bnd h fun r26 g27 h => ?_
       refine o_o (one_call (p_f132 g27)) ?_
       refine o_end (k23 _ ?_)
       refine i_c [26] h (fun h => ?_) (fun h => ?_)
       · refine s_so fun N29 k29 w29 => ?_
         refine o_r1 [(27, (vS a1))] ?_
         refine bnd h fun r30 g31 h => ?_
         refine o_o (one_call (p_f133 g31)) ?_
         refine o_h2 [(3, (.ptr 1 0))] [(some (.box 182 [(vI 0), (vI 0)])), (some (.box 197 [(vI r30.fN), (vI r30.fE)]))] ?_
         refine o_end (k29 _ ?_)
         refine s_seq fun N32 k32 w32 => ?_
         refine s_so fun N33 k33 w33 => ?_
         refine o_r3 [(29, (.ptr 1 1)), (30, (vI r30.fE)), (31, (vB (r30.fE != 0)))] ?_
         refine o_end (k33 _ ?_)
         refine i_c [31] h (fun h => ?_) (fun h => ?_)
         · refine s_so fun N35 k35 w35 => ?_
           refine o_h4 [(32, (.ptr 1 1)), (33, (vI r30.fE)), (34, (.agg [(vI 0), (vI r30.fE)]))] [(some (.box 182 [(vI 0), (vI r30.fE)])), (some (.box 197 [(vI r30.fN), (vI r30.fE)]))] ?_
           refine o_end (k35 _ ?_)
           exact c_ret (rets [] [(.agg [(vI 0), (vI r30.fE)])] [(.agg [(vI 0), (vI r30.fE)])] h)
         · refine c_skip (k32 _ ?_)
           refine s_so fun N36 k36 w36 => ?_
           refine o_h2 [(35, (.agg [(vI 4), (vI 0)]))] [(some (.box 182 [(vI 4), (vI 0)])), (some (.box 197 [(vI r30.fN), (vI r30.fE)]))] ?_
           refine o_end (k36 _ ?_)
           exact c_ret (rets [] [(.agg [(vI 4), (vI 0)])] [(.agg [(vI 4), (vI 0)])] h)
       · refine c_skip (k22 _ ?_)
         refine s_so fun N37 k37 w37 => ?_
         refine o_r1 [(36, (vS a1))] ?_
         refine bnd h fun r38 g39 h => ?_
         refine o_o (one_call (p_f134 g39)) ?_
         refine o_h1 [] [(some (.box 182 [(vI r38.fK), (vI r38.fE)]))] ?_
         refine o_end (k37 _ ?_)
         exact c_ret (rets [] [(.agg [(vI r38.fK), (vI r38.fE)])] [(.agg [(vI r38.fK), (vI r38.fE)])] h)
   · intro N12 w12
     refine c_ops ?_
     refine o_r4 [(8, (vS a1)), (9, (vI (bsz a1))), (10, (vB ((bsz a1) == 0))), (11, (vB ((bsz a1) == 0)))] ?_
     refine i_o [10, 11] h (fun h => ?_) (fun h => ?_)
     · refine o_r11 [(12, (.val undef)), (13, (.val undef)), (14, (.val undef)), (15, (.val undef)), (16, (.val undef)), (17, (vB true)), (18, (vB true)), (19, (.val undef)), (20, (.val undef)), (21, (.val undef)), (22, (vB true))] ?_
       exact o_end (w12 _ _ (wkm [0, 2, 22] (whk wh_nil)) h)
     · refine o_r1 [(12, (vS a1))] ?_
       refine bnd h fun r14 g15 h => ?_
       refine o_g ?_
       refine o_o (one_call (p_f131 g15)) ?_
       refine o_r5 [(14, (vS a1)), (15, (vI (bsz a1))), (16, (vB (decide (r14 < (bsz a1))))), (17, (vB (decide (r14 < (bsz a1))))), (18, (vB (decide (r14 < (bsz a1)))))] ?_
       refine i_o [16, 17, 18] h (fun h => ?_) (fun h => ?_)
       · refine o_r4 [(19, (.val undef)), (20, (.val undef)), (21, (.val undef)), (22, (vB true))] ?_
         refine s_tm (mkd (.val undef) 38 0 [(0, (vS a1)), (2, (.ptr 0 0)), (4, (vL cS r5)), (5, (vS a1)), (6, (vB false)), (8, (vS a1)), (9, (vI (bsz a1))), (10, (vB false)), (11, (vB false)), (12, (vS a1)), (13, (vI r14)), (14, (vS a1)), (15, (vI (bsz a1))), (16, (vB true)), (17, (vB true)), (18, (vB true)), (19, (.val undef)), (20, (.val undef)), (21, (.val undef)), (22, (vB true))]) ?_
         exact o_end (w12 _ _ (wkm [0, 2, 22] (whk wh_nil)) h)
       · refine o_r1 [(19, (vS a1))] ?_
         refine s_tm (mkd (.val undef) 38 0 [(0, (vS a1)), (2, (.ptr 0 0)), (4, (vL cS r5)), (5, (vS a1)), (6, (vB false)), (8, (vS a1)), (9, (vI (bsz a1))), (10, (vB false)), (11, (vB false)), (12, (vS a1)), (13, (vI r14)), (14, (vS a1)), (15, (vI (bsz a1))), (16, (vB false)), (17, (vB false)), (18, (vB false)), (19, (vS a1))]) ?_
         refine bnd h fun c17 g18 h => ?_
         refine o_g ?_
         refine o_o (one_idx (ki := .i64) g18) ?_
         refine o_r2 [(21, (vB (c17 == 95))), (22, (vB (c17 == 95)))] ?_
         exact o_end (w12 _ _ (wkm [0, 2, 22] (whk wh_nil)) h)
theorem ic92 : fnIC Tryz.prog H0 92 = some ([.tmp 2], 30, (.seq (.ops [zO 2 (.mov (.c (.bool false)))]) (.seq (.ops [zM 4 0, zO 5 (.call 124 [(.t 4)]), zO 3 (.alloc 0 182 [] [(.int .i64 0), (.int .i64 0)]), zU (.st true 2 [] (.t 3) (.t 5))]) (.seq (.ops [zO 6 (.faddr (.t 3) 1), zO 7 (.ld (.t 6) 1 false), zO 8 (.sc (.bin .eql 34) [(.t 7), (.c (.int .i64 0))]), zM 9 8, zG 10 9 true (.faddr (.t 3) 0), zG 11 9 true (.ld (.t 10) 1 false), zG 12 9 true (.sc (.bin .eql 3) [(.t 11), (.c (.int .i64 2))]), zO 13 (.pick (.t 9) (.t 12) (.c (.bool false))), zM 14 13, zN 15 14 true 0, zG 16 14 true (.sc (.bin .neq 9) [(.t 15), (.c (.string ⟨#[73, 78, 84, 69, 71, 69, 82]⟩))]), zO 17 (.pick (.t 14) (.t 16) (.c (.bool false))), zM 18 17, zN 19 18 true 0, zG 20 18 true (.sc (.bin .neq 9) [(.t 19), (.c (.string ⟨#[66, 79, 79, 76, 69, 65, 78]⟩))]), zO 21 (.pick (.t 18) (.t 20) (.c (.bool false))), zM 22 21, zN 23 22 true 0, zG 24 22 true (.sc (.bin .neq 9) [(.t 23), (.c (.string ⟨#[65, 78, 89]⟩))]), zO 25 (.pick (.t 22) (.t 24) (.c (.bool false))), zM 26 25, zN 27 26 true 0, zG 28 26 true (.sc (.bin .neq 9) [(.t 27), (.c (.string ⟨#[78, 79, 78, 69]⟩))]), zO 29 (.pick (.t 26) (.t 28) (.c (.bool false))), zM 2 29]) .ret)))) := by kernel_rfl
def f54_k6 (x16 : Bool) : Option Bool := some x16
def f54 (n : Nat) (a1 : ByteArray) : Option Bool := ((f96 n a1).bind fun r4 => (bif (r4.fE == 0) then (bif (r4.fK == 2) then (bif (!(sEqF a1 (ByteArray.mk #[73, 78, 84, 69, 71, 69, 82]))) then (bif (!(sEqF a1 (ByteArray.mk #[66, 79, 79, 76, 69, 65, 78]))) then (bif (!(sEqF a1 (ByteArray.mk #[65, 78, 89]))) then (f54_k6 (!(sEqF a1 (ByteArray.mk #[78, 79, 78, 69])))) else (f54_k6 false)) else (f54_k6 false)) else (f54_k6 false)) else (f54_k6 false)) else (f54_k6 false)))
def f54_r (r : Bool) : AV := (vB r)
theorem p_f54 {n : Nat} {a1 : ByteArray} {r : Bool} (h : f54 n a1 = some r) : PureSpec Tryz.prog 92 [(vS a1)] (f54_r r) := by
 rw [f54.eq_1] at h
 refine pure_of hmix ic92 ?_
 refine go_to (mkd (.val undef) 30 0 [(0, (vS a1))]) ?_
 refine s_so fun N2 k2 w2 => ?_
 refine o_r1 [(2, (vB false))] ?_
 refine o_end (k2 _ ?_)
 refine s_so fun N3 k3 w3 => ?_
 refine o_r1 [(4, (vS a1))] ?_
 refine bnd h fun r4 g5 h => ?_
 refine o_o (one_call (p_f96 g5)) ?_
 refine o_h2 [(3, (.ptr 0 0))] [(some (.box 182 [(vI r4.fK), (vI r4.fE)]))] ?_
 refine o_end (k3 _ ?_)
 refine J1 (r := r) (fun (x16 : Bool) => ⟨(mkd .any 30 0 [(2, (vB x16))]), []⟩) (f54_k6) ?_ ?_
 · intro x16 h
   rw [f54_k6.eq_1] at h
   exact c_ret (rets [] [(vB x16)] [(vB x16)] h)
 · intro N6 w6
   refine c_ops ?_
   refine o_r4 [(6, (.ptr 0 1)), (7, (vI r4.fE)), (8, (vB (r4.fE == 0))), (9, (vB (r4.fE == 0)))] ?_
   refine i_o [8, 9] h (fun h => ?_) (fun h => ?_)
   · refine o_r5 [(10, (.ptr 0 0)), (11, (vI r4.fK)), (12, (vB (r4.fK == 2))), (13, (vB (r4.fK == 2))), (14, (vB (r4.fK == 2)))] ?_
     refine i_o [12, 13, 14] h (fun h => ?_) (fun h => ?_)
     · refine o_r1 [(15, (vS a1))] ?_
       refine o_g ?_
       refine o_o (one_sc (vs := [.string a1, .string (ByteArray.mk #[73, 78, 84, 69, 71, 69, 82])]) (str_neq a1 (ByteArray.mk #[73, 78, 84, 69, 71, 69, 82]))) ?_
       refine o_r2 [(17, (vB (!(sEqF a1 (ByteArray.mk #[73, 78, 84, 69, 71, 69, 82]))))), (18, (vB (!(sEqF a1 (ByteArray.mk #[73, 78, 84, 69, 71, 69, 82])))))] ?_
       refine i_o [16, 17, 18] h (fun h => ?_) (fun h => ?_)
       · refine o_r1 [(19, (vS a1))] ?_
         refine s_tm (mkd (.val undef) 30 0 [(0, (vS a1)), (2, (vB false)), (3, (.ptr 0 0)), (4, (vS a1)), (5, (.agg [(vI r4.fK), (vI r4.fE)])), (6, (.ptr 0 1)), (7, (vI r4.fE)), (8, (vB true)), (9, (vB true)), (10, (.ptr 0 0)), (11, (vI r4.fK)), (12, (vB true)), (13, (vB true)), (14, (vB true)), (15, (vS a1)), (16, (vB true)), (17, (vB true)), (18, (vB true)), (19, (vS a1))]) ?_
         refine o_g ?_
         refine o_o (one_sc (vs := [.string a1, .string (ByteArray.mk #[66, 79, 79, 76, 69, 65, 78])]) (str_neq a1 (ByteArray.mk #[66, 79, 79, 76, 69, 65, 78]))) ?_
         refine o_r2 [(21, (vB (!(sEqF a1 (ByteArray.mk #[66, 79, 79, 76, 69, 65, 78]))))), (22, (vB (!(sEqF a1 (ByteArray.mk #[66, 79, 79, 76, 69, 65, 78])))))] ?_
         refine i_o [20, 21, 22] h (fun h => ?_) (fun h => ?_)
         · refine o_r1 [(23, (vS a1))] ?_
           refine o_g ?_
           refine o_o (one_sc (vs := [.string a1, .string (ByteArray.mk #[65, 78, 89])]) (str_neq a1 (ByteArray.mk #[65, 78, 89]))) ?_
           refine o_r2 [(25, (vB (!(sEqF a1 (ByteArray.mk #[65, 78, 89]))))), (26, (vB (!(sEqF a1 (ByteArray.mk #[65, 78, 89])))))] ?_
           refine i_o [24, 25, 26] h (fun h => ?_) (fun h => ?_)
           · refine o_r1 [(27, (vS a1))] ?_
             refine o_g ?_
             refine o_o (one_sc (vs := [.string a1, .string (ByteArray.mk #[78, 79, 78, 69])]) (str_neq a1 (ByteArray.mk #[78, 79, 78, 69]))) ?_
             refine o_r2 [(2, (vB (!(sEqF a1 (ByteArray.mk #[78, 79, 78, 69]))))), (29, (vB (!(sEqF a1 (ByteArray.mk #[78, 79, 78, 69])))))] ?_
             exact o_end (w6 _ _ (wkm [2] wh_nil) h)
           · refine o_r4 [(27, (.val undef)), (28, (.val undef)), (29, (vB false))] ?_
             exact o_end (w6 _ _ (wkm [2] wh_nil) h)
         · refine o_r8 [(23, (.val undef)), (24, (.val undef)), (25, (vB false)), (26, (vB false)), (27, (.val undef)), (28, (.val undef)), (29, (vB false))] ?_
           exact o_end (w6 _ _ (wkm [2] wh_nil) h)
       · refine o_r12 [(19, (.val undef)), (20, (.val undef)), (21, (vB false)), (22, (vB false)), (23, (.val undef)), (24, (.val undef)), (25, (vB false)), (26, (vB false)), (27, (.val undef)), (28, (.val undef)), (29, (vB false))] ?_
         refine s_tm (mkd (.val undef) 30 0 [(0, (vS a1)), (2, (vB false)), (3, (.ptr 0 0)), (4, (vS a1)), (5, (.agg [(vI r4.fK), (vI r4.fE)])), (6, (.ptr 0 1)), (7, (vI r4.fE)), (8, (vB true)), (9, (vB true)), (10, (.ptr 0 0)), (11, (vI r4.fK)), (12, (vB true)), (13, (vB true)), (14, (vB true)), (15, (vS a1)), (16, (vB false)), (17, (vB false)), (18, (vB false)), (19, (.val undef)), (20, (.val undef)), (21, (vB false)), (22, (vB false)), (23, (.val undef)), (24, (.val undef)), (25, (vB false)), (26, (vB false)), (27, (.val undef)), (28, (.val undef)), (29, (vB false))]) ?_
         exact o_end (w6 _ _ (wkm [2] wh_nil) h)
     · refine o_r16 [(15, (.val undef)), (16, (.val undef)), (17, (vB false)), (18, (vB false)), (19, (.val undef)), (20, (.val undef)), (21, (vB false)), (22, (vB false)), (23, (.val undef)), (24, (.val undef)), (25, (vB false)), (26, (vB false)), (27, (.val undef)), (28, (.val undef)), (29, (vB false))] ?_
       exact o_end (w6 _ _ (wkm [2] wh_nil) h)
   · refine o_r16 [(10, (.val undef)), (11, (.val undef)), (12, (.val undef)), (13, (vB false)), (14, (vB false)), (15, (.val undef)), (16, (.val undef)), (17, (vB false)), (18, (vB false)), (19, (.val undef)), (20, (.val undef)), (21, (vB false)), (22, (vB false)), (23, (.val undef)), (24, (.val undef)), (25, (vB false))] ?_
     refine o_r5 [(26, (vB false)), (27, (.val undef)), (28, (.val undef)), (29, (vB false))] ?_
     exact o_end (w6 _ _ (wkm [2] wh_nil) h)
theorem ic40 : fnIC Tryz.prog H0 40 = some ([.tmp 4], 20, (.seq (.ops [zO 4 (.mov (.c (.int .i64 0)))]) (.seq (.seq (.ops [zO 5 (.mov (.c (.int .i64 0)))]) (.block 0 (.loop (.seq (.seq (.ops [zM 6 5, zM 7 0, zO 8 (.len false (.t 7)), zO 9 (.sc (.bin .lss 3) [(.t 6), (.t 8)])]) (.cond (.t 9)
  .skip
  (.exit 0))) (.seq (.block 1 (.seq (.ops [zM 12 0, zM 13 5, zO 14 (.iaddr 2 (.t 12) (.t 13)), zO 15 (.faddr (.t 14) 0), zO 16 (.ld (.t 15) 1 false), zM 17 1, zO 18 (.sc (.bin .eql 9) [(.t 16), (.t 17)])]) (.cond (.t 18)
  (.seq (.ops [zM 19 5, zM 4 19]) .ret)
  .skip))) (.ops [zM 10 5, zO 11 (.sc (.bin .add 3) [(.t 10), (.c (.int .i64 1))]), zM 5 11])))))) (.seq (.ops [zO 4 (.mov (.c (.int .i64 (-1))))]) .ret)))) := by kernel_rfl
def f55_k4 : Option Int := some (-1)
def f55_l7 (a1 : (List Form)) (a2 : ByteArray) (k4k : Option Int) : Nat → Int → Option Int
  | 0, _ => none
  | m7 + 1, x20 => (bif (decide (x20 < (len a1))) then ((gi a1 x20).bind fun x28 => (bif (sEqF x28.fName a2) then some x20 else (f55_l7 a1 a2 (k4k) m7 (wr .i64 (x20 + 1))))) else (k4k))
def f55 (n : Nat) (a1 : (List Form)) (a2 : ByteArray) : Option Int := (f55_l7 a1 a2 (f55_k4) n 0)
def f55_r (r : Int) : AV := (vI r)
theorem p_f55 {n : Nat} {a1 : (List Form)} {a2 : ByteArray} {r : Int} (h : f55 n a1 a2 = some r) : PureSpec Tryz.prog 40 [(vL Form.c a1), (vS a2)] (f55_r r) := by
 rw [f55.eq_1] at h
 refine pure_of hmix ic40 ?_
 refine go_to (mkd (.val undef) 20 0 [(0, (vL Form.c a1)), (1, (vS a2))]) ?_
 refine s_so fun N3 k3 w3 => ?_
 refine o_r1 [(4, (vI 0))] ?_
 refine o_end (k3 _ ?_)
 refine J0 (r := r) ⟨(mkd .any 20 0 []), []⟩ (f55_k4) ?_ ?_
 · intro h
   rw [f55_k4.eq_1] at h
   refine s_so fun N33 k33 w33 => ?_
   refine o_r1 [(4, (vI (-1)))] ?_
   refine o_end (k33 _ ?_)
   exact c_ret (rets [] [(vI (-1))] [(vI (-1))] h)
 · intro N4 w4
   refine s_so fun N5 k5 w5 => ?_
   refine o_r1 [(5, (vI 0))] ?_
   refine o_end (k5 _ ?_)
   refine c_block fun E6 hE6 hO6 => ?_
   refine W1 (fun (x20 : Int) => ⟨(mkd .any 20 0 [(0, (vL Form.c a1)), (1, (vS a2)), (5, (vI x20))]), []⟩) (f55_l7 a1 a2 (f55_k4)) h (wkm [0, 1, 5] wh_nil) (by intros; rw [f55_l7.eq_1]) ?_
   intro m7 x20 h N7 w7
   rw [f55_l7.eq_2] at h
   refine s_seq fun N21 k21 w21 => ?_
   refine s_so fun N22 k22 w22 => ?_
   refine o_r2 [(6, (vI x20)), (7, (vL Form.c a1))] ?_
   refine o_o (one_len (f := Form.c) (l := a1)) ?_
   refine o_r1 [(9, (vB (decide (x20 < (len a1)))))] ?_
   refine o_end (k22 _ ?_)
   refine i_c [9] h (fun h => ?_) (fun h => ?_)
   · refine c_skip (k21 _ ?_)
     refine s_seq fun N25 k25 w25 => ?_
     refine c_block fun E26 hE26 hO26 => ?_
     refine s_so fun N27 k27 w27 => ?_
     refine o_r2 [(12, (vL Form.c a1)), (13, (vI x20))] ?_
     refine bnd h fun x28 g29 h => ?_
     refine o_o (one_ia (f := Form.c) (ki := .i64) g29) ?_
     refine o_r3 [(15, (.iptr [(vS x28.fName), (vL Col.c x28.fCols)])), (16, (vS x28.fName)), (17, (vS a2))] ?_
     refine o_o (one_sc (vs := [.string x28.fName, .string a2]) (str_eql x28.fName a2)) ?_
     refine o_end (k27 _ ?_)
     refine i_c [18] h (fun h => ?_) (fun h => ?_)
     · refine s_so fun N32 k32 w32 => ?_
       refine o_r2 [(4, (vI x20)), (19, (vI x20))] ?_
       refine o_end (k32 _ ?_)
       exact c_ret (rets [] [(vI x20)] [(vI x20)] h)
     · refine c_skip (k25 _ ?_)
       refine c_ops ?_
       refine o_r3 [(5, (vI (wr .i64 (x20 + 1)))), (10, (vI x20)), (11, (vI (wr .i64 (x20 + 1))))] ?_
       exact o_end (w7 _ _ (wkm [0, 1, 5] wh_nil) h)
   · refine c_exit (hE6 _ ?_)
     exact w4 _ (wkm [] wh_nil) h
theorem ic93 : fnIC Tryz.prog H0 93 = some ([.tmp 2], 77, (.seq (.ops [zO 2 (.mov (.c (.bool false)))]) (.seq (.seq (.ops [zM 5 0, zO 6 (.len true (.t 5)), zO 7 (.sc (.bin .lss 3) [(.t 6), (.c (.int .i64 1))]), zM 8 7, zN 9 8 false 0, zG 10 8 false (.len true (.t 9)), zG 11 8 false (.sc (.bin .gtr 3) [(.t 10), (.c (.int .i64 20))]), zO 12 (.pick (.t 8) (.c (.bool true)) (.t 11)), zM 13 12, zN 14 13 false 0, zG 15 13 false (.sc (.idx 9) [(.t 14), (.c (.int .i64 0))]), zG 16 13 false (.sc (.bin .lss 5) [(.t 15), (.c (.int .u8 97))]), zO 17 (.pick (.t 13) (.c (.bool true)) (.t 16)), zM 18 17, zN 19 18 false 0, zG 20 18 false (.sc (.idx 9) [(.t 19), (.c (.int .i64 0))]), zG 21 18 false (.sc (.bin .gtr 5) [(.t 20), (.c (.int .u8 122))]), zO 22 (.pick (.t 18) (.c (.bool true)) (.t 21))]) (.cond (.t 22)
  (.seq (.ops [zO 2 (.mov (.c (.bool false)))]) .ret)
  .skip)) (.seq (.seq (.ops [zO 3 (.mov (.c (.int .i64 0)))]) (.block 0 (.loop (.seq (.seq (.ops [zM 23 3, zM 24 0, zO 25 (.len true (.t 24)), zO 26 (.sc (.bin .lss 3) [(.t 23), (.t 25)])]) (.cond (.t 26)
  .skip
  (.exit 0))) (.seq (.block 1 (.seq (.ops [zM 29 0, zM 30 3, zO 31 (.sc (.idx 9) [(.t 29), (.t 30)]), zO 32 (.sc (.bin .geq 5) [(.t 31), (.c (.int .u8 97))]), zM 33 32, zN 34 33 true 0, zN 35 33 true 3, zG 36 33 true (.sc (.idx 9) [(.t 34), (.t 35)]), zG 37 33 true (.sc (.bin .leq 5) [(.t 36), (.c (.int .u8 122))]), zO 38 (.pick (.t 33) (.t 37) (.c (.bool false))), zM 39 38, zN 40 39 false 0, zN 41 39 false 3, zG 42 39 false (.sc (.idx 9) [(.t 40), (.t 41)]), zG 43 39 false (.sc (.bin .geq 5) [(.t 42), (.c (.int .u8 48))]), zN 44 39 false 43, zN 45 44 true 0, zN 46 44 true 3, zG 47 44 true (.sc (.idx 9) [(.t 45), (.t 46)]), zG 48 44 true (.sc (.bin .leq 5) [(.t 47), (.c (.int .u8 57))]), zG 49 39 false (.pick (.t 44) (.t 48) (.c (.bool false))), zO 50 (.pick (.t 39) (.c (.bool true)) (.t 49)), zM 51 50, zN 52 51 false 0, zN 53 51 false 3, zG 54 51 false (.sc (.idx 9) [(.t 52), (.t 53)]), zG 55 51 false (.sc (.bin .eql 5) [(.t 54), (.c (.int .u8 95))]), zO 56 (.pick (.t 51) (.c (.bool true)) (.t 55)), zM 4 56]) (.seq (.ops [zM 57 4, zO 58 (.sc (.un .not) [(.t 57)])]) (.cond (.t 58)
  (.seq (.ops [zO 2 (.mov (.c (.bool false)))]) .ret)
  .skip)))) (.ops [zM 27 3, zO 28 (.sc (.bin .add 3) [(.t 27), (.c (.int .i64 1))]), zM 3 28])))))) (.seq (.ops [zM 59 0, zO 60 (.sc (.bin .neq 9) [(.t 59), (.c (.string ⟨#[116, 114, 117, 101]⟩))]), zM 61 60, zN 62 61 true 0, zG 63 61 true (.sc (.bin .neq 9) [(.t 62), (.c (.string ⟨#[102, 97, 108, 115, 101]⟩))]), zO 64 (.pick (.t 61) (.t 63) (.c (.bool false))), zM 65 64, zN 66 65 true 0, zG 67 65 true (.sc (.bin .neq 9) [(.t 66), (.c (.string ⟨#[118, 111, 105, 100]⟩))]), zO 68 (.pick (.t 65) (.t 67) (.c (.bool false))), zM 69 68, zN 70 69 true 0, zG 71 69 true (.sc (.bin .neq 9) [(.t 70), (.c (.string ⟨#[99, 117, 114, 114, 101, 110, 116]⟩))]), zO 72 (.pick (.t 69) (.t 71) (.c (.bool false))), zM 73 72, zN 74 73 true 0, zG 75 73 true (.sc (.bin .neq 9) [(.t 74), (.c (.string ⟨#[114, 101, 115, 117, 108, 116]⟩))]), zO 76 (.pick (.t 73) (.t 75) (.c (.bool false))), zM 2 76]) .ret))))) := by kernel_rfl
def f56_k61 (x55 : Int) (c18k : Int → Option Bool) (x88 : Bool) : Option Bool := (bif (!x88) then some false else (c18k (wr .i64 (x55 + 1))))
def f56_k92 (x102 : Bool) : Option Bool := some x102
def f56_k15 (a1 : ByteArray) : Option Bool := (bif (!(sEqF a1 (ByteArray.mk #[116, 114, 117, 101]))) then (bif (!(sEqF a1 (ByteArray.mk #[102, 97, 108, 115, 101]))) then (bif (!(sEqF a1 (ByteArray.mk #[118, 111, 105, 100]))) then (bif (!(sEqF a1 (ByteArray.mk #[99, 117, 114, 114, 101, 110, 116]))) then (f56_k92 (!(sEqF a1 (ByteArray.mk #[114, 101, 115, 117, 108, 116])))) else (f56_k92 false)) else (f56_k92 false)) else (f56_k92 false)) else (f56_k92 false))
def f56_l18 (a1 : ByteArray) (k15k : Option Bool) : Nat → Int → Option Bool
  | 0, _ => none
  | m18 + 1, x55 => (bif (decide (x55 < (bsz a1))) then ((si a1 x55).bind fun c62 => (bif (decide (c62 ≥ 97)) then ((si a1 x55).bind fun c65 => (bif (decide (c65 ≤ 122)) then (f56_k61 x55 (f56_l18 a1 (k15k) m18) true) else ((si a1 x55).bind fun c68 => (bif (decide (c68 ≥ 48)) then ((si a1 x55).bind fun c71 => (bif (decide (c71 ≤ 57)) then (f56_k61 x55 (f56_l18 a1 (k15k) m18) true) else ((si a1 x55).bind fun c74 => (f56_k61 x55 (f56_l18 a1 (k15k) m18) (c74 == 95))))) else ((si a1 x55).bind fun c76 => (f56_k61 x55 (f56_l18 a1 (k15k) m18) (c76 == 95))))))) else ((si a1 x55).bind fun c78 => (bif (decide (c78 ≥ 48)) then ((si a1 x55).bind fun c81 => (bif (decide (c81 ≤ 57)) then (f56_k61 x55 (f56_l18 a1 (k15k) m18) true) else ((si a1 x55).bind fun c84 => (f56_k61 x55 (f56_l18 a1 (k15k) m18) (c84 == 95))))) else ((si a1 x55).bind fun c86 => (f56_k61 x55 (f56_l18 a1 (k15k) m18) (c86 == 95))))))) else (k15k))
def f56_k4 (n : Nat) (a1 : ByteArray) (x12 : Bool) : Option Bool := (bif x12 then some false else (f56_l18 a1 (f56_k15 a1) n 0))
def f56 (n : Nat) (a1 : ByteArray) : Option Bool := (bif (decide ((bsz a1) < 1)) then (f56_k4 n a1 true) else (bif (decide ((bsz a1) > 20)) then (f56_k4 n a1 true) else ((si a1 0).bind fun c7 => (bif (decide (c7 < 97)) then (f56_k4 n a1 true) else ((si a1 0).bind fun c10 => (f56_k4 n a1 (decide (c10 > 122))))))))
def f56_r (r : Bool) : AV := (vB r)
theorem p_f56 {n : Nat} {a1 : ByteArray} {r : Bool} (h : f56 n a1 = some r) : PureSpec Tryz.prog 93 [(vS a1)] (f56_r r) := by
 rw [f56.eq_1] at h
 refine pure_of hmix ic93 ?_
 refine go_to (mkd (.val undef) 77 0 [(0, (vS a1))]) ?_
 refine s_so fun N2 k2 w2 => ?_
 refine o_r1 [(2, (vB false))] ?_
 refine o_end (k2 _ ?_)
 refine s_seq fun N3 k3 w3 => ?_
 refine J1 (r := r) (fun (x12 : Bool) => ⟨(mkd .any 77 0 [(0, (vS a1)), (22, (vB x12))]), []⟩) (f56_k4 n a1) ?_ ?_
 · intro x12 h
   rw [f56_k4.eq_1] at h
   refine i_c [22] h (fun h => ?_) (fun h => ?_)
   · refine s_so fun N14 k14 w14 => ?_
     refine o_r1 [(2, (vB false))] ?_
     refine o_end (k14 _ ?_)
     exact c_ret (rets [] [(vB false)] [(vB false)] h)
   · refine c_skip (k3 _ ?_)
     refine J0 (r := r) ⟨(mkd .any 77 0 [(0, (vS a1))]), []⟩ (f56_k15 a1) ?_ ?_
     · intro h
       rw [f56_k15.eq_1] at h
       refine J1 (r := r) (fun (x102 : Bool) => ⟨(mkd .any 77 0 [(2, (vB x102))]), []⟩) (f56_k92) ?_ ?_
       · intro x102 h
         rw [f56_k92.eq_1] at h
         exact c_ret (rets [] [(vB x102)] [(vB x102)] h)
       · intro N92 w92
         refine c_ops ?_
         refine o_r1 [(59, (vS a1))] ?_
         refine o_o (one_sc (vs := [.string a1, .string (ByteArray.mk #[116, 114, 117, 101])]) (str_neq a1 (ByteArray.mk #[116, 114, 117, 101]))) ?_
         refine o_r1 [(61, (vB (!(sEqF a1 (ByteArray.mk #[116, 114, 117, 101])))))] ?_
         refine i_o [60, 61] h (fun h => ?_) (fun h => ?_)
         · refine o_r1 [(62, (vS a1))] ?_
           refine o_g ?_
           refine o_o (one_sc (vs := [.string a1, .string (ByteArray.mk #[102, 97, 108, 115, 101])]) (str_neq a1 (ByteArray.mk #[102, 97, 108, 115, 101]))) ?_
           refine o_r2 [(64, (vB (!(sEqF a1 (ByteArray.mk #[102, 97, 108, 115, 101]))))), (65, (vB (!(sEqF a1 (ByteArray.mk #[102, 97, 108, 115, 101])))))] ?_
           refine i_o [63, 64, 65] h (fun h => ?_) (fun h => ?_)
           · refine o_r1 [(66, (vS a1))] ?_
             refine o_g ?_
             refine o_o (one_sc (vs := [.string a1, .string (ByteArray.mk #[118, 111, 105, 100])]) (str_neq a1 (ByteArray.mk #[118, 111, 105, 100]))) ?_
             refine o_r2 [(68, (vB (!(sEqF a1 (ByteArray.mk #[118, 111, 105, 100]))))), (69, (vB (!(sEqF a1 (ByteArray.mk #[118, 111, 105, 100])))))] ?_
             refine i_o [67, 68, 69] h (fun h => ?_) (fun h => ?_)
             · refine o_r1 [(70, (vS a1))] ?_
               refine s_tm (mkd .any 77 0 [(0, (vS a1)), (59, (vS a1)), (60, (vB true)), (61, (vB true)), (62, (vS a1)), (63, (vB true)), (64, (vB true)), (65, (vB true)), (66, (vS a1)), (67, (vB true)), (68, (vB true)), (69, (vB true)), (70, (vS a1))]) ?_
               refine o_g ?_
               refine o_o (one_sc (vs := [.string a1, .string (ByteArray.mk #[99, 117, 114, 114, 101, 110, 116])]) (str_neq a1 (ByteArray.mk #[99, 117, 114, 114, 101, 110, 116]))) ?_
               refine o_r2 [(72, (vB (!(sEqF a1 (ByteArray.mk #[99, 117, 114, 114, 101, 110, 116]))))), (73, (vB (!(sEqF a1 (ByteArray.mk #[99, 117, 114, 114, 101, 110, 116])))))] ?_
               refine i_o [71, 72, 73] h (fun h => ?_) (fun h => ?_)
               · refine o_r1 [(74, (vS a1))] ?_
                 refine o_g ?_
                 refine o_o (one_sc (vs := [.string a1, .string (ByteArray.mk #[114, 101, 115, 117, 108, 116])]) (str_neq a1 (ByteArray.mk #[114, 101, 115, 117, 108, 116]))) ?_
                 refine o_r2 [(2, (vB (!(sEqF a1 (ByteArray.mk #[114, 101, 115, 117, 108, 116]))))), (76, (vB (!(sEqF a1 (ByteArray.mk #[114, 101, 115, 117, 108, 116])))))] ?_
                 exact o_end (w92 _ _ (wkm [2] wh_nil) h)
               · refine o_r4 [(2, (vB false)), (74, (.val undef)), (75, (.val undef)), (76, (vB false))] ?_
                 exact o_end (w92 _ _ (wkm [2] wh_nil) h)
             · refine o_r8 [(2, (vB false)), (70, (.val undef)), (71, (.val undef)), (72, (vB false)), (73, (vB false)), (74, (.val undef)), (75, (.val undef)), (76, (vB false))] ?_
               refine s_tm (mkd .any 77 0 [(0, (vS a1)), (2, (vB false)), (59, (vS a1)), (60, (vB true)), (61, (vB true)), (62, (vS a1)), (63, (vB true)), (64, (vB true)), (65, (vB true)), (66, (vS a1)), (67, (vB false)), (68, (vB false)), (69, (vB false)), (70, (.val undef)), (71, (.val undef)), (72, (vB false)), (73, (vB false)), (74, (.val undef)), (75, (.val undef)), (76, (vB false))]) ?_
               exact o_end (w92 _ _ (wkm [2] wh_nil) h)
           · refine o_r12 [(2, (vB false)), (66, (.val undef)), (67, (.val undef)), (68, (vB false)), (69, (vB false)), (70, (.val undef)), (71, (.val undef)), (72, (vB false)), (73, (vB false)), (74, (.val undef)), (75, (.val undef)), (76, (vB false))] ?_
             exact o_end (w92 _ _ (wkm [2] wh_nil) h)
         · refine o_r16 [(2, (vB false)), (62, (.val undef)), (63, (.val undef)), (64, (vB false)), (65, (vB false)), (66, (.val undef)), (67, (.val undef)), (68, (vB false)), (69, (vB false)), (70, (.val undef)), (71, (.val undef)), (72, (vB false)), (73, (vB false)), (74, (.val undef)), (75, (.val undef)), (76, (vB false))] ?_
           exact o_end (w92 _ _ (wkm [2] wh_nil) h)
     · intro N15 w15
       refine s_so fun N16 k16 w16 => ?_
       refine o_r1 [(3, (vI 0))] ?_
       refine o_end (k16 _ ?_)
       refine c_block fun E17 hE17 hO17 => ?_
       refine W1 (fun (x55 : Int) => ⟨(mkd .any 77 0 [(0, (vS a1)), (3, (vI x55))]), []⟩) (f56_l18 a1 (f56_k15 a1)) h (wkm [0, 3] wh_nil) (by intros; rw [f56_l18.eq_1]) ?_
       intro m18 x55 h N18 w18
       rw [f56_l18.eq_2] at h
       refine s_seq fun N56 k56 w56 => ?_
       refine s_so fun N57 k57 w57 => ?_
       refine o_r4 [(23, (vI x55)), (24, (vS a1)), (25, (vI (bsz a1))), (26, (vB (decide (x55 < (bsz a1)))))] ?_
       refine o_end (k57 _ ?_)
       refine i_c [26] h (fun h => ?_) (fun h => ?_)
       · refine c_skip (k56 _ ?_)
         refine s_seq fun N59 k59 w59 => ?_
         refine c_block fun E60 hE60 hO60 => ?_
         refine J1 (r := r) (fun (x88 : Bool) => ⟨(mkd .any 77 0 [(0, (vS a1)), (3, (vI x55)), (4, (vB x88))]), []⟩) (f56_k61 x55 (f56_l18 a1 (f56_k15 a1) m18)) ?_ ?_
         · intro x88 h
           rw [f56_k61.eq_1] at h
           refine s_so fun N89 k89 w89 => ?_
           refine o_r2 [(57, (vB x88)), (58, (vB (!x88)))] ?_
           refine o_end (k89 _ ?_)
           refine i_c [58] h (fun h => ?_) (fun h => ?_)
           · refine s_so fun N91 k91 w91 => ?_
             refine o_r1 [(2, (vB false))] ?_
             refine o_end (k91 _ ?_)
             exact c_ret (rets [] [(vB false)] [(vB false)] h)
           · refine c_skip (k59 _ ?_)
             refine c_ops ?_
             refine o_r3 [(3, (vI (wr .i64 (x55 + 1)))), (27, (vI x55)), (28, (vI (wr .i64 (x55 + 1))))] ?_
             exact o_end (w18 _ _ (wkm [0, 3] wh_nil) h)
         · intro N61 w61
           refine c_ops ?_
           refine o_r2 [(29, (vS a1)), (30, (vI x55))] ?_
           refine bnd h fun c62 g63 h => ?_
           refine o_o (one_idx (ki := .i64) g63) ?_
           refine o_r2 [(32, (vB (decide (c62 ≥ 97)))), (33, (vB (decide (c62 ≥ 97))))] ?_
           refine i_o [32, 33] h (fun h => ?_) (fun h => ?_)
           · refine o_r2 [(34, (vS a1)), (35, (vI x55))] ?_
             refine bnd h fun c65 g66 h => ?_
             refine o_g ?_
             refine o_o (one_idx (ki := .i64) g66) ?_
             refine o_r3 [(37, (vB (decide (c65 ≤ 122)))), (38, (vB (decide (c65 ≤ 122)))), (39, (vB (decide (c65 ≤ 122))))] ?_
             refine i_o [37, 38, 39] h (fun h => ?_) (fun h => ?_)
             · refine o_r16 [(40, (.val undef)), (41, (.val undef)), (42, (.val undef)), (43, (.val undef)), (44, (.val undef)), (45, (.val undef)), (46, (.val undef)), (47, (.val undef)), (48, (.val undef)), (49, (.val undef)), (50, (vB true)), (51, (vB true)), (52, (.val undef)), (53, (.val undef)), (54, (.val undef)), (55, (.val undef))] ?_
               refine o_r2 [(4, (vB true)), (56, (vB true))] ?_
               exact o_end (w61 _ _ (wkm [0, 3, 4] wh_nil) h)
             · refine o_r2 [(40, (vS a1)), (41, (vI x55))] ?_
               refine bnd h fun c68 g69 h => ?_
               refine o_g ?_
               refine o_o (one_idx (ki := .i64) g69) ?_
               refine o_r2 [(43, (vB (decide (c68 ≥ 48)))), (44, (vB (decide (c68 ≥ 48))))] ?_
               refine s_tm (mkd .any 77 0 [(0, (vS a1)), (3, (vI x55)), (23, (vI x55)), (24, (vS a1)), (25, (vI (bsz a1))), (26, (vB true)), (29, (vS a1)), (30, (vI x55)), (31, (vKi .u8 c62)), (32, (vB true)), (33, (vB true)), (34, (vS a1)), (35, (vI x55)), (36, (vKi .u8 c65)), (37, (vB false)), (38, (vB false)), (39, (vB false)), (40, (vS a1)), (41, (vI x55)), (42, (vKi .u8 c68)), (43, (vB (decide (c68 ≥ 48)))), (44, (vB (decide (c68 ≥ 48))))]) ?_
               refine i_o [43, 44] h (fun h => ?_) (fun h => ?_)
               · refine o_r2 [(45, (vS a1)), (46, (vI x55))] ?_
                 refine bnd h fun c71 g72 h => ?_
                 refine o_g ?_
                 refine o_o (one_idx (ki := .i64) g72) ?_
                 refine o_r4 [(48, (vB (decide (c71 ≤ 57)))), (49, (vB (decide (c71 ≤ 57)))), (50, (vB (decide (c71 ≤ 57)))), (51, (vB (decide (c71 ≤ 57))))] ?_
                 refine i_o [48, 49, 50, 51] h (fun h => ?_) (fun h => ?_)
                 · refine o_r6 [(4, (vB true)), (52, (.val undef)), (53, (.val undef)), (54, (.val undef)), (55, (.val undef)), (56, (vB true))] ?_
                   exact o_end (w61 _ _ (wkm [0, 3, 4] wh_nil) h)
                 · refine o_r2 [(52, (vS a1)), (53, (vI x55))] ?_
                   refine bnd h fun c74 g75 h => ?_
                   refine o_g ?_
                   refine o_o (one_idx (ki := .i64) g75) ?_
                   refine o_r3 [(4, (vB (c74 == 95))), (55, (vB (c74 == 95))), (56, (vB (c74 == 95)))] ?_
                   exact o_end (w61 _ _ (wkm [0, 3, 4] wh_nil) h)
               · refine o_r9 [(45, (.val undef)), (46, (.val undef)), (47, (.val undef)), (48, (.val undef)), (49, (vB false)), (50, (vB false)), (51, (vB false)), (52, (vS a1)), (53, (vI x55))] ?_
                 refine bnd h fun c76 g77 h => ?_
                 refine o_g ?_
                 refine o_o (one_idx (ki := .i64) g77) ?_
                 refine o_r3 [(4, (vB (c76 == 95))), (55, (vB (c76 == 95))), (56, (vB (c76 == 95)))] ?_
                 exact o_end (w61 _ _ (wkm [0, 3, 4] wh_nil) h)
           · refine o_r8 [(34, (.val undef)), (35, (.val undef)), (36, (.val undef)), (37, (.val undef)), (38, (vB false)), (39, (vB false)), (40, (vS a1)), (41, (vI x55))] ?_
             refine bnd h fun c78 g79 h => ?_
             refine o_g ?_
             refine o_o (one_idx (ki := .i64) g79) ?_
             refine o_r2 [(43, (vB (decide (c78 ≥ 48)))), (44, (vB (decide (c78 ≥ 48))))] ?_
             refine i_o [43, 44] h (fun h => ?_) (fun h => ?_)
             · refine o_r2 [(45, (vS a1)), (46, (vI x55))] ?_
               refine bnd h fun c81 g82 h => ?_
               refine o_g ?_
               refine o_o (one_idx (ki := .i64) g82) ?_
               refine o_r4 [(48, (vB (decide (c81 ≤ 57)))), (49, (vB (decide (c81 ≤ 57)))), (50, (vB (decide (c81 ≤ 57)))), (51, (vB (decide (c81 ≤ 57))))] ?_
               refine s_tm (mkd .any 77 0 [(0, (vS a1)), (3, (vI x55)), (23, (vI x55)), (24, (vS a1)), (25, (vI (bsz a1))), (26, (vB true)), (29, (vS a1)), (30, (vI x55)), (31, (vKi .u8 c62)), (32, (vB false)), (33, (vB false)), (34, (.val undef)), (35, (.val undef)), (36, (.val undef)), (37, (.val undef)), (38, (vB false)), (39, (vB false)), (40, (vS a1)), (41, (vI x55)), (42, (vKi .u8 c78)), (43, (vB true)), (44, (vB true)), (45, (vS a1)), (46, (vI x55)), (47, (vKi .u8 c81)), (48, (vB (decide (c81 ≤ 57)))), (49, (vB (decide (c81 ≤ 57)))), (50, (vB (decide (c81 ≤ 57)))), (51, (vB (decide (c81 ≤ 57))))]) ?_
               refine i_o [48, 49, 50, 51] h (fun h => ?_) (fun h => ?_)
               · refine o_r6 [(4, (vB true)), (52, (.val undef)), (53, (.val undef)), (54, (.val undef)), (55, (.val undef)), (56, (vB true))] ?_
                 exact o_end (w61 _ _ (wkm [0, 3, 4] wh_nil) h)
               · refine o_r2 [(52, (vS a1)), (53, (vI x55))] ?_
                 refine bnd h fun c84 g85 h => ?_
                 refine o_g ?_
                 refine o_o (one_idx (ki := .i64) g85) ?_
                 refine o_r3 [(4, (vB (c84 == 95))), (55, (vB (c84 == 95))), (56, (vB (c84 == 95)))] ?_
                 exact o_end (w61 _ _ (wkm [0, 3, 4] wh_nil) h)
             · refine o_r9 [(45, (.val undef)), (46, (.val undef)), (47, (.val undef)), (48, (.val undef)), (49, (vB false)), (50, (vB false)), (51, (vB false)), (52, (vS a1)), (53, (vI x55))] ?_
               refine bnd h fun c86 g87 h => ?_
               refine o_g ?_
               refine o_o (one_idx (ki := .i64) g87) ?_
               refine o_r3 [(4, (vB (c86 == 95))), (55, (vB (c86 == 95))), (56, (vB (c86 == 95)))] ?_
               refine s_tm (mkd .any 77 0 [(0, (vS a1)), (3, (vI x55)), (4, (vB (c86 == 95))), (23, (vI x55)), (24, (vS a1)), (25, (vI (bsz a1))), (26, (vB true)), (29, (vS a1)), (30, (vI x55)), (31, (vKi .u8 c62)), (32, (vB false)), (33, (vB false)), (34, (.val undef)), (35, (.val undef)), (36, (.val undef)), (37, (.val undef)), (38, (vB false)), (39, (vB false)), (40, (vS a1)), (41, (vI x55)), (42, (vKi .u8 c78)), (43, (vB false)), (44, (vB false)), (45, (.val undef)), (46, (.val undef)), (47, (.val undef)), (48, (.val undef)), (49, (vB false)), (50, (vB false)), (51, (vB false)), (52, (vS a1)), (53, (vI x55)), (54, (vKi .u8 c86)), (55, (vB (c86 == 95))), (56, (vB (c86 == 95)))]) ?_
               exact o_end (w61 _ _ (wkm [0, 3, 4] wh_nil) h)
       · refine c_exit (hE17 _ ?_)
         exact w15 _ (wkm [0] wh_nil) h
 · intro N4 w4
   refine c_ops ?_
   refine o_r4 [(5, (vS a1)), (6, (vI (bsz a1))), (7, (vB (decide ((bsz a1) < 1)))), (8, (vB (decide ((bsz a1) < 1))))] ?_
   refine i_o [7, 8] h (fun h => ?_) (fun h => ?_)
   · refine o_r14 [(9, (.val undef)), (10, (.val undef)), (11, (.val undef)), (12, (vB true)), (13, (vB true)), (14, (.val undef)), (15, (.val undef)), (16, (.val undef)), (17, (vB true)), (18, (vB true)), (19, (.val undef)), (20, (.val undef)), (21, (.val undef)), (22, (vB true))] ?_
     exact o_end (w4 _ _ (wkm [0, 22] wh_nil) h)
   · refine o_r5 [(9, (vS a1)), (10, (vI (bsz a1))), (11, (vB (decide ((bsz a1) > 20)))), (12, (vB (decide ((bsz a1) > 20)))), (13, (vB (decide ((bsz a1) > 20))))] ?_
     refine i_o [11, 12, 13] h (fun h => ?_) (fun h => ?_)
     · refine o_r9 [(14, (.val undef)), (15, (.val undef)), (16, (.val undef)), (17, (vB true)), (18, (vB true)), (19, (.val undef)), (20, (.val undef)), (21, (.val undef)), (22, (vB true))] ?_
       exact o_end (w4 _ _ (wkm [0, 22] wh_nil) h)
     · refine o_r1 [(14, (vS a1))] ?_
       refine bnd h fun c7 g8 h => ?_
       refine o_g ?_
       refine o_o (one_idx (ki := .i64) g8) ?_
       refine o_r3 [(16, (vB (decide (c7 < 97)))), (17, (vB (decide (c7 < 97)))), (18, (vB (decide (c7 < 97))))] ?_
       refine i_o [16, 17, 18] h (fun h => ?_) (fun h => ?_)
       · refine o_r4 [(19, (.val undef)), (20, (.val undef)), (21, (.val undef)), (22, (vB true))] ?_
         exact o_end (w4 _ _ (wkm [0, 22] wh_nil) h)
       · refine o_r1 [(19, (vS a1))] ?_
         refine bnd h fun c10 g11 h => ?_
         refine o_g ?_
         refine o_o (one_idx (ki := .i64) g11) ?_
         refine o_r2 [(21, (vB (decide (c10 > 122)))), (22, (vB (decide (c10 > 122))))] ?_
         refine s_tm (mkd (.val undef) 77 0 [(0, (vS a1)), (2, (vB false)), (5, (vS a1)), (6, (vI (bsz a1))), (7, (vB false)), (8, (vB false)), (9, (vS a1)), (10, (vI (bsz a1))), (11, (vB false)), (12, (vB false)), (13, (vB false)), (14, (vS a1)), (15, (vKi .u8 c7)), (16, (vB false)), (17, (vB false)), (18, (vB false)), (19, (vS a1)), (20, (vKi .u8 c10)), (21, (vB (decide (c10 > 122)))), (22, (vB (decide (c10 > 122))))]) ?_
         exact o_end (w4 _ _ (wkm [0, 22] wh_nil) h)
theorem ic53 : fnIC Tryz.prog H0 53 = some ([.tmp 4], 22, (.seq (.ops [zO 2 (.box 0 66 [(1, 68, 3, 0)] (.t 0)), zO 4 (.mov (.c (.int .i64 0)))]) (.seq (.seq (.ops [zO 5 (.mov (.c (.int .i64 0)))]) (.block 0 (.loop (.seq (.seq (.ops [zM 6 5, zO 7 (.faddr (.t 2) 1), zO 8 (.ld (.t 7) 1 false), zO 9 (.len false (.t 8)), zO 10 (.sc (.bin .lss 3) [(.t 6), (.t 9)])]) (.cond (.t 10)
  .skip
  (.exit 0))) (.seq (.block 1 (.seq (.ops [zO 13 (.faddr (.t 2) 1), zO 14 (.ld (.t 13) 1 false), zM 15 5, zO 16 (.iaddr 3 (.t 14) (.t 15)), zO 17 (.faddr (.t 16) 0), zO 18 (.ld (.t 17) 1 false), zM 19 1, zO 20 (.sc (.bin .eql 9) [(.t 18), (.t 19)])]) (.cond (.t 20)
  (.seq (.ops [zM 21 5, zM 4 21]) .ret)
  .skip))) (.ops [zM 11 5, zO 12 (.sc (.bin .add 3) [(.t 11), (.c (.int .i64 1))]), zM 5 12])))))) (.seq (.ops [zO 4 (.mov (.c (.int .i64 (-1))))]) .ret)))) := by kernel_rfl
def f57_k4 : Option Int := some (-1)
def f57_l7 (a1 : Form) (a2 : ByteArray) (k4k : Option Int) : Nat → Int → Option Int
  | 0, _ => none
  | m7 + 1, x20 => (bif (decide (x20 < (len a1.fCols))) then ((gi a1.fCols x20).bind fun x28 => (bif (sEqF x28.fName a2) then some x20 else (f57_l7 a1 a2 (k4k) m7 (wr .i64 (x20 + 1))))) else (k4k))
def f57 (n : Nat) (a1 : Form) (a2 : ByteArray) : Option Int := (f57_l7 a1 a2 (f57_k4) n 0)
def f57_r (r : Int) : AV := (vI r)
theorem p_f57 {n : Nat} {a1 : Form} {a2 : ByteArray} {r : Int} (h : f57 n a1 a2 = some r) : PureSpec Tryz.prog 53 [(.agg [(vS a1.fName), (vL Col.c a1.fCols)]), (vS a2)] (f57_r r) := by
 rw [f57.eq_1] at h
 refine pure_of hmix ic53 ?_
 refine go_to (mkd (.val undef) 22 0 [(0, (.agg [(vS a1.fName), (vL Col.c a1.fCols)])), (1, (vS a2))]) ?_
 refine s_so fun N3 k3 w3 => ?_
 refine o_h2 [(2, (.ptr 0 0)), (4, (vI 0))] [(some (.box 66 [(vS a1.fName), (vL Col.c a1.fCols)]))] ?_
 refine o_end (k3 _ ?_)
 refine J0 (r := r) ⟨(mkd .any 22 0 []), []⟩ (f57_k4) ?_ ?_
 · intro h
   rw [f57_k4.eq_1] at h
   refine s_so fun N33 k33 w33 => ?_
   refine o_r1 [(4, (vI (-1)))] ?_
   refine o_end (k33 _ ?_)
   exact c_ret (rets [] [(vI (-1))] [(vI (-1))] h)
 · intro N4 w4
   refine s_so fun N5 k5 w5 => ?_
   refine o_r1 [(5, (vI 0))] ?_
   refine o_end (k5 _ ?_)
   refine c_block fun E6 hE6 hO6 => ?_
   refine W1 (fun (x20 : Int) => ⟨(mkd .any 22 0 [(1, (vS a2)), (2, (.ptr 0 0)), (5, (vI x20))]), [(some (.box 66 [(vS a1.fName), (vL Col.c a1.fCols)]))]⟩) (f57_l7 a1 a2 (f57_k4)) h (wkm [1, 2, 5] (whk wh_nil)) (by intros; rw [f57_l7.eq_1]) ?_
   intro m7 x20 h N7 w7
   rw [f57_l7.eq_2] at h
   refine s_seq fun N21 k21 w21 => ?_
   refine s_so fun N22 k22 w22 => ?_
   refine o_r3 [(6, (vI x20)), (7, (.ptr 0 1)), (8, (vL Col.c a1.fCols))] ?_
   refine o_o (one_len (f := Col.c) (l := a1.fCols)) ?_
   refine o_r1 [(10, (vB (decide (x20 < (len a1.fCols)))))] ?_
   refine o_end (k22 _ ?_)
   refine i_c [10] h (fun h => ?_) (fun h => ?_)
   · refine c_skip (k21 _ ?_)
     refine s_seq fun N25 k25 w25 => ?_
     refine c_block fun E26 hE26 hO26 => ?_
     refine s_so fun N27 k27 w27 => ?_
     refine o_r3 [(13, (.ptr 0 1)), (14, (vL Col.c a1.fCols)), (15, (vI x20))] ?_
     refine bnd h fun x28 g29 h => ?_
     refine o_o (one_ia (f := Col.c) (ki := .i64) g29) ?_
     refine o_r3 [(17, (.iptr [(vS x28.fName), (vI x28.fKind), (vS x28.fClass)])), (18, (vS x28.fName)), (19, (vS a2))] ?_
     refine o_o (one_sc (vs := [.string x28.fName, .string a2]) (str_eql x28.fName a2)) ?_
     refine o_end (k27 _ ?_)
     refine i_c [20] h (fun h => ?_) (fun h => ?_)
     · refine s_so fun N32 k32 w32 => ?_
       refine o_r2 [(4, (vI x20)), (21, (vI x20))] ?_
       refine o_end (w32 _ ⟨(mkd .any 22 0 [(4, (vI x20))]), []⟩ (wkm [4] wh_nil) ?_)
       exact c_ret (rets [] [(vI x20)] [(vI x20)] h)
     · refine c_skip (k25 _ ?_)
       refine c_ops ?_
       refine o_r3 [(5, (vI (wr .i64 (x20 + 1)))), (11, (vI x20)), (12, (vI (wr .i64 (x20 + 1))))] ?_
       exact o_end (w7 _ _ (wkm [1, 2, 5] (whk wh_nil)) h)
   · refine c_exit (hE6 _ ?_)
     exact w4 _ (wkm [] wh_nil) h
theorem ic68 : fnIC Tryz.prog H0 68 = some ([.tmp 6], 15, (.seq (.ops [zO 6 (.mov (.c (.bool false)))]) (.seq (.ops [zM 7 0, zM 8 1, zO 9 (.sc (.bin .geq 3) [(.t 7), (.t 8)]), zM 10 9, zN 11 10 true 0, zN 12 10 true 2, zG 13 10 true (.sc (.bin .leq 3) [(.t 11), (.t 12)]), zO 14 (.pick (.t 10) (.t 13) (.c (.bool false))), zM 6 14]) .ret))) := by kernel_rfl
def f58_k5 (x7 : Bool) : Option Bool := some x7
def f58 (n : Nat) (a1 : Int) (a2 : Int) (a3 : Int) : Option Bool := (bif (decide (a1 ≥ a2)) then (f58_k5 (decide (a1 ≤ a3))) else (f58_k5 false))
def f58_r (r : Bool) : AV := (vB r)
theorem p_f58 {n : Nat} {a1 : Int} {a2 : Int} {a3 : Int} {r : Bool} (h : f58 n a1 a2 a3 = some r) : PureSpec Tryz.prog 68 [(vI a1), (vI a2), (vI a3)] (f58_r r) := by
 rw [f58.eq_1] at h
 refine pure_of hmix ic68 ?_
 refine go_to (mkd (.val undef) 15 0 [(0, (vI a1)), (1, (vI a2)), (2, (vI a3))]) ?_
 refine s_so fun N4 k4 w4 => ?_
 refine o_r1 [(6, (vB false))] ?_
 refine o_end (k4 _ ?_)
 refine J1 (r := r) (fun (x7 : Bool) => ⟨(mkd .any 15 0 [(6, (vB x7))]), []⟩) (f58_k5) ?_ ?_
 · intro x7 h
   rw [f58_k5.eq_1] at h
   exact c_ret (rets [] [(vB x7)] [(vB x7)] h)
 · intro N5 w5
   refine c_ops ?_
   refine o_r4 [(7, (vI a1)), (8, (vI a2)), (9, (vB (decide (a1 ≥ a2)))), (10, (vB (decide (a1 ≥ a2))))] ?_
   refine i_o [9, 10] h (fun h => ?_) (fun h => ?_)
   · refine o_r5 [(6, (vB (decide (a1 ≤ a3)))), (11, (vI a1)), (12, (vI a3)), (13, (vB (decide (a1 ≤ a3)))), (14, (vB (decide (a1 ≤ a3))))] ?_
     exact o_end (w5 _ _ (wkm [6] wh_nil) h)
   · refine o_r5 [(11, (.val undef)), (12, (.val undef)), (13, (.val undef)), (14, (vB false))] ?_
     exact o_end (w5 _ _ (wkm [6] wh_nil) h)
theorem ic47 : fnIC Tryz.prog H0 47 = some ([.tmp 2], 129, (.seq (.ops [zO 2 (.mov (.c (.int .i64 0)))]) (.seq (.seq (.ops [zM 11 0, zO 12 (.len false (.t 11)), zO 13 (.sc (.bin .gtr 3) [(.t 12), (.c (.int .i64 24))])]) (.cond (.t 13)
  (.seq (.ops [zO 2 (.mov (.c (.int .i64 3)))]) .ret)
  .skip)) (.seq (.seq (.ops [zO 3 (.mov (.c (.int .i64 0)))]) (.block 0 (.loop (.seq (.seq (.ops [zM 14 3, zM 15 0, zO 16 (.len false (.t 15)), zO 17 (.sc (.bin .lss 3) [(.t 14), (.t 16)])]) (.cond (.t 17)
  .skip
  (.exit 0))) (.seq (.block 1 (.seq (.ops [zM 20 0, zM 21 3, zO 22 (.iaddr 2 (.t 20) (.t 21)), zO 23 (.faddr (.t 22) 0), zO 24 (.ld (.t 23) 1 false), zO 25 (.call 92 [(.t 24)]), zM 4 25]) (.seq (.seq (.ops [zM 26 4, zO 27 (.sc (.un .not) [(.t 26)])]) (.cond (.t 27)
  (.seq (.ops [zO 2 (.mov (.c (.int .i64 4)))]) .ret)
  .skip)) (.seq (.seq (.ops [zM 28 0, zM 29 0, zM 30 3, zO 31 (.iaddr 2 (.t 29) (.t 30)), zO 32 (.faddr (.t 31) 0), zO 33 (.ld (.t 32) 1 false), zO 34 (.call 40 [(.t 28), (.t 33)]), zM 35 3, zO 36 (.sc (.bin .lss 3) [(.t 34), (.t 35)])]) (.cond (.t 36)
  (.seq (.ops [zO 2 (.mov (.c (.int .i64 6)))]) .ret)
  .skip)) (.seq (.seq (.ops [zM 37 0, zM 38 3, zO 39 (.iaddr 2 (.t 37) (.t 38)), zO 40 (.faddr (.t 39) 1), zO 41 (.ld (.t 40) 1 false), zO 42 (.len false (.t 41)), zO 43 (.sc (.bin .gtr 3) [(.t 42), (.c (.int .i64 30))])]) (.cond (.t 43)
  (.seq (.ops [zO 2 (.mov (.c (.int .i64 3)))]) .ret)
  .skip)) (.seq (.ops [zO 5 (.mov (.c (.int .i64 0)))]) (.block 2 (.loop (.seq (.seq (.ops [zM 44 5, zM 45 0, zM 46 3, zO 47 (.iaddr 2 (.t 45) (.t 46)), zO 48 (.faddr (.t 47) 1), zO 49 (.ld (.t 48) 1 false), zO 50 (.len false (.t 49)), zO 51 (.sc (.bin .lss 3) [(.t 44), (.t 50)])]) (.cond (.t 51)
  .skip
  (.exit 2))) (.seq (.block 3 (.seq (.ops [zM 54 0, zM 55 3, zO 56 (.iaddr 2 (.t 54) (.t 55)), zO 57 (.faddr (.t 56) 1), zO 58 (.ld (.t 57) 1 false), zM 59 5, zO 60 (.iaddr 3 (.t 58) (.t 59)), zO 61 (.ld (.t 60) 3 true), zO 6 (.alloc 0 68 [] [(.string ⟨#[]⟩), (.int .i64 0), (.string ⟨#[]⟩)]), zU (.st true 3 [] (.t 6) (.t 61))]) (.seq (.ops [zO 62 (.faddr (.t 6) 0), zO 63 (.ld (.t 62) 1 false), zO 64 (.call 93 [(.t 63)]), zM 7 64]) (.seq (.seq (.ops [zM 65 7, zO 66 (.sc (.un .not) [(.t 65)])]) (.cond (.t 66)
  (.seq (.ops [zO 2 (.mov (.c (.int .i64 4)))]) .ret)
  .skip)) (.seq (.seq (.draw [] [zQ (zM 67 0), zQ (zM 68 3), zQ (zO 69 (.iaddr 2 (.t 67) (.t 68))), zQ (zO 70 (.ld (.t 69) 2 true)), zQ (zO 71 (.faddr (.t 6) 0)), zQ (zO 72 (.ld (.t 71) 1 false)), zQ (zO 73 (.call 53 [(.t 70), (.t 72)])), zQ (zM 74 5), zQ (zO 75 (.sc (.bin .lss 3) [(.t 73), (.t 74)]))]) (.cond (.t 75)
  (.seq (.ops [zO 2 (.mov (.c (.int .i64 6)))]) .ret)
  .skip)) (.seq (.ops [zO 76 (.faddr (.t 6) 1), zO 77 (.ld (.t 76) 1 false), zO 78 (.call 68 [(.t 77), (.c (.int .i64 1)), (.c (.int .i64 3))]), zO 79 (.sc (.un .not) [(.t 78)]), zM 80 79, zG 81 80 false (.faddr (.t 6) 1), zG 82 80 false (.ld (.t 81) 1 false), zG 83 80 false (.sc (.bin .neq 3) [(.t 82), (.c (.int .i64 3))]), zN 84 80 false 83, zG 85 84 true (.faddr (.t 6) 2), zG 86 84 true (.ld (.t 85) 1 false), zG 87 84 true (.sc (.bin .neq 9) [(.t 86), (.c (.string ⟨#[]⟩))]), zG 88 80 false (.pick (.t 84) (.t 87) (.c (.bool false))), zO 89 (.pick (.t 80) (.c (.bool true)) (.t 88))]) (.cond (.t 89)
  (.seq (.ops [zO 2 (.mov (.c (.int .i64 1)))]) .ret)
  .skip))))))) (.ops [zM 52 5, zO 53 (.sc (.bin .add 3) [(.t 52), (.c (.int .i64 1))]), zM 5 53]))))))))))) (.ops [zM 18 3, zO 19 (.sc (.bin .add 3) [(.t 18), (.c (.int .i64 1))]), zM 3 19])))))) (.seq (.seq (.ops [zO 8 (.mov (.c (.int .i64 0)))]) (.block 4 (.loop (.seq (.seq (.ops [zM 90 8, zM 91 0, zO 92 (.len false (.t 91)), zO 93 (.sc (.bin .lss 3) [(.t 90), (.t 92)])]) (.cond (.t 93)
  .skip
  (.exit 4))) (.seq (.block 5 (.seq (.ops [zO 9 (.mov (.c (.int .i64 0)))]) (.block 6 (.loop (.seq (.seq (.ops [zM 96 9, zM 97 0, zM 98 8, zO 99 (.iaddr 2 (.t 97) (.t 98)), zO 100 (.faddr (.t 99) 1), zO 101 (.ld (.t 100) 1 false), zO 102 (.len false (.t 101)), zO 103 (.sc (.bin .lss 3) [(.t 96), (.t 102)])]) (.cond (.t 103)
  .skip
  (.exit 6))) (.seq (.block 7 (.seq (.ops [zM 106 0, zM 107 8, zO 108 (.iaddr 2 (.t 106) (.t 107)), zO 109 (.faddr (.t 108) 1), zO 110 (.ld (.t 109) 1 false), zM 111 9, zO 112 (.iaddr 3 (.t 110) (.t 111)), zO 113 (.ld (.t 112) 3 true), zO 10 (.alloc 0 68 [] [(.string ⟨#[]⟩), (.int .i64 0), (.string ⟨#[]⟩)]), zU (.st true 3 [] (.t 10) (.t 113))]) (.seq (.ops [zO 114 (.faddr (.t 10) 1), zO 115 (.ld (.t 114) 1 false), zO 116 (.sc (.bin .eql 3) [(.t 115), (.c (.int .i64 3))]), zM 117 116, zG 118 117 true (.faddr (.t 10) 2), zG 119 117 true (.ld (.t 118) 1 false), zG 120 117 true (.sc (.bin .neq 9) [(.t 119), (.c (.string ⟨#[65, 78, 89]⟩))]), zO 121 (.pick (.t 117) (.t 120) (.c (.bool false))), zM 122 121, zN 123 122 true 0, zG 124 122 true (.faddr (.t 10) 2), zG 125 122 true (.ld (.t 124) 1 false), zG 126 122 true (.call 40 [(.t 123), (.t 125)]), zG 127 122 true (.sc (.bin .lss 3) [(.t 126), (.c (.int .i64 0))]), zO 128 (.pick (.t 122) (.t 127) (.c (.bool false)))]) (.cond (.t 128)
  (.seq (.ops [zO 2 (.mov (.c (.int .i64 5)))]) .ret)
  .skip)))) (.ops [zM 104 9, zO 105 (.sc (.bin .add 3) [(.t 104), (.c (.int .i64 1))]), zM 9 105]))))))) (.ops [zM 94 8, zO 95 (.sc (.bin .add 3) [(.t 94), (.c (.int .i64 1))]), zM 8 95])))))) (.seq (.ops [zO 2 (.mov (.c (.int .i64 0)))]) .ret)))))) := by kernel_rfl
def f17_k220 (x191 : Int) (c153k : Int → Option Int) (x226 : Bool) : Option Int := (bif x226 then some 1 else (c153k (wr .i64 (x191 + 1))))
def f17_k125 (x120 : Int) (c11k : Int → Option Int) : Option Int := (c11k (wr .i64 (x120 + 1)))
def f17_l153 (a1 : (List Form)) (x120 : Int) (n : Nat) (k125k : Option Int) : Nat → Int → Option Int
  | 0, _ => none
  | m153 + 1, x191 => ((gi a1 x120).bind fun x194 => (bif (decide (x191 < (len x194.fCols))) then ((gi a1 x120).bind fun x201 => ((gi x201.fCols x191).bind fun x203 => ((f56 n x203.fName).bind fun r206 => (bif (!r206) then some 4 else ((gi a1 x120).bind fun x214 => ((f57 n x214 x203.fName).bind fun r216 => (bif (decide (r216 < x191)) then some 6 else ((f58 n x203.fKind 1 3).bind fun r221 => (bif (!r221) then (f17_k220 x191 (f17_l153 a1 x120 n (k125k) m153) true) else (bif (x203.fKind != 3) then (f17_k220 x191 (f17_l153 a1 x120 n (k125k) m153) (!(sEqF x203.fClass (ByteArray.mk #[])))) else (f17_k220 x191 (f17_l153 a1 x120 n (k125k) m153) false))))))))))) else (k125k)))
def f17_k333 (x319 : Int) (c296k : Int → Option Int) (x339 : Bool) : Option Int := (bif x339 then some 5 else (c296k (wr .i64 (x319 + 1))))
def f17_k292 (x287 : Int) (c232k : Int → Option Int) : Option Int := (c232k (wr .i64 (x287 + 1)))
def f17_l296 (a1 : (List Form)) (x287 : Int) (n : Nat) (k292k : Option Int) : Nat → Int → Option Int
  | 0, _ => none
  | m296 + 1, x319 => ((gi a1 x287).bind fun x322 => (bif (decide (x319 < (len x322.fCols))) then ((gi a1 x287).bind fun x329 => ((gi x329.fCols x319).bind fun x331 => (bif (x331.fKind == 3) then (bif (!(sEqF x331.fClass (ByteArray.mk #[65, 78, 89]))) then ((f55 n a1 x331.fClass).bind fun r337 => (f17_k333 x319 (f17_l296 a1 x287 n (k292k) m296) (decide (r337 < 0)))) else (f17_k333 x319 (f17_l296 a1 x287 n (k292k) m296) false)) else (f17_k333 x319 (f17_l296 a1 x287 n (k292k) m296) false)))) else (k292k)))
def f17_k229 : Option Int := some 0
def f17_l232 (a1 : (List Form)) (n : Nat) (k229k : Option Int) : Nat → Int → Option Int
  | 0, _ => none
  | m232 + 1, x287 => (bif (decide (x287 < (len a1))) then (f17_l296 a1 x287 n (f17_k292 x287 (f17_l232 a1 n (k229k) m232)) n 0) else (k229k))
def f17_k8 (n : Nat) (a1 : (List Form)) : Option Int := (f17_l232 a1 n (f17_k229) n 0)
def f17_l11 (a1 : (List Form)) (n : Nat) (k8k : Option Int) : Nat → Int → Option Int
  | 0, _ => none
  | m11 + 1, x120 => (bif (decide (x120 < (len a1))) then ((gi a1 x120).bind fun x128 => ((f54 n x128.fName).bind fun r130 => (bif (!r130) then some 4 else ((gi a1 x120).bind fun x138 => ((f55 n a1 x138.fName).bind fun r140 => (bif (decide (r140 < x120)) then some 6 else ((gi a1 x120).bind fun x146 => (bif (decide ((len x146.fCols) > 30)) then some 3 else (f17_l153 a1 x120 n (f17_k125 x120 (f17_l11 a1 n (k8k) m11)) n 0))))))))) else (k8k))
def f17 (n : Nat) (a1 : (List Form)) : Option Int := (bif (decide ((len a1) > 24)) then some 3 else (f17_l11 a1 n (f17_k8 n a1) n 0))
def f17_r (r : Int) : AV := (vI r)
theorem p_f17 {n : Nat} {a1 : (List Form)} {r : Int} (h : f17 n a1 = some r) : PureSpec Tryz.prog 47 [(vL Form.c a1)] (f17_r r) := by
 rw [f17.eq_1] at h
 refine pure_of hmix ic47 ?_
 refine go_to (mkd (.val undef) 129 0 [(0, (vL Form.c a1))]) ?_
 refine s_so fun N2 k2 w2 => ?_
 refine o_r1 [(2, (vI 0))] ?_
 refine o_end (k2 _ ?_)
 refine s_seq fun N3 k3 w3 => ?_
 refine s_so fun N4 k4 w4 => ?_
 refine o_r1 [(11, (vL Form.c a1))] ?_
 refine o_o (one_len (f := Form.c) (l := a1)) ?_
 refine o_r1 [(13, (vB (decide ((len a1) > 24))))] ?_
 refine o_end (k4 _ ?_)
 refine i_c [13] h (fun h => ?_) (fun h => ?_)
 · refine s_so fun N7 k7 w7 => ?_
   refine o_r1 [(2, (vI 3))] ?_
   refine o_end (k7 _ ?_)
   exact c_ret (rets [] [(vI 3)] [(vI 3)] h)
 · refine c_skip (k3 _ ?_)
   refine J0 (r := r) ⟨(mkd .any 129 0 [(0, (vL Form.c a1))]), []⟩ (f17_k8 n a1) ?_ ?_
   · intro h
     rw [f17_k8.eq_1] at h
     refine J0 (r := r) ⟨(mkd .any 129 0 []), []⟩ (f17_k229) ?_ ?_
     · intro h
       rw [f17_k229.eq_1] at h
       refine s_so fun N342 k342 w342 => ?_
       refine o_r1 [(2, (vI 0))] ?_
       refine o_end (k342 _ ?_)
       exact c_ret (rets [] [(vI 0)] [(vI 0)] h)
     · intro N229 w229
       refine s_so fun N230 k230 w230 => ?_
       refine o_r1 [(8, (vI 0))] ?_
       refine o_end (k230 _ ?_)
       refine c_block fun E231 hE231 hO231 => ?_
       refine W1 (fun (x287 : Int) => ⟨(mkd .any 129 0 [(0, (vL Form.c a1)), (8, (vI x287))]), []⟩) (f17_l232 a1 n (f17_k229)) h (wkm [0, 8] wh_nil) (by intros; rw [f17_l232.eq_1]) ?_
       intro m232 x287 h N232 w232
       rw [f17_l232.eq_2] at h
       refine s_seq fun N288 k288 w288 => ?_
       refine s_so fun N289 k289 w289 => ?_
       refine o_r2 [(90, (vI x287)), (91, (vL Form.c a1))] ?_
       refine o_o (one_len (f := Form.c) (l := a1)) ?_
       refine o_r1 [(93, (vB (decide (x287 < (len a1)))))] ?_
       refine o_end (k289 _ ?_)
       refine i_c [93] h (fun h => ?_) (fun h => ?_)
       · refine c_skip (k288 _ ?_)
         refine J0 (r := r) ⟨(mkd .any 129 0 [(0, (vL Form.c a1)), (8, (vI x287))]), []⟩ (f17_k292 x287 (f17_l232 a1 n (f17_k229) m232)) ?_ ?_
         · intro h
           rw [f17_k292.eq_1] at h
           refine c_ops ?_
           refine o_r3 [(8, (vI (wr .i64 (x287 + 1)))), (94, (vI x287)), (95, (vI (wr .i64 (x287 + 1))))] ?_
           exact o_end (w232 _ _ (wkm [0, 8] wh_nil) h)
         · intro N292 w292
           refine c_block fun E293 hE293 hO293 => ?_
           refine s_so fun N294 k294 w294 => ?_
           refine o_r1 [(9, (vI 0))] ?_
           refine o_end (k294 _ ?_)
           refine c_block fun E295 hE295 hO295 => ?_
           refine W1 (fun (x319 : Int) => ⟨(mkd .any 129 0 [(0, (vL Form.c a1)), (8, (vI x287)), (9, (vI x319))]), []⟩) (f17_l296 a1 x287 n (f17_k292 x287 (f17_l232 a1 n (f17_k229) m232))) h (wkm [0, 8, 9] wh_nil) (by intros; rw [f17_l296.eq_1]) ?_
           intro m296 x319 h N296 w296
           rw [f17_l296.eq_2] at h
           refine s_seq fun N320 k320 w320 => ?_
           refine s_so fun N321 k321 w321 => ?_
           refine o_r3 [(96, (vI x319)), (97, (vL Form.c a1)), (98, (vI x287))] ?_
           refine bnd h fun x322 g323 h => ?_
           refine o_o (one_ia (f := Form.c) (ki := .i64) g323) ?_
           refine o_r2 [(100, (.iptr [(vL Col.c x322.fCols)])), (101, (vL Col.c x322.fCols))] ?_
           refine o_o (one_len (f := Col.c) (l := x322.fCols)) ?_
           refine o_r1 [(103, (vB (decide (x319 < (len x322.fCols)))))] ?_
           refine o_end (k321 _ ?_)
           refine i_c [103] h (fun h => ?_) (fun h => ?_)
           · refine c_skip (k320 _ ?_)
             refine s_seq fun N326 k326 w326 => ?_
             refine c_block fun E327 hE327 hO327 => ?_
             refine s_so fun N328 k328 w328 => ?_
             refine o_r2 [(106, (vL Form.c a1)), (107, (vI x287))] ?_
             refine bnd h fun x329 g330 h => ?_
             refine o_o (one_ia (f := Form.c) (ki := .i64) g330) ?_
             refine o_r3 [(109, (.iptr [(vL Col.c x329.fCols)])), (110, (vL Col.c x329.fCols)), (111, (vI x319))] ?_
             refine bnd h fun x331 g332 h => ?_
             refine o_o (one_ia (f := Col.c) (ki := .i64) g332) ?_
             refine o_h3 [(10, (.ptr 0 0)), (113, (.agg [(vS x331.fName), (vI x331.fKind), (vS x331.fClass)]))] [(some (.box 68 [(vS x331.fName), (vI x331.fKind), (vS x331.fClass)]))] ?_
             refine o_end (w328 _ ⟨(mkd .any 129 0 [(0, (vL Form.c a1)), (8, (vI x287)), (9, (vI x319)), (10, (.ptr 0 0))]), [(some (.box 68 [(vS x331.fName), (vI x331.fKind), (vS x331.fClass)]))]⟩ (wkm [0, 8, 9, 10] (whk wh_nil)) ?_)
             refine J1 (r := r) (fun (x339 : Bool) => ⟨(mkd .any 129 0 [(0, (vL Form.c a1)), (8, (vI x287)), (9, (vI x319)), (128, (vB x339))]), []⟩) (f17_k333 x319 (f17_l296 a1 x287 n (f17_k292 x287 (f17_l232 a1 n (f17_k229) m232)) m296)) ?_ ?_
             · intro x339 h
               rw [f17_k333.eq_1] at h
               refine i_c [128] h (fun h => ?_) (fun h => ?_)
               · refine s_so fun N341 k341 w341 => ?_
                 refine o_r1 [(2, (vI 5))] ?_
                 refine o_end (k341 _ ?_)
                 exact c_ret (rets [] [(vI 5)] [(vI 5)] h)
               · refine c_skip (k326 _ ?_)
                 refine c_ops ?_
                 refine o_r3 [(9, (vI (wr .i64 (x319 + 1)))), (104, (vI x319)), (105, (vI (wr .i64 (x319 + 1))))] ?_
                 exact o_end (w296 _ _ (wkm [0, 8, 9] wh_nil) h)
             · intro N333 w333
               refine c_ops ?_
               refine o_r4 [(114, (.ptr 0 1)), (115, (vI x331.fKind)), (116, (vB (x331.fKind == 3))), (117, (vB (x331.fKind == 3)))] ?_
               refine i_o [116, 117] h (fun h => ?_) (fun h => ?_)
               · refine o_r2 [(118, (.ptr 0 2)), (119, (vS x331.fClass))] ?_
                 refine o_g ?_
                 refine o_o (one_sc (vs := [.string x331.fClass, .string (ByteArray.mk #[65, 78, 89])]) (str_neq x331.fClass (ByteArray.mk #[65, 78, 89]))) ?_
                 refine o_r2 [(121, (vB (!(sEqF x331.fClass (ByteArray.mk #[65, 78, 89]))))), (122, (vB (!(sEqF x331.fClass (ByteArray.mk #[65, 78, 89])))))] ?_
                 refine i_o [120, 121, 122] h (fun h => ?_) (fun h => ?_)
                 · refine o_r3 [(123, (vL Form.c a1)), (124, (.ptr 0 2)), (125, (vS x331.fClass))] ?_
                   refine bnd h fun r337 g338 h => ?_
                   refine o_g ?_
                   refine o_o (one_call (p_f55 g338)) ?_
                   refine o_r2 [(127, (vB (decide (r337 < 0)))), (128, (vB (decide (r337 < 0))))] ?_
                   exact o_end (w333 _ _ (wkm [0, 8, 9, 128] wh_nil) h)
                 · refine o_r6 [(123, (.val undef)), (124, (.val undef)), (125, (.val undef)), (126, (.val undef)), (127, (.val undef)), (128, (vB false))] ?_
                   exact o_end (w333 _ _ (wkm [0, 8, 9, 128] wh_nil) h)
               · refine o_r11 [(118, (.val undef)), (119, (.val undef)), (120, (.val undef)), (121, (vB false)), (122, (vB false)), (123, (.val undef)), (124, (.val undef)), (125, (.val undef)), (126, (.val undef)), (127, (.val undef)), (128, (vB false))] ?_
                 exact o_end (w333 _ _ (wkm [0, 8, 9, 128] wh_nil) h)
           · refine c_exit (hE295 _ ?_)
             exact w292 _ (wkm [0, 8] wh_nil) h
       · refine c_exit (hE231 _ ?_)
         exact w229 _ (wkm [] wh_nil) h
   · intro N8 w8
     refine s_so fun N9 k9 w9 => ?_
     refine o_r1 [(3, (vI 0))] ?_
     refine o_end (k9 _ ?_)
     refine c_block fun E10 hE10 hO10 => ?_
     refine W1 (fun (x120 : Int) => ⟨(mkd .any 129 0 [(0, (vL Form.c a1)), (3, (vI x120))]), []⟩) (f17_l11 a1 n (f17_k8 n a1)) h (wkm [0, 3] wh_nil) (by intros; rw [f17_l11.eq_1]) ?_
     intro m11 x120 h N11 w11
     rw [f17_l11.eq_2] at h
     refine s_seq fun N121 k121 w121 => ?_
     refine s_so fun N122 k122 w122 => ?_
     refine o_r2 [(14, (vI x120)), (15, (vL Form.c a1))] ?_
     refine o_o (one_len (f := Form.c) (l := a1)) ?_
     refine o_r1 [(17, (vB (decide (x120 < (len a1)))))] ?_
     refine o_end (k122 _ ?_)
     refine i_c [17] h (fun h => ?_) (fun h => ?_)
     · refine c_skip (k121 _ ?_)
       refine J0 (r := r) ⟨(mkd .any 129 0 [(0, (vL Form.c a1)), (3, (vI x120))]), []⟩ (f17_k125 x120 (f17_l11 a1 n (f17_k8 n a1) m11)) ?_ ?_
       · intro h
         rw [f17_k125.eq_1] at h
         refine c_ops ?_
         refine o_r3 [(3, (vI (wr .i64 (x120 + 1)))), (18, (vI x120)), (19, (vI (wr .i64 (x120 + 1))))] ?_
         exact o_end (w11 _ _ (wkm [0, 3] wh_nil) h)
       · intro N125 w125
         refine c_block fun E126 hE126 hO126 => ?_
         refine s_so fun N127 k127 w127 => ?_
         refine o_r2 [(20, (vL Form.c a1)), (21, (vI x120))] ?_
         refine bnd h fun x128 g129 h => ?_
         refine o_o (one_ia (f := Form.c) (ki := .i64) g129) ?_
         refine o_r2 [(23, (.iptr [(vS x128.fName), (vL Col.c x128.fCols)])), (24, (vS x128.fName))] ?_
         refine bnd h fun r130 g131 h => ?_
         refine o_o (one_call (p_f54 g131)) ?_
         refine o_r1 [(4, (vB r130))] ?_
         refine o_end (k127 _ ?_)
         refine s_seq fun N132 k132 w132 => ?_
         refine s_so fun N133 k133 w133 => ?_
         refine o_r2 [(26, (vB r130)), (27, (vB (!r130)))] ?_
         refine o_end (k133 _ ?_)
         refine i_c [27] h (fun h => ?_) (fun h => ?_)
         · refine s_so fun N135 k135 w135 => ?_
           refine o_r1 [(2, (vI 4))] ?_
           refine s_tm (mkd .any 129 0 [(0, (vL Form.c a1)), (2, (vI 4)), (3, (vI x120)), (4, (vB r130)), (14, (vI x120)), (15, (vL Form.c a1)), (16, (vI (len a1))), (17, (vB true)), (20, (vL Form.c a1)), (21, (vI x120)), (22, (.iptr [(vS x128.fName), (vL Col.c x128.fCols)])), (23, (.iptr [(vS x128.fName), (vL Col.c x128.fCols)])), (24, (vS x128.fName)), (25, (vB r130)), (26, (vB r130)), (27, (vB true))]) ?_
           refine o_end (k135 _ ?_)
           exact c_ret (rets [] [(vI 4)] [(vI 4)] h)
         · refine c_skip (k132 _ ?_)
           refine s_seq fun N136 k136 w136 => ?_
           refine s_so fun N137 k137 w137 => ?_
           refine o_r3 [(28, (vL Form.c a1)), (29, (vL Form.c a1)), (30, (vI x120))] ?_
           refine s_tm (mkd .any 129 0 [(0, (vL Form.c a1)), (3, (vI x120)), (4, (vB r130)), (14, (vI x120)), (15, (vL Form.c a1)), (16, (vI (len a1))), (17, (vB true)), (20, (vL Form.c a1)), (21, (vI x120)), (22, (.iptr [(vS x128.fName), (vL Col.c x128.fCols)])), (23, (.iptr [(vS x128.fName), (vL Col.c x128.fCols)])), (24, (vS x128.fName)), (25, (vB r130)), (26, (vB r130)), (27, (vB false)), (28, (vL Form.c a1)), (29, (vL Form.c a1)), (30, (vI x120))]) ?_
           refine bnd h fun x138 g139 h => ?_
           refine o_o (one_ia (f := Form.c) (ki := .i64) g139) ?_
           refine o_r2 [(32, (.iptr [(vS x138.fName), (vL Col.c x138.fCols)])), (33, (vS x138.fName))] ?_
           refine bnd h fun r140 g141 h => ?_
           refine o_o (one_call (p_f55 g141)) ?_
           refine o_r2 [(35, (vI x120)), (36, (vB (decide (r140 < x120))))] ?_
           refine o_end (w137 _ ⟨(mkd .any 129 0 [(0, (vL Form.c a1)), (3, (vI x120)), (36, (vB (decide (r140 < x120))))]), []⟩ (wkm [0, 3, 36] wh_nil) ?_)
           refine i_c [36] h (fun h => ?_) (fun h => ?_)
           · refine s_so fun N143 k143 w143 => ?_
             refine o_r1 [(2, (vI 6))] ?_
             refine o_end (k143 _ ?_)
             exact c_ret (rets [] [(vI 6)] [(vI 6)] h)
           · refine c_skip (k136 _ ?_)
             refine s_seq fun N144 k144 w144 => ?_
             refine s_so fun N145 k145 w145 => ?_
             refine o_r2 [(37, (vL Form.c a1)), (38, (vI x120))] ?_
             refine bnd h fun x146 g147 h => ?_
             refine o_o (one_ia (f := Form.c) (ki := .i64) g147) ?_
             refine o_r2 [(40, (.iptr [(vL Col.c x146.fCols)])), (41, (vL Col.c x146.fCols))] ?_
             refine o_o (one_len (f := Col.c) (l := x146.fCols)) ?_
             refine o_r1 [(43, (vB (decide ((len x146.fCols) > 30))))] ?_
             refine o_end (k145 _ ?_)
             refine i_c [43] h (fun h => ?_) (fun h => ?_)
             · refine s_so fun N150 k150 w150 => ?_
               refine o_r1 [(2, (vI 3))] ?_
               refine o_end (k150 _ ?_)
               exact c_ret (rets [] [(vI 3)] [(vI 3)] h)
             · refine c_skip (k144 _ ?_)
               refine s_so fun N151 k151 w151 => ?_
               refine o_r1 [(5, (vI 0))] ?_
               refine o_end (k151 _ ?_)
               refine c_block fun E152 hE152 hO152 => ?_
               refine W1 (fun (x191 : Int) => ⟨(mkd .any 129 0 [(0, (vL Form.c a1)), (3, (vI x120)), (5, (vI x191))]), []⟩) (f17_l153 a1 x120 n (f17_k125 x120 (f17_l11 a1 n (f17_k8 n a1) m11))) h (wkm [0, 3, 5] wh_nil) (by intros; rw [f17_l153.eq_1]) ?_
               intro m153 x191 h N153 w153
               rw [f17_l153.eq_2] at h
               refine s_seq fun N192 k192 w192 => ?_
               refine s_so fun N193 k193 w193 => ?_
               refine o_r3 [(44, (vI x191)), (45, (vL Form.c a1)), (46, (vI x120))] ?_
               refine bnd h fun x194 g195 h => ?_
               refine o_o (one_ia (f := Form.c) (ki := .i64) g195) ?_
               refine o_r2 [(48, (.iptr [(vL Col.c x194.fCols)])), (49, (vL Col.c x194.fCols))] ?_
               refine o_o (one_len (f := Col.c) (l := x194.fCols)) ?_
               refine o_r1 [(51, (vB (decide (x191 < (len x194.fCols)))))] ?_
               refine o_end (k193 _ ?_)
               refine i_c [51] h (fun h => ?_) (fun h => ?_)
               · refine c_skip (k192 _ ?_)
                 refine s_seq fun N198 k198 w198 => ?_
                 refine c_block fun E199 hE199 hO199 => ?_
                 refine s_so fun N200 k200 w200 => ?_
                 refine o_r2 [(54, (vL Form.c a1)), (55, (vI x120))] ?_
                 refine bnd h fun x201 g202 h => ?_
                 refine o_o (one_ia (f := Form.c) (ki := .i64) g202) ?_
                 refine o_r3 [(57, (.iptr [(vL Col.c x201.fCols)])), (58, (vL Col.c x201.fCols)), (59, (vI x191))] ?_
                 refine bnd h fun x203 g204 h => ?_
                 refine o_o (one_ia (f := Col.c) (ki := .i64) g204) ?_
                 refine o_h3 [(6, (.ptr 0 0)), (61, (.agg [(vS x203.fName), (vI x203.fKind), (vS x203.fClass)]))] [(some (.box 68 [(vS x203.fName), (vI x203.fKind), (vS x203.fClass)]))] ?_
                 refine o_end (w200 _ ⟨(mkd .any 129 0 [(0, (vL Form.c a1)), (3, (vI x120)), (5, (vI x191)), (6, (.ptr 0 0))]), [(some (.box 68 [(vS x203.fName), (vI x203.fKind), (vS x203.fClass)]))]⟩ (wkm [0, 3, 5, 6] (whk wh_nil)) ?_)
                 refine s_so fun N205 k205 w205 => ?_
                 refine o_r2 [(62, (.ptr 0 0)), (63, (vS x203.fName))] ?_
                 refine bnd h fun r206 g207 h => ?_
                 refine o_o (one_call (p_f56 g207)) ?_
                 refine o_r1 [(7, (vB r206))] ?_
                 refine o_end (k205 _ ?_)
                 refine s_seq fun N208 k208 w208 => ?_
                 refine s_so fun N209 k209 w209 => ?_
                 refine o_r2 [(65, (vB r206)), (66, (vB (!r206)))] ?_
                 refine o_end (k209 _ ?_)
                 refine i_c [66] h (fun h => ?_) (fun h => ?_)
                 · refine s_so fun N211 k211 w211 => ?_
                   refine o_r1 [(2, (vI 4))] ?_
                   refine o_end (k211 _ ?_)
                   exact c_ret (rets [] [(vI 4)] [(vI 4)] h)
                 · refine c_skip (k208 _ ?_)
                   refine s_seq fun N212 k212 w212 => ?_
                   refine s_seq fun N213 k213 w213 => ?_
                   refine c_draw0 ?_
                   refine d_r2 [(67, (vL Form.c a1)), (68, (vI x120))] ?_
                   refine bnd h fun x214 g215 h => ?_
                   refine d_o (one_ia (f := Form.c) (ki := .i64) g215) ?_
                   refine d_r3 [(70, (.agg [(vS x214.fName), (vL Col.c x214.fCols)])), (71, (.ptr 0 0)), (72, (vS x203.fName))] ?_
                   refine bnd h fun r216 g217 h => ?_
                   refine d_o (one_call (p_f57 g217)) ?_
                   refine d_r2 [(74, (vI x191)), (75, (vB (decide (r216 < x191))))] ?_
                   refine d_end (k213 _ ?_)
                   refine i_c [75] h (fun h => ?_) (fun h => ?_)
                   · refine s_so fun N219 k219 w219 => ?_
                     refine o_r1 [(2, (vI 6))] ?_
                     refine s_tm (mkd .any 129 0 [(0, (vL Form.c a1)), (2, (vI 6)), (3, (vI x120)), (5, (vI x191)), (6, (.ptr 0 0)), (7, (vB r206)), (62, (.ptr 0 0)), (63, (vS x203.fName)), (64, (vB r206)), (65, (vB r206)), (66, (vB false)), (67, (vL Form.c a1)), (68, (vI x120)), (69, (.iptr [(vS x214.fName), (vL Col.c x214.fCols)])), (70, (.agg [(vS x214.fName), (vL Col.c x214.fCols)])), (71, (.ptr 0 0)), (72, (vS x203.fName)), (73, (vI r216)), (74, (vI x191)), (75, (vB true))]) ?_
                     refine o_end (w219 _ ⟨(mkd .any 129 0 [(2, (vI 6))]), []⟩ (wkm [2] wh_nil) ?_)
                     exact c_ret (rets [] [(vI 6)] [(vI 6)] h)
                   · refine c_skip (k212 _ ?_)
                     refine J1 (r := r) (fun (x226 : Bool) => ⟨(mkd .any 129 0 [(0, (vL Form.c a1)), (3, (vI x120)), (5, (vI x191)), (89, (vB x226))]), []⟩) (f17_k220 x191 (f17_l153 a1 x120 n (f17_k125 x120 (f17_l11 a1 n (f17_k8 n a1) m11)) m153)) ?_ ?_
                     · intro x226 h
                       rw [f17_k220.eq_1] at h
                       refine i_c [89] h (fun h => ?_) (fun h => ?_)
                       · refine s_so fun N228 k228 w228 => ?_
                         refine o_r1 [(2, (vI 1))] ?_
                         refine o_end (k228 _ ?_)
                         exact c_ret (rets [] [(vI 1)] [(vI 1)] h)
                       · refine c_skip (k198 _ ?_)
                         refine c_ops ?_
                         refine o_r3 [(5, (vI (wr .i64 (x191 + 1)))), (52, (vI x191)), (53, (vI (wr .i64 (x191 + 1))))] ?_
                         exact o_end (w153 _ _ (wkm [0, 3, 5] wh_nil) h)
                     · intro N220 w220
                       refine c_ops ?_
                       refine o_r2 [(76, (.ptr 0 1)), (77, (vI x203.fKind))] ?_
                       refine s_tm (mkd .any 129 0 [(0, (vL Form.c a1)), (3, (vI x120)), (5, (vI x191)), (6, (.ptr 0 0)), (7, (vB r206)), (62, (.ptr 0 0)), (63, (vS x203.fName)), (64, (vB r206)), (65, (vB r206)), (66, (vB false)), (67, (vL Form.c a1)), (68, (vI x120)), (69, (.iptr [(vS x214.fName), (vL Col.c x214.fCols)])), (70, (.agg [(vS x214.fName), (vL Col.c x214.fCols)])), (71, (.ptr 0 0)), (72, (vS x203.fName)), (73, (vI r216)), (74, (vI x191)), (75, (vB false)), (76, (.ptr 0 1)), (77, (vI x203.fKind))]) ?_
                       refine bnd h fun r221 g222 h => ?_
                       refine o_o (one_call (p_f58 g222)) ?_
                       refine o_r2 [(79, (vB (!r221))), (80, (vB (!r221)))] ?_
                       refine i_o [79, 80] h (fun h => ?_) (fun h => ?_)
                       · refine o_r9 [(81, (.val undef)), (82, (.val undef)), (83, (.val undef)), (84, (.val undef)), (85, (.val undef)), (86, (.val undef)), (87, (.val undef)), (88, (.val undef)), (89, (vB true))] ?_
                         exact o_end (w220 _ _ (wkm [0, 3, 5, 89] wh_nil) h)
                       · refine o_r4 [(81, (.ptr 0 1)), (82, (vI x203.fKind)), (83, (vB (x203.fKind != 3))), (84, (vB (x203.fKind != 3)))] ?_
                         refine i_o [83, 84] h (fun h => ?_) (fun h => ?_)
                         · refine o_r2 [(85, (.ptr 0 2)), (86, (vS x203.fClass))] ?_
                           refine o_g ?_
                           refine o_o (one_sc (vs := [.string x203.fClass, .string (ByteArray.mk #[])]) (str_neq x203.fClass (ByteArray.mk #[]))) ?_
                           refine o_r2 [(88, (vB (!(sEqF x203.fClass (ByteArray.mk #[]))))), (89, (vB (!(sEqF x203.fClass (ByteArray.mk #[])))))] ?_
                           exact o_end (w220 _ _ (wkm [0, 3, 5, 89] wh_nil) h)
                         · refine o_r5 [(85, (.val undef)), (86, (.val undef)), (87, (.val undef)), (88, (vB false)), (89, (vB false))] ?_
                           exact o_end (w220 _ _ (wkm [0, 3, 5, 89] wh_nil) h)
               · refine c_exit (hE152 _ ?_)
                 exact w125 _ (wkm [0, 3] wh_nil) h
     · refine c_exit (hE10 _ ?_)
       exact w8 _ (wkm [0] wh_nil) h
theorem ic41 : fnIC Tryz.prog H0 41 = some ([.tmp 4], 20, (.seq (.ops [zO 4 (.mov (.c (.int .i64 0)))]) (.seq (.seq (.ops [zO 5 (.mov (.c (.int .i64 0)))]) (.block 0 (.loop (.seq (.seq (.ops [zM 6 5, zM 7 0, zO 8 (.len false (.t 7)), zO 9 (.sc (.bin .lss 3) [(.t 6), (.t 8)])]) (.cond (.t 9)
  .skip
  (.exit 0))) (.seq (.block 1 (.seq (.ops [zM 12 0, zM 13 5, zO 14 (.iaddr 3 (.t 12) (.t 13)), zO 15 (.faddr (.t 14) 0), zO 16 (.ld (.t 15) 1 false), zM 17 1, zO 18 (.sc (.bin .eql 9) [(.t 16), (.t 17)])]) (.cond (.t 18)
  (.seq (.ops [zM 19 5, zM 4 19]) .ret)
  .skip))) (.ops [zM 10 5, zO 11 (.sc (.bin .add 3) [(.t 10), (.c (.int .i64 1))]), zM 5 11])))))) (.seq (.ops [zO 4 (.mov (.c (.int .i64 (-1))))]) .ret)))) := by kernel_rfl
def f212_k4 : Option Int := some (-1)
def f212_l7 (a1 : (List Rule)) (a2 : ByteArray) (k4k : Option Int) : Nat → Int → Option Int
  | 0, _ => none
  | m7 + 1, x20 => (bif (decide (x20 < (len a1))) then ((gi a1 x20).bind fun x28 => (bif (sEqF x28.fClass a2) then some x20 else (f212_l7 a1 a2 (k4k) m7 (wr .i64 (x20 + 1))))) else (k4k))
def f212 (n : Nat) (a1 : (List Rule)) (a2 : ByteArray) : Option Int := (f212_l7 a1 a2 (f212_k4) n 0)
def f212_r (r : Int) : AV := (vI r)
theorem p_f212 {n : Nat} {a1 : (List Rule)} {a2 : ByteArray} {r : Int} (h : f212 n a1 a2 = some r) : PureSpec Tryz.prog 41 [(vL Rule.c a1), (vS a2)] (f212_r r) := by
 rw [f212.eq_1] at h
 refine pure_of hmix ic41 ?_
 refine go_to (mkd (.val undef) 20 0 [(0, (vL Rule.c a1)), (1, (vS a2))]) ?_
 refine s_so fun N3 k3 w3 => ?_
 refine o_r1 [(4, (vI 0))] ?_
 refine o_end (k3 _ ?_)
 refine J0 (r := r) ⟨(mkd .any 20 0 []), []⟩ (f212_k4) ?_ ?_
 · intro h
   rw [f212_k4.eq_1] at h
   refine s_so fun N33 k33 w33 => ?_
   refine o_r1 [(4, (vI (-1)))] ?_
   refine o_end (k33 _ ?_)
   exact c_ret (rets [] [(vI (-1))] [(vI (-1))] h)
 · intro N4 w4
   refine s_so fun N5 k5 w5 => ?_
   refine o_r1 [(5, (vI 0))] ?_
   refine o_end (k5 _ ?_)
   refine c_block fun E6 hE6 hO6 => ?_
   refine W1 (fun (x20 : Int) => ⟨(mkd .any 20 0 [(0, (vL Rule.c a1)), (1, (vS a2)), (5, (vI x20))]), []⟩) (f212_l7 a1 a2 (f212_k4)) h (wkm [0, 1, 5] wh_nil) (by intros; rw [f212_l7.eq_1]) ?_
   intro m7 x20 h N7 w7
   rw [f212_l7.eq_2] at h
   refine s_seq fun N21 k21 w21 => ?_
   refine s_so fun N22 k22 w22 => ?_
   refine o_r2 [(6, (vI x20)), (7, (vL Rule.c a1))] ?_
   refine o_o (one_len (f := Rule.c) (l := a1)) ?_
   refine o_r1 [(9, (vB (decide (x20 < (len a1)))))] ?_
   refine o_end (k22 _ ?_)
   refine i_c [9] h (fun h => ?_) (fun h => ?_)
   · refine c_skip (k21 _ ?_)
     refine s_seq fun N25 k25 w25 => ?_
     refine c_block fun E26 hE26 hO26 => ?_
     refine s_so fun N27 k27 w27 => ?_
     refine o_r2 [(12, (vL Rule.c a1)), (13, (vI x20))] ?_
     refine bnd h fun x28 g29 h => ?_
     refine o_o (one_ia (f := Rule.c) (ki := .i64) g29) ?_
     refine o_r3 [(15, (.iptr [(vS x28.fClass), (vS x28.fTo), (vL Give.c x28.fGives)])), (16, (vS x28.fClass)), (17, (vS a2))] ?_
     refine o_o (one_sc (vs := [.string x28.fClass, .string a2]) (str_eql x28.fClass a2)) ?_
     refine o_end (k27 _ ?_)
     refine i_c [18] h (fun h => ?_) (fun h => ?_)
     · refine s_so fun N32 k32 w32 => ?_
       refine o_r2 [(4, (vI x20)), (19, (vI x20))] ?_
       refine o_end (k32 _ ?_)
       exact c_ret (rets [] [(vI x20)] [(vI x20)] h)
     · refine c_skip (k25 _ ?_)
       refine c_ops ?_
       refine o_r3 [(5, (vI (wr .i64 (x20 + 1)))), (10, (vI x20)), (11, (vI (wr .i64 (x20 + 1))))] ?_
       exact o_end (w7 _ _ (wkm [0, 1, 5] wh_nil) h)
   · refine c_exit (hE6 _ ?_)
     exact w4 _ (wkm [] wh_nil) h
theorem ic51 : fnIC Tryz.prog H0 51 = some ([.tmp 2], 5, (.seq (.ops [zO 2 (.mov (.c (.bool false)))]) (.seq (.ops [zM 3 0, zO 4 (.call 68 [(.t 3), (.c (.int .i64 1)), (.c (.int .i64 5))]), zM 2 4]) .ret))) := by kernel_rfl
def f217 (n : Nat) (a1 : Int) : Option Bool := ((f58 n a1 1 5).bind fun r4 => some r4)
def f217_r (r : Bool) : AV := (vB r)
theorem p_f217 {n : Nat} {a1 : Int} {r : Bool} (h : f217 n a1 = some r) : PureSpec Tryz.prog 51 [(vI a1)] (f217_r r) := by
 rw [f217.eq_1] at h
 refine pure_of hmix ic51 ?_
 refine go_to (mkd (.val undef) 5 0 [(0, (vI a1))]) ?_
 refine s_so fun N2 k2 w2 => ?_
 refine o_r1 [(2, (vB false))] ?_
 refine o_end (k2 _ ?_)
 refine s_so fun N3 k3 w3 => ?_
 refine o_r1 [(3, (vI a1))] ?_
 refine bnd h fun r4 g5 h => ?_
 refine o_o (one_call (p_f58 g5)) ?_
 refine o_r1 [(2, (vB r4))] ?_
 refine o_end (k3 _ ?_)
 exact c_ret (rets [] [(vB r4)] [(vB r4)] h)
theorem ic95 : fnIC Tryz.prog H0 95 = some ([.tmp 4], 46, (.seq (.ops [zO 2 (.box 0 82 [] (.t 0)), zO 3 (.box 0 68 [] (.t 1)), zO 4 (.mov (.c (.bool false)))]) (.seq (.seq (.ops [zO 5 (.faddr (.t 2) 1), zO 6 (.ld (.t 5) 1 false)]) (.block 0 (.seq (.ops [zO 8 (.sc (.bin .eql 3) [(.t 6), (.c (.int .i64 4))]), zM 7 8]) (.cond (.t 7)
  (.seq (.ops [zO 9 (.faddr (.t 2) 2), zO 10 (.ld (.t 9) 1 false), zO 11 (.call 68 [(.t 10), (.c (.int .i64 (-1099511627776))), (.c (.int .i64 1099511627776))]), zM 4 11]) .ret)
  (.seq (.ops [zO 13 (.sc (.bin .eql 3) [(.t 6), (.c (.int .i64 6))]), zM 12 13]) (.cond (.t 12)
  (.seq (.seq (.ops [zO 14 (.faddr (.t 3) 1), zO 15 (.ld (.t 14) 1 false), zO 16 (.sc (.bin .eql 3) [(.t 15), (.c (.int .i64 2))])]) (.cond (.t 16)
  (.seq (.ops [zO 17 (.faddr (.t 2) 0), zO 18 (.ld (.t 17) 1 false), zO 19 (.sc (.bin .eql 9) [(.t 18), (.c (.string ⟨#[]⟩))]), zM 20 19, zG 21 20 true (.faddr (.t 2) 2), zG 22 20 true (.ld (.t 21) 1 false), zG 23 20 true (.call 68 [(.t 22), (.c (.int .i64 0)), (.c (.int .i64 1))]), zO 24 (.pick (.t 20) (.t 23) (.c (.bool false))), zM 4 24]) .ret)
  .skip)) (.seq (.ops [zO 25 (.faddr (.t 2) 0), zO 26 (.ld (.t 25) 1 false), zO 27 (.sc (.bin .eql 9) [(.t 26), (.c (.string ⟨#[]⟩))]), zM 28 27, zG 29 28 true (.faddr (.t 2) 2), zG 30 28 true (.ld (.t 29) 1 false), zG 31 28 true (.call 68 [(.t 30), (.c (.int .i64 (-1099511627776))), (.c (.int .i64 1099511627776))]), zO 32 (.pick (.t 28) (.t 31) (.c (.bool false))), zM 4 32]) .ret))
  (.seq (.ops [zO 34 (.sc (.bin .eql 3) [(.t 6), (.c (.int .i64 7))]), zM 33 34]) (.cond (.t 33)
  (.seq (.ops [zO 35 (.faddr (.t 2) 0), zO 36 (.ld (.t 35) 1 false), zO 37 (.sc (.bin .eql 9) [(.t 36), (.c (.string ⟨#[]⟩))]), zM 38 37, zG 39 38 true (.faddr (.t 2) 2), zG 40 38 true (.ld (.t 39) 1 false), zG 41 38 true (.sc (.bin .eql 3) [(.t 40), (.c (.int .i64 0))]), zO 42 (.pick (.t 38) (.t 41) (.c (.bool false))), zM 4 42]) .ret)
  .skip)))))))) (.seq (.ops [zO 43 (.faddr (.t 2) 2), zO 44 (.ld (.t 43) 1 false), zO 45 (.sc (.bin .eql 3) [(.t 44), (.c (.int .i64 0))]), zM 4 45]) .ret)))) := by kernel_rfl
def f225_k17 (x22 : Bool) : Option Bool := some x22
def f225_k23 (x28 : Bool) : Option Bool := some x28
def f225_k31 (x34 : Bool) : Option Bool := some x34
def f225 (n : Nat) (a1 : Give) (a2 : Col) : Option Bool := (bif (a1.fHow == 4) then ((f58 n a1.fN (-1099511627776) 1099511627776).bind fun r10 => some r10) else (bif (a1.fHow == 6) then (bif (a2.fKind == 2) then (bif (sEqF a1.fFrom (ByteArray.mk #[])) then ((f58 n a1.fN 0 1).bind fun r20 => (f225_k17 r20)) else (f225_k17 false)) else (bif (sEqF a1.fFrom (ByteArray.mk #[])) then ((f58 n a1.fN (-1099511627776) 1099511627776).bind fun r26 => (f225_k23 r26)) else (f225_k23 false))) else (bif (a1.fHow == 7) then (bif (sEqF a1.fFrom (ByteArray.mk #[])) then (f225_k31 (a1.fN == 0)) else (f225_k31 false)) else some (a1.fN == 0))))
def f225_r (r : Bool) : AV := (vB r)
theorem p_f225 {n : Nat} {a1 : Give} {a2 : Col} {r : Bool} (h : f225 n a1 a2 = some r) : PureSpec Tryz.prog 95 [(.agg [(vS a1.fFrom), (vI a1.fHow), (vI a1.fN)]), (.agg [(vS a2.fName), (vI a2.fKind), (vS a2.fClass)])] (f225_r r) := by
 rw [f225.eq_1] at h
 refine pure_of hmix ic95 ?_
 refine go_to (mkd (.val undef) 46 0 [(0, (.agg [(vS a1.fFrom), (vI a1.fHow), (vI a1.fN)])), (1, (.agg [(vS a2.fName), (vI a2.fKind), (vS a2.fClass)]))]) ?_
 refine s_so fun N3 k3 w3 => ?_
 refine o_h3 [(2, (.ptr 0 0)), (3, (.ptr 1 0)), (4, (vB false))] [(some (.box 82 [(vS a1.fFrom), (vI a1.fHow), (vI a1.fN)])), (some (.box 68 [(vS a2.fName), (vI a2.fKind), (vS a2.fClass)]))] ?_
 refine o_end (k3 _ ?_)
 refine s_seq fun N4 k4 w4 => ?_
 refine s_so fun N5 k5 w5 => ?_
 refine o_r2 [(5, (.ptr 0 1)), (6, (vI a1.fHow))] ?_
 refine o_end (k5 _ ?_)
 refine c_block fun E6 hE6 hO6 => ?_
 refine s_so fun N7 k7 w7 => ?_
 refine o_r2 [(7, (vB (a1.fHow == 4))), (8, (vB (a1.fHow == 4)))] ?_
 refine o_end (k7 _ ?_)
 refine i_c [7, 8] h (fun h => ?_) (fun h => ?_)
 · refine s_so fun N9 k9 w9 => ?_
   refine o_r2 [(9, (.ptr 0 2)), (10, (vI a1.fN))] ?_
   refine bnd h fun r10 g11 h => ?_
   refine o_o (one_call (p_f58 g11)) ?_
   refine o_r1 [(4, (vB r10))] ?_
   refine o_end (k9 _ ?_)
   exact c_ret (rets [] [(vB r10)] [(vB r10)] h)
 · refine s_so fun N12 k12 w12 => ?_
   refine o_r2 [(12, (vB (a1.fHow == 6))), (13, (vB (a1.fHow == 6)))] ?_
   refine o_end (k12 _ ?_)
   refine i_c [12, 13] h (fun h => ?_) (fun h => ?_)
   · refine s_seq fun N14 k14 w14 => ?_
     refine s_so fun N15 k15 w15 => ?_
     refine o_r3 [(14, (.ptr 1 1)), (15, (vI a2.fKind)), (16, (vB (a2.fKind == 2)))] ?_
     refine o_end (k15 _ ?_)
     refine i_c [16] h (fun h => ?_) (fun h => ?_)
     · refine J1 (r := r) (fun (x22 : Bool) => ⟨(mkd .any 46 0 [(4, (vB x22))]), []⟩) (f225_k17) ?_ ?_
       · intro x22 h
         rw [f225_k17.eq_1] at h
         exact c_ret (rets [] [(vB x22)] [(vB x22)] h)
       · intro N17 w17
         refine c_ops ?_
         refine o_r2 [(17, (.ptr 0 0)), (18, (vS a1.fFrom))] ?_
         refine o_o (one_sc (vs := [.string a1.fFrom, .string (ByteArray.mk #[])]) (str_eql a1.fFrom (ByteArray.mk #[]))) ?_
         refine o_r1 [(20, (vB (sEqF a1.fFrom (ByteArray.mk #[]))))] ?_
         refine i_o [19, 20] h (fun h => ?_) (fun h => ?_)
         · refine o_r2 [(21, (.ptr 0 2)), (22, (vI a1.fN))] ?_
           refine s_tm (mkd (.val undef) 46 0 [(0, (.agg [(vS a1.fFrom), (vI a1.fHow), (vI a1.fN)])), (1, (.agg [(vS a2.fName), (vI a2.fKind), (vS a2.fClass)])), (2, (.ptr 0 0)), (3, (.ptr 1 0)), (4, (vB false)), (5, (.ptr 0 1)), (6, (vI a1.fHow)), (7, (vB false)), (8, (vB false)), (12, (vB true)), (13, (vB true)), (14, (.ptr 1 1)), (15, (vI a2.fKind)), (16, (vB true)), (17, (.ptr 0 0)), (18, (vS a1.fFrom)), (19, (vB true)), (20, (vB true)), (21, (.ptr 0 2)), (22, (vI a1.fN))]) ?_
           refine bnd h fun r20 g21 h => ?_
           refine o_g ?_
           refine o_o (one_call (p_f58 g21)) ?_
           refine o_r2 [(4, (vB r20)), (24, (vB r20))] ?_
           exact o_end (w17 _ _ (wkm [4] wh_nil) h)
         · refine o_r5 [(21, (.val undef)), (22, (.val undef)), (23, (.val undef)), (24, (vB false))] ?_
           refine s_tm (mkd (.val undef) 46 0 [(0, (.agg [(vS a1.fFrom), (vI a1.fHow), (vI a1.fN)])), (1, (.agg [(vS a2.fName), (vI a2.fKind), (vS a2.fClass)])), (2, (.ptr 0 0)), (3, (.ptr 1 0)), (4, (vB false)), (5, (.ptr 0 1)), (6, (vI a1.fHow)), (7, (vB false)), (8, (vB false)), (12, (vB true)), (13, (vB true)), (14, (.ptr 1 1)), (15, (vI a2.fKind)), (16, (vB true)), (17, (.ptr 0 0)), (18, (vS a1.fFrom)), (19, (vB false)), (20, (vB false)), (21, (.val undef)), (22, (.val undef)), (23, (.val undef)), (24, (vB false))]) ?_
           exact o_end (w17 _ _ (wkm [4] wh_nil) h)
     · refine c_skip (k14 _ ?_)
       refine J1 (r := r) (fun (x28 : Bool) => ⟨(mkd .any 46 0 [(4, (vB x28))]), []⟩) (f225_k23) ?_ ?_
       · intro x28 h
         rw [f225_k23.eq_1] at h
         exact c_ret (rets [] [(vB x28)] [(vB x28)] h)
       · intro N23 w23
         refine c_ops ?_
         refine o_r2 [(25, (.ptr 0 0)), (26, (vS a1.fFrom))] ?_
         refine o_o (one_sc (vs := [.string a1.fFrom, .string (ByteArray.mk #[])]) (str_eql a1.fFrom (ByteArray.mk #[]))) ?_
         refine o_r1 [(28, (vB (sEqF a1.fFrom (ByteArray.mk #[]))))] ?_
         refine i_o [27, 28] h (fun h => ?_) (fun h => ?_)
         · refine o_r2 [(29, (.ptr 0 2)), (30, (vI a1.fN))] ?_
           refine s_tm (mkd (.val undef) 46 0 [(0, (.agg [(vS a1.fFrom), (vI a1.fHow), (vI a1.fN)])), (1, (.agg [(vS a2.fName), (vI a2.fKind), (vS a2.fClass)])), (2, (.ptr 0 0)), (3, (.ptr 1 0)), (4, (vB false)), (5, (.ptr 0 1)), (6, (vI a1.fHow)), (7, (vB false)), (8, (vB false)), (12, (vB true)), (13, (vB true)), (14, (.ptr 1 1)), (15, (vI a2.fKind)), (16, (vB false)), (25, (.ptr 0 0)), (26, (vS a1.fFrom)), (27, (vB true)), (28, (vB true)), (29, (.ptr 0 2)), (30, (vI a1.fN))]) ?_
           refine bnd h fun r26 g27 h => ?_
           refine o_g ?_
           refine o_o (one_call (p_f58 g27)) ?_
           refine o_r2 [(4, (vB r26)), (32, (vB r26))] ?_
           exact o_end (w23 _ _ (wkm [4] wh_nil) h)
         · refine o_r5 [(29, (.val undef)), (30, (.val undef)), (31, (.val undef)), (32, (vB false))] ?_
           refine s_tm (mkd (.val undef) 46 0 [(0, (.agg [(vS a1.fFrom), (vI a1.fHow), (vI a1.fN)])), (1, (.agg [(vS a2.fName), (vI a2.fKind), (vS a2.fClass)])), (2, (.ptr 0 0)), (3, (.ptr 1 0)), (4, (vB false)), (5, (.ptr 0 1)), (6, (vI a1.fHow)), (7, (vB false)), (8, (vB false)), (12, (vB true)), (13, (vB true)), (14, (.ptr 1 1)), (15, (vI a2.fKind)), (16, (vB false)), (25, (.ptr 0 0)), (26, (vS a1.fFrom)), (27, (vB false)), (28, (vB false)), (29, (.val undef)), (30, (.val undef)), (31, (.val undef)), (32, (vB false))]) ?_
           exact o_end (w23 _ _ (wkm [4] wh_nil) h)
   · refine s_so fun N29 k29 w29 => ?_
     refine o_r2 [(33, (vB (a1.fHow == 7))), (34, (vB (a1.fHow == 7)))] ?_
     refine o_end (k29 _ ?_)
     refine i_c [33, 34] h (fun h => ?_) (fun h => ?_)
     · refine J1 (r := r) (fun (x34 : Bool) => ⟨(mkd .any 46 0 [(4, (vB x34))]), []⟩) (f225_k31) ?_ ?_
       · intro x34 h
         rw [f225_k31.eq_1] at h
         exact c_ret (rets [] [(vB x34)] [(vB x34)] h)
       · intro N31 w31
         refine c_ops ?_
         refine o_r2 [(35, (.ptr 0 0)), (36, (vS a1.fFrom))] ?_
         refine o_o (one_sc (vs := [.string a1.fFrom, .string (ByteArray.mk #[])]) (str_eql a1.fFrom (ByteArray.mk #[]))) ?_
         refine o_r1 [(38, (vB (sEqF a1.fFrom (ByteArray.mk #[]))))] ?_
         refine i_o [37, 38] h (fun h => ?_) (fun h => ?_)
         · refine o_r5 [(4, (vB (a1.fN == 0))), (39, (.ptr 0 2)), (40, (vI a1.fN)), (41, (vB (a1.fN == 0))), (42, (vB (a1.fN == 0)))] ?_
           refine s_tm (mkd (.val undef) 46 0 [(0, (.agg [(vS a1.fFrom), (vI a1.fHow), (vI a1.fN)])), (1, (.agg [(vS a2.fName), (vI a2.fKind), (vS a2.fClass)])), (2, (.ptr 0 0)), (3, (.ptr 1 0)), (4, (vB (a1.fN == 0))), (5, (.ptr 0 1)), (6, (vI a1.fHow)), (7, (vB false)), (8, (vB false)), (12, (vB false)), (13, (vB false)), (33, (vB true)), (34, (vB true)), (35, (.ptr 0 0)), (36, (vS a1.fFrom)), (37, (vB true)), (38, (vB true)), (39, (.ptr 0 2)), (40, (vI a1.fN)), (41, (vB (a1.fN == 0))), (42, (vB (a1.fN == 0)))]) ?_
           exact o_end (w31 _ _ (wkm [4] wh_nil) h)
         · refine o_r5 [(39, (.val undef)), (40, (.val undef)), (41, (.val undef)), (42, (vB false))] ?_
           refine s_tm (mkd (.val undef) 46 0 [(0, (.agg [(vS a1.fFrom), (vI a1.fHow), (vI a1.fN)])), (1, (.agg [(vS a2.fName), (vI a2.fKind), (vS a2.fClass)])), (2, (.ptr 0 0)), (3, (.ptr 1 0)), (4, (vB false)), (5, (.ptr 0 1)), (6, (vI a1.fHow)), (7, (vB false)), (8, (vB false)), (12, (vB false)), (13, (vB false)), (33, (vB true)), (34, (vB true)), (35, (.ptr 0 0)), (36, (vS a1.fFrom)), (37, (vB false)), (38, (vB false)), (39, (.val undef)), (40, (.val undef)), (41, (.val undef)), (42, (vB false))]) ?_
           exact o_end (w31 _ _ (wkm [4] wh_nil) h)
     · refine c_skip (k4 _ ?_)
       refine s_so fun N35 k35 w35 => ?_
       refine o_r4 [(4, (vB (a1.fN == 0))), (43, (.ptr 0 2)), (44, (vI a1.fN)), (45, (vB (a1.fN == 0)))] ?_
       refine o_end (k35 _ ?_)
       exact c_ret (rets [] [(vB (a1.fN == 0))] [(vB (a1.fN == 0))] h)
theorem ic143 : fnIC Tryz.prog H0 143 = some ([.tmp 4], 16, (.seq (.ops [zO 4 (.mov (.c (.string ⟨#[]⟩)))]) (.seq (.ops [zM 6 0, zM 7 1, zO 8 (.call 41 [(.t 6), (.t 7)]), zM 5 8]) (.seq (.seq (.ops [zM 9 5, zO 10 (.sc (.bin .lss 3) [(.t 9), (.c (.int .i64 0))])]) (.cond (.t 10)
  (.seq (.ops [zO 4 (.mov (.c (.string ⟨#[]⟩)))]) .ret)
  .skip)) (.seq (.ops [zM 11 0, zM 12 5, zO 13 (.iaddr 3 (.t 11) (.t 12)), zO 14 (.faddr (.t 13) 1), zO 15 (.ld (.t 14) 1 false), zM 4 15]) .ret))))) := by kernel_rfl
def f228 (n : Nat) (a1 : (List Rule)) (a2 : ByteArray) : Option ByteArray := ((f212 n a1 a2).bind fun r5 => (bif (decide (r5 < 0)) then some (ByteArray.mk #[]) else ((gi a1 r5).bind fun x12 => some x12.fTo)))
def f228_r (r : ByteArray) : AV := (vS r)
theorem p_f228 {n : Nat} {a1 : (List Rule)} {a2 : ByteArray} {r : ByteArray} (h : f228 n a1 a2 = some r) : PureSpec Tryz.prog 143 [(vL Rule.c a1), (vS a2)] (f228_r r) := by
 rw [f228.eq_1] at h
 refine pure_of hmix ic143 ?_
 refine go_to (mkd (.val undef) 16 0 [(0, (vL Rule.c a1)), (1, (vS a2))]) ?_
 refine s_so fun N3 k3 w3 => ?_
 refine o_r1 [(4, (vS (ByteArray.mk #[])))] ?_
 refine o_end (k3 _ ?_)
 refine s_so fun N4 k4 w4 => ?_
 refine o_r2 [(6, (vL Rule.c a1)), (7, (vS a2))] ?_
 refine bnd h fun r5 g6 h => ?_
 refine o_o (one_call (p_f212 g6)) ?_
 refine o_r1 [(5, (vI r5))] ?_
 refine o_end (k4 _ ?_)
 refine s_seq fun N7 k7 w7 => ?_
 refine s_so fun N8 k8 w8 => ?_
 refine o_r2 [(9, (vI r5)), (10, (vB (decide (r5 < 0))))] ?_
 refine o_end (k8 _ ?_)
 refine i_c [10] h (fun h => ?_) (fun h => ?_)
 · refine s_so fun N10 k10 w10 => ?_
   refine o_r1 [] ?_
   refine o_end (k10 _ ?_)
   exact c_ret (rets [] [(vS (ByteArray.mk #[]))] [(vS (ByteArray.mk #[]))] h)
 · refine c_skip (k7 _ ?_)
   refine s_so fun N11 k11 w11 => ?_
   refine o_r2 [(11, (vL Rule.c a1)), (12, (vI r5))] ?_
   refine bnd h fun x12 g13 h => ?_
   refine o_o (one_ia (f := Rule.c) (ki := .i64) g13) ?_
   refine o_r3 [(4, (vS x12.fTo)), (14, (.iptr [(vS x12.fTo), (vL Give.c x12.fGives)])), (15, (vS x12.fTo))] ?_
   refine o_end (k11 _ ?_)
   exact c_ret (rets [] [(vS x12.fTo)] [(vS x12.fTo)] h)
theorem ic126 : fnIC Tryz.prog H0 126 = some ([.tmp 6], 24, (.seq (.ops [zO 4 (.box 0 68 [] (.t 1)), zO 5 (.box 0 68 [] (.t 2)), zO 6 (.mov (.c (.bool false)))]) (.seq (.draw [] [zQ (zO 7 (.faddr (.t 5) 2)), zQ (zO 8 (.ld (.t 7) 1 false)), zQ (zO 9 (.sc (.bin .eql 9) [(.t 8), (.c (.string ⟨#[65, 78, 89]⟩))])), zQ (zM 10 9), zQ (zG 11 10 false (.faddr (.t 4) 2)), zQ (zG 12 10 false (.ld (.t 11) 1 false)), zQ (zG 13 10 false (.sc (.bin .neq 9) [(.t 12), (.c (.string ⟨#[65, 78, 89]⟩))])), zQ (zN 14 10 false 13), zQ (zN 15 14 true 0), zQ (zG 16 14 true (.faddr (.t 4) 2)), zQ (zG 17 14 true (.ld (.t 16) 1 false)), zQ (zG 18 14 true (.call 143 [(.t 15), (.t 17)])), zQ (zG 19 14 true (.faddr (.t 5) 2)), zQ (zG 20 14 true (.ld (.t 19) 1 false)), zQ (zG 21 14 true (.sc (.bin .eql 9) [(.t 18), (.t 20)])), zQ (zG 22 10 false (.pick (.t 14) (.t 21) (.c (.bool false)))), zQ (zO 23 (.pick (.t 10) (.c (.bool true)) (.t 22))), zQ (zM 6 23)]) .ret))) := by kernel_rfl
def f227_k5 (x13 : Bool) : Option Bool := some x13
def f227 (n : Nat) (a1 : (List Rule)) (a2 : Col) (a3 : Col) : Option Bool := (bif (sEqF a3.fClass (ByteArray.mk #[65, 78, 89])) then (f227_k5 true) else (bif (!(sEqF a2.fClass (ByteArray.mk #[65, 78, 89]))) then ((f228 n a1 a2.fClass).bind fun r10 => (f227_k5 (sEqF r10 a3.fClass))) else (f227_k5 false)))
def f227_r (r : Bool) : AV := (vB r)
theorem p_f227 {n : Nat} {a1 : (List Rule)} {a2 : Col} {a3 : Col} {r : Bool} (h : f227 n a1 a2 a3 = some r) : PureSpec Tryz.prog 126 [(vL Rule.c a1), (.agg [(vS a2.fName), (vI a2.fKind), (vS a2.fClass)]), (.agg [(vS a3.fName), (vI a3.fKind), (vS a3.fClass)])] (f227_r r) := by
 rw [f227.eq_1] at h
 refine pure_of hmix ic126 ?_
 refine go_to (mkd (.val undef) 24 0 [(0, (vL Rule.c a1)), (1, (.agg [(vS a2.fName), (vI a2.fKind), (vS a2.fClass)])), (2, (.agg [(vS a3.fName), (vI a3.fKind), (vS a3.fClass)]))]) ?_
 refine s_so fun N4 k4 w4 => ?_
 refine o_h3 [(4, (.ptr 0 0)), (5, (.ptr 1 0)), (6, (vB false))] [(some (.box 68 [(vS a2.fName), (vI a2.fKind), (vS a2.fClass)])), (some (.box 68 [(vS a3.fName), (vI a3.fKind), (vS a3.fClass)]))] ?_
 refine o_end (k4 _ ?_)
 refine J1 (r := r) (fun (x13 : Bool) => ⟨(mkd .any 24 0 [(6, (vB x13))]), []⟩) (f227_k5) ?_ ?_
 · intro x13 h
   rw [f227_k5.eq_1] at h
   exact c_ret (rets [] [(vB x13)] [(vB x13)] h)
 · intro N5 w5
   refine c_draw0 ?_
   refine d_r2 [(7, (.ptr 1 2)), (8, (vS a3.fClass))] ?_
   refine d_o (one_sc (vs := [.string a3.fClass, .string (ByteArray.mk #[65, 78, 89])]) (str_eql a3.fClass (ByteArray.mk #[65, 78, 89]))) ?_
   refine d_r1 [(10, (vB (sEqF a3.fClass (ByteArray.mk #[65, 78, 89]))))] ?_
   refine i_d [9, 10] h (fun h => ?_) (fun h => ?_)
   · refine d_r14 [(6, (vB true)), (11, (.val undef)), (12, (.val undef)), (13, (.val undef)), (14, (.val undef)), (15, (.val undef)), (16, (.val undef)), (17, (.val undef)), (18, (.val undef)), (19, (.val undef)), (20, (.val undef)), (21, (.val undef)), (22, (.val undef)), (23, (vB true))] ?_
     exact d_end (w5 _ _ (wkm [6] wh_nil) h)
   · refine d_r2 [(11, (.ptr 0 2)), (12, (vS a2.fClass))] ?_
     refine d_g (one_sc (vs := [.string a2.fClass, .string (ByteArray.mk #[65, 78, 89])]) (str_neq a2.fClass (ByteArray.mk #[65, 78, 89]))) ?_
     refine d_r1 [(14, (vB (!(sEqF a2.fClass (ByteArray.mk #[65, 78, 89])))))] ?_
     refine i_d [13, 14] h (fun h => ?_) (fun h => ?_)
     · refine d_r3 [(15, (vL Rule.c a1)), (16, (.ptr 0 2)), (17, (vS a2.fClass))] ?_
       refine bnd h fun r10 g11 h => ?_
       refine d_g (one_call (p_f228 g11)) ?_
       refine d_r2 [(19, (.ptr 1 2)), (20, (vS a3.fClass))] ?_
       refine t_tm (mkd (.val undef) 24 0 [(0, (vL Rule.c a1)), (1, (.agg [(vS a2.fName), (vI a2.fKind), (vS a2.fClass)])), (2, (.agg [(vS a3.fName), (vI a3.fKind), (vS a3.fClass)])), (4, (.ptr 0 0)), (5, (.ptr 1 0)), (6, (vB false)), (7, (.ptr 1 2)), (8, (vS a3.fClass)), (9, (vB false)), (10, (vB false)), (11, (.ptr 0 2)), (12, (vS a2.fClass)), (13, (vB true)), (14, (vB true)), (15, (vL Rule.c a1)), (16, (.ptr 0 2)), (17, (vS a2.fClass)), (18, (vS r10)), (19, (.ptr 1 2)), (20, (vS a3.fClass))]) ?_
       refine d_g (one_sc (vs := [.string r10, .string a3.fClass]) (str_eql r10 a3.fClass)) ?_
       refine d_r3 [(6, (vB (sEqF r10 a3.fClass))), (22, (vB (sEqF r10 a3.fClass))), (23, (vB (sEqF r10 a3.fClass)))] ?_
       exact d_end (w5 _ _ (wkm [6] wh_nil) h)
     · refine d_r10 [(15, (.val undef)), (16, (.val undef)), (17, (.val undef)), (18, (.val undef)), (19, (.val undef)), (20, (.val undef)), (21, (.val undef)), (22, (vB false)), (23, (vB false))] ?_
       exact d_end (w5 _ _ (wkm [6] wh_nil) h)
theorem ic96 : fnIC Tryz.prog H0 96 = some ([.tmp 8], 100, (.seq (.ops [zO 5 (.box 0 66 [(1, 68, 3, 0)] (.t 1)), zO 6 (.box 0 82 [] (.t 2)), zO 7 (.box 0 68 [] (.t 3)), zO 8 (.mov (.c (.bool false)))]) (.seq (.ops [zO 12 (.bld [(.string ⟨#[]⟩), (.int .i64 0), (.string ⟨#[]⟩)] []), zO 9 (.alloc 0 68 [] [(.string ⟨#[]⟩), (.int .i64 0), (.string ⟨#[]⟩)]), zU (.st true 3 [] (.t 9) (.t 12))]) (.seq (.seq (.ops [zO 13 (.faddr (.t 6) 1), zO 14 (.ld (.t 13) 1 false), zO 15 (.call 51 [(.t 14)])]) (.cond (.t 15)
  (.draw [] [zQ (zO 16 (.faddr (.t 5) 1)), zQ (zO 17 (.ld (.t 16) 1 false)), zQ (zO 18 (.ld (.t 5) 2 true)), zQ (zO 19 (.faddr (.t 6) 0)), zQ (zO 20 (.ld (.t 19) 1 false)), zQ (zO 21 (.call 53 [(.t 18), (.t 20)])), zQ (zO 22 (.iaddr 3 (.t 17) (.t 21))), zQ (zO 23 (.ld (.t 22) 3 true)), ⟨zU (.st true 3 [] (.t 9) (.t 23)), true, 0, 1⟩])
  .skip)) (.seq (.seq (.ops [zO 24 (.faddr (.t 6) 1), zO 25 (.ld (.t 24) 1 false)]) (.block 0 (.seq (.ops [zO 27 (.sc (.bin .eql 3) [(.t 25), (.c (.int .i64 1))]), zM 26 27]) (.cond (.t 26)
  (.seq (.ops [zM 28 0, zO 29 (.ld (.t 9) 3 true), zO 30 (.ld (.t 7) 3 true), zO 31 (.call 126 [(.t 28), (.t 29), (.t 30)]), zM 10 31]) (.seq (.ops [zO 32 (.faddr (.t 9) 1), zO 33 (.ld (.t 32) 1 false), zO 34 (.faddr (.t 7) 1), zO 35 (.ld (.t 34) 1 false), zO 36 (.sc (.bin .eql 3) [(.t 33), (.t 35)]), zM 37 36, zG 38 37 true (.faddr (.t 7) 1), zG 39 37 true (.ld (.t 38) 1 false), zG 40 37 true (.sc (.bin .neq 3) [(.t 39), (.c (.int .i64 3))]), zN 41 37 true 40, zN 42 41 false 10, zG 43 37 true (.pick (.t 41) (.c (.bool true)) (.t 42)), zO 44 (.pick (.t 37) (.t 43) (.c (.bool false))), zM 8 44]) .ret))
  (.seq (.ops [zO 46 (.sc (.bin .eql 3) [(.t 25), (.c (.int .i64 2))]), zM 45 46]) (.cond (.t 45)
  (.seq (.ops [zO 47 (.faddr (.t 9) 1), zO 48 (.ld (.t 47) 1 false), zO 49 (.sc (.bin .eql 3) [(.t 48), (.c (.int .i64 2))]), zM 50 49, zG 51 50 true (.faddr (.t 7) 1), zG 52 50 true (.ld (.t 51) 1 false), zG 53 50 true (.sc (.bin .eql 3) [(.t 52), (.c (.int .i64 1))]), zO 54 (.pick (.t 50) (.t 53) (.c (.bool false))), zM 8 54]) .ret)
  (.seq (.ops [zO 56 (.sc (.bin .eql 3) [(.t 25), (.c (.int .i64 3))]), zM 55 56]) (.cond (.t 55)
  (.seq (.ops [zO 57 (.faddr (.t 9) 1), zO 58 (.ld (.t 57) 1 false), zO 59 (.sc (.bin .eql 3) [(.t 58), (.c (.int .i64 1))]), zM 60 59, zG 61 60 true (.faddr (.t 7) 1), zG 62 60 true (.ld (.t 61) 1 false), zG 63 60 true (.sc (.bin .eql 3) [(.t 62), (.c (.int .i64 2))]), zO 64 (.pick (.t 60) (.t 63) (.c (.bool false))), zM 8 64]) .ret)
  (.seq (.ops [zO 66 (.sc (.bin .eql 3) [(.t 25), (.c (.int .i64 4))]), zM 65 66]) (.cond (.t 65)
  (.seq (.ops [zO 67 (.faddr (.t 9) 1), zO 68 (.ld (.t 67) 1 false), zO 69 (.sc (.bin .eql 3) [(.t 68), (.c (.int .i64 1))]), zM 70 69, zG 71 70 true (.faddr (.t 7) 1), zG 72 70 true (.ld (.t 71) 1 false), zG 73 70 true (.sc (.bin .eql 3) [(.t 72), (.c (.int .i64 1))]), zO 74 (.pick (.t 70) (.t 73) (.c (.bool false))), zM 8 74]) .ret)
  (.seq (.ops [zO 76 (.sc (.bin .eql 3) [(.t 25), (.c (.int .i64 5))]), zM 75 76]) (.cond (.t 75)
  (.seq (.ops [zM 77 0, zO 78 (.ld (.t 9) 3 true), zO 79 (.ld (.t 7) 3 true), zO 80 (.call 126 [(.t 77), (.t 78), (.t 79)]), zM 11 80]) (.seq (.ops [zO 81 (.faddr (.t 9) 1), zO 82 (.ld (.t 81) 1 false), zO 83 (.sc (.bin .eql 3) [(.t 82), (.c (.int .i64 3))]), zM 84 83, zG 85 84 true (.faddr (.t 7) 1), zG 86 84 true (.ld (.t 85) 1 false), zG 87 84 true (.sc (.bin .eql 3) [(.t 86), (.c (.int .i64 3))]), zO 88 (.pick (.t 84) (.t 87) (.c (.bool false))), zM 89 88, zN 90 89 true 11, zO 91 (.pick (.t 89) (.t 90) (.c (.bool false))), zM 8 91]) .ret))
  (.seq (.ops [zO 93 (.sc (.bin .eql 3) [(.t 25), (.c (.int .i64 6))]), zM 92 93]) (.cond (.t 92)
  (.seq (.ops [zO 94 (.faddr (.t 7) 1), zO 95 (.ld (.t 94) 1 false), zO 96 (.sc (.bin .neq 3) [(.t 95), (.c (.int .i64 3))]), zM 8 96]) .ret)
  .skip)))))))))))))) (.seq (.ops [zO 97 (.faddr (.t 7) 1), zO 98 (.ld (.t 97) 1 false), zO 99 (.sc (.bin .eql 3) [(.t 98), (.c (.int .i64 3))]), zM 8 99]) .ret)))))) := by kernel_rfl
def f226_k27 (x30 : Bool) : Option Bool := some x30
def f226_k33 (x35 : Bool) : Option Bool := some x35
def f226_k38 (x40 : Bool) : Option Bool := some x40
def f226_k43 (x45 : Bool) : Option Bool := some x45
def f226_k51 (x54 : Bool) : Option Bool := some x54
def f226_k7 (a3 : Give) (n : Nat) (a1 : (List Rule)) (a4 : Col) (x16 : ByteArray) (x17 : Int) (x18 : ByteArray) : Option Bool := (bif (a3.fHow == 1) then ((f227 n a1 (Col.mk x16 x17 x18) a4).bind fun r25 => (bif (x17 == a4.fKind) then (bif (a4.fKind != 3) then (f226_k27 true) else (f226_k27 r25)) else (f226_k27 false))) else (bif (a3.fHow == 2) then (bif (x17 == 2) then (f226_k33 (a4.fKind == 1)) else (f226_k33 false)) else (bif (a3.fHow == 3) then (bif (x17 == 1) then (f226_k38 (a4.fKind == 2)) else (f226_k38 false)) else (bif (a3.fHow == 4) then (bif (x17 == 1) then (f226_k43 (a4.fKind == 1)) else (f226_k43 false)) else (bif (a3.fHow == 5) then ((f227 n a1 (Col.mk x16 x17 x18) a4).bind fun r49 => (bif (x17 == 3) then (bif (a4.fKind == 3) then (f226_k51 r49) else (f226_k51 false)) else (f226_k51 false))) else (bif (a3.fHow == 6) then some (a4.fKind != 3) else some (a4.fKind == 3)))))))
def f226 (n : Nat) (a1 : (List Rule)) (a2 : Form) (a3 : Give) (a4 : Col) : Option Bool := ((f217 n a3.fHow).bind fun r9 => (bif r9 then ((f57 n a2 a3.fFrom).bind fun r12 => ((gi a2.fCols r12).bind fun x14 => (f226_k7 a3 n a1 a4 x14.fName x14.fKind x14.fClass))) else (f226_k7 a3 n a1 a4 (ByteArray.mk #[]) 0 (ByteArray.mk #[]))))
def f226_r (r : Bool) : AV := (vB r)
theorem p_f226 {n : Nat} {a1 : (List Rule)} {a2 : Form} {a3 : Give} {a4 : Col} {r : Bool} (h : f226 n a1 a2 a3 a4 = some r) : PureSpec Tryz.prog 96 [(vL Rule.c a1), (.agg [(vS a2.fName), (vL Col.c a2.fCols)]), (.agg [(vS a3.fFrom), (vI a3.fHow), (vI a3.fN)]), (.agg [(vS a4.fName), (vI a4.fKind), (vS a4.fClass)])] (f226_r r) := by
 rw [f226.eq_1] at h
 refine pure_of hmix ic96 ?_
 refine go_to (mkd (.val undef) 100 0 [(0, (vL Rule.c a1)), (1, (.agg [(vS a2.fName), (vL Col.c a2.fCols)])), (2, (.agg [(vS a3.fFrom), (vI a3.fHow), (vI a3.fN)])), (3, (.agg [(vS a4.fName), (vI a4.fKind), (vS a4.fClass)]))]) ?_
 refine s_so fun N5 k5 w5 => ?_
 refine o_h4 [(5, (.ptr 0 0)), (6, (.ptr 1 0)), (7, (.ptr 2 0)), (8, (vB false))] [(some (.box 66 [(vS a2.fName), (vL Col.c a2.fCols)])), (some (.box 82 [(vS a3.fFrom), (vI a3.fHow), (vI a3.fN)])), (some (.box 68 [(vS a4.fName), (vI a4.fKind), (vS a4.fClass)]))] ?_
 refine o_end (k5 _ ?_)
 refine s_so fun N6 k6 w6 => ?_
 refine o_h3 [(9, (.ptr 3 0)), (12, (.agg [(vS (ByteArray.mk #[])), (vI 0), (vS (ByteArray.mk #[]))]))] [(some (.box 66 [(vS a2.fName), (vL Col.c a2.fCols)])), (some (.box 82 [(vS a3.fFrom), (vI a3.fHow), (vI a3.fN)])), (some (.box 68 [(vS a4.fName), (vI a4.fKind), (vS a4.fClass)])), (some (.box 68 [(vS (ByteArray.mk #[])), (vI 0), (vS (ByteArray.mk #[]))]))] ?_
 refine o_end (k6 _ ?_)
 refine J3 (r := r) (fun (x16 : ByteArray) (x17 : Int) (x18 : ByteArray) => ⟨(mkd .any 100 0 [(0, (vL Rule.c a1)), (6, (.ptr 1 0)), (7, (.ptr 2 0)), (9, (.ptr 3 0))]), [none, (some (.box 82 [(vS a3.fFrom), (vI a3.fHow), (vI a3.fN)])), (some (.box 68 [(vS a4.fName), (vI a4.fKind), (vS a4.fClass)])), (some (.box 68 [(vS x16), (vI x17), (vS x18)]))]⟩) (f226_k7 a3 n a1 a4) ?_ ?_
 · intro x16 x17 x18 h
   rw [f226_k7.eq_1] at h
   refine s_seq fun N19 k19 w19 => ?_
   refine s_so fun N20 k20 w20 => ?_
   refine o_r2 [(24, (.ptr 1 1)), (25, (vI a3.fHow))] ?_
   refine o_end (k20 _ ?_)
   refine c_block fun E21 hE21 hO21 => ?_
   refine s_so fun N22 k22 w22 => ?_
   refine o_r2 [(26, (vB (a3.fHow == 1))), (27, (vB (a3.fHow == 1)))] ?_
   refine o_end (k22 _ ?_)
   refine i_c [26, 27] h (fun h => ?_) (fun h => ?_)
   · refine s_so fun N24 k24 w24 => ?_
     refine o_r3 [(28, (vL Rule.c a1)), (29, (.agg [(vS x16), (vI x17), (vS x18)])), (30, (.agg [(vS a4.fName), (vI a4.fKind), (vS a4.fClass)]))] ?_
     refine bnd h fun r25 g26 h => ?_
     refine o_o (one_call (p_f227 g26)) ?_
     refine o_r1 [(10, (vB r25))] ?_
     refine o_end (k24 _ ?_)
     refine J1 (r := r) (fun (x30 : Bool) => ⟨(mkd .any 100 0 [(8, (vB x30))]), []⟩) (f226_k27) ?_ ?_
     · intro x30 h
       rw [f226_k27.eq_1] at h
       exact c_ret (rets [] [(vB x30)] [(vB x30)] h)
     · intro N27 w27
       refine c_ops ?_
       refine o_r6 [(32, (.ptr 3 1)), (33, (vI x17)), (34, (.ptr 2 1)), (35, (vI a4.fKind)), (36, (vB (x17 == a4.fKind))), (37, (vB (x17 == a4.fKind)))] ?_
       refine i_o [36, 37] h (fun h => ?_) (fun h => ?_)
       · refine o_r4 [(38, (.ptr 2 1)), (39, (vI a4.fKind)), (40, (vB (a4.fKind != 3))), (41, (vB (a4.fKind != 3)))] ?_
         refine i_o [40, 41] h (fun h => ?_) (fun h => ?_)
         · refine o_r4 [(8, (vB true)), (42, (.val undef)), (43, (vB true)), (44, (vB true))] ?_
           exact o_end (w27 _ _ (wkm [8] wh_nil) h)
         · refine o_r4 [(8, (vB r25)), (42, (vB r25)), (43, (vB r25)), (44, (vB r25))] ?_
           exact o_end (w27 _ _ (wkm [8] wh_nil) h)
       · refine o_r8 [(8, (vB false)), (38, (.val undef)), (39, (.val undef)), (40, (.val undef)), (41, (.val undef)), (42, (.val undef)), (43, (.val undef)), (44, (vB false))] ?_
         exact o_end (w27 _ _ (wkm [8] wh_nil) h)
   · refine s_so fun N31 k31 w31 => ?_
     refine o_r2 [(45, (vB (a3.fHow == 2))), (46, (vB (a3.fHow == 2)))] ?_
     refine o_end (k31 _ ?_)
     refine i_c [45, 46] h (fun h => ?_) (fun h => ?_)
     · refine J1 (r := r) (fun (x35 : Bool) => ⟨(mkd .any 100 0 [(8, (vB x35))]), []⟩) (f226_k33) ?_ ?_
       · intro x35 h
         rw [f226_k33.eq_1] at h
         exact c_ret (rets [] [(vB x35)] [(vB x35)] h)
       · intro N33 w33
         refine c_ops ?_
         refine o_r4 [(47, (.ptr 3 1)), (48, (vI x17)), (49, (vB (x17 == 2))), (50, (vB (x17 == 2)))] ?_
         refine i_o [49, 50] h (fun h => ?_) (fun h => ?_)
         · refine o_r5 [(8, (vB (a4.fKind == 1))), (51, (.ptr 2 1)), (52, (vI a4.fKind)), (53, (vB (a4.fKind == 1))), (54, (vB (a4.fKind == 1)))] ?_
           exact o_end (w33 _ _ (wkm [8] wh_nil) h)
         · refine o_r5 [(8, (vB false)), (51, (.val undef)), (52, (.val undef)), (53, (.val undef)), (54, (vB false))] ?_
           exact o_end (w33 _ _ (wkm [8] wh_nil) h)
     · refine s_so fun N36 k36 w36 => ?_
       refine o_r2 [(55, (vB (a3.fHow == 3))), (56, (vB (a3.fHow == 3)))] ?_
       refine o_end (k36 _ ?_)
       refine i_c [55, 56] h (fun h => ?_) (fun h => ?_)
       · refine J1 (r := r) (fun (x40 : Bool) => ⟨(mkd .any 100 0 [(8, (vB x40))]), []⟩) (f226_k38) ?_ ?_
         · intro x40 h
           rw [f226_k38.eq_1] at h
           exact c_ret (rets [] [(vB x40)] [(vB x40)] h)
         · intro N38 w38
           refine c_ops ?_
           refine o_r4 [(57, (.ptr 3 1)), (58, (vI x17)), (59, (vB (x17 == 1))), (60, (vB (x17 == 1)))] ?_
           refine i_o [59, 60] h (fun h => ?_) (fun h => ?_)
           · refine o_r5 [(8, (vB (a4.fKind == 2))), (61, (.ptr 2 1)), (62, (vI a4.fKind)), (63, (vB (a4.fKind == 2))), (64, (vB (a4.fKind == 2)))] ?_
             exact o_end (w38 _ _ (wkm [8] wh_nil) h)
           · refine o_r5 [(8, (vB false)), (61, (.val undef)), (62, (.val undef)), (63, (.val undef)), (64, (vB false))] ?_
             exact o_end (w38 _ _ (wkm [8] wh_nil) h)
       · refine s_so fun N41 k41 w41 => ?_
         refine o_r2 [(65, (vB (a3.fHow == 4))), (66, (vB (a3.fHow == 4)))] ?_
         refine o_end (k41 _ ?_)
         refine i_c [65, 66] h (fun h => ?_) (fun h => ?_)
         · refine J1 (r := r) (fun (x45 : Bool) => ⟨(mkd .any 100 0 [(8, (vB x45))]), []⟩) (f226_k43) ?_ ?_
           · intro x45 h
             rw [f226_k43.eq_1] at h
             exact c_ret (rets [] [(vB x45)] [(vB x45)] h)
           · intro N43 w43
             refine c_ops ?_
             refine o_r4 [(67, (.ptr 3 1)), (68, (vI x17)), (69, (vB (x17 == 1))), (70, (vB (x17 == 1)))] ?_
             refine i_o [69, 70] h (fun h => ?_) (fun h => ?_)
             · refine o_r5 [(8, (vB (a4.fKind == 1))), (71, (.ptr 2 1)), (72, (vI a4.fKind)), (73, (vB (a4.fKind == 1))), (74, (vB (a4.fKind == 1)))] ?_
               refine s_tm (mkd .any 100 0 [(0, (vL Rule.c a1)), (6, (.ptr 1 0)), (7, (.ptr 2 0)), (8, (vB (a4.fKind == 1))), (9, (.ptr 3 0)), (24, (.ptr 1 1)), (25, (vI a3.fHow)), (26, (vB false)), (27, (vB false)), (45, (vB false)), (46, (vB false)), (55, (vB false)), (56, (vB false)), (65, (vB true)), (66, (vB true)), (67, (.ptr 3 1)), (68, (vI x17)), (69, (vB true)), (70, (vB true)), (71, (.ptr 2 1)), (72, (vI a4.fKind)), (73, (vB (a4.fKind == 1))), (74, (vB (a4.fKind == 1)))]) ?_
               exact o_end (w43 _ _ (wkm [8] wh_nil) h)
             · refine o_r5 [(8, (vB false)), (71, (.val undef)), (72, (.val undef)), (73, (.val undef)), (74, (vB false))] ?_
               refine s_tm (mkd .any 100 0 [(0, (vL Rule.c a1)), (6, (.ptr 1 0)), (7, (.ptr 2 0)), (8, (vB false)), (9, (.ptr 3 0)), (24, (.ptr 1 1)), (25, (vI a3.fHow)), (26, (vB false)), (27, (vB false)), (45, (vB false)), (46, (vB false)), (55, (vB false)), (56, (vB false)), (65, (vB true)), (66, (vB true)), (67, (.ptr 3 1)), (68, (vI x17)), (69, (vB false)), (70, (vB false)), (71, (.val undef)), (72, (.val undef)), (73, (.val undef)), (74, (vB false))]) ?_
               exact o_end (w43 _ _ (wkm [8] wh_nil) h)
         · refine s_so fun N46 k46 w46 => ?_
           refine o_r2 [(75, (vB (a3.fHow == 5))), (76, (vB (a3.fHow == 5)))] ?_
           refine o_end (k46 _ ?_)
           refine i_c [75, 76] h (fun h => ?_) (fun h => ?_)
           · refine s_so fun N48 k48 w48 => ?_
             refine o_r3 [(77, (vL Rule.c a1)), (78, (.agg [(vS x16), (vI x17), (vS x18)])), (79, (.agg [(vS a4.fName), (vI a4.fKind), (vS a4.fClass)]))] ?_
             refine s_tm (mkd .any 100 0 [(0, (vL Rule.c a1)), (6, (.ptr 1 0)), (7, (.ptr 2 0)), (9, (.ptr 3 0)), (24, (.ptr 1 1)), (25, (vI a3.fHow)), (26, (vB false)), (27, (vB false)), (45, (vB false)), (46, (vB false)), (55, (vB false)), (56, (vB false)), (65, (vB false)), (66, (vB false)), (75, (vB true)), (76, (vB true)), (77, (vL Rule.c a1)), (78, (.agg [(vS x16), (vI x17), (vS x18)])), (79, (.agg [(vS a4.fName), (vI a4.fKind), (vS a4.fClass)]))]) ?_
             refine bnd h fun r49 g50 h => ?_
             refine o_o (one_call (p_f227 g50)) ?_
             refine o_r1 [(11, (vB r49))] ?_
             refine o_end (w48 _ ⟨(mkd .any 100 0 [(7, (.ptr 2 0)), (9, (.ptr 3 0)), (11, (vB r49))]), [none, none, (some (.box 68 [(vS a4.fName), (vI a4.fKind), (vS a4.fClass)])), (some (.box 68 [(vS x16), (vI x17), (vS x18)]))]⟩ (wkm [7, 9, 11] (wh_none (wh_drop (whk (whk wh_nil))))) ?_)
             refine J1 (r := r) (fun (x54 : Bool) => ⟨(mkd .any 100 0 [(8, (vB x54))]), []⟩) (f226_k51) ?_ ?_
             · intro x54 h
               rw [f226_k51.eq_1] at h
               exact c_ret (rets [] [(vB x54)] [(vB x54)] h)
             · intro N51 w51
               refine c_ops ?_
               refine o_r4 [(81, (.ptr 3 1)), (82, (vI x17)), (83, (vB (x17 == 3))), (84, (vB (x17 == 3)))] ?_
               refine i_o [83, 84] h (fun h => ?_) (fun h => ?_)
               · refine o_r5 [(85, (.ptr 2 1)), (86, (vI a4.fKind)), (87, (vB (a4.fKind == 3))), (88, (vB (a4.fKind == 3))), (89, (vB (a4.fKind == 3)))] ?_
                 refine i_o [87, 88, 89] h (fun h => ?_) (fun h => ?_)
                 · refine o_r3 [(8, (vB r49)), (90, (vB r49)), (91, (vB r49))] ?_
                   exact o_end (w51 _ _ (wkm [8] wh_nil) h)
                 · refine o_r3 [(8, (vB false)), (90, (.val undef)), (91, (vB false))] ?_
                   exact o_end (w51 _ _ (wkm [8] wh_nil) h)
               · refine o_r8 [(8, (vB false)), (85, (.val undef)), (86, (.val undef)), (87, (.val undef)), (88, (vB false)), (89, (vB false)), (90, (.val undef)), (91, (vB false))] ?_
                 exact o_end (w51 _ _ (wkm [8] wh_nil) h)
           · refine s_so fun N55 k55 w55 => ?_
             refine o_r2 [(92, (vB (a3.fHow == 6))), (93, (vB (a3.fHow == 6)))] ?_
             refine s_tm (mkd .any 100 0 [(0, (vL Rule.c a1)), (6, (.ptr 1 0)), (7, (.ptr 2 0)), (9, (.ptr 3 0)), (24, (.ptr 1 1)), (25, (vI a3.fHow)), (26, (vB false)), (27, (vB false)), (45, (vB false)), (46, (vB false)), (55, (vB false)), (56, (vB false)), (65, (vB false)), (66, (vB false)), (75, (vB false)), (76, (vB false)), (92, (vB (a3.fHow == 6))), (93, (vB (a3.fHow == 6)))]) ?_
             refine o_end (w55 _ ⟨(mkd .any 100 0 [(7, (.ptr 2 0)), (92, (vB (a3.fHow == 6)))]), [none, none, (some (.box 68 [(vS a4.fName), (vI a4.fKind), (vS a4.fClass)]))]⟩ (wkm [7, 92] (wh_none (wh_drop (whk wh_nil)))) ?_)
             refine i_c [92] h (fun h => ?_) (fun h => ?_)
             · refine s_so fun N57 k57 w57 => ?_
               refine o_r4 [(8, (vB (a4.fKind != 3))), (94, (.ptr 2 1)), (95, (vI a4.fKind)), (96, (vB (a4.fKind != 3)))] ?_
               refine o_end (k57 _ ?_)
               exact c_ret (rets [] [(vB (a4.fKind != 3))] [(vB (a4.fKind != 3))] h)
             · refine c_skip (k19 _ ?_)
               refine s_so fun N58 k58 w58 => ?_
               refine o_r4 [(8, (vB (a4.fKind == 3))), (97, (.ptr 2 1)), (98, (vI a4.fKind)), (99, (vB (a4.fKind == 3)))] ?_
               refine o_end (k58 _ ?_)
               exact c_ret (rets [] [(vB (a4.fKind == 3))] [(vB (a4.fKind == 3))] h)
 · intro N7 w7
   refine s_so fun N8 k8 w8 => ?_
   refine o_r2 [(13, (.ptr 1 1)), (14, (vI a3.fHow))] ?_
   refine bnd h fun r9 g10 h => ?_
   refine o_o (one_call (p_f217 g10)) ?_
   refine o_end (k8 _ ?_)
   refine i_c [15] h (fun h => ?_) (fun h => ?_)
   · refine c_draw0 ?_
     refine d_r5 [(16, (.ptr 0 1)), (17, (vL Col.c a2.fCols)), (18, (.agg [(vS a2.fName), (vL Col.c a2.fCols)])), (19, (.ptr 1 0)), (20, (vS a3.fFrom))] ?_
     refine bnd h fun r12 g13 h => ?_
     refine d_o (one_call (p_f57 g13)) ?_
     refine bnd h fun x14 g15 h => ?_
     refine d_o (one_ia (f := Col.c) (ki := .i64) g15) ?_
     refine d_r1 [(23, (.agg [(vS x14.fName), (vI x14.fKind), (vS x14.fClass)]))] ?_
     refine d_te (.val undef) [(some (.box 66 [(vS a2.fName), (vL Col.c a2.fCols)])), (some (.box 82 [(vS a3.fFrom), (vI a3.fHow), (vI a3.fN)])), (some (.box 68 [(vS a4.fName), (vI a4.fKind), (vS a4.fClass)])), (some (.box 68 [(vS x14.fName), (vI x14.fKind), (vS x14.fClass)]))] (ra_cat (ra_cat (ra_cat (ra_cat ra_nil (ra_s (ra_s (ra_s (ra_s (ra_s ra_nil)))))) (ra_s ra_nil)) (ra_s ra_nil)) (ra_s ra_nil)) ?_
     exact d_end (w7 _ _ _ _ (wkm [0, 6, 7, 9] (wh_drop (whk (whk (whk wh_nil))))) h)
   · exact c_skip (w7 _ _ _ _ (wkm [0, 6, 7, 9] (wh_drop (whk (whk (whk wh_nil))))) h)
theorem ic55 : fnIC Tryz.prog H0 55 = some ([.tmp 8], 39, (.seq (.ops [zO 5 (.box 0 66 [(1, 68, 3, 0)] (.t 1)), zO 6 (.box 0 82 [] (.t 2)), zO 7 (.box 0 68 [] (.t 3)), zO 8 (.mov (.c (.int .i64 0)))]) (.seq (.seq (.ops [zO 11 (.faddr (.t 6) 1), zO 12 (.ld (.t 11) 1 false), zO 13 (.call 51 [(.t 12)]), zM 14 13, zG 15 14 true (.ld (.t 5) 2 true), zG 16 14 true (.faddr (.t 6) 0), zG 17 14 true (.ld (.t 16) 1 false), zG 18 14 true (.call 53 [(.t 15), (.t 17)]), zG 19 14 true (.sc (.bin .lss 3) [(.t 18), (.c (.int .i64 0))]), zO 20 (.pick (.t 14) (.t 19) (.c (.bool false)))]) (.cond (.t 20)
  (.seq (.ops [zO 8 (.mov (.c (.int .i64 4)))]) .ret)
  .skip)) (.seq (.ops [zO 21 (.ld (.t 6) 3 true), zO 22 (.ld (.t 7) 3 true), zO 23 (.call 95 [(.t 21), (.t 22)]), zM 9 23]) (.seq (.seq (.ops [zO 24 (.faddr (.t 6) 1), zO 25 (.ld (.t 24) 1 false), zO 26 (.call 68 [(.t 25), (.c (.int .i64 1)), (.c (.int .i64 7))]), zO 27 (.sc (.un .not) [(.t 26)]), zM 28 27, zN 29 28 false 9, zG 30 28 false (.sc (.un .not) [(.t 29)]), zO 31 (.pick (.t 28) (.c (.bool true)) (.t 30))]) (.cond (.t 31)
  (.seq (.ops [zO 8 (.mov (.c (.int .i64 1)))]) .ret)
  .skip)) (.seq (.ops [zM 32 0, zO 33 (.ld (.t 5) 2 true), zO 34 (.ld (.t 6) 3 true), zO 35 (.ld (.t 7) 3 true), zO 36 (.call 96 [(.t 32), (.t 33), (.t 34), (.t 35)]), zM 10 36]) (.seq (.seq (.ops [zM 37 10, zO 38 (.sc (.un .not) [(.t 37)])]) (.cond (.t 38)
  (.seq (.ops [zO 8 (.mov (.c (.int .i64 8)))]) .ret)
  .skip)) (.seq (.ops [zO 8 (.mov (.c (.int .i64 0)))]) .ret)))))))) := by kernel_rfl
def f219_k20 (n : Nat) (a1 : (List Rule)) (a2 : Form) (a3 : Give) (a4 : Col) (x24 : Bool) : Option Int := (bif x24 then some 1 else ((f226 n a1 a2 a3 a4).bind fun r28 => (bif (!r28) then some 8 else some 0)))
def f219_k7 (n : Nat) (a3 : Give) (a4 : Col) (a1 : (List Rule)) (a2 : Form) (x13 : Bool) : Option Int := (bif x13 then some 4 else ((f225 n a3 a4).bind fun r17 => ((f58 n a3.fHow 1 7).bind fun r21 => (bif (!r21) then (f219_k20 n a1 a2 a3 a4 true) else (f219_k20 n a1 a2 a3 a4 (!r17))))))
def f219 (n : Nat) (a1 : (List Rule)) (a2 : Form) (a3 : Give) (a4 : Col) : Option Int := ((f217 n a3.fHow).bind fun r8 => (bif r8 then ((f57 n a2 a3.fFrom).bind fun r11 => (f219_k7 n a3 a4 a1 a2 (decide (r11 < 0)))) else (f219_k7 n a3 a4 a1 a2 false)))
def f219_r (r : Int) : AV := (vI r)
theorem p_f219 {n : Nat} {a1 : (List Rule)} {a2 : Form} {a3 : Give} {a4 : Col} {r : Int} (h : f219 n a1 a2 a3 a4 = some r) : PureSpec Tryz.prog 55 [(vL Rule.c a1), (.agg [(vS a2.fName), (vL Col.c a2.fCols)]), (.agg [(vS a3.fFrom), (vI a3.fHow), (vI a3.fN)]), (.agg [(vS a4.fName), (vI a4.fKind), (vS a4.fClass)])] (f219_r r) := by
 rw [f219.eq_1] at h
 refine pure_of hmix ic55 ?_
 refine go_to (mkd (.val undef) 39 0 [(0, (vL Rule.c a1)), (1, (.agg [(vS a2.fName), (vL Col.c a2.fCols)])), (2, (.agg [(vS a3.fFrom), (vI a3.fHow), (vI a3.fN)])), (3, (.agg [(vS a4.fName), (vI a4.fKind), (vS a4.fClass)]))]) ?_
 refine s_so fun N5 k5 w5 => ?_
 refine o_h4 [(5, (.ptr 0 0)), (6, (.ptr 1 0)), (7, (.ptr 2 0)), (8, (vI 0))] [(some (.box 66 [(vS a2.fName), (vL Col.c a2.fCols)])), (some (.box 82 [(vS a3.fFrom), (vI a3.fHow), (vI a3.fN)])), (some (.box 68 [(vS a4.fName), (vI a4.fKind), (vS a4.fClass)]))] ?_
 refine o_end (k5 _ ?_)
 refine s_seq fun N6 k6 w6 => ?_
 refine J1 (r := r) (fun (x13 : Bool) => ⟨(mkd .any 39 0 [(0, (vL Rule.c a1)), (5, (.ptr 0 0)), (6, (.ptr 1 0)), (7, (.ptr 2 0)), (20, (vB x13))]), [(some (.box 66 [(vS a2.fName), (vL Col.c a2.fCols)])), (some (.box 82 [(vS a3.fFrom), (vI a3.fHow), (vI a3.fN)])), (some (.box 68 [(vS a4.fName), (vI a4.fKind), (vS a4.fClass)]))]⟩) (f219_k7 n a3 a4 a1 a2) ?_ ?_
 · intro x13 h
   rw [f219_k7.eq_1] at h
   refine i_c [20] h (fun h => ?_) (fun h => ?_)
   · refine s_so fun N15 k15 w15 => ?_
     refine o_r1 [(8, (vI 4))] ?_
     refine o_end (k15 _ ?_)
     exact c_ret (rets [] [(vI 4)] [(vI 4)] h)
   · refine c_skip (k6 _ ?_)
     refine s_so fun N16 k16 w16 => ?_
     refine o_r2 [(21, (.agg [(vS a3.fFrom), (vI a3.fHow), (vI a3.fN)])), (22, (.agg [(vS a4.fName), (vI a4.fKind), (vS a4.fClass)]))] ?_
     refine bnd h fun r17 g18 h => ?_
     refine o_o (one_call (p_f225 g18)) ?_
     refine o_r1 [(9, (vB r17))] ?_
     refine o_end (k16 _ ?_)
     refine s_seq fun N19 k19 w19 => ?_
     refine J1 (r := r) (fun (x24 : Bool) => ⟨(mkd .any 39 0 [(0, (vL Rule.c a1)), (5, (.ptr 0 0)), (6, (.ptr 1 0)), (7, (.ptr 2 0)), (31, (vB x24))]), [(some (.box 66 [(vS a2.fName), (vL Col.c a2.fCols)])), (some (.box 82 [(vS a3.fFrom), (vI a3.fHow), (vI a3.fN)])), (some (.box 68 [(vS a4.fName), (vI a4.fKind), (vS a4.fClass)]))]⟩) (f219_k20 n a1 a2 a3 a4) ?_ ?_
     · intro x24 h
       rw [f219_k20.eq_1] at h
       refine i_c [31] h (fun h => ?_) (fun h => ?_)
       · refine s_so fun N26 k26 w26 => ?_
         refine o_r1 [(8, (vI 1))] ?_
         refine o_end (k26 _ ?_)
         exact c_ret (rets [] [(vI 1)] [(vI 1)] h)
       · refine c_skip (k19 _ ?_)
         refine s_so fun N27 k27 w27 => ?_
         refine o_r4 [(32, (vL Rule.c a1)), (33, (.agg [(vS a2.fName), (vL Col.c a2.fCols)])), (34, (.agg [(vS a3.fFrom), (vI a3.fHow), (vI a3.fN)])), (35, (.agg [(vS a4.fName), (vI a4.fKind), (vS a4.fClass)]))] ?_
         refine bnd h fun r28 g29 h => ?_
         refine o_o (one_call (p_f226 g29)) ?_
         refine o_r1 [(10, (vB r28))] ?_
         refine o_end (k27 _ ?_)
         refine s_seq fun N30 k30 w30 => ?_
         refine s_so fun N31 k31 w31 => ?_
         refine o_r2 [(37, (vB r28)), (38, (vB (!r28)))] ?_
         refine o_end (k31 _ ?_)
         refine i_c [38] h (fun h => ?_) (fun h => ?_)
         · refine s_so fun N33 k33 w33 => ?_
           refine o_r1 [(8, (vI 8))] ?_
           refine o_end (k33 _ ?_)
           exact c_ret (rets [] [(vI 8)] [(vI 8)] h)
         · refine c_skip (k30 _ ?_)
           refine s_so fun N34 k34 w34 => ?_
           refine o_r1 [(8, (vI 0))] ?_
           refine o_end (k34 _ ?_)
           exact c_ret (rets [] [(vI 0)] [(vI 0)] h)
     · intro N20 w20
       refine c_ops ?_
       refine o_r2 [(24, (.ptr 1 1)), (25, (vI a3.fHow))] ?_
       refine bnd h fun r21 g22 h => ?_
       refine o_o (one_call (p_f58 g22)) ?_
       refine o_r2 [(27, (vB (!r21))), (28, (vB (!r21)))] ?_
       refine i_o [27, 28] h (fun h => ?_) (fun h => ?_)
       · refine o_r3 [(29, (.val undef)), (30, (.val undef)), (31, (vB true))] ?_
         exact o_end (w20 _ _ (wkm [0, 5, 6, 7, 31] (whk (whk (whk wh_nil)))) h)
       · refine o_r3 [(29, (vB r17)), (30, (vB (!r17))), (31, (vB (!r17)))] ?_
         exact o_end (w20 _ _ (wkm [0, 5, 6, 7, 31] (whk (whk (whk wh_nil)))) h)
 · intro N7 w7
   refine c_ops ?_
   refine o_r2 [(11, (.ptr 1 1)), (12, (vI a3.fHow))] ?_
   refine bnd h fun r8 g9 h => ?_
   refine o_o (one_call (p_f217 g9)) ?_
   refine o_r1 [(14, (vB r8))] ?_
   refine i_o [13, 14] h (fun h => ?_) (fun h => ?_)
   · refine o_r3 [(15, (.agg [(vS a2.fName), (vL Col.c a2.fCols)])), (16, (.ptr 1 0)), (17, (vS a3.fFrom))] ?_
     refine bnd h fun r11 g12 h => ?_
     refine o_g ?_
     refine o_o (one_call (p_f57 g12)) ?_
     refine o_r2 [(19, (vB (decide (r11 < 0)))), (20, (vB (decide (r11 < 0))))] ?_
     exact o_end (w7 _ _ (wkm [0, 5, 6, 7, 20] (whk (whk (whk wh_nil)))) h)
   · refine o_r6 [(15, (.val undef)), (16, (.val undef)), (17, (.val undef)), (18, (.val undef)), (19, (.val undef)), (20, (vB false))] ?_
     exact o_end (w7 _ _ (wkm [0, 5, 6, 7, 20] (whk (whk (whk wh_nil)))) h)
theorem ic48 : fnIC Tryz.prog H0 48 = some ([.tmp 6], 126, (.seq (.ops [zO 6 (.mov (.c (.int .i64 0)))]) (.seq (.seq (.ops [zM 14 2, zO 15 (.len false (.t 14)), zO 16 (.sc (.bin .gtr 3) [(.t 15), (.c (.int .i64 24))])]) (.cond (.t 16)
  (.seq (.ops [zO 6 (.mov (.c (.int .i64 3)))]) .ret)
  .skip)) (.seq (.seq (.ops [zO 7 (.mov (.c (.int .i64 0)))]) (.block 0 (.loop (.seq (.seq (.ops [zM 17 7, zM 18 2, zO 19 (.len false (.t 18)), zO 20 (.sc (.bin .lss 3) [(.t 17), (.t 19)])]) (.cond (.t 20)
  .skip
  (.exit 0))) (.seq (.block 1 (.seq (.seq (.ops [zM 23 0, zM 24 2, zM 25 7, zO 26 (.iaddr 3 (.t 24) (.t 25)), zO 27 (.faddr (.t 26) 0), zO 28 (.ld (.t 27) 1 false), zO 29 (.call 40 [(.t 23), (.t 28)]), zO 30 (.sc (.bin .lss 3) [(.t 29), (.c (.int .i64 0))]), zM 31 30, zN 32 31 false 1, zN 33 31 false 2, zN 34 31 false 7, zG 35 31 false (.iaddr 3 (.t 33) (.t 34)), zG 36 31 false (.faddr (.t 35) 1), zG 37 31 false (.ld (.t 36) 1 false), zG 38 31 false (.call 40 [(.t 32), (.t 37)]), zG 39 31 false (.sc (.bin .lss 3) [(.t 38), (.c (.int .i64 0))]), zO 40 (.pick (.t 31) (.c (.bool true)) (.t 39))]) (.cond (.t 40)
  (.seq (.ops [zO 6 (.mov (.c (.int .i64 4)))]) .ret)
  .skip)) (.seq (.ops [zM 41 2, zM 42 2, zM 43 7, zO 44 (.iaddr 3 (.t 42) (.t 43)), zO 45 (.faddr (.t 44) 0), zO 46 (.ld (.t 45) 1 false), zO 47 (.call 41 [(.t 41), (.t 46)]), zM 48 7, zO 49 (.sc (.bin .lss 3) [(.t 47), (.t 48)])]) (.cond (.t 49)
  (.seq (.ops [zO 6 (.mov (.c (.int .i64 6)))]) .ret)
  .skip)))) (.ops [zM 21 7, zO 22 (.sc (.bin .add 3) [(.t 21), (.c (.int .i64 1))]), zM 7 22])))))) (.seq (.seq (.ops [zO 8 (.mov (.c (.int .i64 0)))]) (.block 2 (.loop (.seq (.seq (.ops [zM 50 8, zM 51 0, zO 52 (.len false (.t 51)), zO 53 (.sc (.bin .lss 3) [(.t 50), (.t 52)])]) (.cond (.t 53)
  .skip
  (.exit 2))) (.seq (.block 3 (.seq (.ops [zM 56 2, zM 57 0, zM 58 8, zO 59 (.iaddr 2 (.t 57) (.t 58)), zO 60 (.faddr (.t 59) 0), zO 61 (.ld (.t 60) 1 false), zO 62 (.call 41 [(.t 56), (.t 61)]), zO 63 (.sc (.bin .lss 3) [(.t 62), (.c (.int .i64 0))])]) (.cond (.t 63)
  (.seq (.ops [zO 6 (.mov (.c (.int .i64 5)))]) .ret)
  .skip))) (.ops [zM 54 8, zO 55 (.sc (.bin .add 3) [(.t 54), (.c (.int .i64 1))]), zM 8 55])))))) (.seq (.seq (.ops [zO 9 (.mov (.c (.int .i64 0)))]) (.block 4 (.loop (.seq (.seq (.ops [zM 64 9, zM 65 2, zO 66 (.len false (.t 65)), zO 67 (.sc (.bin .lss 3) [(.t 64), (.t 66)])]) (.cond (.t 67)
  .skip
  (.exit 4))) (.seq (.block 5 (.seq (.ops [zM 70 0, zM 71 0, zM 72 2, zM 73 9, zO 74 (.iaddr 3 (.t 72) (.t 73)), zO 75 (.faddr (.t 74) 0), zO 76 (.ld (.t 75) 1 false), zO 77 (.call 40 [(.t 71), (.t 76)]), zO 78 (.iaddr 2 (.t 70) (.t 77)), zO 79 (.ld (.t 78) 2 true), zO 10 (.alloc 0 66 [(1, 68, 3, 0)] [(.string ⟨#[]⟩), (.slice none 0 0)]), zU (.st true 2 [(1, 68, 3, 0)] (.t 10) (.t 79))]) (.seq (.ops [zM 80 1, zM 81 1, zM 82 2, zM 83 9, zO 84 (.iaddr 3 (.t 82) (.t 83)), zO 85 (.faddr (.t 84) 1), zO 86 (.ld (.t 85) 1 false), zO 87 (.call 40 [(.t 81), (.t 86)]), zO 88 (.iaddr 2 (.t 80) (.t 87)), zO 89 (.ld (.t 88) 2 true), zO 11 (.alloc 0 66 [(1, 68, 3, 0)] [(.string ⟨#[]⟩), (.slice none 0 0)]), zU (.st true 2 [(1, 68, 3, 0)] (.t 11) (.t 89))]) (.seq (.seq (.draw [] [zQ (zM 90 2), zQ (zM 91 9), zQ (zO 92 (.iaddr 3 (.t 90) (.t 91))), zQ (zO 93 (.faddr (.t 92) 2)), zQ (zO 94 (.ld (.t 93) 1 false)), zQ (zO 95 (.len false (.t 94))), zQ (zO 96 (.faddr (.t 11) 1)), zQ (zO 97 (.ld (.t 96) 1 false)), zQ (zO 98 (.len false (.t 97))), zQ (zO 99 (.sc (.bin .neq 3) [(.t 95), (.t 98)]))]) (.cond (.t 99)
  (.seq (.ops [zO 6 (.mov (.c (.int .i64 2)))]) .ret)
  .skip)) (.seq (.ops [zO 12 (.mov (.c (.int .i64 0)))]) (.block 6 (.loop (.seq (.seq (.ops [zM 100 12, zO 101 (.faddr (.t 11) 1), zO 102 (.ld (.t 101) 1 false), zO 103 (.len false (.t 102)), zO 104 (.sc (.bin .lss 3) [(.t 100), (.t 103)])]) (.cond (.t 104)
  .skip
  (.exit 6))) (.seq (.block 7 (.seq (.draw [] [zQ (zM 107 2), zQ (zO 108 (.ld (.t 10) 2 true)), zQ (zM 109 2), zQ (zM 110 9), zQ (zO 111 (.iaddr 3 (.t 109) (.t 110))), zQ (zO 112 (.faddr (.t 111) 2)), zQ (zO 113 (.ld (.t 112) 1 false)), zQ (zM 114 12), zQ (zO 115 (.iaddr 3 (.t 113) (.t 114))), zQ (zO 116 (.ld (.t 115) 3 true)), zQ (zO 117 (.faddr (.t 11) 1)), zQ (zO 118 (.ld (.t 117) 1 false)), zQ (zM 119 12), zQ (zO 120 (.iaddr 3 (.t 118) (.t 119))), zQ (zO 121 (.ld (.t 120) 3 true)), zQ (zO 122 (.call 55 [(.t 107), (.t 108), (.t 116), (.t 121)])), zQ (zM 13 122)]) (.seq (.ops [zM 123 13, zO 124 (.sc (.bin .neq 34) [(.t 123), (.c (.int .i64 0))])]) (.cond (.t 124)
  (.seq (.ops [zM 125 13, zM 6 125]) .ret)
  .skip)))) (.ops [zM 105 12, zO 106 (.sc (.bin .add 3) [(.t 105), (.c (.int .i64 1))]), zM 12 106])))))))))) (.ops [zM 68 9, zO 69 (.sc (.bin .add 3) [(.t 68), (.c (.int .i64 1))]), zM 9 69])))))) (.seq (.ops [zO 6 (.mov (.c (.int .i64 0)))]) .ret))))))) := by kernel_rfl
def f214_k49 (a3 : (List Rule)) (x41 : Int) (n : Nat) (c13k : Int → Option Int) (x59 : Bool) : Option Int := (bif x59 then some 4 else ((gi a3 x41).bind fun x63 => ((f212 n a3 x63.fClass).bind fun r65 => (bif (decide (r65 < x41)) then some 6 else (c13k (wr .i64 (x41 + 1)))))))
def f214_k177 (x172 : Int) (c103k : Int → Option Int) : Option Int := (c103k (wr .i64 (x172 + 1)))
def f214_l203 (x191 : Form) (a3 : (List Rule)) (x172 : Int) (n : Nat) (x184 : Form) (k177k : Option Int) : Nat → Int → Option Int
  | 0, _ => none
  | m203 + 1, x222 => (bif (decide (x222 < (len x191.fCols))) then ((gi a3 x172).bind fun x230 => ((gi x230.fGives x222).bind fun x232 => ((gi x191.fCols x222).bind fun x234 => ((f219 n a3 x184 x232 x234).bind fun r236 => (bif (r236 != 0) then some r236 else (f214_l203 x191 a3 x172 n x184 (k177k) m203 (wr .i64 (x222 + 1)))))))) else (k177k))
def f214_k100 : Option Int := some 0
def f214_l103 (a3 : (List Rule)) (n : Nat) (a1 : (List Form)) (a2 : (List Form)) (k100k : Option Int) : Nat → Int → Option Int
  | 0, _ => none
  | m103 + 1, x172 => (bif (decide (x172 < (len a3))) then ((gi a3 x172).bind fun x180 => ((f55 n a1 x180.fClass).bind fun r182 => ((gi a1 r182).bind fun x184 => ((gi a3 x172).bind fun x187 => ((f55 n a2 x187.fTo).bind fun r189 => ((gi a2 r189).bind fun x191 => ((gi a3 x172).bind fun x195 => (bif ((len x195.fGives) != (len x191.fCols)) then some 2 else (f214_l203 x191 a3 x172 n x184 (f214_k177 x172 (f214_l103 a3 n a1 a2 (k100k) m103)) n 0))))))))) else (k100k))
def f214_k69 (n : Nat) (a3 : (List Rule)) (a1 : (List Form)) (a2 : (List Form)) : Option Int := (f214_l103 a3 n a1 a2 (f214_k100) n 0)
def f214_l72 (a1 : (List Form)) (n : Nat) (a3 : (List Rule)) (k69k : Option Int) : Nat → Int → Option Int
  | 0, _ => none
  | m72 + 1, x86 => (bif (decide (x86 < (len a1))) then ((gi a1 x86).bind fun x94 => ((f212 n a3 x94.fName).bind fun r96 => (bif (decide (r96 < 0)) then some 5 else (f214_l72 a1 n a3 (k69k) m72 (wr .i64 (x86 + 1)))))) else (k69k))
def f214_k10 (n : Nat) (a1 : (List Form)) (a3 : (List Rule)) (a2 : (List Form)) : Option Int := (f214_l72 a1 n a3 (f214_k69 n a3 a1 a2) n 0)
def f214_l13 (a3 : (List Rule)) (n : Nat) (a1 : (List Form)) (a2 : (List Form)) (k10k : Option Int) : Nat → Int → Option Int
  | 0, _ => none
  | m13 + 1, x41 => (bif (decide (x41 < (len a3))) then ((gi a3 x41).bind fun x50 => ((f55 n a1 x50.fClass).bind fun r52 => (bif (decide (r52 < 0)) then (f214_k49 a3 x41 n (f214_l13 a3 n a1 a2 (k10k) m13) true) else ((gi a3 x41).bind fun x55 => ((f55 n a2 x55.fTo).bind fun r57 => (f214_k49 a3 x41 n (f214_l13 a3 n a1 a2 (k10k) m13) (decide (r57 < 0)))))))) else (k10k))
def f214 (n : Nat) (a1 : (List Form)) (a2 : (List Form)) (a3 : (List Rule)) : Option Int := (bif (decide ((len a3) > 24)) then some 3 else (f214_l13 a3 n a1 a2 (f214_k10 n a1 a3 a2) n 0))
def f214_r (r : Int) : AV := (vI r)
theorem p_f214 {n : Nat} {a1 : (List Form)} {a2 : (List Form)} {a3 : (List Rule)} {r : Int} (h : f214 n a1 a2 a3 = some r) : PureSpec Tryz.prog 48 [(vL Form.c a1), (vL Form.c a2), (vL Rule.c a3)] (f214_r r) := by
 rw [f214.eq_1] at h
 refine pure_of hmix ic48 ?_
 refine go_to (mkd (.val undef) 126 0 [(0, (vL Form.c a1)), (1, (vL Form.c a2)), (2, (vL Rule.c a3))]) ?_
 refine s_so fun N4 k4 w4 => ?_
 refine o_r1 [(6, (vI 0))] ?_
 refine o_end (k4 _ ?_)
 refine s_seq fun N5 k5 w5 => ?_
 refine s_so fun N6 k6 w6 => ?_
 refine o_r1 [(14, (vL Rule.c a3))] ?_
 refine o_o (one_len (f := Rule.c) (l := a3)) ?_
 refine o_r1 [(16, (vB (decide ((len a3) > 24))))] ?_
 refine o_end (k6 _ ?_)
 refine i_c [16] h (fun h => ?_) (fun h => ?_)
 · refine s_so fun N9 k9 w9 => ?_
   refine o_r1 [(6, (vI 3))] ?_
   refine o_end (k9 _ ?_)
   exact c_ret (rets [] [(vI 3)] [(vI 3)] h)
 · refine c_skip (k5 _ ?_)
   refine J0 (r := r) ⟨(mkd .any 126 0 [(0, (vL Form.c a1)), (1, (vL Form.c a2)), (2, (vL Rule.c a3))]), []⟩ (f214_k10 n a1 a3 a2) ?_ ?_
   · intro h
     rw [f214_k10.eq_1] at h
     refine J0 (r := r) ⟨(mkd .any 126 0 [(0, (vL Form.c a1)), (1, (vL Form.c a2)), (2, (vL Rule.c a3))]), []⟩ (f214_k69 n a3 a1 a2) ?_ ?_
     · intro h
       rw [f214_k69.eq_1] at h
       refine J0 (r := r) ⟨(mkd .any 126 0 []), []⟩ (f214_k100) ?_ ?_
       · intro h
         rw [f214_k100.eq_1] at h
         refine s_so fun N241 k241 w241 => ?_
         refine o_r1 [(6, (vI 0))] ?_
         refine o_end (k241 _ ?_)
         exact c_ret (rets [] [(vI 0)] [(vI 0)] h)
       · intro N100 w100
         refine s_so fun N101 k101 w101 => ?_
         refine o_r1 [(9, (vI 0))] ?_
         refine o_end (k101 _ ?_)
         refine c_block fun E102 hE102 hO102 => ?_
         refine W1 (fun (x172 : Int) => ⟨(mkd .any 126 0 [(0, (vL Form.c a1)), (1, (vL Form.c a2)), (2, (vL Rule.c a3)), (9, (vI x172))]), []⟩) (f214_l103 a3 n a1 a2 (f214_k100)) h (wkm [0, 1, 2, 9] wh_nil) (by intros; rw [f214_l103.eq_1]) ?_
         intro m103 x172 h N103 w103
         rw [f214_l103.eq_2] at h
         refine s_seq fun N173 k173 w173 => ?_
         refine s_so fun N174 k174 w174 => ?_
         refine o_r2 [(64, (vI x172)), (65, (vL Rule.c a3))] ?_
         refine o_o (one_len (f := Rule.c) (l := a3)) ?_
         refine o_r1 [(67, (vB (decide (x172 < (len a3)))))] ?_
         refine o_end (k174 _ ?_)
         refine i_c [67] h (fun h => ?_) (fun h => ?_)
         · refine c_skip (k173 _ ?_)
           refine J0 (r := r) ⟨(mkd .any 126 0 [(0, (vL Form.c a1)), (1, (vL Form.c a2)), (2, (vL Rule.c a3)), (9, (vI x172))]), []⟩ (f214_k177 x172 (f214_l103 a3 n a1 a2 (f214_k100) m103)) ?_ ?_
           · intro h
             rw [f214_k177.eq_1] at h
             refine c_ops ?_
             refine o_r3 [(9, (vI (wr .i64 (x172 + 1)))), (68, (vI x172)), (69, (vI (wr .i64 (x172 + 1))))] ?_
             exact o_end (w103 _ _ (wkm [0, 1, 2, 9] wh_nil) h)
           · intro N177 w177
             refine c_block fun E178 hE178 hO178 => ?_
             refine s_so fun N179 k179 w179 => ?_
             refine o_r4 [(70, (vL Form.c a1)), (71, (vL Form.c a1)), (72, (vL Rule.c a3)), (73, (vI x172))] ?_
             refine bnd h fun x180 g181 h => ?_
             refine o_o (one_ia (f := Rule.c) (ki := .i64) g181) ?_
             refine o_r2 [(75, (.iptr [(vS x180.fClass), (vS x180.fTo), (vL Give.c x180.fGives)])), (76, (vS x180.fClass))] ?_
             refine bnd h fun r182 g183 h => ?_
             refine o_o (one_call (p_f55 g183)) ?_
             refine bnd h fun x184 g185 h => ?_
             refine o_o (one_ia (f := Form.c) (ki := .i64) g185) ?_
             refine o_h3 [(10, (.ptr 1 0)), (79, (.agg [(vS x184.fName), (vL Col.c x184.fCols)]))] [(some (.row 68 3 (List.map Col.c []))), (some (.box 66 [(vS x184.fName), (vL Col.c x184.fCols)]))] ?_
             refine o_end (k179 _ ?_)
             refine s_so fun N186 k186 w186 => ?_
             refine o_r4 [(80, (vL Form.c a2)), (81, (vL Form.c a2)), (82, (vL Rule.c a3)), (83, (vI x172))] ?_
             refine bnd h fun x187 g188 h => ?_
             refine o_o (one_ia (f := Rule.c) (ki := .i64) g188) ?_
             refine o_r2 [(85, (.iptr [(vS x187.fTo), (vL Give.c x187.fGives)])), (86, (vS x187.fTo))] ?_
             refine s_tm (mkd .any 126 0 [(0, (vL Form.c a1)), (1, (vL Form.c a2)), (2, (vL Rule.c a3)), (9, (vI x172)), (10, (.ptr 1 0)), (64, (vI x172)), (65, (vL Rule.c a3)), (66, (vI (len a3))), (67, (vB true)), (70, (vL Form.c a1)), (71, (vL Form.c a1)), (72, (vL Rule.c a3)), (73, (vI x172)), (74, (.iptr [(vS x180.fClass), (vS x180.fTo), (vL Give.c x180.fGives)])), (75, (.iptr [(vS x180.fClass), (vS x180.fTo), (vL Give.c x180.fGives)])), (76, (vS x180.fClass)), (77, (vI r182)), (78, (.iptr [(vS x184.fName), (vL Col.c x184.fCols)])), (79, (.agg [(vS x184.fName), (vL Col.c x184.fCols)])), (80, (vL Form.c a2)), (81, (vL Form.c a2)), (82, (vL Rule.c a3)), (83, (vI x172)), (84, (.iptr [(vS x187.fClass), (vS x187.fTo), (vL Give.c x187.fGives)])), (85, (.iptr [(vS x187.fTo), (vL Give.c x187.fGives)])), (86, (vS x187.fTo))]) ?_
             refine bnd h fun r189 g190 h => ?_
             refine o_o (one_call (p_f55 g190)) ?_
             refine bnd h fun x191 g192 h => ?_
             refine o_o (one_ia (f := Form.c) (ki := .i64) g192) ?_
             refine o_h3 [(11, (.ptr 3 0)), (89, (.agg [(vS x191.fName), (vL Col.c x191.fCols)]))] [(some (.row 68 3 (List.map Col.c []))), (some (.box 66 [(vS x184.fName), (vL Col.c x184.fCols)])), (some (.row 68 3 (List.map Col.c []))), (some (.box 66 [(vS x191.fName), (vL Col.c x191.fCols)]))] ?_
             refine o_end (w186 _ ⟨(mkd .any 126 0 [(0, (vL Form.c a1)), (1, (vL Form.c a2)), (2, (vL Rule.c a3)), (9, (vI x172)), (10, (.ptr 1 0)), (11, (.ptr 3 0))]), [none, (some (.box 66 [(vS x184.fName), (vL Col.c x184.fCols)])), none, (some (.box 66 [(vS x191.fName), (vL Col.c x191.fCols)]))]⟩ (wkm [0, 1, 2, 9, 10, 11] (wh_drop (whk (wh_drop (whk wh_nil))))) ?_)
             refine s_seq fun N193 k193 w193 => ?_
             refine s_seq fun N194 k194 w194 => ?_
             refine c_draw0 ?_
             refine d_r2 [(90, (vL Rule.c a3)), (91, (vI x172))] ?_
             refine bnd h fun x195 g196 h => ?_
             refine d_o (one_ia (f := Rule.c) (ki := .i64) g196) ?_
             refine d_r2 [(93, (.iptr [(vL Give.c x195.fGives)])), (94, (vL Give.c x195.fGives))] ?_
             refine d_o (one_len (f := Give.c) (l := x195.fGives)) ?_
             refine d_r2 [(96, (.ptr 3 1)), (97, (vL Col.c x191.fCols))] ?_
             refine d_o (one_len (f := Col.c) (l := x191.fCols)) ?_
             refine d_r1 [(99, (vB ((len x195.fGives) != (len x191.fCols))))] ?_
             refine d_end (k194 _ ?_)
             refine i_c [99] h (fun h => ?_) (fun h => ?_)
             · refine s_so fun N200 k200 w200 => ?_
               refine o_r1 [(6, (vI 2))] ?_
               refine o_end (w200 _ ⟨(mkd .any 126 0 [(6, (vI 2))]), []⟩ (wkm [6] wh_nil) ?_)
               exact c_ret (rets [] [(vI 2)] [(vI 2)] h)
             · refine c_skip (k193 _ ?_)
               refine s_so fun N201 k201 w201 => ?_
               refine o_r1 [(12, (vI 0))] ?_
               refine o_end (k201 _ ?_)
               refine c_block fun E202 hE202 hO202 => ?_
               refine W1 (fun (x222 : Int) => ⟨(mkd .any 126 0 [(0, (vL Form.c a1)), (1, (vL Form.c a2)), (2, (vL Rule.c a3)), (9, (vI x172)), (10, (.ptr 1 0)), (11, (.ptr 3 0)), (12, (vI x222))]), [none, (some (.box 66 [(vS x184.fName), (vL Col.c x184.fCols)])), none, (some (.box 66 [(vS x191.fName), (vL Col.c x191.fCols)]))]⟩) (f214_l203 x191 a3 x172 n x184 (f214_k177 x172 (f214_l103 a3 n a1 a2 (f214_k100) m103))) h (wkm [0, 1, 2, 9, 10, 11, 12] (wh_none (whk (wh_none (whk wh_nil))))) (by intros; rw [f214_l203.eq_1]) ?_
               intro m203 x222 h N203 w203
               rw [f214_l203.eq_2] at h
               refine s_seq fun N223 k223 w223 => ?_
               refine s_so fun N224 k224 w224 => ?_
               refine o_r3 [(100, (vI x222)), (101, (.ptr 3 1)), (102, (vL Col.c x191.fCols))] ?_
               refine o_o (one_len (f := Col.c) (l := x191.fCols)) ?_
               refine o_r1 [(104, (vB (decide (x222 < (len x191.fCols)))))] ?_
               refine o_end (k224 _ ?_)
               refine i_c [104] h (fun h => ?_) (fun h => ?_)
               · refine c_skip (k223 _ ?_)
                 refine s_seq fun N227 k227 w227 => ?_
                 refine c_block fun E228 hE228 hO228 => ?_
                 refine s_seq fun N229 k229 w229 => ?_
                 refine c_draw0 ?_
                 refine d_r4 [(107, (vL Rule.c a3)), (108, (.agg [(vS x184.fName), (vL Col.c x184.fCols)])), (109, (vL Rule.c a3)), (110, (vI x172))] ?_
                 refine bnd h fun x230 g231 h => ?_
                 refine d_o (one_ia (f := Rule.c) (ki := .i64) g231) ?_
                 refine d_r3 [(112, (.iptr [(vL Give.c x230.fGives)])), (113, (vL Give.c x230.fGives)), (114, (vI x222))] ?_
                 refine bnd h fun x232 g233 h => ?_
                 refine d_o (one_ia (f := Give.c) (ki := .i64) g233) ?_
                 refine d_r4 [(116, (.agg [(vS x232.fFrom), (vI x232.fHow), (vI x232.fN)])), (117, (.ptr 3 1)), (118, (vL Col.c x191.fCols)), (119, (vI x222))] ?_
                 refine bnd h fun x234 g235 h => ?_
                 refine d_o (one_ia (f := Col.c) (ki := .i64) g235) ?_
                 refine d_r1 [(121, (.agg [(vS x234.fName), (vI x234.fKind), (vS x234.fClass)]))] ?_
                 refine bnd h fun r236 g237 h => ?_
                 refine d_o (one_call (p_f219 g237)) ?_
                 refine d_r1 [(13, (vI r236))] ?_
                 refine t_tm (mkd .any 126 0 [(0, (vL Form.c a1)), (1, (vL Form.c a2)), (2, (vL Rule.c a3)), (9, (vI x172)), (10, (.ptr 1 0)), (11, (.ptr 3 0)), (12, (vI x222)), (13, (vI r236)), (100, (vI x222)), (101, (.ptr 3 1)), (102, (vL Col.c x191.fCols)), (103, (vI (len x191.fCols))), (104, (vB true)), (107, (vL Rule.c a3)), (108, (.agg [(vS x184.fName), (vL Col.c x184.fCols)])), (109, (vL Rule.c a3)), (110, (vI x172)), (111, (.iptr [(vS x230.fClass), (vS x230.fTo), (vL Give.c x230.fGives)])), (112, (.iptr [(vL Give.c x230.fGives)])), (113, (vL Give.c x230.fGives)), (114, (vI x222)), (115, (.iptr [(vS x232.fFrom), (vI x232.fHow), (vI x232.fN)])), (116, (.agg [(vS x232.fFrom), (vI x232.fHow), (vI x232.fN)])), (117, (.ptr 3 1)), (118, (vL Col.c x191.fCols)), (119, (vI x222)), (120, (.iptr [(vS x234.fName), (vI x234.fKind), (vS x234.fClass)])), (121, (.agg [(vS x234.fName), (vI x234.fKind), (vS x234.fClass)])), (122, (vI r236))]) ?_
                 refine d_end (w229 _ ⟨(mkd .any 126 0 [(0, (vL Form.c a1)), (1, (vL Form.c a2)), (2, (vL Rule.c a3)), (9, (vI x172)), (10, (.ptr 1 0)), (11, (.ptr 3 0)), (12, (vI x222)), (13, (vI r236))]), [none, (some (.box 66 [(vS x184.fName), (vL Col.c x184.fCols)])), none, (some (.box 66 [(vS x191.fName), (vL Col.c x191.fCols)]))]⟩ (wkm [0, 1, 2, 9, 10, 11, 12, 13] (wh_none (whk (wh_none (whk wh_nil))))) ?_)
                 refine s_so fun N238 k238 w238 => ?_
                 refine o_r2 [(123, (vI r236)), (124, (vB (r236 != 0)))] ?_
                 refine o_end (k238 _ ?_)
                 refine i_c [124] h (fun h => ?_) (fun h => ?_)
                 · refine s_so fun N240 k240 w240 => ?_
                   refine o_r2 [(6, (vI r236)), (125, (vI r236))] ?_
                   refine o_end (k240 _ ?_)
                   exact c_ret (rets [] [(vI r236)] [(vI r236)] h)
                 · refine c_skip (k227 _ ?_)
                   refine c_ops ?_
                   refine o_r3 [(12, (vI (wr .i64 (x222 + 1)))), (105, (vI x222)), (106, (vI (wr .i64 (x222 + 1))))] ?_
                   exact o_end (w203 _ _ (wkm [0, 1, 2, 9, 10, 11, 12] (wh_none (whk (wh_none (whk wh_nil))))) h)
               · refine c_exit (hE202 _ ?_)
                 exact w177 _ (wkm [0, 1, 2, 9] wh_nil) h
         · refine c_exit (hE102 _ ?_)
           exact w100 _ (wkm [] wh_nil) h
     · intro N69 w69
       refine s_so fun N70 k70 w70 => ?_
       refine o_r1 [(8, (vI 0))] ?_
       refine o_end (k70 _ ?_)
       refine c_block fun E71 hE71 hO71 => ?_
       refine W1 (fun (x86 : Int) => ⟨(mkd .any 126 0 [(0, (vL Form.c a1)), (1, (vL Form.c a2)), (2, (vL Rule.c a3)), (8, (vI x86))]), []⟩) (f214_l72 a1 n a3 (f214_k69 n a3 a1 a2)) h (wkm [0, 1, 2, 8] wh_nil) (by intros; rw [f214_l72.eq_1]) ?_
       intro m72 x86 h N72 w72
       rw [f214_l72.eq_2] at h
       refine s_seq fun N87 k87 w87 => ?_
       refine s_so fun N88 k88 w88 => ?_
       refine o_r2 [(50, (vI x86)), (51, (vL Form.c a1))] ?_
       refine o_o (one_len (f := Form.c) (l := a1)) ?_
       refine o_r1 [(53, (vB (decide (x86 < (len a1)))))] ?_
       refine o_end (k88 _ ?_)
       refine i_c [53] h (fun h => ?_) (fun h => ?_)
       · refine c_skip (k87 _ ?_)
         refine s_seq fun N91 k91 w91 => ?_
         refine c_block fun E92 hE92 hO92 => ?_
         refine s_so fun N93 k93 w93 => ?_
         refine o_r3 [(56, (vL Rule.c a3)), (57, (vL Form.c a1)), (58, (vI x86))] ?_
         refine bnd h fun x94 g95 h => ?_
         refine o_o (one_ia (f := Form.c) (ki := .i64) g95) ?_
         refine o_r2 [(60, (.iptr [(vS x94.fName), (vL Col.c x94.fCols)])), (61, (vS x94.fName))] ?_
         refine bnd h fun r96 g97 h => ?_
         refine o_o (one_call (p_f212 g97)) ?_
         refine o_r1 [(63, (vB (decide (r96 < 0))))] ?_
         refine o_end (k93 _ ?_)
         refine i_c [63] h (fun h => ?_) (fun h => ?_)
         · refine s_so fun N99 k99 w99 => ?_
           refine o_r1 [(6, (vI 5))] ?_
           refine o_end (w99 _ ⟨(mkd .any 126 0 [(6, (vI 5))]), []⟩ (wkm [6] wh_nil) ?_)
           exact c_ret (rets [] [(vI 5)] [(vI 5)] h)
         · refine c_skip (k91 _ ?_)
           refine c_ops ?_
           refine o_r3 [(8, (vI (wr .i64 (x86 + 1)))), (54, (vI x86)), (55, (vI (wr .i64 (x86 + 1))))] ?_
           exact o_end (w72 _ _ (wkm [0, 1, 2, 8] wh_nil) h)
       · refine c_exit (hE71 _ ?_)
         exact w69 _ (wkm [0, 1, 2] wh_nil) h
   · intro N10 w10
     refine s_so fun N11 k11 w11 => ?_
     refine o_r1 [(7, (vI 0))] ?_
     refine o_end (k11 _ ?_)
     refine c_block fun E12 hE12 hO12 => ?_
     refine W1 (fun (x41 : Int) => ⟨(mkd .any 126 0 [(0, (vL Form.c a1)), (1, (vL Form.c a2)), (2, (vL Rule.c a3)), (7, (vI x41))]), []⟩) (f214_l13 a3 n a1 a2 (f214_k10 n a1 a3 a2)) h (wkm [0, 1, 2, 7] wh_nil) (by intros; rw [f214_l13.eq_1]) ?_
     intro m13 x41 h N13 w13
     rw [f214_l13.eq_2] at h
     refine s_seq fun N42 k42 w42 => ?_
     refine s_so fun N43 k43 w43 => ?_
     refine o_r2 [(17, (vI x41)), (18, (vL Rule.c a3))] ?_
     refine o_o (one_len (f := Rule.c) (l := a3)) ?_
     refine o_r1 [(20, (vB (decide (x41 < (len a3)))))] ?_
     refine o_end (k43 _ ?_)
     refine i_c [20] h (fun h => ?_) (fun h => ?_)
     · refine c_skip (k42 _ ?_)
       refine s_seq fun N46 k46 w46 => ?_
       refine c_block fun E47 hE47 hO47 => ?_
       refine s_seq fun N48 k48 w48 => ?_
       refine J1 (r := r) (fun (x59 : Bool) => ⟨(mkd .any 126 0 [(0, (vL Form.c a1)), (1, (vL Form.c a2)), (2, (vL Rule.c a3)), (7, (vI x41)), (40, (vB x59))]), []⟩) (f214_k49 a3 x41 n (f214_l13 a3 n a1 a2 (f214_k10 n a1 a3 a2) m13)) ?_ ?_
       · intro x59 h
         rw [f214_k49.eq_1] at h
         refine i_c [40] h (fun h => ?_) (fun h => ?_)
         · refine s_so fun N61 k61 w61 => ?_
           refine o_r1 [(6, (vI 4))] ?_
           refine o_end (k61 _ ?_)
           exact c_ret (rets [] [(vI 4)] [(vI 4)] h)
         · refine c_skip (k48 _ ?_)
           refine s_so fun N62 k62 w62 => ?_
           refine o_r3 [(41, (vL Rule.c a3)), (42, (vL Rule.c a3)), (43, (vI x41))] ?_
           refine bnd h fun x63 g64 h => ?_
           refine o_o (one_ia (f := Rule.c) (ki := .i64) g64) ?_
           refine o_r2 [(45, (.iptr [(vS x63.fClass), (vS x63.fTo), (vL Give.c x63.fGives)])), (46, (vS x63.fClass))] ?_
           refine bnd h fun r65 g66 h => ?_
           refine o_o (one_call (p_f212 g66)) ?_
           refine o_r2 [(48, (vI x41)), (49, (vB (decide (r65 < x41))))] ?_
           refine o_end (k62 _ ?_)
           refine i_c [49] h (fun h => ?_) (fun h => ?_)
           · refine s_so fun N68 k68 w68 => ?_
             refine o_r1 [(6, (vI 6))] ?_
             refine o_end (k68 _ ?_)
             exact c_ret (rets [] [(vI 6)] [(vI 6)] h)
           · refine c_skip (k46 _ ?_)
             refine c_ops ?_
             refine o_r3 [(7, (vI (wr .i64 (x41 + 1)))), (21, (vI x41)), (22, (vI (wr .i64 (x41 + 1))))] ?_
             exact o_end (w13 _ _ (wkm [0, 1, 2, 7] wh_nil) h)
       · intro N49 w49
         refine c_ops ?_
         refine o_r3 [(23, (vL Form.c a1)), (24, (vL Rule.c a3)), (25, (vI x41))] ?_
         refine bnd h fun x50 g51 h => ?_
         refine o_o (one_ia (f := Rule.c) (ki := .i64) g51) ?_
         refine o_r2 [(27, (.iptr [(vS x50.fClass), (vS x50.fTo), (vL Give.c x50.fGives)])), (28, (vS x50.fClass))] ?_
         refine bnd h fun r52 g53 h => ?_
         refine o_o (one_call (p_f55 g53)) ?_
         refine o_r2 [(30, (vB (decide (r52 < 0)))), (31, (vB (decide (r52 < 0))))] ?_
         refine i_o [30, 31] h (fun h => ?_) (fun h => ?_)
         · refine o_r9 [(32, (.val undef)), (33, (.val undef)), (34, (.val undef)), (35, (.val undef)), (36, (.val undef)), (37, (.val undef)), (38, (.val undef)), (39, (.val undef)), (40, (vB true))] ?_
           exact o_end (w49 _ _ (wkm [0, 1, 2, 7, 40] wh_nil) h)
         · refine o_r3 [(32, (vL Form.c a2)), (33, (vL Rule.c a3)), (34, (vI x41))] ?_
           refine bnd h fun x55 g56 h => ?_
           refine o_g ?_
           refine o_o (one_ia (f := Rule.c) (ki := .i64) g56) ?_
           refine o_r2 [(36, (.iptr [(vS x55.fTo), (vL Give.c x55.fGives)])), (37, (vS x55.fTo))] ?_
           refine s_tm (mkd .any 126 0 [(0, (vL Form.c a1)), (1, (vL Form.c a2)), (2, (vL Rule.c a3)), (7, (vI x41)), (17, (vI x41)), (18, (vL Rule.c a3)), (19, (vI (len a3))), (20, (vB true)), (23, (vL Form.c a1)), (24, (vL Rule.c a3)), (25, (vI x41)), (26, (.iptr [(vS x50.fClass), (vS x50.fTo), (vL Give.c x50.fGives)])), (27, (.iptr [(vS x50.fClass), (vS x50.fTo), (vL Give.c x50.fGives)])), (28, (vS x50.fClass)), (29, (vI r52)), (30, (vB false)), (31, (vB false)), (32, (vL Form.c a2)), (33, (vL Rule.c a3)), (34, (vI x41)), (35, (.iptr [(vS x55.fClass), (vS x55.fTo), (vL Give.c x55.fGives)])), (36, (.iptr [(vS x55.fTo), (vL Give.c x55.fGives)])), (37, (vS x55.fTo))]) ?_
           refine bnd h fun r57 g58 h => ?_
           refine o_g ?_
           refine o_o (one_call (p_f55 g58)) ?_
           refine o_r2 [(39, (vB (decide (r57 < 0)))), (40, (vB (decide (r57 < 0))))] ?_
           exact o_end (w49 _ _ (wkm [0, 1, 2, 7, 40] wh_nil) h)
     · refine c_exit (hE12 _ ?_)
       exact w10 _ (wkm [0, 1, 2] wh_nil) h
end Go.Proofs
end
