/- Texts of this claim, one behind the other. -/
import Derived.Test.YtbdgamoicleieaaPnc
import Derived.Laws.RangeAny
import Derived.Laws.RangeString
set_option linter.unusedVariables false
set_option linter.unusedSimpArgs false
set_option linter.unnecessarySimpa false
section
set_option linter.unusedVariables false
set_option maxRecDepth 100000
set_option maxHeartbeats 4000000
namespace Go.Proofs
open Go.Vm
attribute [local irreducible] vOps vDraw vC vK retP retH PureSpec HSpec
def f97 (n : Nat) (a1 : (List Node)) (a2 : (List Form)) : Option Bool := ((f135 n a1 a2).bind fun r5 => some (decide (r5 ≥ 0)))
def f97_r (r : Bool) : AV := (vB r)
theorem p_f97 {n : Nat} {a1 : (List Node)} {a2 : (List Form)} {r : Bool} (h : f97 n a1 a2 = some r) : PureSpec Try.prog 97 [(vL Node.c a1), (.fn 98 [(.iptr [(vL Form.c a2)])])] (f97_r r) := by
 rw [f97.eq_1] at h
 refine pure_of hmix ic97 ?_
 refine go_to (mkd (.val undef) 9 0 [(0, (vL Node.c a1)), (1, (.fn 98 [(.iptr [(vL Form.c a2)])]))]) ?_
 refine s_so fun N3 k3 w3 => ?_
 refine o_r1 [(4, (vB false))] ?_
 refine o_end (k3 _ ?_)
 refine s_so fun N4 k4 w4 => ?_
 refine o_r2 [(5, (vL Node.c a1)), (6, (.fn 98 [(.iptr [(vL Form.c a2)])]))] ?_
 refine bnd h fun r5 g6 h => ?_
 refine o_o (one_call (p_f135 g6)) ?_
 refine o_r2 [(4, (vB (decide (r5 ≥ 0)))), (8, (vB (decide (r5 ≥ 0))))] ?_
 refine o_end (k4 _ ?_)
 exact c_ret (rets [] [(vB (decide (r5 ≥ 0)))] [(vB (decide (r5 ≥ 0)))] h)
theorem ic107 : fnIC Try.prog H0 107 = some ([.tmp 6], 44, (.seq (.ops [zO 3 (.box 0 26 [(0, 57, 2, 0), (1, 59, 2, 0)] (.t 0)), zO 4 (.box 0 93 [] (.t 1)), zO 5 (.box 0 59 [] (.t 2)), zO 6 (.mov (.c (.bool false)))]) (.seq (.seq (.ops [zO 7 (.faddr (.t 4) 1), zO 8 (.ld (.t 7) 1 false)]) (.block 0 (.seq (.ops [zO 10 (.sc (.bin .eql 3) [(.t 8), (.c (.int .i64 1))]), zM 9 10]) (.cond (.t 9)
  (.seq (.ops [zO 11 (.faddr (.t 5) 0), zO 12 (.ld (.t 11) 1 false), zO 13 (.sc (.bin .eql 3) [(.t 12), (.c (.int .i64 1))]), zM 6 13]) .ret)
  (.seq (.ops [zO 15 (.sc (.bin .eql 3) [(.t 8), (.c (.int .i64 2))]), zM 14 15]) (.cond (.t 14)
  (.seq (.ops [zO 16 (.faddr (.t 5) 0), zO 17 (.ld (.t 16) 1 false), zO 18 (.sc (.bin .eql 3) [(.t 17), (.c (.int .i64 2))]), zM 6 18]) .ret)
  .skip)))))) (.seq (.draw [] [zQ (zO 19 (.faddr (.t 5) 0)), zQ (zO 20 (.ld (.t 19) 1 false)), zQ (zO 21 (.sc (.bin .eql 3) [(.t 20), (.c (.int .i64 3))])), zQ (zM 22 21), zQ (zG 23 22 false (.faddr (.t 5) 0)), zQ (zG 24 22 false (.ld (.t 23) 1 false)), zQ (zG 25 22 false (.sc (.bin .eql 3) [(.t 24), (.c (.int .i64 4))])), zQ (zN 26 22 false 25), zQ (zG 27 26 true (.faddr (.t 4) 2)), zQ (zG 28 26 true (.ld (.t 27) 1 false)), zQ (zG 29 26 true (.sc (.bin .eql 9) [(.t 28), (.c (.string ⟨#[65, 78, 89]⟩))])), zQ (zN 30 26 true 29), zQ (zG 31 30 false (.faddr (.t 3) 0)), zQ (zG 32 30 false (.ld (.t 31) 1 false)), zQ (zG 33 30 false (.faddr (.t 5) 1)), zQ (zG 34 30 false (.ld (.t 33) 1 false)), zQ (zG 35 30 false (.iaddr 2 (.t 32) (.t 34))), zQ (zG 36 30 false (.faddr (.t 35) 0)), zQ (zG 37 30 false (.ld (.t 36) 1 false)), zQ (zG 38 30 false (.faddr (.t 4) 2)), zQ (zG 39 30 false (.ld (.t 38) 1 false)), zQ (zG 40 30 false (.sc (.bin .eql 9) [(.t 37), (.t 39)])), zQ (zG 41 26 true (.pick (.t 30) (.c (.bool true)) (.t 40))), zQ (zG 42 22 false (.pick (.t 26) (.t 41) (.c (.bool false)))), zQ (zO 43 (.pick (.t 22) (.c (.bool true)) (.t 42))), zQ (zM 6 43)]) .ret)))) := by kernel_rfl
def f107_k14 (x22 : Bool) : Option Bool := some x22
def f107 (n : Nat) (a1 : Graph) (a2 : Col) (a3 : Val) : Option Bool := (bif (a2.fKind == 1) then some (a3.fKind == 1) else (bif (a2.fKind == 2) then some (a3.fKind == 2) else (bif (a3.fKind == 3) then (f107_k14 true) else (bif (a3.fKind == 4) then (bif (sEqF a2.fClass (ByteArray.mk #[65, 78, 89])) then (f107_k14 true) else ((gi a1.fNodes a3.fN).bind fun x19 => (f107_k14 (sEqF x19.fClass a2.fClass)))) else (f107_k14 false)))))
def f107_r (r : Bool) : AV := (vB r)
theorem p_f107 {n : Nat} {a1 : Graph} {a2 : Col} {a3 : Val} {r : Bool} (h : f107 n a1 a2 a3 = some r) : PureSpec Try.prog 107 [(.agg [(vL Node.c a1.fNodes), (vL Val.c a1.fRoots)]), (.agg [(vS a2.fName), (vI a2.fKind), (vS a2.fClass)]), (.agg [(vI a3.fKind), (vI a3.fN)])] (f107_r r) := by
 rw [f107.eq_1] at h
 refine pure_of hmix ic107 ?_
 refine go_to (mkd (.val undef) 44 0 [(0, (.agg [(vL Node.c a1.fNodes), (vL Val.c a1.fRoots)])), (1, (.agg [(vS a2.fName), (vI a2.fKind), (vS a2.fClass)])), (2, (.agg [(vI a3.fKind), (vI a3.fN)]))]) ?_
 refine s_so fun N4 k4 w4 => ?_
 refine o_h4 [(3, (.ptr 0 0)), (4, (.ptr 1 0)), (5, (.ptr 2 0)), (6, (vB false))] [(some (.box 26 [(vL Node.c a1.fNodes), (vL Val.c a1.fRoots)])), (some (.box 93 [(vS a2.fName), (vI a2.fKind), (vS a2.fClass)])), (some (.box 59 [(vI a3.fKind), (vI a3.fN)]))] ?_
 refine o_end (k4 _ ?_)
 refine s_seq fun N5 k5 w5 => ?_
 refine s_so fun N6 k6 w6 => ?_
 refine o_r2 [(7, (.ptr 1 1)), (8, (vI a2.fKind))] ?_
 refine o_end (k6 _ ?_)
 refine c_block fun E7 hE7 hO7 => ?_
 refine s_so fun N8 k8 w8 => ?_
 refine o_r2 [(9, (vB (a2.fKind == 1))), (10, (vB (a2.fKind == 1)))] ?_
 refine o_end (k8 _ ?_)
 refine i_c [9, 10] h (fun h => ?_) (fun h => ?_)
 · refine s_so fun N10 k10 w10 => ?_
   refine o_r4 [(6, (vB (a3.fKind == 1))), (11, (.ptr 2 0)), (12, (vI a3.fKind)), (13, (vB (a3.fKind == 1)))] ?_
   refine o_end (k10 _ ?_)
   exact c_ret (rets [] [(vB (a3.fKind == 1))] [(vB (a3.fKind == 1))] h)
 · refine s_so fun N11 k11 w11 => ?_
   refine o_r2 [(14, (vB (a2.fKind == 2))), (15, (vB (a2.fKind == 2)))] ?_
   refine o_end (k11 _ ?_)
   refine i_c [14, 15] h (fun h => ?_) (fun h => ?_)
   · refine s_so fun N13 k13 w13 => ?_
     refine o_r4 [(6, (vB (a3.fKind == 2))), (16, (.ptr 2 0)), (17, (vI a3.fKind)), (18, (vB (a3.fKind == 2)))] ?_
     refine o_end (k13 _ ?_)
     exact c_ret (rets [] [(vB (a3.fKind == 2))] [(vB (a3.fKind == 2))] h)
   · refine c_skip (k5 _ ?_)
     refine J1 (r := r) (fun (x22 : Bool) => ⟨(mkd .any 44 0 [(6, (vB x22))]), []⟩) (f107_k14) ?_ ?_
     · intro x22 h
       rw [f107_k14.eq_1] at h
       exact c_ret (rets [] [(vB x22)] [(vB x22)] h)
     · intro N14 w14
       refine c_draw0 ?_
       refine d_r4 [(19, (.ptr 2 0)), (20, (vI a3.fKind)), (21, (vB (a3.fKind == 3))), (22, (vB (a3.fKind == 3)))] ?_
       refine i_d [21, 22] h (fun h => ?_) (fun h => ?_)
       · refine d_r16 [(23, (.val undef)), (24, (.val undef)), (25, (.val undef)), (26, (.val undef)), (27, (.val undef)), (28, (.val undef)), (29, (.val undef)), (30, (.val undef)), (31, (.val undef)), (32, (.val undef)), (33, (.val undef)), (34, (.val undef)), (35, (.val undef)), (36, (.val undef)), (37, (.val undef)), (38, (.val undef))] ?_
         refine d_r6 [(6, (vB true)), (39, (.val undef)), (40, (.val undef)), (41, (.val undef)), (42, (.val undef)), (43, (vB true))] ?_
         exact d_end (w14 _ _ (wkm [6] wh_nil) h)
       · refine d_r4 [(23, (.ptr 2 0)), (24, (vI a3.fKind)), (25, (vB (a3.fKind == 4))), (26, (vB (a3.fKind == 4)))] ?_
         refine i_d [25, 26] h (fun h => ?_) (fun h => ?_)
         · refine d_r2 [(27, (.ptr 1 2)), (28, (vS a2.fClass))] ?_
           refine d_g (one_sc (vs := [.string a2.fClass, .string (ByteArray.mk #[65, 78, 89])]) (str_eql a2.fClass (ByteArray.mk #[65, 78, 89]))) ?_
           refine d_r1 [(30, (vB (sEqF a2.fClass (ByteArray.mk #[65, 78, 89]))))] ?_
           refine t_tm (mkd (.val undef) 44 0 [(0, (.agg [(vL Node.c a1.fNodes), (vL Val.c a1.fRoots)])), (1, (.agg [(vS a2.fName), (vI a2.fKind), (vS a2.fClass)])), (2, (.agg [(vI a3.fKind), (vI a3.fN)])), (3, (.ptr 0 0)), (4, (.ptr 1 0)), (5, (.ptr 2 0)), (6, (vB false)), (7, (.ptr 1 1)), (8, (vI a2.fKind)), (9, (vB false)), (10, (vB false)), (14, (vB false)), (15, (vB false)), (19, (.ptr 2 0)), (20, (vI a3.fKind)), (21, (vB false)), (22, (vB false)), (23, (.ptr 2 0)), (24, (vI a3.fKind)), (25, (vB true)), (26, (vB true)), (27, (.ptr 1 2)), (28, (vS a2.fClass)), (29, (vB (sEqF a2.fClass (ByteArray.mk #[65, 78, 89])))), (30, (vB (sEqF a2.fClass (ByteArray.mk #[65, 78, 89]))))]) ?_
           refine i_d [29, 30] h (fun h => ?_) (fun h => ?_)
           · refine d_r14 [(6, (vB true)), (31, (.val undef)), (32, (.val undef)), (33, (.val undef)), (34, (.val undef)), (35, (.val undef)), (36, (.val undef)), (37, (.val undef)), (38, (.val undef)), (39, (.val undef)), (40, (.val undef)), (41, (vB true)), (42, (vB true)), (43, (vB true))] ?_
             exact d_end (w14 _ _ (wkm [6] wh_nil) h)
           · refine d_r4 [(31, (.ptr 0 0)), (32, (vL Node.c a1.fNodes)), (33, (.ptr 2 1)), (34, (vI a3.fN))] ?_
             refine bnd h fun x19 g20 h => ?_
             refine d_g (one_ia (f := Node.c) (ki := .i64) g20) ?_
             refine d_r4 [(36, (.iptr [(vS x19.fClass), (vL Val.c x19.fVals)])), (37, (vS x19.fClass)), (38, (.ptr 1 2)), (39, (vS a2.fClass))] ?_
             refine d_g (one_sc (vs := [.string x19.fClass, .string a2.fClass]) (str_eql x19.fClass a2.fClass)) ?_
             refine d_r4 [(6, (vB (sEqF x19.fClass a2.fClass))), (41, (vB (sEqF x19.fClass a2.fClass))), (42, (vB (sEqF x19.fClass a2.fClass))), (43, (vB (sEqF x19.fClass a2.fClass)))] ?_
             exact d_end (w14 _ _ (wkm [6] wh_nil) h)
         · refine d_r16 [(27, (.val undef)), (28, (.val undef)), (29, (.val undef)), (30, (.val undef)), (31, (.val undef)), (32, (.val undef)), (33, (.val undef)), (34, (.val undef)), (35, (.val undef)), (36, (.val undef)), (37, (.val undef)), (38, (.val undef)), (39, (.val undef)), (40, (.val undef)), (41, (.val undef)), (42, (vB false))] ?_
           refine d_r2 [(43, (vB false))] ?_
           exact d_end (w14 _ _ (wkm [6] wh_nil) h)
theorem ic71 : fnIC Try.prog H0 71 = some ([.tmp 4], 49, (.seq (.ops [zO 3 (.box 0 26 [(0, 57, 2, 0), (1, 59, 2, 0)] (.t 1)), zO 4 (.mov (.c (.bool false)))]) (.seq (.seq (.ops [zO 10 (.faddr (.t 3) 0), zO 11 (.ld (.t 10) 1 false), zO 12 (.len false (.t 11)), zO 13 (.mov (.c (.int .i64 0)))]) (.block 0 (.loop (.seq (.ops [zO 14 (.sc (.bin .lss 3) [(.t 13), (.t 12)])]) (.seq (.cond (.t 14)
  .skip
  (.exit 0)) (.seq (.block 1 (.seq (.ops [zO 15 (.iaddr 2 (.t 11) (.t 13)), zO 16 (.ld (.t 15) 2 true), zO 6 (.alloc 0 57 [(1, 59, 2, 0)] [(.string ⟨#[]⟩), (.slice none 0 0)]), zU (.st true 2 [(1, 59, 2, 0)] (.t 6) (.t 16))]) (.seq (.ops [zM 17 0, zM 18 0, zO 19 (.faddr (.t 6) 0), zO 20 (.ld (.t 19) 1 false), zO 21 (.call 52 [(.t 18), (.t 20)]), zO 22 (.iaddr 2 (.t 17) (.t 21)), zO 23 (.faddr (.t 22) 1), zO 24 (.ld (.t 23) 1 false), zM 7 24]) (.seq (.seq (.ops [zO 25 (.faddr (.t 6) 1), zO 26 (.ld (.t 25) 1 false), zO 27 (.len false (.t 26)), zM 28 7, zO 29 (.len false (.t 28)), zO 30 (.sc (.bin .neq 3) [(.t 27), (.t 29)])]) (.cond (.t 30)
  (.seq (.ops [zO 4 (.mov (.c (.bool false)))]) .ret)
  .skip)) (.seq (.ops [zM 31 7, zO 32 (.len false (.t 31)), zO 33 (.mov (.c (.int .i64 0)))]) (.block 2 (.loop (.seq (.ops [zO 34 (.sc (.bin .lss 3) [(.t 33), (.t 32)])]) (.seq (.cond (.t 34)
  .skip
  (.exit 2)) (.seq (.block 3 (.seq (.ops [zM 35 33, zO 36 (.iaddr 3 (.t 31) (.t 33)), zO 37 (.ld (.t 36) 3 true), zO 9 (.alloc 0 93 [] [(.string ⟨#[]⟩), (.int .i64 0), (.string ⟨#[]⟩)]), zM 8 35, zU (.st true 3 [] (.t 9) (.t 37))]) (.seq (.draw [] [zQ (zO 38 (.ld (.t 3) 2 true)), zQ (zO 39 (.ld (.t 9) 3 true)), zQ (zO 40 (.faddr (.t 6) 1)), zQ (zO 41 (.ld (.t 40) 1 false)), zQ (zM 42 8), zQ (zO 43 (.iaddr 2 (.t 41) (.t 42))), zQ (zO 44 (.ld (.t 43) 2 true)), zQ (zO 45 (.call 107 [(.t 38), (.t 39), (.t 44)])), zQ (zO 46 (.sc (.un .not) [(.t 45)]))]) (.cond (.t 46)
  (.seq (.ops [zO 4 (.mov (.c (.bool false)))]) .ret)
  .skip)))) (.ops [zO 47 (.sc (.bin .add 3) [(.t 33), (.c (.int .i64 1))]), zM 33 47]))))))))))) (.ops [zO 48 (.sc (.bin .add 3) [(.t 13), (.c (.int .i64 1))]), zM 13 48]))))))) (.seq (.ops [zO 4 (.mov (.c (.bool true)))]) .ret)))) := by kernel_rfl
def f71_k67 (x63 : Int) (c8k : Int → Option Bool) : Option Bool := (c8k (wr .i64 (x63 + 1)))
def f71_l86 (x75 : Form) (x70 : Node) (n : Nat) (a2 : Graph) (k67k : Option Bool) : Nat → Int → Option Bool
  | 0, _ => none
  | m86 + 1, x102 => (bif (decide (x102 < (len x75.fCols))) then ((gi x75.fCols x102).bind fun x109 => ((gi x70.fVals x102).bind fun x112 => ((f107 n a2 x109 x112).bind fun r114 => (bif (!r114) then some false else (f71_l86 x75 x70 n a2 (k67k) m86 (wr .i64 (x102 + 1))))))) else (k67k))
def f71_k4 : Option Bool := some true
def f71_l8 (a2 : Graph) (n : Nat) (a1 : (List Form)) (k4k : Option Bool) : Nat → Int → Option Bool
  | 0, _ => none
  | m8 + 1, x63 => (bif (decide (x63 < (len a2.fNodes))) then ((gi a2.fNodes x63).bind fun x70 => ((f52 n a1 x70.fClass).bind fun r73 => ((gi a1 r73).bind fun x75 => (bif ((len x70.fVals) != (len x75.fCols)) then some false else (f71_l86 x75 x70 n a2 (f71_k67 x63 (f71_l8 a2 n a1 (k4k) m8)) n 0))))) else (k4k))
def f71 (n : Nat) (a1 : (List Form)) (a2 : Graph) : Option Bool := (f71_l8 a2 n a1 (f71_k4) n 0)
def f71_r (r : Bool) : AV := (vB r)
theorem p_f71 {n : Nat} {a1 : (List Form)} {a2 : Graph} {r : Bool} (h : f71 n a1 a2 = some r) : PureSpec Try.prog 71 [(vL Form.c a1), (.agg [(vL Node.c a2.fNodes), (vL Val.c a2.fRoots)])] (f71_r r) := by
 rw [f71.eq_1] at h
 refine pure_of hmix ic71 ?_
 refine go_to (mkd (.val undef) 49 0 [(0, (vL Form.c a1)), (1, (.agg [(vL Node.c a2.fNodes), (vL Val.c a2.fRoots)]))]) ?_
 refine s_so fun N3 k3 w3 => ?_
 refine o_h2 [(3, (.ptr 0 0)), (4, (vB false))] [(some (.box 26 [(vL Node.c a2.fNodes), (vL Val.c a2.fRoots)]))] ?_
 refine o_end (k3 _ ?_)
 refine J0 (r := r) ⟨(mkd .any 49 0 []), []⟩ (f71_k4) ?_ ?_
 · intro h
   rw [f71_k4.eq_1] at h
   refine s_so fun N118 k118 w118 => ?_
   refine o_r1 [(4, (vB true))] ?_
   refine o_end (k118 _ ?_)
   exact c_ret (rets [] [(vB true)] [(vB true)] h)
 · intro N4 w4
   refine s_so fun N5 k5 w5 => ?_
   refine o_r2 [(10, (.ptr 0 0)), (11, (vL Node.c a2.fNodes))] ?_
   refine o_o (one_len (f := Node.c) (l := a2.fNodes)) ?_
   refine o_r1 [(13, (vI 0))] ?_
   refine o_end (k5 _ ?_)
   refine c_block fun E7 hE7 hO7 => ?_
   refine W1 (fun (x63 : Int) => ⟨(mkd .any 49 0 [(0, (vL Form.c a1)), (3, (.ptr 0 0)), (11, (vL Node.c a2.fNodes)), (12, (vI (len a2.fNodes))), (13, (vI x63))]), [(some (.box 26 [(vL Node.c a2.fNodes), (vL Val.c a2.fRoots)]))]⟩) (f71_l8 a2 n a1 (f71_k4)) h (wkm [0, 3, 11, 12, 13] (whk wh_nil)) (by intros; rw [f71_l8.eq_1]) ?_
   intro m8 x63 h N8 w8
   rw [f71_l8.eq_2] at h
   refine s_so fun N64 k64 w64 => ?_
   refine o_r1 [(14, (vB (decide (x63 < (len a2.fNodes)))))] ?_
   refine o_end (k64 _ ?_)
   refine s_seq fun N65 k65 w65 => ?_
   refine i_c [14] h (fun h => ?_) (fun h => ?_)
   · refine c_skip (k65 _ ?_)
     refine J0 (r := r) ⟨(mkd .any 49 0 [(0, (vL Form.c a1)), (3, (.ptr 0 0)), (11, (vL Node.c a2.fNodes)), (12, (vI (len a2.fNodes))), (13, (vI x63))]), [(some (.box 26 [(vL Node.c a2.fNodes), (vL Val.c a2.fRoots)]))]⟩ (f71_k67 x63 (f71_l8 a2 n a1 (f71_k4) m8)) ?_ ?_
     · intro h
       rw [f71_k67.eq_1] at h
       refine c_ops ?_
       refine o_r2 [(13, (vI (wr .i64 (x63 + 1)))), (48, (vI (wr .i64 (x63 + 1))))] ?_
       exact o_end (w8 _ _ (wkm [0, 3, 11, 12, 13] (whk wh_nil)) h)
     · intro N67 w67
       refine c_block fun E68 hE68 hO68 => ?_
       refine s_so fun N69 k69 w69 => ?_
       refine bnd h fun x70 g71 h => ?_
       refine o_o (one_ia (f := Node.c) (ki := .i64) g71) ?_
       refine o_h3 [(6, (.ptr 2 0)), (16, (.agg [(vS x70.fClass), (vL Val.c x70.fVals)]))] [(some (.box 26 [(vL Node.c a2.fNodes), (vL Val.c a2.fRoots)])), (some (.row 59 2 (List.map Val.c []))), (some (.box 57 [(vS x70.fClass), (vL Val.c x70.fVals)]))] ?_
       refine o_end (k69 _ ?_)
       refine s_so fun N72 k72 w72 => ?_
       refine o_r4 [(17, (vL Form.c a1)), (18, (vL Form.c a1)), (19, (.ptr 2 0)), (20, (vS x70.fClass))] ?_
       refine bnd h fun r73 g74 h => ?_
       refine o_o (one_call (p_f52 g74)) ?_
       refine bnd h fun x75 g76 h => ?_
       refine o_o (one_ia (f := Form.c) (ki := .i64) g76) ?_
       refine o_r3 [(7, (vL Col.c x75.fCols)), (23, (.iptr [(vL Col.c x75.fCols)])), (24, (vL Col.c x75.fCols))] ?_
       refine o_end (k72 _ ?_)
       refine s_seq fun N77 k77 w77 => ?_
       refine s_so fun N78 k78 w78 => ?_
       refine o_r2 [(25, (.ptr 2 1)), (26, (vL Val.c x70.fVals))] ?_
       refine o_o (one_len (f := Val.c) (l := x70.fVals)) ?_
       refine o_r1 [(28, (vL Col.c x75.fCols))] ?_
       refine o_o (one_len (f := Col.c) (l := x75.fCols)) ?_
       refine o_r1 [(30, (vB ((len x70.fVals) != (len x75.fCols))))] ?_
       refine s_tm (mkd .any 49 0 [(0, (vL Form.c a1)), (3, (.ptr 0 0)), (6, (.ptr 2 0)), (7, (vL Col.c x75.fCols)), (11, (vL Node.c a2.fNodes)), (12, (vI (len a2.fNodes))), (13, (vI x63)), (14, (vB true)), (15, (.iptr [(vS x70.fClass), (vL Val.c x70.fVals)])), (16, (.agg [(vS x70.fClass), (vL Val.c x70.fVals)])), (17, (vL Form.c a1)), (18, (vL Form.c a1)), (19, (.ptr 2 0)), (20, (vS x70.fClass)), (21, (vI r73)), (22, (.iptr [(vS x75.fName), (vL Col.c x75.fCols)])), (23, (.iptr [(vL Col.c x75.fCols)])), (24, (vL Col.c x75.fCols)), (25, (.ptr 2 1)), (26, (vL Val.c x70.fVals)), (27, (vI (len x70.fVals))), (28, (vL Col.c x75.fCols)), (29, (vI (len x75.fCols))), (30, (vB ((len x70.fVals) != (len x75.fCols))))]) ?_
       refine o_end (w78 _ ⟨(mkd .any 49 0 [(0, (vL Form.c a1)), (3, (.ptr 0 0)), (6, (.ptr 2 0)), (7, (vL Col.c x75.fCols)), (11, (vL Node.c a2.fNodes)), (12, (vI (len a2.fNodes))), (13, (vI x63)), (30, (vB ((len x70.fVals) != (len x75.fCols))))]), [(some (.box 26 [(vL Node.c a2.fNodes), (vL Val.c a2.fRoots)])), none, (some (.box 57 [(vS x70.fClass), (vL Val.c x70.fVals)]))]⟩ (wkm [0, 3, 6, 7, 11, 12, 13, 30] (whk (wh_drop (whk wh_nil)))) ?_)
       refine i_c [30] h (fun h => ?_) (fun h => ?_)
       · refine s_so fun N82 k82 w82 => ?_
         refine o_r1 [(4, (vB false))] ?_
         refine o_end (k82 _ ?_)
         exact c_ret (rets [] [(vB false)] [(vB false)] h)
       · refine c_skip (k77 _ ?_)
         refine s_so fun N83 k83 w83 => ?_
         refine o_r1 [(31, (vL Col.c x75.fCols))] ?_
         refine o_o (one_len (f := Col.c) (l := x75.fCols)) ?_
         refine o_r1 [(33, (vI 0))] ?_
         refine o_end (k83 _ ?_)
         refine c_block fun E85 hE85 hO85 => ?_
         refine W1 (fun (x102 : Int) => ⟨(mkd .any 49 0 [(0, (vL Form.c a1)), (3, (.ptr 0 0)), (6, (.ptr 2 0)), (11, (vL Node.c a2.fNodes)), (12, (vI (len a2.fNodes))), (13, (vI x63)), (31, (vL Col.c x75.fCols)), (32, (vI (len x75.fCols))), (33, (vI x102))]), [(some (.box 26 [(vL Node.c a2.fNodes), (vL Val.c a2.fRoots)])), none, (some (.box 57 [(vS x70.fClass), (vL Val.c x70.fVals)]))]⟩) (f71_l86 x75 x70 n a2 (f71_k67 x63 (f71_l8 a2 n a1 (f71_k4) m8))) h (wkm [0, 3, 6, 11, 12, 13, 31, 32, 33] (whk (wh_none (whk wh_nil)))) (by intros; rw [f71_l86.eq_1]) ?_
         intro m86 x102 h N86 w86
         rw [f71_l86.eq_2] at h
         refine s_so fun N103 k103 w103 => ?_
         refine o_r1 [(34, (vB (decide (x102 < (len x75.fCols)))))] ?_
         refine o_end (k103 _ ?_)
         refine s_seq fun N104 k104 w104 => ?_
         refine i_c [34] h (fun h => ?_) (fun h => ?_)
         · refine c_skip (k104 _ ?_)
           refine s_seq fun N106 k106 w106 => ?_
           refine c_block fun E107 hE107 hO107 => ?_
           refine s_so fun N108 k108 w108 => ?_
           refine o_r1 [(35, (vI x102))] ?_
           refine bnd h fun x109 g110 h => ?_
           refine o_o (one_ia (f := Col.c) (ki := .i64) g110) ?_
           refine o_h4 [(8, (vI x102)), (9, (.ptr 3 0)), (37, (.agg [(vS x109.fName), (vI x109.fKind), (vS x109.fClass)]))] [(some (.box 26 [(vL Node.c a2.fNodes), (vL Val.c a2.fRoots)])), none, (some (.box 57 [(vS x70.fClass), (vL Val.c x70.fVals)])), (some (.box 93 [(vS x109.fName), (vI x109.fKind), (vS x109.fClass)]))] ?_
           refine o_end (k108 _ ?_)
           refine s_seq fun N111 k111 w111 => ?_
           refine c_draw0 ?_
           refine d_r5 [(38, (.agg [(vL Node.c a2.fNodes), (vL Val.c a2.fRoots)])), (39, (.agg [(vS x109.fName), (vI x109.fKind), (vS x109.fClass)])), (40, (.ptr 2 1)), (41, (vL Val.c x70.fVals)), (42, (vI x102))] ?_
           refine bnd h fun x112 g113 h => ?_
           refine d_o (one_ia (f := Val.c) (ki := .i64) g113) ?_
           refine d_r1 [(44, (.agg [(vI x112.fKind), (vI x112.fN)]))] ?_
           refine bnd h fun r114 g115 h => ?_
           refine d_o (one_call (p_f107 g115)) ?_
           refine d_r1 [(46, (vB (!r114)))] ?_
           refine d_end (k111 _ ?_)
           refine i_c [46] h (fun h => ?_) (fun h => ?_)
           · refine s_so fun N117 k117 w117 => ?_
             refine o_r1 [(4, (vB false))] ?_
             refine s_tm (mkd .any 49 0 [(0, (vL Form.c a1)), (3, (.ptr 0 0)), (4, (vB false)), (6, (.ptr 2 0)), (8, (vI x102)), (9, (.ptr 3 0)), (11, (vL Node.c a2.fNodes)), (12, (vI (len a2.fNodes))), (13, (vI x63)), (31, (vL Col.c x75.fCols)), (32, (vI (len x75.fCols))), (33, (vI x102)), (34, (vB true)), (35, (vI x102)), (36, (.iptr [(vS x109.fName), (vI x109.fKind), (vS x109.fClass)])), (37, (.agg [(vS x109.fName), (vI x109.fKind), (vS x109.fClass)])), (38, (.agg [(vL Node.c a2.fNodes), (vL Val.c a2.fRoots)])), (39, (.agg [(vS x109.fName), (vI x109.fKind), (vS x109.fClass)])), (40, (.ptr 2 1)), (41, (vL Val.c x70.fVals)), (42, (vI x102)), (43, (.iptr [(vI x112.fKind), (vI x112.fN)])), (44, (.agg [(vI x112.fKind), (vI x112.fN)])), (45, (vB r114)), (46, (vB true))]) ?_
             refine o_end (w117 _ ⟨(mkd .any 49 0 [(4, (vB false))]), []⟩ (wkm [4] wh_nil) ?_)
             exact c_ret (rets [] [(vB false)] [(vB false)] h)
           · refine c_skip (k106 _ ?_)
             refine c_ops ?_
             refine o_r2 [(33, (vI (wr .i64 (x102 + 1)))), (47, (vI (wr .i64 (x102 + 1))))] ?_
             refine s_tm (mkd .any 49 0 [(0, (vL Form.c a1)), (3, (.ptr 0 0)), (6, (.ptr 2 0)), (8, (vI x102)), (9, (.ptr 3 0)), (11, (vL Node.c a2.fNodes)), (12, (vI (len a2.fNodes))), (13, (vI x63)), (31, (vL Col.c x75.fCols)), (32, (vI (len x75.fCols))), (33, (vI (wr .i64 (x102 + 1)))), (34, (vB true)), (35, (vI x102)), (36, (.iptr [(vS x109.fName), (vI x109.fKind), (vS x109.fClass)])), (37, (.agg [(vS x109.fName), (vI x109.fKind), (vS x109.fClass)])), (38, (.agg [(vL Node.c a2.fNodes), (vL Val.c a2.fRoots)])), (39, (.agg [(vS x109.fName), (vI x109.fKind), (vS x109.fClass)])), (40, (.ptr 2 1)), (41, (vL Val.c x70.fVals)), (42, (vI x102)), (43, (.iptr [(vI x112.fKind), (vI x112.fN)])), (44, (.agg [(vI x112.fKind), (vI x112.fN)])), (45, (vB r114)), (46, (vB false)), (47, (vI (wr .i64 (x102 + 1))))]) ?_
             exact o_end (w86 _ _ (wkm [0, 3, 6, 11, 12, 13, 31, 32, 33] (whk (wh_none (whk wh_nil)))) h)
         · refine c_exit (hE85 _ ?_)
           exact w67 _ (wkm [0, 3, 11, 12, 13] (whk wh_nil)) h
   · refine c_exit (hE7 _ ?_)
     exact w4 _ (wkm [] wh_nil) h
theorem ic59 : fnIC Try.prog H0 59 = some ([.tmp 4], 19, (.seq (.ops [zO 2 (.box 0 22 [(0, 91, 2, 0)] (.t 0)), zO 3 (.box 0 26 [(0, 57, 2, 0), (1, 59, 2, 0)] (.t 1)), zO 4 (.mov (.c (.int .i64 0)))]) (.seq (.seq (.ops [zO 6 (.ld (.t 3) 2 true), zO 7 (.call 74 [(.t 6)]), zM 5 7]) (.seq (.ops [zM 8 5, zO 9 (.sc (.bin .neq 30) [(.t 8), (.c (.int .i64 0))])]) (.cond (.t 9)
  (.seq (.ops [zM 10 5, zM 4 10]) .ret)
  .skip))) (.seq (.seq (.ops [zO 11 (.faddr (.t 3) 0), zO 12 (.ld (.t 11) 1 false), zO 13 (.mkf 98 [(.t 2)]), zO 14 (.call 97 [(.t 12), (.t 13)])]) (.cond (.t 14)
  (.seq (.ops [zO 4 (.mov (.c (.int .i64 4)))]) .ret)
  .skip)) (.seq (.ops [zO 15 (.ld (.t 2) 1 false), zO 16 (.ld (.t 3) 2 true), zO 17 (.call 71 [(.t 15), (.t 16)]), zO 18 (.call 50 [(.t 17), (.c (.int .i64 8))]), zM 4 18]) .ret))))) := by kernel_rfl
def f59 (n : Nat) (a1 : (List Form)) (a2 : Graph) : Option Int := ((f74 n a2).bind fun r6 => (bif (r6 != 0) then some r6 else ((f97 n a2.fNodes a1).bind fun r13 => (bif r13 then some 4 else ((f71 n a1 a2).bind fun r18 => ((f50 n r18 8).bind fun r20 => some r20))))))
def f59_r (r : Int) : AV := (vI r)
theorem p_f59 {n : Nat} {a1 : (List Form)} {a2 : Graph} {r : Int} (h : f59 n a1 a2 = some r) : PureSpec Try.prog 59 [(vL Form.c a1), (.agg [(vL Node.c a2.fNodes), (vL Val.c a2.fRoots)])] (f59_r r) := by
 rw [f59.eq_1] at h
 refine pure_of hmix ic59 ?_
 refine go_to (mkd (.val undef) 19 0 [(0, (vL Form.c a1)), (1, (.agg [(vL Node.c a2.fNodes), (vL Val.c a2.fRoots)]))]) ?_
 refine s_so fun N3 k3 w3 => ?_
 refine o_h3 [(2, (.ptr 0 0)), (3, (.ptr 1 0)), (4, (vI 0))] [(some (.box 22 [(vL Form.c a1)])), (some (.box 26 [(vL Node.c a2.fNodes), (vL Val.c a2.fRoots)]))] ?_
 refine o_end (k3 _ ?_)
 refine s_seq fun N4 k4 w4 => ?_
 refine s_so fun N5 k5 w5 => ?_
 refine o_r1 [(6, (.agg [(vL Node.c a2.fNodes), (vL Val.c a2.fRoots)]))] ?_
 refine bnd h fun r6 g7 h => ?_
 refine o_o (one_call (p_f74 g7)) ?_
 refine o_r1 [(5, (vI r6))] ?_
 refine o_end (k5 _ ?_)
 refine s_so fun N8 k8 w8 => ?_
 refine o_r2 [(8, (vI r6)), (9, (vB (r6 != 0)))] ?_
 refine o_end (k8 _ ?_)
 refine i_c [9] h (fun h => ?_) (fun h => ?_)
 · refine s_so fun N10 k10 w10 => ?_
   refine o_r2 [(4, (vI r6)), (10, (vI r6))] ?_
   refine o_end (k10 _ ?_)
   exact c_ret (rets [] [(vI r6)] [(vI r6)] h)
 · refine c_skip (k4 _ ?_)
   refine s_seq fun N11 k11 w11 => ?_
   refine s_so fun N12 k12 w12 => ?_
   refine o_r3 [(11, (.ptr 1 0)), (12, (vL Node.c a2.fNodes)), (13, (.fn 98 [(.ptr 0 0)]))] ?_
   refine bnd h fun r13 g14 h => ?_
   refine o_o (one_callT [0] (p_f97 g14) (ns_v _)) ?_
   refine o_end (k12 _ ?_)
   refine i_c [14] h (fun h => ?_) (fun h => ?_)
   · refine s_so fun N16 k16 w16 => ?_
     refine o_r1 [(4, (vI 4))] ?_
     refine o_end (k16 _ ?_)
     exact c_ret (rets [] [(vI 4)] [(vI 4)] h)
   · refine c_skip (k11 _ ?_)
     refine s_so fun N17 k17 w17 => ?_
     refine o_r2 [(15, (vL Form.c a1)), (16, (.agg [(vL Node.c a2.fNodes), (vL Val.c a2.fRoots)]))] ?_
     refine bnd h fun r18 g19 h => ?_
     refine o_o (one_call (p_f71 g19)) ?_
     refine bnd h fun r20 g21 h => ?_
     refine o_o (one_call (p_f50 g21)) ?_
     refine o_r1 [(4, (vI r20))] ?_
     refine s_tm (mkd (.val undef) 19 0 [(0, (vL Form.c a1)), (1, (.agg [(vL Node.c a2.fNodes), (vL Val.c a2.fRoots)])), (2, (.ptr 0 0)), (3, (.ptr 1 0)), (4, (vI r20)), (5, (vI r6)), (6, (.agg [(vL Node.c a2.fNodes), (vL Val.c a2.fRoots)])), (7, (vI r6)), (8, (vI r6)), (9, (vB false)), (11, (.ptr 1 0)), (12, (vL Node.c a2.fNodes)), (13, (.fn 98 [(.ptr 0 0)])), (14, (vB false)), (15, (vL Form.c a1)), (16, (.agg [(vL Node.c a2.fNodes), (vL Val.c a2.fRoots)])), (17, (vB r18)), (18, (vI r20))]) ?_
     refine o_end (w17 _ ⟨(mkd .any 19 0 [(4, (vI r20))]), []⟩ (wkm [4] wh_nil) ?_)
     exact c_ret (rets [] [(vI r20)] [(vI r20)] h)
theorem ic18 : fnIC Try.prog H0 18 = some ([.tmp 4], 14, (.seq (.ops [zO 3 (.box 0 26 [(0, 57, 2, 0), (1, 59, 2, 0)] (.t 1)), zO 4 (.mov (.c (.int .i64 0)))]) (.seq (.seq (.ops [zM 6 0, zO 7 (.call 16 [(.t 6)]), zM 5 7]) (.seq (.ops [zM 8 5, zO 9 (.sc (.bin .neq 30) [(.t 8), (.c (.int .i64 0))])]) (.cond (.t 9)
  (.seq (.ops [zM 10 5, zM 4 10]) .ret)
  .skip))) (.seq (.ops [zM 11 0, zO 12 (.ld (.t 3) 2 true), zO 13 (.call 59 [(.t 11), (.t 12)]), zM 4 13]) .ret)))) := by kernel_rfl
def f18 (n : Nat) (a1 : (List Form)) (a2 : Graph) : Option Int := ((f16 n a1).bind fun r6 => (bif (r6 != 0) then some r6 else ((f59 n a1 a2).bind fun r12 => some r12)))
def f18_r (r : Int) : AV := (vI r)
theorem p_f18 {n : Nat} {a1 : (List Form)} {a2 : Graph} {r : Int} (h : f18 n a1 a2 = some r) : PureSpec Try.prog 18 [(vL Form.c a1), (.agg [(vL Node.c a2.fNodes), (vL Val.c a2.fRoots)])] (f18_r r) := by
 rw [f18.eq_1] at h
 refine pure_of hmix ic18 ?_
 refine go_to (mkd (.val undef) 14 0 [(0, (vL Form.c a1)), (1, (.agg [(vL Node.c a2.fNodes), (vL Val.c a2.fRoots)]))]) ?_
 refine s_so fun N3 k3 w3 => ?_
 refine o_h2 [(3, (.ptr 0 0)), (4, (vI 0))] [(some (.box 26 [(vL Node.c a2.fNodes), (vL Val.c a2.fRoots)]))] ?_
 refine o_end (k3 _ ?_)
 refine s_seq fun N4 k4 w4 => ?_
 refine s_so fun N5 k5 w5 => ?_
 refine o_r1 [(6, (vL Form.c a1))] ?_
 refine bnd h fun r6 g7 h => ?_
 refine o_o (one_call (p_f16 g7)) ?_
 refine o_r1 [(5, (vI r6))] ?_
 refine o_end (k5 _ ?_)
 refine s_so fun N8 k8 w8 => ?_
 refine o_r2 [(8, (vI r6)), (9, (vB (r6 != 0)))] ?_
 refine o_end (k8 _ ?_)
 refine i_c [9] h (fun h => ?_) (fun h => ?_)
 · refine s_so fun N10 k10 w10 => ?_
   refine o_r2 [(4, (vI r6)), (10, (vI r6))] ?_
   refine o_end (k10 _ ?_)
   exact c_ret (rets [] [(vI r6)] [(vI r6)] h)
 · refine c_skip (k4 _ ?_)
   refine s_so fun N11 k11 w11 => ?_
   refine o_r2 [(11, (vL Form.c a1)), (12, (.agg [(vL Node.c a2.fNodes), (vL Val.c a2.fRoots)]))] ?_
   refine bnd h fun r12 g13 h => ?_
   refine o_o (one_call (p_f59 g13)) ?_
   refine o_r1 [(4, (vI r12))] ?_
   refine o_end (k11 _ ?_)
   exact c_ret (rets [] [(vI r12)] [(vI r12)] h)
def f99 (n : Nat) (a1 : Val) (a2 : Int) : Option Bool := (bif (a1.fKind == 1) then ((f58 n a1.fN (-1099511627776) 1099511627776).bind fun r10 => some r10) else (bif (a1.fKind == 2) then ((f58 n a1.fN 0 1).bind fun r15 => some r15) else (bif (a1.fKind == 3) then some (a1.fN == 0) else (bif (a1.fKind == 4) then ((f58 n a1.fN 0 (wr .i64 (a2 - 1))).bind fun r23 => some r23) else some false))))
def f60_k92 (x88 : Int) (c42k : Int → Option Int) : Option Int := (c42k (wr .i64 (x88 + 1)))
def f60_l96 (a1 : Graph) (x88 : Int) (n : Nat) (k92k : Option Int) : Nat → Int → Option Int
  | 0, _ => none
  | m96 + 1, x115 => ((gi a1.fNodes x88).bind fun x118 => (bif (decide (x115 < (len x118.fVals))) then ((gi a1.fNodes x88).bind fun x125 => ((gi x125.fVals x115).bind fun x127 => ((f99 n x127 (len a1.fNodes)).bind fun r129 => (bif (!r129) then some 2 else (f60_l96 a1 x88 n (k92k) m96 (wr .i64 (x115 + 1))))))) else (k92k)))
def f60_k171 (x159 : Int) (c137k : Int → Option Int) (x178 : Bool) : Option Int := (bif x178 then some 2 else (c137k (wr .i64 (x159 + 1))))
def f60_k134 : Option Int := some 0
def f60_l137 (a1 : Graph) (n : Nat) (k134k : Option Int) : Nat → Int → Option Int
  | 0, _ => none
  | m137 + 1, x159 => (bif (decide (x159 < (len a1.fRoots))) then ((gi a1.fRoots x159).bind fun x167 => ((f99 n x167 (len a1.fNodes)).bind fun r169 => (bif (!r169) then (f60_k171 x159 (f60_l137 a1 n (k134k) m137) true) else ((gi a1.fRoots x159).bind fun x173 => (bif (x173.fKind != 3) then ((gi a1.fRoots x159).bind fun x176 => (f60_k171 x159 (f60_l137 a1 n (k134k) m137) (x176.fKind != 4))) else (f60_k171 x159 (f60_l137 a1 n (k134k) m137) false)))))) else (k134k))
def f60_k39 (n : Nat) (a1 : Graph) : Option Int := (f60_l137 a1 n (f60_k134) n 0)
def f60_l42 (a1 : Graph) (n : Nat) (k39k : Option Int) : Nat → Int → Option Int
  | 0, _ => none
  | m42 + 1, x88 => (bif (decide (x88 < (len a1.fNodes))) then (f60_l96 a1 x88 n (f60_k92 x88 (f60_l42 a1 n (k39k) m42)) n 0) else (k39k))
def f60_k12 (n : Nat) (a1 : Graph) : Option Int := (f60_l42 a1 n (f60_k39 n a1) n 0)
def f60_l15 (a1 : Graph) (k12k : Option Int) : Nat → Int → Option Int
  | 0, _ => none
  | m15 + 1, x27 => (bif (decide (x27 < (len a1.fNodes))) then ((gi a1.fNodes x27).bind fun x34 => (bif (decide ((len x34.fVals) > 30)) then some 3 else (f60_l15 a1 (k12k) m15 (wr .i64 (x27 + 1))))) else (k12k))
def f60_k6 (n : Nat) (a1 : Graph) (x9 : Bool) : Option Int := (bif x9 then some 3 else (f60_l15 a1 (f60_k12 n a1) n 0))
def f60 (n : Nat) (a1 : Graph) : Option Int := (bif (decide ((len a1.fNodes) > 400)) then (f60_k6 n a1 true) else (f60_k6 n a1 (decide ((len a1.fRoots) > 60))))
def f61_k18 (x25 : Bool) : Option Bool := some x25
def f61 (n : Nat) (a1 : Col) (a2 : Val) (a3 : Graph) : Option Bool := (bif (a1.fKind == 1) then some (a2.fKind == 1) else (bif (a1.fKind == 2) then some (a2.fKind == 2) else (bif (a2.fKind == 3) then some true else (bif (a2.fKind == 4) then (bif (sEqF a1.fClass (ByteArray.mk #[65, 78, 89])) then (f61_k18 true) else ((gi a3.fNodes (mxI 0 a2.fN)).bind fun x22 => (f61_k18 (sEqF x22.fClass a1.fClass)))) else (f61_k18 false)))))
def f19_k119 (x114 : Int) (c52k : Int → Option Int) : Option Int := (c52k (wr .i64 (x114 + 1)))
def f19_l138 (x126 : Form) (a2 : Graph) (x114 : Int) (n : Nat) (k119k : Option Int) : Nat → Int → Option Int
  | 0, _ => none
  | m138 + 1, x157 => (bif (decide (x157 < (len x126.fCols))) then ((gi x126.fCols x157).bind fun x165 => ((gi a2.fNodes x114).bind fun x167 => ((gi x167.fVals x157).bind fun x169 => ((f61 n x165 x169 a2).bind fun r171 => (bif (!r171) then some 8 else (f19_l138 x126 a2 x114 n (k119k) m138 (wr .i64 (x157 + 1)))))))) else (k119k))
def f19_k49 : Option Int := some 0
def f19_l52 (a2 : Graph) (n : Nat) (a1 : (List Form)) (k49k : Option Int) : Nat → Int → Option Int
  | 0, _ => none
  | m52 + 1, x114 => (bif (decide (x114 < (len a2.fNodes))) then ((gi a2.fNodes x114).bind fun x122 => ((f55 n a1 x122.fClass).bind fun r124 => ((gi a1 r124).bind fun x126 => ((gi a2.fNodes x114).bind fun x131 => (bif ((len x126.fCols) != (len x131.fVals)) then some 8 else (f19_l138 x126 a2 x114 n (f19_k119 x114 (f19_l52 a2 n a1 (k49k) m52)) n 0)))))) else (k49k))
def f19_k18 (n : Nat) (a2 : Graph) (a1 : (List Form)) : Option Int := (f19_l52 a2 n a1 (f19_k49) n 0)
def f19_l21 (a2 : Graph) (n : Nat) (a1 : (List Form)) (k18k : Option Int) : Nat → Int → Option Int
  | 0, _ => none
  | m21 + 1, x35 => (bif (decide (x35 < (len a2.fNodes))) then ((gi a2.fNodes x35).bind fun x43 => ((f55 n a1 x43.fClass).bind fun r45 => (bif (decide (r45 < 0)) then some 4 else (f19_l21 a2 n a1 (k18k) m21 (wr .i64 (x35 + 1)))))) else (k18k))
def f19 (n : Nat) (a1 : (List Form)) (a2 : Graph) : Option Int := ((f17 n a1).bind fun r5 => (bif (r5 != 0) then some r5 else ((f60 n a2).bind fun r12 => (bif (r12 != 0) then some r12 else (f19_l21 a2 n a1 (f19_k18 n a2 a1) n 0)))))
def f3_k16 (x29 : Bool) : Option Bool := some x29
def f3_k5 (n : Nat) (a1 : (List Form)) (a2 : Graph) (x11 : Bool) : Option Bool := (bif x11 then ((f15 40).bind fun r14 => some r14) else ((f15 40).bind fun r17 => (bif r17 then ((f16 n a1).bind fun r20 => ((f17 n a1).bind fun r22 => (bif (r20 == r22) then ((f18 n a1 a2).bind fun r25 => ((f19 n a1 a2).bind fun r27 => (f3_k16 (r25 == r27)))) else (f3_k16 false)))) else (f3_k16 false))))
def f3 (n : Nat) (a1 : (List Form)) (a2 : Graph) : Option Bool := ((f13 n a1).bind fun r6 => (bif (!r6) then (f3_k5 n a1 a2 true) else ((f14 n a2).bind fun r9 => (f3_k5 n a1 a2 (!r9)))))
theorem ic101 : fnIC Try.prog H0 101 = some ([.tmp 2], 4, (.seq (.ops [zO 1 (.box 0 24 [(0, 59, 2, 0)] (.t 0)), zO 2 (.mov (.c .nilFunc))]) (.seq (.ops [zO 3 (.mkf 136 [(.t 1)]), zM 2 3]) .ret))) := by kernel_rfl
def f101 (n : Nat) (a1 : (List Val)) : Option (List Val) := some a1
def f101_r (a1 : (List Val)) (r : (List Val)) : AV := (.fn 136 [(.iptr [(vL Val.c r)])])
theorem p_f101 {n : Nat} {a1 : (List Val)} {r : (List Val)} (h : f101 n a1 = some r) : PureSpec Try.prog 101 [(vL Val.c a1)] (f101_r a1 r) := by
 rw [f101.eq_1] at h
 refine pure_of hmix ic101 ?_
 refine go_to (mkd (.val undef) 4 0 [(0, (vL Val.c a1))]) ?_
 refine s_so fun N2 k2 w2 => ?_
 refine o_h2 [(1, (.ptr 0 0)), (2, (.val .nilFunc))] [(some (.box 24 [(vL Val.c a1)]))] ?_
 refine o_end (k2 _ ?_)
 refine s_so fun N3 k3 w3 => ?_
 refine o_r2 [(2, (.fn 136 [(.ptr 0 0)])), (3, (.fn 136 [(.ptr 0 0)]))] ?_
 refine o_end (k3 _ ?_)
 exact c_ret (rets [0] [(.fn 136 [(.ptr 0 0)])] [(.fn 136 [(.iptr [(vL Val.c a1)])])] h)
theorem ic100 : fnIC Try.prog H0 100 = some ([], 26, (.seq (.ops [zM 7 0, zO 8 (.call 101 [(.t 7)])]) (.block 0 (.rfun (.t 8) [9] [(4, 9)] (.block 1 (.seq (.ops [zO 11 (.ld (.t 1) 1 false), zM 12 4, zO 13 (.lku (some .i64) true (.int .i64 0) (.t 11) (.t 12)), zM 10 13, zO 14 (.ext (.t 10) 0), zO 15 (.ext (.t 10) 1), zM 5 14, zM 6 15]) (.seq (.ops [zM 16 6, zO 17 (.sc (.un .not) [(.t 16)])]) (.cond (.t 17)
  (.seq (.ops [zO 18 (.ld (.t 1) 1 false), zM 19 4, zO 20 (.ld (.t 2) 1 false), zO 21 (.len false (.t 20)), zU (.mup (some .i64) (.t 18) (.t 19) (.t 21))]) (.ops [zO 22 (.ld (.t 2) 1 false), zM 23 4, zO 24 (.isl 1 [(.t 23)]), zO 25 (.app 0 3 1 8 (.t 22) (.t 24)), zU (.st true 1 [(0, 3, 1, 0)] (.t 2) (.t 25))]))
  .skip)))))))) := by kernel_rfl
def f100_b13 (y14 : Int) (v : (List (Int × Int)) × (List Int)) : Option ((List (Int × Int)) × (List Int)) := (bif (!(Option.isSome (mget y14 v.1))) then ((app2 v.2 [y14]).bind fun l35 => some ((mset y14 (len v.2) v.1), l35)) else some (v.1, v.2))
theorem f100_b13_t (y : Int) (v : List (Int × Int) × List Int) (h : List.length v.2 < 1000000000) : ∃ v', f100_b13 y v = some v' ∧ List.length v'.2 ≤ List.length v.2 + 1 := by
  unfold f100_b13
  cases hc : (!(Option.isSome (mget y v.1))) with
  | false => exact ⟨_, rfl, by simp⟩
  | true =>
    rw [app2_eq (by simp; omega)]
    exact ⟨_, rfl, by simp⟩
def f100_k37 (x25 : (List (Int × Int))) (x26 : (List Int)) : Option ((List (Int × Int)) × (List Int)) := some (x25, x26)
def f100 (n : Nat) (a1 : (List Node)) (a2 : (List Val)) (a3 : (List Int)) (a4 : (List (Int × Int))) (a5 : (List Int)) (a6 : (List Node)) (a7 : (List Val)) (a8 : (List Val)) : Option ((List (Int × Int)) × (List Int)) := ((f101 n a8).bind fun r10 => (bif Nat.ble ((fun (v : (List (Int × Int)) × (List Int)) => List.length v.2) (a4, a5) + List.length (refsOf r10)) 1000000000 then (foldB (f100_b13) (refsOf r10) (a4, a5)).bind (fun (w : (List (Int × Int)) × (List Int)) => (f100_k37 w.1 w.2)) else none))
def f100_r (a1 : (List Node)) (a2 : (List Val)) (a3 : (List Int)) (a4 : (List (Int × Int))) (a5 : (List Int)) (a6 : (List Node)) (a7 : (List Val)) (a8 : (List Val)) (r : ((List (Int × Int)) × (List Int))) : AV := .tup []
def f100_h (a1 : (List Node)) (a2 : (List Val)) (a3 : (List Int)) (a4 : (List (Int × Int))) (a5 : (List Int)) (a6 : (List Node)) (a7 : (List Val)) (a8 : (List Val)) (r : ((List (Int × Int)) × (List Int))) : Heap := [(some (.box 26 [(vL Node.c a6), (vL Val.c a7)])), (some (.row 57 2 (List.map Node.c a1))), (some (.row 59 2 (List.map Val.c a2))), (some (.box 26 [(.own 1 (List.length a1)), (.own 2 (List.length a2))])), (some (.row 3 1 (List.map cI a3))), (some (.map (List.map (fun (p : (Int × Int)) => (Value.int .i64 p.1, Value.int .i64 p.2)) r.1))), (some (.box 148 [(.mp 5)])), (some (.row 3 1 (List.map cI r.2))), (some (.box 46 [(.own 7 (List.length r.2))]))]
theorem q_f100 {n : Nat} {a1 : (List Node)} {a2 : (List Val)} {a3 : (List Int)} {a4 : (List (Int × Int))} {a5 : (List Int)} {a6 : (List Node)} {a7 : (List Val)} {a8 : (List Val)} {r : ((List (Int × Int)) × (List Int))} (h : f100 n a1 a2 a3 a4 a5 a6 a7 a8 = some r) : HSpec Try.prog 100 [(vL Val.c a8), (.ptr 6 0), (.ptr 8 0)] [(some (.box 26 [(vL Node.c a6), (vL Val.c a7)])), (some (.row 57 2 (List.map Node.c a1))), (some (.row 59 2 (List.map Val.c a2))), (some (.box 26 [(.own 1 (List.length a1)), (.own 2 (List.length a2))])), (some (.row 3 1 (List.map cI a3))), (some (.map (List.map (fun (p : (Int × Int)) => (Value.int .i64 p.1, Value.int .i64 p.2)) a4))), (some (.box 148 [(.mp 5)])), (some (.row 3 1 (List.map cI a5))), (some (.box 46 [(.own 7 (List.length a5))]))] (f100_r a1 a2 a3 a4 a5 a6 a7 a8 r) (f100_h a1 a2 a3 a4 a5 a6 a7 a8 r) := by
 rw [f100.eq_1] at h
 refine heap_of hmix ic100 ?_
 refine go_to (mkd (.val undef) 26 0 [(0, (vL Val.c a8)), (1, (.ptr 6 0)), (2, (.ptr 8 0))]) ?_
 refine s_so fun N9 k9 w9 => ?_
 refine o_r1 [(7, (vL Val.c a8))] ?_
 refine bnd h fun r10 g11 h => ?_
 refine o_o (one_call (p_f101 g11)) ?_
 refine o_end (k9 _ ?_)
 refine c_block fun E12 hE12 hO12 => ?_
 refine rf (caps := [(.iptr [(vL Val.c r10)])]) (fun (v : (List (Int × Int)) × (List Int)) => [(some (.box 26 [(vL Node.c a6), (vL Val.c a7)])), (some (.row 57 2 (List.map Node.c a1))), (some (.row 59 2 (List.map Val.c a2))), (some (.box 26 [(.own 1 (List.length a1)), (.own 2 (List.length a2))])), (some (.row 3 1 (List.map cI a3))), (some (.map (List.map (fun (p : (Int × Int)) => (Value.int .i64 p.1, Value.int .i64 p.2)) v.1))), (some (.box 148 [(.mp 5)])), (some (.row 3 1 (List.map cI v.2))), (some (.box 46 [(.own 7 (List.length v.2))]))]) (f100_b13) (fun (v : (List (Int × Int)) × (List Int)) => List.length v.2) 1000000000 (refsOf r10) cI (a4, a5) (fun (w : (List (Int × Int)) × (List Int)) => (f100_k37 w.1 w.2)) h (iter136 r10) ⟨fz_i, trivial⟩ (fun _ => ⟨rfl, fun a ha => by cases ha with | head => rfl | tail _ h => cases h⟩) (by intro a b hab; cases hab; rfl) (fun x => ⟨rfl, lowB_ok (by kernel_rfl)⟩) f100_b13_t ?_ ?_
 · intro y14 v v2 h R13 E13 N13 w13
   obtain ⟨x25, x26⟩ := v
   rw [f100_b13.eq_1] at h
   refine c_block fun E27 hE27 hO27 => ?_
   refine s_so fun N28 k28 w28 => ?_
   refine o_r2 [(11, (.mp 5)), (12, (vI y14))] ?_
   refine o_o (one_lukOk (ek := Value.int .i64) (ev := Value.int .i64) (l := x25) (o := 5) (k := y14) (z := 0) (key_int _)) ?_
   refine o_r5 [(5, (vI ((mget y14 x25).getD 0))), (6, (vB (Option.isSome (mget y14 x25)))), (10, (.tup [(vI ((mget y14 x25).getD 0)), (vB (Option.isSome (mget y14 x25)))])), (14, (vI ((mget y14 x25).getD 0))), (15, (vB (Option.isSome (mget y14 x25))))] ?_
   refine o_end (k28 _ ?_)
   refine s_so fun N30 k30 w30 => ?_
   refine o_r2 [(16, (vB (Option.isSome (mget y14 x25)))), (17, (vB (!(Option.isSome (mget y14 x25)))))] ?_
   refine o_end (k30 _ ?_)
   refine i_c [17] h (fun h => ?_) (fun h => ?_)
   · refine s_so fun N32 k32 w32 => ?_
     refine o_r3 [(18, (.mp 5)), (19, (vI y14)), (20, (.own 7 (List.length x26)))] ?_
     refine o_o (one_lenO (f := cI) (l := x26) (o := 7) (t := 3) (sz := 1)) ?_
     refine o_x [(some (.box 26 [(vL Node.c a6), (vL Val.c a7)])), (some (.row 57 2 (List.map Node.c a1))), (some (.row 59 2 (List.map Val.c a2))), (some (.box 26 [(.own 1 (List.length a1)), (.own 2 (List.length a2))])), (some (.row 3 1 (List.map cI a3))), (some (.map (List.map (fun (p : (Int × Int)) => (Value.int .i64 p.1, Value.int .i64 p.2)) (mset y14 (len x26) x25)))), (some (.box 148 [(.mp 5)])), (some (.row 3 1 (List.map cI x26))), (some (.box 46 [(.own 7 (List.length x26))]))] (one_mup (ek := Value.int .i64) (ev := Value.int .i64) (l := x25) (o := 5) (k := y14) (v := (len x26)) (key_int _) (fun _ => rfl)) ?_
     refine o_end (w32 _ ⟨(mkd .any 26 0 [(2, (.ptr 8 0)), (4, (vI y14))]), [(some (.box 26 [(vL Node.c a6), (vL Val.c a7)])), (some (.row 57 2 (List.map Node.c a1))), (some (.row 59 2 (List.map Val.c a2))), (some (.box 26 [(.own 1 (List.length a1)), (.own 2 (List.length a2))])), (some (.row 3 1 (List.map cI a3))), (some (.map (List.map (fun (p : (Int × Int)) => (Value.int .i64 p.1, Value.int .i64 p.2)) (mset y14 (len x26) x25)))), (some (.box 148 [(.mp 5)])), (some (.row 3 1 (List.map cI x26))), (some (.box 46 [(.own 7 (List.length x26))]))]⟩ (wkm [2, 4] (whk (wh_keep (row_below Node.p _ _ _ _) (wh_keep (row_below Val.p _ _ _ _) (whk (wh_keep (row_below cK_p _ _ _ _) (whk (whk (wh_keep (row_below cK_p _ _ _ _) (whk wh_nil)))))))))) ?_)
     refine c_ops ?_
     refine o_r3 [(22, (.own 7 (List.length x26))), (23, (vI y14)), (24, (vL cI [y14]))] ?_
     refine bnd h fun l35 g36 h => ?_
     refine o_x [(some (.box 26 [(vL Node.c a6), (vL Val.c a7)])), (some (.row 57 2 (List.map Node.c a1))), (some (.row 59 2 (List.map Val.c a2))), (some (.box 26 [(.own 1 (List.length a1)), (.own 2 (List.length a2))])), (some (.row 3 1 (List.map cI a3))), (some (.map (List.map (fun (p : (Int × Int)) => (Value.int .i64 p.1, Value.int .i64 p.2)) (mset y14 (len x26) x25)))), (some (.box 148 [(.mp 5)])), (some (.row 3 1 (List.map cI l35))), (some (.box 46 [(.own 7 (List.length x26))]))] (one_app (f := cI) (o := 7) g36 (fun _ => ⟨rfl, rfl⟩)) ?_
     refine o_h1 [] [(some (.box 26 [(vL Node.c a6), (vL Val.c a7)])), (some (.row 57 2 (List.map Node.c a1))), (some (.row 59 2 (List.map Val.c a2))), (some (.box 26 [(.own 1 (List.length a1)), (.own 2 (List.length a2))])), (some (.row 3 1 (List.map cI a3))), (some (.map (List.map (fun (p : (Int × Int)) => (Value.int .i64 p.1, Value.int .i64 p.2)) (mset y14 (len x26) x25)))), (some (.box 148 [(.mp 5)])), (some (.row 3 1 (List.map cI l35))), (some (.box 46 [(.own 7 (List.length l35))]))] ?_
     refine o_end ?_
     cases h
     exact w13 _ ⟨rfl, (whk (wh_keep (row_below Node.p _ _ _ _) (wh_keep (row_below Val.p _ _ _ _) (whk (wh_keep (row_below cK_p _ _ _ _) (whk (whk (wh_keep (row_below cK_p _ _ _ _) (whk wh_nil)))))))))⟩
   · refine c_skip ?_
     cases h
     exact w13 _ ⟨rfl, (whk (wh_keep (row_below Node.p _ _ _ _) (wh_keep (row_below Val.p _ _ _ _) (whk (wh_keep (row_below cK_p _ _ _ _) (whk (whk (wh_keep (row_below cK_p _ _ _ _) (whk wh_nil)))))))))⟩
 · intro v h
   obtain ⟨x25, x26⟩ := v
   replace h : (f100_k37 x25 x26) = some r := h
   rw [f100_k37.eq_1] at h
   show (_ : St → Prop) (St.mk _ [(some (.box 26 [(vL Node.c a6), (vL Val.c a7)])), (some (.row 57 2 (List.map Node.c a1))), (some (.row 59 2 (List.map Val.c a2))), (some (.box 26 [(.own 1 (List.length a1)), (.own 2 (List.length a2))])), (some (.row 3 1 (List.map cI a3))), (some (.map (List.map (fun (p : (Int × Int)) => (Value.int .i64 p.1, Value.int .i64 p.2)) x25))), (some (.box 148 [(.mp 5)])), (some (.row 3 1 (List.map cI x26))), (some (.box 46 [(.own 7 (List.length x26))]))])
   exact retsH [] [] h (wkm [] (whk (wh_keep (row_below Node.p _ _ _ _) (wh_keep (row_below Val.p _ _ _ _) (whk (wh_keep (row_below cK_p _ _ _ _) (whk (whk (wh_keep (row_below cK_p _ _ _ _) (whk wh_nil))))))))))
def f100_b_b12 (y13 : Int) (v : (List (Int × Int)) × (List Int)) : Option ((List (Int × Int)) × (List Int)) := (bif (!(Option.isSome (mget y13 v.1))) then ((app2 v.2 [y13]).bind fun l34 => some ((mset y13 (len v.2) v.1), l34)) else some (v.1, v.2))
theorem f100_b_b12_t (y : Int) (v : List (Int × Int) × List Int) (h : List.length v.2 < 1000000000) : ∃ v', f100_b_b12 y v = some v' ∧ List.length v'.2 ≤ List.length v.2 + 1 := by
  unfold f100_b_b12
  cases hc : (!(Option.isSome (mget y v.1))) with
  | false => exact ⟨_, rfl, by simp⟩
  | true =>
    rw [app2_eq (by simp; omega)]
    exact ⟨_, rfl, by simp⟩
def f100_b_k36 (x24 : (List (Int × Int))) (x25 : (List Int)) : Option ((List (Int × Int)) × (List Int)) := some (x24, x25)
def f100_b (n : Nat) (a1 : (List Node)) (a2 : (List Val)) (a3 : (List (Int × Int))) (a4 : (List Int)) (a5 : (List Node)) (a6 : (List Val)) (a7 : (List Val)) : Option ((List (Int × Int)) × (List Int)) := ((f101 n a7).bind fun r9 => (bif Nat.ble ((fun (v : (List (Int × Int)) × (List Int)) => List.length v.2) (a3, a4) + List.length (refsOf r9)) 1000000000 then (foldB (f100_b_b12) (refsOf r9) (a3, a4)).bind (fun (w : (List (Int × Int)) × (List Int)) => (f100_b_k36 w.1 w.2)) else none))
def f100_b_r (a1 : (List Node)) (a2 : (List Val)) (a3 : (List (Int × Int))) (a4 : (List Int)) (a5 : (List Node)) (a6 : (List Val)) (a7 : (List Val)) (r : ((List (Int × Int)) × (List Int))) : AV := .tup []
def f100_b_h (a1 : (List Node)) (a2 : (List Val)) (a3 : (List (Int × Int))) (a4 : (List Int)) (a5 : (List Node)) (a6 : (List Val)) (a7 : (List Val)) (r : ((List (Int × Int)) × (List Int))) : Heap := [(some (.box 26 [(vL Node.c a5), (vL Val.c a6)])), (some (.row 57 2 (List.map Node.c a1))), (some (.row 59 2 (List.map Val.c a2))), (some (.box 26 [(.own 1 (List.length a1)), (.own 2 (List.length a2))])), none, (some (.map (List.map (fun (p : (Int × Int)) => (Value.int .i64 p.1, Value.int .i64 p.2)) r.1))), (some (.box 148 [(.mp 5)])), (some (.row 3 1 (List.map cI r.2))), (some (.box 46 [(.own 7 (List.length r.2))]))]
theorem q_f100_b {n : Nat} {a1 : (List Node)} {a2 : (List Val)} {a3 : (List (Int × Int))} {a4 : (List Int)} {a5 : (List Node)} {a6 : (List Val)} {a7 : (List Val)} {r : ((List (Int × Int)) × (List Int))} (h : f100_b n a1 a2 a3 a4 a5 a6 a7 = some r) : HSpec Try.prog 100 [(vL Val.c a7), (.ptr 6 0), (.ptr 8 0)] [(some (.box 26 [(vL Node.c a5), (vL Val.c a6)])), (some (.row 57 2 (List.map Node.c a1))), (some (.row 59 2 (List.map Val.c a2))), (some (.box 26 [(.own 1 (List.length a1)), (.own 2 (List.length a2))])), none, (some (.map (List.map (fun (p : (Int × Int)) => (Value.int .i64 p.1, Value.int .i64 p.2)) a3))), (some (.box 148 [(.mp 5)])), (some (.row 3 1 (List.map cI a4))), (some (.box 46 [(.own 7 (List.length a4))]))] (f100_b_r a1 a2 a3 a4 a5 a6 a7 r) (f100_b_h a1 a2 a3 a4 a5 a6 a7 r) := by
 rw [f100_b.eq_1] at h
 refine heap_of hmix ic100 ?_
 refine go_to (mkd (.val undef) 26 0 [(0, (vL Val.c a7)), (1, (.ptr 6 0)), (2, (.ptr 8 0))]) ?_
 refine s_so fun N8 k8 w8 => ?_
 refine o_r1 [(7, (vL Val.c a7))] ?_
 refine bnd h fun r9 g10 h => ?_
 refine o_o (one_call (p_f101 g10)) ?_
 refine o_end (k8 _ ?_)
 refine c_block fun E11 hE11 hO11 => ?_
 refine rf (caps := [(.iptr [(vL Val.c r9)])]) (fun (v : (List (Int × Int)) × (List Int)) => [(some (.box 26 [(vL Node.c a5), (vL Val.c a6)])), (some (.row 57 2 (List.map Node.c a1))), (some (.row 59 2 (List.map Val.c a2))), (some (.box 26 [(.own 1 (List.length a1)), (.own 2 (List.length a2))])), none, (some (.map (List.map (fun (p : (Int × Int)) => (Value.int .i64 p.1, Value.int .i64 p.2)) v.1))), (some (.box 148 [(.mp 5)])), (some (.row 3 1 (List.map cI v.2))), (some (.box 46 [(.own 7 (List.length v.2))]))]) (f100_b_b12) (fun (v : (List (Int × Int)) × (List Int)) => List.length v.2) 1000000000 (refsOf r9) cI (a3, a4) (fun (w : (List (Int × Int)) × (List Int)) => (f100_b_k36 w.1 w.2)) h (iter136 r9) ⟨fz_i, trivial⟩ (fun _ => ⟨rfl, fun a ha => by cases ha with | head => rfl | tail _ h => cases h⟩) (by intro a b hab; cases hab; rfl) (fun x => ⟨rfl, lowB_ok (by kernel_rfl)⟩) f100_b_b12_t ?_ ?_
 · intro y13 v v2 h R12 E12 N12 w12
   obtain ⟨x24, x25⟩ := v
   rw [f100_b_b12.eq_1] at h
   refine c_block fun E26 hE26 hO26 => ?_
   refine s_so fun N27 k27 w27 => ?_
   refine o_r2 [(11, (.mp 5)), (12, (vI y13))] ?_
   refine o_o (one_lukOk (ek := Value.int .i64) (ev := Value.int .i64) (l := x24) (o := 5) (k := y13) (z := 0) (key_int _)) ?_
   refine o_r5 [(5, (vI ((mget y13 x24).getD 0))), (6, (vB (Option.isSome (mget y13 x24)))), (10, (.tup [(vI ((mget y13 x24).getD 0)), (vB (Option.isSome (mget y13 x24)))])), (14, (vI ((mget y13 x24).getD 0))), (15, (vB (Option.isSome (mget y13 x24))))] ?_
   refine o_end (k27 _ ?_)
   refine s_so fun N29 k29 w29 => ?_
   refine o_r2 [(16, (vB (Option.isSome (mget y13 x24)))), (17, (vB (!(Option.isSome (mget y13 x24)))))] ?_
   refine o_end (k29 _ ?_)
   refine i_c [17] h (fun h => ?_) (fun h => ?_)
   · refine s_so fun N31 k31 w31 => ?_
     refine o_r3 [(18, (.mp 5)), (19, (vI y13)), (20, (.own 7 (List.length x25)))] ?_
     refine o_o (one_lenO (f := cI) (l := x25) (o := 7) (t := 3) (sz := 1)) ?_
     refine o_x [(some (.box 26 [(vL Node.c a5), (vL Val.c a6)])), (some (.row 57 2 (List.map Node.c a1))), (some (.row 59 2 (List.map Val.c a2))), (some (.box 26 [(.own 1 (List.length a1)), (.own 2 (List.length a2))])), none, (some (.map (List.map (fun (p : (Int × Int)) => (Value.int .i64 p.1, Value.int .i64 p.2)) (mset y13 (len x25) x24)))), (some (.box 148 [(.mp 5)])), (some (.row 3 1 (List.map cI x25))), (some (.box 46 [(.own 7 (List.length x25))]))] (one_mup (ek := Value.int .i64) (ev := Value.int .i64) (l := x24) (o := 5) (k := y13) (v := (len x25)) (key_int _) (fun _ => rfl)) ?_
     refine o_end (w31 _ ⟨(mkd .any 26 0 [(2, (.ptr 8 0)), (4, (vI y13))]), [(some (.box 26 [(vL Node.c a5), (vL Val.c a6)])), (some (.row 57 2 (List.map Node.c a1))), (some (.row 59 2 (List.map Val.c a2))), (some (.box 26 [(.own 1 (List.length a1)), (.own 2 (List.length a2))])), none, (some (.map (List.map (fun (p : (Int × Int)) => (Value.int .i64 p.1, Value.int .i64 p.2)) (mset y13 (len x25) x24)))), (some (.box 148 [(.mp 5)])), (some (.row 3 1 (List.map cI x25))), (some (.box 46 [(.own 7 (List.length x25))]))]⟩ (wkm [2, 4] (whk (wh_keep (row_below Node.p _ _ _ _) (wh_keep (row_below Val.p _ _ _ _) (whk (wh_none (whk (whk (wh_keep (row_below cK_p _ _ _ _) (whk wh_nil)))))))))) ?_)
     refine c_ops ?_
     refine o_r3 [(22, (.own 7 (List.length x25))), (23, (vI y13)), (24, (vL cI [y13]))] ?_
     refine bnd h fun l34 g35 h => ?_
     refine o_x [(some (.box 26 [(vL Node.c a5), (vL Val.c a6)])), (some (.row 57 2 (List.map Node.c a1))), (some (.row 59 2 (List.map Val.c a2))), (some (.box 26 [(.own 1 (List.length a1)), (.own 2 (List.length a2))])), none, (some (.map (List.map (fun (p : (Int × Int)) => (Value.int .i64 p.1, Value.int .i64 p.2)) (mset y13 (len x25) x24)))), (some (.box 148 [(.mp 5)])), (some (.row 3 1 (List.map cI l34))), (some (.box 46 [(.own 7 (List.length x25))]))] (one_app (f := cI) (o := 7) g35 (fun _ => ⟨rfl, rfl⟩)) ?_
     refine o_h1 [] [(some (.box 26 [(vL Node.c a5), (vL Val.c a6)])), (some (.row 57 2 (List.map Node.c a1))), (some (.row 59 2 (List.map Val.c a2))), (some (.box 26 [(.own 1 (List.length a1)), (.own 2 (List.length a2))])), none, (some (.map (List.map (fun (p : (Int × Int)) => (Value.int .i64 p.1, Value.int .i64 p.2)) (mset y13 (len x25) x24)))), (some (.box 148 [(.mp 5)])), (some (.row 3 1 (List.map cI l34))), (some (.box 46 [(.own 7 (List.length l34))]))] ?_
     refine o_end ?_
     cases h
     exact w12 _ ⟨rfl, (whk (wh_keep (row_below Node.p _ _ _ _) (wh_keep (row_below Val.p _ _ _ _) (whk (wh_none (whk (whk (wh_keep (row_below cK_p _ _ _ _) (whk wh_nil)))))))))⟩
   · refine c_skip ?_
     cases h
     exact w12 _ ⟨rfl, (whk (wh_keep (row_below Node.p _ _ _ _) (wh_keep (row_below Val.p _ _ _ _) (whk (wh_none (whk (whk (wh_keep (row_below cK_p _ _ _ _) (whk wh_nil)))))))))⟩
 · intro v h
   obtain ⟨x24, x25⟩ := v
   replace h : (f100_b_k36 x24 x25) = some r := h
   rw [f100_b_k36.eq_1] at h
   show (_ : St → Prop) (St.mk _ [(some (.box 26 [(vL Node.c a5), (vL Val.c a6)])), (some (.row 57 2 (List.map Node.c a1))), (some (.row 59 2 (List.map Val.c a2))), (some (.box 26 [(.own 1 (List.length a1)), (.own 2 (List.length a2))])), none, (some (.map (List.map (fun (p : (Int × Int)) => (Value.int .i64 p.1, Value.int .i64 p.2)) x24))), (some (.box 148 [(.mp 5)])), (some (.row 3 1 (List.map cI x25))), (some (.box 46 [(.own 7 (List.length x25))]))])
   exact retsH [] [] h (wkm [] (whk (wh_keep (row_below Node.p _ _ _ _) (wh_keep (row_below Val.p _ _ _ _) (whk (wh_none (whk (whk (wh_keep (row_below cK_p _ _ _ _) (whk wh_nil))))))))))
theorem ic77 : fnIC Try.prog H77 77 = some ([.tmp 2], 8, (.seq (.ops [zO 2 (.nil 0 59 2)]) (.seq (.seq (.ops [zM 3 0, zO 4 (.isn (.t 3))]) (.cond (.t 4)
  (.seq (.ops [zO 2 (.nil 0 59 2)]) .ret)
  .skip)) (.seq (.ops [zO 5 (.bsl 0 true 59 2 []), zM 6 0, zO 7 (.app 0 59 2 16 (.t 5) (.t 6)), zM 2 7]) .ret)))) := by kernel_rfl
theorem ic102 : fnIC Try.prog H0 102 = some ([.tmp 3], 29, (.seq (.ops [zO 3 (.nil 0 59 2)]) (.seq (.ops [zM 7 0, zO 8 (.callv (.f 77) [(.t 7)]), zM 4 8]) (.seq (.seq (.ops [zM 9 4, zO 10 (.len false (.t 9)), zO 11 (.mov (.c (.int .i64 0)))]) (.block 0 (.loop (.seq (.ops [zO 12 (.sc (.bin .lss 3) [(.t 11), (.t 10)])]) (.seq (.cond (.t 12)
  .skip
  (.exit 0)) (.seq (.block 1 (.seq (.ops [zM 13 11, zO 14 (.iaddr 2 (.t 9) (.t 11)), zO 15 (.ld (.t 14) 2 true), zO 6 (.alloc 0 59 [] [(.int .i64 0), (.int .i64 0)]), zM 5 13, zU (.st true 2 [] (.t 6) (.t 15))]) (.seq (.ops [zO 16 (.faddr (.t 6) 0), zO 17 (.ld (.t 16) 1 false), zO 18 (.sc (.bin .eql 3) [(.t 17), (.c (.int .i64 4))])]) (.cond (.t 18)
  (.ops [zM 19 4, zM 20 5, zO 21 (.ld (.t 1) 1 false), zO 22 (.faddr (.t 6) 1), zO 23 (.ld (.t 22) 1 false), zO 24 (.lku (some .i64) false (.int .i64 0) (.t 21) (.t 23)), zO 25 (.iaddr 2 (.t 19) (.t 20)), zO 26 (.faddr (.t 25) 1), zU (.st true 1 [] (.t 26) (.t 24))])
  .skip)))) (.ops [zO 27 (.sc (.bin .add 3) [(.t 11), (.c (.int .i64 1))]), zM 11 27]))))))) (.seq (.ops [zM 28 4, zM 3 28]) .ret))))) := by kernel_rfl
def f102_k41 (x36 : Int) (c16k : Int → (List Val) → Option (List Val)) (x56 : (List Val)) : Option (List Val) := (c16k (wr .i64 (x36 + 1)) x56)
def f102_k12 (x57 : (List Val)) : Option (List Val) := some x57
def f102_l16 (l10 : (List Val)) (a3 : (List (Int × Int))) (k12k : (List Val) → Option (List Val)) : Nat → Int → (List Val) → Option (List Val)
  | 0, _, _ => none
  | m16 + 1, x36, x37 => (bif (decide (x36 < (len l10))) then ((gi x37 x36).bind fun x44 => ((gi x37 x36).bind fun x46 => (bif (x46.fKind == 4) then ((gi x37 x36).bind fun x51 => ((gi x37 x36).bind fun x54 => (f102_k41 x36 (f102_l16 l10 a3 (k12k) m16) (setI x37 x36 (Val.mk x54.fKind ((mget x46.fN a3).getD 0)))))) else (f102_k41 x36 (f102_l16 l10 a3 (k12k) m16) x37)))) else (k12k x37))
def f102 (n : Nat) (a1 : (List Node)) (a2 : (List Val)) (a3 : (List (Int × Int))) (a4 : (List Int)) (a5 : (List Node)) (a6 : (List Val)) (a7 : (List Val)) : Option (List Val) := ((app2 [] a7).bind fun l10 => (f102_l16 l10 a3 (f102_k12) n 0 l10))
def f102_r (a1 : (List Node)) (a2 : (List Val)) (a3 : (List (Int × Int))) (a4 : (List Int)) (a5 : (List Node)) (a6 : (List Val)) (a7 : (List Val)) (r : (List Val)) : AV := (.own 11 (List.length r))
def f102_h (a1 : (List Node)) (a2 : (List Val)) (a3 : (List (Int × Int))) (a4 : (List Int)) (a5 : (List Node)) (a6 : (List Val)) (a7 : (List Val)) (r : (List Val)) : Heap := [(some (.box 26 [(vL Node.c a5), (vL Val.c a6)])), (some (.row 57 2 (List.map Node.c a1))), (some (.row 59 2 (List.map Val.c a2))), (some (.box 26 [(.own 1 (List.length a1)), (.own 2 (List.length a2))])), none, (some (.map (List.map (fun (p : (Int × Int)) => (Value.int .i64 p.1, Value.int .i64 p.2)) a3))), (some (.box 148 [(.mp 5)])), (some (.row 3 1 (List.map cI a4))), (some (.box 46 [(.own 7 (List.length a4))])), none, none, (some (.row 59 2 (List.map Val.c r)))]
theorem q_f102 {n : Nat} {a1 : (List Node)} {a2 : (List Val)} {a3 : (List (Int × Int))} {a4 : (List Int)} {a5 : (List Node)} {a6 : (List Val)} {a7 : (List Val)} {r : (List Val)} (h : f102 n a1 a2 a3 a4 a5 a6 a7 = some r) : HSpec Try.prog 102 [(vL Val.c a7), (.ptr 6 0)] [(some (.box 26 [(vL Node.c a5), (vL Val.c a6)])), (some (.row 57 2 (List.map Node.c a1))), (some (.row 59 2 (List.map Val.c a2))), (some (.box 26 [(.own 1 (List.length a1)), (.own 2 (List.length a2))])), none, (some (.map (List.map (fun (p : (Int × Int)) => (Value.int .i64 p.1, Value.int .i64 p.2)) a3))), (some (.box 148 [(.mp 5)])), (some (.row 3 1 (List.map cI a4))), (some (.box 46 [(.own 7 (List.length a4))]))] (f102_r a1 a2 a3 a4 a5 a6 a7 r) (f102_h a1 a2 a3 a4 a5 a6 a7 r) := by
 rw [f102.eq_1] at h
 refine heap_of hmix ic102 ?_
 refine go_to (mkd (.val undef) 29 0 [(0, (vL Val.c a7)), (1, (.ptr 6 0))]) ?_
 refine s_so fun N8 k8 w8 => ?_
 refine o_h1 [(3, (.own 9 0))] [(some (.box 26 [(vL Node.c a5), (vL Val.c a6)])), (some (.row 57 2 (List.map Node.c a1))), (some (.row 59 2 (List.map Val.c a2))), (some (.box 26 [(.own 1 (List.length a1)), (.own 2 (List.length a2))])), none, (some (.map (List.map (fun (p : (Int × Int)) => (Value.int .i64 p.1, Value.int .i64 p.2)) a3))), (some (.box 148 [(.mp 5)])), (some (.row 3 1 (List.map cI a4))), (some (.box 46 [(.own 7 (List.length a4))])), (some (.row 59 2 (List.map Val.c [])))] ?_
 refine o_end (k8 _ ?_)
 refine s_so fun N9 k9 w9 => ?_
 refine o_r1 [(7, (vL Val.c a7))] ?_
 refine bnd h fun l10 g11 h => ?_
 refine o_x [(some (.box 26 [(vL Node.c a5), (vL Val.c a6)])), (some (.row 57 2 (List.map Node.c a1))), (some (.row 59 2 (List.map Val.c a2))), (some (.box 26 [(.own 1 (List.length a1)), (.own 2 (List.length a2))])), none, (some (.map (List.map (fun (p : (Int × Int)) => (Value.int .i64 p.1, Value.int .i64 p.2)) a3))), (some (.box 148 [(.mp 5)])), (some (.row 3 1 (List.map cI a4))), (some (.box 46 [(.own 7 (List.length a4))])), (some (.row 59 2 (List.map Val.c []))), none, (some (.row 59 2 (List.map Val.c l10)))] (one_callH (caps := []) (clone_spec (g := Val.c) hmix [(some (.box 26 [(vL Node.c a5), (vL Val.c a6)])), (some (.row 57 2 (List.map Node.c a1))), (some (.row 59 2 (List.map Val.c a2))), (some (.box 26 [(.own 1 (List.length a1)), (.own 2 (List.length a2))])), none, (some (.map (List.map (fun (p : (Int × Int)) => (Value.int .i64 p.1, Value.int .i64 p.2)) a3))), (some (.box 148 [(.mp 5)])), (some (.row 3 1 (List.map cI a4))), (some (.box 46 [(.own 7 (List.length a4))])), (some (.row 59 2 (List.map Val.c [])))] ic77 g11 (fun _ => ⟨rfl, rfl⟩) Val.p (by kernel_rfl) (whk (wh_keep (row_below Node.p _ _ _ _) (wh_keep (row_below Val.p _ _ _ _) (whk (wh_none (whk (whk (wh_keep (row_below cK_p _ _ _ _) (whk (wh_keep (row_below Val.p _ _ _ _) wh_nil)))))))))))) ?_
 refine o_r1 [(4, (.own 11 (List.length l10)))] ?_
 refine o_end (k9 _ ?_)
 refine J1 (r := r) (fun (x57 : (List Val)) => ⟨(mkd .any 29 0 [(4, (.own 11 (List.length x57)))]), [(some (.box 26 [(vL Node.c a5), (vL Val.c a6)])), (some (.row 57 2 (List.map Node.c a1))), (some (.row 59 2 (List.map Val.c a2))), (some (.box 26 [(.own 1 (List.length a1)), (.own 2 (List.length a2))])), none, (some (.map (List.map (fun (p : (Int × Int)) => (Value.int .i64 p.1, Value.int .i64 p.2)) a3))), (some (.box 148 [(.mp 5)])), (some (.row 3 1 (List.map cI a4))), (some (.box 46 [(.own 7 (List.length a4))])), none, none, (some (.row 59 2 (List.map Val.c x57)))]⟩) (f102_k12) ?_ ?_
 · intro x57 h
   rw [f102_k12.eq_1] at h
   refine s_so fun N58 k58 w58 => ?_
   refine o_r2 [(3, (.own 11 (List.length x57))), (28, (.own 11 (List.length x57)))] ?_
   refine o_end (k58 _ ?_)
   exact c_ret (retsH [(.own 11 (List.length x57))] [(.own 11 (List.length x57))] h (wkm [0] (whk (wh_keep (row_below Node.p _ _ _ _) (wh_keep (row_below Val.p _ _ _ _) (whk (wh_none (whk (whk (wh_keep (row_below cK_p _ _ _ _) (whk (wh_none (wh_none (wh_keep (row_below Val.p _ _ _ _) wh_nil))))))))))))))
 · intro N12 w12
   refine s_so fun N13 k13 w13 => ?_
   refine o_r1 [(9, (.own 11 (List.length l10)))] ?_
   refine o_o (one_lenO (f := Val.c) (l := l10) (o := 11) (t := 59) (sz := 2)) ?_
   refine o_r1 [(11, (vI 0))] ?_
   refine o_end (k13 _ ?_)
   refine c_block fun E15 hE15 hO15 => ?_
   refine W2 (fun (x36 : Int) (x37 : (List Val)) => ⟨(mkd .any 29 0 [(1, (.ptr 6 0)), (4, (.own 11 (List.length x37))), (9, (.own 11 (List.length x37))), (10, (vI (len l10))), (11, (vI x36))]), [(some (.box 26 [(vL Node.c a5), (vL Val.c a6)])), (some (.row 57 2 (List.map Node.c a1))), (some (.row 59 2 (List.map Val.c a2))), (some (.box 26 [(.own 1 (List.length a1)), (.own 2 (List.length a2))])), none, (some (.map (List.map (fun (p : (Int × Int)) => (Value.int .i64 p.1, Value.int .i64 p.2)) a3))), (some (.box 148 [(.mp 5)])), (some (.row 3 1 (List.map cI a4))), (some (.box 46 [(.own 7 (List.length a4))])), none, none, (some (.row 59 2 (List.map Val.c x37)))]⟩) (f102_l16 l10 a3 (f102_k12)) h (wkm [1, 4, 9, 10, 11] (whk (wh_keep (row_below Node.p _ _ _ _) (wh_keep (row_below Val.p _ _ _ _) (whk (wh_none (whk (whk (wh_keep (row_below cK_p _ _ _ _) (whk (wh_drop (wh_none (wh_keep (row_below Val.p _ _ _ _) wh_nil))))))))))))) (by intros; rw [f102_l16.eq_1]) ?_
   intro m16 x36 x37 h N16 w16
   rw [f102_l16.eq_2] at h
   refine s_so fun N38 k38 w38 => ?_
   refine o_r1 [(12, (vB (decide (x36 < (len l10)))))] ?_
   refine o_end (k38 _ ?_)
   refine s_seq fun N39 k39 w39 => ?_
   refine i_c [12] h (fun h => ?_) (fun h => ?_)
   · refine c_skip (k39 _ ?_)
     refine J1 (r := r) (fun (x56 : (List Val)) => ⟨(mkd .any 29 0 [(1, (.ptr 6 0)), (4, (.own 11 (List.length x56))), (9, (.own 11 (List.length x56))), (10, (vI (len l10))), (11, (vI x36))]), [(some (.box 26 [(vL Node.c a5), (vL Val.c a6)])), (some (.row 57 2 (List.map Node.c a1))), (some (.row 59 2 (List.map Val.c a2))), (some (.box 26 [(.own 1 (List.length a1)), (.own 2 (List.length a2))])), none, (some (.map (List.map (fun (p : (Int × Int)) => (Value.int .i64 p.1, Value.int .i64 p.2)) a3))), (some (.box 148 [(.mp 5)])), (some (.row 3 1 (List.map cI a4))), (some (.box 46 [(.own 7 (List.length a4))])), none, none, (some (.row 59 2 (List.map Val.c x56)))]⟩) (f102_k41 x36 (f102_l16 l10 a3 (f102_k12) m16)) ?_ ?_
     · intro x56 h
       rw [f102_k41.eq_1] at h
       refine c_ops ?_
       refine o_r2 [(11, (vI (wr .i64 (x36 + 1)))), (27, (vI (wr .i64 (x36 + 1))))] ?_
       exact o_end (w16 _ _ _ (wkm [1, 4, 9, 10, 11] (whk (wh_keep (row_below Node.p _ _ _ _) (wh_keep (row_below Val.p _ _ _ _) (whk (wh_none (whk (whk (wh_keep (row_below cK_p _ _ _ _) (whk (wh_none (wh_none (wh_keep (row_below Val.p _ _ _ _) wh_nil))))))))))))) h)
     · intro N41 w41
       refine c_block fun E42 hE42 hO42 => ?_
       refine s_so fun N43 k43 w43 => ?_
       refine o_r1 [(13, (vI x36))] ?_
       refine bnd h fun x44 g45 h => ?_
       refine o_o (one_iaO (f := Val.c) (ki := .i64) (t := 59) (o := 11) g45) ?_
       refine bnd h fun x46 g47 h => ?_
       refine o_o (one_ldE (f := Val.c) (k := 0) (t := 59) (sz := 2) (o := 11) g47) ?_
       refine o_h3 [(5, (vI x36)), (6, (.ptr 12 0))] [(some (.box 26 [(vL Node.c a5), (vL Val.c a6)])), (some (.row 57 2 (List.map Node.c a1))), (some (.row 59 2 (List.map Val.c a2))), (some (.box 26 [(.own 1 (List.length a1)), (.own 2 (List.length a2))])), none, (some (.map (List.map (fun (p : (Int × Int)) => (Value.int .i64 p.1, Value.int .i64 p.2)) a3))), (some (.box 148 [(.mp 5)])), (some (.row 3 1 (List.map cI a4))), (some (.box 46 [(.own 7 (List.length a4))])), none, none, (some (.row 59 2 (List.map Val.c x37))), (some (.box 59 [(vI x46.fKind), (vI x46.fN)]))] ?_
       refine o_end (k43 _ ?_)
       refine s_so fun N48 k48 w48 => ?_
       refine o_r3 [(16, (.ptr 12 0)), (17, (vI x46.fKind)), (18, (vB (x46.fKind == 4)))] ?_
       refine o_end (k48 _ ?_)
       refine i_c [18] h (fun h => ?_) (fun h => ?_)
       · refine c_ops ?_
         refine o_r5 [(19, (.own 11 (List.length x37))), (20, (vI x36)), (21, (.mp 5)), (22, (.ptr 12 1)), (23, (vI x46.fN))] ?_
         refine o_o (one_luk (ek := Value.int .i64) (ev := Value.int .i64) (l := a3) (o := 5) (k := x46.fN) (z := 0) (key_int _)) ?_
         refine bnd h fun x51 g52 h => ?_
         refine o_o (one_iaO (f := Val.c) (ki := .i64) (t := 59) (o := 11) g52) ?_
         refine o_o (one_faE (f := Val.c) (l := x37) (j := x36) (k := 0) (t := 59) (sz := 2) (o := 11)) ?_
         refine bnd h fun x54 g55 h => ?_
         refine o_x [(some (.box 26 [(vL Node.c a5), (vL Val.c a6)])), (some (.row 57 2 (List.map Node.c a1))), (some (.row 59 2 (List.map Val.c a2))), (some (.box 26 [(.own 1 (List.length a1)), (.own 2 (List.length a2))])), none, (some (.map (List.map (fun (p : (Int × Int)) => (Value.int .i64 p.1, Value.int .i64 p.2)) a3))), (some (.box 148 [(.mp 5)])), (some (.row 3 1 (List.map cI a4))), (some (.box 46 [(.own 7 (List.length a4))])), none, none, (some (.row 59 2 (List.map Val.c (setI x37 x36 (Val.mk x54.fKind ((mget x46.fN a3).getD 0)))))), (some (.box 59 [(vI x46.fKind), (vI x46.fN)]))] (one_stE (f := Val.c) (k := 1) (t := 59) (sz := 2) (o := 11) (z := (Val.mk x54.fKind ((mget x46.fN a3).getD 0))) (ds := [(vI ((mget x46.fN a3).getD 0))]) (es := [(vI ((mget x46.fN a3).getD 0))]) g55) ?_
         refine s_ln (fun b => ⟨(mkd .any 29 0 [(1, (.ptr 6 0)), (4, (.own 11 b)), (5, (vI x36)), (6, (.ptr 12 0)), (9, (.own 11 b)), (10, (vI (len l10))), (11, (vI x36)), (12, (vB true)), (13, (vI x36)), (14, (.eptr 11 b (Int.toNat x36) 0)), (15, (.agg [(vI x46.fKind), (vI x46.fN)])), (16, (.ptr 12 0)), (17, (vI x46.fKind)), (18, (vB true)), (19, (.own 11 b)), (20, (vI x36)), (21, (.mp 5)), (22, (.ptr 12 1)), (23, (vI x46.fN)), (24, (vI ((mget x46.fN a3).getD 0))), (25, (.eptr 11 b (Int.toNat x36) 0)), (26, (.eptr 11 b (Int.toNat x36) 1))]), [(some (.box 26 [(vL Node.c a5), (vL Val.c a6)])), (some (.row 57 2 (List.map Node.c a1))), (some (.row 59 2 (List.map Val.c a2))), (some (.box 26 [(.own 1 (List.length a1)), (.own 2 (List.length a2))])), none, (some (.map (List.map (fun (p : (Int × Int)) => (Value.int .i64 p.1, Value.int .i64 p.2)) a3))), (some (.box 148 [(.mp 5)])), (some (.row 3 1 (List.map cI a4))), (some (.box 46 [(.own 7 (List.length a4))])), none, none, (some (.row 59 2 (List.map Val.c (setI x37 x36 (Val.mk x54.fKind ((mget x46.fN a3).getD 0)))))), (some (.box 59 [(vI x46.fKind), (vI x46.fN)]))]⟩) (show List.length x37 = List.length (setI x37 x36 (Val.mk x54.fKind ((mget x46.fN a3).getD 0))) from setI_len) ?_
         exact o_end (w41 _ _ (wkm [1, 4, 9, 10, 11] (whk (wh_keep (row_below Node.p _ _ _ _) (wh_keep (row_below Val.p _ _ _ _) (whk (wh_none (whk (whk (wh_keep (row_below cK_p _ _ _ _) (whk (wh_none (wh_none (wh_keep (row_below Val.p _ _ _ _) wh_nil))))))))))))) h)
       · exact c_skip (w41 _ _ (wkm [1, 4, 9, 10, 11] (whk (wh_keep (row_below Node.p _ _ _ _) (wh_keep (row_below Val.p _ _ _ _) (whk (wh_none (whk (whk (wh_keep (row_below cK_p _ _ _ _) (whk (wh_none (wh_none (wh_keep (row_below Val.p _ _ _ _) wh_nil))))))))))))) h)
   · refine c_exit (hE15 _ ?_)
     exact w12 _ _ (wkm [4] (whk (wh_keep (row_below Node.p _ _ _ _) (wh_keep (row_below Val.p _ _ _ _) (whk (wh_none (whk (whk (wh_keep (row_below cK_p _ _ _ _) (whk (wh_none (wh_none (wh_keep (row_below Val.p _ _ _ _) wh_nil))))))))))))) h
def f102_b_k43 (x38 : Int) (c18k : Int → (List Val) → Option (List Val)) (x58 : (List Val)) : Option (List Val) := (c18k (wr .i64 (x38 + 1)) x58)
def f102_b_k14 (x59 : (List Val)) : Option (List Val) := some x59
def f102_b_l18 (l12 : (List Val)) (a3 : (List (Int × Int))) (k14k : (List Val) → Option (List Val)) : Nat → Int → (List Val) → Option (List Val)
  | 0, _, _ => none
  | m18 + 1, x38, x39 => (bif (decide (x38 < (len l12))) then ((gi x39 x38).bind fun x46 => ((gi x39 x38).bind fun x48 => (bif (x48.fKind == 4) then ((gi x39 x38).bind fun x53 => ((gi x39 x38).bind fun x56 => (f102_b_k43 x38 (f102_b_l18 l12 a3 (k14k) m18) (setI x39 x38 (Val.mk x56.fKind ((mget x48.fN a3).getD 0)))))) else (f102_b_k43 x38 (f102_b_l18 l12 a3 (k14k) m18) x39)))) else (k14k x39))
def f102_b (n : Nat) (a1 : (List Node)) (a2 : (List Val)) (a3 : (List (Int × Int))) (a4 : (List Int)) (a5 : (List Val)) (a6 : (List Node)) (a7 : (List Node)) (a8 : (List Val)) (a9 : (List Val)) : Option (List Val) := ((app2 [] a9).bind fun l12 => (f102_b_l18 l12 a3 (f102_b_k14) n 0 l12))
def f102_b_r (a1 : (List Node)) (a2 : (List Val)) (a3 : (List (Int × Int))) (a4 : (List Int)) (a5 : (List Val)) (a6 : (List Node)) (a7 : (List Node)) (a8 : (List Val)) (a9 : (List Val)) (r : (List Val)) : AV := (.own 18 (List.length r))
def f102_b_h (a1 : (List Node)) (a2 : (List Val)) (a3 : (List (Int × Int))) (a4 : (List Int)) (a5 : (List Val)) (a6 : (List Node)) (a7 : (List Node)) (a8 : (List Val)) (a9 : (List Val)) (r : (List Val)) : Heap := [(some (.box 26 [(vL Node.c a7), (vL Val.c a8)])), (some (.row 57 2 (List.map Node.c a1))), (some (.row 59 2 (List.map Val.c a2))), (some (.box 26 [(.own 1 (List.length a1)), (.own 2 (List.length a2))])), none, (some (.map (List.map (fun (p : (Int × Int)) => (Value.int .i64 p.1, Value.int .i64 p.2)) a3))), (some (.box 148 [(.mp 5)])), (some (.row 3 1 (List.map cI a4))), none, none, none, (some (.row 59 2 (List.map Val.c a5))), none, none, (some (.box 26 [(.own 15 (List.length a6)), (.own 11 (List.length a5))])), (some (.row 57 2 (List.map Node.c a6))), none, none, (some (.row 59 2 (List.map Val.c r)))]
theorem q_f102_b {n : Nat} {a1 : (List Node)} {a2 : (List Val)} {a3 : (List (Int × Int))} {a4 : (List Int)} {a5 : (List Val)} {a6 : (List Node)} {a7 : (List Node)} {a8 : (List Val)} {a9 : (List Val)} {r : (List Val)} (h : f102_b n a1 a2 a3 a4 a5 a6 a7 a8 a9 = some r) : HSpec Try.prog 102 [(vL Val.c a9), (.ptr 6 0)] [(some (.box 26 [(vL Node.c a7), (vL Val.c a8)])), (some (.row 57 2 (List.map Node.c a1))), (some (.row 59 2 (List.map Val.c a2))), (some (.box 26 [(.own 1 (List.length a1)), (.own 2 (List.length a2))])), none, (some (.map (List.map (fun (p : (Int × Int)) => (Value.int .i64 p.1, Value.int .i64 p.2)) a3))), (some (.box 148 [(.mp 5)])), (some (.row 3 1 (List.map cI a4))), none, none, none, (some (.row 59 2 (List.map Val.c a5))), none, none, (some (.box 26 [(.own 15 (List.length a6)), (.own 11 (List.length a5))])), (some (.row 57 2 (List.map Node.c a6)))] (f102_b_r a1 a2 a3 a4 a5 a6 a7 a8 a9 r) (f102_b_h a1 a2 a3 a4 a5 a6 a7 a8 a9 r) := by
 rw [f102_b.eq_1] at h
 refine heap_of hmix ic102 ?_
 refine go_to (mkd (.val undef) 29 0 [(0, (vL Val.c a9)), (1, (.ptr 6 0))]) ?_
 refine s_so fun N10 k10 w10 => ?_
 refine o_h1 [(3, (.own 16 0))] [(some (.box 26 [(vL Node.c a7), (vL Val.c a8)])), (some (.row 57 2 (List.map Node.c a1))), (some (.row 59 2 (List.map Val.c a2))), (some (.box 26 [(.own 1 (List.length a1)), (.own 2 (List.length a2))])), none, (some (.map (List.map (fun (p : (Int × Int)) => (Value.int .i64 p.1, Value.int .i64 p.2)) a3))), (some (.box 148 [(.mp 5)])), (some (.row 3 1 (List.map cI a4))), none, none, none, (some (.row 59 2 (List.map Val.c a5))), none, none, (some (.box 26 [(.own 15 (List.length a6)), (.own 11 (List.length a5))])), (some (.row 57 2 (List.map Node.c a6))), (some (.row 59 2 (List.map Val.c [])))] ?_
 refine o_end (k10 _ ?_)
 refine s_so fun N11 k11 w11 => ?_
 refine o_r1 [(7, (vL Val.c a9))] ?_
 refine bnd h fun l12 g13 h => ?_
 refine o_x [(some (.box 26 [(vL Node.c a7), (vL Val.c a8)])), (some (.row 57 2 (List.map Node.c a1))), (some (.row 59 2 (List.map Val.c a2))), (some (.box 26 [(.own 1 (List.length a1)), (.own 2 (List.length a2))])), none, (some (.map (List.map (fun (p : (Int × Int)) => (Value.int .i64 p.1, Value.int .i64 p.2)) a3))), (some (.box 148 [(.mp 5)])), (some (.row 3 1 (List.map cI a4))), none, none, none, (some (.row 59 2 (List.map Val.c a5))), none, none, (some (.box 26 [(.own 15 (List.length a6)), (.own 11 (List.length a5))])), (some (.row 57 2 (List.map Node.c a6))), (some (.row 59 2 (List.map Val.c []))), none, (some (.row 59 2 (List.map Val.c l12)))] (one_callH (caps := []) (clone_spec (g := Val.c) hmix [(some (.box 26 [(vL Node.c a7), (vL Val.c a8)])), (some (.row 57 2 (List.map Node.c a1))), (some (.row 59 2 (List.map Val.c a2))), (some (.box 26 [(.own 1 (List.length a1)), (.own 2 (List.length a2))])), none, (some (.map (List.map (fun (p : (Int × Int)) => (Value.int .i64 p.1, Value.int .i64 p.2)) a3))), (some (.box 148 [(.mp 5)])), (some (.row 3 1 (List.map cI a4))), none, none, none, (some (.row 59 2 (List.map Val.c a5))), none, none, (some (.box 26 [(.own 15 (List.length a6)), (.own 11 (List.length a5))])), (some (.row 57 2 (List.map Node.c a6))), (some (.row 59 2 (List.map Val.c [])))] ic77 g13 (fun _ => ⟨rfl, rfl⟩) Val.p (by kernel_rfl) (whk (wh_keep (row_below Node.p _ _ _ _) (wh_keep (row_below Val.p _ _ _ _) (whk (wh_none (whk (whk (wh_keep (row_below cK_p _ _ _ _) (wh_none (wh_none (wh_none (wh_keep (row_below Val.p _ _ _ _) (wh_none (wh_none (whk (wh_keep (row_below Node.p _ _ _ _) (wh_keep (row_below Val.p _ _ _ _) wh_nil))))))))))))))))))) ?_
 refine o_r1 [(4, (.own 18 (List.length l12)))] ?_
 refine o_end (k11 _ ?_)
 refine J1 (r := r) (fun (x59 : (List Val)) => ⟨(mkd .any 29 0 [(4, (.own 18 (List.length x59)))]), [(some (.box 26 [(vL Node.c a7), (vL Val.c a8)])), (some (.row 57 2 (List.map Node.c a1))), (some (.row 59 2 (List.map Val.c a2))), (some (.box 26 [(.own 1 (List.length a1)), (.own 2 (List.length a2))])), none, (some (.map (List.map (fun (p : (Int × Int)) => (Value.int .i64 p.1, Value.int .i64 p.2)) a3))), (some (.box 148 [(.mp 5)])), (some (.row 3 1 (List.map cI a4))), none, none, none, (some (.row 59 2 (List.map Val.c a5))), none, none, (some (.box 26 [(.own 15 (List.length a6)), (.own 11 (List.length a5))])), (some (.row 57 2 (List.map Node.c a6))), none, none, (some (.row 59 2 (List.map Val.c x59)))]⟩) (f102_b_k14) ?_ ?_
 · intro x59 h
   rw [f102_b_k14.eq_1] at h
   refine s_so fun N60 k60 w60 => ?_
   refine o_r2 [(3, (.own 18 (List.length x59))), (28, (.own 18 (List.length x59)))] ?_
   refine o_end (k60 _ ?_)
   exact c_ret (retsH [(.own 18 (List.length x59))] [(.own 18 (List.length x59))] h (wkm [0] (whk (wh_keep (row_below Node.p _ _ _ _) (wh_keep (row_below Val.p _ _ _ _) (whk (wh_none (whk (whk (wh_keep (row_below cK_p _ _ _ _) (wh_none (wh_none (wh_none (wh_keep (row_below Val.p _ _ _ _) (wh_none (wh_none (whk (wh_keep (row_below Node.p _ _ _ _) (wh_none (wh_none (wh_keep (row_below Val.p _ _ _ _) wh_nil)))))))))))))))))))))
 · intro N14 w14
   refine s_so fun N15 k15 w15 => ?_
   refine o_r1 [(9, (.own 18 (List.length l12)))] ?_
   refine o_o (one_lenO (f := Val.c) (l := l12) (o := 18) (t := 59) (sz := 2)) ?_
   refine o_r1 [(11, (vI 0))] ?_
   refine o_end (k15 _ ?_)
   refine c_block fun E17 hE17 hO17 => ?_
   refine W2 (fun (x38 : Int) (x39 : (List Val)) => ⟨(mkd .any 29 0 [(1, (.ptr 6 0)), (4, (.own 18 (List.length x39))), (9, (.own 18 (List.length x39))), (10, (vI (len l12))), (11, (vI x38))]), [(some (.box 26 [(vL Node.c a7), (vL Val.c a8)])), (some (.row 57 2 (List.map Node.c a1))), (some (.row 59 2 (List.map Val.c a2))), (some (.box 26 [(.own 1 (List.length a1)), (.own 2 (List.length a2))])), none, (some (.map (List.map (fun (p : (Int × Int)) => (Value.int .i64 p.1, Value.int .i64 p.2)) a3))), (some (.box 148 [(.mp 5)])), (some (.row 3 1 (List.map cI a4))), none, none, none, (some (.row 59 2 (List.map Val.c a5))), none, none, (some (.box 26 [(.own 15 (List.length a6)), (.own 11 (List.length a5))])), (some (.row 57 2 (List.map Node.c a6))), none, none, (some (.row 59 2 (List.map Val.c x39)))]⟩) (f102_b_l18 l12 a3 (f102_b_k14)) h (wkm [1, 4, 9, 10, 11] (whk (wh_keep (row_below Node.p _ _ _ _) (wh_keep (row_below Val.p _ _ _ _) (whk (wh_none (whk (whk (wh_keep (row_below cK_p _ _ _ _) (wh_none (wh_none (wh_none (wh_keep (row_below Val.p _ _ _ _) (wh_none (wh_none (whk (wh_keep (row_below Node.p _ _ _ _) (wh_drop (wh_none (wh_keep (row_below Val.p _ _ _ _) wh_nil)))))))))))))))))))) (by intros; rw [f102_b_l18.eq_1]) ?_
   intro m18 x38 x39 h N18 w18
   rw [f102_b_l18.eq_2] at h
   refine s_so fun N40 k40 w40 => ?_
   refine o_r1 [(12, (vB (decide (x38 < (len l12)))))] ?_
   refine o_end (k40 _ ?_)
   refine s_seq fun N41 k41 w41 => ?_
   refine i_c [12] h (fun h => ?_) (fun h => ?_)
   · refine c_skip (k41 _ ?_)
     refine J1 (r := r) (fun (x58 : (List Val)) => ⟨(mkd .any 29 0 [(1, (.ptr 6 0)), (4, (.own 18 (List.length x58))), (9, (.own 18 (List.length x58))), (10, (vI (len l12))), (11, (vI x38))]), [(some (.box 26 [(vL Node.c a7), (vL Val.c a8)])), (some (.row 57 2 (List.map Node.c a1))), (some (.row 59 2 (List.map Val.c a2))), (some (.box 26 [(.own 1 (List.length a1)), (.own 2 (List.length a2))])), none, (some (.map (List.map (fun (p : (Int × Int)) => (Value.int .i64 p.1, Value.int .i64 p.2)) a3))), (some (.box 148 [(.mp 5)])), (some (.row 3 1 (List.map cI a4))), none, none, none, (some (.row 59 2 (List.map Val.c a5))), none, none, (some (.box 26 [(.own 15 (List.length a6)), (.own 11 (List.length a5))])), (some (.row 57 2 (List.map Node.c a6))), none, none, (some (.row 59 2 (List.map Val.c x58)))]⟩) (f102_b_k43 x38 (f102_b_l18 l12 a3 (f102_b_k14) m18)) ?_ ?_
     · intro x58 h
       rw [f102_b_k43.eq_1] at h
       refine c_ops ?_
       refine o_r2 [(11, (vI (wr .i64 (x38 + 1)))), (27, (vI (wr .i64 (x38 + 1))))] ?_
       exact o_end (w18 _ _ _ (wkm [1, 4, 9, 10, 11] (whk (wh_keep (row_below Node.p _ _ _ _) (wh_keep (row_below Val.p _ _ _ _) (whk (wh_none (whk (whk (wh_keep (row_below cK_p _ _ _ _) (wh_none (wh_none (wh_none (wh_keep (row_below Val.p _ _ _ _) (wh_none (wh_none (whk (wh_keep (row_below Node.p _ _ _ _) (wh_none (wh_none (wh_keep (row_below Val.p _ _ _ _) wh_nil)))))))))))))))))))) h)
     · intro N43 w43
       refine c_block fun E44 hE44 hO44 => ?_
       refine s_so fun N45 k45 w45 => ?_
       refine o_r1 [(13, (vI x38))] ?_
       refine bnd h fun x46 g47 h => ?_
       refine o_o (one_iaO (f := Val.c) (ki := .i64) (t := 59) (o := 18) g47) ?_
       refine bnd h fun x48 g49 h => ?_
       refine o_o (one_ldE (f := Val.c) (k := 0) (t := 59) (sz := 2) (o := 18) g49) ?_
       refine o_h3 [(5, (vI x38)), (6, (.ptr 19 0))] [(some (.box 26 [(vL Node.c a7), (vL Val.c a8)])), (some (.row 57 2 (List.map Node.c a1))), (some (.row 59 2 (List.map Val.c a2))), (some (.box 26 [(.own 1 (List.length a1)), (.own 2 (List.length a2))])), none, (some (.map (List.map (fun (p : (Int × Int)) => (Value.int .i64 p.1, Value.int .i64 p.2)) a3))), (some (.box 148 [(.mp 5)])), (some (.row 3 1 (List.map cI a4))), none, none, none, (some (.row 59 2 (List.map Val.c a5))), none, none, (some (.box 26 [(.own 15 (List.length a6)), (.own 11 (List.length a5))])), (some (.row 57 2 (List.map Node.c a6))), none, none, (some (.row 59 2 (List.map Val.c x39))), (some (.box 59 [(vI x48.fKind), (vI x48.fN)]))] ?_
       refine o_end (k45 _ ?_)
       refine s_so fun N50 k50 w50 => ?_
       refine o_r3 [(16, (.ptr 19 0)), (17, (vI x48.fKind)), (18, (vB (x48.fKind == 4)))] ?_
       refine o_end (k50 _ ?_)
       refine i_c [18] h (fun h => ?_) (fun h => ?_)
       · refine c_ops ?_
         refine o_r5 [(19, (.own 18 (List.length x39))), (20, (vI x38)), (21, (.mp 5)), (22, (.ptr 19 1)), (23, (vI x48.fN))] ?_
         refine o_o (one_luk (ek := Value.int .i64) (ev := Value.int .i64) (l := a3) (o := 5) (k := x48.fN) (z := 0) (key_int _)) ?_
         refine bnd h fun x53 g54 h => ?_
         refine o_o (one_iaO (f := Val.c) (ki := .i64) (t := 59) (o := 18) g54) ?_
         refine o_o (one_faE (f := Val.c) (l := x39) (j := x38) (k := 0) (t := 59) (sz := 2) (o := 18)) ?_
         refine bnd h fun x56 g57 h => ?_
         refine o_x [(some (.box 26 [(vL Node.c a7), (vL Val.c a8)])), (some (.row 57 2 (List.map Node.c a1))), (some (.row 59 2 (List.map Val.c a2))), (some (.box 26 [(.own 1 (List.length a1)), (.own 2 (List.length a2))])), none, (some (.map (List.map (fun (p : (Int × Int)) => (Value.int .i64 p.1, Value.int .i64 p.2)) a3))), (some (.box 148 [(.mp 5)])), (some (.row 3 1 (List.map cI a4))), none, none, none, (some (.row 59 2 (List.map Val.c a5))), none, none, (some (.box 26 [(.own 15 (List.length a6)), (.own 11 (List.length a5))])), (some (.row 57 2 (List.map Node.c a6))), none, none, (some (.row 59 2 (List.map Val.c (setI x39 x38 (Val.mk x56.fKind ((mget x48.fN a3).getD 0)))))), (some (.box 59 [(vI x48.fKind), (vI x48.fN)]))] (one_stE (f := Val.c) (k := 1) (t := 59) (sz := 2) (o := 18) (z := (Val.mk x56.fKind ((mget x48.fN a3).getD 0))) (ds := [(vI ((mget x48.fN a3).getD 0))]) (es := [(vI ((mget x48.fN a3).getD 0))]) g57) ?_
         refine s_ln (fun b => ⟨(mkd .any 29 0 [(1, (.ptr 6 0)), (4, (.own 18 b)), (5, (vI x38)), (6, (.ptr 19 0)), (9, (.own 18 b)), (10, (vI (len l12))), (11, (vI x38)), (12, (vB true)), (13, (vI x38)), (14, (.eptr 18 b (Int.toNat x38) 0)), (15, (.agg [(vI x48.fKind), (vI x48.fN)])), (16, (.ptr 19 0)), (17, (vI x48.fKind)), (18, (vB true)), (19, (.own 18 b)), (20, (vI x38)), (21, (.mp 5)), (22, (.ptr 19 1)), (23, (vI x48.fN)), (24, (vI ((mget x48.fN a3).getD 0))), (25, (.eptr 18 b (Int.toNat x38) 0)), (26, (.eptr 18 b (Int.toNat x38) 1))]), [(some (.box 26 [(vL Node.c a7), (vL Val.c a8)])), (some (.row 57 2 (List.map Node.c a1))), (some (.row 59 2 (List.map Val.c a2))), (some (.box 26 [(.own 1 (List.length a1)), (.own 2 (List.length a2))])), none, (some (.map (List.map (fun (p : (Int × Int)) => (Value.int .i64 p.1, Value.int .i64 p.2)) a3))), (some (.box 148 [(.mp 5)])), (some (.row 3 1 (List.map cI a4))), none, none, none, (some (.row 59 2 (List.map Val.c a5))), none, none, (some (.box 26 [(.own 15 (List.length a6)), (.own 11 (List.length a5))])), (some (.row 57 2 (List.map Node.c a6))), none, none, (some (.row 59 2 (List.map Val.c (setI x39 x38 (Val.mk x56.fKind ((mget x48.fN a3).getD 0)))))), (some (.box 59 [(vI x48.fKind), (vI x48.fN)]))]⟩) (show List.length x39 = List.length (setI x39 x38 (Val.mk x56.fKind ((mget x48.fN a3).getD 0))) from setI_len) ?_
         exact o_end (w43 _ _ (wkm [1, 4, 9, 10, 11] (whk (wh_keep (row_below Node.p _ _ _ _) (wh_keep (row_below Val.p _ _ _ _) (whk (wh_none (whk (whk (wh_keep (row_below cK_p _ _ _ _) (wh_none (wh_none (wh_none (wh_keep (row_below Val.p _ _ _ _) (wh_none (wh_none (whk (wh_keep (row_below Node.p _ _ _ _) (wh_none (wh_none (wh_keep (row_below Val.p _ _ _ _) wh_nil)))))))))))))))))))) h)
       · exact c_skip (w43 _ _ (wkm [1, 4, 9, 10, 11] (whk (wh_keep (row_below Node.p _ _ _ _) (wh_keep (row_below Val.p _ _ _ _) (whk (wh_none (whk (whk (wh_keep (row_below cK_p _ _ _ _) (wh_none (wh_none (wh_none (wh_keep (row_below Val.p _ _ _ _) (wh_none (wh_none (whk (wh_keep (row_below Node.p _ _ _ _) (wh_none (wh_none (wh_keep (row_below Val.p _ _ _ _) wh_nil)))))))))))))))))))) h)
   · refine c_exit (hE17 _ ?_)
     exact w14 _ _ (wkm [4] (whk (wh_keep (row_below Node.p _ _ _ _) (wh_keep (row_below Val.p _ _ _ _) (whk (wh_none (whk (whk (wh_keep (row_below cK_p _ _ _ _) (wh_none (wh_none (wh_none (wh_keep (row_below Val.p _ _ _ _) (wh_none (wh_none (whk (wh_keep (row_below Node.p _ _ _ _) (wh_none (wh_none (wh_keep (row_below Val.p _ _ _ _) wh_nil)))))))))))))))))))) h
theorem ic62 : fnIC Try.prog H62 62 = some ([.cell 2 26, .tmp 3], 93, (.seq (.ops [zO 1 (.box 0 26 [(0, 57, 2, 0), (1, 59, 2, 0)] (.t 0)), zO 2 (.alloc 0 26 [(0, 57, 2, 0), (1, 59, 2, 0)] [(.slice none 0 0), (.slice none 0 0)]), zO 3 (.nil 0 3 1)]) (.seq (.ops [zO 16 (.mkm 0), zO 4 (.alloc 0 148 [] [(.map none)]), zU (.st true 1 [] (.t 4) (.t 16))]) (.seq (.ops [zO 5 (.alloc 0 46 [(0, 3, 1, 0)] [(.slice none 0 0)])]) (.seq (.ops [zO 17 (.mkf 100 [(.t 4), (.t 5)]), zM 6 17]) (.seq (.ops [zM 18 6, zO 19 (.faddr (.t 1) 1), zO 20 (.ld (.t 19) 1 false), zO 21 (.callv (.t 18) [(.t 20)])]) (.seq .skip (.seq (.seq (.ops [zO 7 (.mov (.c (.int .i64 0)))]) (.block 0 (.loop (.seq (.block 1 (.seq (.seq (.ops [zM 24 7, zO 25 (.ld (.t 5) 1 false), zO 26 (.len false (.t 25)), zO 27 (.sc (.bin .eql 3) [(.t 24), (.t 26)])]) (.cond (.t 27)
  (.exit 0)
  .skip)) (.draw [] [zQ (zM 28 6), zQ (zO 29 (.faddr (.t 1) 0)), zQ (zO 30 (.ld (.t 29) 1 false)), zQ (zO 31 (.ld (.t 5) 1 false)), zQ (zM 32 7), zQ (zO 33 (.iaddr 1 (.t 31) (.t 32))), zQ (zO 34 (.ld (.t 33) 1 false)), zQ (zO 35 (.iaddr 2 (.t 30) (.t 34))), zQ (zO 36 (.faddr (.t 35) 1)), zQ (zO 37 (.ld (.t 36) 1 false)), ⟨zO 38 (.callv (.t 28) [(.t 37)]), true, 0, 1⟩]))) (.ops [zM 22 7, zO 23 (.sc (.bin .add 3) [(.t 22), (.c (.int .i64 1))]), zM 7 23]))))) (.seq (.ops [zO 39 (.mkf 102 [(.t 4)]), zM 8 39]) (.seq (.ops [zM 40 8, zO 41 (.faddr (.t 1) 1), zO 42 (.ld (.t 41) 1 false), zO 43 (.callv (.t 40) [(.t 42)]), zO 44 (.bld [(.slice none 0 0), (.slice none 0 0)] [(1, 1, (.t 43))]), zO 9 (.alloc 0 26 [(0, 57, 2, 0), (1, 59, 2, 0)] [(.slice none 0 0), (.slice none 0 0)]), zU (.st true 2 [(0, 57, 2, 0), (1, 59, 2, 0)] (.t 9) (.t 44))]) (.seq (.seq (.ops [zO 45 (.ld (.t 5) 1 false), zO 46 (.len false (.t 45)), zO 47 (.mov (.c (.int .i64 0)))]) (.block 2 (.loop (.seq (.ops [zO 48 (.sc (.bin .lss 3) [(.t 47), (.t 46)])]) (.seq (.cond (.t 48)
  .skip
  (.exit 2)) (.seq (.block 3 (.seq (.ops [zO 49 (.iaddr 1 (.t 45) (.t 47)), zO 50 (.ld (.t 49) 1 false), zM 11 50]) (.draw [] [⟨zO 51 (.faddr (.t 9) 0), false, 0, 2⟩, ⟨zO 52 (.ld (.t 51) 1 false), false, 0, 2⟩, ⟨zO 53 (.faddr (.t 1) 0), false, 0, 1⟩, ⟨zO 54 (.ld (.t 53) 1 false), false, 0, 1⟩, ⟨zM 55 11, false, 0, 1⟩, ⟨zO 56 (.iaddr 2 (.t 54) (.t 55)), false, 0, 1⟩, ⟨zO 57 (.faddr (.t 56) 0), false, 0, 1⟩, ⟨zO 58 (.ld (.t 57) 1 false), false, 0, 1⟩, zQ (zM 59 8), zQ (zO 60 (.faddr (.t 1) 0)), zQ (zO 61 (.ld (.t 60) 1 false)), zQ (zM 62 11), zQ (zO 63 (.iaddr 2 (.t 61) (.t 62))), zQ (zO 64 (.faddr (.t 63) 1)), zQ (zO 65 (.ld (.t 64) 1 false)), ⟨zO 66 (.callv (.t 59) [(.t 65)]), true, 0, 1⟩, ⟨zO 67 (.bld [(.string ⟨#[]⟩), (.slice none 0 0)] [(0, 1, (.t 58)), (1, 1, (.t 66))]), false, 1, 1⟩, ⟨zO 68 (.bsl 0 true 57 2 [(.t 67)]), true, 1, 2⟩, ⟨zO 69 (.app 0 57 2 40 (.t 52) (.t 68)), true, 2, 3⟩, ⟨zO 70 (.faddr (.t 9) 0), false, 3, 3⟩, ⟨zU (.st true 1 [(0, 57, 2, 0)] (.t 70) (.t 69)), true, 3, 4⟩]))) (.ops [zO 71 (.sc (.bin .add 3) [(.t 47), (.c (.int .i64 1))]), zM 47 71]))))))) (.seq (.ops [zO 12 (.nil 0 3 1)]) (.seq (.seq (.ops [zO 72 (.faddr (.t 1) 0), zO 73 (.ld (.t 72) 1 false), zO 74 (.len false (.t 73)), zO 75 (.mov (.c (.int .i64 0)))]) (.block 4 (.loop (.seq (.ops [zO 76 (.sc (.bin .lss 3) [(.t 75), (.t 74)])]) (.seq (.cond (.t 76)
  .skip
  (.exit 4)) (.seq (.block 5 (.seq (.ops [zM 77 75, zM 13 77]) (.seq (.ops [zO 79 (.ld (.t 4) 1 false), zM 80 13, zO 81 (.lku (some .i64) true (.int .i64 0) (.t 79) (.t 80)), zM 78 81, zO 82 (.ext (.t 78) 0), zO 83 (.ext (.t 78) 1), zM 14 82, zM 15 83]) (.seq (.seq (.ops [zM 84 15, zO 85 (.sc (.un .not) [(.t 84)])]) (.cond (.t 85)
  (.ops [zO 14 (.mov (.c (.int .i64 (-1))))])
  .skip)) (.ops [zM 86 12, zM 87 14, zO 88 (.isl 1 [(.t 87)]), zO 89 (.app 0 3 1 8 (.t 86) (.t 88)), zM 12 89]))))) (.ops [zO 90 (.sc (.bin .add 3) [(.t 75), (.c (.int .i64 1))]), zM 75 90]))))))) (.seq (.ops [zO 91 (.ld (.t 9) 2 true), zM 92 12, zU (.st true 2 [(0, 57, 2, 0), (1, 59, 2, 0)] (.t 2) (.t 91)), zM 3 92]) .ret)))))))))))))) := by kernel_rfl
def f62_k127 (x118 : (List Int)) (x117 : Int) (c102k : Int → (List Int) → Option (Graph × (List Int))) (x130 : Int) : Option (Graph × (List Int)) := ((app2 x118 [x130]).bind fun l131 => (c102k (wr .i64 (x117 + 1)) l131))
def f62_k98 (x96 : (List Node)) (r49 : (List Val)) (x133 : (List Int)) : Option (Graph × (List Int)) := some ((Graph.mk x96 r49), x133)
def f62_l102 (a1 : Graph) (x45 : (List (Int × Int))) (k98k : (List Int) → Option (Graph × (List Int))) : Nat → Int → (List Int) → Option (Graph × (List Int))
  | 0, _, _ => none
  | m102 + 1, x117, x118 => (bif (decide (x117 < (len a1.fNodes))) then (bif (!(Option.isSome (mget x117 x45))) then (f62_k127 x118 x117 (f62_l102 a1 x45 (k98k) m102) (-1)) else (f62_k127 x118 x117 (f62_l102 a1 x45 (k98k) m102) ((mget x117 x45).getD 0))) else (k98k x118))
def f62_k51 (n : Nat) (a1 : Graph) (x45 : (List (Int × Int))) (r49 : (List Val)) (x96 : (List Node)) : Option (Graph × (List Int)) := (f62_l102 a1 x45 (f62_k98 x96 r49) n 0 [])
def f62_l55 (x46 : (List Int)) (a1 : Graph) (n : Nat) (x45 : (List (Int × Int))) (r49 : (List Val)) (k51k : (List Node) → Option (Graph × (List Int))) : Nat → Int → (List Node) → Option (Graph × (List Int))
  | 0, _, _ => none
  | m55 + 1, x75, x76 => (bif (decide (x75 < (len x46))) then ((gi x46 x75).bind fun x83 => ((gi x46 x75).bind fun x85 => ((gi a1.fNodes x85).bind fun x87 => ((gi a1.fNodes x85).bind fun x89 => ((f102_b n [] [] x45 x46 r49 x76 a1.fNodes a1.fRoots x89.fVals).bind fun r91 => ((app2 x76 [(Node.mk x87.fClass r91)]).bind fun l94 => (f62_l55 x46 a1 n x45 r49 (k51k) m55 (wr .i64 (x75 + 1)) l94))))))) else (k51k x76))
def f62_k10 (n : Nat) (a1 : Graph) (x45 : (List (Int × Int))) (x46 : (List Int)) : Option (Graph × (List Int)) := ((f102 n [] [] x45 x46 a1.fNodes a1.fRoots a1.fRoots).bind fun r49 => (f62_l55 x46 a1 n x45 r49 (f62_k51 n a1 x45 r49) n 0 []))
def f62_l13 (a1 : Graph) (n : Nat) (k10k : (List (Int × Int)) → (List Int) → Option (Graph × (List Int))) : Nat → Int → (List (Int × Int)) → (List Int) → Option (Graph × (List Int))
  | 0, _, _, _ => none
  | m13 + 1, x28, x29, x30 => (bif (x28 == (len x30)) then (k10k x29 x30) else ((gi x30 x28).bind fun x37 => ((gi x30 x28).bind fun x39 => ((gi a1.fNodes x39).bind fun x41 => ((f100_b n [] [] x29 x30 a1.fNodes a1.fRoots x41.fVals).bind fun r43 => (f62_l13 a1 n (k10k) m13 (wr .i64 (x28 + 1)) r43.1 r43.2))))))
def f62 (n : Nat) (a1 : Graph) : Option (Graph × (List Int)) := ((f100 n [] [] [] [] [] a1.fNodes a1.fRoots a1.fRoots).bind fun r7 => (f62_l13 a1 n (f62_k10 n a1) n 0 r7.1 r7.2))
def f62_r (r : (Graph × (List Int))) : AV := (.tup [(.agg [(vL Node.c r.1.fNodes), (vL Val.c r.1.fRoots)]), (vL cI r.2)])
theorem p_f62 {n : Nat} {a1 : Graph} {r : (Graph × (List Int))} (h : f62 n a1 = some r) : PureSpec Try.prog 62 [(.agg [(vL Node.c a1.fNodes), (vL Val.c a1.fRoots)])] (f62_r r) := by
 rw [f62.eq_1] at h
 refine pure_of hmix ic62 ?_
 refine go_to (mkd (.val undef) 93 0 [(0, (.agg [(vL Node.c a1.fNodes), (vL Val.c a1.fRoots)]))]) ?_
 refine s_so fun N2 k2 w2 => ?_
 refine o_h3 [(1, (.ptr 0 0)), (2, (.ptr 3 0)), (3, (.own 4 0))] [(some (.box 26 [(vL Node.c a1.fNodes), (vL Val.c a1.fRoots)])), (some (.row 57 2 (List.map Node.c []))), (some (.row 59 2 (List.map Val.c []))), (some (.box 26 [(.own 1 0), (.own 2 0)])), (some (.row 3 1 (List.map cI [])))] ?_
 refine o_end (k2 _ ?_)
 refine s_so fun N3 k3 w3 => ?_
 refine o_h3 [(4, (.ptr 6 0)), (16, (.mp 5))] [(some (.box 26 [(vL Node.c a1.fNodes), (vL Val.c a1.fRoots)])), (some (.row 57 2 (List.map Node.c []))), (some (.row 59 2 (List.map Val.c []))), (some (.box 26 [(.own 1 0), (.own 2 0)])), (some (.row 3 1 (List.map cI []))), (some (.map (List.map (fun (p : (Int × Int)) => (Value.int .i64 p.1, Value.int .i64 p.2)) []))), (some (.box 148 [(.mp 5)]))] ?_
 refine o_end (k3 _ ?_)
 refine s_so fun N4 k4 w4 => ?_
 refine o_h1 [(5, (.ptr 8 0))] [(some (.box 26 [(vL Node.c a1.fNodes), (vL Val.c a1.fRoots)])), (some (.row 57 2 (List.map Node.c []))), (some (.row 59 2 (List.map Val.c []))), (some (.box 26 [(.own 1 0), (.own 2 0)])), (some (.row 3 1 (List.map cI []))), (some (.map (List.map (fun (p : (Int × Int)) => (Value.int .i64 p.1, Value.int .i64 p.2)) []))), (some (.box 148 [(.mp 5)])), (some (.row 3 1 (List.map cI []))), (some (.box 46 [(.own 7 0)]))] ?_
 refine o_end (k4 _ ?_)
 refine s_so fun N5 k5 w5 => ?_
 refine o_r2 [(6, (.fn 100 [(.ptr 6 0), (.ptr 8 0)])), (17, (.fn 100 [(.ptr 6 0), (.ptr 8 0)]))] ?_
 refine o_end (k5 _ ?_)
 refine s_so fun N6 k6 w6 => ?_
 refine o_r3 [(18, (.fn 100 [(.ptr 6 0), (.ptr 8 0)])), (19, (.ptr 0 1)), (20, (vL Val.c a1.fRoots))] ?_
 refine bnd h fun r7 g8 h => ?_
 refine o_x [(some (.box 26 [(vL Node.c a1.fNodes), (vL Val.c a1.fRoots)])), (some (.row 57 2 (List.map Node.c []))), (some (.row 59 2 (List.map Val.c []))), (some (.box 26 [(.own 1 0), (.own 2 0)])), (some (.row 3 1 (List.map cI []))), (some (.map (List.map (fun (p : (Int × Int)) => (Value.int .i64 p.1, Value.int .i64 p.2)) r7.1))), (some (.box 148 [(.mp 5)])), (some (.row 3 1 (List.map cI r7.2))), (some (.box 46 [(.own 7 (List.length r7.2))]))] (one_callH (caps := [(.ptr 6 0), (.ptr 8 0)]) (q_f100 g8)) ?_
 refine o_end (k6 _ ?_)
 refine s_seq fun N9 k9 w9 => ?_
 refine c_skip (k9 _ ?_)
 refine J2 (r := r) (fun (x45 : (List (Int × Int))) (x46 : (List Int)) => ⟨(mkd .any 93 0 [(1, (.ptr 0 0)), (2, (.ptr 3 0)), (4, (.ptr 6 0)), (5, (.ptr 8 0))]), [(some (.box 26 [(vL Node.c a1.fNodes), (vL Val.c a1.fRoots)])), (some (.row 57 2 (List.map Node.c []))), (some (.row 59 2 (List.map Val.c []))), (some (.box 26 [(.own 1 0), (.own 2 0)])), none, (some (.map (List.map (fun (p : (Int × Int)) => (Value.int .i64 p.1, Value.int .i64 p.2)) x45))), (some (.box 148 [(.mp 5)])), (some (.row 3 1 (List.map cI x46))), (some (.box 46 [(.own 7 (List.length x46))]))]⟩) (f62_k10 n a1) ?_ ?_
 · intro x45 x46 h
   rw [f62_k10.eq_1] at h
   refine s_so fun N47 k47 w47 => ?_
   refine o_r2 [(8, (.fn 102 [(.ptr 6 0)])), (39, (.fn 102 [(.ptr 6 0)]))] ?_
   refine o_end (k47 _ ?_)
   refine s_so fun N48 k48 w48 => ?_
   refine o_r3 [(40, (.fn 102 [(.ptr 6 0)])), (41, (.ptr 0 1)), (42, (vL Val.c a1.fRoots))] ?_
   refine bnd h fun r49 g50 h => ?_
   refine o_x [(some (.box 26 [(vL Node.c a1.fNodes), (vL Val.c a1.fRoots)])), (some (.row 57 2 (List.map Node.c []))), (some (.row 59 2 (List.map Val.c []))), (some (.box 26 [(.own 1 0), (.own 2 0)])), none, (some (.map (List.map (fun (p : (Int × Int)) => (Value.int .i64 p.1, Value.int .i64 p.2)) x45))), (some (.box 148 [(.mp 5)])), (some (.row 3 1 (List.map cI x46))), (some (.box 46 [(.own 7 (List.length x46))])), none, none, (some (.row 59 2 (List.map Val.c r49)))] (one_callH (caps := [(.ptr 6 0)]) (q_f102 g50)) ?_
   refine o_h3 [(9, (.ptr 14 0)), (44, (.agg [(.val (.slice none 0 0)), (.own 11 (List.length r49))]))] [(some (.box 26 [(vL Node.c a1.fNodes), (vL Val.c a1.fRoots)])), (some (.row 57 2 (List.map Node.c []))), (some (.row 59 2 (List.map Val.c []))), (some (.box 26 [(.own 1 0), (.own 2 0)])), none, (some (.map (List.map (fun (p : (Int × Int)) => (Value.int .i64 p.1, Value.int .i64 p.2)) x45))), (some (.box 148 [(.mp 5)])), (some (.row 3 1 (List.map cI x46))), (some (.box 46 [(.own 7 (List.length x46))])), none, none, (some (.row 59 2 (List.map Val.c r49))), (some (.row 57 2 (List.map Node.c []))), (some (.row 59 2 (List.map Val.c []))), (some (.box 26 [(.own 15 0), (.own 11 (List.length r49))])), (some (.row 57 2 (List.map Node.c [])))] ?_
   refine o_end (k48 _ ?_)
   refine J1 (r := r) (fun (x96 : (List Node)) => ⟨(mkd .any 93 0 [(1, (.ptr 0 0)), (2, (.ptr 3 0)), (4, (.ptr 6 0)), (9, (.ptr 14 0))]), [(some (.box 26 [(vL Node.c a1.fNodes), (vL Val.c a1.fRoots)])), (some (.row 57 2 (List.map Node.c []))), (some (.row 59 2 (List.map Val.c []))), (some (.box 26 [(.own 1 0), (.own 2 0)])), none, (some (.map (List.map (fun (p : (Int × Int)) => (Value.int .i64 p.1, Value.int .i64 p.2)) x45))), (some (.box 148 [(.mp 5)])), none, none, none, none, (some (.row 59 2 (List.map Val.c r49))), none, none, (some (.box 26 [(.own 15 (List.length x96)), (.own 11 (List.length r49))])), (some (.row 57 2 (List.map Node.c x96)))]⟩) (f62_k51 n a1 x45 r49) ?_ ?_
   · intro x96 h
     rw [f62_k51.eq_1] at h
     refine s_so fun N97 k97 w97 => ?_
     refine o_h1 [(12, (.own 16 0))] [(some (.box 26 [(vL Node.c a1.fNodes), (vL Val.c a1.fRoots)])), (some (.row 57 2 (List.map Node.c []))), (some (.row 59 2 (List.map Val.c []))), (some (.box 26 [(.own 1 0), (.own 2 0)])), none, (some (.map (List.map (fun (p : (Int × Int)) => (Value.int .i64 p.1, Value.int .i64 p.2)) x45))), (some (.box 148 [(.mp 5)])), none, none, none, none, (some (.row 59 2 (List.map Val.c r49))), none, none, (some (.box 26 [(.own 15 (List.length x96)), (.own 11 (List.length r49))])), (some (.row 57 2 (List.map Node.c x96))), (some (.row 3 1 (List.map cI [])))] ?_
     refine o_end (k97 _ ?_)
     refine J1 (r := r) (fun (x133 : (List Int)) => ⟨(mkd .any 93 0 [(2, (.ptr 3 0)), (9, (.ptr 14 0)), (12, (.own 16 (List.length x133)))]), [none, (some (.row 57 2 (List.map Node.c []))), (some (.row 59 2 (List.map Val.c []))), (some (.box 26 [(.own 1 0), (.own 2 0)])), none, none, none, none, none, none, none, (some (.row 59 2 (List.map Val.c r49))), none, none, (some (.box 26 [(.own 15 (List.length x96)), (.own 11 (List.length r49))])), (some (.row 57 2 (List.map Node.c x96))), (some (.row 3 1 (List.map cI x133)))]⟩) (f62_k98 x96 r49) ?_ ?_
     · intro x133 h
       rw [f62_k98.eq_1] at h
       refine s_so fun N134 k134 w134 => ?_
       refine o_h4 [(3, (.own 16 (List.length x133))), (91, (.agg [(.own 15 (List.length x96)), (.own 11 (List.length r49))])), (92, (.own 16 (List.length x133)))] [none, (some (.row 57 2 (List.map Node.c []))), (some (.row 59 2 (List.map Val.c []))), (some (.box 26 [(.own 15 (List.length x96)), (.own 11 (List.length r49))])), none, none, none, none, none, none, none, (some (.row 59 2 (List.map Val.c r49))), none, none, (some (.box 26 [(.own 15 (List.length x96)), (.own 11 (List.length r49))])), (some (.row 57 2 (List.map Node.c x96))), (some (.row 3 1 (List.map cI x133)))] ?_
       refine o_end (k134 _ ?_)
       exact c_ret (retsF [15, 11, 16] [(.agg [(.own 15 (List.length x96)), (.own 11 (List.length r49))]), (.own 16 (List.length x133))] [(.agg [(vL Node.c x96), (vL Val.c r49)]), (vL cI x133)] ⟨(fz_agg ⟨(fz_own (g := Node.c) (l := x96) (t := 57) (sz := 2) Node.p), (fz_own (g := Val.c) (l := r49) (t := 59) (sz := 2) Val.p), trivial⟩), (fz_own (g := cI) (l := x133) (t := 3) (sz := 1) cK_p), trivial⟩ h)
     · intro N98 w98
       refine s_so fun N99 k99 w99 => ?_
       refine o_r2 [(72, (.ptr 0 0)), (73, (vL Node.c a1.fNodes))] ?_
       refine o_o (one_len (f := Node.c) (l := a1.fNodes)) ?_
       refine o_r1 [(75, (vI 0))] ?_
       refine o_end (k99 _ ?_)
       refine c_block fun E101 hE101 hO101 => ?_
       refine W2 (fun (x117 : Int) (x118 : (List Int)) => ⟨(mkd .any 93 0 [(2, (.ptr 3 0)), (4, (.ptr 6 0)), (9, (.ptr 14 0)), (12, (.own 16 (List.length x118))), (74, (vI (len a1.fNodes))), (75, (vI x117))]), [none, (some (.row 57 2 (List.map Node.c []))), (some (.row 59 2 (List.map Val.c []))), (some (.box 26 [(.own 1 0), (.own 2 0)])), none, (some (.map (List.map (fun (p : (Int × Int)) => (Value.int .i64 p.1, Value.int .i64 p.2)) x45))), (some (.box 148 [(.mp 5)])), none, none, none, none, (some (.row 59 2 (List.map Val.c r49))), none, none, (some (.box 26 [(.own 15 (List.length x96)), (.own 11 (List.length r49))])), (some (.row 57 2 (List.map Node.c x96))), (some (.row 3 1 (List.map cI x118)))]⟩) (f62_l102 a1 x45 (f62_k98 x96 r49)) h (wkm [2, 4, 9, 12, 74, 75] (wh_drop (wh_keep (row_below Node.p _ _ _ _) (wh_keep (row_below Val.p _ _ _ _) (whk (wh_none (whk (whk (wh_none (wh_none (wh_none (wh_none (wh_keep (row_below Val.p _ _ _ _) (wh_none (wh_none (whk (wh_keep (row_below Node.p _ _ _ _) (wh_keep (row_below cK_p _ _ _ _) wh_nil)))))))))))))))))) (by intros; rw [f62_l102.eq_1]) ?_
       intro m102 x117 x118 h N102 w102
       rw [f62_l102.eq_2] at h
       refine s_so fun N119 k119 w119 => ?_
       refine o_r1 [(76, (vB (decide (x117 < (len a1.fNodes)))))] ?_
       refine o_end (k119 _ ?_)
       refine s_seq fun N120 k120 w120 => ?_
       refine i_c [76] h (fun h => ?_) (fun h => ?_)
       · refine c_skip (k120 _ ?_)
         refine s_seq fun N122 k122 w122 => ?_
         refine c_block fun E123 hE123 hO123 => ?_
         refine s_so fun N124 k124 w124 => ?_
         refine o_r2 [(13, (vI x117)), (77, (vI x117))] ?_
         refine o_end (k124 _ ?_)
         refine s_so fun N125 k125 w125 => ?_
         refine o_r2 [(79, (.mp 5)), (80, (vI x117))] ?_
         refine o_o (one_lukOk (ek := Value.int .i64) (ev := Value.int .i64) (l := x45) (o := 5) (k := x117) (z := 0) (key_int _)) ?_
         refine o_r5 [(14, (vI ((mget x117 x45).getD 0))), (15, (vB (Option.isSome (mget x117 x45)))), (78, (.tup [(vI ((mget x117 x45).getD 0)), (vB (Option.isSome (mget x117 x45)))])), (82, (vI ((mget x117 x45).getD 0))), (83, (vB (Option.isSome (mget x117 x45))))] ?_
         refine o_end (k125 _ ?_)
         refine J1 (r := r) (fun (x130 : Int) => ⟨(mkd .any 93 0 [(2, (.ptr 3 0)), (4, (.ptr 6 0)), (9, (.ptr 14 0)), (12, (.own 16 (List.length x118))), (14, (vI x130)), (74, (vI (len a1.fNodes))), (75, (vI x117))]), [none, (some (.row 57 2 (List.map Node.c []))), (some (.row 59 2 (List.map Val.c []))), (some (.box 26 [(.own 1 0), (.own 2 0)])), none, (some (.map (List.map (fun (p : (Int × Int)) => (Value.int .i64 p.1, Value.int .i64 p.2)) x45))), (some (.box 148 [(.mp 5)])), none, none, none, none, (some (.row 59 2 (List.map Val.c r49))), none, none, (some (.box 26 [(.own 15 (List.length x96)), (.own 11 (List.length r49))])), (some (.row 57 2 (List.map Node.c x96))), (some (.row 3 1 (List.map cI x118)))]⟩) (f62_k127 x118 x117 (f62_l102 a1 x45 (f62_k98 x96 r49) m102)) ?_ ?_
         · intro x130 h
           rw [f62_k127.eq_1] at h
           refine c_ops ?_
           refine o_r3 [(86, (.own 16 (List.length x118))), (87, (vI x130)), (88, (vL cI [x130]))] ?_
           refine bnd h fun l131 g132 h => ?_
           refine o_x [none, (some (.row 57 2 (List.map Node.c []))), (some (.row 59 2 (List.map Val.c []))), (some (.box 26 [(.own 1 0), (.own 2 0)])), none, (some (.map (List.map (fun (p : (Int × Int)) => (Value.int .i64 p.1, Value.int .i64 p.2)) x45))), (some (.box 148 [(.mp 5)])), none, none, none, none, (some (.row 59 2 (List.map Val.c r49))), none, none, (some (.box 26 [(.own 15 (List.length x96)), (.own 11 (List.length r49))])), (some (.row 57 2 (List.map Node.c x96))), (some (.row 3 1 (List.map cI l131)))] (one_app (f := cI) (o := 16) g132 (fun _ => ⟨rfl, rfl⟩)) ?_
           refine o_r1 [(12, (.own 16 (List.length l131)))] ?_
           refine o_end (k122 _ ?_)
           refine c_ops ?_
           refine o_r2 [(75, (vI (wr .i64 (x117 + 1)))), (90, (vI (wr .i64 (x117 + 1))))] ?_
           exact o_end (w102 _ _ _ (wkm [2, 4, 9, 12, 74, 75] (wh_none (wh_keep (row_below Node.p _ _ _ _) (wh_keep (row_below Val.p _ _ _ _) (whk (wh_none (whk (whk (wh_none (wh_none (wh_none (wh_none (wh_keep (row_below Val.p _ _ _ _) (wh_none (wh_none (whk (wh_keep (row_below Node.p _ _ _ _) (wh_keep (row_below cK_p _ _ _ _) wh_nil)))))))))))))))))) h)
         · intro N127 w127
           refine s_so fun N128 k128 w128 => ?_
           refine o_r2 [(84, (vB (Option.isSome (mget x117 x45)))), (85, (vB (!(Option.isSome (mget x117 x45)))))] ?_
           refine o_end (k128 _ ?_)
           refine i_c [85] h (fun h => ?_) (fun h => ?_)
           · refine c_ops ?_
             refine o_r1 [(14, (vI (-1)))] ?_
             exact o_end (w127 _ _ (wkm [2, 4, 9, 12, 14, 74, 75] (wh_none (wh_keep (row_below Node.p _ _ _ _) (wh_keep (row_below Val.p _ _ _ _) (whk (wh_none (whk (whk (wh_none (wh_none (wh_none (wh_none (wh_keep (row_below Val.p _ _ _ _) (wh_none (wh_none (whk (wh_keep (row_below Node.p _ _ _ _) (wh_keep (row_below cK_p _ _ _ _) wh_nil)))))))))))))))))) h)
           · exact c_skip (w127 _ _ (wkm [2, 4, 9, 12, 14, 74, 75] (wh_none (wh_keep (row_below Node.p _ _ _ _) (wh_keep (row_below Val.p _ _ _ _) (whk (wh_none (whk (whk (wh_none (wh_none (wh_none (wh_none (wh_keep (row_below Val.p _ _ _ _) (wh_none (wh_none (whk (wh_keep (row_below Node.p _ _ _ _) (wh_keep (row_below cK_p _ _ _ _) wh_nil)))))))))))))))))) h)
       · refine c_exit (hE101 _ ?_)
         exact w98 _ _ (wkm [2, 9, 12] (wh_none (wh_keep (row_below Node.p _ _ _ _) (wh_keep (row_below Val.p _ _ _ _) (whk (wh_none (wh_drop (wh_drop (wh_none (wh_none (wh_none (wh_none (wh_keep (row_below Val.p _ _ _ _) (wh_none (wh_none (whk (wh_keep (row_below Node.p _ _ _ _) (wh_keep (row_below cK_p _ _ _ _) wh_nil)))))))))))))))))) h
   · intro N51 w51
     refine s_so fun N52 k52 w52 => ?_
     refine o_r1 [(45, (.own 7 (List.length x46)))] ?_
     refine o_o (one_lenO (f := cI) (l := x46) (o := 7) (t := 3) (sz := 1)) ?_
     refine o_r1 [(47, (vI 0))] ?_
     refine o_end (k52 _ ?_)
     refine c_block fun E54 hE54 hO54 => ?_
     refine W2 (fun (x75 : Int) (x76 : (List Node)) => ⟨(mkd .any 93 0 [(1, (.ptr 0 0)), (2, (.ptr 3 0)), (4, (.ptr 6 0)), (8, (.fn 102 [(.ptr 6 0)])), (9, (.ptr 14 0)), (45, (.own 7 (List.length x46))), (46, (vI (len x46))), (47, (vI x75))]), [(some (.box 26 [(vL Node.c a1.fNodes), (vL Val.c a1.fRoots)])), (some (.row 57 2 (List.map Node.c []))), (some (.row 59 2 (List.map Val.c []))), (some (.box 26 [(.own 1 0), (.own 2 0)])), none, (some (.map (List.map (fun (p : (Int × Int)) => (Value.int .i64 p.1, Value.int .i64 p.2)) x45))), (some (.box 148 [(.mp 5)])), (some (.row 3 1 (List.map cI x46))), none, none, none, (some (.row 59 2 (List.map Val.c r49))), none, none, (some (.box 26 [(.own 15 (List.length x76)), (.own 11 (List.length r49))])), (some (.row 57 2 (List.map Node.c x76)))]⟩) (f62_l55 x46 a1 n x45 r49 (f62_k51 n a1 x45 r49)) h (wkm [1, 2, 4, 8, 9, 45, 46, 47] (whk (wh_keep (row_below Node.p _ _ _ _) (wh_keep (row_below Val.p _ _ _ _) (whk (wh_none (whk (whk (wh_keep (row_below cK_p _ _ _ _) (wh_drop (wh_none (wh_none (wh_keep (row_below Val.p _ _ _ _) (wh_drop (wh_drop (whk (wh_keep (row_below Node.p _ _ _ _) wh_nil))))))))))))))))) (by intros; rw [f62_l55.eq_1]) ?_
     intro m55 x75 x76 h N55 w55
     rw [f62_l55.eq_2] at h
     refine s_so fun N77 k77 w77 => ?_
     refine o_r1 [(48, (vB (decide (x75 < (len x46)))))] ?_
     refine o_end (k77 _ ?_)
     refine s_seq fun N78 k78 w78 => ?_
     refine i_c [48] h (fun h => ?_) (fun h => ?_)
     · refine c_skip (k78 _ ?_)
       refine s_seq fun N80 k80 w80 => ?_
       refine c_block fun E81 hE81 hO81 => ?_
       refine s_so fun N82 k82 w82 => ?_
       refine bnd h fun x83 g84 h => ?_
       refine o_o (one_iaO (f := cI) (ki := .i64) (t := 3) (o := 7) g84) ?_
       refine bnd h fun x85 g86 h => ?_
       refine o_o (one_ldE (f := cI) (k := 0) (t := 3) (sz := 1) (o := 7) g86) ?_
       refine o_r1 [(11, (vI x85))] ?_
       refine o_end (k82 _ ?_)
       refine c_draw0 ?_
       refine d_r5 [(51, (.ptr 14 0)), (52, (.own 15 (List.length x76))), (53, (.ptr 0 0)), (54, (vL Node.c a1.fNodes)), (55, (vI x85))] ?_
       refine bnd h fun x87 g88 h => ?_
       refine d_o (one_ia (f := Node.c) (ki := .i64) g88) ?_
       refine d_r6 [(57, (.iptr [(vS x87.fClass), (vL Val.c x87.fVals)])), (58, (vS x87.fClass)), (59, (.fn 102 [(.ptr 6 0)])), (60, (.ptr 0 0)), (61, (vL Node.c a1.fNodes)), (62, (vI x85))] ?_
       refine bnd h fun x89 g90 h => ?_
       refine d_o (one_ia (f := Node.c) (ki := .i64) g90) ?_
       refine d_r2 [(64, (.iptr [(vL Val.c x89.fVals)])), (65, (vL Val.c x89.fVals))] ?_
       refine bnd h fun r91 g92 h => ?_
       refine d_xe [(some (.box 26 [(vL Node.c a1.fNodes), (vL Val.c a1.fRoots)])), (some (.row 57 2 (List.map Node.c []))), (some (.row 59 2 (List.map Val.c []))), (some (.box 26 [(.own 1 0), (.own 2 0)])), none, (some (.map (List.map (fun (p : (Int × Int)) => (Value.int .i64 p.1, Value.int .i64 p.2)) x45))), (some (.box 148 [(.mp 5)])), (some (.row 3 1 (List.map cI x46))), none, none, none, (some (.row 59 2 (List.map Val.c r49))), none, none, (some (.box 26 [(.own 15 (List.length x76)), (.own 11 (List.length r49))])), (some (.row 57 2 (List.map Node.c x76))), none, none, (some (.row 59 2 (List.map Val.c r91)))] (one_callH (caps := [(.ptr 6 0)]) (q_f102_b g92)) (ra_cat (ra_cat (ra_cat (ra_cat (ra_cat ra_nil (ra_t (ra_t (ra_t (ra_t (ra_t ra_nil)))))) (ra_o (one_ia (f := Node.c) (ki := .i64) g88) ra_nil)) (ra_t (ra_t (ra_s (ra_s (ra_s (ra_s ra_nil))))))) (ra_s ra_nil)) (ra_s (ra_s ra_nil))) ?_
       refine d_r1 [(67, (.agg [(vS x87.fClass), (.own 18 (List.length r91))]))] ?_
       refine t_tm (mkd .any 93 0 [(1, (.ptr 0 0)), (2, (.ptr 3 0)), (4, (.ptr 6 0)), (8, (.fn 102 [(.ptr 6 0)])), (9, (.ptr 14 0)), (11, (vI x85)), (45, (.own 7 (List.length x46))), (46, (vI (len x46))), (47, (vI x75)), (48, (vB true)), (49, (.eptr 7 (List.length x46) (Int.toNat x75) 0)), (50, (vI x85)), (51, (.ptr 14 0)), (52, (.own 15 (List.length x76))), (53, (.ptr 0 0)), (54, (vL Node.c a1.fNodes)), (55, (vI x85)), (56, (.iptr [(vS x87.fClass), (vL Val.c x87.fVals)])), (57, (.iptr [(vS x87.fClass), (vL Val.c x87.fVals)])), (58, (vS x87.fClass)), (59, (.fn 102 [(.ptr 6 0)])), (60, (.ptr 0 0)), (61, (vL Node.c a1.fNodes)), (62, (vI x85)), (63, (.iptr [(vS x89.fClass), (vL Val.c x89.fVals)])), (64, (.iptr [(vL Val.c x89.fVals)])), (65, (vL Val.c x89.fVals)), (66, (.own 18 (List.length r91))), (67, (.agg [(vS x87.fClass), (.own 18 (List.length r91))]))]) ?_
       refine d_xe [(some (.box 26 [(vL Node.c a1.fNodes), (vL Val.c a1.fRoots)])), (some (.row 57 2 (List.map Node.c []))), (some (.row 59 2 (List.map Val.c []))), (some (.box 26 [(.own 1 0), (.own 2 0)])), none, (some (.map (List.map (fun (p : (Int × Int)) => (Value.int .i64 p.1, Value.int .i64 p.2)) x45))), (some (.box 148 [(.mp 5)])), (some (.row 3 1 (List.map cI x46))), none, none, none, (some (.row 59 2 (List.map Val.c r49))), none, none, (some (.box 26 [(.own 15 (List.length x76)), (.own 11 (List.length r49))])), (some (.row 57 2 (List.map Node.c x76))), none, none, none, (some (.row 57 2 (List.map Node.c [(Node.mk x87.fClass r91)])))] (one_bsl (f := Node.c) (ys := [(vS x87.fClass), (vL Val.c r91)]) [(Node.mk x87.fClass r91)] [[(vS x87.fClass), (.own 18 (List.length r91))]] [18] (rl_v (rl_own (g := Val.c) (l := r91) (t := 59) (sz := 2) Val.p rl_nil))) (ra_cat (ra_cat (ra_cat (ra_cat (ra_cat (ra_cat ra_nil (ra_t (ra_t (ra_s (ra_s (ra_s ra_nil)))))) (ra_s ra_nil)) (ra_s (ra_s (ra_s (ra_s (ra_s (ra_s ra_nil))))))) (ra_s ra_nil)) (ra_s (ra_s ra_nil))) (ra_s ra_nil)) ?_
       refine bnd h fun l94 g95 h => ?_
       refine d_xe [(some (.box 26 [(vL Node.c a1.fNodes), (vL Val.c a1.fRoots)])), (some (.row 57 2 (List.map Node.c []))), (some (.row 59 2 (List.map Val.c []))), (some (.box 26 [(.own 1 0), (.own 2 0)])), none, (some (.map (List.map (fun (p : (Int × Int)) => (Value.int .i64 p.1, Value.int .i64 p.2)) x45))), (some (.box 148 [(.mp 5)])), (some (.row 3 1 (List.map cI x46))), none, none, none, (some (.row 59 2 (List.map Val.c r49))), none, none, (some (.box 26 [(.own 15 (List.length x76)), (.own 11 (List.length r49))])), (some (.row 57 2 (List.map Node.c l94))), none, none, none, (some (.row 57 2 (List.map Node.c [(Node.mk x87.fClass r91)])))] (one_app (f := Node.c) (o := 15) g95 (fun _ => ⟨rfl, rfl⟩) (hy := asL_own (t := 57) (sz := 2) (by kernel_rfl))) (ra_cat (ra_cat (ra_cat (ra_cat (ra_cat (ra_cat ra_nil (ra_s (ra_s (ra_s (ra_s (ra_s ra_nil)))))) (ra_s ra_nil)) (ra_s (ra_s (ra_s (ra_s (ra_s (ra_s ra_nil))))))) (ra_s ra_nil)) (ra_s (ra_s ra_nil))) (ra_s ra_nil)) ?_
       refine d_r1 [(70, (.ptr 14 0))] ?_
       refine d_te (.val undef) [(some (.box 26 [(vL Node.c a1.fNodes), (vL Val.c a1.fRoots)])), (some (.row 57 2 (List.map Node.c []))), (some (.row 59 2 (List.map Val.c []))), (some (.box 26 [(.own 1 0), (.own 2 0)])), none, (some (.map (List.map (fun (p : (Int × Int)) => (Value.int .i64 p.1, Value.int .i64 p.2)) x45))), (some (.box 148 [(.mp 5)])), (some (.row 3 1 (List.map cI x46))), none, none, none, (some (.row 59 2 (List.map Val.c r49))), none, none, (some (.box 26 [(.own 15 (List.length l94)), (.own 11 (List.length r49))])), (some (.row 57 2 (List.map Node.c l94))), none, none, none, (some (.row 57 2 (List.map Node.c [(Node.mk x87.fClass r91)])))] (ra_cat (ra_cat (ra_cat (ra_cat (ra_cat (ra_cat (ra_cat ra_nil (ra_s (ra_s (ra_s (ra_s (ra_s ra_nil)))))) (ra_s ra_nil)) (ra_s (ra_s (ra_s (ra_s (ra_s (ra_s ra_nil))))))) (ra_s ra_nil)) (ra_s (ra_s ra_nil))) (ra_s ra_nil)) (ra_s ra_nil)) ?_
       refine d_end (w80 _ ⟨(mkd .any 93 0 [(1, (.ptr 0 0)), (2, (.ptr 3 0)), (4, (.ptr 6 0)), (8, (.fn 102 [(.ptr 6 0)])), (9, (.ptr 14 0)), (45, (.own 7 (List.length x46))), (46, (vI (len x46))), (47, (vI x75))]), [(some (.box 26 [(vL Node.c a1.fNodes), (vL Val.c a1.fRoots)])), (some (.row 57 2 (List.map Node.c []))), (some (.row 59 2 (List.map Val.c []))), (some (.box 26 [(.own 1 0), (.own 2 0)])), none, (some (.map (List.map (fun (p : (Int × Int)) => (Value.int .i64 p.1, Value.int .i64 p.2)) x45))), (some (.box 148 [(.mp 5)])), (some (.row 3 1 (List.map cI x46))), none, none, none, (some (.row 59 2 (List.map Val.c r49))), none, none, (some (.box 26 [(.own 15 (List.length l94)), (.own 11 (List.length r49))])), (some (.row 57 2 (List.map Node.c l94)))]⟩ (wkm [1, 2, 4, 8, 9, 45, 46, 47] (whk (wh_keep (row_below Node.p _ _ _ _) (wh_keep (row_below Val.p _ _ _ _) (whk (wh_none (whk (whk (wh_keep (row_below cK_p _ _ _ _) (wh_none (wh_none (wh_none (wh_keep (row_below Val.p _ _ _ _) (wh_none (wh_none (whk (wh_keep (row_below Node.p _ _ _ _) wh_nil))))))))))))))))) ?_)
       refine c_ops ?_
       refine o_r2 [(47, (vI (wr .i64 (x75 + 1)))), (71, (vI (wr .i64 (x75 + 1))))] ?_
       exact o_end (w55 _ _ _ (wkm [1, 2, 4, 8, 9, 45, 46, 47] (whk (wh_keep (row_below Node.p _ _ _ _) (wh_keep (row_below Val.p _ _ _ _) (whk (wh_none (whk (whk (wh_keep (row_below cK_p _ _ _ _) (wh_none (wh_none (wh_none (wh_keep (row_below Val.p _ _ _ _) (wh_none (wh_none (whk (wh_keep (row_below Node.p _ _ _ _) wh_nil))))))))))))))))) h)
     · refine c_exit (hE54 _ ?_)
       exact w51 _ _ (wkm [1, 2, 4, 9] (whk (wh_keep (row_below Node.p _ _ _ _) (wh_keep (row_below Val.p _ _ _ _) (whk (wh_none (whk (whk (wh_drop (wh_none (wh_none (wh_none (wh_keep (row_below Val.p _ _ _ _) (wh_none (wh_none (whk (wh_keep (row_below Node.p _ _ _ _) wh_nil))))))))))))))))) h
 · intro N10 w10
   refine s_so fun N11 k11 w11 => ?_
   refine o_r1 [(7, (vI 0))] ?_
   refine o_end (k11 _ ?_)
   refine c_block fun E12 hE12 hO12 => ?_
   refine W3 (fun (x28 : Int) (x29 : (List (Int × Int))) (x30 : (List Int)) => ⟨(mkd .any 93 0 [(1, (.ptr 0 0)), (2, (.ptr 3 0)), (4, (.ptr 6 0)), (5, (.ptr 8 0)), (6, (.fn 100 [(.ptr 6 0), (.ptr 8 0)])), (7, (vI x28))]), [(some (.box 26 [(vL Node.c a1.fNodes), (vL Val.c a1.fRoots)])), (some (.row 57 2 (List.map Node.c []))), (some (.row 59 2 (List.map Val.c []))), (some (.box 26 [(.own 1 0), (.own 2 0)])), none, (some (.map (List.map (fun (p : (Int × Int)) => (Value.int .i64 p.1, Value.int .i64 p.2)) x29))), (some (.box 148 [(.mp 5)])), (some (.row 3 1 (List.map cI x30))), (some (.box 46 [(.own 7 (List.length x30))]))]⟩) (f62_l13 a1 n (f62_k10 n a1)) h (wkm [1, 2, 4, 5, 6, 7] (whk (wh_keep (row_below Node.p _ _ _ _) (wh_keep (row_below Val.p _ _ _ _) (whk (wh_drop (whk (whk (wh_keep (row_below cK_p _ _ _ _) (whk wh_nil)))))))))) (by intros; rw [f62_l13.eq_1]) ?_
   intro m13 x28 x29 x30 h N13 w13
   rw [f62_l13.eq_2] at h
   refine s_seq fun N31 k31 w31 => ?_
   refine c_block fun E32 hE32 hO32 => ?_
   refine s_seq fun N33 k33 w33 => ?_
   refine s_so fun N34 k34 w34 => ?_
   refine o_r2 [(24, (vI x28)), (25, (.own 7 (List.length x30)))] ?_
   refine o_o (one_lenO (f := cI) (l := x30) (o := 7) (t := 3) (sz := 1)) ?_
   refine o_r1 [(27, (vB (x28 == (len x30))))] ?_
   refine o_end (k34 _ ?_)
   refine i_c [27] h (fun h => ?_) (fun h => ?_)
   · refine c_exit (hO32 _ _ (by decide) (hE12 _ ?_))
     exact w10 _ _ _ (wkm [1, 2, 4, 5] (whk (wh_keep (row_below Node.p _ _ _ _) (wh_keep (row_below Val.p _ _ _ _) (whk (wh_none (whk (whk (wh_keep (row_below cK_p _ _ _ _) (whk wh_nil)))))))))) h
   · refine c_skip (k33 _ ?_)
     refine c_draw0 ?_
     refine d_r5 [(28, (.fn 100 [(.ptr 6 0), (.ptr 8 0)])), (29, (.ptr 0 0)), (30, (vL Node.c a1.fNodes)), (31, (.own 7 (List.length x30))), (32, (vI x28))] ?_
     refine bnd h fun x37 g38 h => ?_
     refine d_o (one_iaO (f := cI) (ki := .i64) (t := 3) (o := 7) g38) ?_
     refine bnd h fun x39 g40 h => ?_
     refine d_o (one_ldE (f := cI) (k := 0) (t := 3) (sz := 1) (o := 7) g40) ?_
     refine bnd h fun x41 g42 h => ?_
     refine d_o (one_ia (f := Node.c) (ki := .i64) g42) ?_
     refine d_r2 [(36, (.iptr [(vL Val.c x41.fVals)])), (37, (vL Val.c x41.fVals))] ?_
     refine bnd h fun r43 g44 h => ?_
     refine d_xe [(some (.box 26 [(vL Node.c a1.fNodes), (vL Val.c a1.fRoots)])), (some (.row 57 2 (List.map Node.c []))), (some (.row 59 2 (List.map Val.c []))), (some (.box 26 [(.own 1 0), (.own 2 0)])), none, (some (.map (List.map (fun (p : (Int × Int)) => (Value.int .i64 p.1, Value.int .i64 p.2)) r43.1))), (some (.box 148 [(.mp 5)])), (some (.row 3 1 (List.map cI r43.2))), (some (.box 46 [(.own 7 (List.length r43.2))]))] (one_callH (caps := [(.ptr 6 0), (.ptr 8 0)]) (q_f100_b g44)) (ra_cat (ra_cat (ra_cat (ra_cat (ra_cat ra_nil (ra_s (ra_s (ra_s (ra_s (ra_s ra_nil)))))) (ra_s ra_nil)) (ra_s ra_nil)) (ra_s ra_nil)) (ra_s (ra_s ra_nil))) ?_
     refine d_end (k31 _ ?_)
     refine c_ops ?_
     refine o_r3 [(7, (vI (wr .i64 (x28 + 1)))), (22, (vI x28)), (23, (vI (wr .i64 (x28 + 1))))] ?_
     exact o_end (w13 _ _ _ _ (wkm [1, 2, 4, 5, 6, 7] (whk (wh_keep (row_below Node.p _ _ _ _) (wh_keep (row_below Val.p _ _ _ _) (whk (wh_none (whk (whk (wh_keep (row_below cK_p _ _ _ _) (whk wh_nil)))))))))) h)
end Go.Proofs
end
section
set_option linter.unusedVariables false
set_option maxRecDepth 100000
set_option maxHeartbeats 4000000
namespace Go.Proofs
open Go.Vm
attribute [local irreducible] vOps vDraw vC vK retP retH PureSpec HSpec
theorem ic31 : fnIC Try.prog H0 31 = some ([.tmp 2], 30, (.seq (.ops [zO 2 (.mov (.c (.bool false)))]) (.seq (.seq (.ops [zO 3 (.mov (.c (.int .i64 0)))]) (.block 0 (.loop (.seq (.seq (.ops [zM 4 3, zM 5 0, zO 6 (.len false (.t 5)), zO 7 (.sc (.bin .lss 3) [(.t 4), (.t 6)])]) (.cond (.t 7)
  .skip
  (.exit 0))) (.seq (.block 1 (.seq (.ops [zM 10 0, zM 11 3, zO 12 (.iaddr 3 (.t 10) (.t 11)), zO 13 (.faddr (.t 12) 2), zO 14 (.ld (.t 13) 1 false), zO 15 (.len false (.t 14)), zO 16 (.sc (.bin .gtr 3) [(.t 15), (.c (.int .i64 8))])]) (.cond (.t 16)
  (.seq (.ops [zO 2 (.mov (.c (.bool false)))]) .ret)
  .skip))) (.ops [zM 8 3, zO 9 (.sc (.bin .add 3) [(.t 8), (.c (.int .i64 1))]), zM 3 9])))))) (.seq (.ops [zM 17 0, zO 18 (.len false (.t 17)), zO 19 (.sc (.bin .leq 3) [(.t 18), (.c (.int .i64 8))]), zM 20 19, zN 21 20 false 0, zG 22 20 false (.len false (.t 21)), zG 23 20 false (.sc (.bin .gtr 3) [(.t 22), (.c (.int .i64 24))]), zN 24 20 false 23, zN 25 24 true 0, zG 26 24 true (.len false (.t 25)), zG 27 24 true (.sc (.bin .leq 3) [(.t 26), (.c (.int .i64 30))]), zG 28 20 false (.pick (.t 24) (.t 27) (.c (.bool false))), zO 29 (.pick (.t 20) (.c (.bool true)) (.t 28)), zM 2 29]) .ret)))) := by kernel_rfl
def f31_k32 (x38 : Bool) : Option Bool := some x38
def f31_k3 (a1 : (List Rule)) : Option Bool := (bif (decide ((len a1) ≤ 8)) then (f31_k32 true) else (bif (decide ((len a1) > 24)) then (f31_k32 (decide ((len a1) ≤ 30))) else (f31_k32 false)))
def f31_l6 (a1 : (List Rule)) (k3k : Option Bool) : Nat → Int → Option Bool
  | 0, _ => none
  | m6 + 1, x19 => (bif (decide (x19 < (len a1))) then ((gi a1 x19).bind fun x27 => (bif (decide ((len x27.fGives) > 8)) then some false else (f31_l6 a1 (k3k) m6 (wr .i64 (x19 + 1))))) else (k3k))
def f31 (n : Nat) (a1 : (List Rule)) : Option Bool := (f31_l6 a1 (f31_k3 a1) n 0)
def f31_r (r : Bool) : AV := (vB r)
theorem p_f31 {n : Nat} {a1 : (List Rule)} {r : Bool} (h : f31 n a1 = some r) : PureSpec Try.prog 31 [(vL Rule.c a1)] (f31_r r) := by
 rw [f31.eq_1] at h
 refine pure_of hmix ic31 ?_
 refine go_to (mkd (.val undef) 30 0 [(0, (vL Rule.c a1))]) ?_
 refine s_so fun N2 k2 w2 => ?_
 refine o_r1 [(2, (vB false))] ?_
 refine o_end (k2 _ ?_)
 refine J0 (r := r) ⟨(mkd .any 30 0 [(0, (vL Rule.c a1))]), []⟩ (f31_k3 a1) ?_ ?_
 · intro h
   rw [f31_k3.eq_1] at h
   refine J1 (r := r) (fun (x38 : Bool) => ⟨(mkd .any 30 0 [(2, (vB x38))]), []⟩) (f31_k32) ?_ ?_
   · intro x38 h
     rw [f31_k32.eq_1] at h
     exact c_ret (rets [] [(vB x38)] [(vB x38)] h)
   · intro N32 w32
     refine c_ops ?_
     refine o_r1 [(17, (vL Rule.c a1))] ?_
     refine o_o (one_len (f := Rule.c) (l := a1)) ?_
     refine o_r2 [(19, (vB (decide ((len a1) ≤ 8)))), (20, (vB (decide ((len a1) ≤ 8))))] ?_
     refine i_o [19, 20] h (fun h => ?_) (fun h => ?_)
     · refine o_r10 [(2, (vB true)), (21, (.val undef)), (22, (.val undef)), (23, (.val undef)), (24, (.val undef)), (25, (.val undef)), (26, (.val undef)), (27, (.val undef)), (28, (.val undef)), (29, (vB true))] ?_
       exact o_end (w32 _ _ (wkm [2] wh_nil) h)
     · refine o_r1 [(21, (vL Rule.c a1))] ?_
       refine o_g ?_
       refine o_o (one_len (f := Rule.c) (l := a1)) ?_
       refine o_r2 [(23, (vB (decide ((len a1) > 24)))), (24, (vB (decide ((len a1) > 24))))] ?_
       refine i_o [23, 24] h (fun h => ?_) (fun h => ?_)
       · refine o_r1 [(25, (vL Rule.c a1))] ?_
         refine o_g ?_
         refine o_o (one_len (f := Rule.c) (l := a1)) ?_
         refine o_r4 [(2, (vB (decide ((len a1) ≤ 30)))), (27, (vB (decide ((len a1) ≤ 30)))), (28, (vB (decide ((len a1) ≤ 30)))), (29, (vB (decide ((len a1) ≤ 30))))] ?_
         exact o_end (w32 _ _ (wkm [2] wh_nil) h)
       · refine o_r6 [(2, (vB false)), (25, (.val undef)), (26, (.val undef)), (27, (.val undef)), (28, (vB false)), (29, (vB false))] ?_
         exact o_end (w32 _ _ (wkm [2] wh_nil) h)
 · intro N3 w3
   refine s_so fun N4 k4 w4 => ?_
   refine o_r1 [(3, (vI 0))] ?_
   refine o_end (k4 _ ?_)
   refine c_block fun E5 hE5 hO5 => ?_
   refine W1 (fun (x19 : Int) => ⟨(mkd .any 30 0 [(0, (vL Rule.c a1)), (3, (vI x19))]), []⟩) (f31_l6 a1 (f31_k3 a1)) h (wkm [0, 3] wh_nil) (by intros; rw [f31_l6.eq_1]) ?_
   intro m6 x19 h N6 w6
   rw [f31_l6.eq_2] at h
   refine s_seq fun N20 k20 w20 => ?_
   refine s_so fun N21 k21 w21 => ?_
   refine o_r2 [(4, (vI x19)), (5, (vL Rule.c a1))] ?_
   refine o_o (one_len (f := Rule.c) (l := a1)) ?_
   refine o_r1 [(7, (vB (decide (x19 < (len a1)))))] ?_
   refine o_end (k21 _ ?_)
   refine i_c [7] h (fun h => ?_) (fun h => ?_)
   · refine c_skip (k20 _ ?_)
     refine s_seq fun N24 k24 w24 => ?_
     refine c_block fun E25 hE25 hO25 => ?_
     refine s_so fun N26 k26 w26 => ?_
     refine o_r2 [(10, (vL Rule.c a1)), (11, (vI x19))] ?_
     refine bnd h fun x27 g28 h => ?_
     refine o_o (one_ia (f := Rule.c) (ki := .i64) g28) ?_
     refine o_r2 [(13, (.iptr [(vL Give.c x27.fGives)])), (14, (vL Give.c x27.fGives))] ?_
     refine o_o (one_len (f := Give.c) (l := x27.fGives)) ?_
     refine o_r1 [(16, (vB (decide ((len x27.fGives) > 8))))] ?_
     refine o_end (k26 _ ?_)
     refine i_c [16] h (fun h => ?_) (fun h => ?_)
     · refine s_so fun N31 k31 w31 => ?_
       refine o_r1 [(2, (vB false))] ?_
       refine o_end (k31 _ ?_)
       exact c_ret (rets [] [(vB false)] [(vB false)] h)
     · refine c_skip (k24 _ ?_)
       refine c_ops ?_
       refine o_r3 [(3, (vI (wr .i64 (x19 + 1)))), (8, (vI x19)), (9, (vI (wr .i64 (x19 + 1))))] ?_
       exact o_end (w6 _ _ (wkm [0, 3] wh_nil) h)
   · refine c_exit (hE5 _ ?_)
     exact w3 _ (wkm [0] wh_nil) h
theorem ic115 : fnIC Try.prog H0 115 = some ([.tmp 2], 5, (.seq (.ops [zO 1 (.box 0 100 [(2, 97, 3, 0)] (.t 0)), zO 2 (.mov (.c (.string ⟨#[]⟩)))]) (.seq (.ops [zO 3 (.faddr (.t 1) 0), zO 4 (.ld (.t 3) 1 false), zM 2 4]) .ret))) := by kernel_rfl
def f115 (n : Nat) (a1 : Rule) : Option ByteArray := some a1.fClass
def f115_r (r : ByteArray) : AV := (vS r)
theorem p_f115 {n : Nat} {a1 : Rule} {r : ByteArray} (h : f115 n a1 = some r) : PureSpec Try.prog 115 [(.agg [(vS a1.fClass), (vS a1.fTo), (vL Give.c a1.fGives)])] (f115_r r) := by
 rw [f115.eq_1] at h
 refine pure_of hmix ic115 ?_
 refine go_to (mkd (.val undef) 5 0 [(0, (.agg [(vS a1.fClass), (vS a1.fTo), (vL Give.c a1.fGives)]))]) ?_
 refine s_so fun N2 k2 w2 => ?_
 refine o_h2 [(1, (.ptr 0 0)), (2, (vS (ByteArray.mk #[])))] [(some (.box 100 [(vS a1.fClass), (vS a1.fTo), (vL Give.c a1.fGives)]))] ?_
 refine o_end (k2 _ ?_)
 refine s_so fun N3 k3 w3 => ?_
 refine o_r3 [(2, (vS a1.fClass)), (3, (.ptr 0 0)), (4, (vS a1.fClass))] ?_
 refine o_end (k3 _ ?_)
 exact c_ret (rets [] [(vS a1.fClass)] [(vS a1.fClass)] h)
theorem ic118 : fnIC Try.prog H0 118 = some ([.tmp 4], 10, (.seq (.ops [zO 3 (.box 0 100 [(2, 97, 3, 0)] (.t 0)), zO 4 (.mov (.c (.bool false)))]) (.seq (.draw [] [zQ (zO 5 (.ld (.t 1) 1 false)), zQ (zO 6 (.ld (.t 3) 3 true)), zQ (zO 7 (.callv (.t 5) [(.t 6)])), zQ (zO 8 (.ld (.t 2) 1 false)), zQ (zO 9 (.sc (.bin .eql 9) [(.t 7), (.t 8)])), zQ (zM 4 9)]) .ret))) := by kernel_rfl
def f118 (n : Nat) (a1 : Rule) (a2 : ByteArray) : Option Bool := ((f115 n a1).bind fun r5 => some (sEqF r5 a2))
def f118_r (r : Bool) : AV := (vB r)
theorem p_f118 {n : Nat} {a1 : Rule} {a2 : ByteArray} {r : Bool} (h : f118 n a1 a2 = some r) : PureSpec Try.prog 118 [(.agg [(vS a1.fClass), (vS a1.fTo), (vL Give.c a1.fGives)]), (.iptr [(.fn 115 [])]), (.iptr [(vS a2)])] (f118_r r) := by
 rw [f118.eq_1] at h
 refine pure_of hmix ic118 ?_
 refine go_to (mkd (.val undef) 10 0 [(0, (.agg [(vS a1.fClass), (vS a1.fTo), (vL Give.c a1.fGives)])), (1, (.iptr [(.fn 115 [])])), (2, (.iptr [(vS a2)]))]) ?_
 refine s_so fun N3 k3 w3 => ?_
 refine o_h2 [(3, (.ptr 0 0)), (4, (vB false))] [(some (.box 100 [(vS a1.fClass), (vS a1.fTo), (vL Give.c a1.fGives)]))] ?_
 refine o_end (k3 _ ?_)
 refine s_seq fun N4 k4 w4 => ?_
 refine c_draw0 ?_
 refine d_r2 [(5, (.fn 115 [])), (6, (.agg [(vS a1.fClass), (vS a1.fTo), (vL Give.c a1.fGives)]))] ?_
 refine bnd h fun r5 g6 h => ?_
 refine d_o (one_callv (caps := []) (p_f115 g6)) ?_
 refine d_r1 [(8, (vS a2))] ?_
 refine d_o (one_sc (vs := [.string r5, .string a2]) (str_eql r5 a2)) ?_
 refine d_r1 [(4, (vB (sEqF r5 a2)))] ?_
 refine d_end (k4 _ ?_)
 exact c_ret (rets [] [(vB (sEqF r5 a2))] [(vB (sEqF r5 a2))] h)
theorem ic117 : fnIC Try.prog H0 117 = some ([.tmp 4], 19, (.seq (.ops [zO 4 (.mov (.c (.int .i64 0)))]) (.seq (.seq (.ops [zM 6 0, zO 7 (.len false (.t 6)), zO 8 (.mov (.c (.int .i64 0)))]) (.block 0 (.loop (.seq (.ops [zO 9 (.sc (.bin .lss 3) [(.t 8), (.t 7)])]) (.seq (.cond (.t 9)
  .skip
  (.exit 0)) (.seq (.block 1 (.seq (.ops [zM 10 8, zM 5 10]) (.seq (.ops [zM 11 1, zM 12 0, zM 13 5, zO 14 (.iaddr 3 (.t 12) (.t 13)), zO 15 (.ld (.t 14) 3 true), zO 16 (.callv (.t 11) [(.t 15)])]) (.cond (.t 16)
  (.seq (.ops [zM 17 5, zM 4 17]) .ret)
  .skip)))) (.ops [zO 18 (.sc (.bin .add 3) [(.t 8), (.c (.int .i64 1))]), zM 8 18]))))))) (.seq (.ops [zO 4 (.mov (.c (.int .i64 (-1))))]) .ret)))) := by kernel_rfl
def f117_k4 : Option Int := some (-1)
def f117_l8 (a1 : (List Rule)) (n : Nat) (a2 : ByteArray) (k4k : Option Int) : Nat → Int → Option Int
  | 0, _ => none
  | m8 + 1, x22 => (bif (decide (x22 < (len a1))) then ((gi a1 x22).bind fun x30 => ((f118 n x30 a2).bind fun r32 => (bif r32 then some x22 else (f117_l8 a1 n a2 (k4k) m8 (wr .i64 (x22 + 1)))))) else (k4k))
def f117 (n : Nat) (a1 : (List Rule)) (a2 : ByteArray) : Option Int := (f117_l8 a1 n a2 (f117_k4) n 0)
def f117_r (r : Int) : AV := (vI r)
theorem p_f117 {n : Nat} {a1 : (List Rule)} {a2 : ByteArray} {r : Int} (h : f117 n a1 a2 = some r) : PureSpec Try.prog 117 [(vL Rule.c a1), (.fn 118 [(.iptr [(.fn 115 [])]), (.iptr [(vS a2)])])] (f117_r r) := by
 rw [f117.eq_1] at h
 refine pure_of hmix ic117 ?_
 refine go_to (mkd (.val undef) 19 0 [(0, (vL Rule.c a1)), (1, (.fn 118 [(.iptr [(.fn 115 [])]), (.iptr [(vS a2)])]))]) ?_
 refine s_so fun N3 k3 w3 => ?_
 refine o_r1 [(4, (vI 0))] ?_
 refine o_end (k3 _ ?_)
 refine J0 (r := r) ⟨(mkd .any 19 0 []), []⟩ (f117_k4) ?_ ?_
 · intro h
   rw [f117_k4.eq_1] at h
   refine s_so fun N36 k36 w36 => ?_
   refine o_r1 [(4, (vI (-1)))] ?_
   refine o_end (k36 _ ?_)
   exact c_ret (rets [] [(vI (-1))] [(vI (-1))] h)
 · intro N4 w4
   refine s_so fun N5 k5 w5 => ?_
   refine o_r1 [(6, (vL Rule.c a1))] ?_
   refine o_o (one_len (f := Rule.c) (l := a1)) ?_
   refine o_r1 [(8, (vI 0))] ?_
   refine o_end (k5 _ ?_)
   refine c_block fun E7 hE7 hO7 => ?_
   refine W1 (fun (x22 : Int) => ⟨(mkd .any 19 0 [(0, (vL Rule.c a1)), (1, (.fn 118 [(.iptr [(.fn 115 [])]), (.iptr [(vS a2)])])), (7, (vI (len a1))), (8, (vI x22))]), []⟩) (f117_l8 a1 n a2 (f117_k4)) h (wkm [0, 1, 7, 8] wh_nil) (by intros; rw [f117_l8.eq_1]) ?_
   intro m8 x22 h N8 w8
   rw [f117_l8.eq_2] at h
   refine s_so fun N23 k23 w23 => ?_
   refine o_r1 [(9, (vB (decide (x22 < (len a1)))))] ?_
   refine o_end (k23 _ ?_)
   refine s_seq fun N24 k24 w24 => ?_
   refine i_c [9] h (fun h => ?_) (fun h => ?_)
   · refine c_skip (k24 _ ?_)
     refine s_seq fun N26 k26 w26 => ?_
     refine c_block fun E27 hE27 hO27 => ?_
     refine s_so fun N28 k28 w28 => ?_
     refine o_r2 [(5, (vI x22)), (10, (vI x22))] ?_
     refine o_end (k28 _ ?_)
     refine s_so fun N29 k29 w29 => ?_
     refine o_r3 [(11, (.fn 118 [(.iptr [(.fn 115 [])]), (.iptr [(vS a2)])])), (12, (vL Rule.c a1)), (13, (vI x22))] ?_
     refine bnd h fun x30 g31 h => ?_
     refine o_o (one_ia (f := Rule.c) (ki := .i64) g31) ?_
     refine o_r1 [(15, (.agg [(vS x30.fClass), (vS x30.fTo), (vL Give.c x30.fGives)]))] ?_
     refine bnd h fun r32 g33 h => ?_
     refine o_o (one_callv (caps := [(.iptr [(.fn 115 [])]), (.iptr [(vS a2)])]) (p_f118 g33)) ?_
     refine o_end (k29 _ ?_)
     refine i_c [16] h (fun h => ?_) (fun h => ?_)
     · refine s_so fun N35 k35 w35 => ?_
       refine o_r2 [(4, (vI x22)), (17, (vI x22))] ?_
       refine o_end (k35 _ ?_)
       exact c_ret (rets [] [(vI x22)] [(vI x22)] h)
     · refine c_skip (k26 _ ?_)
       refine c_ops ?_
       refine o_r2 [(8, (vI (wr .i64 (x22 + 1)))), (18, (vI (wr .i64 (x22 + 1))))] ?_
       exact o_end (w8 _ _ (wkm [0, 1, 7, 8] wh_nil) h)
   · refine c_exit (hE7 _ ?_)
     exact w4 _ (wkm [] wh_nil) h
theorem ic81 : fnIC Try.prog H0 81 = some ([.tmp 6], 10, (.seq (.ops [zO 4 (.box 0 9 [] (.t 1)), zO 5 (.box 0 128 [] (.t 2)), zO 6 (.mov (.c (.int .i64 0)))]) (.seq (.ops [zM 7 0, zO 8 (.mkf 118 [(.t 5), (.t 4)]), zO 9 (.call 117 [(.t 7), (.t 8)]), zM 6 9]) .ret))) := by kernel_rfl
def f81 (n : Nat) (a1 : (List Rule)) (a2 : ByteArray) : Option Int := ((f117 n a1 a2).bind fun r5 => some r5)
def f81_r (r : Int) : AV := (vI r)
theorem p_f81 {n : Nat} {a1 : (List Rule)} {a2 : ByteArray} {r : Int} (h : f81 n a1 a2 = some r) : PureSpec Try.prog 81 [(vL Rule.c a1), (vS a2), (.fn 115 [])] (f81_r r) := by
 rw [f81.eq_1] at h
 refine pure_of hmix ic81 ?_
 refine go_to (mkd (.val undef) 10 0 [(0, (vL Rule.c a1)), (1, (vS a2)), (2, (.fn 115 []))]) ?_
 refine s_so fun N3 k3 w3 => ?_
 refine o_h3 [(4, (.ptr 0 0)), (5, (.ptr 1 0)), (6, (vI 0))] [(some (.box 9 [(vS a2)])), (some (.box 128 [(.fn 115 [])]))] ?_
 refine o_end (k3 _ ?_)
 refine s_so fun N4 k4 w4 => ?_
 refine o_r2 [(7, (vL Rule.c a1)), (8, (.fn 118 [(.ptr 1 0), (.ptr 0 0)]))] ?_
 refine bnd h fun r5 g6 h => ?_
 refine o_o (one_callT [1, 0] (p_f117 g6) (ns_v _)) ?_
 refine o_r1 [(6, (vI r5))] ?_
 refine o_end (k4 _ ?_)
 exact c_ret (rets [] [(vI r5)] [(vI r5)] h)
theorem ic78 : fnIC Try.prog H0 78 = some ([.cell 4 100, .tmp 5], 17, (.seq (.ops [zO 4 (.alloc 0 100 [(2, 97, 3, 0)] [(.string ⟨#[]⟩), (.string ⟨#[]⟩), (.slice none 0 0)]), zO 5 (.mov (.c (.bool false)))]) (.seq (.ops [zM 7 0, zM 8 1, zO 9 (.call 81 [(.t 7), (.t 8), (.f 115)]), zM 6 9]) (.seq (.seq (.ops [zM 10 6, zO 11 (.sc (.bin .lss 3) [(.t 10), (.c (.int .i64 0))])]) (.cond (.t 11)
  (.seq (.ops [zO 12 (.bld [(.string ⟨#[]⟩), (.string ⟨#[]⟩), (.slice none 0 0)] []), zU (.st true 3 [(2, 97, 3, 0)] (.t 4) (.t 12)), zO 5 (.mov (.c (.bool false)))]) .ret)
  .skip)) (.seq (.ops [zM 13 0, zM 14 6, zO 15 (.iaddr 3 (.t 13) (.t 14)), zO 16 (.ld (.t 15) 3 true), zU (.st true 3 [(2, 97, 3, 0)] (.t 4) (.t 16)), zO 5 (.mov (.c (.bool true)))]) .ret))))) := by kernel_rfl
def f78 (n : Nat) (a1 : (List Rule)) (a2 : ByteArray) : Option (Rule × Bool) := ((f81 n a1 a2).bind fun r5 => (bif (decide (r5 < 0)) then some ((Rule.mk (ByteArray.mk #[]) (ByteArray.mk #[]) []), false) else ((gi a1 r5).bind fun x12 => some (x12, true))))
def f78_r (r : (Rule × Bool)) : AV := (.tup [(.agg [(vS r.1.fClass), (vS r.1.fTo), (vL Give.c r.1.fGives)]), (vB r.2)])
theorem p_f78 {n : Nat} {a1 : (List Rule)} {a2 : ByteArray} {r : (Rule × Bool)} (h : f78 n a1 a2 = some r) : PureSpec Try.prog 78 [(vL Rule.c a1), (vS a2)] (f78_r r) := by
 rw [f78.eq_1] at h
 refine pure_of hmix ic78 ?_
 refine go_to (mkd (.val undef) 17 0 [(0, (vL Rule.c a1)), (1, (vS a2))]) ?_
 refine s_so fun N3 k3 w3 => ?_
 refine o_h2 [(4, (.ptr 1 0)), (5, (vB false))] [(some (.row 97 3 (List.map Give.c []))), (some (.box 100 [(vS (ByteArray.mk #[])), (vS (ByteArray.mk #[])), (.own 0 0)]))] ?_
 refine o_end (k3 _ ?_)
 refine s_so fun N4 k4 w4 => ?_
 refine o_r2 [(7, (vL Rule.c a1)), (8, (vS a2))] ?_
 refine bnd h fun r5 g6 h => ?_
 refine o_o (one_call (p_f81 g6)) ?_
 refine o_r1 [(6, (vI r5))] ?_
 refine o_end (k4 _ ?_)
 refine s_seq fun N7 k7 w7 => ?_
 refine s_so fun N8 k8 w8 => ?_
 refine o_r2 [(10, (vI r5)), (11, (vB (decide (r5 < 0))))] ?_
 refine o_end (k8 _ ?_)
 refine i_c [11] h (fun h => ?_) (fun h => ?_)
 · refine s_so fun N10 k10 w10 => ?_
   refine o_h3 [(12, (.agg [(vS (ByteArray.mk #[])), (vS (ByteArray.mk #[])), (.val (.slice none 0 0))]))] [(some (.row 97 3 (List.map Give.c []))), (some (.box 100 [(vS (ByteArray.mk #[])), (vS (ByteArray.mk #[])), (.own 2 0)])), (some (.row 97 3 (List.map Give.c [])))] ?_
   refine o_end (k10 _ ?_)
   exact c_ret (retsF [2] [(.agg [(vS (ByteArray.mk #[])), (vS (ByteArray.mk #[])), (.own 2 0)]), (vB false)] [(.agg [(vS (ByteArray.mk #[])), (vS (ByteArray.mk #[])), (vL Give.c [])]), (vB false)] ⟨(fz_agg ⟨fz_v, fz_v, (fz_own (g := Give.c) (l := []) (t := 97) (sz := 3) Give.p), trivial⟩), fz_v, trivial⟩ h)
 · refine c_skip (k7 _ ?_)
   refine s_so fun N11 k11 w11 => ?_
   refine o_r2 [(13, (vL Rule.c a1)), (14, (vI r5))] ?_
   refine bnd h fun x12 g13 h => ?_
   refine o_o (one_ia (f := Rule.c) (ki := .i64) g13) ?_
   refine o_h3 [(5, (vB true)), (16, (.agg [(vS x12.fClass), (vS x12.fTo), (vL Give.c x12.fGives)]))] [(some (.row 97 3 (List.map Give.c []))), (some (.box 100 [(vS x12.fClass), (vS x12.fTo), (vL Give.c x12.fGives)]))] ?_
   refine o_end (k11 _ ?_)
   exact c_ret (rets [] [(.agg [(vS x12.fClass), (vS x12.fTo), (vL Give.c x12.fGives)]), (vB true)] [(.agg [(vS x12.fClass), (vS x12.fTo), (vL Give.c x12.fGives)]), (vB true)] h)
theorem ic142 : fnIC Try.prog H0 142 = some ([.tmp 6], 24, (.seq (.ops [zO 6 (.mov (.c (.bool false)))]) (.seq (.seq (.ops [zM 9 2, zO 10 (.sc (.bin .eql 9) [(.t 9), (.c (.string ⟨#[65, 78, 89]⟩))])]) (.cond (.t 10)
  (.seq (.ops [zO 6 (.mov (.c (.bool true)))]) .ret)
  .skip)) (.seq (.ops [zM 12 0, zM 13 1, zO 14 (.call 78 [(.t 12), (.t 13)]), zM 11 14, zO 15 (.ext (.t 11) 0), zO 16 (.ext (.t 11) 1), zO 7 (.alloc 0 100 [(2, 97, 3, 0)] [(.string ⟨#[]⟩), (.string ⟨#[]⟩), (.slice none 0 0)]), zU (.st true 3 [(2, 97, 3, 0)] (.t 7) (.t 15)), zM 8 16]) (.seq (.ops [zM 17 8, zM 18 17, zG 19 18 true (.faddr (.t 7) 1), zG 20 18 true (.ld (.t 19) 1 false), zN 21 18 true 2, zG 22 18 true (.sc (.bin .eql 9) [(.t 20), (.t 21)]), zO 23 (.pick (.t 18) (.t 22) (.c (.bool false))), zM 6 23]) .ret))))) := by kernel_rfl
def f142_k13 (x16 : Bool) : Option Bool := some x16
def f142 (n : Nat) (a1 : (List Rule)) (a2 : ByteArray) (a3 : ByteArray) : Option Bool := (bif (sEqF a3 (ByteArray.mk #[65, 78, 89])) then some true else ((f78 n a1 a2).bind fun r11 => (bif r11.2 then (f142_k13 (sEqF r11.1.fTo a3)) else (f142_k13 false))))
def f142_r (r : Bool) : AV := (vB r)
theorem p_f142 {n : Nat} {a1 : (List Rule)} {a2 : ByteArray} {a3 : ByteArray} {r : Bool} (h : f142 n a1 a2 a3 = some r) : PureSpec Try.prog 142 [(vL Rule.c a1), (vS a2), (vS a3)] (f142_r r) := by
 rw [f142.eq_1] at h
 refine pure_of hmix ic142 ?_
 refine go_to (mkd (.val undef) 24 0 [(0, (vL Rule.c a1)), (1, (vS a2)), (2, (vS a3))]) ?_
 refine s_so fun N4 k4 w4 => ?_
 refine o_r1 [(6, (vB false))] ?_
 refine o_end (k4 _ ?_)
 refine s_seq fun N5 k5 w5 => ?_
 refine s_so fun N6 k6 w6 => ?_
 refine o_r1 [(9, (vS a3))] ?_
 refine o_o (one_sc (vs := [.string a3, .string (ByteArray.mk #[65, 78, 89])]) (str_eql a3 (ByteArray.mk #[65, 78, 89]))) ?_
 refine o_end (k6 _ ?_)
 refine i_c [10] h (fun h => ?_) (fun h => ?_)
 · refine s_so fun N9 k9 w9 => ?_
   refine o_r1 [(6, (vB true))] ?_
   refine o_end (k9 _ ?_)
   exact c_ret (rets [] [(vB true)] [(vB true)] h)
 · refine c_skip (k5 _ ?_)
   refine s_so fun N10 k10 w10 => ?_
   refine o_r2 [(12, (vL Rule.c a1)), (13, (vS a2))] ?_
   refine bnd h fun r11 g12 h => ?_
   refine o_o (one_call (p_f78 g12)) ?_
   refine o_h6 [(7, (.ptr 1 0)), (8, (vB r11.2)), (11, (.tup [(.agg [(vS r11.1.fClass), (vS r11.1.fTo), (vL Give.c r11.1.fGives)]), (vB r11.2)])), (15, (.agg [(vS r11.1.fClass), (vS r11.1.fTo), (vL Give.c r11.1.fGives)])), (16, (vB r11.2))] [(some (.row 97 3 (List.map Give.c []))), (some (.box 100 [(vS r11.1.fClass), (vS r11.1.fTo), (vL Give.c r11.1.fGives)]))] ?_
   refine o_end (k10 _ ?_)
   refine J1 (r := r) (fun (x16 : Bool) => ⟨(mkd .any 24 0 [(6, (vB x16))]), []⟩) (f142_k13) ?_ ?_
   · intro x16 h
     rw [f142_k13.eq_1] at h
     exact c_ret (rets [] [(vB x16)] [(vB x16)] h)
   · intro N13 w13
     refine c_ops ?_
     refine o_r2 [(17, (vB r11.2)), (18, (vB r11.2))] ?_
     refine i_o [8, 16, 17, 18] h (fun h => ?_) (fun h => ?_)
     · refine o_r3 [(19, (.ptr 1 1)), (20, (vS r11.1.fTo)), (21, (vS a3))] ?_
       refine o_g ?_
       refine o_o (one_sc (vs := [.string r11.1.fTo, .string a3]) (str_eql r11.1.fTo a3)) ?_
       refine o_r2 [(6, (vB (sEqF r11.1.fTo a3))), (23, (vB (sEqF r11.1.fTo a3)))] ?_
       refine s_tm (mkd (.val undef) 24 0 [(0, (vL Rule.c a1)), (1, (vS a2)), (2, (vS a3)), (6, (vB (sEqF r11.1.fTo a3))), (7, (.ptr 1 0)), (8, (vB true)), (9, (vS a3)), (10, (vB false)), (11, (.tup [(.agg [(vS r11.1.fClass), (vS r11.1.fTo), (vL Give.c r11.1.fGives)]), (vB r11.2)])), (12, (vL Rule.c a1)), (13, (vS a2)), (14, (.tup [(.agg [(vS r11.1.fClass), (vS r11.1.fTo), (vL Give.c r11.1.fGives)]), (vB r11.2)])), (15, (.agg [(vS r11.1.fClass), (vS r11.1.fTo), (vL Give.c r11.1.fGives)])), (16, (vB true)), (17, (vB true)), (18, (vB true)), (19, (.ptr 1 1)), (20, (vS r11.1.fTo)), (21, (vS a3)), (22, (vB (sEqF r11.1.fTo a3))), (23, (vB (sEqF r11.1.fTo a3)))]) ?_
       exact o_end (w13 _ _ (wkm [6] wh_nil) h)
     · refine o_r6 [(19, (.val undef)), (20, (.val undef)), (21, (.val undef)), (22, (.val undef)), (23, (vB false))] ?_
       exact o_end (w13 _ _ (wkm [6] wh_nil) h)
theorem ic141 : fnIC Try.prog H0 141 = some ([.tmp 8], 97, (.seq (.ops [zO 5 (.box 0 97 [] (.t 1)), zO 6 (.box 0 93 [] (.t 2)), zO 7 (.box 0 93 [] (.t 3)), zO 8 (.mov (.c (.bool false)))]) (.seq (.seq (.ops [zO 9 (.faddr (.t 5) 1), zO 10 (.ld (.t 9) 1 false)]) (.block 0 (.seq (.ops [zO 12 (.sc (.bin .eql 3) [(.t 10), (.c (.int .i64 1))]), zM 11 12]) (.cond (.t 11)
  (.seq (.ops [zO 13 (.faddr (.t 6) 1), zO 14 (.ld (.t 13) 1 false), zO 15 (.faddr (.t 7) 1), zO 16 (.ld (.t 15) 1 false), zO 17 (.sc (.bin .eql 3) [(.t 14), (.t 16)]), zM 18 17, zG 19 18 true (.faddr (.t 6) 1), zG 20 18 true (.ld (.t 19) 1 false), zG 21 18 true (.sc (.bin .neq 3) [(.t 20), (.c (.int .i64 3))]), zN 22 18 true 21, zN 23 22 false 0, zG 24 22 false (.faddr (.t 6) 2), zG 25 22 false (.ld (.t 24) 1 false), zG 26 22 false (.faddr (.t 7) 2), zG 27 22 false (.ld (.t 26) 1 false), zG 28 22 false (.call 142 [(.t 23), (.t 25), (.t 27)]), zG 29 18 true (.pick (.t 22) (.c (.bool true)) (.t 28)), zO 30 (.pick (.t 18) (.t 29) (.c (.bool false))), zM 8 30]) .ret)
  (.seq (.ops [zO 32 (.sc (.bin .eql 3) [(.t 10), (.c (.int .i64 2))]), zM 31 32]) (.cond (.t 31)
  (.seq (.ops [zO 33 (.faddr (.t 6) 1), zO 34 (.ld (.t 33) 1 false), zO 35 (.sc (.bin .eql 3) [(.t 34), (.c (.int .i64 2))]), zM 36 35, zG 37 36 true (.faddr (.t 7) 1), zG 38 36 true (.ld (.t 37) 1 false), zG 39 36 true (.sc (.bin .eql 3) [(.t 38), (.c (.int .i64 1))]), zO 40 (.pick (.t 36) (.t 39) (.c (.bool false))), zM 8 40]) .ret)
  (.seq (.ops [zO 42 (.sc (.bin .eql 3) [(.t 10), (.c (.int .i64 3))]), zM 41 42]) (.cond (.t 41)
  (.seq (.ops [zO 43 (.faddr (.t 6) 1), zO 44 (.ld (.t 43) 1 false), zO 45 (.sc (.bin .eql 3) [(.t 44), (.c (.int .i64 1))]), zM 46 45, zG 47 46 true (.faddr (.t 7) 1), zG 48 46 true (.ld (.t 47) 1 false), zG 49 46 true (.sc (.bin .eql 3) [(.t 48), (.c (.int .i64 2))]), zO 50 (.pick (.t 46) (.t 49) (.c (.bool false))), zM 8 50]) .ret)
  (.seq (.ops [zO 52 (.sc (.bin .eql 3) [(.t 10), (.c (.int .i64 4))]), zM 51 52]) (.cond (.t 51)
  (.seq (.ops [zO 53 (.faddr (.t 6) 1), zO 54 (.ld (.t 53) 1 false), zO 55 (.sc (.bin .eql 3) [(.t 54), (.c (.int .i64 1))]), zM 56 55, zG 57 56 true (.faddr (.t 7) 1), zG 58 56 true (.ld (.t 57) 1 false), zG 59 56 true (.sc (.bin .eql 3) [(.t 58), (.c (.int .i64 1))]), zO 60 (.pick (.t 56) (.t 59) (.c (.bool false))), zM 8 60]) .ret)
  (.seq (.ops [zO 62 (.sc (.bin .eql 3) [(.t 10), (.c (.int .i64 5))]), zM 61 62]) (.cond (.t 61)
  (.seq (.ops [zO 63 (.faddr (.t 6) 1), zO 64 (.ld (.t 63) 1 false), zO 65 (.sc (.bin .eql 3) [(.t 64), (.c (.int .i64 3))]), zM 66 65, zG 67 66 true (.faddr (.t 7) 1), zG 68 66 true (.ld (.t 67) 1 false), zG 69 66 true (.sc (.bin .eql 3) [(.t 68), (.c (.int .i64 3))]), zO 70 (.pick (.t 66) (.t 69) (.c (.bool false))), zM 71 70, zN 72 71 true 0, zG 73 71 true (.faddr (.t 6) 2), zG 74 71 true (.ld (.t 73) 1 false), zG 75 71 true (.faddr (.t 7) 2), zG 76 71 true (.ld (.t 75) 1 false), zG 77 71 true (.call 142 [(.t 72), (.t 74), (.t 76)]), zO 78 (.pick (.t 71) (.t 77) (.c (.bool false))), zM 8 78]) .ret)
  (.seq (.ops [zO 80 (.sc (.bin .eql 3) [(.t 10), (.c (.int .i64 6))]), zM 79 80]) (.cond (.t 79)
  (.seq (.ops [zO 81 (.faddr (.t 7) 1), zO 82 (.ld (.t 81) 1 false), zO 83 (.sc (.bin .eql 3) [(.t 82), (.c (.int .i64 1))]), zM 84 83, zG 85 84 false (.faddr (.t 7) 1), zG 86 84 false (.ld (.t 85) 1 false), zG 87 84 false (.sc (.bin .eql 3) [(.t 86), (.c (.int .i64 2))]), zN 88 84 false 87, zG 89 88 true (.faddr (.t 5) 2), zG 90 88 true (.ld (.t 89) 1 false), zG 91 88 true (.call 86 [(.t 90), (.c (.int .i64 0)), (.c (.int .i64 1))]), zG 92 84 false (.pick (.t 88) (.t 91) (.c (.bool false))), zO 93 (.pick (.t 84) (.c (.bool true)) (.t 92)), zM 8 93]) .ret)
  .skip)))))))))))))) (.seq (.ops [zO 94 (.faddr (.t 7) 1), zO 95 (.ld (.t 94) 1 false), zO 96 (.sc (.bin .eql 3) [(.t 95), (.c (.int .i64 3))]), zM 8 96]) .ret)))) := by kernel_rfl
def f141_k11 (x16 : Bool) : Option Bool := some x16
def f141_k19 (x21 : Bool) : Option Bool := some x21
def f141_k24 (x26 : Bool) : Option Bool := some x26
def f141_k29 (x31 : Bool) : Option Bool := some x31
def f141_k34 (x39 : Bool) : Option Bool := some x39
def f141_k42 (x47 : Bool) : Option Bool := some x47
def f141 (n : Nat) (a1 : (List Rule)) (a2 : Give) (a3 : Col) (a4 : Col) : Option Bool := (bif (a2.fHow == 1) then (bif (a3.fKind == a4.fKind) then (bif (a3.fKind != 3) then (f141_k11 true) else ((f142 n a1 a3.fClass a4.fClass).bind fun r14 => (f141_k11 r14))) else (f141_k11 false)) else (bif (a2.fHow == 2) then (bif (a3.fKind == 2) then (f141_k19 (a4.fKind == 1)) else (f141_k19 false)) else (bif (a2.fHow == 3) then (bif (a3.fKind == 1) then (f141_k24 (a4.fKind == 2)) else (f141_k24 false)) else (bif (a2.fHow == 4) then (bif (a3.fKind == 1) then (f141_k29 (a4.fKind == 1)) else (f141_k29 false)) else (bif (a2.fHow == 5) then (bif (a3.fKind == 3) then (bif (a4.fKind == 3) then ((f142 n a1 a3.fClass a4.fClass).bind fun r37 => (f141_k34 r37)) else (f141_k34 false)) else (f141_k34 false)) else (bif (a2.fHow == 6) then (bif (a4.fKind == 1) then (f141_k42 true) else (bif (a4.fKind == 2) then ((f86 n a2.fN 0 1).bind fun r45 => (f141_k42 r45)) else (f141_k42 false))) else some (a4.fKind == 3)))))))
def f141_r (r : Bool) : AV := (vB r)
theorem p_f141 {n : Nat} {a1 : (List Rule)} {a2 : Give} {a3 : Col} {a4 : Col} {r : Bool} (h : f141 n a1 a2 a3 a4 = some r) : PureSpec Try.prog 141 [(vL Rule.c a1), (.agg [(vS a2.fFrom), (vI a2.fHow), (vI a2.fN)]), (.agg [(vS a3.fName), (vI a3.fKind), (vS a3.fClass)]), (.agg [(vS a4.fName), (vI a4.fKind), (vS a4.fClass)])] (f141_r r) := by
 rw [f141.eq_1] at h
 refine pure_of hmix ic141 ?_
 refine go_to (mkd (.val undef) 97 0 [(0, (vL Rule.c a1)), (1, (.agg [(vS a2.fFrom), (vI a2.fHow), (vI a2.fN)])), (2, (.agg [(vS a3.fName), (vI a3.fKind), (vS a3.fClass)])), (3, (.agg [(vS a4.fName), (vI a4.fKind), (vS a4.fClass)]))]) ?_
 refine s_so fun N5 k5 w5 => ?_
 refine o_h4 [(5, (.ptr 0 0)), (6, (.ptr 1 0)), (7, (.ptr 2 0)), (8, (vB false))] [(some (.box 97 [(vS a2.fFrom), (vI a2.fHow), (vI a2.fN)])), (some (.box 93 [(vS a3.fName), (vI a3.fKind), (vS a3.fClass)])), (some (.box 93 [(vS a4.fName), (vI a4.fKind), (vS a4.fClass)]))] ?_
 refine o_end (k5 _ ?_)
 refine s_seq fun N6 k6 w6 => ?_
 refine s_so fun N7 k7 w7 => ?_
 refine o_r2 [(9, (.ptr 0 1)), (10, (vI a2.fHow))] ?_
 refine o_end (k7 _ ?_)
 refine c_block fun E8 hE8 hO8 => ?_
 refine s_so fun N9 k9 w9 => ?_
 refine o_r2 [(11, (vB (a2.fHow == 1))), (12, (vB (a2.fHow == 1)))] ?_
 refine o_end (k9 _ ?_)
 refine i_c [11, 12] h (fun h => ?_) (fun h => ?_)
 · refine J1 (r := r) (fun (x16 : Bool) => ⟨(mkd .any 97 0 [(8, (vB x16))]), []⟩) (f141_k11) ?_ ?_
   · intro x16 h
     rw [f141_k11.eq_1] at h
     exact c_ret (rets [] [(vB x16)] [(vB x16)] h)
   · intro N11 w11
     refine c_ops ?_
     refine o_r6 [(13, (.ptr 1 1)), (14, (vI a3.fKind)), (15, (.ptr 2 1)), (16, (vI a4.fKind)), (17, (vB (a3.fKind == a4.fKind))), (18, (vB (a3.fKind == a4.fKind)))] ?_
     refine i_o [17, 18] h (fun h => ?_) (fun h => ?_)
     · refine o_r4 [(19, (.ptr 1 1)), (20, (vI a3.fKind)), (21, (vB (a3.fKind != 3))), (22, (vB (a3.fKind != 3)))] ?_
       refine i_o [21, 22] h (fun h => ?_) (fun h => ?_)
       · refine o_r9 [(8, (vB true)), (23, (.val undef)), (24, (.val undef)), (25, (.val undef)), (26, (.val undef)), (27, (.val undef)), (28, (.val undef)), (29, (vB true)), (30, (vB true))] ?_
         exact o_end (w11 _ _ (wkm [8] wh_nil) h)
       · refine o_r5 [(23, (vL Rule.c a1)), (24, (.ptr 1 2)), (25, (vS a3.fClass)), (26, (.ptr 2 2)), (27, (vS a4.fClass))] ?_
         refine bnd h fun r14 g15 h => ?_
         refine o_g ?_
         refine o_o (one_call (p_f142 g15)) ?_
         refine o_r3 [(8, (vB r14)), (29, (vB r14)), (30, (vB r14))] ?_
         exact o_end (w11 _ _ (wkm [8] wh_nil) h)
     · refine o_r13 [(19, (.val undef)), (20, (.val undef)), (21, (.val undef)), (22, (.val undef)), (23, (.val undef)), (24, (.val undef)), (25, (.val undef)), (26, (.val undef)), (27, (.val undef)), (28, (.val undef)), (29, (.val undef)), (30, (vB false))] ?_
       exact o_end (w11 _ _ (wkm [8] wh_nil) h)
 · refine s_so fun N17 k17 w17 => ?_
   refine o_r2 [(31, (vB (a2.fHow == 2))), (32, (vB (a2.fHow == 2)))] ?_
   refine o_end (k17 _ ?_)
   refine i_c [31, 32] h (fun h => ?_) (fun h => ?_)
   · refine J1 (r := r) (fun (x21 : Bool) => ⟨(mkd .any 97 0 [(8, (vB x21))]), []⟩) (f141_k19) ?_ ?_
     · intro x21 h
       rw [f141_k19.eq_1] at h
       exact c_ret (rets [] [(vB x21)] [(vB x21)] h)
     · intro N19 w19
       refine c_ops ?_
       refine o_r4 [(33, (.ptr 1 1)), (34, (vI a3.fKind)), (35, (vB (a3.fKind == 2))), (36, (vB (a3.fKind == 2)))] ?_
       refine i_o [35, 36] h (fun h => ?_) (fun h => ?_)
       · refine o_r5 [(8, (vB (a4.fKind == 1))), (37, (.ptr 2 1)), (38, (vI a4.fKind)), (39, (vB (a4.fKind == 1))), (40, (vB (a4.fKind == 1)))] ?_
         exact o_end (w19 _ _ (wkm [8] wh_nil) h)
       · refine o_r5 [(37, (.val undef)), (38, (.val undef)), (39, (.val undef)), (40, (vB false))] ?_
         exact o_end (w19 _ _ (wkm [8] wh_nil) h)
   · refine s_so fun N22 k22 w22 => ?_
     refine o_r2 [(41, (vB (a2.fHow == 3))), (42, (vB (a2.fHow == 3)))] ?_
     refine o_end (k22 _ ?_)
     refine i_c [41, 42] h (fun h => ?_) (fun h => ?_)
     · refine J1 (r := r) (fun (x26 : Bool) => ⟨(mkd .any 97 0 [(8, (vB x26))]), []⟩) (f141_k24) ?_ ?_
       · intro x26 h
         rw [f141_k24.eq_1] at h
         exact c_ret (rets [] [(vB x26)] [(vB x26)] h)
       · intro N24 w24
         refine c_ops ?_
         refine o_r4 [(43, (.ptr 1 1)), (44, (vI a3.fKind)), (45, (vB (a3.fKind == 1))), (46, (vB (a3.fKind == 1)))] ?_
         refine i_o [45, 46] h (fun h => ?_) (fun h => ?_)
         · refine o_r5 [(8, (vB (a4.fKind == 2))), (47, (.ptr 2 1)), (48, (vI a4.fKind)), (49, (vB (a4.fKind == 2))), (50, (vB (a4.fKind == 2)))] ?_
           exact o_end (w24 _ _ (wkm [8] wh_nil) h)
         · refine o_r5 [(47, (.val undef)), (48, (.val undef)), (49, (.val undef)), (50, (vB false))] ?_
           exact o_end (w24 _ _ (wkm [8] wh_nil) h)
     · refine s_so fun N27 k27 w27 => ?_
       refine o_r2 [(51, (vB (a2.fHow == 4))), (52, (vB (a2.fHow == 4)))] ?_
       refine o_end (k27 _ ?_)
       refine i_c [51, 52] h (fun h => ?_) (fun h => ?_)
       · refine J1 (r := r) (fun (x31 : Bool) => ⟨(mkd .any 97 0 [(8, (vB x31))]), []⟩) (f141_k29) ?_ ?_
         · intro x31 h
           rw [f141_k29.eq_1] at h
           exact c_ret (rets [] [(vB x31)] [(vB x31)] h)
         · intro N29 w29
           refine c_ops ?_
           refine o_r4 [(53, (.ptr 1 1)), (54, (vI a3.fKind)), (55, (vB (a3.fKind == 1))), (56, (vB (a3.fKind == 1)))] ?_
           refine i_o [55, 56] h (fun h => ?_) (fun h => ?_)
           · refine o_r5 [(8, (vB (a4.fKind == 1))), (57, (.ptr 2 1)), (58, (vI a4.fKind)), (59, (vB (a4.fKind == 1))), (60, (vB (a4.fKind == 1)))] ?_
             refine s_tm (mkd (.val undef) 97 0 [(0, (vL Rule.c a1)), (1, (.agg [(vS a2.fFrom), (vI a2.fHow), (vI a2.fN)])), (2, (.agg [(vS a3.fName), (vI a3.fKind), (vS a3.fClass)])), (3, (.agg [(vS a4.fName), (vI a4.fKind), (vS a4.fClass)])), (5, (.ptr 0 0)), (6, (.ptr 1 0)), (7, (.ptr 2 0)), (8, (vB (a4.fKind == 1))), (9, (.ptr 0 1)), (10, (vI a2.fHow)), (11, (vB false)), (12, (vB false)), (31, (vB false)), (32, (vB false)), (41, (vB false)), (42, (vB false)), (51, (vB true)), (52, (vB true)), (53, (.ptr 1 1)), (54, (vI a3.fKind)), (55, (vB true)), (56, (vB true)), (57, (.ptr 2 1)), (58, (vI a4.fKind)), (59, (vB (a4.fKind == 1))), (60, (vB (a4.fKind == 1)))]) ?_
             exact o_end (w29 _ _ (wkm [8] wh_nil) h)
           · refine o_r5 [(57, (.val undef)), (58, (.val undef)), (59, (.val undef)), (60, (vB false))] ?_
             refine s_tm (mkd (.val undef) 97 0 [(0, (vL Rule.c a1)), (1, (.agg [(vS a2.fFrom), (vI a2.fHow), (vI a2.fN)])), (2, (.agg [(vS a3.fName), (vI a3.fKind), (vS a3.fClass)])), (3, (.agg [(vS a4.fName), (vI a4.fKind), (vS a4.fClass)])), (5, (.ptr 0 0)), (6, (.ptr 1 0)), (7, (.ptr 2 0)), (8, (vB false)), (9, (.ptr 0 1)), (10, (vI a2.fHow)), (11, (vB false)), (12, (vB false)), (31, (vB false)), (32, (vB false)), (41, (vB false)), (42, (vB false)), (51, (vB true)), (52, (vB true)), (53, (.ptr 1 1)), (54, (vI a3.fKind)), (55, (vB false)), (56, (vB false)), (57, (.val undef)), (58, (.val undef)), (59, (.val undef)), (60, (vB false))]) ?_
             exact o_end (w29 _ _ (wkm [8] wh_nil) h)
       · refine s_so fun N32 k32 w32 => ?_
         refine o_r2 [(61, (vB (a2.fHow == 5))), (62, (vB (a2.fHow == 5)))] ?_
         refine o_end (k32 _ ?_)
         refine i_c [61, 62] h (fun h => ?_) (fun h => ?_)
         · refine J1 (r := r) (fun (x39 : Bool) => ⟨(mkd .any 97 0 [(8, (vB x39))]), []⟩) (f141_k34) ?_ ?_
           · intro x39 h
             rw [f141_k34.eq_1] at h
             exact c_ret (rets [] [(vB x39)] [(vB x39)] h)
           · intro N34 w34
             refine c_ops ?_
             refine o_r4 [(63, (.ptr 1 1)), (64, (vI a3.fKind)), (65, (vB (a3.fKind == 3))), (66, (vB (a3.fKind == 3)))] ?_
             refine s_tm (mkd (.val undef) 97 0 [(0, (vL Rule.c a1)), (1, (.agg [(vS a2.fFrom), (vI a2.fHow), (vI a2.fN)])), (2, (.agg [(vS a3.fName), (vI a3.fKind), (vS a3.fClass)])), (3, (.agg [(vS a4.fName), (vI a4.fKind), (vS a4.fClass)])), (5, (.ptr 0 0)), (6, (.ptr 1 0)), (7, (.ptr 2 0)), (8, (vB false)), (9, (.ptr 0 1)), (10, (vI a2.fHow)), (11, (vB false)), (12, (vB false)), (31, (vB false)), (32, (vB false)), (41, (vB false)), (42, (vB false)), (51, (vB false)), (52, (vB false)), (61, (vB true)), (62, (vB true)), (63, (.ptr 1 1)), (64, (vI a3.fKind)), (65, (vB (a3.fKind == 3))), (66, (vB (a3.fKind == 3)))]) ?_
             refine i_o [65, 66] h (fun h => ?_) (fun h => ?_)
             · refine o_r5 [(67, (.ptr 2 1)), (68, (vI a4.fKind)), (69, (vB (a4.fKind == 3))), (70, (vB (a4.fKind == 3))), (71, (vB (a4.fKind == 3)))] ?_
               refine i_o [69, 70, 71] h (fun h => ?_) (fun h => ?_)
               · refine o_r5 [(72, (vL Rule.c a1)), (73, (.ptr 1 2)), (74, (vS a3.fClass)), (75, (.ptr 2 2)), (76, (vS a4.fClass))] ?_
                 refine bnd h fun r37 g38 h => ?_
                 refine o_g ?_
                 refine o_o (one_call (p_f142 g38)) ?_
                 refine o_r2 [(8, (vB r37)), (78, (vB r37))] ?_
                 exact o_end (w34 _ _ (wkm [8] wh_nil) h)
               · refine o_r8 [(72, (.val undef)), (73, (.val undef)), (74, (.val undef)), (75, (.val undef)), (76, (.val undef)), (77, (.val undef)), (78, (vB false))] ?_
                 exact o_end (w34 _ _ (wkm [8] wh_nil) h)
             · refine o_r13 [(67, (.val undef)), (68, (.val undef)), (69, (.val undef)), (70, (vB false)), (71, (vB false)), (72, (.val undef)), (73, (.val undef)), (74, (.val undef)), (75, (.val undef)), (76, (.val undef)), (77, (.val undef)), (78, (vB false))] ?_
               exact o_end (w34 _ _ (wkm [8] wh_nil) h)
         · refine s_so fun N40 k40 w40 => ?_
           refine o_r2 [(79, (vB (a2.fHow == 6))), (80, (vB (a2.fHow == 6)))] ?_
           refine s_tm (mkd (.val undef) 97 0 [(0, (vL Rule.c a1)), (1, (.agg [(vS a2.fFrom), (vI a2.fHow), (vI a2.fN)])), (2, (.agg [(vS a3.fName), (vI a3.fKind), (vS a3.fClass)])), (3, (.agg [(vS a4.fName), (vI a4.fKind), (vS a4.fClass)])), (5, (.ptr 0 0)), (6, (.ptr 1 0)), (7, (.ptr 2 0)), (8, (vB false)), (9, (.ptr 0 1)), (10, (vI a2.fHow)), (11, (vB false)), (12, (vB false)), (31, (vB false)), (32, (vB false)), (41, (vB false)), (42, (vB false)), (51, (vB false)), (52, (vB false)), (61, (vB false)), (62, (vB false)), (79, (vB (a2.fHow == 6))), (80, (vB (a2.fHow == 6)))]) ?_
           refine o_end (w40 _ ⟨(mkd .any 97 0 [(5, (.ptr 0 0)), (7, (.ptr 2 0)), (79, (vB (a2.fHow == 6)))]), [(some (.box 97 [(vS a2.fFrom), (vI a2.fHow), (vI a2.fN)])), none, (some (.box 93 [(vS a4.fName), (vI a4.fKind), (vS a4.fClass)]))]⟩ (wkm [5, 7, 79] (whk (wh_drop (whk wh_nil)))) ?_)
           refine i_c [79] h (fun h => ?_) (fun h => ?_)
           · refine J1 (r := r) (fun (x47 : Bool) => ⟨(mkd .any 97 0 [(8, (vB x47))]), []⟩) (f141_k42) ?_ ?_
             · intro x47 h
               rw [f141_k42.eq_1] at h
               exact c_ret (rets [] [(vB x47)] [(vB x47)] h)
             · intro N42 w42
               refine c_ops ?_
               refine o_r4 [(81, (.ptr 2 1)), (82, (vI a4.fKind)), (83, (vB (a4.fKind == 1))), (84, (vB (a4.fKind == 1)))] ?_
               refine i_o [83, 84] h (fun h => ?_) (fun h => ?_)
               · refine o_r10 [(8, (vB true)), (85, (.val undef)), (86, (.val undef)), (87, (.val undef)), (88, (.val undef)), (89, (.val undef)), (90, (.val undef)), (91, (.val undef)), (92, (.val undef)), (93, (vB true))] ?_
                 exact o_end (w42 _ _ (wkm [8] wh_nil) h)
               · refine o_r4 [(85, (.ptr 2 1)), (86, (vI a4.fKind)), (87, (vB (a4.fKind == 2))), (88, (vB (a4.fKind == 2)))] ?_
                 refine i_o [87, 88] h (fun h => ?_) (fun h => ?_)
                 · refine o_r2 [(89, (.ptr 0 2)), (90, (vI a2.fN))] ?_
                   refine bnd h fun r45 g46 h => ?_
                   refine o_g ?_
                   refine o_o (one_call (p_f86 g46)) ?_
                   refine o_r3 [(8, (vB r45)), (92, (vB r45)), (93, (vB r45))] ?_
                   exact o_end (w42 _ _ (wkm [8] wh_nil) h)
                 · refine o_r6 [(8, (vB false)), (89, (.val undef)), (90, (.val undef)), (91, (.val undef)), (92, (vB false)), (93, (vB false))] ?_
                   exact o_end (w42 _ _ (wkm [8] wh_nil) h)
           · refine c_skip (k6 _ ?_)
             refine s_so fun N48 k48 w48 => ?_
             refine o_r4 [(8, (vB (a4.fKind == 3))), (94, (.ptr 2 1)), (95, (vI a4.fKind)), (96, (vB (a4.fKind == 3)))] ?_
             refine o_end (k48 _ ?_)
             exact c_ret (rets [] [(vB (a4.fKind == 3))] [(vB (a4.fKind == 3))] h)
theorem ic116 : fnIC Try.prog H0 116 = some ([.tmp 8], 82, (.seq (.ops [zO 5 (.box 0 97 [] (.t 1)), zO 7 (.box 0 93 [] (.t 3)), zO 8 (.mov (.c (.int .i64 0)))]) (.seq (.ops [zM 13 2, zO 14 (.faddr (.t 5) 0), zO 15 (.ld (.t 14) 1 false), zO 16 (.call 95 [(.t 13), (.t 15)]), zM 9 16]) (.seq (.ops [zO 17 (.faddr (.t 5) 1), zO 18 (.ld (.t 17) 1 false), zO 19 (.call 86 [(.t 18), (.c (.int .i64 1)), (.c (.int .i64 5))]), zM 10 19]) (.seq (.seq (.ops [zM 20 10, zM 21 20, zN 22 21 true 9, zG 23 21 true (.sc (.bin .lss 3) [(.t 22), (.c (.int .i64 0))]), zO 24 (.pick (.t 21) (.t 23) (.c (.bool false)))]) (.cond (.t 24)
  (.seq (.ops [zO 8 (.mov (.c (.int .i64 4)))]) .ret)
  .skip)) (.seq (.ops [zO 11 (.mov (.c (.int .i64 0)))]) (.seq (.seq (.ops [zO 25 (.faddr (.t 5) 1), zO 26 (.ld (.t 25) 1 false), zO 27 (.sc (.bin .eql 3) [(.t 26), (.c (.int .i64 4))]), zM 28 27, zG 29 28 false (.faddr (.t 5) 1), zG 30 28 false (.ld (.t 29) 1 false), zG 31 28 false (.sc (.bin .eql 3) [(.t 30), (.c (.int .i64 6))]), zO 32 (.pick (.t 28) (.c (.bool true)) (.t 31))]) (.cond (.t 32)
  (.ops [zO 11 (.mov (.c (.int .i64 1099511627776)))])
  .skip)) (.seq (.seq (.ops [zO 33 (.faddr (.t 5) 1), zO 34 (.ld (.t 33) 1 false), zO 35 (.call 86 [(.t 34), (.c (.int .i64 1)), (.c (.int .i64 7))]), zO 36 (.sc (.un .not) [(.t 35)]), zM 37 36, zN 38 37 false 10, zG 39 37 false (.sc (.un .not) [(.t 38)]), zN 40 37 false 39, zG 41 40 true (.faddr (.t 5) 0), zG 42 40 true (.ld (.t 41) 1 false), zG 43 40 true (.sc (.bin .neq 9) [(.t 42), (.c (.string ⟨#[]⟩))]), zG 44 37 false (.pick (.t 40) (.t 43) (.c (.bool false))), zO 45 (.pick (.t 37) (.c (.bool true)) (.t 44)), zM 46 45, zG 47 46 false (.faddr (.t 5) 2), zG 48 46 false (.ld (.t 47) 1 false), zN 49 46 false 11, zG 50 46 false (.sc (.un .neg) [(.t 49)]), zN 51 46 false 11, zG 52 46 false (.call 86 [(.t 48), (.t 50), (.t 51)]), zG 53 46 false (.sc (.un .not) [(.t 52)]), zO 54 (.pick (.t 46) (.c (.bool true)) (.t 53)), zM 55 54, zG 56 55 false (.faddr (.t 5) 1), zG 57 55 false (.ld (.t 56) 1 false), zG 58 55 false (.sc (.bin .eql 3) [(.t 57), (.c (.int .i64 6))]), zN 59 55 false 58, zG 60 59 true (.faddr (.t 7) 1), zG 61 59 true (.ld (.t 60) 1 false), zG 62 59 true (.sc (.bin .eql 3) [(.t 61), (.c (.int .i64 2))]), zG 63 55 false (.pick (.t 59) (.t 62) (.c (.bool false))), zN 64 55 false 63, zG 65 64 true (.faddr (.t 5) 2), zG 66 64 true (.ld (.t 65) 1 false), zG 67 64 true (.call 86 [(.t 66), (.c (.int .i64 0)), (.c (.int .i64 1))]), zG 68 64 true (.sc (.un .not) [(.t 67)]), zG 69 55 false (.pick (.t 64) (.t 68) (.c (.bool false))), zO 70 (.pick (.t 55) (.c (.bool true)) (.t 69))]) (.cond (.t 70)
  (.seq (.ops [zO 8 (.mov (.c (.int .i64 1)))]) .ret)
  .skip)) (.seq (.ops [zO 12 (.alloc 0 93 [] [(.string ⟨#[]⟩), (.int .i64 0), (.string ⟨#[]⟩)])]) (.seq (.seq (.ops [zM 71 10]) (.cond (.t 71)
  (.ops [zM 72 2, zM 73 9, zO 74 (.iaddr 3 (.t 72) (.t 73)), zO 75 (.ld (.t 74) 3 true), zU (.st true 3 [] (.t 12) (.t 75))])
  .skip)) (.seq (.ops [zM 76 0, zO 77 (.ld (.t 5) 3 true), zO 78 (.ld (.t 12) 3 true), zO 79 (.ld (.t 7) 3 true), zO 80 (.call 141 [(.t 76), (.t 77), (.t 78), (.t 79)]), zO 81 (.call 50 [(.t 80), (.c (.int .i64 8))]), zM 8 81]) .ret))))))))))) := by kernel_rfl
def f116_k52 (n : Nat) (a1 : (List Rule)) (a2 : Give) (a4 : Col) (x57 : ByteArray) (x58 : Int) (x59 : ByteArray) : Option Int := ((f141 n a1 a2 (Col.mk x57 x58 x59) a4).bind fun r61 => ((f50 n r61 8).bind fun r63 => some r63))
def f116_k27 (x15 : Bool) (a3 : (List Col)) (r7 : Int) (n : Nat) (a1 : (List Rule)) (a2 : Give) (a4 : Col) (x48 : Bool) : Option Int := (bif x48 then some 1 else (bif x15 then ((gi a3 r7).bind fun x55 => (f116_k52 n a1 a2 a4 x55.fName x55.fKind x55.fClass)) else (f116_k52 n a1 a2 a4 (ByteArray.mk #[]) 0 (ByteArray.mk #[]))))
def f116_k20 (n : Nat) (a2 : Give) (x15 : Bool) (a4 : Col) (a3 : (List Col)) (r7 : Int) (a1 : (List Rule)) (x25 : Int) : Option Int := ((f86 n a2.fHow 1 7).bind fun r28 => (bif (!r28) then (f116_k27 x15 a3 r7 n a1 a2 a4 true) else (bif (!x15) then (bif (!(sEqF a2.fFrom (ByteArray.mk #[]))) then (f116_k27 x15 a3 r7 n a1 a2 a4 true) else ((f86 n a2.fN (wr .i64 (0 - x25)) x25).bind fun r34 => (bif (!r34) then (f116_k27 x15 a3 r7 n a1 a2 a4 true) else (bif (a2.fHow == 6) then (bif (a4.fKind == 2) then ((f86 n a2.fN 0 1).bind fun r39 => (f116_k27 x15 a3 r7 n a1 a2 a4 (!r39))) else (f116_k27 x15 a3 r7 n a1 a2 a4 false)) else (f116_k27 x15 a3 r7 n a1 a2 a4 false))))) else ((f86 n a2.fN (wr .i64 (0 - x25)) x25).bind fun r41 => (bif (!r41) then (f116_k27 x15 a3 r7 n a1 a2 a4 true) else (bif (a2.fHow == 6) then (bif (a4.fKind == 2) then ((f86 n a2.fN 0 1).bind fun r46 => (f116_k27 x15 a3 r7 n a1 a2 a4 (!r46))) else (f116_k27 x15 a3 r7 n a1 a2 a4 false)) else (f116_k27 x15 a3 r7 n a1 a2 a4 false)))))))
def f116_k21 (n : Nat) (a2 : Give) (x15 : Bool) (a4 : Col) (a3 : (List Col)) (r7 : Int) (a1 : (List Rule)) (x23 : Bool) : Option Int := (bif x23 then (f116_k20 n a2 x15 a4 a3 r7 a1 1099511627776) else (f116_k20 n a2 x15 a4 a3 r7 a1 0))
def f116_k13 (a2 : Give) (n : Nat) (a4 : Col) (a3 : (List Col)) (r7 : Int) (a1 : (List Rule)) (x15 : Bool) (x16 : Bool) : Option Int := (bif x16 then some 4 else (bif (a2.fHow == 4) then (f116_k21 n a2 x15 a4 a3 r7 a1 true) else (f116_k21 n a2 x15 a4 a3 r7 a1 (a2.fHow == 6))))
def f116 (n : Nat) (a1 : (List Rule)) (a2 : Give) (a3 : (List Col)) (a4 : Col) : Option Int := ((f95 n a3 a2.fFrom).bind fun r7 => ((f86 n a2.fHow 1 5).bind fun r10 => (bif r10 then (f116_k13 a2 n a4 a3 r7 a1 true (decide (r7 < 0))) else (f116_k13 a2 n a4 a3 r7 a1 false false))))
def f116_r (r : Int) : AV := (vI r)
theorem p_f116 {n : Nat} {a1 : (List Rule)} {a2 : Give} {a3 : (List Col)} {a4 : Col} {r : Int} (h : f116 n a1 a2 a3 a4 = some r) : PureSpec Try.prog 116 [(vL Rule.c a1), (.agg [(vS a2.fFrom), (vI a2.fHow), (vI a2.fN)]), (vL Col.c a3), (.agg [(vS a4.fName), (vI a4.fKind), (vS a4.fClass)])] (f116_r r) := by
 rw [f116.eq_1] at h
 refine pure_of hmix ic116 ?_
 refine go_to (mkd (.val undef) 82 0 [(0, (vL Rule.c a1)), (1, (.agg [(vS a2.fFrom), (vI a2.fHow), (vI a2.fN)])), (2, (vL Col.c a3)), (3, (.agg [(vS a4.fName), (vI a4.fKind), (vS a4.fClass)]))]) ?_
 refine s_so fun N5 k5 w5 => ?_
 refine o_h3 [(5, (.ptr 0 0)), (7, (.ptr 1 0)), (8, (vI 0))] [(some (.box 97 [(vS a2.fFrom), (vI a2.fHow), (vI a2.fN)])), (some (.box 93 [(vS a4.fName), (vI a4.fKind), (vS a4.fClass)]))] ?_
 refine o_end (k5 _ ?_)
 refine s_so fun N6 k6 w6 => ?_
 refine o_r3 [(13, (vL Col.c a3)), (14, (.ptr 0 0)), (15, (vS a2.fFrom))] ?_
 refine bnd h fun r7 g8 h => ?_
 refine o_o (one_call (p_f95 g8)) ?_
 refine o_r1 [(9, (vI r7))] ?_
 refine o_end (k6 _ ?_)
 refine s_so fun N9 k9 w9 => ?_
 refine o_r2 [(17, (.ptr 0 1)), (18, (vI a2.fHow))] ?_
 refine bnd h fun r10 g11 h => ?_
 refine o_o (one_call (p_f86 g11)) ?_
 refine o_r1 [(10, (vB r10))] ?_
 refine o_end (k9 _ ?_)
 refine s_seq fun N12 k12 w12 => ?_
 refine J2 (r := r) (fun (x15 : Bool) (x16 : Bool) => ⟨(mkd .any 82 0 [(0, (vL Rule.c a1)), (2, (vL Col.c a3)), (5, (.ptr 0 0)), (7, (.ptr 1 0)), (9, (vI r7)), (10, (vB x15)), (24, (vB x16))]), [(some (.box 97 [(vS a2.fFrom), (vI a2.fHow), (vI a2.fN)])), (some (.box 93 [(vS a4.fName), (vI a4.fKind), (vS a4.fClass)]))]⟩) (f116_k13 a2 n a4 a3 r7 a1) ?_ ?_
 · intro x15 x16 h
   rw [f116_k13.eq_1] at h
   refine i_c [24] h (fun h => ?_) (fun h => ?_)
   · refine s_so fun N18 k18 w18 => ?_
     refine o_r1 [(8, (vI 4))] ?_
     refine o_end (k18 _ ?_)
     exact c_ret (rets [] [(vI 4)] [(vI 4)] h)
   · refine c_skip (k12 _ ?_)
     refine s_so fun N19 k19 w19 => ?_
     refine o_r1 [(11, (vI 0))] ?_
     refine o_end (k19 _ ?_)
     refine J1 (r := r) (fun (x25 : Int) => ⟨(mkd .any 82 0 [(0, (vL Rule.c a1)), (2, (vL Col.c a3)), (5, (.ptr 0 0)), (7, (.ptr 1 0)), (9, (vI r7)), (10, (vB x15)), (11, (vI x25))]), [(some (.box 97 [(vS a2.fFrom), (vI a2.fHow), (vI a2.fN)])), (some (.box 93 [(vS a4.fName), (vI a4.fKind), (vS a4.fClass)]))]⟩) (f116_k20 n a2 x15 a4 a3 r7 a1) ?_ ?_
     · intro x25 h
       rw [f116_k20.eq_1] at h
       refine s_seq fun N26 k26 w26 => ?_
       refine J1 (r := r) (fun (x48 : Bool) => ⟨(mkd .any 82 0 [(0, (vL Rule.c a1)), (2, (vL Col.c a3)), (5, (.ptr 0 0)), (7, (.ptr 1 0)), (9, (vI r7)), (10, (vB x15)), (70, (vB x48))]), [(some (.box 97 [(vS a2.fFrom), (vI a2.fHow), (vI a2.fN)])), (some (.box 93 [(vS a4.fName), (vI a4.fKind), (vS a4.fClass)]))]⟩) (f116_k27 x15 a3 r7 n a1 a2 a4) ?_ ?_
       · intro x48 h
         rw [f116_k27.eq_1] at h
         refine i_c [70] h (fun h => ?_) (fun h => ?_)
         · refine s_so fun N50 k50 w50 => ?_
           refine o_r1 [(8, (vI 1))] ?_
           refine o_end (k50 _ ?_)
           exact c_ret (rets [] [(vI 1)] [(vI 1)] h)
         · refine c_skip (k26 _ ?_)
           refine s_so fun N51 k51 w51 => ?_
           refine o_h1 [(12, (.ptr 2 0))] [(some (.box 97 [(vS a2.fFrom), (vI a2.fHow), (vI a2.fN)])), (some (.box 93 [(vS a4.fName), (vI a4.fKind), (vS a4.fClass)])), (some (.box 93 [(vS (ByteArray.mk #[])), (vI 0), (vS (ByteArray.mk #[]))]))] ?_
           refine o_end (k51 _ ?_)
           refine J3 (r := r) (fun (x57 : ByteArray) (x58 : Int) (x59 : ByteArray) => ⟨(mkd .any 82 0 [(0, (vL Rule.c a1)), (5, (.ptr 0 0)), (7, (.ptr 1 0)), (12, (.ptr 2 0))]), [(some (.box 97 [(vS a2.fFrom), (vI a2.fHow), (vI a2.fN)])), (some (.box 93 [(vS a4.fName), (vI a4.fKind), (vS a4.fClass)])), (some (.box 93 [(vS x57), (vI x58), (vS x59)]))]⟩) (f116_k52 n a1 a2 a4) ?_ ?_
           · intro x57 x58 x59 h
             rw [f116_k52.eq_1] at h
             refine s_so fun N60 k60 w60 => ?_
             refine o_r4 [(76, (vL Rule.c a1)), (77, (.agg [(vS a2.fFrom), (vI a2.fHow), (vI a2.fN)])), (78, (.agg [(vS x57), (vI x58), (vS x59)])), (79, (.agg [(vS a4.fName), (vI a4.fKind), (vS a4.fClass)]))] ?_
             refine bnd h fun r61 g62 h => ?_
             refine o_o (one_call (p_f141 g62)) ?_
             refine bnd h fun r63 g64 h => ?_
             refine o_o (one_call (p_f50 g64)) ?_
             refine o_r1 [(8, (vI r63))] ?_
             refine o_end (k60 _ ?_)
             exact c_ret (rets [] [(vI r63)] [(vI r63)] h)
           · intro N52 w52
             refine s_so fun N53 k53 w53 => ?_
             refine o_r1 [(71, (vB x15))] ?_
             refine o_end (k53 _ ?_)
             refine i_c [10, 71] h (fun h => ?_) (fun h => ?_)
             · refine c_ops ?_
               refine o_r2 [(72, (vL Col.c a3)), (73, (vI r7))] ?_
               refine bnd h fun x55 g56 h => ?_
               refine o_o (one_ia (f := Col.c) (ki := .i64) g56) ?_
               refine o_h2 [(75, (.agg [(vS x55.fName), (vI x55.fKind), (vS x55.fClass)]))] [(some (.box 97 [(vS a2.fFrom), (vI a2.fHow), (vI a2.fN)])), (some (.box 93 [(vS a4.fName), (vI a4.fKind), (vS a4.fClass)])), (some (.box 93 [(vS x55.fName), (vI x55.fKind), (vS x55.fClass)]))] ?_
               exact o_end (w52 _ _ _ _ (wkm [0, 5, 7, 12] (whk (whk (whk wh_nil)))) h)
             · exact c_skip (w52 _ _ _ _ (wkm [0, 5, 7, 12] (whk (whk (whk wh_nil)))) h)
       · intro N27 w27
         refine c_ops ?_
         refine o_r2 [(33, (.ptr 0 1)), (34, (vI a2.fHow))] ?_
         refine bnd h fun r28 g29 h => ?_
         refine o_o (one_call (p_f86 g29)) ?_
         refine o_r2 [(36, (vB (!r28))), (37, (vB (!r28)))] ?_
         refine i_o [36, 37] h (fun h => ?_) (fun h => ?_)
         · refine o_r16 [(38, (.val undef)), (39, (.val undef)), (40, (.val undef)), (41, (.val undef)), (42, (.val undef)), (43, (.val undef)), (44, (.val undef)), (45, (vB true)), (46, (vB true)), (47, (.val undef)), (48, (.val undef)), (49, (.val undef)), (50, (.val undef)), (51, (.val undef)), (52, (.val undef)), (53, (.val undef))] ?_
           refine o_r16 [(54, (vB true)), (55, (vB true)), (56, (.val undef)), (57, (.val undef)), (58, (.val undef)), (59, (.val undef)), (60, (.val undef)), (61, (.val undef)), (62, (.val undef)), (63, (.val undef)), (64, (.val undef)), (65, (.val undef)), (66, (.val undef)), (67, (.val undef)), (68, (.val undef)), (69, (.val undef))] ?_
           refine o_r1 [(70, (vB true))] ?_
           exact o_end (w27 _ _ (wkm [0, 2, 5, 7, 9, 10, 70] (whk (whk wh_nil))) h)
         · refine o_r3 [(38, (vB x15)), (39, (vB (!x15))), (40, (vB (!x15)))] ?_
           refine i_o [39, 40] h (fun h => ?_) (fun h => ?_)
           · refine o_r2 [(41, (.ptr 0 0)), (42, (vS a2.fFrom))] ?_
             refine o_g ?_
             refine o_o (one_sc (vs := [.string a2.fFrom, .string (ByteArray.mk #[])]) (str_neq a2.fFrom (ByteArray.mk #[]))) ?_
             refine o_r3 [(44, (vB (!(sEqF a2.fFrom (ByteArray.mk #[]))))), (45, (vB (!(sEqF a2.fFrom (ByteArray.mk #[]))))), (46, (vB (!(sEqF a2.fFrom (ByteArray.mk #[])))))] ?_
             refine i_o [43, 44, 45, 46] h (fun h => ?_) (fun h => ?_)
             · refine o_r16 [(47, (.val undef)), (48, (.val undef)), (49, (.val undef)), (50, (.val undef)), (51, (.val undef)), (52, (.val undef)), (53, (.val undef)), (54, (vB true)), (55, (vB true)), (56, (.val undef)), (57, (.val undef)), (58, (.val undef)), (59, (.val undef)), (60, (.val undef)), (61, (.val undef)), (62, (.val undef))] ?_
               refine o_r8 [(63, (.val undef)), (64, (.val undef)), (65, (.val undef)), (66, (.val undef)), (67, (.val undef)), (68, (.val undef)), (69, (.val undef)), (70, (vB true))] ?_
               exact o_end (w27 _ _ (wkm [0, 2, 5, 7, 9, 10, 70] (whk (whk wh_nil))) h)
             · refine o_r5 [(47, (.ptr 0 2)), (48, (vI a2.fN)), (49, (vI x25)), (50, (vI (wr .i64 (0 - x25)))), (51, (vI x25))] ?_
               refine bnd h fun r34 g35 h => ?_
               refine o_g ?_
               refine o_o (one_call (p_f86 g35)) ?_
               refine o_r3 [(53, (vB (!r34))), (54, (vB (!r34))), (55, (vB (!r34)))] ?_
               refine s_tm (mkd .any 82 0 [(0, (vL Rule.c a1)), (2, (vL Col.c a3)), (5, (.ptr 0 0)), (7, (.ptr 1 0)), (9, (vI r7)), (10, (vB x15)), (11, (vI x25)), (33, (.ptr 0 1)), (34, (vI a2.fHow)), (35, (vB r28)), (36, (vB false)), (37, (vB false)), (38, (vB x15)), (39, (vB true)), (40, (vB true)), (41, (.ptr 0 0)), (42, (vS a2.fFrom)), (43, (vB false)), (44, (vB false)), (45, (vB false)), (46, (vB false)), (47, (.ptr 0 2)), (48, (vI a2.fN)), (49, (vI x25)), (50, (vI (wr .i64 (0 - x25)))), (51, (vI x25)), (52, (vB r34)), (53, (vB (!r34))), (54, (vB (!r34))), (55, (vB (!r34)))]) ?_
               refine i_o [53, 54, 55] h (fun h => ?_) (fun h => ?_)
               · refine o_r15 [(56, (.val undef)), (57, (.val undef)), (58, (.val undef)), (59, (.val undef)), (60, (.val undef)), (61, (.val undef)), (62, (.val undef)), (63, (.val undef)), (64, (.val undef)), (65, (.val undef)), (66, (.val undef)), (67, (.val undef)), (68, (.val undef)), (69, (.val undef)), (70, (vB true))] ?_
                 exact o_end (w27 _ _ (wkm [0, 2, 5, 7, 9, 10, 70] (whk (whk wh_nil))) h)
               · refine o_r4 [(56, (.ptr 0 1)), (57, (vI a2.fHow)), (58, (vB (a2.fHow == 6))), (59, (vB (a2.fHow == 6)))] ?_
                 refine i_o [58, 59] h (fun h => ?_) (fun h => ?_)
                 · refine o_r5 [(60, (.ptr 1 1)), (61, (vI a4.fKind)), (62, (vB (a4.fKind == 2))), (63, (vB (a4.fKind == 2))), (64, (vB (a4.fKind == 2)))] ?_
                   refine i_o [62, 63, 64] h (fun h => ?_) (fun h => ?_)
                   · refine o_r2 [(65, (.ptr 0 2)), (66, (vI a2.fN))] ?_
                     refine bnd h fun r39 g40 h => ?_
                     refine o_g ?_
                     refine o_o (one_call (p_f86 g40)) ?_
                     refine o_r3 [(68, (vB (!r39))), (69, (vB (!r39))), (70, (vB (!r39)))] ?_
                     exact o_end (w27 _ _ (wkm [0, 2, 5, 7, 9, 10, 70] (whk (whk wh_nil))) h)
                   · refine o_r6 [(65, (.val undef)), (66, (.val undef)), (67, (.val undef)), (68, (.val undef)), (69, (vB false)), (70, (vB false))] ?_
                     exact o_end (w27 _ _ (wkm [0, 2, 5, 7, 9, 10, 70] (whk (whk wh_nil))) h)
                 · refine o_r11 [(60, (.val undef)), (61, (.val undef)), (62, (.val undef)), (63, (vB false)), (64, (vB false)), (65, (.val undef)), (66, (.val undef)), (67, (.val undef)), (68, (.val undef)), (69, (vB false)), (70, (vB false))] ?_
                   exact o_end (w27 _ _ (wkm [0, 2, 5, 7, 9, 10, 70] (whk (whk wh_nil))) h)
           · refine o_r11 [(41, (.val undef)), (42, (.val undef)), (43, (.val undef)), (44, (vB false)), (45, (vB false)), (46, (vB false)), (47, (.ptr 0 2)), (48, (vI a2.fN)), (49, (vI x25)), (50, (vI (wr .i64 (0 - x25)))), (51, (vI x25))] ?_
             refine bnd h fun r41 g42 h => ?_
             refine o_g ?_
             refine o_o (one_call (p_f86 g42)) ?_
             refine o_r3 [(53, (vB (!r41))), (54, (vB (!r41))), (55, (vB (!r41)))] ?_
             refine i_o [53, 54, 55] h (fun h => ?_) (fun h => ?_)
             · refine o_r15 [(56, (.val undef)), (57, (.val undef)), (58, (.val undef)), (59, (.val undef)), (60, (.val undef)), (61, (.val undef)), (62, (.val undef)), (63, (.val undef)), (64, (.val undef)), (65, (.val undef)), (66, (.val undef)), (67, (.val undef)), (68, (.val undef)), (69, (.val undef)), (70, (vB true))] ?_
               exact o_end (w27 _ _ (wkm [0, 2, 5, 7, 9, 10, 70] (whk (whk wh_nil))) h)
             · refine o_r4 [(56, (.ptr 0 1)), (57, (vI a2.fHow)), (58, (vB (a2.fHow == 6))), (59, (vB (a2.fHow == 6)))] ?_
               refine i_o [58, 59] h (fun h => ?_) (fun h => ?_)
               · refine o_r5 [(60, (.ptr 1 1)), (61, (vI a4.fKind)), (62, (vB (a4.fKind == 2))), (63, (vB (a4.fKind == 2))), (64, (vB (a4.fKind == 2)))] ?_
                 refine s_tm (mkd .any 82 0 [(0, (vL Rule.c a1)), (2, (vL Col.c a3)), (5, (.ptr 0 0)), (7, (.ptr 1 0)), (9, (vI r7)), (10, (vB x15)), (11, (vI x25)), (33, (.ptr 0 1)), (34, (vI a2.fHow)), (35, (vB r28)), (36, (vB false)), (37, (vB false)), (38, (vB x15)), (39, (vB false)), (40, (vB false)), (41, (.val undef)), (42, (.val undef)), (43, (.val undef)), (44, (vB false)), (45, (vB false)), (46, (vB false)), (47, (.ptr 0 2)), (48, (vI a2.fN)), (49, (vI x25)), (50, (vI (wr .i64 (0 - x25)))), (51, (vI x25)), (52, (vB r41)), (53, (vB false)), (54, (vB false)), (55, (vB false)), (56, (.ptr 0 1)), (57, (vI a2.fHow)), (58, (vB true)), (59, (vB true)), (60, (.ptr 1 1)), (61, (vI a4.fKind)), (62, (vB (a4.fKind == 2))), (63, (vB (a4.fKind == 2))), (64, (vB (a4.fKind == 2)))]) ?_
                 refine i_o [62, 63, 64] h (fun h => ?_) (fun h => ?_)
                 · refine o_r2 [(65, (.ptr 0 2)), (66, (vI a2.fN))] ?_
                   refine bnd h fun r46 g47 h => ?_
                   refine o_g ?_
                   refine o_o (one_call (p_f86 g47)) ?_
                   refine o_r3 [(68, (vB (!r46))), (69, (vB (!r46))), (70, (vB (!r46)))] ?_
                   exact o_end (w27 _ _ (wkm [0, 2, 5, 7, 9, 10, 70] (whk (whk wh_nil))) h)
                 · refine o_r6 [(65, (.val undef)), (66, (.val undef)), (67, (.val undef)), (68, (.val undef)), (69, (vB false)), (70, (vB false))] ?_
                   exact o_end (w27 _ _ (wkm [0, 2, 5, 7, 9, 10, 70] (whk (whk wh_nil))) h)
               · refine o_r11 [(60, (.val undef)), (61, (.val undef)), (62, (.val undef)), (63, (vB false)), (64, (vB false)), (65, (.val undef)), (66, (.val undef)), (67, (.val undef)), (68, (.val undef)), (69, (vB false)), (70, (vB false))] ?_
                 refine s_tm (mkd .any 82 0 [(0, (vL Rule.c a1)), (2, (vL Col.c a3)), (5, (.ptr 0 0)), (7, (.ptr 1 0)), (9, (vI r7)), (10, (vB x15)), (11, (vI x25)), (33, (.ptr 0 1)), (34, (vI a2.fHow)), (35, (vB r28)), (36, (vB false)), (37, (vB false)), (38, (vB x15)), (39, (vB false)), (40, (vB false)), (41, (.val undef)), (42, (.val undef)), (43, (.val undef)), (44, (vB false)), (45, (vB false)), (46, (vB false)), (47, (.ptr 0 2)), (48, (vI a2.fN)), (49, (vI x25)), (50, (vI (wr .i64 (0 - x25)))), (51, (vI x25)), (52, (vB r41)), (53, (vB false)), (54, (vB false)), (55, (vB false)), (56, (.ptr 0 1)), (57, (vI a2.fHow)), (58, (vB false)), (59, (vB false)), (60, (.val undef)), (61, (.val undef)), (62, (.val undef)), (63, (vB false)), (64, (vB false)), (65, (.val undef)), (66, (.val undef)), (67, (.val undef)), (68, (.val undef)), (69, (vB false)), (70, (vB false))]) ?_
                 exact o_end (w27 _ _ (wkm [0, 2, 5, 7, 9, 10, 70] (whk (whk wh_nil))) h)
     · intro N20 w20
       refine J1 (r := r) (fun (x23 : Bool) => ⟨(mkd .any 82 0 [(0, (vL Rule.c a1)), (2, (vL Col.c a3)), (5, (.ptr 0 0)), (7, (.ptr 1 0)), (9, (vI r7)), (10, (vB x15)), (11, (vI 0)), (32, (vB x23))]), [(some (.box 97 [(vS a2.fFrom), (vI a2.fHow), (vI a2.fN)])), (some (.box 93 [(vS a4.fName), (vI a4.fKind), (vS a4.fClass)]))]⟩) (f116_k21 n a2 x15 a4 a3 r7 a1) ?_ ?_
       · intro x23 h
         rw [f116_k21.eq_1] at h
         refine i_c [32] h (fun h => ?_) (fun h => ?_)
         · refine c_ops ?_
           refine o_r1 [(11, (vI 1099511627776))] ?_
           exact o_end (w20 _ _ (wkm [0, 2, 5, 7, 9, 10, 11] (whk (whk wh_nil))) h)
         · exact c_skip (w20 _ _ (wkm [0, 2, 5, 7, 9, 10, 11] (whk (whk wh_nil))) h)
       · intro N21 w21
         refine c_ops ?_
         refine o_r4 [(25, (.ptr 0 1)), (26, (vI a2.fHow)), (27, (vB (a2.fHow == 4))), (28, (vB (a2.fHow == 4)))] ?_
         refine i_o [27, 28] h (fun h => ?_) (fun h => ?_)
         · refine o_r4 [(29, (.val undef)), (30, (.val undef)), (31, (.val undef)), (32, (vB true))] ?_
           exact o_end (w21 _ _ (wkm [0, 2, 5, 7, 9, 10, 11, 32] (whk (whk wh_nil))) h)
         · refine o_r4 [(29, (.ptr 0 1)), (30, (vI a2.fHow)), (31, (vB (a2.fHow == 6))), (32, (vB (a2.fHow == 6)))] ?_
           exact o_end (w21 _ _ (wkm [0, 2, 5, 7, 9, 10, 11, 32] (whk (whk wh_nil))) h)
 · intro N13 w13
   refine c_ops ?_
   refine o_r2 [(20, (vB r10)), (21, (vB r10))] ?_
   refine i_o [10, 19, 20, 21] h (fun h => ?_) (fun h => ?_)
   · refine o_r3 [(22, (vI r7)), (23, (vB (decide (r7 < 0)))), (24, (vB (decide (r7 < 0))))] ?_
     exact o_end (w13 _ _ _ (wkm [0, 2, 5, 7, 9, 10, 24] (whk (whk wh_nil))) h)
   · refine o_r3 [(22, (.val undef)), (23, (.val undef)), (24, (vB false))] ?_
     exact o_end (w13 _ _ _ (wkm [0, 2, 5, 7, 9, 10, 24] (whk (whk wh_nil))) h)
theorem ic80 : fnIC Try.prog H0 80 = some ([.tmp 6], 120, (.seq (.ops [zO 6 (.mov (.c (.int .i64 0)))]) (.seq (.seq (.ops [zM 22 2, zO 23 (.len false (.t 22)), zO 24 (.sc (.bin .gtr 3) [(.t 23), (.c (.int .i64 24))])]) (.cond (.t 24)
  (.seq (.ops [zO 6 (.mov (.c (.int .i64 3)))]) .ret)
  .skip)) (.seq (.seq (.ops [zM 25 2, zO 26 (.len false (.t 25)), zO 27 (.mov (.c (.int .i64 0)))]) (.block 0 (.loop (.seq (.ops [zO 28 (.sc (.bin .lss 3) [(.t 27), (.t 26)])]) (.seq (.cond (.t 28)
  .skip
  (.exit 0)) (.seq (.block 1 (.seq (.ops [zM 29 27, zO 30 (.iaddr 3 (.t 25) (.t 27)), zO 31 (.ld (.t 30) 3 true), zO 8 (.alloc 0 100 [(2, 97, 3, 0)] [(.string ⟨#[]⟩), (.string ⟨#[]⟩), (.slice none 0 0)]), zM 7 29, zU (.st true 3 [(2, 97, 3, 0)] (.t 8) (.t 31))]) (.seq (.seq (.ops [zM 32 0, zO 33 (.faddr (.t 8) 0), zO 34 (.ld (.t 33) 1 false), zO 35 (.call 52 [(.t 32), (.t 34)]), zO 36 (.sc (.bin .lss 3) [(.t 35), (.c (.int .i64 0))]), zM 37 36, zN 38 37 false 1, zG 39 37 false (.faddr (.t 8) 1), zG 40 37 false (.ld (.t 39) 1 false), zG 41 37 false (.call 52 [(.t 38), (.t 40)]), zG 42 37 false (.sc (.bin .lss 3) [(.t 41), (.c (.int .i64 0))]), zO 43 (.pick (.t 37) (.c (.bool true)) (.t 42))]) (.cond (.t 43)
  (.seq (.ops [zO 6 (.mov (.c (.int .i64 4)))]) .ret)
  .skip)) (.seq (.draw [] [⟨zM 45 2, false, 0, 1⟩, ⟨zM 46 7, false, 0, 1⟩, ⟨zO 47 (.lsl 3 (.t 45) none (some (.t 46))), false, 0, 1⟩, ⟨zO 48 (.faddr (.t 8) 0), false, 0, 1⟩, ⟨zO 49 (.ld (.t 48) 1 false), false, 0, 1⟩, ⟨zO 50 (.call 78 [(.t 47), (.t 49)]), false, 0, 1⟩, ⟨zM 44 50, false, 0, 1⟩, ⟨zO 51 (.ext (.t 44) 0), false, 0, 1⟩, ⟨zO 52 (.ext (.t 44) 1), false, 0, 2⟩, ⟨zO 9 (.alloc 0 100 [(2, 97, 3, 0)] [(.string ⟨#[]⟩), (.string ⟨#[]⟩), (.slice none 0 0)]), true, 0, 1⟩, ⟨zU (.st true 3 [(2, 97, 3, 0)] (.t 9) (.t 51)), true, 1, 2⟩, ⟨zM 10 52, false, 2, 2⟩]) (.seq (.ops [zM 53 10]) (.cond (.t 53)
  (.seq (.ops [zO 6 (.mov (.c (.int .i64 6)))]) .ret)
  .skip)))))) (.ops [zO 54 (.sc (.bin .add 3) [(.t 27), (.c (.int .i64 1))]), zM 27 54]))))))) (.seq (.seq (.ops [zM 55 0, zO 56 (.len false (.t 55)), zO 57 (.mov (.c (.int .i64 0)))]) (.block 2 (.loop (.seq (.ops [zO 58 (.sc (.bin .lss 3) [(.t 57), (.t 56)])]) (.seq (.cond (.t 58)
  .skip
  (.exit 2)) (.seq (.block 3 (.seq (.ops [zO 59 (.iaddr 2 (.t 55) (.t 57)), zO 60 (.ld (.t 59) 2 true), zO 12 (.alloc 0 91 [(1, 93, 3, 0)] [(.string ⟨#[]⟩), (.slice none 0 0)]), zU (.st true 2 [(1, 93, 3, 0)] (.t 12) (.t 60))]) (.seq (.ops [zM 62 2, zO 63 (.faddr (.t 12) 0), zO 64 (.ld (.t 63) 1 false), zO 65 (.call 78 [(.t 62), (.t 64)]), zM 61 65, zO 66 (.ext (.t 61) 0), zO 67 (.ext (.t 61) 1), zO 13 (.alloc 0 100 [(2, 97, 3, 0)] [(.string ⟨#[]⟩), (.string ⟨#[]⟩), (.slice none 0 0)]), zU (.st true 3 [(2, 97, 3, 0)] (.t 13) (.t 66)), zM 14 67]) (.seq (.ops [zM 68 14, zO 69 (.sc (.un .not) [(.t 68)])]) (.cond (.t 69)
  (.seq (.ops [zO 6 (.mov (.c (.int .i64 5)))]) .ret)
  .skip))))) (.ops [zO 70 (.sc (.bin .add 3) [(.t 57), (.c (.int .i64 1))]), zM 57 70]))))))) (.seq (.seq (.ops [zM 71 2, zO 72 (.len false (.t 71)), zO 73 (.mov (.c (.int .i64 0)))]) (.block 4 (.loop (.seq (.ops [zO 74 (.sc (.bin .lss 3) [(.t 73), (.t 72)])]) (.seq (.cond (.t 74)
  .skip
  (.exit 4)) (.seq (.block 5 (.seq (.ops [zO 75 (.iaddr 3 (.t 71) (.t 73)), zO 76 (.ld (.t 75) 3 true), zO 16 (.alloc 0 100 [(2, 97, 3, 0)] [(.string ⟨#[]⟩), (.string ⟨#[]⟩), (.slice none 0 0)]), zU (.st true 3 [(2, 97, 3, 0)] (.t 16) (.t 76))]) (.seq (.draw [] [zQ (zM 77 0), zQ (zM 78 0), zQ (zO 79 (.faddr (.t 16) 0)), zQ (zO 80 (.ld (.t 79) 1 false)), zQ (zO 81 (.call 52 [(.t 78), (.t 80)])), zQ (zO 82 (.iaddr 2 (.t 77) (.t 81))), zQ (zO 83 (.faddr (.t 82) 1)), zQ (zO 84 (.ld (.t 83) 1 false)), zQ (zM 85 1), zQ (zM 86 1), zQ (zO 87 (.faddr (.t 16) 1)), zQ (zO 88 (.ld (.t 87) 1 false)), zQ (zO 89 (.call 52 [(.t 86), (.t 88)])), zQ (zO 90 (.iaddr 2 (.t 85) (.t 89))), zQ (zO 91 (.faddr (.t 90) 1)), zQ (zO 92 (.ld (.t 91) 1 false)), zQ (zM 17 84), zQ (zM 18 92)]) (.seq (.seq (.ops [zO 93 (.faddr (.t 16) 2), zO 94 (.ld (.t 93) 1 false), zO 95 (.len false (.t 94)), zM 96 18, zO 97 (.len false (.t 96)), zO 98 (.sc (.bin .neq 3) [(.t 95), (.t 97)])]) (.cond (.t 98)
  (.seq (.ops [zO 6 (.mov (.c (.int .i64 2)))]) .ret)
  .skip)) (.seq (.ops [zO 99 (.faddr (.t 16) 2), zO 100 (.ld (.t 99) 1 false), zO 101 (.len false (.t 100)), zO 102 (.mov (.c (.int .i64 0)))]) (.block 6 (.loop (.seq (.ops [zO 103 (.sc (.bin .lss 3) [(.t 102), (.t 101)])]) (.seq (.cond (.t 103)
  .skip
  (.exit 6)) (.seq (.block 7 (.seq (.ops [zM 104 102, zO 105 (.iaddr 3 (.t 100) (.t 102)), zO 106 (.ld (.t 105) 3 true), zO 20 (.alloc 0 97 [] [(.string ⟨#[]⟩), (.int .i64 0), (.int .i64 0)]), zM 19 104, zU (.st true 3 [] (.t 20) (.t 106))]) (.seq (.draw [] [zQ (zM 107 2), zQ (zO 108 (.ld (.t 20) 3 true)), zQ (zM 109 17), zQ (zM 110 18), zQ (zM 111 19), zQ (zO 112 (.iaddr 3 (.t 110) (.t 111))), zQ (zO 113 (.ld (.t 112) 3 true)), zQ (zO 114 (.call 116 [(.t 107), (.t 108), (.t 109), (.t 113)])), zQ (zM 21 114)]) (.seq (.ops [zM 115 21, zO 116 (.sc (.bin .neq 30) [(.t 115), (.c (.int .i64 0))])]) (.cond (.t 116)
  (.seq (.ops [zM 117 21, zM 6 117]) .ret)
  .skip))))) (.ops [zO 118 (.sc (.bin .add 3) [(.t 102), (.c (.int .i64 1))]), zM 102 118]))))))))))) (.ops [zO 119 (.sc (.bin .add 3) [(.t 73), (.c (.int .i64 1))]), zM 73 119]))))))) (.seq (.ops [zO 6 (.mov (.c (.int .i64 0)))]) .ret))))))) := by kernel_rfl
def f80_k51 (a3 : (List Rule)) (x41 : Int) (n : Nat) (x48 : Rule) (c14k : Int → Option Int) (x57 : Bool) : Option Int := (bif x57 then some 4 else ((sli a3 0 x41).bind fun l61 => ((f78 n l61 x48.fClass).bind fun r63 => (bif r63.2 then some 6 else (c14k (wr .i64 (x41 + 1)))))))
def f80_k171 (x167 : Int) (c106k : Int → Option Int) : Option Int := (c106k (wr .i64 (x167 + 1)))
def f80_l194 (x174 : Rule) (x183 : Form) (n : Nat) (a3 : (List Rule)) (x179 : Form) (k171k : Option Int) : Nat → Int → Option Int
  | 0, _ => none
  | m194 + 1, x211 => (bif (decide (x211 < (len x174.fGives))) then ((gi x174.fGives x211).bind fun x218 => ((gi x183.fCols x211).bind fun x221 => ((f116 n a3 x218 x179.fCols x221).bind fun r223 => (bif (r223 != 0) then some r223 else (f80_l194 x174 x183 n a3 x179 (k171k) m194 (wr .i64 (x211 + 1))))))) else (k171k))
def f80_k102 : Option Int := some 0
def f80_l106 (a3 : (List Rule)) (n : Nat) (a1 : (List Form)) (a2 : (List Form)) (k102k : Option Int) : Nat → Int → Option Int
  | 0, _ => none
  | m106 + 1, x167 => (bif (decide (x167 < (len a3))) then ((gi a3 x167).bind fun x174 => ((f52 n a1 x174.fClass).bind fun r177 => ((gi a1 r177).bind fun x179 => ((f52 n a2 x174.fTo).bind fun r181 => ((gi a2 r181).bind fun x183 => (bif ((len x174.fGives) != (len x183.fCols)) then some 2 else (f80_l194 x174 x183 n a3 x179 (f80_k171 x167 (f80_l106 a3 n a1 a2 (k102k) m106)) n 0))))))) else (k102k))
def f80_k68 (n : Nat) (a3 : (List Rule)) (a1 : (List Form)) (a2 : (List Form)) : Option Int := (f80_l106 a3 n a1 a2 (f80_k102) n 0)
def f80_l72 (a1 : (List Form)) (n : Nat) (a3 : (List Rule)) (k68k : Option Int) : Nat → Int → Option Int
  | 0, _ => none
  | m72 + 1, x87 => (bif (decide (x87 < (len a1))) then ((gi a1 x87).bind fun x94 => ((f78 n a3 x94.fName).bind fun r97 => (bif (!r97.2) then some 5 else (f80_l72 a1 n a3 (k68k) m72 (wr .i64 (x87 + 1)))))) else (k68k))
def f80_k10 (n : Nat) (a1 : (List Form)) (a3 : (List Rule)) (a2 : (List Form)) : Option Int := (f80_l72 a1 n a3 (f80_k68 n a3 a1 a2) n 0)
def f80_l14 (a3 : (List Rule)) (n : Nat) (a1 : (List Form)) (a2 : (List Form)) (k10k : Option Int) : Nat → Int → Option Int
  | 0, _ => none
  | m14 + 1, x41 => (bif (decide (x41 < (len a3))) then ((gi a3 x41).bind fun x48 => ((f52 n a1 x48.fClass).bind fun r52 => (bif (decide (r52 < 0)) then (f80_k51 a3 x41 n x48 (f80_l14 a3 n a1 a2 (k10k) m14) true) else ((f52 n a2 x48.fTo).bind fun r55 => (f80_k51 a3 x41 n x48 (f80_l14 a3 n a1 a2 (k10k) m14) (decide (r55 < 0))))))) else (k10k))
def f80 (n : Nat) (a1 : (List Form)) (a2 : (List Form)) (a3 : (List Rule)) : Option Int := (bif (decide ((len a3) > 24)) then some 3 else (f80_l14 a3 n a1 a2 (f80_k10 n a1 a3 a2) n 0))
def f80_r (r : Int) : AV := (vI r)
theorem p_f80 {n : Nat} {a1 : (List Form)} {a2 : (List Form)} {a3 : (List Rule)} {r : Int} (h : f80 n a1 a2 a3 = some r) : PureSpec Try.prog 80 [(vL Form.c a1), (vL Form.c a2), (vL Rule.c a3)] (f80_r r) := by
 rw [f80.eq_1] at h
 refine pure_of hmix ic80 ?_
 refine go_to (mkd (.val undef) 120 0 [(0, (vL Form.c a1)), (1, (vL Form.c a2)), (2, (vL Rule.c a3))]) ?_
 refine s_so fun N4 k4 w4 => ?_
 refine o_r1 [(6, (vI 0))] ?_
 refine o_end (k4 _ ?_)
 refine s_seq fun N5 k5 w5 => ?_
 refine s_so fun N6 k6 w6 => ?_
 refine o_r1 [(22, (vL Rule.c a3))] ?_
 refine o_o (one_len (f := Rule.c) (l := a3)) ?_
 refine o_r1 [(24, (vB (decide ((len a3) > 24))))] ?_
 refine o_end (k6 _ ?_)
 refine i_c [24] h (fun h => ?_) (fun h => ?_)
 · refine s_so fun N9 k9 w9 => ?_
   refine o_r1 [(6, (vI 3))] ?_
   refine o_end (k9 _ ?_)
   exact c_ret (rets [] [(vI 3)] [(vI 3)] h)
 · refine c_skip (k5 _ ?_)
   refine J0 (r := r) ⟨(mkd .any 120 0 [(0, (vL Form.c a1)), (1, (vL Form.c a2)), (2, (vL Rule.c a3))]), []⟩ (f80_k10 n a1 a3 a2) ?_ ?_
   · intro h
     rw [f80_k10.eq_1] at h
     refine J0 (r := r) ⟨(mkd .any 120 0 [(0, (vL Form.c a1)), (1, (vL Form.c a2)), (2, (vL Rule.c a3))]), []⟩ (f80_k68 n a3 a1 a2) ?_ ?_
     · intro h
       rw [f80_k68.eq_1] at h
       refine J0 (r := r) ⟨(mkd .any 120 0 []), []⟩ (f80_k102) ?_ ?_
       · intro h
         rw [f80_k102.eq_1] at h
         refine s_so fun N228 k228 w228 => ?_
         refine o_r1 [(6, (vI 0))] ?_
         refine o_end (k228 _ ?_)
         exact c_ret (rets [] [(vI 0)] [(vI 0)] h)
       · intro N102 w102
         refine s_so fun N103 k103 w103 => ?_
         refine o_r1 [(71, (vL Rule.c a3))] ?_
         refine o_o (one_len (f := Rule.c) (l := a3)) ?_
         refine o_r1 [(73, (vI 0))] ?_
         refine o_end (k103 _ ?_)
         refine c_block fun E105 hE105 hO105 => ?_
         refine W1 (fun (x167 : Int) => ⟨(mkd .any 120 0 [(0, (vL Form.c a1)), (1, (vL Form.c a2)), (2, (vL Rule.c a3)), (71, (vL Rule.c a3)), (72, (vI (len a3))), (73, (vI x167))]), []⟩) (f80_l106 a3 n a1 a2 (f80_k102)) h (wkm [0, 1, 2, 71, 72, 73] wh_nil) (by intros; rw [f80_l106.eq_1]) ?_
         intro m106 x167 h N106 w106
         rw [f80_l106.eq_2] at h
         refine s_so fun N168 k168 w168 => ?_
         refine o_r1 [(74, (vB (decide (x167 < (len a3)))))] ?_
         refine o_end (k168 _ ?_)
         refine s_seq fun N169 k169 w169 => ?_
         refine i_c [74] h (fun h => ?_) (fun h => ?_)
         · refine c_skip (k169 _ ?_)
           refine J0 (r := r) ⟨(mkd .any 120 0 [(0, (vL Form.c a1)), (1, (vL Form.c a2)), (2, (vL Rule.c a3)), (71, (vL Rule.c a3)), (72, (vI (len a3))), (73, (vI x167))]), []⟩ (f80_k171 x167 (f80_l106 a3 n a1 a2 (f80_k102) m106)) ?_ ?_
           · intro h
             rw [f80_k171.eq_1] at h
             refine c_ops ?_
             refine o_r2 [(73, (vI (wr .i64 (x167 + 1)))), (119, (vI (wr .i64 (x167 + 1))))] ?_
             exact o_end (w106 _ _ (wkm [0, 1, 2, 71, 72, 73] wh_nil) h)
           · intro N171 w171
             refine c_block fun E172 hE172 hO172 => ?_
             refine s_so fun N173 k173 w173 => ?_
             refine bnd h fun x174 g175 h => ?_
             refine o_o (one_ia (f := Rule.c) (ki := .i64) g175) ?_
             refine o_h3 [(16, (.ptr 1 0)), (76, (.agg [(vS x174.fClass), (vS x174.fTo), (vL Give.c x174.fGives)]))] [(some (.row 97 3 (List.map Give.c []))), (some (.box 100 [(vS x174.fClass), (vS x174.fTo), (vL Give.c x174.fGives)]))] ?_
             refine o_end (k173 _ ?_)
             refine s_seq fun N176 k176 w176 => ?_
             refine c_draw0 ?_
             refine d_r4 [(77, (vL Form.c a1)), (78, (vL Form.c a1)), (79, (.ptr 1 0)), (80, (vS x174.fClass))] ?_
             refine bnd h fun r177 g178 h => ?_
             refine d_o (one_call (p_f52 g178)) ?_
             refine bnd h fun x179 g180 h => ?_
             refine d_o (one_ia (f := Form.c) (ki := .i64) g180) ?_
             refine d_r6 [(83, (.iptr [(vL Col.c x179.fCols)])), (84, (vL Col.c x179.fCols)), (85, (vL Form.c a2)), (86, (vL Form.c a2)), (87, (.ptr 1 1)), (88, (vS x174.fTo))] ?_
             refine bnd h fun r181 g182 h => ?_
             refine d_o (one_call (p_f52 g182)) ?_
             refine bnd h fun x183 g184 h => ?_
             refine d_o (one_ia (f := Form.c) (ki := .i64) g184) ?_
             refine d_r4 [(17, (vL Col.c x179.fCols)), (18, (vL Col.c x183.fCols)), (91, (.iptr [(vL Col.c x183.fCols)])), (92, (vL Col.c x183.fCols))] ?_
             refine d_end (w176 _ ⟨(mkd .any 120 0 [(0, (vL Form.c a1)), (1, (vL Form.c a2)), (2, (vL Rule.c a3)), (16, (.ptr 1 0)), (17, (vL Col.c x179.fCols)), (18, (vL Col.c x183.fCols)), (71, (vL Rule.c a3)), (72, (vI (len a3))), (73, (vI x167))]), [none, (some (.box 100 [(vS x174.fClass), (vS x174.fTo), (vL Give.c x174.fGives)]))]⟩ (wkm [0, 1, 2, 16, 17, 18, 71, 72, 73] (wh_drop (whk wh_nil))) ?_)
             refine s_seq fun N185 k185 w185 => ?_
             refine s_so fun N186 k186 w186 => ?_
             refine o_r2 [(93, (.ptr 1 2)), (94, (vL Give.c x174.fGives))] ?_
             refine o_o (one_len (f := Give.c) (l := x174.fGives)) ?_
             refine o_r1 [(96, (vL Col.c x183.fCols))] ?_
             refine o_o (one_len (f := Col.c) (l := x183.fCols)) ?_
             refine o_r1 [(98, (vB ((len x174.fGives) != (len x183.fCols))))] ?_
             refine o_end (k186 _ ?_)
             refine i_c [98] h (fun h => ?_) (fun h => ?_)
             · refine s_so fun N190 k190 w190 => ?_
               refine o_r1 [(6, (vI 2))] ?_
               refine o_end (k190 _ ?_)
               exact c_ret (rets [] [(vI 2)] [(vI 2)] h)
             · refine c_skip (k185 _ ?_)
               refine s_so fun N191 k191 w191 => ?_
               refine o_r2 [(99, (.ptr 1 2)), (100, (vL Give.c x174.fGives))] ?_
               refine o_o (one_len (f := Give.c) (l := x174.fGives)) ?_
               refine o_r1 [(102, (vI 0))] ?_
               refine o_end (k191 _ ?_)
               refine c_block fun E193 hE193 hO193 => ?_
               refine W1 (fun (x211 : Int) => ⟨(mkd .any 120 0 [(0, (vL Form.c a1)), (1, (vL Form.c a2)), (2, (vL Rule.c a3)), (17, (vL Col.c x179.fCols)), (18, (vL Col.c x183.fCols)), (71, (vL Rule.c a3)), (72, (vI (len a3))), (73, (vI x167)), (100, (vL Give.c x174.fGives)), (101, (vI (len x174.fGives))), (102, (vI x211))]), []⟩) (f80_l194 x174 x183 n a3 x179 (f80_k171 x167 (f80_l106 a3 n a1 a2 (f80_k102) m106))) h (wkm [0, 1, 2, 17, 18, 71, 72, 73, 100, 101, 102] wh_nil) (by intros; rw [f80_l194.eq_1]) ?_
               intro m194 x211 h N194 w194
               rw [f80_l194.eq_2] at h
               refine s_so fun N212 k212 w212 => ?_
               refine o_r1 [(103, (vB (decide (x211 < (len x174.fGives)))))] ?_
               refine o_end (k212 _ ?_)
               refine s_seq fun N213 k213 w213 => ?_
               refine i_c [103] h (fun h => ?_) (fun h => ?_)
               · refine c_skip (k213 _ ?_)
                 refine s_seq fun N215 k215 w215 => ?_
                 refine c_block fun E216 hE216 hO216 => ?_
                 refine s_so fun N217 k217 w217 => ?_
                 refine o_r1 [(104, (vI x211))] ?_
                 refine bnd h fun x218 g219 h => ?_
                 refine o_o (one_ia (f := Give.c) (ki := .i64) g219) ?_
                 refine o_h4 [(19, (vI x211)), (20, (.ptr 0 0)), (106, (.agg [(vS x218.fFrom), (vI x218.fHow), (vI x218.fN)]))] [(some (.box 97 [(vS x218.fFrom), (vI x218.fHow), (vI x218.fN)]))] ?_
                 refine o_end (k217 _ ?_)
                 refine s_seq fun N220 k220 w220 => ?_
                 refine c_draw0 ?_
                 refine d_r5 [(107, (vL Rule.c a3)), (108, (.agg [(vS x218.fFrom), (vI x218.fHow), (vI x218.fN)])), (109, (vL Col.c x179.fCols)), (110, (vL Col.c x183.fCols)), (111, (vI x211))] ?_
                 refine bnd h fun x221 g222 h => ?_
                 refine d_o (one_ia (f := Col.c) (ki := .i64) g222) ?_
                 refine d_r1 [(113, (.agg [(vS x221.fName), (vI x221.fKind), (vS x221.fClass)]))] ?_
                 refine bnd h fun r223 g224 h => ?_
                 refine d_o (one_call (p_f116 g224)) ?_
                 refine d_r1 [(21, (vI r223))] ?_
                 refine d_end (k220 _ ?_)
                 refine s_so fun N225 k225 w225 => ?_
                 refine o_r2 [(115, (vI r223)), (116, (vB (r223 != 0)))] ?_
                 refine o_end (k225 _ ?_)
                 refine i_c [116] h (fun h => ?_) (fun h => ?_)
                 · refine s_so fun N227 k227 w227 => ?_
                   refine o_r2 [(6, (vI r223)), (117, (vI r223))] ?_
                   refine s_tm (mkd .any 120 0 [(0, (vL Form.c a1)), (1, (vL Form.c a2)), (2, (vL Rule.c a3)), (6, (vI r223)), (17, (vL Col.c x179.fCols)), (18, (vL Col.c x183.fCols)), (19, (vI x211)), (20, (.ptr 0 0)), (21, (vI r223)), (71, (vL Rule.c a3)), (72, (vI (len a3))), (73, (vI x167)), (100, (vL Give.c x174.fGives)), (101, (vI (len x174.fGives))), (102, (vI x211)), (103, (vB true)), (104, (vI x211)), (105, (.iptr [(vS x218.fFrom), (vI x218.fHow), (vI x218.fN)])), (106, (.agg [(vS x218.fFrom), (vI x218.fHow), (vI x218.fN)])), (107, (vL Rule.c a3)), (108, (.agg [(vS x218.fFrom), (vI x218.fHow), (vI x218.fN)])), (109, (vL Col.c x179.fCols)), (110, (vL Col.c x183.fCols)), (111, (vI x211)), (112, (.iptr [(vS x221.fName), (vI x221.fKind), (vS x221.fClass)])), (113, (.agg [(vS x221.fName), (vI x221.fKind), (vS x221.fClass)])), (114, (vI r223)), (115, (vI r223)), (116, (vB true)), (117, (vI r223))]) ?_
                   refine o_end (w227 _ ⟨(mkd .any 120 0 [(6, (vI r223))]), []⟩ (wkm [6] wh_nil) ?_)
                   exact c_ret (rets [] [(vI r223)] [(vI r223)] h)
                 · refine c_skip (w215 _ ⟨(mkd .any 120 0 [(0, (vL Form.c a1)), (1, (vL Form.c a2)), (2, (vL Rule.c a3)), (17, (vL Col.c x179.fCols)), (18, (vL Col.c x183.fCols)), (71, (vL Rule.c a3)), (72, (vI (len a3))), (73, (vI x167)), (100, (vL Give.c x174.fGives)), (101, (vI (len x174.fGives))), (102, (vI x211))]), []⟩ (wkm [0, 1, 2, 17, 18, 71, 72, 73, 100, 101, 102] wh_nil) ?_)
                   refine c_ops ?_
                   refine o_r2 [(102, (vI (wr .i64 (x211 + 1)))), (118, (vI (wr .i64 (x211 + 1))))] ?_
                   exact o_end (w194 _ _ (wkm [0, 1, 2, 17, 18, 71, 72, 73, 100, 101, 102] wh_nil) h)
               · refine c_exit (hE193 _ ?_)
                 exact w171 _ (wkm [0, 1, 2, 71, 72, 73] wh_nil) h
         · refine c_exit (hE105 _ ?_)
           exact w102 _ (wkm [] wh_nil) h
     · intro N68 w68
       refine s_so fun N69 k69 w69 => ?_
       refine o_r1 [(55, (vL Form.c a1))] ?_
       refine o_o (one_len (f := Form.c) (l := a1)) ?_
       refine o_r1 [(57, (vI 0))] ?_
       refine o_end (k69 _ ?_)
       refine c_block fun E71 hE71 hO71 => ?_
       refine W1 (fun (x87 : Int) => ⟨(mkd .any 120 0 [(0, (vL Form.c a1)), (1, (vL Form.c a2)), (2, (vL Rule.c a3)), (55, (vL Form.c a1)), (56, (vI (len a1))), (57, (vI x87))]), []⟩) (f80_l72 a1 n a3 (f80_k68 n a3 a1 a2)) h (wkm [0, 1, 2, 55, 56, 57] wh_nil) (by intros; rw [f80_l72.eq_1]) ?_
       intro m72 x87 h N72 w72
       rw [f80_l72.eq_2] at h
       refine s_so fun N88 k88 w88 => ?_
       refine o_r1 [(58, (vB (decide (x87 < (len a1)))))] ?_
       refine o_end (k88 _ ?_)
       refine s_seq fun N89 k89 w89 => ?_
       refine i_c [58] h (fun h => ?_) (fun h => ?_)
       · refine c_skip (k89 _ ?_)
         refine s_seq fun N91 k91 w91 => ?_
         refine c_block fun E92 hE92 hO92 => ?_
         refine s_so fun N93 k93 w93 => ?_
         refine bnd h fun x94 g95 h => ?_
         refine o_o (one_ia (f := Form.c) (ki := .i64) g95) ?_
         refine o_h3 [(12, (.ptr 1 0)), (60, (.agg [(vS x94.fName), (vL Col.c x94.fCols)]))] [(some (.row 93 3 (List.map Col.c []))), (some (.box 91 [(vS x94.fName), (vL Col.c x94.fCols)]))] ?_
         refine o_end (k93 _ ?_)
         refine s_so fun N96 k96 w96 => ?_
         refine o_r3 [(62, (vL Rule.c a3)), (63, (.ptr 1 0)), (64, (vS x94.fName))] ?_
         refine bnd h fun r97 g98 h => ?_
         refine o_o (one_call (p_f78 g98)) ?_
         refine o_h6 [(13, (.ptr 3 0)), (14, (vB r97.2)), (61, (.tup [(.agg [(vS r97.1.fClass), (vS r97.1.fTo), (vL Give.c r97.1.fGives)]), (vB r97.2)])), (66, (.agg [(vS r97.1.fClass), (vS r97.1.fTo), (vL Give.c r97.1.fGives)])), (67, (vB r97.2))] [(some (.row 93 3 (List.map Col.c []))), (some (.box 91 [(vS x94.fName), (vL Col.c x94.fCols)])), (some (.row 97 3 (List.map Give.c []))), (some (.box 100 [(vS r97.1.fClass), (vS r97.1.fTo), (vL Give.c r97.1.fGives)]))] ?_
         refine o_end (k96 _ ?_)
         refine s_so fun N99 k99 w99 => ?_
         refine o_r2 [(68, (vB r97.2)), (69, (vB (!r97.2)))] ?_
         refine o_end (k99 _ ?_)
         refine i_c [69] h (fun h => ?_) (fun h => ?_)
         · refine s_so fun N101 k101 w101 => ?_
           refine o_r1 [(6, (vI 5))] ?_
           refine o_end (w101 _ ⟨(mkd .any 120 0 [(6, (vI 5))]), []⟩ (wkm [6] wh_nil) ?_)
           exact c_ret (rets [] [(vI 5)] [(vI 5)] h)
         · refine c_skip (k91 _ ?_)
           refine c_ops ?_
           refine o_r2 [(57, (vI (wr .i64 (x87 + 1)))), (70, (vI (wr .i64 (x87 + 1))))] ?_
           exact o_end (w72 _ _ (wkm [0, 1, 2, 55, 56, 57] wh_nil) h)
       · refine c_exit (hE71 _ ?_)
         exact w68 _ (wkm [0, 1, 2] wh_nil) h
   · intro N10 w10
     refine s_so fun N11 k11 w11 => ?_
     refine o_r1 [(25, (vL Rule.c a3))] ?_
     refine o_o (one_len (f := Rule.c) (l := a3)) ?_
     refine o_r1 [(27, (vI 0))] ?_
     refine o_end (k11 _ ?_)
     refine c_block fun E13 hE13 hO13 => ?_
     refine W1 (fun (x41 : Int) => ⟨(mkd .any 120 0 [(0, (vL Form.c a1)), (1, (vL Form.c a2)), (2, (vL Rule.c a3)), (25, (vL Rule.c a3)), (26, (vI (len a3))), (27, (vI x41))]), []⟩) (f80_l14 a3 n a1 a2 (f80_k10 n a1 a3 a2)) h (wkm [0, 1, 2, 25, 26, 27] wh_nil) (by intros; rw [f80_l14.eq_1]) ?_
     intro m14 x41 h N14 w14
     rw [f80_l14.eq_2] at h
     refine s_so fun N42 k42 w42 => ?_
     refine o_r1 [(28, (vB (decide (x41 < (len a3)))))] ?_
     refine o_end (k42 _ ?_)
     refine s_seq fun N43 k43 w43 => ?_
     refine i_c [28] h (fun h => ?_) (fun h => ?_)
     · refine c_skip (k43 _ ?_)
       refine s_seq fun N45 k45 w45 => ?_
       refine c_block fun E46 hE46 hO46 => ?_
       refine s_so fun N47 k47 w47 => ?_
       refine o_r1 [(29, (vI x41))] ?_
       refine bnd h fun x48 g49 h => ?_
       refine o_o (one_ia (f := Rule.c) (ki := .i64) g49) ?_
       refine o_h4 [(7, (vI x41)), (8, (.ptr 1 0)), (31, (.agg [(vS x48.fClass), (vS x48.fTo), (vL Give.c x48.fGives)]))] [(some (.row 97 3 (List.map Give.c []))), (some (.box 100 [(vS x48.fClass), (vS x48.fTo), (vL Give.c x48.fGives)]))] ?_
       refine o_end (k47 _ ?_)
       refine s_seq fun N50 k50 w50 => ?_
       refine J1 (r := r) (fun (x57 : Bool) => ⟨(mkd .any 120 0 [(0, (vL Form.c a1)), (1, (vL Form.c a2)), (2, (vL Rule.c a3)), (7, (vI x41)), (8, (.ptr 1 0)), (25, (vL Rule.c a3)), (26, (vI (len a3))), (27, (vI x41)), (43, (vB x57))]), [none, (some (.box 100 [(vS x48.fClass), (vS x48.fTo), (vL Give.c x48.fGives)]))]⟩) (f80_k51 a3 x41 n x48 (f80_l14 a3 n a1 a2 (f80_k10 n a1 a3 a2) m14)) ?_ ?_
       · intro x57 h
         rw [f80_k51.eq_1] at h
         refine i_c [43] h (fun h => ?_) (fun h => ?_)
         · refine s_so fun N59 k59 w59 => ?_
           refine o_r1 [(6, (vI 4))] ?_
           refine o_end (k59 _ ?_)
           exact c_ret (rets [] [(vI 4)] [(vI 4)] h)
         · refine c_skip (k50 _ ?_)
           refine s_seq fun N60 k60 w60 => ?_
           refine c_draw0 ?_
           refine d_r2 [(45, (vL Rule.c a3)), (46, (vI x41))] ?_
           refine bnd h fun l61 g62 h => ?_
           refine d_o (one_lsl (f := Rule.c) g62 (fun _ => rfl)) ?_
           refine d_r2 [(48, (.ptr 1 0)), (49, (vS x48.fClass))] ?_
           refine bnd h fun r63 g64 h => ?_
           refine d_o (one_call (p_f78 g64)) ?_
           refine d_r3 [(44, (.tup [(.agg [(vS r63.1.fClass), (vS r63.1.fTo), (vL Give.c r63.1.fGives)]), (vB r63.2)])), (51, (.agg [(vS r63.1.fClass), (vS r63.1.fTo), (vL Give.c r63.1.fGives)])), (52, (vB r63.2))] ?_
           refine d_te (.ptr 3 0) [none, (some (.box 100 [(vS x48.fClass), (vS x48.fTo), (vL Give.c x48.fGives)])), (some (.row 97 3 (List.map Give.c []))), (some (.box 100 [(vS (ByteArray.mk #[])), (vS (ByteArray.mk #[])), (.own 2 0)]))] (ra_cat (ra_cat (ra_cat (ra_cat (ra_cat ra_nil (ra_t (ra_t ra_nil))) (ra_o (one_lsl (f := Rule.c) g62 (fun _ => rfl)) ra_nil)) (ra_t (ra_t ra_nil))) (ra_o (one_call (p_f78 g64)) ra_nil)) (ra_t (ra_t (ra_t ra_nil)))) ?_
           refine d_te (.val undef) [none, (some (.box 100 [(vS x48.fClass), (vS x48.fTo), (vL Give.c x48.fGives)])), (some (.row 97 3 (List.map Give.c []))), (some (.box 100 [(vS r63.1.fClass), (vS r63.1.fTo), (vL Give.c r63.1.fGives)]))] (ra_cat (ra_cat (ra_cat (ra_cat (ra_cat ra_nil (ra_s (ra_s ra_nil))) (ra_s ra_nil)) (ra_s (ra_s ra_nil))) (ra_s ra_nil)) (ra_s (ra_s (ra_t ra_nil)))) ?_
           refine d_r1 [(10, (vB r63.2))] ?_
           refine d_end (k60 _ ?_)
           refine s_so fun N65 k65 w65 => ?_
           refine o_r1 [(53, (vB r63.2))] ?_
           refine o_end (k65 _ ?_)
           refine i_c [10, 52, 53] h (fun h => ?_) (fun h => ?_)
           · refine s_so fun N67 k67 w67 => ?_
             refine o_r1 [(6, (vI 6))] ?_
             refine s_tm (mkd .any 120 0 [(0, (vL Form.c a1)), (1, (vL Form.c a2)), (2, (vL Rule.c a3)), (6, (vI 6)), (7, (vI x41)), (8, (.ptr 1 0)), (9, (.ptr 3 0)), (10, (vB true)), (25, (vL Rule.c a3)), (26, (vI (len a3))), (27, (vI x41)), (43, (vB false)), (44, (.tup [(.agg [(vS r63.1.fClass), (vS r63.1.fTo), (vL Give.c r63.1.fGives)]), (vB r63.2)])), (45, (vL Rule.c a3)), (46, (vI x41)), (47, (vL Rule.c l61)), (48, (.ptr 1 0)), (49, (vS x48.fClass)), (50, (.tup [(.agg [(vS r63.1.fClass), (vS r63.1.fTo), (vL Give.c r63.1.fGives)]), (vB r63.2)])), (51, (.agg [(vS r63.1.fClass), (vS r63.1.fTo), (vL Give.c r63.1.fGives)])), (52, (vB true)), (53, (vB true))]) ?_
             refine o_end (w67 _ ⟨(mkd .any 120 0 [(6, (vI 6))]), []⟩ (wkm [6] wh_nil) ?_)
             exact c_ret (rets [] [(vI 6)] [(vI 6)] h)
           · refine c_skip (k45 _ ?_)
             refine c_ops ?_
             refine o_r2 [(27, (vI (wr .i64 (x41 + 1)))), (54, (vI (wr .i64 (x41 + 1))))] ?_
             refine s_tm (mkd .any 120 0 [(0, (vL Form.c a1)), (1, (vL Form.c a2)), (2, (vL Rule.c a3)), (7, (vI x41)), (8, (.ptr 1 0)), (9, (.ptr 3 0)), (10, (vB false)), (25, (vL Rule.c a3)), (26, (vI (len a3))), (27, (vI (wr .i64 (x41 + 1)))), (43, (vB false)), (44, (.tup [(.agg [(vS r63.1.fClass), (vS r63.1.fTo), (vL Give.c r63.1.fGives)]), (vB r63.2)])), (45, (vL Rule.c a3)), (46, (vI x41)), (47, (vL Rule.c l61)), (48, (.ptr 1 0)), (49, (vS x48.fClass)), (50, (.tup [(.agg [(vS r63.1.fClass), (vS r63.1.fTo), (vL Give.c r63.1.fGives)]), (vB r63.2)])), (51, (.agg [(vS r63.1.fClass), (vS r63.1.fTo), (vL Give.c r63.1.fGives)])), (52, (vB false)), (53, (vB false)), (54, (vI (wr .i64 (x41 + 1))))]) ?_
             exact o_end (w14 _ _ (wkm [0, 1, 2, 25, 26, 27] wh_nil) h)
       · intro N51 w51
         refine c_ops ?_
         refine o_r3 [(32, (vL Form.c a1)), (33, (.ptr 1 0)), (34, (vS x48.fClass))] ?_
         refine bnd h fun r52 g53 h => ?_
         refine o_o (one_call (p_f52 g53)) ?_
         refine o_r2 [(36, (vB (decide (r52 < 0)))), (37, (vB (decide (r52 < 0))))] ?_
         refine i_o [36, 37] h (fun h => ?_) (fun h => ?_)
         · refine o_r6 [(38, (.val undef)), (39, (.val undef)), (40, (.val undef)), (41, (.val undef)), (42, (.val undef)), (43, (vB true))] ?_
           exact o_end (w51 _ _ (wkm [0, 1, 2, 7, 8, 25, 26, 27, 43] (wh_drop (whk wh_nil))) h)
         · refine o_r3 [(38, (vL Form.c a2)), (39, (.ptr 1 1)), (40, (vS x48.fTo))] ?_
           refine bnd h fun r55 g56 h => ?_
           refine o_g ?_
           refine o_o (one_call (p_f52 g56)) ?_
           refine o_r2 [(42, (vB (decide (r55 < 0)))), (43, (vB (decide (r55 < 0))))] ?_
           refine s_tm (mkd .any 120 0 [(0, (vL Form.c a1)), (1, (vL Form.c a2)), (2, (vL Rule.c a3)), (7, (vI x41)), (8, (.ptr 1 0)), (25, (vL Rule.c a3)), (26, (vI (len a3))), (27, (vI x41)), (28, (vB true)), (29, (vI x41)), (30, (.iptr [(vS x48.fClass), (vS x48.fTo), (vL Give.c x48.fGives)])), (31, (.agg [(vS x48.fClass), (vS x48.fTo), (vL Give.c x48.fGives)])), (32, (vL Form.c a1)), (33, (.ptr 1 0)), (34, (vS x48.fClass)), (35, (vI r52)), (36, (vB false)), (37, (vB false)), (38, (vL Form.c a2)), (39, (.ptr 1 1)), (40, (vS x48.fTo)), (41, (vI r55)), (42, (vB (decide (r55 < 0)))), (43, (vB (decide (r55 < 0))))]) ?_
           exact o_end (w51 _ _ (wkm [0, 1, 2, 7, 8, 25, 26, 27, 43] (wh_drop (whk wh_nil))) h)
     · refine c_exit (hE13 _ ?_)
       exact w10 _ (wkm [0, 1, 2] wh_nil) h
theorem ic33 : fnIC Try.prog H0 33 = some ([.tmp 6], 21, (.seq (.ops [zO 6 (.mov (.c (.int .i64 0)))]) (.seq (.seq (.ops [zM 8 0, zO 9 (.call 16 [(.t 8)]), zM 10 1, zO 11 (.call 16 [(.t 10)]), zO 12 (.isl 1 [(.t 9), (.t 11)]), zO 13 (.call 49 [(.t 12)]), zM 7 13]) (.seq (.ops [zM 14 7, zO 15 (.sc (.bin .neq 30) [(.t 14), (.c (.int .i64 0))])]) (.cond (.t 15)
  (.seq (.ops [zM 16 7, zM 6 16]) .ret)
  .skip))) (.seq (.ops [zM 17 0, zM 18 1, zM 19 2, zO 20 (.call 80 [(.t 17), (.t 18), (.t 19)]), zM 6 20]) .ret)))) := by kernel_rfl
def f33 (n : Nat) (a1 : (List Form)) (a2 : (List Form)) (a3 : (List Rule)) : Option Int := ((f16 n a1).bind fun r7 => ((f16 n a2).bind fun r9 => ((f49 n [r7, r9]).bind fun r11 => (bif (r11 != 0) then some r11 else ((f80 n a1 a2 a3).bind fun r17 => some r17)))))
def f33_r (r : Int) : AV := (vI r)
theorem p_f33 {n : Nat} {a1 : (List Form)} {a2 : (List Form)} {a3 : (List Rule)} {r : Int} (h : f33 n a1 a2 a3 = some r) : PureSpec Try.prog 33 [(vL Form.c a1), (vL Form.c a2), (vL Rule.c a3)] (f33_r r) := by
 rw [f33.eq_1] at h
 refine pure_of hmix ic33 ?_
 refine go_to (mkd (.val undef) 21 0 [(0, (vL Form.c a1)), (1, (vL Form.c a2)), (2, (vL Rule.c a3))]) ?_
 refine s_so fun N4 k4 w4 => ?_
 refine o_r1 [(6, (vI 0))] ?_
 refine o_end (k4 _ ?_)
 refine s_seq fun N5 k5 w5 => ?_
 refine s_so fun N6 k6 w6 => ?_
 refine o_r1 [(8, (vL Form.c a1))] ?_
 refine bnd h fun r7 g8 h => ?_
 refine o_o (one_call (p_f16 g8)) ?_
 refine o_r1 [(10, (vL Form.c a2))] ?_
 refine bnd h fun r9 g10 h => ?_
 refine o_o (one_call (p_f16 g10)) ?_
 refine o_r1 [(12, (vL cI [r7, r9]))] ?_
 refine bnd h fun r11 g12 h => ?_
 refine o_o (one_call (p_f49 g12)) ?_
 refine o_r1 [(7, (vI r11))] ?_
 refine o_end (k6 _ ?_)
 refine s_so fun N13 k13 w13 => ?_
 refine o_r2 [(14, (vI r11)), (15, (vB (r11 != 0)))] ?_
 refine o_end (k13 _ ?_)
 refine i_c [15] h (fun h => ?_) (fun h => ?_)
 · refine s_so fun N15 k15 w15 => ?_
   refine o_r2 [(6, (vI r11)), (16, (vI r11))] ?_
   refine o_end (k15 _ ?_)
   exact c_ret (rets [] [(vI r11)] [(vI r11)] h)
 · refine c_skip (k5 _ ?_)
   refine s_so fun N16 k16 w16 => ?_
   refine o_r3 [(17, (vL Form.c a1)), (18, (vL Form.c a2)), (19, (vL Rule.c a3))] ?_
   refine bnd h fun r17 g18 h => ?_
   refine o_o (one_call (p_f80 g18)) ?_
   refine o_r1 [(6, (vI r17))] ?_
   refine s_tm (mkd (.val undef) 21 0 [(0, (vL Form.c a1)), (1, (vL Form.c a2)), (2, (vL Rule.c a3)), (6, (vI r17)), (7, (vI r11)), (8, (vL Form.c a1)), (9, (vI r7)), (10, (vL Form.c a2)), (11, (vI r9)), (12, (vL cI [r7, r9])), (13, (vI r11)), (14, (vI r11)), (15, (vB false)), (17, (vL Form.c a1)), (18, (vL Form.c a2)), (19, (vL Rule.c a3)), (20, (vI r17))]) ?_
   refine o_end (w16 _ ⟨(mkd .any 21 0 [(6, (vI r17))]), []⟩ (wkm [6] wh_nil) ?_)
   exact c_ret (rets [] [(vI r17)] [(vI r17)] h)
theorem ic79 : fnIC Try.prog H0 79 = some ([.cell 8 59, .tmp 9], 64, (.seq (.ops [zO 4 (.box 0 97 [] (.t 0)), zO 7 (.box 0 93 [] (.t 3)), zO 8 (.alloc 0 59 [] [(.int .i64 0), (.int .i64 0)]), zO 9 (.mov (.c (.bool false)))]) (.seq (.seq (.ops [zO 11 (.faddr (.t 4) 1), zO 12 (.ld (.t 11) 1 false)]) (.block 0 (.seq (.ops [zO 14 (.sc (.bin .eql 3) [(.t 12), (.c (.int .i64 6))]), zM 13 14]) (.cond (.t 13)
  (.seq (.seq (.ops [zO 15 (.faddr (.t 7) 1), zO 16 (.ld (.t 15) 1 false), zO 17 (.sc (.bin .eql 3) [(.t 16), (.c (.int .i64 2))])]) (.cond (.t 17)
  (.seq (.ops [zO 18 (.faddr (.t 4) 2), zO 19 (.ld (.t 18) 1 false), zO 20 (.bld [(.int .i64 0), (.int .i64 0)] [(0, 1, (.c (.int .i64 2))), (1, 1, (.t 19))]), zU (.st true 2 [] (.t 8) (.t 20)), zO 9 (.mov (.c (.bool true)))]) .ret)
  .skip)) (.seq (.ops [zO 21 (.faddr (.t 4) 2), zO 22 (.ld (.t 21) 1 false), zO 23 (.bld [(.int .i64 0), (.int .i64 0)] [(0, 1, (.c (.int .i64 1))), (1, 1, (.t 22))]), zU (.st true 2 [] (.t 8) (.t 23)), zO 9 (.mov (.c (.bool true)))]) .ret))
  (.seq (.ops [zO 25 (.sc (.bin .eql 3) [(.t 12), (.c (.int .i64 7))]), zM 24 25]) (.cond (.t 24)
  (.seq (.ops [zO 26 (.bld [(.int .i64 0), (.int .i64 0)] [(0, 1, (.c (.int .i64 3)))]), zU (.st true 2 [] (.t 8) (.t 26)), zO 9 (.mov (.c (.bool true)))]) .ret)
  .skip)))))) (.seq (.ops [zM 27 2, zM 28 1, zO 29 (.faddr (.t 4) 0), zO 30 (.ld (.t 29) 1 false), zO 31 (.call 95 [(.t 28), (.t 30)]), zO 32 (.iaddr 2 (.t 27) (.t 31)), zO 33 (.ld (.t 32) 2 true), zO 10 (.alloc 0 59 [] [(.int .i64 0), (.int .i64 0)]), zU (.st true 2 [] (.t 10) (.t 33))]) (.seq (.seq (.ops [zO 34 (.faddr (.t 4) 1), zO 35 (.ld (.t 34) 1 false)]) (.block 1 (.seq (.ops [zO 37 (.sc (.bin .eql 3) [(.t 35), (.c (.int .i64 2))]), zM 36 37]) (.cond (.t 36)
  (.seq (.ops [zO 38 (.faddr (.t 10) 1), zO 39 (.ld (.t 38) 1 false), zO 40 (.bld [(.int .i64 0), (.int .i64 0)] [(0, 1, (.c (.int .i64 1))), (1, 1, (.t 39))]), zU (.st true 2 [] (.t 8) (.t 40)), zO 9 (.mov (.c (.bool true)))]) .ret)
  (.seq (.ops [zO 42 (.sc (.bin .eql 3) [(.t 35), (.c (.int .i64 3))]), zM 41 42]) (.cond (.t 41)
  (.seq (.draw [] [zQ (zO 43 (.faddr (.t 10) 1)), zQ (zO 44 (.ld (.t 43) 1 false)), zQ (zO 45 (.bld [(.int .i64 0), (.int .i64 0)] [(0, 1, (.c (.int .i64 2))), (1, 1, (.t 44))])), zQ (zO 46 (.faddr (.t 10) 1)), zQ (zO 47 (.ld (.t 46) 1 false)), zQ (zO 48 (.call 86 [(.t 47), (.c (.int .i64 0)), (.c (.int .i64 1))])), ⟨zU (.st true 2 [] (.t 8) (.t 45)), true, 0, 1⟩, ⟨zM 9 48, false, 1, 1⟩]) .ret)
  (.seq (.ops [zO 50 (.sc (.bin .eql 3) [(.t 35), (.c (.int .i64 4))]), zM 49 50]) (.cond (.t 49)
  (.seq (.draw [] [zQ (zO 51 (.ld (.t 10) 2 true)), ⟨zO 52 (.faddr (.t 10) 1), false, 0, 1⟩, ⟨zO 53 (.ld (.t 52) 1 false), false, 0, 1⟩, ⟨zO 54 (.faddr (.t 4) 2), false, 0, 1⟩, ⟨zO 55 (.ld (.t 54) 1 false), false, 0, 1⟩, ⟨zO 56 (.sc (.bin .lss 3) [(.t 53), (.t 55)]), false, 0, 1⟩, ⟨zU (.st true 2 [] (.t 8) (.t 51)), true, 0, 1⟩, ⟨zM 9 56, false, 1, 1⟩]) .ret)
  (.seq (.ops [zO 58 (.sc (.bin .eql 3) [(.t 35), (.c (.int .i64 5))]), zM 57 58]) (.cond (.t 57)
  (.seq (.draw [] [zQ (zO 59 (.ld (.t 10) 2 true)), ⟨zO 60 (.faddr (.t 10) 0), false, 0, 1⟩, ⟨zO 61 (.ld (.t 60) 1 false), false, 0, 1⟩, ⟨zO 62 (.sc (.bin .eql 3) [(.t 61), (.c (.int .i64 4))]), false, 0, 1⟩, ⟨zU (.st true 2 [] (.t 8) (.t 59)), true, 0, 1⟩, ⟨zM 9 62, false, 1, 1⟩]) .ret)
  .skip)))))))))) (.seq (.ops [zO 63 (.ld (.t 10) 2 true), zU (.st true 2 [] (.t 8) (.t 63)), zO 9 (.mov (.c (.bool true)))]) .ret)))))) := by kernel_rfl
def f79 (n : Nat) (a1 : Give) (a2 : (List Col)) (a3 : (List Val)) (a4 : Col) : Option (Val × Bool) := (bif (a1.fHow == 6) then (bif (a4.fKind == 2) then some ((Val.mk 2 a1.fN), true) else some ((Val.mk 1 a1.fN), true)) else (bif (a1.fHow == 7) then some ((Val.mk 3 0), true) else ((f95 n a2 a1.fFrom).bind fun r20 => ((gi a3 r20).bind fun x22 => (bif (a1.fHow == 2) then some ((Val.mk 1 x22.fN), true) else (bif (a1.fHow == 3) then ((f86 n x22.fN 0 1).bind fun r33 => some ((Val.mk 2 x22.fN), r33)) else (bif (a1.fHow == 4) then some (x22, (decide (x22.fN < a1.fN))) else (bif (a1.fHow == 5) then some (x22, (x22.fKind == 4)) else some (x22, true)))))))))
def f79_r (r : (Val × Bool)) : AV := (.tup [(.agg [(vI r.1.fKind), (vI r.1.fN)]), (vB r.2)])
theorem p_f79 {n : Nat} {a1 : Give} {a2 : (List Col)} {a3 : (List Val)} {a4 : Col} {r : (Val × Bool)} (h : f79 n a1 a2 a3 a4 = some r) : PureSpec Try.prog 79 [(.agg [(vS a1.fFrom), (vI a1.fHow), (vI a1.fN)]), (vL Col.c a2), (vL Val.c a3), (.agg [(vS a4.fName), (vI a4.fKind), (vS a4.fClass)])] (f79_r r) := by
 rw [f79.eq_1] at h
 refine pure_of hmix ic79 ?_
 refine go_to (mkd (.val undef) 64 0 [(0, (.agg [(vS a1.fFrom), (vI a1.fHow), (vI a1.fN)])), (1, (vL Col.c a2)), (2, (vL Val.c a3)), (3, (.agg [(vS a4.fName), (vI a4.fKind), (vS a4.fClass)]))]) ?_
 refine s_so fun N5 k5 w5 => ?_
 refine o_h4 [(4, (.ptr 0 0)), (7, (.ptr 1 0)), (8, (.ptr 2 0)), (9, (vB false))] [(some (.box 97 [(vS a1.fFrom), (vI a1.fHow), (vI a1.fN)])), (some (.box 93 [(vS a4.fName), (vI a4.fKind), (vS a4.fClass)])), (some (.box 59 [(vI 0), (vI 0)]))] ?_
 refine o_end (k5 _ ?_)
 refine s_seq fun N6 k6 w6 => ?_
 refine s_so fun N7 k7 w7 => ?_
 refine o_r2 [(11, (.ptr 0 1)), (12, (vI a1.fHow))] ?_
 refine o_end (k7 _ ?_)
 refine c_block fun E8 hE8 hO8 => ?_
 refine s_so fun N9 k9 w9 => ?_
 refine o_r2 [(13, (vB (a1.fHow == 6))), (14, (vB (a1.fHow == 6)))] ?_
 refine o_end (k9 _ ?_)
 refine i_c [13, 14] h (fun h => ?_) (fun h => ?_)
 · refine s_seq fun N11 k11 w11 => ?_
   refine s_so fun N12 k12 w12 => ?_
   refine o_r3 [(15, (.ptr 1 1)), (16, (vI a4.fKind)), (17, (vB (a4.fKind == 2)))] ?_
   refine o_end (k12 _ ?_)
   refine i_c [17] h (fun h => ?_) (fun h => ?_)
   · refine s_so fun N14 k14 w14 => ?_
     refine o_h5 [(9, (vB true)), (18, (.ptr 0 2)), (19, (vI a1.fN)), (20, (.agg [(vI 2), (vI a1.fN)]))] [(some (.box 97 [(vS a1.fFrom), (vI a1.fHow), (vI a1.fN)])), (some (.box 93 [(vS a4.fName), (vI a4.fKind), (vS a4.fClass)])), (some (.box 59 [(vI 2), (vI a1.fN)]))] ?_
     refine o_end (w14 _ ⟨(mkd .any 64 0 [(8, (.ptr 2 0)), (9, (vB true))]), [none, none, (some (.box 59 [(vI 2), (vI a1.fN)]))]⟩ (wkm [8, 9] (wh_drop (wh_drop (whk wh_nil)))) ?_)
     exact c_ret (rets [] [(.agg [(vI 2), (vI a1.fN)]), (vB true)] [(.agg [(vI 2), (vI a1.fN)]), (vB true)] h)
   · refine c_skip (k11 _ ?_)
     refine s_so fun N15 k15 w15 => ?_
     refine o_h5 [(9, (vB true)), (21, (.ptr 0 2)), (22, (vI a1.fN)), (23, (.agg [(vI 1), (vI a1.fN)]))] [(some (.box 97 [(vS a1.fFrom), (vI a1.fHow), (vI a1.fN)])), (some (.box 93 [(vS a4.fName), (vI a4.fKind), (vS a4.fClass)])), (some (.box 59 [(vI 1), (vI a1.fN)]))] ?_
     refine o_end (w15 _ ⟨(mkd .any 64 0 [(8, (.ptr 2 0)), (9, (vB true))]), [none, none, (some (.box 59 [(vI 1), (vI a1.fN)]))]⟩ (wkm [8, 9] (wh_drop (wh_drop (whk wh_nil)))) ?_)
     exact c_ret (rets [] [(.agg [(vI 1), (vI a1.fN)]), (vB true)] [(.agg [(vI 1), (vI a1.fN)]), (vB true)] h)
 · refine s_so fun N16 k16 w16 => ?_
   refine o_r2 [(24, (vB (a1.fHow == 7))), (25, (vB (a1.fHow == 7)))] ?_
   refine o_end (k16 _ ?_)
   refine i_c [24, 25] h (fun h => ?_) (fun h => ?_)
   · refine s_so fun N18 k18 w18 => ?_
     refine o_h3 [(9, (vB true)), (26, (.agg [(vI 3), (vI 0)]))] [(some (.box 97 [(vS a1.fFrom), (vI a1.fHow), (vI a1.fN)])), (some (.box 93 [(vS a4.fName), (vI a4.fKind), (vS a4.fClass)])), (some (.box 59 [(vI 3), (vI 0)]))] ?_
     refine o_end (k18 _ ?_)
     exact c_ret (rets [] [(.agg [(vI 3), (vI 0)]), (vB true)] [(.agg [(vI 3), (vI 0)]), (vB true)] h)
   · refine c_skip (k6 _ ?_)
     refine s_so fun N19 k19 w19 => ?_
     refine o_r4 [(27, (vL Val.c a3)), (28, (vL Col.c a2)), (29, (.ptr 0 0)), (30, (vS a1.fFrom))] ?_
     refine bnd h fun r20 g21 h => ?_
     refine o_o (one_call (p_f95 g21)) ?_
     refine bnd h fun x22 g23 h => ?_
     refine o_o (one_ia (f := Val.c) (ki := .i64) g23) ?_
     refine o_h3 [(10, (.ptr 3 0)), (33, (.agg [(vI x22.fKind), (vI x22.fN)]))] [(some (.box 97 [(vS a1.fFrom), (vI a1.fHow), (vI a1.fN)])), (some (.box 93 [(vS a4.fName), (vI a4.fKind), (vS a4.fClass)])), (some (.box 59 [(vI 0), (vI 0)])), (some (.box 59 [(vI x22.fKind), (vI x22.fN)]))] ?_
     refine o_end (w19 _ ⟨(mkd .any 64 0 [(4, (.ptr 0 0)), (8, (.ptr 2 0)), (10, (.ptr 3 0))]), [(some (.box 97 [(vS a1.fFrom), (vI a1.fHow), (vI a1.fN)])), none, (some (.box 59 [(vI 0), (vI 0)])), (some (.box 59 [(vI x22.fKind), (vI x22.fN)]))]⟩ (wkm [4, 8, 10] (whk (wh_drop (whk (whk wh_nil))))) ?_)
     refine s_seq fun N24 k24 w24 => ?_
     refine s_so fun N25 k25 w25 => ?_
     refine o_r2 [(34, (.ptr 0 1)), (35, (vI a1.fHow))] ?_
     refine o_end (k25 _ ?_)
     refine c_block fun E26 hE26 hO26 => ?_
     refine s_so fun N27 k27 w27 => ?_
     refine o_r2 [(36, (vB (a1.fHow == 2))), (37, (vB (a1.fHow == 2)))] ?_
     refine o_end (k27 _ ?_)
     refine i_c [36, 37] h (fun h => ?_) (fun h => ?_)
     · refine s_so fun N29 k29 w29 => ?_
       refine o_h5 [(9, (vB true)), (38, (.ptr 3 1)), (39, (vI x22.fN)), (40, (.agg [(vI 1), (vI x22.fN)]))] [(some (.box 97 [(vS a1.fFrom), (vI a1.fHow), (vI a1.fN)])), none, (some (.box 59 [(vI 1), (vI x22.fN)])), (some (.box 59 [(vI x22.fKind), (vI x22.fN)]))] ?_
       refine o_end (k29 _ ?_)
       exact c_ret (rets [] [(.agg [(vI 1), (vI x22.fN)]), (vB true)] [(.agg [(vI 1), (vI x22.fN)]), (vB true)] h)
     · refine s_so fun N30 k30 w30 => ?_
       refine o_r2 [(41, (vB (a1.fHow == 3))), (42, (vB (a1.fHow == 3)))] ?_
       refine o_end (k30 _ ?_)
       refine i_c [41, 42] h (fun h => ?_) (fun h => ?_)
       · refine s_seq fun N32 k32 w32 => ?_
         refine c_draw0 ?_
         refine d_r5 [(43, (.ptr 3 1)), (44, (vI x22.fN)), (45, (.agg [(vI 2), (vI x22.fN)])), (46, (.ptr 3 1)), (47, (vI x22.fN))] ?_
         refine bnd h fun r33 g34 h => ?_
         refine d_o (one_call (p_f86 g34)) ?_
         refine d_te (.val undef) [(some (.box 97 [(vS a1.fFrom), (vI a1.fHow), (vI a1.fN)])), none, (some (.box 59 [(vI 2), (vI x22.fN)])), (some (.box 59 [(vI x22.fKind), (vI x22.fN)]))] (ra_cat (ra_cat ra_nil (ra_s (ra_s (ra_s (ra_s (ra_s ra_nil)))))) (ra_s ra_nil)) ?_
         refine d_r1 [(9, (vB r33))] ?_
         refine d_end (k32 _ ?_)
         exact c_ret (rets [] [(.agg [(vI 2), (vI x22.fN)]), (vB r33)] [(.agg [(vI 2), (vI x22.fN)]), (vB r33)] h)
       · refine s_so fun N35 k35 w35 => ?_
         refine o_r2 [(49, (vB (a1.fHow == 4))), (50, (vB (a1.fHow == 4)))] ?_
         refine o_end (k35 _ ?_)
         refine i_c [49, 50] h (fun h => ?_) (fun h => ?_)
         · refine s_seq fun N37 k37 w37 => ?_
           refine c_draw0 ?_
           refine d_r6 [(51, (.agg [(vI x22.fKind), (vI x22.fN)])), (52, (.ptr 3 1)), (53, (vI x22.fN)), (54, (.ptr 0 2)), (55, (vI a1.fN)), (56, (vB (decide (x22.fN < a1.fN))))] ?_
           refine d_te (.val undef) [(some (.box 97 [(vS a1.fFrom), (vI a1.fHow), (vI a1.fN)])), none, (some (.box 59 [(vI x22.fKind), (vI x22.fN)])), (some (.box 59 [(vI x22.fKind), (vI x22.fN)]))] (ra_cat ra_nil (ra_s (ra_t (ra_t (ra_t (ra_t (ra_t ra_nil))))))) ?_
           refine d_r1 [(9, (vB (decide (x22.fN < a1.fN))))] ?_
           refine d_end (w37 _ ⟨(mkd .any 64 0 [(8, (.ptr 2 0)), (9, (vB (decide (x22.fN < a1.fN))))]), [none, none, (some (.box 59 [(vI x22.fKind), (vI x22.fN)]))]⟩ (wkm [8, 9] (wh_drop (wh_none (whk wh_nil)))) ?_)
           exact c_ret (rets [] [(.agg [(vI x22.fKind), (vI x22.fN)]), (vB (decide (x22.fN < a1.fN)))] [(.agg [(vI x22.fKind), (vI x22.fN)]), (vB (decide (x22.fN < a1.fN)))] h)
         · refine s_so fun N38 k38 w38 => ?_
           refine o_r2 [(57, (vB (a1.fHow == 5))), (58, (vB (a1.fHow == 5)))] ?_
           refine o_end (k38 _ ?_)
           refine i_c [57, 58] h (fun h => ?_) (fun h => ?_)
           · refine s_seq fun N40 k40 w40 => ?_
             refine c_draw0 ?_
             refine d_r4 [(59, (.agg [(vI x22.fKind), (vI x22.fN)])), (60, (.ptr 3 0)), (61, (vI x22.fKind)), (62, (vB (x22.fKind == 4)))] ?_
             refine d_te (.val undef) [(some (.box 97 [(vS a1.fFrom), (vI a1.fHow), (vI a1.fN)])), none, (some (.box 59 [(vI x22.fKind), (vI x22.fN)])), (some (.box 59 [(vI x22.fKind), (vI x22.fN)]))] (ra_cat ra_nil (ra_s (ra_t (ra_t (ra_t ra_nil))))) ?_
             refine d_r1 [(9, (vB (x22.fKind == 4)))] ?_
             refine t_tm (mkd .any 64 0 [(4, (.ptr 0 0)), (8, (.ptr 2 0)), (9, (vB (x22.fKind == 4))), (10, (.ptr 3 0)), (34, (.ptr 0 1)), (35, (vI a1.fHow)), (36, (vB false)), (37, (vB false)), (41, (vB false)), (42, (vB false)), (49, (vB false)), (50, (vB false)), (57, (vB true)), (58, (vB true)), (59, (.agg [(vI x22.fKind), (vI x22.fN)])), (60, (.ptr 3 0)), (61, (vI x22.fKind)), (62, (vB (x22.fKind == 4)))]) ?_
             refine d_end (w40 _ ⟨(mkd .any 64 0 [(8, (.ptr 2 0)), (9, (vB (x22.fKind == 4)))]), [none, none, (some (.box 59 [(vI x22.fKind), (vI x22.fN)]))]⟩ (wkm [8, 9] (wh_drop (wh_none (whk wh_nil)))) ?_)
             exact c_ret (rets [] [(.agg [(vI x22.fKind), (vI x22.fN)]), (vB (x22.fKind == 4))] [(.agg [(vI x22.fKind), (vI x22.fN)]), (vB (x22.fKind == 4))] h)
           · refine c_skip (k24 _ ?_)
             refine s_so fun N41 k41 w41 => ?_
             refine o_h3 [(9, (vB true)), (63, (.agg [(vI x22.fKind), (vI x22.fN)]))] [(some (.box 97 [(vS a1.fFrom), (vI a1.fHow), (vI a1.fN)])), none, (some (.box 59 [(vI x22.fKind), (vI x22.fN)])), (some (.box 59 [(vI x22.fKind), (vI x22.fN)]))] ?_
             refine o_end (k41 _ ?_)
             exact c_ret (rets [] [(.agg [(vI x22.fKind), (vI x22.fN)]), (vB true)] [(.agg [(vI x22.fKind), (vI x22.fN)]), (vB true)] h)
theorem ic32 : fnIC Try.prog H32 32 = some ([.cell 8 26, .cell 9 64, .tmp 10], 123, (.seq (.ops [zO 7 (.box 0 26 [(0, 57, 2, 0), (1, 59, 2, 0)] (.t 3)), zO 8 (.alloc 0 26 [(0, 57, 2, 0), (1, 59, 2, 0)] [(.slice none 0 0), (.slice none 0 0)]), zO 9 (.alloc 0 64 [] [(.int .i64 0), (.string ⟨#[]⟩)]), zO 10 (.mov (.c (.int .i64 0)))]) (.seq (.seq (.ops [zM 24 0, zM 25 1, zM 26 2, zO 27 (.call 33 [(.t 24), (.t 25), (.t 26)]), zO 28 (.isl 1 [(.t 27)]), zO 29 (.call 49 [(.t 28)]), zM 11 29]) (.seq (.ops [zM 30 11, zO 31 (.sc (.bin .neq 30) [(.t 30), (.c (.int .i64 0))])]) (.cond (.t 31)
  (.seq (.ops [zO 32 (.bld [(.slice none 0 0), (.slice none 0 0)] []), zO 33 (.bld [(.int .i64 0), (.string ⟨#[]⟩)] []), zM 34 11, zU (.st true 2 [(0, 57, 2, 0), (1, 59, 2, 0)] (.t 8) (.t 32)), zU (.st true 2 [] (.t 9) (.t 33)), zM 10 34]) .ret)
  .skip))) (.seq (.seq (.ops [zM 35 0, zO 36 (.ld (.t 7) 2 true), zO 37 (.call 59 [(.t 35), (.t 36)]), zM 12 37]) (.seq (.ops [zM 38 12, zO 39 (.sc (.bin .neq 30) [(.t 38), (.c (.int .i64 0))])]) (.cond (.t 39)
  (.seq (.ops [zO 40 (.bld [(.slice none 0 0), (.slice none 0 0)] []), zO 41 (.bld [(.int .i64 0), (.string ⟨#[]⟩)] []), zM 42 12, zU (.st true 2 [(0, 57, 2, 0), (1, 59, 2, 0)] (.t 8) (.t 40)), zU (.st true 2 [] (.t 9) (.t 41)), zM 10 42]) .ret)
  .skip))) (.seq (.ops [zO 43 (.faddr (.t 7) 1), zO 44 (.ld (.t 43) 1 false), zO 45 (.callv (.f 77) [(.t 44)]), zO 46 (.bld [(.slice none 0 0), (.slice none 0 0)] [(1, 1, (.t 45))]), zO 13 (.alloc 0 26 [(0, 57, 2, 0), (1, 59, 2, 0)] [(.slice none 0 0), (.slice none 0 0)]), zU (.st true 2 [(0, 57, 2, 0), (1, 59, 2, 0)] (.t 13) (.t 46))]) (.seq (.seq (.ops [zO 47 (.faddr (.t 7) 0), zO 48 (.ld (.t 47) 1 false), zO 49 (.len false (.t 48)), zO 50 (.mov (.c (.int .i64 0)))]) (.block 0 (.loop (.seq (.ops [zO 51 (.sc (.bin .lss 3) [(.t 50), (.t 49)])]) (.seq (.cond (.t 51)
  .skip
  (.exit 0)) (.seq (.block 1 (.seq (.ops [zM 52 50, zO 53 (.iaddr 2 (.t 48) (.t 50)), zO 54 (.ld (.t 53) 2 true), zO 15 (.alloc 0 57 [(1, 59, 2, 0)] [(.string ⟨#[]⟩), (.slice none 0 0)]), zM 14 52, zU (.st true 2 [(1, 59, 2, 0)] (.t 15) (.t 54))]) (.seq (.ops [zM 56 2, zO 57 (.faddr (.t 15) 0), zO 58 (.ld (.t 57) 1 false), zO 59 (.call 78 [(.t 56), (.t 58)]), zM 55 59, zO 60 (.ext (.t 55) 0), zO 61 (.ext (.t 55) 1), zO 16 (.alloc 0 100 [(2, 97, 3, 0)] [(.string ⟨#[]⟩), (.string ⟨#[]⟩), (.slice none 0 0)]), zU (.st true 3 [(2, 97, 3, 0)] (.t 16) (.t 60)), zM 17 61]) (.seq (.ops [zM 62 0, zM 63 0, zO 64 (.faddr (.t 15) 0), zO 65 (.ld (.t 64) 1 false), zO 66 (.call 52 [(.t 63), (.t 65)]), zO 67 (.iaddr 2 (.t 62) (.t 66)), zO 68 (.faddr (.t 67) 1), zO 69 (.ld (.t 68) 1 false), zM 18 69]) (.seq (.ops [zO 70 (.faddr (.t 16) 1), zO 71 (.ld (.t 70) 1 false), zO 72 (.bld [(.string ⟨#[]⟩), (.slice none 0 0)] [(0, 1, (.t 71))]), zO 19 (.alloc 0 57 [(1, 59, 2, 0)] [(.string ⟨#[]⟩), (.slice none 0 0)]), zU (.st true 2 [(1, 59, 2, 0)] (.t 19) (.t 72))]) (.seq (.seq (.ops [zM 73 1, zM 74 1, zO 75 (.faddr (.t 16) 1), zO 76 (.ld (.t 75) 1 false), zO 77 (.call 52 [(.t 74), (.t 76)]), zO 78 (.iaddr 2 (.t 73) (.t 77)), zO 79 (.faddr (.t 78) 1), zO 80 (.ld (.t 79) 1 false), zO 81 (.len false (.t 80)), zO 82 (.mov (.c (.int .i64 0)))]) (.block 2 (.loop (.seq (.ops [zO 83 (.sc (.bin .lss 3) [(.t 82), (.t 81)])]) (.seq (.cond (.t 83)
  .skip
  (.exit 2)) (.seq (.block 3 (.seq (.ops [zM 84 82, zO 85 (.iaddr 3 (.t 80) (.t 82)), zO 86 (.ld (.t 85) 3 true), zO 21 (.alloc 0 93 [] [(.string ⟨#[]⟩), (.int .i64 0), (.string ⟨#[]⟩)]), zM 20 84, zU (.st true 3 [] (.t 21) (.t 86))]) (.seq (.draw [] [⟨zO 88 (.faddr (.t 16) 2), false, 0, 1⟩, ⟨zO 89 (.ld (.t 88) 1 false), false, 0, 1⟩, ⟨zM 90 20, false, 0, 1⟩, ⟨zO 91 (.iaddr 3 (.t 89) (.t 90)), false, 0, 1⟩, ⟨zO 92 (.ld (.t 91) 3 true), false, 0, 1⟩, ⟨zM 93 18, false, 0, 1⟩, ⟨zO 94 (.faddr (.t 15) 1), false, 0, 1⟩, ⟨zO 95 (.ld (.t 94) 1 false), false, 0, 1⟩, ⟨zO 96 (.ld (.t 21) 3 true), false, 0, 1⟩, ⟨zO 97 (.call 79 [(.t 92), (.t 93), (.t 95), (.t 96)]), false, 0, 1⟩, ⟨zM 87 97, false, 0, 1⟩, ⟨zO 98 (.ext (.t 87) 0), false, 0, 1⟩, ⟨zO 99 (.ext (.t 87) 1), false, 0, 2⟩, ⟨zO 22 (.alloc 0 59 [] [(.int .i64 0), (.int .i64 0)]), true, 0, 1⟩, ⟨zU (.st true 2 [] (.t 22) (.t 98)), true, 1, 2⟩, ⟨zM 23 99, false, 2, 2⟩]) (.seq (.seq (.ops [zM 100 23, zO 101 (.sc (.un .not) [(.t 100)])]) (.cond (.t 101)
  (.seq (.draw [] [zQ (zO 102 (.bld [(.slice none 0 0), (.slice none 0 0)] [])), ⟨zM 103 14, false, 0, 1⟩, ⟨zO 104 (.faddr (.t 21) 0), false, 0, 1⟩, ⟨zO 105 (.ld (.t 104) 1 false), false, 0, 1⟩, ⟨zO 106 (.bld [(.int .i64 0), (.string ⟨#[]⟩)] [(0, 1, (.t 103)), (1, 1, (.t 105))]), false, 0, 1⟩, ⟨zU (.st true 2 [(0, 57, 2, 0), (1, 59, 2, 0)] (.t 8) (.t 102)), true, 0, 1⟩, ⟨zU (.st true 2 [] (.t 9) (.t 106)), true, 1, 2⟩, ⟨zO 10 (.mov (.c (.int .i64 10))), false, 2, 2⟩]) .ret)
  .skip)) (.ops [zO 107 (.faddr (.t 19) 1), zO 108 (.ld (.t 107) 1 false), zO 109 (.ld (.t 22) 2 true), zO 110 (.isl 2 [(.t 109)]), zO 111 (.app 0 59 2 16 (.t 108) (.t 110)), zO 112 (.faddr (.t 19) 1), zU (.st true 1 [(0, 59, 2, 0)] (.t 112) (.t 111))]))))) (.ops [zO 113 (.sc (.bin .add 3) [(.t 82), (.c (.int .i64 1))]), zM 82 113]))))))) (.ops [zO 114 (.faddr (.t 13) 0), zO 115 (.ld (.t 114) 1 false), zO 116 (.ld (.t 19) 2 true), zO 117 (.bsl 0 true 57 2 [(.t 116)]), zO 118 (.app 0 57 2 40 (.t 115) (.t 117)), zO 119 (.faddr (.t 13) 0), zU (.st true 1 [(0, 57, 2, 0)] (.t 119) (.t 118))]))))))) (.ops [zO 120 (.sc (.bin .add 3) [(.t 50), (.c (.int .i64 1))]), zM 50 120]))))))) (.seq (.ops [zO 121 (.ld (.t 13) 2 true), zO 122 (.bld [(.int .i64 0), (.string ⟨#[]⟩)] []), zU (.st true 2 [(0, 57, 2, 0), (1, 59, 2, 0)] (.t 8) (.t 121)), zU (.st true 2 [] (.t 9) (.t 122)), zO 10 (.mov (.c (.int .i64 0)))]) .ret))))))) := by kernel_rfl
def f32_k106 (x101 : Int) (c29k : Int → (List Node) → Option (Graph × Refusal × Int)) (x173 : (List Node)) : Option (Graph × Refusal × Int) := (c29k (wr .i64 (x101 + 1)) x173)
def f32_k120 (x102 : (List Node)) (r112 : (Rule × Bool)) (x101 : Int) (c29k : Int → (List Node) → Option (Graph × Refusal × Int)) (x169 : (List Val)) : Option (Graph × Refusal × Int) := ((app2 x102 [(Node.mk r112.1.fTo x169)]).bind fun l171 => (f32_k106 x101 (c29k) l171))
def f32_l128 (x124 : Form) (r112 : (Rule × Bool)) (n : Nat) (x117 : Form) (x109 : Node) (x101 : Int) (k120k : (List Val) → Option (Graph × Refusal × Int)) : Nat → Int → (List Val) → Option (Graph × Refusal × Int)
  | 0, _, _ => none
  | m128 + 1, x148, x149 => (bif (decide (x148 < (len x124.fCols))) then ((gi x124.fCols x148).bind fun x156 => ((gi r112.1.fGives x148).bind fun x159 => ((f79 n x159 x117.fCols x109.fVals x156).bind fun r161 => (bif (!r161.2) then some ((Graph.mk [] []), (Refusal.mk x101 x156.fName), 10) else ((app2 x149 [r161.1]).bind fun l167 => (f32_l128 x124 r112 n x117 x109 x101 (k120k) m128 (wr .i64 (x148 + 1)) l167)))))) else (k120k x149))
def f32_k25 (l23 : (List Val)) (x174 : (List Node)) : Option (Graph × Refusal × Int) := some ((Graph.mk x174 l23), (Refusal.mk 0 (ByteArray.mk #[])), 0)
def f32_l29 (a4 : Graph) (n : Nat) (a3 : (List Rule)) (a1 : (List Form)) (a2 : (List Form)) (k25k : (List Node) → Option (Graph × Refusal × Int)) : Nat → Int → (List Node) → Option (Graph × Refusal × Int)
  | 0, _, _ => none
  | m29 + 1, x101, x102 => (bif (decide (x101 < (len a4.fNodes))) then ((gi a4.fNodes x101).bind fun x109 => ((f78 n a3 x109.fClass).bind fun r112 => ((f52 n a1 x109.fClass).bind fun r115 => ((gi a1 r115).bind fun x117 => ((f52 n a2 r112.1.fTo).bind fun r122 => ((gi a2 r122).bind fun x124 => (f32_l128 x124 r112 n x117 x109 x101 (f32_k120 x102 r112 x101 (f32_l29 a4 n a3 a1 a2 (k25k) m29)) n 0 []))))))) else (k25k x102))
def f32 (n : Nat) (a1 : (List Form)) (a2 : (List Form)) (a3 : (List Rule)) (a4 : Graph) : Option (Graph × Refusal × Int) := ((f33 n a1 a2 a3).bind fun r8 => ((f49 n [r8]).bind fun r10 => (bif (r10 != 0) then some ((Graph.mk [] []), (Refusal.mk 0 (ByteArray.mk #[])), r10) else ((f59 n a1 a4).bind fun r17 => (bif (r17 != 0) then some ((Graph.mk [] []), (Refusal.mk 0 (ByteArray.mk #[])), r17) else ((app2 [] a4.fRoots).bind fun l23 => (f32_l29 a4 n a3 a1 a2 (f32_k25 l23) n 0 [])))))))
def f32_r (r : (Graph × Refusal × Int)) : AV := (.tup [(.agg [(vL Node.c r.1.fNodes), (vL Val.c r.1.fRoots)]), (.agg [(vI r.2.1.fNode), (vS r.2.1.fCol)]), (vI r.2.2)])
theorem p_f32 {n : Nat} {a1 : (List Form)} {a2 : (List Form)} {a3 : (List Rule)} {a4 : Graph} {r : (Graph × Refusal × Int)} (h : f32 n a1 a2 a3 a4 = some r) : PureSpec Try.prog 32 [(vL Form.c a1), (vL Form.c a2), (vL Rule.c a3), (.agg [(vL Node.c a4.fNodes), (vL Val.c a4.fRoots)])] (f32_r r) := by
 rw [f32.eq_1] at h
 refine pure_of hmix ic32 ?_
 refine go_to (mkd (.val undef) 123 0 [(0, (vL Form.c a1)), (1, (vL Form.c a2)), (2, (vL Rule.c a3)), (3, (.agg [(vL Node.c a4.fNodes), (vL Val.c a4.fRoots)]))]) ?_
 refine s_so fun N5 k5 w5 => ?_
 refine o_h4 [(7, (.ptr 0 0)), (8, (.ptr 3 0)), (9, (.ptr 4 0)), (10, (vI 0))] [(some (.box 26 [(vL Node.c a4.fNodes), (vL Val.c a4.fRoots)])), (some (.row 57 2 (List.map Node.c []))), (some (.row 59 2 (List.map Val.c []))), (some (.box 26 [(.own 1 0), (.own 2 0)])), (some (.box 64 [(vI 0), (vS (ByteArray.mk #[]))]))] ?_
 refine o_end (k5 _ ?_)
 refine s_seq fun N6 k6 w6 => ?_
 refine s_so fun N7 k7 w7 => ?_
 refine o_r3 [(24, (vL Form.c a1)), (25, (vL Form.c a2)), (26, (vL Rule.c a3))] ?_
 refine bnd h fun r8 g9 h => ?_
 refine o_o (one_call (p_f33 g9)) ?_
 refine o_r1 [(28, (vL cI [r8]))] ?_
 refine bnd h fun r10 g11 h => ?_
 refine o_o (one_call (p_f49 g11)) ?_
 refine o_r1 [(11, (vI r10))] ?_
 refine o_end (k7 _ ?_)
 refine s_so fun N12 k12 w12 => ?_
 refine o_r2 [(30, (vI r10)), (31, (vB (r10 != 0)))] ?_
 refine o_end (k12 _ ?_)
 refine i_c [31] h (fun h => ?_) (fun h => ?_)
 · refine s_so fun N14 k14 w14 => ?_
   refine o_h6 [(10, (vI r10)), (32, (.agg [(.val (.slice none 0 0)), (.val (.slice none 0 0))])), (33, (.agg [(vI 0), (vS (ByteArray.mk #[]))])), (34, (vI r10))] [(some (.box 26 [(vL Node.c a4.fNodes), (vL Val.c a4.fRoots)])), (some (.row 57 2 (List.map Node.c []))), (some (.row 59 2 (List.map Val.c []))), (some (.box 26 [(.own 5 0), (.own 6 0)])), (some (.box 64 [(vI 0), (vS (ByteArray.mk #[]))])), (some (.row 57 2 (List.map Node.c []))), (some (.row 59 2 (List.map Val.c [])))] ?_
   refine o_end (w14 _ ⟨(mkd .any 123 0 [(8, (.ptr 3 0)), (9, (.ptr 4 0)), (10, (vI r10))]), [none, none, none, (some (.box 26 [(.own 5 0), (.own 6 0)])), (some (.box 64 [(vI 0), (vS (ByteArray.mk #[]))])), (some (.row 57 2 (List.map Node.c []))), (some (.row 59 2 (List.map Val.c [])))]⟩ (wkm [8, 9, 10] (wh_drop (wh_drop (wh_drop (whk (whk (wh_keep (row_below Node.p _ _ _ _) (wh_keep (row_below Val.p _ _ _ _) wh_nil)))))))) ?_)
   exact c_ret (retsF [5, 6] [(.agg [(.own 5 0), (.own 6 0)]), (.agg [(vI 0), (vS (ByteArray.mk #[]))]), (vI r10)] [(.agg [(vL Node.c []), (vL Val.c [])]), (.agg [(vI 0), (vS (ByteArray.mk #[]))]), (vI r10)] ⟨(fz_agg ⟨(fz_own (g := Node.c) (l := []) (t := 57) (sz := 2) Node.p), (fz_own (g := Val.c) (l := []) (t := 59) (sz := 2) Val.p), trivial⟩), (fz_agg ⟨fz_v, fz_v, trivial⟩), fz_v, trivial⟩ h)
 · refine c_skip (k6 _ ?_)
   refine s_seq fun N15 k15 w15 => ?_
   refine s_so fun N16 k16 w16 => ?_
   refine o_r2 [(35, (vL Form.c a1)), (36, (.agg [(vL Node.c a4.fNodes), (vL Val.c a4.fRoots)]))] ?_
   refine bnd h fun r17 g18 h => ?_
   refine o_o (one_call (p_f59 g18)) ?_
   refine o_r1 [(12, (vI r17))] ?_
   refine o_end (k16 _ ?_)
   refine s_so fun N19 k19 w19 => ?_
   refine o_r2 [(38, (vI r17)), (39, (vB (r17 != 0)))] ?_
   refine s_tm (mkd (.val undef) 123 0 [(0, (vL Form.c a1)), (1, (vL Form.c a2)), (2, (vL Rule.c a3)), (3, (.agg [(vL Node.c a4.fNodes), (vL Val.c a4.fRoots)])), (7, (.ptr 0 0)), (8, (.ptr 3 0)), (9, (.ptr 4 0)), (10, (vI 0)), (11, (vI r10)), (12, (vI r17)), (24, (vL Form.c a1)), (25, (vL Form.c a2)), (26, (vL Rule.c a3)), (27, (vI r8)), (28, (vL cI [r8])), (29, (vI r10)), (30, (vI r10)), (31, (vB false)), (35, (vL Form.c a1)), (36, (.agg [(vL Node.c a4.fNodes), (vL Val.c a4.fRoots)])), (37, (vI r17)), (38, (vI r17)), (39, (vB (r17 != 0)))]) ?_
   refine o_end (k19 _ ?_)
   refine i_c [39] h (fun h => ?_) (fun h => ?_)
   · refine s_so fun N21 k21 w21 => ?_
     refine o_h6 [(10, (vI r17)), (40, (.agg [(.val (.slice none 0 0)), (.val (.slice none 0 0))])), (41, (.agg [(vI 0), (vS (ByteArray.mk #[]))])), (42, (vI r17))] [(some (.box 26 [(vL Node.c a4.fNodes), (vL Val.c a4.fRoots)])), (some (.row 57 2 (List.map Node.c []))), (some (.row 59 2 (List.map Val.c []))), (some (.box 26 [(.own 5 0), (.own 6 0)])), (some (.box 64 [(vI 0), (vS (ByteArray.mk #[]))])), (some (.row 57 2 (List.map Node.c []))), (some (.row 59 2 (List.map Val.c [])))] ?_
     refine o_end (w21 _ ⟨(mkd .any 123 0 [(8, (.ptr 3 0)), (9, (.ptr 4 0)), (10, (vI r17))]), [none, none, none, (some (.box 26 [(.own 5 0), (.own 6 0)])), (some (.box 64 [(vI 0), (vS (ByteArray.mk #[]))])), (some (.row 57 2 (List.map Node.c []))), (some (.row 59 2 (List.map Val.c [])))]⟩ (wkm [8, 9, 10] (wh_drop (wh_drop (wh_drop (whk (whk (wh_keep (row_below Node.p _ _ _ _) (wh_keep (row_below Val.p _ _ _ _) wh_nil)))))))) ?_)
     exact c_ret (retsF [5, 6] [(.agg [(.own 5 0), (.own 6 0)]), (.agg [(vI 0), (vS (ByteArray.mk #[]))]), (vI r17)] [(.agg [(vL Node.c []), (vL Val.c [])]), (.agg [(vI 0), (vS (ByteArray.mk #[]))]), (vI r17)] ⟨(fz_agg ⟨(fz_own (g := Node.c) (l := []) (t := 57) (sz := 2) Node.p), (fz_own (g := Val.c) (l := []) (t := 59) (sz := 2) Val.p), trivial⟩), (fz_agg ⟨fz_v, fz_v, trivial⟩), fz_v, trivial⟩ h)
   · refine c_skip (w15 _ ⟨(mkd .any 123 0 [(0, (vL Form.c a1)), (1, (vL Form.c a2)), (2, (vL Rule.c a3)), (7, (.ptr 0 0)), (8, (.ptr 3 0)), (9, (.ptr 4 0))]), [(some (.box 26 [(vL Node.c a4.fNodes), (vL Val.c a4.fRoots)])), (some (.row 57 2 (List.map Node.c []))), (some (.row 59 2 (List.map Val.c []))), (some (.box 26 [(.own 1 0), (.own 2 0)])), (some (.box 64 [(vI 0), (vS (ByteArray.mk #[]))]))]⟩ (wkm [0, 1, 2, 7, 8, 9] (whk (wh_keep (row_below Node.p _ _ _ _) (wh_keep (row_below Val.p _ _ _ _) (whk (whk wh_nil)))))) ?_)
     refine s_so fun N22 k22 w22 => ?_
     refine o_r2 [(43, (.ptr 0 1)), (44, (vL Val.c a4.fRoots))] ?_
     refine bnd h fun l23 g24 h => ?_
     refine o_x [(some (.box 26 [(vL Node.c a4.fNodes), (vL Val.c a4.fRoots)])), (some (.row 57 2 (List.map Node.c []))), (some (.row 59 2 (List.map Val.c []))), (some (.box 26 [(.own 1 0), (.own 2 0)])), (some (.box 64 [(vI 0), (vS (ByteArray.mk #[]))])), none, (some (.row 59 2 (List.map Val.c l23)))] (one_callH (caps := []) (clone_spec (g := Val.c) hmix [(some (.box 26 [(vL Node.c a4.fNodes), (vL Val.c a4.fRoots)])), (some (.row 57 2 (List.map Node.c []))), (some (.row 59 2 (List.map Val.c []))), (some (.box 26 [(.own 1 0), (.own 2 0)])), (some (.box 64 [(vI 0), (vS (ByteArray.mk #[]))]))] ic77 g24 (fun _ => ⟨rfl, rfl⟩) Val.p (by kernel_rfl) (whk (wh_keep (row_below Node.p _ _ _ _) (wh_keep (row_below Val.p _ _ _ _) (whk (whk wh_nil))))))) ?_
     refine o_h3 [(13, (.ptr 9 0)), (46, (.agg [(.val (.slice none 0 0)), (.own 6 (List.length l23))]))] [(some (.box 26 [(vL Node.c a4.fNodes), (vL Val.c a4.fRoots)])), (some (.row 57 2 (List.map Node.c []))), (some (.row 59 2 (List.map Val.c []))), (some (.box 26 [(.own 1 0), (.own 2 0)])), (some (.box 64 [(vI 0), (vS (ByteArray.mk #[]))])), none, (some (.row 59 2 (List.map Val.c l23))), (some (.row 57 2 (List.map Node.c []))), (some (.row 59 2 (List.map Val.c []))), (some (.box 26 [(.own 10 0), (.own 6 (List.length l23))])), (some (.row 57 2 (List.map Node.c [])))] ?_
     refine o_end (k22 _ ?_)
     refine J1 (r := r) (fun (x174 : (List Node)) => ⟨(mkd .any 123 0 [(8, (.ptr 3 0)), (9, (.ptr 4 0)), (13, (.ptr 9 0))]), [none, (some (.row 57 2 (List.map Node.c []))), (some (.row 59 2 (List.map Val.c []))), (some (.box 26 [(.own 1 0), (.own 2 0)])), (some (.box 64 [(vI 0), (vS (ByteArray.mk #[]))])), none, (some (.row 59 2 (List.map Val.c l23))), none, none, (some (.box 26 [(.own 10 (List.length x174)), (.own 6 (List.length l23))])), (some (.row 57 2 (List.map Node.c x174)))]⟩) (f32_k25 l23) ?_ ?_
     · intro x174 h
       rw [f32_k25.eq_1] at h
       refine s_so fun N175 k175 w175 => ?_
       refine o_h5 [(10, (vI 0)), (121, (.agg [(.own 10 (List.length x174)), (.own 6 (List.length l23))])), (122, (.agg [(vI 0), (vS (ByteArray.mk #[]))]))] [none, (some (.row 57 2 (List.map Node.c []))), (some (.row 59 2 (List.map Val.c []))), (some (.box 26 [(.own 10 (List.length x174)), (.own 6 (List.length l23))])), (some (.box 64 [(vI 0), (vS (ByteArray.mk #[]))])), none, (some (.row 59 2 (List.map Val.c l23))), none, none, (some (.box 26 [(.own 10 (List.length x174)), (.own 6 (List.length l23))])), (some (.row 57 2 (List.map Node.c x174)))] ?_
       refine o_end (k175 _ ?_)
       exact c_ret (retsF [10, 6] [(.agg [(.own 10 (List.length x174)), (.own 6 (List.length l23))]), (.agg [(vI 0), (vS (ByteArray.mk #[]))]), (vI 0)] [(.agg [(vL Node.c x174), (vL Val.c l23)]), (.agg [(vI 0), (vS (ByteArray.mk #[]))]), (vI 0)] ⟨(fz_agg ⟨(fz_own (g := Node.c) (l := x174) (t := 57) (sz := 2) Node.p), (fz_own (g := Val.c) (l := l23) (t := 59) (sz := 2) Val.p), trivial⟩), (fz_agg ⟨fz_v, fz_v, trivial⟩), fz_v, trivial⟩ h)
     · intro N25 w25
       refine s_so fun N26 k26 w26 => ?_
       refine o_r2 [(47, (.ptr 0 0)), (48, (vL Node.c a4.fNodes))] ?_
       refine o_o (one_len (f := Node.c) (l := a4.fNodes)) ?_
       refine o_r1 [(50, (vI 0))] ?_
       refine o_end (k26 _ ?_)
       refine c_block fun E28 hE28 hO28 => ?_
       refine W2 (fun (x101 : Int) (x102 : (List Node)) => ⟨(mkd .any 123 0 [(0, (vL Form.c a1)), (1, (vL Form.c a2)), (2, (vL Rule.c a3)), (8, (.ptr 3 0)), (9, (.ptr 4 0)), (13, (.ptr 9 0)), (48, (vL Node.c a4.fNodes)), (49, (vI (len a4.fNodes))), (50, (vI x101))]), [none, (some (.row 57 2 (List.map Node.c []))), (some (.row 59 2 (List.map Val.c []))), (some (.box 26 [(.own 1 0), (.own 2 0)])), (some (.box 64 [(vI 0), (vS (ByteArray.mk #[]))])), none, (some (.row 59 2 (List.map Val.c l23))), none, none, (some (.box 26 [(.own 10 (List.length x102)), (.own 6 (List.length l23))])), (some (.row 57 2 (List.map Node.c x102)))]⟩) (f32_l29 a4 n a3 a1 a2 (f32_k25 l23)) h (wkm [0, 1, 2, 8, 9, 13, 48, 49, 50] (wh_drop (wh_keep (row_below Node.p _ _ _ _) (wh_keep (row_below Val.p _ _ _ _) (whk (whk (wh_none (wh_keep (row_below Val.p _ _ _ _) (wh_drop (wh_drop (whk (wh_keep (row_below Node.p _ _ _ _) wh_nil)))))))))))) (by intros; rw [f32_l29.eq_1]) ?_
       intro m29 x101 x102 h N29 w29
       rw [f32_l29.eq_2] at h
       refine s_so fun N103 k103 w103 => ?_
       refine o_r1 [(51, (vB (decide (x101 < (len a4.fNodes)))))] ?_
       refine o_end (k103 _ ?_)
       refine s_seq fun N104 k104 w104 => ?_
       refine i_c [51] h (fun h => ?_) (fun h => ?_)
       · refine c_skip (k104 _ ?_)
         refine J1 (r := r) (fun (x173 : (List Node)) => ⟨(mkd .any 123 0 [(0, (vL Form.c a1)), (1, (vL Form.c a2)), (2, (vL Rule.c a3)), (8, (.ptr 3 0)), (9, (.ptr 4 0)), (13, (.ptr 9 0)), (48, (vL Node.c a4.fNodes)), (49, (vI (len a4.fNodes))), (50, (vI x101))]), [none, (some (.row 57 2 (List.map Node.c []))), (some (.row 59 2 (List.map Val.c []))), (some (.box 26 [(.own 1 0), (.own 2 0)])), (some (.box 64 [(vI 0), (vS (ByteArray.mk #[]))])), none, (some (.row 59 2 (List.map Val.c l23))), none, none, (some (.box 26 [(.own 10 (List.length x173)), (.own 6 (List.length l23))])), (some (.row 57 2 (List.map Node.c x173)))]⟩) (f32_k106 x101 (f32_l29 a4 n a3 a1 a2 (f32_k25 l23) m29)) ?_ ?_
         · intro x173 h
           rw [f32_k106.eq_1] at h
           refine c_ops ?_
           refine o_r2 [(50, (vI (wr .i64 (x101 + 1)))), (120, (vI (wr .i64 (x101 + 1))))] ?_
           exact o_end (w29 _ _ _ (wkm [0, 1, 2, 8, 9, 13, 48, 49, 50] (wh_none (wh_keep (row_below Node.p _ _ _ _) (wh_keep (row_below Val.p _ _ _ _) (whk (whk (wh_none (wh_keep (row_below Val.p _ _ _ _) (wh_none (wh_none (whk (wh_keep (row_below Node.p _ _ _ _) wh_nil)))))))))))) h)
         · intro N106 w106
           refine c_block fun E107 hE107 hO107 => ?_
           refine s_so fun N108 k108 w108 => ?_
           refine o_r1 [(52, (vI x101))] ?_
           refine bnd h fun x109 g110 h => ?_
           refine o_o (one_ia (f := Node.c) (ki := .i64) g110) ?_
           refine o_h4 [(14, (vI x101)), (15, (.ptr 12 0)), (54, (.agg [(vS x109.fClass), (vL Val.c x109.fVals)]))] [none, (some (.row 57 2 (List.map Node.c []))), (some (.row 59 2 (List.map Val.c []))), (some (.box 26 [(.own 1 0), (.own 2 0)])), (some (.box 64 [(vI 0), (vS (ByteArray.mk #[]))])), none, (some (.row 59 2 (List.map Val.c l23))), none, none, (some (.box 26 [(.own 10 (List.length x102)), (.own 6 (List.length l23))])), (some (.row 57 2 (List.map Node.c x102))), (some (.row 59 2 (List.map Val.c []))), (some (.box 57 [(vS x109.fClass), (vL Val.c x109.fVals)]))] ?_
           refine o_end (k108 _ ?_)
           refine s_so fun N111 k111 w111 => ?_
           refine o_r3 [(56, (vL Rule.c a3)), (57, (.ptr 12 0)), (58, (vS x109.fClass))] ?_
           refine bnd h fun r112 g113 h => ?_
           refine o_o (one_call (p_f78 g113)) ?_
           refine o_h6 [(16, (.ptr 14 0)), (17, (vB r112.2)), (55, (.tup [(.agg [(vS r112.1.fClass), (vS r112.1.fTo), (vL Give.c r112.1.fGives)]), (vB r112.2)])), (60, (.agg [(vS r112.1.fClass), (vS r112.1.fTo), (vL Give.c r112.1.fGives)])), (61, (vB r112.2))] [none, (some (.row 57 2 (List.map Node.c []))), (some (.row 59 2 (List.map Val.c []))), (some (.box 26 [(.own 1 0), (.own 2 0)])), (some (.box 64 [(vI 0), (vS (ByteArray.mk #[]))])), none, (some (.row 59 2 (List.map Val.c l23))), none, none, (some (.box 26 [(.own 10 (List.length x102)), (.own 6 (List.length l23))])), (some (.row 57 2 (List.map Node.c x102))), (some (.row 59 2 (List.map Val.c []))), (some (.box 57 [(vS x109.fClass), (vL Val.c x109.fVals)])), (some (.row 97 3 (List.map Give.c []))), (some (.box 100 [(vS r112.1.fClass), (vS r112.1.fTo), (vL Give.c r112.1.fGives)]))] ?_
           refine o_end (k111 _ ?_)
           refine s_so fun N114 k114 w114 => ?_
           refine o_r4 [(62, (vL Form.c a1)), (63, (vL Form.c a1)), (64, (.ptr 12 0)), (65, (vS x109.fClass))] ?_
           refine bnd h fun r115 g116 h => ?_
           refine o_o (one_call (p_f52 g116)) ?_
           refine bnd h fun x117 g118 h => ?_
           refine o_o (one_ia (f := Form.c) (ki := .i64) g118) ?_
           refine o_r3 [(18, (vL Col.c x117.fCols)), (68, (.iptr [(vL Col.c x117.fCols)])), (69, (vL Col.c x117.fCols))] ?_
           refine s_tm (mkd .any 123 0 [(0, (vL Form.c a1)), (1, (vL Form.c a2)), (2, (vL Rule.c a3)), (8, (.ptr 3 0)), (9, (.ptr 4 0)), (13, (.ptr 9 0)), (14, (vI x101)), (15, (.ptr 12 0)), (16, (.ptr 14 0)), (17, (vB r112.2)), (18, (vL Col.c x117.fCols)), (48, (vL Node.c a4.fNodes)), (49, (vI (len a4.fNodes))), (50, (vI x101)), (51, (vB true)), (52, (vI x101)), (53, (.iptr [(vS x109.fClass), (vL Val.c x109.fVals)])), (54, (.agg [(vS x109.fClass), (vL Val.c x109.fVals)])), (55, (.tup [(.agg [(vS r112.1.fClass), (vS r112.1.fTo), (vL Give.c r112.1.fGives)]), (vB r112.2)])), (56, (vL Rule.c a3)), (57, (.ptr 12 0)), (58, (vS x109.fClass)), (59, (.tup [(.agg [(vS r112.1.fClass), (vS r112.1.fTo), (vL Give.c r112.1.fGives)]), (vB r112.2)])), (60, (.agg [(vS r112.1.fClass), (vS r112.1.fTo), (vL Give.c r112.1.fGives)])), (61, (vB r112.2)), (62, (vL Form.c a1)), (63, (vL Form.c a1)), (64, (.ptr 12 0)), (65, (vS x109.fClass)), (66, (vI r115)), (67, (.iptr [(vS x117.fName), (vL Col.c x117.fCols)])), (68, (.iptr [(vL Col.c x117.fCols)])), (69, (vL Col.c x117.fCols))]) ?_
           refine o_end (w114 _ ⟨(mkd .any 123 0 [(0, (vL Form.c a1)), (1, (vL Form.c a2)), (2, (vL Rule.c a3)), (8, (.ptr 3 0)), (9, (.ptr 4 0)), (13, (.ptr 9 0)), (14, (vI x101)), (15, (.ptr 12 0)), (16, (.ptr 14 0)), (18, (vL Col.c x117.fCols)), (48, (vL Node.c a4.fNodes)), (49, (vI (len a4.fNodes))), (50, (vI x101))]), [none, (some (.row 57 2 (List.map Node.c []))), (some (.row 59 2 (List.map Val.c []))), (some (.box 26 [(.own 1 0), (.own 2 0)])), (some (.box 64 [(vI 0), (vS (ByteArray.mk #[]))])), none, (some (.row 59 2 (List.map Val.c l23))), none, none, (some (.box 26 [(.own 10 (List.length x102)), (.own 6 (List.length l23))])), (some (.row 57 2 (List.map Node.c x102))), none, (some (.box 57 [(vS x109.fClass), (vL Val.c x109.fVals)])), none, (some (.box 100 [(vS r112.1.fClass), (vS r112.1.fTo), (vL Give.c r112.1.fGives)]))]⟩ (wkm [0, 1, 2, 8, 9, 13, 14, 15, 16, 18, 48, 49, 50] (wh_none (wh_keep (row_below Node.p _ _ _ _) (wh_keep (row_below Val.p _ _ _ _) (whk (whk (wh_none (wh_keep (row_below Val.p _ _ _ _) (wh_none (wh_none (whk (wh_keep (row_below Node.p _ _ _ _) (wh_drop (whk (wh_drop (whk wh_nil)))))))))))))))) ?_)
           refine s_so fun N119 k119 w119 => ?_
           refine o_h5 [(19, (.ptr 16 0)), (70, (.ptr 14 1)), (71, (vS r112.1.fTo)), (72, (.agg [(vS r112.1.fTo), (.val (.slice none 0 0))]))] [none, (some (.row 57 2 (List.map Node.c []))), (some (.row 59 2 (List.map Val.c []))), (some (.box 26 [(.own 1 0), (.own 2 0)])), (some (.box 64 [(vI 0), (vS (ByteArray.mk #[]))])), none, (some (.row 59 2 (List.map Val.c l23))), none, none, (some (.box 26 [(.own 10 (List.length x102)), (.own 6 (List.length l23))])), (some (.row 57 2 (List.map Node.c x102))), none, (some (.box 57 [(vS x109.fClass), (vL Val.c x109.fVals)])), none, (some (.box 100 [(vS r112.1.fClass), (vS r112.1.fTo), (vL Give.c r112.1.fGives)])), (some (.row 59 2 (List.map Val.c []))), (some (.box 57 [(vS r112.1.fTo), (.own 17 0)])), (some (.row 59 2 (List.map Val.c [])))] ?_
           refine o_end (k119 _ ?_)
           refine J1 (r := r) (fun (x169 : (List Val)) => ⟨(mkd .any 123 0 [(0, (vL Form.c a1)), (1, (vL Form.c a2)), (2, (vL Rule.c a3)), (8, (.ptr 3 0)), (9, (.ptr 4 0)), (13, (.ptr 9 0)), (19, (.ptr 16 0)), (48, (vL Node.c a4.fNodes)), (49, (vI (len a4.fNodes))), (50, (vI x101))]), [none, (some (.row 57 2 (List.map Node.c []))), (some (.row 59 2 (List.map Val.c []))), (some (.box 26 [(.own 1 0), (.own 2 0)])), (some (.box 64 [(vI 0), (vS (ByteArray.mk #[]))])), none, (some (.row 59 2 (List.map Val.c l23))), none, none, (some (.box 26 [(.own 10 (List.length x102)), (.own 6 (List.length l23))])), (some (.row 57 2 (List.map Node.c x102))), none, none, none, none, none, (some (.box 57 [(vS r112.1.fTo), (.own 17 (List.length x169))])), (some (.row 59 2 (List.map Val.c x169)))]⟩) (f32_k120 x102 r112 x101 (f32_l29 a4 n a3 a1 a2 (f32_k25 l23) m29)) ?_ ?_
           · intro x169 h
             rw [f32_k120.eq_1] at h
             refine c_ops ?_
             refine o_r3 [(114, (.ptr 9 0)), (115, (.own 10 (List.length x102))), (116, (.agg [(vS r112.1.fTo), (.own 17 (List.length x169))]))] ?_
             refine o_x [none, (some (.row 57 2 (List.map Node.c []))), (some (.row 59 2 (List.map Val.c []))), (some (.box 26 [(.own 1 0), (.own 2 0)])), (some (.box 64 [(vI 0), (vS (ByteArray.mk #[]))])), none, (some (.row 59 2 (List.map Val.c l23))), none, none, (some (.box 26 [(.own 10 (List.length x102)), (.own 6 (List.length l23))])), (some (.row 57 2 (List.map Node.c x102))), none, none, none, none, none, (some (.box 57 [(vS r112.1.fTo), (.own 17 (List.length x169))])), none, (some (.row 57 2 (List.map Node.c [(Node.mk r112.1.fTo x169)])))] (one_bsl (f := Node.c) (ys := [(vS r112.1.fTo), (vL Val.c x169)]) [(Node.mk r112.1.fTo x169)] [[(vS r112.1.fTo), (.own 17 (List.length x169))]] [17] (rl_v (rl_own (g := Val.c) (l := x169) (t := 59) (sz := 2) Val.p rl_nil))) ?_
             refine bnd h fun l171 g172 h => ?_
             refine o_x [none, (some (.row 57 2 (List.map Node.c []))), (some (.row 59 2 (List.map Val.c []))), (some (.box 26 [(.own 1 0), (.own 2 0)])), (some (.box 64 [(vI 0), (vS (ByteArray.mk #[]))])), none, (some (.row 59 2 (List.map Val.c l23))), none, none, (some (.box 26 [(.own 10 (List.length x102)), (.own 6 (List.length l23))])), (some (.row 57 2 (List.map Node.c l171))), none, none, none, none, none, (some (.box 57 [(vS r112.1.fTo), (.own 17 (List.length x169))])), none, (some (.row 57 2 (List.map Node.c [(Node.mk r112.1.fTo x169)])))] (one_app (f := Node.c) (o := 10) g172 (fun _ => ⟨rfl, rfl⟩) (hy := asL_own (t := 57) (sz := 2) (by kernel_rfl))) ?_
             refine o_h2 [(119, (.ptr 9 0))] [none, (some (.row 57 2 (List.map Node.c []))), (some (.row 59 2 (List.map Val.c []))), (some (.box 26 [(.own 1 0), (.own 2 0)])), (some (.box 64 [(vI 0), (vS (ByteArray.mk #[]))])), none, (some (.row 59 2 (List.map Val.c l23))), none, none, (some (.box 26 [(.own 10 (List.length l171)), (.own 6 (List.length l23))])), (some (.row 57 2 (List.map Node.c l171))), none, none, none, none, none, (some (.box 57 [(vS r112.1.fTo), (.own 17 (List.length x169))])), none, (some (.row 57 2 (List.map Node.c [(Node.mk r112.1.fTo x169)])))] ?_
             exact o_end (w106 _ _ (wkm [0, 1, 2, 8, 9, 13, 48, 49, 50] (wh_none (wh_keep (row_below Node.p _ _ _ _) (wh_keep (row_below Val.p _ _ _ _) (whk (whk (wh_none (wh_keep (row_below Val.p _ _ _ _) (wh_none (wh_none (whk (wh_keep (row_below Node.p _ _ _ _) wh_nil)))))))))))) h)
           · intro N120 w120
             refine s_so fun N121 k121 w121 => ?_
             refine o_r4 [(73, (vL Form.c a2)), (74, (vL Form.c a2)), (75, (.ptr 14 1)), (76, (vS r112.1.fTo))] ?_
             refine bnd h fun r122 g123 h => ?_
             refine o_o (one_call (p_f52 g123)) ?_
             refine bnd h fun x124 g125 h => ?_
             refine o_o (one_ia (f := Form.c) (ki := .i64) g125) ?_
             refine o_r2 [(79, (.iptr [(vL Col.c x124.fCols)])), (80, (vL Col.c x124.fCols))] ?_
             refine o_o (one_len (f := Col.c) (l := x124.fCols)) ?_
             refine o_r1 [(82, (vI 0))] ?_
             refine o_end (k121 _ ?_)
             refine c_block fun E127 hE127 hO127 => ?_
             refine W2 (fun (x148 : Int) (x149 : (List Val)) => ⟨(mkd .any 123 0 [(0, (vL Form.c a1)), (1, (vL Form.c a2)), (2, (vL Rule.c a3)), (8, (.ptr 3 0)), (9, (.ptr 4 0)), (13, (.ptr 9 0)), (14, (vI x101)), (15, (.ptr 12 0)), (16, (.ptr 14 0)), (18, (vL Col.c x117.fCols)), (19, (.ptr 16 0)), (48, (vL Node.c a4.fNodes)), (49, (vI (len a4.fNodes))), (50, (vI x101)), (80, (vL Col.c x124.fCols)), (81, (vI (len x124.fCols))), (82, (vI x148))]), [none, (some (.row 57 2 (List.map Node.c []))), (some (.row 59 2 (List.map Val.c []))), (some (.box 26 [(.own 1 0), (.own 2 0)])), (some (.box 64 [(vI 0), (vS (ByteArray.mk #[]))])), none, (some (.row 59 2 (List.map Val.c l23))), none, none, (some (.box 26 [(.own 10 (List.length x102)), (.own 6 (List.length l23))])), (some (.row 57 2 (List.map Node.c x102))), none, (some (.box 57 [(vS x109.fClass), (vL Val.c x109.fVals)])), none, (some (.box 100 [(vS r112.1.fClass), (vS r112.1.fTo), (vL Give.c r112.1.fGives)])), none, (some (.box 57 [(vS r112.1.fTo), (.own 17 (List.length x149))])), (some (.row 59 2 (List.map Val.c x149)))]⟩) (f32_l128 x124 r112 n x117 x109 x101 (f32_k120 x102 r112 x101 (f32_l29 a4 n a3 a1 a2 (f32_k25 l23) m29))) h (wkm [0, 1, 2, 8, 9, 13, 14, 15, 16, 18, 19, 48, 49, 50, 80, 81, 82] (wh_none (wh_keep (row_below Node.p _ _ _ _) (wh_keep (row_below Val.p _ _ _ _) (whk (whk (wh_none (wh_keep (row_below Val.p _ _ _ _) (wh_none (wh_none (whk (wh_keep (row_below Node.p _ _ _ _) (wh_none (whk (wh_none (whk (wh_drop (whk (wh_keep (row_below Val.p _ _ _ _) wh_nil))))))))))))))))))) (by intros; rw [f32_l128.eq_1]) ?_
             intro m128 x148 x149 h N128 w128
             rw [f32_l128.eq_2] at h
             refine s_so fun N150 k150 w150 => ?_
             refine o_r1 [(83, (vB (decide (x148 < (len x124.fCols)))))] ?_
             refine o_end (k150 _ ?_)
             refine s_seq fun N151 k151 w151 => ?_
             refine i_c [83] h (fun h => ?_) (fun h => ?_)
             · refine c_skip (k151 _ ?_)
               refine s_seq fun N153 k153 w153 => ?_
               refine c_block fun E154 hE154 hO154 => ?_
               refine s_so fun N155 k155 w155 => ?_
               refine o_r1 [(84, (vI x148))] ?_
               refine bnd h fun x156 g157 h => ?_
               refine o_o (one_ia (f := Col.c) (ki := .i64) g157) ?_
               refine o_h4 [(20, (vI x148)), (21, (.ptr 18 0)), (86, (.agg [(vS x156.fName), (vI x156.fKind), (vS x156.fClass)]))] [none, (some (.row 57 2 (List.map Node.c []))), (some (.row 59 2 (List.map Val.c []))), (some (.box 26 [(.own 1 0), (.own 2 0)])), (some (.box 64 [(vI 0), (vS (ByteArray.mk #[]))])), none, (some (.row 59 2 (List.map Val.c l23))), none, none, (some (.box 26 [(.own 10 (List.length x102)), (.own 6 (List.length l23))])), (some (.row 57 2 (List.map Node.c x102))), none, (some (.box 57 [(vS x109.fClass), (vL Val.c x109.fVals)])), none, (some (.box 100 [(vS r112.1.fClass), (vS r112.1.fTo), (vL Give.c r112.1.fGives)])), none, (some (.box 57 [(vS r112.1.fTo), (.own 17 (List.length x149))])), (some (.row 59 2 (List.map Val.c x149))), (some (.box 93 [(vS x156.fName), (vI x156.fKind), (vS x156.fClass)]))] ?_
               refine o_end (k155 _ ?_)
               refine s_seq fun N158 k158 w158 => ?_
               refine c_draw0 ?_
               refine d_r3 [(88, (.ptr 14 2)), (89, (vL Give.c r112.1.fGives)), (90, (vI x148))] ?_
               refine bnd h fun x159 g160 h => ?_
               refine d_o (one_ia (f := Give.c) (ki := .i64) g160) ?_
               refine d_r5 [(92, (.agg [(vS x159.fFrom), (vI x159.fHow), (vI x159.fN)])), (93, (vL Col.c x117.fCols)), (94, (.ptr 12 1)), (95, (vL Val.c x109.fVals)), (96, (.agg [(vS x156.fName), (vI x156.fKind), (vS x156.fClass)]))] ?_
               refine bnd h fun r161 g162 h => ?_
               refine d_o (one_call (p_f79 g162)) ?_
               refine d_r3 [(87, (.tup [(.agg [(vI r161.1.fKind), (vI r161.1.fN)]), (vB r161.2)])), (98, (.agg [(vI r161.1.fKind), (vI r161.1.fN)])), (99, (vB r161.2))] ?_
               refine d_te (.ptr 19 0) [none, (some (.row 57 2 (List.map Node.c []))), (some (.row 59 2 (List.map Val.c []))), (some (.box 26 [(.own 1 0), (.own 2 0)])), (some (.box 64 [(vI 0), (vS (ByteArray.mk #[]))])), none, (some (.row 59 2 (List.map Val.c l23))), none, none, (some (.box 26 [(.own 10 (List.length x102)), (.own 6 (List.length l23))])), (some (.row 57 2 (List.map Node.c x102))), none, (some (.box 57 [(vS x109.fClass), (vL Val.c x109.fVals)])), none, (some (.box 100 [(vS r112.1.fClass), (vS r112.1.fTo), (vL Give.c r112.1.fGives)])), none, (some (.box 57 [(vS r112.1.fTo), (.own 17 (List.length x149))])), (some (.row 59 2 (List.map Val.c x149))), (some (.box 93 [(vS x156.fName), (vI x156.fKind), (vS x156.fClass)])), (some (.box 59 [(vI 0), (vI 0)]))] (ra_cat (ra_cat (ra_cat (ra_cat (ra_cat ra_nil (ra_t (ra_t (ra_t ra_nil)))) (ra_o (one_ia (f := Give.c) (ki := .i64) g160) ra_nil)) (ra_t (ra_t (ra_t (ra_t (ra_t ra_nil)))))) (ra_o (one_call (p_f79 g162)) ra_nil)) (ra_t (ra_t (ra_t ra_nil)))) ?_
               refine d_te (.val undef) [none, (some (.row 57 2 (List.map Node.c []))), (some (.row 59 2 (List.map Val.c []))), (some (.box 26 [(.own 1 0), (.own 2 0)])), (some (.box 64 [(vI 0), (vS (ByteArray.mk #[]))])), none, (some (.row 59 2 (List.map Val.c l23))), none, none, (some (.box 26 [(.own 10 (List.length x102)), (.own 6 (List.length l23))])), (some (.row 57 2 (List.map Node.c x102))), none, (some (.box 57 [(vS x109.fClass), (vL Val.c x109.fVals)])), none, (some (.box 100 [(vS r112.1.fClass), (vS r112.1.fTo), (vL Give.c r112.1.fGives)])), none, (some (.box 57 [(vS r112.1.fTo), (.own 17 (List.length x149))])), (some (.row 59 2 (List.map Val.c x149))), (some (.box 93 [(vS x156.fName), (vI x156.fKind), (vS x156.fClass)])), (some (.box 59 [(vI r161.1.fKind), (vI r161.1.fN)]))] (ra_cat (ra_cat (ra_cat (ra_cat (ra_cat ra_nil (ra_s (ra_s (ra_s ra_nil)))) (ra_s ra_nil)) (ra_s (ra_s (ra_s (ra_s (ra_s ra_nil)))))) (ra_s ra_nil)) (ra_s (ra_s (ra_t ra_nil)))) ?_
               refine d_r1 [(23, (vB r161.2))] ?_
               refine t_tm (mkd .any 123 0 [(0, (vL Form.c a1)), (1, (vL Form.c a2)), (2, (vL Rule.c a3)), (8, (.ptr 3 0)), (9, (.ptr 4 0)), (13, (.ptr 9 0)), (14, (vI x101)), (15, (.ptr 12 0)), (16, (.ptr 14 0)), (18, (vL Col.c x117.fCols)), (19, (.ptr 16 0)), (20, (vI x148)), (21, (.ptr 18 0)), (22, (.ptr 19 0)), (23, (vB r161.2)), (48, (vL Node.c a4.fNodes)), (49, (vI (len a4.fNodes))), (50, (vI x101)), (80, (vL Col.c x124.fCols)), (81, (vI (len x124.fCols))), (82, (vI x148)), (83, (vB true)), (84, (vI x148)), (85, (.iptr [(vS x156.fName), (vI x156.fKind), (vS x156.fClass)])), (86, (.agg [(vS x156.fName), (vI x156.fKind), (vS x156.fClass)])), (87, (.tup [(.agg [(vI r161.1.fKind), (vI r161.1.fN)]), (vB r161.2)])), (88, (.ptr 14 2)), (89, (vL Give.c r112.1.fGives)), (90, (vI x148)), (91, (.iptr [(vS x159.fFrom), (vI x159.fHow), (vI x159.fN)])), (92, (.agg [(vS x159.fFrom), (vI x159.fHow), (vI x159.fN)])), (93, (vL Col.c x117.fCols)), (94, (.ptr 12 1)), (95, (vL Val.c x109.fVals)), (96, (.agg [(vS x156.fName), (vI x156.fKind), (vS x156.fClass)])), (97, (.tup [(.agg [(vI r161.1.fKind), (vI r161.1.fN)]), (vB r161.2)])), (98, (.agg [(vI r161.1.fKind), (vI r161.1.fN)])), (99, (vB r161.2))]) ?_
               refine d_end (w158 _ ⟨(mkd .any 123 0 [(0, (vL Form.c a1)), (1, (vL Form.c a2)), (2, (vL Rule.c a3)), (8, (.ptr 3 0)), (9, (.ptr 4 0)), (13, (.ptr 9 0)), (14, (vI x101)), (15, (.ptr 12 0)), (16, (.ptr 14 0)), (18, (vL Col.c x117.fCols)), (19, (.ptr 16 0)), (21, (.ptr 18 0)), (22, (.ptr 19 0)), (23, (vB r161.2)), (48, (vL Node.c a4.fNodes)), (49, (vI (len a4.fNodes))), (50, (vI x101)), (80, (vL Col.c x124.fCols)), (81, (vI (len x124.fCols))), (82, (vI x148))]), [none, (some (.row 57 2 (List.map Node.c []))), (some (.row 59 2 (List.map Val.c []))), (some (.box 26 [(.own 1 0), (.own 2 0)])), (some (.box 64 [(vI 0), (vS (ByteArray.mk #[]))])), none, (some (.row 59 2 (List.map Val.c l23))), none, none, (some (.box 26 [(.own 10 (List.length x102)), (.own 6 (List.length l23))])), (some (.row 57 2 (List.map Node.c x102))), none, (some (.box 57 [(vS x109.fClass), (vL Val.c x109.fVals)])), none, (some (.box 100 [(vS r112.1.fClass), (vS r112.1.fTo), (vL Give.c r112.1.fGives)])), none, (some (.box 57 [(vS r112.1.fTo), (.own 17 (List.length x149))])), (some (.row 59 2 (List.map Val.c x149))), (some (.box 93 [(vS x156.fName), (vI x156.fKind), (vS x156.fClass)])), (some (.box 59 [(vI r161.1.fKind), (vI r161.1.fN)]))]⟩ (wkm [0, 1, 2, 8, 9, 13, 14, 15, 16, 18, 19, 21, 22, 23, 48, 49, 50, 80, 81, 82] (wh_none (wh_keep (row_below Node.p _ _ _ _) (wh_keep (row_below Val.p _ _ _ _) (whk (whk (wh_none (wh_keep (row_below Val.p _ _ _ _) (wh_none (wh_none (whk (wh_keep (row_below Node.p _ _ _ _) (wh_none (whk (wh_none (whk (wh_none (whk (wh_keep (row_below Val.p _ _ _ _) (whk (whk wh_nil))))))))))))))))))))) ?_)
               refine s_seq fun N163 k163 w163 => ?_
               refine s_so fun N164 k164 w164 => ?_
               refine o_r2 [(100, (vB r161.2)), (101, (vB (!r161.2)))] ?_
               refine o_end (k164 _ ?_)
               refine i_c [101] h (fun h => ?_) (fun h => ?_)
               · refine s_seq fun N166 k166 w166 => ?_
                 refine c_draw0 ?_
                 refine d_r5 [(102, (.agg [(.val (.slice none 0 0)), (.val (.slice none 0 0))])), (103, (vI x101)), (104, (.ptr 18 0)), (105, (vS x156.fName)), (106, (.agg [(vI x101), (vS x156.fName)]))] ?_
                 refine d_te (.val undef) [none, (some (.row 57 2 (List.map Node.c []))), (some (.row 59 2 (List.map Val.c []))), (some (.box 26 [(.own 20 0), (.own 21 0)])), (some (.box 64 [(vI 0), (vS (ByteArray.mk #[]))])), none, (some (.row 59 2 (List.map Val.c l23))), none, none, (some (.box 26 [(.own 10 (List.length x102)), (.own 6 (List.length l23))])), (some (.row 57 2 (List.map Node.c x102))), none, (some (.box 57 [(vS x109.fClass), (vL Val.c x109.fVals)])), none, (some (.box 100 [(vS r112.1.fClass), (vS r112.1.fTo), (vL Give.c r112.1.fGives)])), none, (some (.box 57 [(vS r112.1.fTo), (.own 17 (List.length x149))])), (some (.row 59 2 (List.map Val.c x149))), (some (.box 93 [(vS x156.fName), (vI x156.fKind), (vS x156.fClass)])), (some (.box 59 [(vI r161.1.fKind), (vI r161.1.fN)])), (some (.row 57 2 (List.map Node.c []))), (some (.row 59 2 (List.map Val.c [])))] (ra_cat ra_nil (ra_s (ra_t (ra_t (ra_t (ra_t ra_nil)))))) ?_
                 refine d_te (.val undef) [none, (some (.row 57 2 (List.map Node.c []))), (some (.row 59 2 (List.map Val.c []))), (some (.box 26 [(.own 20 0), (.own 21 0)])), (some (.box 64 [(vI x101), (vS x156.fName)])), none, (some (.row 59 2 (List.map Val.c l23))), none, none, (some (.box 26 [(.own 10 (List.length x102)), (.own 6 (List.length l23))])), (some (.row 57 2 (List.map Node.c x102))), none, (some (.box 57 [(vS x109.fClass), (vL Val.c x109.fVals)])), none, (some (.box 100 [(vS r112.1.fClass), (vS r112.1.fTo), (vL Give.c r112.1.fGives)])), none, (some (.box 57 [(vS r112.1.fTo), (.own 17 (List.length x149))])), (some (.row 59 2 (List.map Val.c x149))), (some (.box 93 [(vS x156.fName), (vI x156.fKind), (vS x156.fClass)])), (some (.box 59 [(vI r161.1.fKind), (vI r161.1.fN)])), (some (.row 57 2 (List.map Node.c []))), (some (.row 59 2 (List.map Val.c [])))] (ra_cat ra_nil (ra_s (ra_s (ra_s (ra_s (ra_s ra_nil)))))) ?_
                 refine d_r1 [(10, (vI 10))] ?_
                 refine d_end (w166 _ ⟨(mkd .any 123 0 [(8, (.ptr 3 0)), (9, (.ptr 4 0)), (10, (vI 10))]), [none, none, none, (some (.box 26 [(.own 20 0), (.own 21 0)])), (some (.box 64 [(vI x101), (vS x156.fName)])), none, none, none, none, none, none, none, none, none, none, none, none, none, none, none, (some (.row 57 2 (List.map Node.c []))), (some (.row 59 2 (List.map Val.c [])))]⟩ (wkm [8, 9, 10] (wh_none (wh_drop (wh_drop (whk (whk (wh_none (wh_drop (wh_none (wh_none (wh_drop (wh_drop (wh_none (wh_drop (wh_none (wh_drop (wh_none (wh_drop (wh_drop (wh_drop (wh_drop (wh_keep (row_below Node.p _ _ _ _) (wh_keep (row_below Val.p _ _ _ _) wh_nil))))))))))))))))))))))) ?_)
                 exact c_ret (retsF [20, 21] [(.agg [(.own 20 0), (.own 21 0)]), (.agg [(vI x101), (vS x156.fName)]), (vI 10)] [(.agg [(vL Node.c []), (vL Val.c [])]), (.agg [(vI x101), (vS x156.fName)]), (vI 10)] ⟨(fz_agg ⟨(fz_own (g := Node.c) (l := []) (t := 57) (sz := 2) Node.p), (fz_own (g := Val.c) (l := []) (t := 59) (sz := 2) Val.p), trivial⟩), (fz_agg ⟨fz_v, fz_v, trivial⟩), fz_v, trivial⟩ h)
               · refine c_skip (k163 _ ?_)
                 refine c_ops ?_
                 refine o_r4 [(107, (.ptr 16 1)), (108, (.own 17 (List.length x149))), (109, (.agg [(vI r161.1.fKind), (vI r161.1.fN)])), (110, (vL Val.c [r161.1]))] ?_
                 refine bnd h fun l167 g168 h => ?_
                 refine o_x [none, (some (.row 57 2 (List.map Node.c []))), (some (.row 59 2 (List.map Val.c []))), (some (.box 26 [(.own 1 0), (.own 2 0)])), (some (.box 64 [(vI 0), (vS (ByteArray.mk #[]))])), none, (some (.row 59 2 (List.map Val.c l23))), none, none, (some (.box 26 [(.own 10 (List.length x102)), (.own 6 (List.length l23))])), (some (.row 57 2 (List.map Node.c x102))), none, (some (.box 57 [(vS x109.fClass), (vL Val.c x109.fVals)])), none, (some (.box 100 [(vS r112.1.fClass), (vS r112.1.fTo), (vL Give.c r112.1.fGives)])), none, (some (.box 57 [(vS r112.1.fTo), (.own 17 (List.length x149))])), (some (.row 59 2 (List.map Val.c l167))), (some (.box 93 [(vS x156.fName), (vI x156.fKind), (vS x156.fClass)])), (some (.box 59 [(vI r161.1.fKind), (vI r161.1.fN)]))] (one_app (f := Val.c) (o := 17) g168 (fun _ => ⟨rfl, rfl⟩)) ?_
                 refine o_h2 [(112, (.ptr 16 1))] [none, (some (.row 57 2 (List.map Node.c []))), (some (.row 59 2 (List.map Val.c []))), (some (.box 26 [(.own 1 0), (.own 2 0)])), (some (.box 64 [(vI 0), (vS (ByteArray.mk #[]))])), none, (some (.row 59 2 (List.map Val.c l23))), none, none, (some (.box 26 [(.own 10 (List.length x102)), (.own 6 (List.length l23))])), (some (.row 57 2 (List.map Node.c x102))), none, (some (.box 57 [(vS x109.fClass), (vL Val.c x109.fVals)])), none, (some (.box 100 [(vS r112.1.fClass), (vS r112.1.fTo), (vL Give.c r112.1.fGives)])), none, (some (.box 57 [(vS r112.1.fTo), (.own 17 (List.length l167))])), (some (.row 59 2 (List.map Val.c l167))), (some (.box 93 [(vS x156.fName), (vI x156.fKind), (vS x156.fClass)])), (some (.box 59 [(vI r161.1.fKind), (vI r161.1.fN)]))] ?_
                 refine o_end (k153 _ ?_)
                 refine c_ops ?_
                 refine o_r2 [(82, (vI (wr .i64 (x148 + 1)))), (113, (vI (wr .i64 (x148 + 1))))] ?_
                 exact o_end (w128 _ _ _ (wkm [0, 1, 2, 8, 9, 13, 14, 15, 16, 18, 19, 48, 49, 50, 80, 81, 82] (wh_none (wh_keep (row_below Node.p _ _ _ _) (wh_keep (row_below Val.p _ _ _ _) (whk (whk (wh_none (wh_keep (row_below Val.p _ _ _ _) (wh_none (wh_none (whk (wh_keep (row_below Node.p _ _ _ _) (wh_none (whk (wh_none (whk (wh_none (whk (wh_keep (row_below Val.p _ _ _ _) wh_nil))))))))))))))))))) h)
             · refine c_exit (hE127 _ ?_)
               exact w120 _ _ (wkm [0, 1, 2, 8, 9, 13, 19, 48, 49, 50] (wh_none (wh_keep (row_below Node.p _ _ _ _) (wh_keep (row_below Val.p _ _ _ _) (whk (whk (wh_none (wh_keep (row_below Val.p _ _ _ _) (wh_none (wh_none (whk (wh_keep (row_below Node.p _ _ _ _) (wh_none (wh_drop (wh_none (wh_drop (wh_none (whk (wh_keep (row_below Val.p _ _ _ _) wh_nil))))))))))))))))))) h
       · refine c_exit (hE28 _ ?_)
         exact w25 _ _ (wkm [8, 9, 13] (wh_none (wh_keep (row_below Node.p _ _ _ _) (wh_keep (row_below Val.p _ _ _ _) (whk (whk (wh_none (wh_keep (row_below Val.p _ _ _ _) (wh_none (wh_none (whk (wh_keep (row_below Node.p _ _ _ _) wh_nil)))))))))))) h
end Go.Proofs
end
section
namespace Go.Vm
theorem wr_id {x : Int} (h1 : -9223372036854775808 ≤ x) (h2 : x < 9223372036854775808) : wr .i64 x = x := by
  unfold wr IntKind.wrap
  simp [IntKind.bits, IntKind.signed]
  omega
theorem gi_nat {α : Type} (l : List α) (k : Nat) : gi l (k : Int) = l[k]? := rfl
section
variable {α σ ρ : Type}
def go0 (B : Int → α → Option ρ → Option ρ) (K : Option ρ) : List α → Nat → Option ρ
  | [], _ => K
  | y :: l, k => B k y (go0 B K l (k + 1))
theorem scan0 (l : List α) (K : Option ρ) (B : Int → α → Option ρ → Option ρ) (L : Nat → Int → Option ρ)
    (hL : ∀ m x, L (m + 1) x = bif decide (x < len l) then (gi l x).bind fun y => B x y (L m (wr .i64 (x + 1))) else K) (hl : l.length < 4611686018427387904) :
    ∀ (d k m : Nat), d + k = l.length → d < m → L m k = go0 B K (l.drop k) k
  | 0, k, m, hk, hm => by
    obtain ⟨m, rfl⟩ := Nat.exists_eq_succ_of_ne_zero (by omega : m ≠ 0)
    have : l.drop k = [] := List.drop_eq_nil_of_le (by omega)
    rw [hL, this]
    have hd : decide ((k : Int) < len l) = false := by simp [len]; omega
    rw [hd]; rfl
  | d + 1, k, m, hk, hm => by
    obtain ⟨m, rfl⟩ := Nat.exists_eq_succ_of_ne_zero (by omega : m ≠ 0)
    have hlt : k < l.length := by omega
    rw [hL]
    have hd : decide ((k : Int) < len l) = true := by simp [len]; omega
    rw [hd, gi_nat, List.getElem?_eq_getElem hlt, List.drop_eq_getElem_cons hlt]
    simp only [cond_true, Option.bind_some, go0]
    rw [wr_id (by omega) (by omega)]
    have := scan0 l K B L hL hl d (k + 1) m (by omega) (by omega)
    push_cast at this
    rw [this]
def ixOf (p : α → Bool) : List α → Nat → Int
  | [], _ => -1
  | y :: l, k => bif p y then (k : Int) else ixOf p l (k + 1)
theorem go0_ix (p : α → Bool) (f : Int → ρ) : ∀ (l : List α) (k : Nat), go0 (fun x y acc => bif p y then some (f x) else acc) (some (f (-1))) l k = some (f (ixOf p l k))
  | [], k => rfl
  | y :: l, k => by
    simp only [go0, ixOf]
    cases p y
    · exact go0_ix p f l (k + 1)
    · rfl
end
end Go.Vm
end
section
namespace Go.Proofs
open Go.Vm
def formIx (l : List Form) (s : ByteArray) : Int := ixOf (fun x => sEqF x.fName s) l 0
def colIx (l : List Col) (s : ByteArray) : Int := ixOf (fun x => sEqF x.fName s) l 0
theorem f55_eq {n : Nat} {l : List Form} {s : ByteArray} (hn : l.length < n) (hl : l.length < 4611686018427387904) : f55 n l s = some (formIx l s) := by
  unfold f55
  have := scan0 l f55_k4 (fun x y acc => bif sEqF y.fName s then some x else acc) (f55_l7 l s f55_k4) (fun m x => rfl) hl l.length 0 n (by omega) hn
  exact this.trans (go0_ix (fun x => sEqF x.fName s) id l 0)
theorem f52_eq {n : Nat} {l : List Form} {s : ByteArray} (hn : l.length < n) (hl : l.length < 4611686018427387904) : f52 n l s = some (formIx l s) := by
  have h : f125 n l s = some (formIx l s) := by
    unfold f125
    have := scan0 l f125_k4 (fun x y acc => bif sEqF y.fName s then some x else acc) (f125_l8 l n s f125_k4) (fun m x => rfl) hl l.length 0 n (by omega) hn
    exact this.trans (go0_ix (fun x => sEqF x.fName s) id l 0)
  unfold f52 f92
  rw [h]; rfl
theorem f57_eq {n : Nat} {f : Form} {s : ByteArray} (hn : f.fCols.length < n) (hl : f.fCols.length < 4611686018427387904) : f57 n f s = some (colIx f.fCols s) := by
  unfold f57
  have := scan0 f.fCols f57_k4 (fun x y acc => bif sEqF y.fName s then some x else acc) (f57_l7 f s f57_k4) (fun m x => rfl) hl f.fCols.length 0 n (by omega) hn
  exact this.trans (go0_ix (fun x => sEqF x.fName s) id f.fCols 0)
theorem f95_eq {n : Nat} {l : List Col} {s : ByteArray} (hn : l.length < n) (hl : l.length < 4611686018427387904) : f95 n l s = some (colIx l s) := by
  have h : f144 n l s = some (colIx l s) := by
    unfold f144
    have := scan0 l f144_k4 (fun x y acc => bif sEqF y.fName s then some x else acc) (f144_l8 l n s f144_k4) (fun m x => rfl) hl l.length 0 n (by omega) hn
    exact this.trans (go0_ix (fun x => sEqF x.fName s) id l 0)
  unfold f95 f127
  rw [h]; rfl
def inR (x lo hi : Int) : Bool := decide (lo ≤ x) && decide (x ≤ hi)
theorem f86_eq (n : Nat) (x lo hi : Int) : f86 n x lo hi = some (inR x lo hi) := by
  unfold f86 inR
  cases decide (lo ≤ x) <;> rfl
theorem f58_eq (n : Nat) (x lo hi : Int) : f58 n x lo hi = some (inR x lo hi) := by
  unfold f58 inR
  show (bif decide (lo ≤ x) then _ else _) = _
  cases decide (lo ≤ x) <;> rfl
theorem f111_eq (n : Nat) (v : Val) (m : Int) : f111 n v m = f99 n v m := by
  unfold f111 f99
  simp only [f86_eq, f58_eq]
end Go.Proofs
end
section
namespace Go.Proofs
open Go.Vm
def okB (c lo hi : Int) : Bool := (decide (lo ≤ c) && decide (c ≤ hi)) || ((decide (48 ≤ c) && decide (c ≤ 57)) || (c == 95))
theorem f123_eq (n : Nat) (r lo hi : Int) : f123 n r lo hi = some (!(okB r (wr .i32 lo) (wr .i32 hi))) := by
  unfold f123 okB
  show (bif decide (wr .i32 lo ≤ r) then (bif decide (r ≤ wr .i32 hi) then _ else (bif decide (48 ≤ r) then (bif decide (r ≤ 57) then _ else _) else _)) else (bif decide (48 ≤ r) then (bif decide (r ≤ 57) then _ else _) else _)) = _
  cases decide (wr .i32 lo ≤ r) <;> cases decide (r ≤ wr .i32 hi) <;> cases decide (48 ≤ r) <;> cases decide (r ≤ 57) <;> rfl
theorem lenS (s : ByteArray) : s.data.toList.length = s.size := Array.length_toList
def allB (s : ByteArray) (lo hi : Int) (pos : Nat) : Bool := (s.data.toList.drop pos).all fun c => okB c.toNat lo hi
theorem scanStr {s : ByteArray} {n : Nat} {lo hi : Int} (hhi : wr .i32 hi < 128) : ∀ (d pos m : Nat), d + pos = s.size → d < m → ∃ r, f143_l9 s n lo hi true (some (-1)) m pos = some r ∧ decide (r < 0) = allB s (wr .i32 lo) (wr .i32 hi) pos
  | 0, pos, m, hd, hm => by
    obtain ⟨m, rfl⟩ := Nat.exists_eq_succ_of_ne_zero (by omega : m ≠ 0)
    refine ⟨-1, ?_, ?_⟩
    · rw [f143_l9.eq_2]
      have : decide (pos < ByteArray.size s) = false := by simp; omega
      rw [this]; rfl
    · have : s.data.toList.drop pos = [] := List.drop_eq_nil_of_le (by rw [lenS]; omega)
      simp [allB, this]
  | d + 1, pos, m, hd, hm => by
    obtain ⟨m, rfl⟩ := Nat.exists_eq_succ_of_ne_zero (by omega : m ≠ 0)
    have hlt : pos < s.size := by omega
    have hlen := lenS s
    have hdrop : s.data.toList.drop pos = s[pos] :: s.data.toList.drop (pos + 1) := by
      rw [List.drop_eq_getElem_cons (by omega)]
      rfl
    rw [f143_l9.eq_2]
    have h1 : decide (pos < ByteArray.size s) = true := by simpa using hlt
    rw [h1]
    simp only [cond_true, f123_eq, Option.bind_some]
    by_cases ha : (s[pos]'hlt).toNat < 128
    · have hdec := decode_ascii s pos hlt ha
      have e1 : dec1 s pos = (s[pos]'hlt).toNat := by simp [dec1, hdec]
      have e2 : dec2 s pos = 1 := by simp [dec2, hdec]
      rw [e1, e2]
      cases hok : okB ((s[pos]'hlt).toNat : Int) (wr .i32 lo) (wr .i32 hi) with
      | true =>
        obtain ⟨r, hr1, hr2⟩ := scanStr (s := s) (n := n) (lo := lo) hhi d (pos + 1) m (by omega) (by omega)
        refine ⟨r, hr1, ?_⟩
        rw [hr2]
        unfold allB
        rw [hdrop, List.all_cons, hok, Bool.true_and]
      | false =>
        refine ⟨(pos : Int), rfl, ?_⟩
        unfold allB
        rw [hdrop, List.all_cons, hok, Bool.false_and]
        simp
    · have hdec := decode_high s pos hlt (by omega)
      have e1 : 128 ≤ dec1 s pos := by have := hdec.1; unfold dec1; omega
      have hok : okB (dec1 s pos) (wr .i32 lo) (wr .i32 hi) = false := by
        unfold okB
        have a1 : decide (dec1 s pos ≤ wr .i32 hi) = false := by simp; omega
        have a2 : decide (dec1 s pos ≤ 57) = false := by simp; omega
        have a3 : (dec1 s pos == 95) = false := by simp; omega
        rw [a1, a2, a3]; simp
      have hok2 : okB ((s[pos]'hlt).toNat : Int) (wr .i32 lo) (wr .i32 hi) = false := by
        unfold okB
        have a1 : decide (((s[pos]'hlt).toNat : Int) ≤ wr .i32 hi) = false := by simp; omega
        have a2 : decide (((s[pos]'hlt).toNat : Int) ≤ 57) = false := by simp; omega
        have a3 : (((s[pos]'hlt).toNat : Int) == 95) = false := by simp; omega
        rw [a1, a2, a3]; simp
      rw [hok]
      refine ⟨(pos : Int), rfl, ?_⟩
      unfold allB
      rw [hdrop, List.all_cons, hok2, Bool.false_and]
      simp
theorem f122_eq {s : ByteArray} {n : Nat} {lo hi : Int} (hhi : wr .i32 hi < 128) (hn : s.size < n) : ∃ r, f122 n s lo hi = some r ∧ decide (r < 0) = allB s (wr .i32 lo) (wr .i32 hi) 0 := by
  obtain ⟨r, h1, h2⟩ := scanStr (s := s) (n := n) (lo := lo) hhi s.size 0 n (by omega) hn
  refine ⟨r, ?_, h2⟩
  unfold f122 f143
  have : f143_l9 s n lo hi true f143_k6 n 0 = some r := h1
  rw [this]; rfl
end Go.Proofs
end
section
namespace Go.Proofs
open Go.Vm
def namedL (lo hi : Int) : List UInt8 → Bool
  | [] => false
  | c :: t => decide (((c :: t).length : Int) ≤ 20) && (decide (lo ≤ (c.toNat : Int)) && (decide ((c.toNat : Int) ≤ hi) && (c :: t).all fun c => okB c.toNat lo hi))
theorem si_zero (s : ByteArray) : si s 0 = (s.data.toList.head?).map fun c => (c.toNat : Int) := by
  show (s[0]?).map _ = _
  congr 1
  obtain ⟨⟨l⟩⟩ := s
  cases l <;> rfl
theorem f90_eq {n : Nat} {s : ByteArray} {lo hi : Int} (hn : s.size < n) (hlo : wr .i32 lo = lo) (hhi : wr .i32 hi = hi) (h7 : hi < 128) : f90 n s lo hi = some (namedL lo hi s.data.toList) := by
  obtain ⟨r, h1, h2⟩ := f122_eq (s := s) (n := n) (lo := lo) (hi := hi) (by rw [hhi]; exact h7) hn
  have hsz := lenS s
  unfold f90
  have e0 : sEqF s (ByteArray.mk #[]) = s.data.toList.isEmpty := by
    unfold sEqF
    cases s.data.toList <;> rfl
  rw [e0, si_zero]
  unfold allB at h2
  rw [hlo, hhi, List.drop_zero] at h2
  have eb : bsz s = (s.data.toList.length : Int) := by unfold bsz; rw [hsz]
  rw [eb]
  cases hl : s.data.toList with
  | nil => simp [namedL, f90_k6]
  | cons c t =>
    rw [hl] at h2
    simp only [List.isEmpty_cons, cond_false, List.head?_cons, Option.map_some, Option.bind_some, f90_k6, h1, cond_true]
    show _ = some (decide (((c :: t).length : Int) ≤ 20) && (decide (lo ≤ (c.toNat : Int)) && (decide ((c.toNat : Int) ≤ hi) && (c :: t).all fun c => okB c.toNat lo hi)))
    rw [← h2]
    by_cases a1 : ((c :: t).length : Int) ≤ 20
    · have b1 : decide (((c :: t).length : Int) > 20) = false := by simp at a1 ⊢; omega
      have b2 : decide (((c :: t).length : Int) ≤ 20) = true := by simpa using a1
      rw [b1, b2]
      by_cases a2 : lo ≤ (c.toNat : Int)
      · have b3 : decide ((c.toNat : Int) < lo) = false := by simp; omega
        rw [b3]
        by_cases a3 : (c.toNat : Int) ≤ hi
        · have b4 : decide ((c.toNat : Int) > hi) = false := by simp; omega
          rw [b4]; simp [a2, a3]
        · have b4 : decide ((c.toNat : Int) > hi) = true := by simp; omega
          rw [b4]; simp [a2, a3]
      · have b3 : decide ((c.toNat : Int) < lo) = true := by simp; omega
        rw [b3]; simp [a2]
    · have b1 : decide (((c :: t).length : Int) > 20) = true := by simp at a1 ⊢; omega
      have b2 : decide (((c :: t).length : Int) ≤ 20) = false := by simpa using a1
      rw [b1, b2]; rfl
end Go.Proofs
end
section
namespace Go.Proofs
open Go.Vm
theorem ixOf_ge {α : Type} (p : α → Bool) : ∀ (l : List α) (k : Nat), decide (ixOf p l k ≥ 0) = l.any p
  | [], k => rfl
  | y :: l, k => by
    unfold ixOf
    rw [List.any_cons]
    cases p y
    · simpa using ixOf_ge p l (k + 1)
    · simp
theorem ixOf_lt {α : Type} (p : α → Bool) (l : List α) (k : Nat) : decide (ixOf p l k < 0) = !l.any p := by
  rw [← ixOf_ge p l k]
  by_cases h : ixOf p l k ≥ 0
  · have : ¬ ixOf p l k < 0 := by omega
    simp [h, this]
  · have : ixOf p l k < 0 := by omega
    simp [h, this]
theorem f91_eq {n : Nat} {l : List ByteArray} {s : ByteArray} (hn : l.length < n) (hl : l.length < 4611686018427387904) : f91 n l s = some (l.any fun x => sEqF s x) := by
  have h : f124 n l s = some (ixOf (fun x => sEqF s x) l 0) := by
    unfold f124
    have := scan0 l f124_k4 (fun x y acc => bif sEqF s y then some x else acc) (f124_l8 l s f124_k4) (fun m x => rfl) hl l.length 0 n (by omega) hn
    exact this.trans (go0_ix (fun x => sEqF s x) id l 0)
  unfold f91
  rw [h]
  show some (decide (ixOf (fun x => sEqF s x) l 0 ≥ 0)) = _
  rw [ixOf_ge]
def classKw : List ByteArray := [(ByteArray.mk #[73, 78, 84, 69, 71, 69, 82]), (ByteArray.mk #[66, 79, 79, 76, 69, 65, 78]), (ByteArray.mk #[65, 78, 89]), (ByteArray.mk #[78, 79, 78, 69])]
def smallKw : List ByteArray := [(ByteArray.mk #[116, 114, 117, 101]), (ByteArray.mk #[102, 97, 108, 115, 101]), (ByteArray.mk #[118, 111, 105, 100]), (ByteArray.mk #[99, 117, 114, 114, 101, 110, 116]), (ByteArray.mk #[114, 101, 115, 117, 108, 116])]
def classB (s : ByteArray) : Bool := namedL 65 90 s.data.toList && !classKw.any fun x => sEqF s x
def smallB (s : ByteArray) : Bool := namedL 97 122 s.data.toList && !smallKw.any fun x => sEqF s x
theorem wr32 {x : Int} (h1 : -2147483648 ≤ x) (h2 : x < 2147483648) : wr .i32 x = x := by
  unfold wr IntKind.wrap
  simp [IntKind.bits, IntKind.signed]
  omega
theorem f51_eq {n : Nat} {s : ByteArray} (hn : s.size < n) (h4 : 10 < n) : f51 n s = some (classB s) := by
  unfold f51 classB
  rw [f90_eq hn (wr32 (by omega) (by omega)) (wr32 (by omega) (by omega)) (by omega)]
  simp only [Option.bind_some]
  cases namedL 65 90 s.data.toList with
  | false => rfl
  | true =>
    rw [f91_eq (by simp; omega) (by simp)]
    rfl
theorem f94_eq {n : Nat} {s : ByteArray} (hn : s.size < n) (h4 : 10 < n) : f94 n s = some (smallB s) := by
  unfold f94 smallB
  rw [f90_eq hn (wr32 (by omega) (by omega)) (wr32 (by omega) (by omega)) (by omega)]
  simp only [Option.bind_some]
  cases namedL 97 122 s.data.toList with
  | false => rfl
  | true =>
    rw [f91_eq (by simp; omega) (by simp)]
    rfl
end Go.Proofs
end
