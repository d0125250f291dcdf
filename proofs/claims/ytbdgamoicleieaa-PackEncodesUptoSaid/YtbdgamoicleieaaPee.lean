/- Texts of this claim, one behind the other. -/
import Derived.Test.YtbdgamoicleieaaPed
set_option linter.unusedVariables false
set_option linter.unusedSimpArgs false
section
set_option linter.unusedVariables false
set_option maxRecDepth 100000
set_option maxHeartbeats 4000000
namespace Go.Proofs
open Go.Vm
attribute [local irreducible] vOps vDraw vC vK retP retH PureSpec HSpec
def f97 (n : Nat) (a1 : (List Node)) (a2 : (List Form)) : Option Bool := ((f135 n a1 a2).bind fun r5 => some (decide (r5 ≥ 0)))
def f97_r (r : Bool) : AV := (vB r)
theorem p_f97 {n : Nat} {a1 : (List Node)} {a2 : (List Form)} {r : Bool} (h : f97 n a1 a2 = some r) : PureSpec Try.prog 97 [(vL Node.c a1), (.fn 98 [(.iptr [(vL Form.c a2)])])] (f97_r r) := by
 rw [f97.eq_1] at h
 refine pure_of hmix ic97 ?_
 refine go_to (mkd (.val undef) 9 0 [(0, (vL Node.c a1)), (1, (.fn 98 [(.iptr [(vL Form.c a2)])]))]) ?_
 refine s_so fun N3 k3 w3 => ?_
 refine o_r1 [(4, (vB false))] ?_
 refine o_end (k3 _ ?_)
 refine s_so fun N4 k4 w4 => ?_
 refine o_r2 [(5, (vL Node.c a1)), (6, (.fn 98 [(.iptr [(vL Form.c a2)])]))] ?_
 refine bnd h fun r5 g6 h => ?_
 refine o_o (one_call (p_f135 g6)) ?_
 refine o_r2 [(4, (vB (decide (r5 ≥ 0)))), (8, (vB (decide (r5 ≥ 0))))] ?_
 refine o_end (k4 _ ?_)
 exact c_ret (rets [] [(vB (decide (r5 ≥ 0)))] [(vB (decide (r5 ≥ 0)))] h)
theorem ic107 : fnIC Try.prog H0 107 = some ([.tmp 6], 44, (.seq (.ops [zO 3 (.box 0 26 [(0, 57, 2, 0), (1, 59, 2, 0)] (.t 0)), zO 4 (.box 0 93 [] (.t 1)), zO 5 (.box 0 59 [] (.t 2)), zO 6 (.mov (.c (.bool false)))]) (.seq (.seq (.ops [zO 7 (.faddr (.t 4) 1), zO 8 (.ld (.t 7) 1 false)]) (.block 0 (.seq (.ops [zO 10 (.sc (.bin .eql 3) [(.t 8), (.c (.int .i64 1))]), zM 9 10]) (.cond (.t 9)
  (.seq (.ops [zO 11 (.faddr (.t 5) 0), zO 12 (.ld (.t 11) 1 false), zO 13 (.sc (.bin .eql 3) [(.t 12), (.c (.int .i64 1))]), zM 6 13]) .ret)
  (.seq (.ops [zO 15 (.sc (.bin .eql 3) [(.t 8), (.c (.int .i64 2))]), zM 14 15]) (.cond (.t 14)
  (.seq (.ops [zO 16 (.faddr (.t 5) 0), zO 17 (.ld (.t 16) 1 false), zO 18 (.sc (.bin .eql 3) [(.t 17), (.c (.int .i64 2))]), zM 6 18]) .ret)
  .skip)))))) (.seq (.draw [] [zQ (zO 19 (.faddr (.t 5) 0)), zQ (zO 20 (.ld (.t 19) 1 false)), zQ (zO 21 (.sc (.bin .eql 3) [(.t 20), (.c (.int .i64 3))])), zQ (zM 22 21), zQ (zG 23 22 false (.faddr (.t 5) 0)), zQ (zG 24 22 false (.ld (.t 23) 1 false)), zQ (zG 25 22 false (.sc (.bin .eql 3) [(.t 24), (.c (.int .i64 4))])), zQ (zN 26 22 false 25), zQ (zG 27 26 true (.faddr (.t 4) 2)), zQ (zG 28 26 true (.ld (.t 27) 1 false)), zQ (zG 29 26 true (.sc (.bin .eql 9) [(.t 28), (.c (.string ⟨#[65, 78, 89]⟩))])), zQ (zN 30 26 true 29), zQ (zG 31 30 false (.faddr (.t 3) 0)), zQ (zG 32 30 false (.ld (.t 31) 1 false)), zQ (zG 33 30 false (.faddr (.t 5) 1)), zQ (zG 34 30 false (.ld (.t 33) 1 false)), zQ (zG 35 30 false (.iaddr 2 (.t 32) (.t 34))), zQ (zG 36 30 false (.faddr (.t 35) 0)), zQ (zG 37 30 false (.ld (.t 36) 1 false)), zQ (zG 38 30 false (.faddr (.t 4) 2)), zQ (zG 39 30 false (.ld (.t 38) 1 false)), zQ (zG 40 30 false (.sc (.bin .eql 9) [(.t 37), (.t 39)])), zQ (zG 41 26 true (.pick (.t 30) (.c (.bool true)) (.t 40))), zQ (zG 42 22 false (.pick (.t 26) (.t 41) (.c (.bool false)))), zQ (zO 43 (.pick (.t 22) (.c (.bool true)) (.t 42))), zQ (zM 6 43)]) .ret)))) := by kernel_rfl
def f107_k14 (x22 : Bool) : Option Bool := some x22
def f107 (n : Nat) (a1 : Graph) (a2 : Col) (a3 : Val) : Option Bool := (bif (a2.fKind == 1) then some (a3.fKind == 1) else (bif (a2.fKind == 2) then some (a3.fKind == 2) else (bif (a3.fKind == 3) then (f107_k14 true) else (bif (a3.fKind == 4) then (bif (sEqF a2.fClass (ByteArray.mk #[65, 78, 89])) then (f107_k14 true) else ((gi a1.fNodes a3.fN).bind fun x19 => (f107_k14 (sEqF x19.fClass a2.fClass)))) else (f107_k14 false)))))
def f107_r (r : Bool) : AV := (vB r)
theorem p_f107 {n : Nat} {a1 : Graph} {a2 : Col} {a3 : Val} {r : Bool} (h : f107 n a1 a2 a3 = some r) : PureSpec Try.prog 107 [(.agg [(vL Node.c a1.fNodes), (vL Val.c a1.fRoots)]), (.agg [(vS a2.fName), (vI a2.fKind), (vS a2.fClass)]), (.agg [(vI a3.fKind), (vI a3.fN)])] (f107_r r) := by
 rw [f107.eq_1] at h
 refine pure_of hmix ic107 ?_
 refine go_to (mkd (.val undef) 44 0 [(0, (.agg [(vL Node.c a1.fNodes), (vL Val.c a1.fRoots)])), (1, (.agg [(vS a2.fName), (vI a2.fKind), (vS a2.fClass)])), (2, (.agg [(vI a3.fKind), (vI a3.fN)]))]) ?_
 refine s_so fun N4 k4 w4 => ?_
 refine o_h4 [(3, (.ptr 0 0)), (4, (.ptr 1 0)), (5, (.ptr 2 0)), (6, (vB false))] [(some (.box 26 [(vL Node.c a1.fNodes), (vL Val.c a1.fRoots)])), (some (.box 93 [(vS a2.fName), (vI a2.fKind), (vS a2.fClass)])), (some (.box 59 [(vI a3.fKind), (vI a3.fN)]))] ?_
 refine o_end (k4 _ ?_)
 refine s_seq fun N5 k5 w5 => ?_
 refine s_so fun N6 k6 w6 => ?_
 refine o_r2 [(7, (.ptr 1 1)), (8, (vI a2.fKind))] ?_
 refine o_end (k6 _ ?_)
 refine c_block fun E7 hE7 hO7 => ?_
 refine s_so fun N8 k8 w8 => ?_
 refine o_r2 [(9, (vB (a2.fKind == 1))), (10, (vB (a2.fKind == 1)))] ?_
 refine o_end (k8 _ ?_)
 refine i_c [9, 10] h (fun h => ?_) (fun h => ?_)
 · refine s_so fun N10 k10 w10 => ?_
   refine o_r4 [(6, (vB (a3.fKind == 1))), (11, (.ptr 2 0)), (12, (vI a3.fKind)), (13, (vB (a3.fKind == 1)))] ?_
   refine o_end (k10 _ ?_)
   exact c_ret (rets [] [(vB (a3.fKind == 1))] [(vB (a3.fKind == 1))] h)
 · refine s_so fun N11 k11 w11 => ?_
   refine o_r2 [(14, (vB (a2.fKind == 2))), (15, (vB (a2.fKind == 2)))] ?_
   refine o_end (k11 _ ?_)
   refine i_c [14, 15] h (fun h => ?_) (fun h => ?_)
   · refine s_so fun N13 k13 w13 => ?_
     refine o_r4 [(6, (vB (a3.fKind == 2))), (16, (.ptr 2 0)), (17, (vI a3.fKind)), (18, (vB (a3.fKind == 2)))] ?_
     refine o_end (k13 _ ?_)
     exact c_ret (rets [] [(vB (a3.fKind == 2))] [(vB (a3.fKind == 2))] h)
   · refine c_skip (k5 _ ?_)
     refine J1 (r := r) (fun (x22 : Bool) => ⟨(mkd .any 44 0 [(6, (vB x22))]), []⟩) (f107_k14) ?_ ?_
     · intro x22 h
       rw [f107_k14.eq_1] at h
       exact c_ret (rets [] [(vB x22)] [(vB x22)] h)
     · intro N14 w14
       refine c_draw0 ?_
       refine d_r4 [(19, (.ptr 2 0)), (20, (vI a3.fKind)), (21, (vB (a3.fKind == 3))), (22, (vB (a3.fKind == 3)))] ?_
       refine i_d [21, 22] h (fun h => ?_) (fun h => ?_)
       · refine d_r16 [(23, (.val undef)), (24, (.val undef)), (25, (.val undef)), (26, (.val undef)), (27, (.val undef)), (28, (.val undef)), (29, (.val undef)), (30, (.val undef)), (31, (.val undef)), (32, (.val undef)), (33, (.val undef)), (34, (.val undef)), (35, (.val undef)), (36, (.val undef)), (37, (.val undef)), (38, (.val undef))] ?_
         refine d_r6 [(6, (vB true)), (39, (.val undef)), (40, (.val undef)), (41, (.val undef)), (42, (.val undef)), (43, (vB true))] ?_
         exact d_end (w14 _ _ (wkm [6] wh_nil) h)
       · refine d_r4 [(23, (.ptr 2 0)), (24, (vI a3.fKind)), (25, (vB (a3.fKind == 4))), (26, (vB (a3.fKind == 4)))] ?_
         refine i_d [25, 26] h (fun h => ?_) (fun h => ?_)
         · refine d_r2 [(27, (.ptr 1 2)), (28, (vS a2.fClass))] ?_
           refine d_g (one_sc (vs := [.string a2.fClass, .string (ByteArray.mk #[65, 78, 89])]) (str_eql a2.fClass (ByteArray.mk #[65, 78, 89]))) ?_
           refine d_r1 [(30, (vB (sEqF a2.fClass (ByteArray.mk #[65, 78, 89]))))] ?_
           refine t_tm (mkd (.val undef) 44 0 [(0, (.agg [(vL Node.c a1.fNodes), (vL Val.c a1.fRoots)])), (1, (.agg [(vS a2.fName), (vI a2.fKind), (vS a2.fClass)])), (2, (.agg [(vI a3.fKind), (vI a3.fN)])), (3, (.ptr 0 0)), (4, (.ptr 1 0)), (5, (.ptr 2 0)), (6, (vB false)), (7, (.ptr 1 1)), (8, (vI a2.fKind)), (9, (vB false)), (10, (vB false)), (14, (vB false)), (15, (vB false)), (19, (.ptr 2 0)), (20, (vI a3.fKind)), (21, (vB false)), (22, (vB false)), (23, (.ptr 2 0)), (24, (vI a3.fKind)), (25, (vB true)), (26, (vB true)), (27, (.ptr 1 2)), (28, (vS a2.fClass)), (29, (vB (sEqF a2.fClass (ByteArray.mk #[65, 78, 89])))), (30, (vB (sEqF a2.fClass (ByteArray.mk #[65, 78, 89]))))]) ?_
           refine i_d [29, 30] h (fun h => ?_) (fun h => ?_)
           · refine d_r14 [(6, (vB true)), (31, (.val undef)), (32, (.val undef)), (33, (.val undef)), (34, (.val undef)), (35, (.val undef)), (36, (.val undef)), (37, (.val undef)), (38, (.val undef)), (39, (.val undef)), (40, (.val undef)), (41, (vB true)), (42, (vB true)), (43, (vB true))] ?_
             exact d_end (w14 _ _ (wkm [6] wh_nil) h)
           · refine d_r4 [(31, (.ptr 0 0)), (32, (vL Node.c a1.fNodes)), (33, (.ptr 2 1)), (34, (vI a3.fN))] ?_
             refine bnd h fun x19 g20 h => ?_
             refine d_g (one_ia (f := Node.c) (ki := .i64) g20) ?_
             refine d_r4 [(36, (.iptr [(vS x19.fClass), (vL Val.c x19.fVals)])), (37, (vS x19.fClass)), (38, (.ptr 1 2)), (39, (vS a2.fClass))] ?_
             refine d_g (one_sc (vs := [.string x19.fClass, .string a2.fClass]) (str_eql x19.fClass a2.fClass)) ?_
             refine d_r4 [(6, (vB (sEqF x19.fClass a2.fClass))), (41, (vB (sEqF x19.fClass a2.fClass))), (42, (vB (sEqF x19.fClass a2.fClass))), (43, (vB (sEqF x19.fClass a2.fClass)))] ?_
             exact d_end (w14 _ _ (wkm [6] wh_nil) h)
         · refine d_r16 [(27, (.val undef)), (28, (.val undef)), (29, (.val undef)), (30, (.val undef)), (31, (.val undef)), (32, (.val undef)), (33, (.val undef)), (34, (.val undef)), (35, (.val undef)), (36, (.val undef)), (37, (.val undef)), (38, (.val undef)), (39, (.val undef)), (40, (.val undef)), (41, (.val undef)), (42, (vB false))] ?_
           refine d_r2 [(43, (vB false))] ?_
           exact d_end (w14 _ _ (wkm [6] wh_nil) h)
theorem ic71 : fnIC Try.prog H0 71 = some ([.tmp 4], 49, (.seq (.ops [zO 3 (.box 0 26 [(0, 57, 2, 0), (1, 59, 2, 0)] (.t 1)), zO 4 (.mov (.c (.bool false)))]) (.seq (.seq (.ops [zO 10 (.faddr (.t 3) 0), zO 11 (.ld (.t 10) 1 false), zO 12 (.len false (.t 11)), zO 13 (.mov (.c (.int .i64 0)))]) (.block 0 (.loop (.seq (.ops [zO 14 (.sc (.bin .lss 3) [(.t 13), (.t 12)])]) (.seq (.cond (.t 14)
  .skip
  (.exit 0)) (.seq (.block 1 (.seq (.ops [zO 15 (.iaddr 2 (.t 11) (.t 13)), zO 16 (.ld (.t 15) 2 true), zO 6 (.alloc 0 57 [(1, 59, 2, 0)] [(.string ⟨#[]⟩), (.slice none 0 0)]), zU (.st true 2 [(1, 59, 2, 0)] (.t 6) (.t 16))]) (.seq (.ops [zM 17 0, zM 18 0, zO 19 (.faddr (.t 6) 0), zO 20 (.ld (.t 19) 1 false), zO 21 (.call 52 [(.t 18), (.t 20)]), zO 22 (.iaddr 2 (.t 17) (.t 21)), zO 23 (.faddr (.t 22) 1), zO 24 (.ld (.t 23) 1 false), zM 7 24]) (.seq (.seq (.ops [zO 25 (.faddr (.t 6) 1), zO 26 (.ld (.t 25) 1 false), zO 27 (.len false (.t 26)), zM 28 7, zO 29 (.len false (.t 28)), zO 30 (.sc (.bin .neq 3) [(.t 27), (.t 29)])]) (.cond (.t 30)
  (.seq (.ops [zO 4 (.mov (.c (.bool false)))]) .ret)
  .skip)) (.seq (.ops [zM 31 7, zO 32 (.len false (.t 31)), zO 33 (.mov (.c (.int .i64 0)))]) (.block 2 (.loop (.seq (.ops [zO 34 (.sc (.bin .lss 3) [(.t 33), (.t 32)])]) (.seq (.cond (.t 34)
  .skip
  (.exit 2)) (.seq (.block 3 (.seq (.ops [zM 35 33, zO 36 (.iaddr 3 (.t 31) (.t 33)), zO 37 (.ld (.t 36) 3 true), zO 9 (.alloc 0 93 [] [(.string ⟨#[]⟩), (.int .i64 0), (.string ⟨#[]⟩)]), zM 8 35, zU (.st true 3 [] (.t 9) (.t 37))]) (.seq (.draw [] [zQ (zO 38 (.ld (.t 3) 2 true)), zQ (zO 39 (.ld (.t 9) 3 true)), zQ (zO 40 (.faddr (.t 6) 1)), zQ (zO 41 (.ld (.t 40) 1 false)), zQ (zM 42 8), zQ (zO 43 (.iaddr 2 (.t 41) (.t 42))), zQ (zO 44 (.ld (.t 43) 2 true)), zQ (zO 45 (.call 107 [(.t 38), (.t 39), (.t 44)])), zQ (zO 46 (.sc (.un .not) [(.t 45)]))]) (.cond (.t 46)
  (.seq (.ops [zO 4 (.mov (.c (.bool false)))]) .ret)
  .skip)))) (.ops [zO 47 (.sc (.bin .add 3) [(.t 33), (.c (.int .i64 1))]), zM 33 47]))))))))))) (.ops [zO 48 (.sc (.bin .add 3) [(.t 13), (.c (.int .i64 1))]), zM 13 48]))))))) (.seq (.ops [zO 4 (.mov (.c (.bool true)))]) .ret)))) := by kernel_rfl
def f71_k67 (x63 : Int) (c8k : Int → Option Bool) : Option Bool := (c8k (wr .i64 (x63 + 1)))
def f71_l86 (x75 : Form) (x70 : Node) (n : Nat) (a2 : Graph) (k67k : Option Bool) : Nat → Int → Option Bool
  | 0, _ => none
  | m86 + 1, x102 => (bif (decide (x102 < (len x75.fCols))) then ((gi x75.fCols x102).bind fun x109 => ((gi x70.fVals x102).bind fun x112 => ((f107 n a2 x109 x112).bind fun r114 => (bif (!r114) then some false else (f71_l86 x75 x70 n a2 (k67k) m86 (wr .i64 (x102 + 1))))))) else (k67k))
def f71_k4 : Option Bool := some true
def f71_l8 (a2 : Graph) (n : Nat) (a1 : (List Form)) (k4k : Option Bool) : Nat → Int → Option Bool
  | 0, _ => none
  | m8 + 1, x63 => (bif (decide (x63 < (len a2.fNodes))) then ((gi a2.fNodes x63).bind fun x70 => ((f52 n a1 x70.fClass).bind fun r73 => ((gi a1 r73).bind fun x75 => (bif ((len x70.fVals) != (len x75.fCols)) then some false else (f71_l86 x75 x70 n a2 (f71_k67 x63 (f71_l8 a2 n a1 (k4k) m8)) n 0))))) else (k4k))
def f71 (n : Nat) (a1 : (List Form)) (a2 : Graph) : Option Bool := (f71_l8 a2 n a1 (f71_k4) n 0)
def f71_r (r : Bool) : AV := (vB r)
theorem p_f71 {n : Nat} {a1 : (List Form)} {a2 : Graph} {r : Bool} (h : f71 n a1 a2 = some r) : PureSpec Try.prog 71 [(vL Form.c a1), (.agg [(vL Node.c a2.fNodes), (vL Val.c a2.fRoots)])] (f71_r r) := by
 rw [f71.eq_1] at h
 refine pure_of hmix ic71 ?_
 refine go_to (mkd (.val undef) 49 0 [(0, (vL Form.c a1)), (1, (.agg [(vL Node.c a2.fNodes), (vL Val.c a2.fRoots)]))]) ?_
 refine s_so fun N3 k3 w3 => ?_
 refine o_h2 [(3, (.ptr 0 0)), (4, (vB false))] [(some (.box 26 [(vL Node.c a2.fNodes), (vL Val.c a2.fRoots)]))] ?_
 refine o_end (k3 _ ?_)
 refine J0 (r := r) ⟨(mkd .any 49 0 []), []⟩ (f71_k4) ?_ ?_
 · intro h
   rw [f71_k4.eq_1] at h
   refine s_so fun N118 k118 w118 => ?_
   refine o_r1 [(4, (vB true))] ?_
   refine o_end (k118 _ ?_)
   exact c_ret (rets [] [(vB true)] [(vB true)] h)
 · intro N4 w4
   refine s_so fun N5 k5 w5 => ?_
   refine o_r2 [(10, (.ptr 0 0)), (11, (vL Node.c a2.fNodes))] ?_
   refine o_o (one_len (f := Node.c) (l := a2.fNodes)) ?_
   refine o_r1 [(13, (vI 0))] ?_
   refine o_end (k5 _ ?_)
   refine c_block fun E7 hE7 hO7 => ?_
   refine W1 (fun (x63 : Int) => ⟨(mkd .any 49 0 [(0, (vL Form.c a1)), (3, (.ptr 0 0)), (11, (vL Node.c a2.fNodes)), (12, (vI (len a2.fNodes))), (13, (vI x63))]), [(some (.box 26 [(vL Node.c a2.fNodes), (vL Val.c a2.fRoots)]))]⟩) (f71_l8 a2 n a1 (f71_k4)) h (wkm [0, 3, 11, 12, 13] (whk wh_nil)) (by intros; rw [f71_l8.eq_1]) ?_
   intro m8 x63 h N8 w8
   rw [f71_l8.eq_2] at h
   refine s_so fun N64 k64 w64 => ?_
   refine o_r1 [(14, (vB (decide (x63 < (len a2.fNodes)))))] ?_
   refine o_end (k64 _ ?_)
   refine s_seq fun N65 k65 w65 => ?_
   refine i_c [14] h (fun h => ?_) (fun h => ?_)
   · refine c_skip (k65 _ ?_)
     refine J0 (r := r) ⟨(mkd .any 49 0 [(0, (vL Form.c a1)), (3, (.ptr 0 0)), (11, (vL Node.c a2.fNodes)), (12, (vI (len a2.fNodes))), (13, (vI x63))]), [(some (.box 26 [(vL Node.c a2.fNodes), (vL Val.c a2.fRoots)]))]⟩ (f71_k67 x63 (f71_l8 a2 n a1 (f71_k4) m8)) ?_ ?_
     · intro h
       rw [f71_k67.eq_1] at h
       refine c_ops ?_
       refine o_r2 [(13, (vI (wr .i64 (x63 + 1)))), (48, (vI (wr .i64 (x63 + 1))))] ?_
       exact o_end (w8 _ _ (wkm [0, 3, 11, 12, 13] (whk wh_nil)) h)
     · intro N67 w67
       refine c_block fun E68 hE68 hO68 => ?_
       refine s_so fun N69 k69 w69 => ?_
       refine bnd h fun x70 g71 h => ?_
       refine o_o (one_ia (f := Node.c) (ki := .i64) g71) ?_
       refine o_h3 [(6, (.ptr 2 0)), (16, (.agg [(vS x70.fClass), (vL Val.c x70.fVals)]))] [(some (.box 26 [(vL Node.c a2.fNodes), (vL Val.c a2.fRoots)])), (some (.row 59 2 (List.map Val.c []))), (some (.box 57 [(vS x70.fClass), (vL Val.c x70.fVals)]))] ?_
       refine o_end (k69 _ ?_)
       refine s_so fun N72 k72 w72 => ?_
       refine o_r4 [(17, (vL Form.c a1)), (18, (vL Form.c a1)), (19, (.ptr 2 0)), (20, (vS x70.fClass))] ?_
       refine bnd h fun r73 g74 h => ?_
       refine o_o (one_call (p_f52 g74)) ?_
       refine bnd h fun x75 g76 h => ?_
       refine o_o (one_ia (f := Form.c) (ki := .i64) g76) ?_
       refine o_r3 [(7, (vL Col.c x75.fCols)), (23, (.iptr [(vL Col.c x75.fCols)])), (24, (vL Col.c x75.fCols))] ?_
       refine o_end (k72 _ ?_)
       refine s_seq fun N77 k77 w77 => ?_
       refine s_so fun N78 k78 w78 => ?_
       refine o_r2 [(25, (.ptr 2 1)), (26, (vL Val.c x70.fVals))] ?_
       refine o_o (one_len (f := Val.c) (l := x70.fVals)) ?_
       refine o_r1 [(28, (vL Col.c x75.fCols))] ?_
       refine o_o (one_len (f := Col.c) (l := x75.fCols)) ?_
       refine o_r1 [(30, (vB ((len x70.fVals) != (len x75.fCols))))] ?_
       refine s_tm (mkd .any 49 0 [(0, (vL Form.c a1)), (3, (.ptr 0 0)), (6, (.ptr 2 0)), (7, (vL Col.c x75.fCols)), (11, (vL Node.c a2.fNodes)), (12, (vI (len a2.fNodes))), (13, (vI x63)), (14, (vB true)), (15, (.iptr [(vS x70.fClass), (vL Val.c x70.fVals)])), (16, (.agg [(vS x70.fClass), (vL Val.c x70.fVals)])), (17, (vL Form.c a1)), (18, (vL Form.c a1)), (19, (.ptr 2 0)), (20, (vS x70.fClass)), (21, (vI r73)), (22, (.iptr [(vS x75.fName), (vL Col.c x75.fCols)])), (23, (.iptr [(vL Col.c x75.fCols)])), (24, (vL Col.c x75.fCols)), (25, (.ptr 2 1)), (26, (vL Val.c x70.fVals)), (27, (vI (len x70.fVals))), (28, (vL Col.c x75.fCols)), (29, (vI (len x75.fCols))), (30, (vB ((len x70.fVals) != (len x75.fCols))))]) ?_
       refine o_end (w78 _ ⟨(mkd .any 49 0 [(0, (vL Form.c a1)), (3, (.ptr 0 0)), (6, (.ptr 2 0)), (7, (vL Col.c x75.fCols)), (11, (vL Node.c a2.fNodes)), (12, (vI (len a2.fNodes))), (13, (vI x63)), (30, (vB ((len x70.fVals) != (len x75.fCols))))]), [(some (.box 26 [(vL Node.c a2.fNodes), (vL Val.c a2.fRoots)])), none, (some (.box 57 [(vS x70.fClass), (vL Val.c x70.fVals)]))]⟩ (wkm [0, 3, 6, 7, 11, 12, 13, 30] (whk (wh_drop (whk wh_nil)))) ?_)
       refine i_c [30] h (fun h => ?_) (fun h => ?_)
       · refine s_so fun N82 k82 w82 => ?_
         refine o_r1 [(4, (vB false))] ?_
         refine o_end (k82 _ ?_)
         exact c_ret (rets [] [(vB false)] [(vB false)] h)
       · refine c_skip (k77 _ ?_)
         refine s_so fun N83 k83 w83 => ?_
         refine o_r1 [(31, (vL Col.c x75.fCols))] ?_
         refine o_o (one_len (f := Col.c) (l := x75.fCols)) ?_
         refine o_r1 [(33, (vI 0))] ?_
         refine o_end (k83 _ ?_)
         refine c_block fun E85 hE85 hO85 => ?_
         refine W1 (fun (x102 : Int) => ⟨(mkd .any 49 0 [(0, (vL Form.c a1)), (3, (.ptr 0 0)), (6, (.ptr 2 0)), (11, (vL Node.c a2.fNodes)), (12, (vI (len a2.fNodes))), (13, (vI x63)), (31, (vL Col.c x75.fCols)), (32, (vI (len x75.fCols))), (33, (vI x102))]), [(some (.box 26 [(vL Node.c a2.fNodes), (vL Val.c a2.fRoots)])), none, (some (.box 57 [(vS x70.fClass), (vL Val.c x70.fVals)]))]⟩) (f71_l86 x75 x70 n a2 (f71_k67 x63 (f71_l8 a2 n a1 (f71_k4) m8))) h (wkm [0, 3, 6, 11, 12, 13, 31, 32, 33] (whk (wh_none (whk wh_nil)))) (by intros; rw [f71_l86.eq_1]) ?_
         intro m86 x102 h N86 w86
         rw [f71_l86.eq_2] at h
         refine s_so fun N103 k103 w103 => ?_
         refine o_r1 [(34, (vB (decide (x102 < (len x75.fCols)))))] ?_
         refine o_end (k103 _ ?_)
         refine s_seq fun N104 k104 w104 => ?_
         refine i_c [34] h (fun h => ?_) (fun h => ?_)
         · refine c_skip (k104 _ ?_)
           refine s_seq fun N106 k106 w106 => ?_
           refine c_block fun E107 hE107 hO107 => ?_
           refine s_so fun N108 k108 w108 => ?_
           refine o_r1 [(35, (vI x102))] ?_
           refine bnd h fun x109 g110 h => ?_
           refine o_o (one_ia (f := Col.c) (ki := .i64) g110) ?_
           refine o_h4 [(8, (vI x102)), (9, (.ptr 3 0)), (37, (.agg [(vS x109.fName), (vI x109.fKind), (vS x109.fClass)]))] [(some (.box 26 [(vL Node.c a2.fNodes), (vL Val.c a2.fRoots)])), none, (some (.box 57 [(vS x70.fClass), (vL Val.c x70.fVals)])), (some (.box 93 [(vS x109.fName), (vI x109.fKind), (vS x109.fClass)]))] ?_
           refine o_end (k108 _ ?_)
           refine s_seq fun N111 k111 w111 => ?_
           refine c_draw0 ?_
           refine d_r5 [(38, (.agg [(vL Node.c a2.fNodes), (vL Val.c a2.fRoots)])), (39, (.agg [(vS x109.fName), (vI x109.fKind), (vS x109.fClass)])), (40, (.ptr 2 1)), (41, (vL Val.c x70.fVals)), (42, (vI x102))] ?_
           refine bnd h fun x112 g113 h => ?_
           refine d_o (one_ia (f := Val.c) (ki := .i64) g113) ?_
           refine d_r1 [(44, (.agg [(vI x112.fKind), (vI x112.fN)]))] ?_
           refine bnd h fun r114 g115 h => ?_
           refine d_o (one_call (p_f107 g115)) ?_
           refine d_r1 [(46, (vB (!r114)))] ?_
           refine d_end (k111 _ ?_)
           refine i_c [46] h (fun h => ?_) (fun h => ?_)
           · refine s_so fun N117 k117 w117 => ?_
             refine o_r1 [(4, (vB false))] ?_
             refine s_tm (mkd .any 49 0 [(0, (vL Form.c a1)), (3, (.ptr 0 0)), (4, (vB false)), (6, (.ptr 2 0)), (8, (vI x102)), (9, (.ptr 3 0)), (11, (vL Node.c a2.fNodes)), (12, (vI (len a2.fNodes))), (13, (vI x63)), (31, (vL Col.c x75.fCols)), (32, (vI (len x75.fCols))), (33, (vI x102)), (34, (vB true)), (35, (vI x102)), (36, (.iptr [(vS x109.fName), (vI x109.fKind), (vS x109.fClass)])), (37, (.agg [(vS x109.fName), (vI x109.fKind), (vS x109.fClass)])), (38, (.agg [(vL Node.c a2.fNodes), (vL Val.c a2.fRoots)])), (39, (.agg [(vS x109.fName), (vI x109.fKind), (vS x109.fClass)])), (40, (.ptr 2 1)), (41, (vL Val.c x70.fVals)), (42, (vI x102)), (43, (.iptr [(vI x112.fKind), (vI x112.fN)])), (44, (.agg [(vI x112.fKind), (vI x112.fN)])), (45, (vB r114)), (46, (vB true))]) ?_
             refine o_end (w117 _ ⟨(mkd .any 49 0 [(4, (vB false))]), []⟩ (wkm [4] wh_nil) ?_)
             exact c_ret (rets [] [(vB false)] [(vB false)] h)
           · refine c_skip (k106 _ ?_)
             refine c_ops ?_
             refine o_r2 [(33, (vI (wr .i64 (x102 + 1)))), (47, (vI (wr .i64 (x102 + 1))))] ?_
             refine s_tm (mkd .any 49 0 [(0, (vL Form.c a1)), (3, (.ptr 0 0)), (6, (.ptr 2 0)), (8, (vI x102)), (9, (.ptr 3 0)), (11, (vL Node.c a2.fNodes)), (12, (vI (len a2.fNodes))), (13, (vI x63)), (31, (vL Col.c x75.fCols)), (32, (vI (len x75.fCols))), (33, (vI (wr .i64 (x102 + 1)))), (34, (vB true)), (35, (vI x102)), (36, (.iptr [(vS x109.fName), (vI x109.fKind), (vS x109.fClass)])), (37, (.agg [(vS x109.fName), (vI x109.fKind), (vS x109.fClass)])), (38, (.agg [(vL Node.c a2.fNodes), (vL Val.c a2.fRoots)])), (39, (.agg [(vS x109.fName), (vI x109.fKind), (vS x109.fClass)])), (40, (.ptr 2 1)), (41, (vL Val.c x70.fVals)), (42, (vI x102)), (43, (.iptr [(vI x112.fKind), (vI x112.fN)])), (44, (.agg [(vI x112.fKind), (vI x112.fN)])), (45, (vB r114)), (46, (vB false)), (47, (vI (wr .i64 (x102 + 1))))]) ?_
             exact o_end (w86 _ _ (wkm [0, 3, 6, 11, 12, 13, 31, 32, 33] (whk (wh_none (whk wh_nil)))) h)
         · refine c_exit (hE85 _ ?_)
           exact w67 _ (wkm [0, 3, 11, 12, 13] (whk wh_nil)) h
   · refine c_exit (hE7 _ ?_)
     exact w4 _ (wkm [] wh_nil) h
theorem ic59 : fnIC Try.prog H0 59 = some ([.tmp 4], 19, (.seq (.ops [zO 2 (.box 0 22 [(0, 91, 2, 0)] (.t 0)), zO 3 (.box 0 26 [(0, 57, 2, 0), (1, 59, 2, 0)] (.t 1)), zO 4 (.mov (.c (.int .i64 0)))]) (.seq (.seq (.ops [zO 6 (.ld (.t 3) 2 true), zO 7 (.call 74 [(.t 6)]), zM 5 7]) (.seq (.ops [zM 8 5, zO 9 (.sc (.bin .neq 30) [(.t 8), (.c (.int .i64 0))])]) (.cond (.t 9)
  (.seq (.ops [zM 10 5, zM 4 10]) .ret)
  .skip))) (.seq (.seq (.ops [zO 11 (.faddr (.t 3) 0), zO 12 (.ld (.t 11) 1 false), zO 13 (.mkf 98 [(.t 2)]), zO 14 (.call 97 [(.t 12), (.t 13)])]) (.cond (.t 14)
  (.seq (.ops [zO 4 (.mov (.c (.int .i64 4)))]) .ret)
  .skip)) (.seq (.ops [zO 15 (.ld (.t 2) 1 false), zO 16 (.ld (.t 3) 2 true), zO 17 (.call 71 [(.t 15), (.t 16)]), zO 18 (.call 50 [(.t 17), (.c (.int .i64 8))]), zM 4 18]) .ret))))) := by kernel_rfl
def f59 (n : Nat) (a1 : (List Form)) (a2 : Graph) : Option Int := ((f74 n a2).bind fun r6 => (bif (r6 != 0) then some r6 else ((f97 n a2.fNodes a1).bind fun r13 => (bif r13 then some 4 else ((f71 n a1 a2).bind fun r18 => ((f50 n r18 8).bind fun r20 => some r20))))))
def f59_r (r : Int) : AV := (vI r)
theorem p_f59 {n : Nat} {a1 : (List Form)} {a2 : Graph} {r : Int} (h : f59 n a1 a2 = some r) : PureSpec Try.prog 59 [(vL Form.c a1), (.agg [(vL Node.c a2.fNodes), (vL Val.c a2.fRoots)])] (f59_r r) := by
 rw [f59.eq_1] at h
 refine pure_of hmix ic59 ?_
 refine go_to (mkd (.val undef) 19 0 [(0, (vL Form.c a1)), (1, (.agg [(vL Node.c a2.fNodes), (vL Val.c a2.fRoots)]))]) ?_
 refine s_so fun N3 k3 w3 => ?_
 refine o_h3 [(2, (.ptr 0 0)), (3, (.ptr 1 0)), (4, (vI 0))] [(some (.box 22 [(vL Form.c a1)])), (some (.box 26 [(vL Node.c a2.fNodes), (vL Val.c a2.fRoots)]))] ?_
 refine o_end (k3 _ ?_)
 refine s_seq fun N4 k4 w4 => ?_
 refine s_so fun N5 k5 w5 => ?_
 refine o_r1 [(6, (.agg [(vL Node.c a2.fNodes), (vL Val.c a2.fRoots)]))] ?_
 refine bnd h fun r6 g7 h => ?_
 refine o_o (one_call (p_f74 g7)) ?_
 refine o_r1 [(5, (vI r6))] ?_
 refine o_end (k5 _ ?_)
 refine s_so fun N8 k8 w8 => ?_
 refine o_r2 [(8, (vI r6)), (9, (vB (r6 != 0)))] ?_
 refine o_end (k8 _ ?_)
 refine i_c [9] h (fun h => ?_) (fun h => ?_)
 · refine s_so fun N10 k10 w10 => ?_
   refine o_r2 [(4, (vI r6)), (10, (vI r6))] ?_
   refine o_end (k10 _ ?_)
   exact c_ret (rets [] [(vI r6)] [(vI r6)] h)
 · refine c_skip (k4 _ ?_)
   refine s_seq fun N11 k11 w11 => ?_
   refine s_so fun N12 k12 w12 => ?_
   refine o_r3 [(11, (.ptr 1 0)), (12, (vL Node.c a2.fNodes)), (13, (.fn 98 [(.ptr 0 0)]))] ?_
   refine bnd h fun r13 g14 h => ?_
   refine o_o (one_callT [0] (p_f97 g14) (ns_v _)) ?_
   refine o_end (k12 _ ?_)
   refine i_c [14] h (fun h => ?_) (fun h => ?_)
   · refine s_so fun N16 k16 w16 => ?_
     refine o_r1 [(4, (vI 4))] ?_
     refine o_end (k16 _ ?_)
     exact c_ret (rets [] [(vI 4)] [(vI 4)] h)
   · refine c_skip (k11 _ ?_)
     refine s_so fun N17 k17 w17 => ?_
     refine o_r2 [(15, (vL Form.c a1)), (16, (.agg [(vL Node.c a2.fNodes), (vL Val.c a2.fRoots)]))] ?_
     refine bnd h fun r18 g19 h => ?_
     refine o_o (one_call (p_f71 g19)) ?_
     refine bnd h fun r20 g21 h => ?_
     refine o_o (one_call (p_f50 g21)) ?_
     refine o_r1 [(4, (vI r20))] ?_
     refine s_tm (mkd (.val undef) 19 0 [(0, (vL Form.c a1)), (1, (.agg [(vL Node.c a2.fNodes), (vL Val.c a2.fRoots)])), (2, (.ptr 0 0)), (3, (.ptr 1 0)), (4, (vI r20)), (5, (vI r6)), (6, (.agg [(vL Node.c a2.fNodes), (vL Val.c a2.fRoots)])), (7, (vI r6)), (8, (vI r6)), (9, (vB false)), (11, (.ptr 1 0)), (12, (vL Node.c a2.fNodes)), (13, (.fn 98 [(.ptr 0 0)])), (14, (vB false)), (15, (vL Form.c a1)), (16, (.agg [(vL Node.c a2.fNodes), (vL Val.c a2.fRoots)])), (17, (vB r18)), (18, (vI r20))]) ?_
     refine o_end (w17 _ ⟨(mkd .any 19 0 [(4, (vI r20))]), []⟩ (wkm [4] wh_nil) ?_)
     exact c_ret (rets [] [(vI r20)] [(vI r20)] h)
theorem ic18 : fnIC Try.prog H0 18 = some ([.tmp 4], 14, (.seq (.ops [zO 3 (.box 0 26 [(0, 57, 2, 0), (1, 59, 2, 0)] (.t 1)), zO 4 (.mov (.c (.int .i64 0)))]) (.seq (.seq (.ops [zM 6 0, zO 7 (.call 16 [(.t 6)]), zM 5 7]) (.seq (.ops [zM 8 5, zO 9 (.sc (.bin .neq 30) [(.t 8), (.c (.int .i64 0))])]) (.cond (.t 9)
  (.seq (.ops [zM 10 5, zM 4 10]) .ret)
  .skip))) (.seq (.ops [zM 11 0, zO 12 (.ld (.t 3) 2 true), zO 13 (.call 59 [(.t 11), (.t 12)]), zM 4 13]) .ret)))) := by kernel_rfl
def f18 (n : Nat) (a1 : (List Form)) (a2 : Graph) : Option Int := ((f16 n a1).bind fun r6 => (bif (r6 != 0) then some r6 else ((f59 n a1 a2).bind fun r12 => some r12)))
def f18_r (r : Int) : AV := (vI r)
theorem p_f18 {n : Nat} {a1 : (List Form)} {a2 : Graph} {r : Int} (h : f18 n a1 a2 = some r) : PureSpec Try.prog 18 [(vL Form.c a1), (.agg [(vL Node.c a2.fNodes), (vL Val.c a2.fRoots)])] (f18_r r) := by
 rw [f18.eq_1] at h
 refine pure_of hmix ic18 ?_
 refine go_to (mkd (.val undef) 14 0 [(0, (vL Form.c a1)), (1, (.agg [(vL Node.c a2.fNodes), (vL Val.c a2.fRoots)]))]) ?_
 refine s_so fun N3 k3 w3 => ?_
 refine o_h2 [(3, (.ptr 0 0)), (4, (vI 0))] [(some (.box 26 [(vL Node.c a2.fNodes), (vL Val.c a2.fRoots)]))] ?_
 refine o_end (k3 _ ?_)
 refine s_seq fun N4 k4 w4 => ?_
 refine s_so fun N5 k5 w5 => ?_
 refine o_r1 [(6, (vL Form.c a1))] ?_
 refine bnd h fun r6 g7 h => ?_
 refine o_o (one_call (p_f16 g7)) ?_
 refine o_r1 [(5, (vI r6))] ?_
 refine o_end (k5 _ ?_)
 refine s_so fun N8 k8 w8 => ?_
 refine o_r2 [(8, (vI r6)), (9, (vB (r6 != 0)))] ?_
 refine o_end (k8 _ ?_)
 refine i_c [9] h (fun h => ?_) (fun h => ?_)
 · refine s_so fun N10 k10 w10 => ?_
   refine o_r2 [(4, (vI r6)), (10, (vI r6))] ?_
   refine o_end (k10 _ ?_)
   exact c_ret (rets [] [(vI r6)] [(vI r6)] h)
 · refine c_skip (k4 _ ?_)
   refine s_so fun N11 k11 w11 => ?_
   refine o_r2 [(11, (vL Form.c a1)), (12, (.agg [(vL Node.c a2.fNodes), (vL Val.c a2.fRoots)]))] ?_
   refine bnd h fun r12 g13 h => ?_
   refine o_o (one_call (p_f59 g13)) ?_
   refine o_r1 [(4, (vI r12))] ?_
   refine o_end (k11 _ ?_)
   exact c_ret (rets [] [(vI r12)] [(vI r12)] h)
theorem ic99 : fnIC Try.prog H0 99 = some ([.tmp 4], 29, (.seq (.ops [zO 2 (.box 0 59 [] (.t 0)), zO 4 (.mov (.c (.bool false)))]) (.seq (.seq (.ops [zO 5 (.faddr (.t 2) 0), zO 6 (.ld (.t 5) 1 false)]) (.block 0 (.seq (.ops [zO 8 (.sc (.bin .eql 3) [(.t 6), (.c (.int .i64 1))]), zM 7 8]) (.cond (.t 7)
  (.seq (.ops [zO 9 (.faddr (.t 2) 1), zO 10 (.ld (.t 9) 1 false), zO 11 (.call 58 [(.t 10), (.c (.int .i64 (-1099511627776))), (.c (.int .i64 1099511627776))]), zM 4 11]) .ret)
  (.seq (.ops [zO 13 (.sc (.bin .eql 3) [(.t 6), (.c (.int .i64 2))]), zM 12 13]) (.cond (.t 12)
  (.seq (.ops [zO 14 (.faddr (.t 2) 1), zO 15 (.ld (.t 14) 1 false), zO 16 (.call 58 [(.t 15), (.c (.int .i64 0)), (.c (.int .i64 1))]), zM 4 16]) .ret)
  (.seq (.ops [zO 18 (.sc (.bin .eql 3) [(.t 6), (.c (.int .i64 3))]), zM 17 18]) (.cond (.t 17)
  (.seq (.ops [zO 19 (.faddr (.t 2) 1), zO 20 (.ld (.t 19) 1 false), zO 21 (.sc (.bin .eql 3) [(.t 20), (.c (.int .i64 0))]), zM 4 21]) .ret)
  (.seq (.ops [zO 23 (.sc (.bin .eql 3) [(.t 6), (.c (.int .i64 4))]), zM 22 23]) (.cond (.t 22)
  (.seq (.ops [zO 24 (.faddr (.t 2) 1), zO 25 (.ld (.t 24) 1 false), zM 26 1, zO 27 (.sc (.bin .sub 3) [(.t 26), (.c (.int .i64 1))]), zO 28 (.call 58 [(.t 25), (.c (.int .i64 0)), (.t 27)]), zM 4 28]) .ret)
  .skip)))))))))) (.seq (.ops [zO 4 (.mov (.c (.bool false)))]) .ret)))) := by kernel_rfl
def f99 (n : Nat) (a1 : Val) (a2 : Int) : Option Bool := (bif (a1.fKind == 1) then ((f58 n a1.fN (-1099511627776) 1099511627776).bind fun r10 => some r10) else (bif (a1.fKind == 2) then ((f58 n a1.fN 0 1).bind fun r15 => some r15) else (bif (a1.fKind == 3) then some (a1.fN == 0) else (bif (a1.fKind == 4) then ((f58 n a1.fN 0 (wr .i64 (a2 - 1))).bind fun r23 => some r23) else some false))))
def f99_r (r : Bool) : AV := (vB r)
theorem p_f99 {n : Nat} {a1 : Val} {a2 : Int} {r : Bool} (h : f99 n a1 a2 = some r) : PureSpec Try.prog 99 [(.agg [(vI a1.fKind), (vI a1.fN)]), (vI a2)] (f99_r r) := by
 rw [f99.eq_1] at h
 refine pure_of hmix ic99 ?_
 refine go_to (mkd (.val undef) 29 0 [(0, (.agg [(vI a1.fKind), (vI a1.fN)])), (1, (vI a2))]) ?_
 refine s_so fun N3 k3 w3 => ?_
 refine o_h2 [(2, (.ptr 0 0)), (4, (vB false))] [(some (.box 59 [(vI a1.fKind), (vI a1.fN)]))] ?_
 refine o_end (k3 _ ?_)
 refine s_seq fun N4 k4 w4 => ?_
 refine s_so fun N5 k5 w5 => ?_
 refine o_r2 [(5, (.ptr 0 0)), (6, (vI a1.fKind))] ?_
 refine o_end (k5 _ ?_)
 refine c_block fun E6 hE6 hO6 => ?_
 refine s_so fun N7 k7 w7 => ?_
 refine o_r2 [(7, (vB (a1.fKind == 1))), (8, (vB (a1.fKind == 1)))] ?_
 refine o_end (k7 _ ?_)
 refine i_c [7, 8] h (fun h => ?_) (fun h => ?_)
 · refine s_so fun N9 k9 w9 => ?_
   refine o_r2 [(9, (.ptr 0 1)), (10, (vI a1.fN))] ?_
   refine bnd h fun r10 g11 h => ?_
   refine o_o (one_call (p_f58 g11)) ?_
   refine o_r1 [(4, (vB r10))] ?_
   refine o_end (k9 _ ?_)
   exact c_ret (rets [] [(vB r10)] [(vB r10)] h)
 · refine s_so fun N12 k12 w12 => ?_
   refine o_r2 [(12, (vB (a1.fKind == 2))), (13, (vB (a1.fKind == 2)))] ?_
   refine o_end (k12 _ ?_)
   refine i_c [12, 13] h (fun h => ?_) (fun h => ?_)
   · refine s_so fun N14 k14 w14 => ?_
     refine o_r2 [(14, (.ptr 0 1)), (15, (vI a1.fN))] ?_
     refine bnd h fun r15 g16 h => ?_
     refine o_o (one_call (p_f58 g16)) ?_
     refine o_r1 [(4, (vB r15))] ?_
     refine o_end (k14 _ ?_)
     exact c_ret (rets [] [(vB r15)] [(vB r15)] h)
   · refine s_so fun N17 k17 w17 => ?_
     refine o_r2 [(17, (vB (a1.fKind == 3))), (18, (vB (a1.fKind == 3)))] ?_
     refine o_end (k17 _ ?_)
     refine i_c [17, 18] h (fun h => ?_) (fun h => ?_)
     · refine s_so fun N19 k19 w19 => ?_
       refine o_r4 [(4, (vB (a1.fN == 0))), (19, (.ptr 0 1)), (20, (vI a1.fN)), (21, (vB (a1.fN == 0)))] ?_
       refine o_end (k19 _ ?_)
       exact c_ret (rets [] [(vB (a1.fN == 0))] [(vB (a1.fN == 0))] h)
     · refine s_so fun N20 k20 w20 => ?_
       refine o_r2 [(22, (vB (a1.fKind == 4))), (23, (vB (a1.fKind == 4)))] ?_
       refine o_end (k20 _ ?_)
       refine i_c [22, 23] h (fun h => ?_) (fun h => ?_)
       · refine s_so fun N22 k22 w22 => ?_
         refine o_r4 [(24, (.ptr 0 1)), (25, (vI a1.fN)), (26, (vI a2)), (27, (vI (wr .i64 (a2 - 1))))] ?_
         refine bnd h fun r23 g24 h => ?_
         refine o_o (one_call (p_f58 g24)) ?_
         refine o_r1 [(4, (vB r23))] ?_
         refine s_tm (mkd (.val undef) 29 0 [(0, (.agg [(vI a1.fKind), (vI a1.fN)])), (1, (vI a2)), (2, (.ptr 0 0)), (4, (vB r23)), (5, (.ptr 0 0)), (6, (vI a1.fKind)), (7, (vB false)), (8, (vB false)), (12, (vB false)), (13, (vB false)), (17, (vB false)), (18, (vB false)), (22, (vB true)), (23, (vB true)), (24, (.ptr 0 1)), (25, (vI a1.fN)), (26, (vI a2)), (27, (vI (wr .i64 (a2 - 1)))), (28, (vB r23))]) ?_
         refine o_end (w22 _ ⟨(mkd .any 29 0 [(4, (vB r23))]), []⟩ (wkm [4] wh_nil) ?_)
         exact c_ret (rets [] [(vB r23)] [(vB r23)] h)
       · refine c_skip (k4 _ ?_)
         refine s_so fun N25 k25 w25 => ?_
         refine o_r1 [] ?_
         refine o_end (k25 _ ?_)
         exact c_ret (rets [] [(vB false)] [(vB false)] h)
theorem ic60 : fnIC Try.prog H0 60 = some ([.tmp 2], 97, (.seq (.ops [zO 1 (.box 0 26 [(0, 57, 2, 0), (1, 59, 2, 0)] (.t 0)), zO 2 (.mov (.c (.int .i64 0)))]) (.seq (.ops [zO 10 (.faddr (.t 1) 0), zO 11 (.ld (.t 10) 1 false), zO 12 (.len false (.t 11)), zM 3 12]) (.seq (.seq (.ops [zM 13 3, zO 14 (.sc (.bin .gtr 3) [(.t 13), (.c (.int .i64 400))]), zM 15 14, zG 16 15 false (.faddr (.t 1) 1), zG 17 15 false (.ld (.t 16) 1 false), zG 18 15 false (.len false (.t 17)), zG 19 15 false (.sc (.bin .gtr 3) [(.t 18), (.c (.int .i64 60))]), zO 20 (.pick (.t 15) (.c (.bool true)) (.t 19))]) (.cond (.t 20)
  (.seq (.ops [zO 2 (.mov (.c (.int .i64 3)))]) .ret)
  .skip)) (.seq (.seq (.ops [zO 4 (.mov (.c (.int .i64 0)))]) (.block 0 (.loop (.seq (.seq (.ops [zM 21 4, zM 22 3, zO 23 (.sc (.bin .lss 3) [(.t 21), (.t 22)])]) (.cond (.t 23)
  .skip
  (.exit 0))) (.seq (.block 1 (.seq (.ops [zO 26 (.faddr (.t 1) 0), zO 27 (.ld (.t 26) 1 false), zM 28 4, zO 29 (.iaddr 2 (.t 27) (.t 28)), zO 30 (.faddr (.t 29) 1), zO 31 (.ld (.t 30) 1 false), zO 32 (.len false (.t 31)), zO 33 (.sc (.bin .gtr 3) [(.t 32), (.c (.int .i64 30))])]) (.cond (.t 33)
  (.seq (.ops [zO 2 (.mov (.c (.int .i64 3)))]) .ret)
  .skip))) (.ops [zM 24 4, zO 25 (.sc (.bin .add 3) [(.t 24), (.c (.int .i64 1))]), zM 4 25])))))) (.seq (.seq (.ops [zO 5 (.mov (.c (.int .i64 0)))]) (.block 2 (.loop (.seq (.seq (.ops [zM 34 5, zM 35 3, zO 36 (.sc (.bin .lss 3) [(.t 34), (.t 35)])]) (.cond (.t 36)
  .skip
  (.exit 2))) (.seq (.block 3 (.seq (.ops [zO 6 (.mov (.c (.int .i64 0)))]) (.block 4 (.loop (.seq (.seq (.ops [zM 39 6, zO 40 (.faddr (.t 1) 0), zO 41 (.ld (.t 40) 1 false), zM 42 5, zO 43 (.iaddr 2 (.t 41) (.t 42)), zO 44 (.faddr (.t 43) 1), zO 45 (.ld (.t 44) 1 false), zO 46 (.len false (.t 45)), zO 47 (.sc (.bin .lss 3) [(.t 39), (.t 46)])]) (.cond (.t 47)
  .skip
  (.exit 4))) (.seq (.block 5 (.seq (.ops [zO 50 (.faddr (.t 1) 0), zO 51 (.ld (.t 50) 1 false), zM 52 5, zO 53 (.iaddr 2 (.t 51) (.t 52)), zO 54 (.faddr (.t 53) 1), zO 55 (.ld (.t 54) 1 false), zM 56 6, zO 57 (.iaddr 2 (.t 55) (.t 56)), zO 58 (.ld (.t 57) 2 true), zM 59 3, zO 60 (.call 99 [(.t 58), (.t 59)]), zM 7 60]) (.seq (.ops [zM 61 7, zO 62 (.sc (.un .not) [(.t 61)])]) (.cond (.t 62)
  (.seq (.ops [zO 2 (.mov (.c (.int .i64 2)))]) .ret)
  .skip)))) (.ops [zM 48 6, zO 49 (.sc (.bin .add 3) [(.t 48), (.c (.int .i64 1))]), zM 6 49]))))))) (.ops [zM 37 5, zO 38 (.sc (.bin .add 3) [(.t 37), (.c (.int .i64 1))]), zM 5 38])))))) (.seq (.seq (.ops [zO 8 (.mov (.c (.int .i64 0)))]) (.block 6 (.loop (.seq (.seq (.ops [zM 63 8, zO 64 (.faddr (.t 1) 1), zO 65 (.ld (.t 64) 1 false), zO 66 (.len false (.t 65)), zO 67 (.sc (.bin .lss 3) [(.t 63), (.t 66)])]) (.cond (.t 67)
  .skip
  (.exit 6))) (.seq (.block 7 (.seq (.ops [zO 70 (.faddr (.t 1) 1), zO 71 (.ld (.t 70) 1 false), zM 72 8, zO 73 (.iaddr 2 (.t 71) (.t 72)), zO 74 (.ld (.t 73) 2 true), zM 75 3, zO 76 (.call 99 [(.t 74), (.t 75)]), zM 9 76]) (.seq (.ops [zM 77 9, zO 78 (.sc (.un .not) [(.t 77)]), zM 79 78, zG 80 79 false (.faddr (.t 1) 1), zG 81 79 false (.ld (.t 80) 1 false), zN 82 79 false 8, zG 83 79 false (.iaddr 2 (.t 81) (.t 82)), zG 84 79 false (.faddr (.t 83) 0), zG 85 79 false (.ld (.t 84) 1 false), zG 86 79 false (.sc (.bin .neq 3) [(.t 85), (.c (.int .i64 3))]), zN 87 79 false 86, zG 88 87 true (.faddr (.t 1) 1), zG 89 87 true (.ld (.t 88) 1 false), zN 90 87 true 8, zG 91 87 true (.iaddr 2 (.t 89) (.t 90)), zG 92 87 true (.faddr (.t 91) 0), zG 93 87 true (.ld (.t 92) 1 false), zG 94 87 true (.sc (.bin .neq 3) [(.t 93), (.c (.int .i64 4))]), zG 95 79 false (.pick (.t 87) (.t 94) (.c (.bool false))), zO 96 (.pick (.t 79) (.c (.bool true)) (.t 95))]) (.cond (.t 96)
  (.seq (.ops [zO 2 (.mov (.c (.int .i64 2)))]) .ret)
  .skip)))) (.ops [zM 68 8, zO 69 (.sc (.bin .add 3) [(.t 68), (.c (.int .i64 1))]), zM 8 69])))))) (.seq (.ops [zO 2 (.mov (.c (.int .i64 0)))]) .ret)))))))) := by kernel_rfl
def f60_k92 (x88 : Int) (c42k : Int → Option Int) : Option Int := (c42k (wr .i64 (x88 + 1)))
def f60_l96 (a1 : Graph) (x88 : Int) (n : Nat) (k92k : Option Int) : Nat → Int → Option Int
  | 0, _ => none
  | m96 + 1, x115 => ((gi a1.fNodes x88).bind fun x118 => (bif (decide (x115 < (len x118.fVals))) then ((gi a1.fNodes x88).bind fun x125 => ((gi x125.fVals x115).bind fun x127 => ((f99 n x127 (len a1.fNodes)).bind fun r129 => (bif (!r129) then some 2 else (f60_l96 a1 x88 n (k92k) m96 (wr .i64 (x115 + 1))))))) else (k92k)))
def f60_k171 (x159 : Int) (c137k : Int → Option Int) (x178 : Bool) : Option Int := (bif x178 then some 2 else (c137k (wr .i64 (x159 + 1))))
def f60_k134 : Option Int := some 0
def f60_l137 (a1 : Graph) (n : Nat) (k134k : Option Int) : Nat → Int → Option Int
  | 0, _ => none
  | m137 + 1, x159 => (bif (decide (x159 < (len a1.fRoots))) then ((gi a1.fRoots x159).bind fun x167 => ((f99 n x167 (len a1.fNodes)).bind fun r169 => (bif (!r169) then (f60_k171 x159 (f60_l137 a1 n (k134k) m137) true) else ((gi a1.fRoots x159).bind fun x173 => (bif (x173.fKind != 3) then ((gi a1.fRoots x159).bind fun x176 => (f60_k171 x159 (f60_l137 a1 n (k134k) m137) (x176.fKind != 4))) else (f60_k171 x159 (f60_l137 a1 n (k134k) m137) false)))))) else (k134k))
def f60_k39 (n : Nat) (a1 : Graph) : Option Int := (f60_l137 a1 n (f60_k134) n 0)
def f60_l42 (a1 : Graph) (n : Nat) (k39k : Option Int) : Nat → Int → Option Int
  | 0, _ => none
  | m42 + 1, x88 => (bif (decide (x88 < (len a1.fNodes))) then (f60_l96 a1 x88 n (f60_k92 x88 (f60_l42 a1 n (k39k) m42)) n 0) else (k39k))
def f60_k12 (n : Nat) (a1 : Graph) : Option Int := (f60_l42 a1 n (f60_k39 n a1) n 0)
def f60_l15 (a1 : Graph) (k12k : Option Int) : Nat → Int → Option Int
  | 0, _ => none
  | m15 + 1, x27 => (bif (decide (x27 < (len a1.fNodes))) then ((gi a1.fNodes x27).bind fun x34 => (bif (decide ((len x34.fVals) > 30)) then some 3 else (f60_l15 a1 (k12k) m15 (wr .i64 (x27 + 1))))) else (k12k))
def f60_k6 (n : Nat) (a1 : Graph) (x9 : Bool) : Option Int := (bif x9 then some 3 else (f60_l15 a1 (f60_k12 n a1) n 0))
def f60 (n : Nat) (a1 : Graph) : Option Int := (bif (decide ((len a1.fNodes) > 400)) then (f60_k6 n a1 true) else (f60_k6 n a1 (decide ((len a1.fRoots) > 60))))
def f60_r (r : Int) : AV := (vI r)
theorem p_f60 {n : Nat} {a1 : Graph} {r : Int} (h : f60 n a1 = some r) : PureSpec Try.prog 60 [(.agg [(vL Node.c a1.fNodes), (vL Val.c a1.fRoots)])] (f60_r r) := by
 rw [f60.eq_1] at h
 refine pure_of hmix ic60 ?_
 refine go_to (mkd (.val undef) 97 0 [(0, (.agg [(vL Node.c a1.fNodes), (vL Val.c a1.fRoots)]))]) ?_
 refine s_so fun N2 k2 w2 => ?_
 refine o_h2 [(1, (.ptr 0 0)), (2, (vI 0))] [(some (.box 26 [(vL Node.c a1.fNodes), (vL Val.c a1.fRoots)]))] ?_
 refine o_end (k2 _ ?_)
 refine s_so fun N3 k3 w3 => ?_
 refine o_r2 [(10, (.ptr 0 0)), (11, (vL Node.c a1.fNodes))] ?_
 refine o_o (one_len (f := Node.c) (l := a1.fNodes)) ?_
 refine o_r1 [(3, (vI (len a1.fNodes)))] ?_
 refine o_end (k3 _ ?_)
 refine s_seq fun N5 k5 w5 => ?_
 refine J1 (r := r) (fun (x9 : Bool) => ⟨(mkd .any 97 0 [(1, (.ptr 0 0)), (3, (vI (len a1.fNodes))), (20, (vB x9))]), [(some (.box 26 [(vL Node.c a1.fNodes), (vL Val.c a1.fRoots)]))]⟩) (f60_k6 n a1) ?_ ?_
 · intro x9 h
   rw [f60_k6.eq_1] at h
   refine i_c [20] h (fun h => ?_) (fun h => ?_)
   · refine s_so fun N11 k11 w11 => ?_
     refine o_r1 [(2, (vI 3))] ?_
     refine o_end (k11 _ ?_)
     exact c_ret (rets [] [(vI 3)] [(vI 3)] h)
   · refine c_skip (k5 _ ?_)
     refine J0 (r := r) ⟨(mkd .any 97 0 [(1, (.ptr 0 0)), (3, (vI (len a1.fNodes)))]), [(some (.box 26 [(vL Node.c a1.fNodes), (vL Val.c a1.fRoots)]))]⟩ (f60_k12 n a1) ?_ ?_
     · intro h
       rw [f60_k12.eq_1] at h
       refine J0 (r := r) ⟨(mkd .any 97 0 [(1, (.ptr 0 0)), (3, (vI (len a1.fNodes)))]), [(some (.box 26 [(vL Node.c a1.fNodes), (vL Val.c a1.fRoots)]))]⟩ (f60_k39 n a1) ?_ ?_
       · intro h
         rw [f60_k39.eq_1] at h
         refine J0 (r := r) ⟨(mkd .any 97 0 []), []⟩ (f60_k134) ?_ ?_
         · intro h
           rw [f60_k134.eq_1] at h
           refine s_so fun N181 k181 w181 => ?_
           refine o_r1 [(2, (vI 0))] ?_
           refine o_end (k181 _ ?_)
           exact c_ret (rets [] [(vI 0)] [(vI 0)] h)
         · intro N134 w134
           refine s_so fun N135 k135 w135 => ?_
           refine o_r1 [(8, (vI 0))] ?_
           refine o_end (k135 _ ?_)
           refine c_block fun E136 hE136 hO136 => ?_
           refine W1 (fun (x159 : Int) => ⟨(mkd .any 97 0 [(1, (.ptr 0 0)), (3, (vI (len a1.fNodes))), (8, (vI x159))]), [(some (.box 26 [(vL Node.c a1.fNodes), (vL Val.c a1.fRoots)]))]⟩) (f60_l137 a1 n (f60_k134)) h (wkm [1, 3, 8] (whk wh_nil)) (by intros; rw [f60_l137.eq_1]) ?_
           intro m137 x159 h N137 w137
           rw [f60_l137.eq_2] at h
           refine s_seq fun N160 k160 w160 => ?_
           refine s_so fun N161 k161 w161 => ?_
           refine o_r3 [(63, (vI x159)), (64, (.ptr 0 1)), (65, (vL Val.c a1.fRoots))] ?_
           refine o_o (one_len (f := Val.c) (l := a1.fRoots)) ?_
           refine o_r1 [(67, (vB (decide (x159 < (len a1.fRoots)))))] ?_
           refine o_end (k161 _ ?_)
           refine i_c [67] h (fun h => ?_) (fun h => ?_)
           · refine c_skip (k160 _ ?_)
             refine s_seq fun N164 k164 w164 => ?_
             refine c_block fun E165 hE165 hO165 => ?_
             refine s_so fun N166 k166 w166 => ?_
             refine o_r3 [(70, (.ptr 0 1)), (71, (vL Val.c a1.fRoots)), (72, (vI x159))] ?_
             refine bnd h fun x167 g168 h => ?_
             refine o_o (one_ia (f := Val.c) (ki := .i64) g168) ?_
             refine o_r2 [(74, (.agg [(vI x167.fKind), (vI x167.fN)])), (75, (vI (len a1.fNodes)))] ?_
             refine bnd h fun r169 g170 h => ?_
             refine o_o (one_call (p_f99 g170)) ?_
             refine o_r1 [(9, (vB r169))] ?_
             refine o_end (k166 _ ?_)
             refine J1 (r := r) (fun (x178 : Bool) => ⟨(mkd .any 97 0 [(1, (.ptr 0 0)), (3, (vI (len a1.fNodes))), (8, (vI x159)), (96, (vB x178))]), [(some (.box 26 [(vL Node.c a1.fNodes), (vL Val.c a1.fRoots)]))]⟩) (f60_k171 x159 (f60_l137 a1 n (f60_k134) m137)) ?_ ?_
             · intro x178 h
               rw [f60_k171.eq_1] at h
               refine i_c [96] h (fun h => ?_) (fun h => ?_)
               · refine s_so fun N180 k180 w180 => ?_
                 refine o_r1 [(2, (vI 2))] ?_
                 refine o_end (k180 _ ?_)
                 exact c_ret (rets [] [(vI 2)] [(vI 2)] h)
               · refine c_skip (k164 _ ?_)
                 refine c_ops ?_
                 refine o_r3 [(8, (vI (wr .i64 (x159 + 1)))), (68, (vI x159)), (69, (vI (wr .i64 (x159 + 1))))] ?_
                 exact o_end (w137 _ _ (wkm [1, 3, 8] (whk wh_nil)) h)
             · intro N171 w171
               refine c_ops ?_
               refine o_r3 [(77, (vB r169)), (78, (vB (!r169))), (79, (vB (!r169)))] ?_
               refine i_o [78, 79] h (fun h => ?_) (fun h => ?_)
               · refine o_r16 [(80, (.val undef)), (81, (.val undef)), (82, (.val undef)), (83, (.val undef)), (84, (.val undef)), (85, (.val undef)), (86, (.val undef)), (87, (.val undef)), (88, (.val undef)), (89, (.val undef)), (90, (.val undef)), (91, (.val undef)), (92, (.val undef)), (93, (.val undef)), (94, (.val undef)), (95, (.val undef))] ?_
                 refine s_tm (mkd .any 97 0 [(1, (.ptr 0 0)), (3, (vI (len a1.fNodes))), (8, (vI x159)), (9, (vB r169)), (63, (vI x159)), (64, (.ptr 0 1)), (65, (vL Val.c a1.fRoots)), (66, (vI (len a1.fRoots))), (67, (vB true)), (70, (.ptr 0 1)), (71, (vL Val.c a1.fRoots)), (72, (vI x159)), (73, (.iptr [(vI x167.fKind), (vI x167.fN)])), (74, (.agg [(vI x167.fKind), (vI x167.fN)])), (75, (vI (len a1.fNodes))), (76, (vB r169)), (77, (vB r169)), (78, (vB true)), (79, (vB true)), (80, (.val undef)), (81, (.val undef)), (82, (.val undef)), (83, (.val undef)), (84, (.val undef)), (85, (.val undef)), (86, (.val undef)), (87, (.val undef)), (88, (.val undef)), (89, (.val undef)), (90, (.val undef)), (91, (.val undef)), (92, (.val undef)), (93, (.val undef)), (94, (.val undef)), (95, (.val undef))]) ?_
                 refine o_r1 [(96, (vB true))] ?_
                 refine s_tm (mkd .any 97 0 [(1, (.ptr 0 0)), (3, (vI (len a1.fNodes))), (8, (vI x159)), (9, (vB r169)), (63, (vI x159)), (64, (.ptr 0 1)), (65, (vL Val.c a1.fRoots)), (66, (vI (len a1.fRoots))), (67, (vB true)), (70, (.ptr 0 1)), (71, (vL Val.c a1.fRoots)), (72, (vI x159)), (73, (.iptr [(vI x167.fKind), (vI x167.fN)])), (74, (.agg [(vI x167.fKind), (vI x167.fN)])), (75, (vI (len a1.fNodes))), (76, (vB r169)), (77, (vB r169)), (78, (vB true)), (79, (vB true)), (80, (.val undef)), (81, (.val undef)), (82, (.val undef)), (83, (.val undef)), (84, (.val undef)), (85, (.val undef)), (86, (.val undef)), (87, (.val undef)), (88, (.val undef)), (89, (.val undef)), (90, (.val undef)), (91, (.val undef)), (92, (.val undef)), (93, (.val undef)), (94, (.val undef)), (95, (.val undef)), (96, (vB true))]) ?_
                 exact o_end (w171 _ _ (wkm [1, 3, 8, 96] (whk wh_nil)) h)
               · refine o_r3 [(80, (.ptr 0 1)), (81, (vL Val.c a1.fRoots)), (82, (vI x159))] ?_
                 refine s_tm (mkd .any 97 0 [(1, (.ptr 0 0)), (3, (vI (len a1.fNodes))), (8, (vI x159)), (9, (vB r169)), (63, (vI x159)), (64, (.ptr 0 1)), (65, (vL Val.c a1.fRoots)), (66, (vI (len a1.fRoots))), (67, (vB true)), (70, (.ptr 0 1)), (71, (vL Val.c a1.fRoots)), (72, (vI x159)), (73, (.iptr [(vI x167.fKind), (vI x167.fN)])), (74, (.agg [(vI x167.fKind), (vI x167.fN)])), (75, (vI (len a1.fNodes))), (76, (vB r169)), (77, (vB r169)), (78, (vB false)), (79, (vB false)), (80, (.ptr 0 1)), (81, (vL Val.c a1.fRoots)), (82, (vI x159))]) ?_
                 refine bnd h fun x173 g174 h => ?_
                 refine o_g ?_
                 refine o_o (one_ia (f := Val.c) (ki := .i64) g174) ?_
                 refine o_r4 [(84, (.iptr [(vI x173.fKind), (vI x173.fN)])), (85, (vI x173.fKind)), (86, (vB (x173.fKind != 3))), (87, (vB (x173.fKind != 3)))] ?_
                 refine i_o [86, 87] h (fun h => ?_) (fun h => ?_)
                 · refine o_r3 [(88, (.ptr 0 1)), (89, (vL Val.c a1.fRoots)), (90, (vI x159))] ?_
                   refine bnd h fun x176 g177 h => ?_
                   refine o_g ?_
                   refine o_o (one_ia (f := Val.c) (ki := .i64) g177) ?_
                   refine o_r5 [(92, (.iptr [(vI x176.fKind), (vI x176.fN)])), (93, (vI x176.fKind)), (94, (vB (x176.fKind != 4))), (95, (vB (x176.fKind != 4))), (96, (vB (x176.fKind != 4)))] ?_
                   exact o_end (w171 _ _ (wkm [1, 3, 8, 96] (whk wh_nil)) h)
                 · refine o_r9 [(88, (.val undef)), (89, (.val undef)), (90, (.val undef)), (91, (.val undef)), (92, (.val undef)), (93, (.val undef)), (94, (.val undef)), (95, (vB false)), (96, (vB false))] ?_
                   exact o_end (w171 _ _ (wkm [1, 3, 8, 96] (whk wh_nil)) h)
           · refine c_exit (hE136 _ ?_)
             exact w134 _ (wkm [] wh_nil) h
       · intro N39 w39
         refine s_so fun N40 k40 w40 => ?_
         refine o_r1 [(5, (vI 0))] ?_
         refine o_end (k40 _ ?_)
         refine c_block fun E41 hE41 hO41 => ?_
         refine W1 (fun (x88 : Int) => ⟨(mkd .any 97 0 [(1, (.ptr 0 0)), (3, (vI (len a1.fNodes))), (5, (vI x88))]), [(some (.box 26 [(vL Node.c a1.fNodes), (vL Val.c a1.fRoots)]))]⟩) (f60_l42 a1 n (f60_k39 n a1)) h (wkm [1, 3, 5] (whk wh_nil)) (by intros; rw [f60_l42.eq_1]) ?_
         intro m42 x88 h N42 w42
         rw [f60_l42.eq_2] at h
         refine s_seq fun N89 k89 w89 => ?_
         refine s_so fun N90 k90 w90 => ?_
         refine o_r3 [(34, (vI x88)), (35, (vI (len a1.fNodes))), (36, (vB (decide (x88 < (len a1.fNodes)))))] ?_
         refine o_end (k90 _ ?_)
         refine i_c [36] h (fun h => ?_) (fun h => ?_)
         · refine c_skip (k89 _ ?_)
           refine J0 (r := r) ⟨(mkd .any 97 0 [(1, (.ptr 0 0)), (3, (vI (len a1.fNodes))), (5, (vI x88))]), [(some (.box 26 [(vL Node.c a1.fNodes), (vL Val.c a1.fRoots)]))]⟩ (f60_k92 x88 (f60_l42 a1 n (f60_k39 n a1) m42)) ?_ ?_
           · intro h
             rw [f60_k92.eq_1] at h
             refine c_ops ?_
             refine o_r3 [(5, (vI (wr .i64 (x88 + 1)))), (37, (vI x88)), (38, (vI (wr .i64 (x88 + 1))))] ?_
             exact o_end (w42 _ _ (wkm [1, 3, 5] (whk wh_nil)) h)
           · intro N92 w92
             refine c_block fun E93 hE93 hO93 => ?_
             refine s_so fun N94 k94 w94 => ?_
             refine o_r1 [(6, (vI 0))] ?_
             refine o_end (k94 _ ?_)
             refine c_block fun E95 hE95 hO95 => ?_
             refine W1 (fun (x115 : Int) => ⟨(mkd .any 97 0 [(1, (.ptr 0 0)), (3, (vI (len a1.fNodes))), (5, (vI x88)), (6, (vI x115))]), [(some (.box 26 [(vL Node.c a1.fNodes), (vL Val.c a1.fRoots)]))]⟩) (f60_l96 a1 x88 n (f60_k92 x88 (f60_l42 a1 n (f60_k39 n a1) m42))) h (wkm [1, 3, 5, 6] (whk wh_nil)) (by intros; rw [f60_l96.eq_1]) ?_
             intro m96 x115 h N96 w96
             rw [f60_l96.eq_2] at h
             refine s_seq fun N116 k116 w116 => ?_
             refine s_so fun N117 k117 w117 => ?_
             refine o_r4 [(39, (vI x115)), (40, (.ptr 0 0)), (41, (vL Node.c a1.fNodes)), (42, (vI x88))] ?_
             refine bnd h fun x118 g119 h => ?_
             refine o_o (one_ia (f := Node.c) (ki := .i64) g119) ?_
             refine o_r2 [(44, (.iptr [(vL Val.c x118.fVals)])), (45, (vL Val.c x118.fVals))] ?_
             refine o_o (one_len (f := Val.c) (l := x118.fVals)) ?_
             refine o_r1 [(47, (vB (decide (x115 < (len x118.fVals)))))] ?_
             refine o_end (k117 _ ?_)
             refine i_c [47] h (fun h => ?_) (fun h => ?_)
             · refine c_skip (k116 _ ?_)
               refine s_seq fun N122 k122 w122 => ?_
               refine c_block fun E123 hE123 hO123 => ?_
               refine s_so fun N124 k124 w124 => ?_
               refine o_r3 [(50, (.ptr 0 0)), (51, (vL Node.c a1.fNodes)), (52, (vI x88))] ?_
               refine bnd h fun x125 g126 h => ?_
               refine o_o (one_ia (f := Node.c) (ki := .i64) g126) ?_
               refine o_r3 [(54, (.iptr [(vL Val.c x125.fVals)])), (55, (vL Val.c x125.fVals)), (56, (vI x115))] ?_
               refine bnd h fun x127 g128 h => ?_
               refine o_o (one_ia (f := Val.c) (ki := .i64) g128) ?_
               refine o_r2 [(58, (.agg [(vI x127.fKind), (vI x127.fN)])), (59, (vI (len a1.fNodes)))] ?_
               refine bnd h fun r129 g130 h => ?_
               refine o_o (one_call (p_f99 g130)) ?_
               refine o_r1 [(7, (vB r129))] ?_
               refine s_tm (mkd .any 97 0 [(1, (.ptr 0 0)), (3, (vI (len a1.fNodes))), (5, (vI x88)), (6, (vI x115)), (7, (vB r129)), (39, (vI x115)), (40, (.ptr 0 0)), (41, (vL Node.c a1.fNodes)), (42, (vI x88)), (43, (.iptr [(vS x118.fClass), (vL Val.c x118.fVals)])), (44, (.iptr [(vL Val.c x118.fVals)])), (45, (vL Val.c x118.fVals)), (46, (vI (len x118.fVals))), (47, (vB true)), (50, (.ptr 0 0)), (51, (vL Node.c a1.fNodes)), (52, (vI x88)), (53, (.iptr [(vS x125.fClass), (vL Val.c x125.fVals)])), (54, (.iptr [(vL Val.c x125.fVals)])), (55, (vL Val.c x125.fVals)), (56, (vI x115)), (57, (.iptr [(vI x127.fKind), (vI x127.fN)])), (58, (.agg [(vI x127.fKind), (vI x127.fN)])), (59, (vI (len a1.fNodes))), (60, (vB r129))]) ?_
               refine o_end (w124 _ ⟨(mkd .any 97 0 [(1, (.ptr 0 0)), (3, (vI (len a1.fNodes))), (5, (vI x88)), (6, (vI x115)), (7, (vB r129))]), [(some (.box 26 [(vL Node.c a1.fNodes), (vL Val.c a1.fRoots)]))]⟩ (wkm [1, 3, 5, 6, 7] (whk wh_nil)) ?_)
               refine s_so fun N131 k131 w131 => ?_
               refine o_r2 [(61, (vB r129)), (62, (vB (!r129)))] ?_
               refine o_end (k131 _ ?_)
               refine i_c [62] h (fun h => ?_) (fun h => ?_)
               · refine s_so fun N133 k133 w133 => ?_
                 refine o_r1 [(2, (vI 2))] ?_
                 refine o_end (k133 _ ?_)
                 exact c_ret (rets [] [(vI 2)] [(vI 2)] h)
               · refine c_skip (k122 _ ?_)
                 refine c_ops ?_
                 refine o_r3 [(6, (vI (wr .i64 (x115 + 1)))), (48, (vI x115)), (49, (vI (wr .i64 (x115 + 1))))] ?_
                 exact o_end (w96 _ _ (wkm [1, 3, 5, 6] (whk wh_nil)) h)
             · refine c_exit (hE95 _ ?_)
               exact w92 _ (wkm [1, 3, 5] (whk wh_nil)) h
         · refine c_exit (hE41 _ ?_)
           exact w39 _ (wkm [1, 3] (whk wh_nil)) h
     · intro N12 w12
       refine s_so fun N13 k13 w13 => ?_
       refine o_r1 [(4, (vI 0))] ?_
       refine o_end (k13 _ ?_)
       refine c_block fun E14 hE14 hO14 => ?_
       refine W1 (fun (x27 : Int) => ⟨(mkd .any 97 0 [(1, (.ptr 0 0)), (3, (vI (len a1.fNodes))), (4, (vI x27))]), [(some (.box 26 [(vL Node.c a1.fNodes), (vL Val.c a1.fRoots)]))]⟩) (f60_l15 a1 (f60_k12 n a1)) h (wkm [1, 3, 4] (whk wh_nil)) (by intros; rw [f60_l15.eq_1]) ?_
       intro m15 x27 h N15 w15
       rw [f60_l15.eq_2] at h
       refine s_seq fun N28 k28 w28 => ?_
       refine s_so fun N29 k29 w29 => ?_
       refine o_r3 [(21, (vI x27)), (22, (vI (len a1.fNodes))), (23, (vB (decide (x27 < (len a1.fNodes)))))] ?_
       refine o_end (k29 _ ?_)
       refine i_c [23] h (fun h => ?_) (fun h => ?_)
       · refine c_skip (k28 _ ?_)
         refine s_seq fun N31 k31 w31 => ?_
         refine c_block fun E32 hE32 hO32 => ?_
         refine s_so fun N33 k33 w33 => ?_
         refine o_r3 [(26, (.ptr 0 0)), (27, (vL Node.c a1.fNodes)), (28, (vI x27))] ?_
         refine bnd h fun x34 g35 h => ?_
         refine o_o (one_ia (f := Node.c) (ki := .i64) g35) ?_
         refine o_r2 [(30, (.iptr [(vL Val.c x34.fVals)])), (31, (vL Val.c x34.fVals))] ?_
         refine o_o (one_len (f := Val.c) (l := x34.fVals)) ?_
         refine o_r1 [(33, (vB (decide ((len x34.fVals) > 30))))] ?_
         refine o_end (k33 _ ?_)
         refine i_c [33] h (fun h => ?_) (fun h => ?_)
         · refine s_so fun N38 k38 w38 => ?_
           refine o_r1 [(2, (vI 3))] ?_
           refine o_end (k38 _ ?_)
           exact c_ret (rets [] [(vI 3)] [(vI 3)] h)
         · refine c_skip (k31 _ ?_)
           refine c_ops ?_
           refine o_r3 [(4, (vI (wr .i64 (x27 + 1)))), (24, (vI x27)), (25, (vI (wr .i64 (x27 + 1))))] ?_
           exact o_end (w15 _ _ (wkm [1, 3, 4] (whk wh_nil)) h)
       · refine c_exit (hE14 _ ?_)
         exact w12 _ (wkm [1, 3] (whk wh_nil)) h
 · intro N6 w6
   refine c_ops ?_
   refine o_r3 [(13, (vI (len a1.fNodes))), (14, (vB (decide ((len a1.fNodes) > 400)))), (15, (vB (decide ((len a1.fNodes) > 400))))] ?_
   refine i_o [14, 15] h (fun h => ?_) (fun h => ?_)
   · refine o_r5 [(16, (.val undef)), (17, (.val undef)), (18, (.val undef)), (19, (.val undef)), (20, (vB true))] ?_
     exact o_end (w6 _ _ (wkm [1, 3, 20] (whk wh_nil)) h)
   · refine o_r2 [(16, (.ptr 0 1)), (17, (vL Val.c a1.fRoots))] ?_
     refine o_g ?_
     refine o_o (one_len (f := Val.c) (l := a1.fRoots)) ?_
     refine o_r2 [(19, (vB (decide ((len a1.fRoots) > 60)))), (20, (vB (decide ((len a1.fRoots) > 60))))] ?_
     exact o_end (w6 _ _ (wkm [1, 3, 20] (whk wh_nil)) h)
theorem ic61 : fnIC Try.prog H0 61 = some ([.tmp 6], 43, (.seq (.ops [zO 3 (.box 0 93 [] (.t 0)), zO 4 (.box 0 59 [] (.t 1)), zO 5 (.box 0 26 [(0, 57, 2, 0), (1, 59, 2, 0)] (.t 2)), zO 6 (.mov (.c (.bool false)))]) (.seq (.seq (.ops [zO 7 (.faddr (.t 3) 1), zO 8 (.ld (.t 7) 1 false)]) (.block 0 (.seq (.ops [zO 10 (.sc (.bin .eql 3) [(.t 8), (.c (.int .i64 1))]), zM 9 10]) (.cond (.t 9)
  (.seq (.ops [zO 11 (.faddr (.t 4) 0), zO 12 (.ld (.t 11) 1 false), zO 13 (.sc (.bin .eql 3) [(.t 12), (.c (.int .i64 1))]), zM 6 13]) .ret)
  (.seq (.ops [zO 15 (.sc (.bin .eql 3) [(.t 8), (.c (.int .i64 2))]), zM 14 15]) (.cond (.t 14)
  (.seq (.ops [zO 16 (.faddr (.t 4) 0), zO 17 (.ld (.t 16) 1 false), zO 18 (.sc (.bin .eql 3) [(.t 17), (.c (.int .i64 2))]), zM 6 18]) .ret)
  .skip)))))) (.seq (.seq (.ops [zO 19 (.faddr (.t 4) 0), zO 20 (.ld (.t 19) 1 false), zO 21 (.sc (.bin .eql 3) [(.t 20), (.c (.int .i64 3))])]) (.cond (.t 21)
  (.seq (.ops [zO 6 (.mov (.c (.bool true)))]) .ret)
  .skip)) (.seq (.draw [] [zQ (zO 22 (.faddr (.t 4) 0)), zQ (zO 23 (.ld (.t 22) 1 false)), zQ (zO 24 (.sc (.bin .eql 3) [(.t 23), (.c (.int .i64 4))])), zQ (zM 25 24), zQ (zG 26 25 true (.faddr (.t 3) 2)), zQ (zG 27 25 true (.ld (.t 26) 1 false)), zQ (zG 28 25 true (.sc (.bin .eql 9) [(.t 27), (.c (.string ⟨#[65, 78, 89]⟩))])), zQ (zN 29 25 true 28), zQ (zG 30 29 false (.faddr (.t 5) 0)), zQ (zG 31 29 false (.ld (.t 30) 1 false)), zQ (zG 32 29 false (.faddr (.t 4) 1)), zQ (zG 33 29 false (.ld (.t 32) 1 false)), zQ (zG 34 29 false (.sc .mx [(.c (.int .i64 0)), (.t 33)])), zQ (zG 35 29 false (.iaddr 2 (.t 31) (.t 34))), zQ (zG 36 29 false (.faddr (.t 35) 0)), zQ (zG 37 29 false (.ld (.t 36) 1 false)), zQ (zG 38 29 false (.faddr (.t 3) 2)), zQ (zG 39 29 false (.ld (.t 38) 1 false)), zQ (zG 40 29 false (.sc (.bin .eql 9) [(.t 37), (.t 39)])), zQ (zG 41 25 true (.pick (.t 29) (.c (.bool true)) (.t 40))), zQ (zO 42 (.pick (.t 25) (.t 41) (.c (.bool false)))), zQ (zM 6 42)]) .ret))))) := by kernel_rfl
def f61_k18 (x25 : Bool) : Option Bool := some x25
def f61 (n : Nat) (a1 : Col) (a2 : Val) (a3 : Graph) : Option Bool := (bif (a1.fKind == 1) then some (a2.fKind == 1) else (bif (a1.fKind == 2) then some (a2.fKind == 2) else (bif (a2.fKind == 3) then some true else (bif (a2.fKind == 4) then (bif (sEqF a1.fClass (ByteArray.mk #[65, 78, 89])) then (f61_k18 true) else ((gi a3.fNodes (mxI 0 a2.fN)).bind fun x22 => (f61_k18 (sEqF x22.fClass a1.fClass)))) else (f61_k18 false)))))
def f61_r (r : Bool) : AV := (vB r)
theorem p_f61 {n : Nat} {a1 : Col} {a2 : Val} {a3 : Graph} {r : Bool} (h : f61 n a1 a2 a3 = some r) : PureSpec Try.prog 61 [(.agg [(vS a1.fName), (vI a1.fKind), (vS a1.fClass)]), (.agg [(vI a2.fKind), (vI a2.fN)]), (.agg [(vL Node.c a3.fNodes), (vL Val.c a3.fRoots)])] (f61_r r) := by
 rw [f61.eq_1] at h
 refine pure_of hmix ic61 ?_
 refine go_to (mkd (.val undef) 43 0 [(0, (.agg [(vS a1.fName), (vI a1.fKind), (vS a1.fClass)])), (1, (.agg [(vI a2.fKind), (vI a2.fN)])), (2, (.agg [(vL Node.c a3.fNodes), (vL Val.c a3.fRoots)]))]) ?_
 refine s_so fun N4 k4 w4 => ?_
 refine o_h4 [(3, (.ptr 0 0)), (4, (.ptr 1 0)), (5, (.ptr 2 0)), (6, (vB false))] [(some (.box 93 [(vS a1.fName), (vI a1.fKind), (vS a1.fClass)])), (some (.box 59 [(vI a2.fKind), (vI a2.fN)])), (some (.box 26 [(vL Node.c a3.fNodes), (vL Val.c a3.fRoots)]))] ?_
 refine o_end (k4 _ ?_)
 refine s_seq fun N5 k5 w5 => ?_
 refine s_so fun N6 k6 w6 => ?_
 refine o_r2 [(7, (.ptr 0 1)), (8, (vI a1.fKind))] ?_
 refine o_end (k6 _ ?_)
 refine c_block fun E7 hE7 hO7 => ?_
 refine s_so fun N8 k8 w8 => ?_
 refine o_r2 [(9, (vB (a1.fKind == 1))), (10, (vB (a1.fKind == 1)))] ?_
 refine o_end (k8 _ ?_)
 refine i_c [9, 10] h (fun h => ?_) (fun h => ?_)
 · refine s_so fun N10 k10 w10 => ?_
   refine o_r4 [(6, (vB (a2.fKind == 1))), (11, (.ptr 1 0)), (12, (vI a2.fKind)), (13, (vB (a2.fKind == 1)))] ?_
   refine o_end (k10 _ ?_)
   exact c_ret (rets [] [(vB (a2.fKind == 1))] [(vB (a2.fKind == 1))] h)
 · refine s_so fun N11 k11 w11 => ?_
   refine o_r2 [(14, (vB (a1.fKind == 2))), (15, (vB (a1.fKind == 2)))] ?_
   refine o_end (k11 _ ?_)
   refine i_c [14, 15] h (fun h => ?_) (fun h => ?_)
   · refine s_so fun N13 k13 w13 => ?_
     refine o_r4 [(6, (vB (a2.fKind == 2))), (16, (.ptr 1 0)), (17, (vI a2.fKind)), (18, (vB (a2.fKind == 2)))] ?_
     refine o_end (k13 _ ?_)
     exact c_ret (rets [] [(vB (a2.fKind == 2))] [(vB (a2.fKind == 2))] h)
   · refine c_skip (k5 _ ?_)
     refine s_seq fun N14 k14 w14 => ?_
     refine s_so fun N15 k15 w15 => ?_
     refine o_r3 [(19, (.ptr 1 0)), (20, (vI a2.fKind)), (21, (vB (a2.fKind == 3)))] ?_
     refine o_end (k15 _ ?_)
     refine i_c [21] h (fun h => ?_) (fun h => ?_)
     · refine s_so fun N17 k17 w17 => ?_
       refine o_r1 [(6, (vB true))] ?_
       refine o_end (k17 _ ?_)
       exact c_ret (rets [] [(vB true)] [(vB true)] h)
     · refine c_skip (k14 _ ?_)
       refine J1 (r := r) (fun (x25 : Bool) => ⟨(mkd .any 43 0 [(6, (vB x25))]), []⟩) (f61_k18) ?_ ?_
       · intro x25 h
         rw [f61_k18.eq_1] at h
         exact c_ret (rets [] [(vB x25)] [(vB x25)] h)
       · intro N18 w18
         refine c_draw0 ?_
         refine d_r4 [(22, (.ptr 1 0)), (23, (vI a2.fKind)), (24, (vB (a2.fKind == 4))), (25, (vB (a2.fKind == 4)))] ?_
         refine i_d [24, 25] h (fun h => ?_) (fun h => ?_)
         · refine d_r2 [(26, (.ptr 0 2)), (27, (vS a1.fClass))] ?_
           refine d_g (one_sc (vs := [.string a1.fClass, .string (ByteArray.mk #[65, 78, 89])]) (str_eql a1.fClass (ByteArray.mk #[65, 78, 89]))) ?_
           refine d_r1 [(29, (vB (sEqF a1.fClass (ByteArray.mk #[65, 78, 89]))))] ?_
           refine t_tm (mkd (.val undef) 43 0 [(0, (.agg [(vS a1.fName), (vI a1.fKind), (vS a1.fClass)])), (1, (.agg [(vI a2.fKind), (vI a2.fN)])), (2, (.agg [(vL Node.c a3.fNodes), (vL Val.c a3.fRoots)])), (3, (.ptr 0 0)), (4, (.ptr 1 0)), (5, (.ptr 2 0)), (6, (vB false)), (7, (.ptr 0 1)), (8, (vI a1.fKind)), (9, (vB false)), (10, (vB false)), (14, (vB false)), (15, (vB false)), (19, (.ptr 1 0)), (20, (vI a2.fKind)), (21, (vB false)), (22, (.ptr 1 0)), (23, (vI a2.fKind)), (24, (vB true)), (25, (vB true)), (26, (.ptr 0 2)), (27, (vS a1.fClass)), (28, (vB (sEqF a1.fClass (ByteArray.mk #[65, 78, 89])))), (29, (vB (sEqF a1.fClass (ByteArray.mk #[65, 78, 89]))))]) ?_
           refine i_d [28, 29] h (fun h => ?_) (fun h => ?_)
           · refine d_r14 [(6, (vB true)), (30, (.val undef)), (31, (.val undef)), (32, (.val undef)), (33, (.val undef)), (34, (.val undef)), (35, (.val undef)), (36, (.val undef)), (37, (.val undef)), (38, (.val undef)), (39, (.val undef)), (40, (.val undef)), (41, (vB true)), (42, (vB true))] ?_
             exact d_end (w18 _ _ (wkm [6] wh_nil) h)
           · refine d_r5 [(30, (.ptr 2 0)), (31, (vL Node.c a3.fNodes)), (32, (.ptr 1 1)), (33, (vI a2.fN)), (34, (vI (mxI 0 a2.fN)))] ?_
             refine bnd h fun x22 g23 h => ?_
             refine d_g (one_ia (f := Node.c) (ki := .i64) g23) ?_
             refine d_r4 [(36, (.iptr [(vS x22.fClass), (vL Val.c x22.fVals)])), (37, (vS x22.fClass)), (38, (.ptr 0 2)), (39, (vS a1.fClass))] ?_
             refine d_g (one_sc (vs := [.string x22.fClass, .string a1.fClass]) (str_eql x22.fClass a1.fClass)) ?_
             refine d_r3 [(6, (vB (sEqF x22.fClass a1.fClass))), (41, (vB (sEqF x22.fClass a1.fClass))), (42, (vB (sEqF x22.fClass a1.fClass)))] ?_
             exact d_end (w18 _ _ (wkm [6] wh_nil) h)
         · refine d_r16 [(26, (.val undef)), (27, (.val undef)), (28, (.val undef)), (29, (.val undef)), (30, (.val undef)), (31, (.val undef)), (32, (.val undef)), (33, (.val undef)), (34, (.val undef)), (35, (.val undef)), (36, (.val undef)), (37, (.val undef)), (38, (.val undef)), (39, (.val undef)), (40, (.val undef)), (41, (.val undef))] ?_
           refine d_r2 [(42, (vB false))] ?_
           exact d_end (w18 _ _ (wkm [6] wh_nil) h)
theorem ic19 : fnIC Try.prog H0 19 = some ([.tmp 4], 91, (.seq (.ops [zO 3 (.box 0 26 [(0, 57, 2, 0), (1, 59, 2, 0)] (.t 1)), zO 4 (.mov (.c (.int .i64 0)))]) (.seq (.ops [zM 11 0, zO 12 (.call 17 [(.t 11)]), zM 5 12]) (.seq (.seq (.ops [zM 13 5, zO 14 (.sc (.bin .neq 30) [(.t 13), (.c (.int .i64 0))])]) (.cond (.t 14)
  (.seq (.ops [zM 15 5, zM 4 15]) .ret)
  .skip)) (.seq (.ops [zO 16 (.ld (.t 3) 2 true), zO 17 (.call 60 [(.t 16)]), zM 5 17]) (.seq (.seq (.ops [zM 18 5, zO 19 (.sc (.bin .neq 30) [(.t 18), (.c (.int .i64 0))])]) (.cond (.t 19)
  (.seq (.ops [zM 20 5, zM 4 20]) .ret)
  .skip)) (.seq (.seq (.ops [zO 6 (.mov (.c (.int .i64 0)))]) (.block 0 (.loop (.seq (.seq (.ops [zM 21 6, zO 22 (.faddr (.t 3) 0), zO 23 (.ld (.t 22) 1 false), zO 24 (.len false (.t 23)), zO 25 (.sc (.bin .lss 3) [(.t 21), (.t 24)])]) (.cond (.t 25)
  .skip
  (.exit 0))) (.seq (.block 1 (.seq (.ops [zM 28 0, zO 29 (.faddr (.t 3) 0), zO 30 (.ld (.t 29) 1 false), zM 31 6, zO 32 (.iaddr 2 (.t 30) (.t 31)), zO 33 (.faddr (.t 32) 0), zO 34 (.ld (.t 33) 1 false), zO 35 (.call 55 [(.t 28), (.t 34)]), zO 36 (.sc (.bin .lss 3) [(.t 35), (.c (.int .i64 0))])]) (.cond (.t 36)
  (.seq (.ops [zO 4 (.mov (.c (.int .i64 4)))]) .ret)
  .skip))) (.ops [zM 26 6, zO 27 (.sc (.bin .add 3) [(.t 26), (.c (.int .i64 1))]), zM 6 27])))))) (.seq (.seq (.ops [zO 7 (.mov (.c (.int .i64 0)))]) (.block 2 (.loop (.seq (.seq (.ops [zM 37 7, zO 38 (.faddr (.t 3) 0), zO 39 (.ld (.t 38) 1 false), zO 40 (.len false (.t 39)), zO 41 (.sc (.bin .lss 3) [(.t 37), (.t 40)])]) (.cond (.t 41)
  .skip
  (.exit 2))) (.seq (.block 3 (.seq (.ops [zM 44 0, zM 45 0, zO 46 (.faddr (.t 3) 0), zO 47 (.ld (.t 46) 1 false), zM 48 7, zO 49 (.iaddr 2 (.t 47) (.t 48)), zO 50 (.faddr (.t 49) 0), zO 51 (.ld (.t 50) 1 false), zO 52 (.call 55 [(.t 45), (.t 51)]), zO 53 (.iaddr 2 (.t 44) (.t 52)), zO 54 (.ld (.t 53) 2 true), zO 8 (.alloc 0 91 [(1, 93, 3, 0)] [(.string ⟨#[]⟩), (.slice none 0 0)]), zU (.st true 2 [(1, 93, 3, 0)] (.t 8) (.t 54))]) (.seq (.seq (.draw [] [zQ (zO 55 (.faddr (.t 8) 1)), zQ (zO 56 (.ld (.t 55) 1 false)), zQ (zO 57 (.len false (.t 56))), zQ (zO 58 (.faddr (.t 3) 0)), zQ (zO 59 (.ld (.t 58) 1 false)), zQ (zM 60 7), zQ (zO 61 (.iaddr 2 (.t 59) (.t 60))), zQ (zO 62 (.faddr (.t 61) 1)), zQ (zO 63 (.ld (.t 62) 1 false)), zQ (zO 64 (.len false (.t 63))), zQ (zO 65 (.sc (.bin .neq 3) [(.t 57), (.t 64)]))]) (.cond (.t 65)
  (.seq (.ops [zO 4 (.mov (.c (.int .i64 8)))]) .ret)
  .skip)) (.seq (.ops [zO 9 (.mov (.c (.int .i64 0)))]) (.block 4 (.loop (.seq (.seq (.ops [zM 66 9, zO 67 (.faddr (.t 8) 1), zO 68 (.ld (.t 67) 1 false), zO 69 (.len false (.t 68)), zO 70 (.sc (.bin .lss 3) [(.t 66), (.t 69)])]) (.cond (.t 70)
  .skip
  (.exit 4))) (.seq (.block 5 (.seq (.draw [] [zQ (zO 73 (.faddr (.t 8) 1)), zQ (zO 74 (.ld (.t 73) 1 false)), zQ (zM 75 9), zQ (zO 76 (.iaddr 3 (.t 74) (.t 75))), zQ (zO 77 (.ld (.t 76) 3 true)), zQ (zO 78 (.faddr (.t 3) 0)), zQ (zO 79 (.ld (.t 78) 1 false)), zQ (zM 80 7), zQ (zO 81 (.iaddr 2 (.t 79) (.t 80))), zQ (zO 82 (.faddr (.t 81) 1)), zQ (zO 83 (.ld (.t 82) 1 false)), zQ (zM 84 9), zQ (zO 85 (.iaddr 2 (.t 83) (.t 84))), zQ (zO 86 (.ld (.t 85) 2 true)), zQ (zO 87 (.ld (.t 3) 2 true)), zQ (zO 88 (.call 61 [(.t 77), (.t 86), (.t 87)])), zQ (zM 10 88)]) (.seq (.ops [zM 89 10, zO 90 (.sc (.un .not) [(.t 89)])]) (.cond (.t 90)
  (.seq (.ops [zO 4 (.mov (.c (.int .i64 8)))]) .ret)
  .skip)))) (.ops [zM 71 9, zO 72 (.sc (.bin .add 3) [(.t 71), (.c (.int .i64 1))]), zM 9 72]))))))))) (.ops [zM 42 7, zO 43 (.sc (.bin .add 3) [(.t 42), (.c (.int .i64 1))]), zM 7 43])))))) (.seq (.ops [zO 4 (.mov (.c (.int .i64 0)))]) .ret))))))))) := by kernel_rfl
def f19_k119 (x114 : Int) (c52k : Int → Option Int) : Option Int := (c52k (wr .i64 (x114 + 1)))
def f19_l138 (x126 : Form) (a2 : Graph) (x114 : Int) (n : Nat) (k119k : Option Int) : Nat → Int → Option Int
  | 0, _ => none
  | m138 + 1, x157 => (bif (decide (x157 < (len x126.fCols))) then ((gi x126.fCols x157).bind fun x165 => ((gi a2.fNodes x114).bind fun x167 => ((gi x167.fVals x157).bind fun x169 => ((f61 n x165 x169 a2).bind fun r171 => (bif (!r171) then some 8 else (f19_l138 x126 a2 x114 n (k119k) m138 (wr .i64 (x157 + 1)))))))) else (k119k))
def f19_k49 : Option Int := some 0
def f19_l52 (a2 : Graph) (n : Nat) (a1 : (List Form)) (k49k : Option Int) : Nat → Int → Option Int
  | 0, _ => none
  | m52 + 1, x114 => (bif (decide (x114 < (len a2.fNodes))) then ((gi a2.fNodes x114).bind fun x122 => ((f55 n a1 x122.fClass).bind fun r124 => ((gi a1 r124).bind fun x126 => ((gi a2.fNodes x114).bind fun x131 => (bif ((len x126.fCols) != (len x131.fVals)) then some 8 else (f19_l138 x126 a2 x114 n (f19_k119 x114 (f19_l52 a2 n a1 (k49k) m52)) n 0)))))) else (k49k))
def f19_k18 (n : Nat) (a2 : Graph) (a1 : (List Form)) : Option Int := (f19_l52 a2 n a1 (f19_k49) n 0)
def f19_l21 (a2 : Graph) (n : Nat) (a1 : (List Form)) (k18k : Option Int) : Nat → Int → Option Int
  | 0, _ => none
  | m21 + 1, x35 => (bif (decide (x35 < (len a2.fNodes))) then ((gi a2.fNodes x35).bind fun x43 => ((f55 n a1 x43.fClass).bind fun r45 => (bif (decide (r45 < 0)) then some 4 else (f19_l21 a2 n a1 (k18k) m21 (wr .i64 (x35 + 1)))))) else (k18k))
def f19 (n : Nat) (a1 : (List Form)) (a2 : Graph) : Option Int := ((f17 n a1).bind fun r5 => (bif (r5 != 0) then some r5 else ((f60 n a2).bind fun r12 => (bif (r12 != 0) then some r12 else (f19_l21 a2 n a1 (f19_k18 n a2 a1) n 0)))))
def f19_r (r : Int) : AV := (vI r)
theorem p_f19 {n : Nat} {a1 : (List Form)} {a2 : Graph} {r : Int} (h : f19 n a1 a2 = some r) : PureSpec Try.prog 19 [(vL Form.c a1), (.agg [(vL Node.c a2.fNodes), (vL Val.c a2.fRoots)])] (f19_r r) := by
 rw [f19.eq_1] at h
 refine pure_of hmix ic19 ?_
 refine go_to (mkd (.val undef) 91 0 [(0, (vL Form.c a1)), (1, (.agg [(vL Node.c a2.fNodes), (vL Val.c a2.fRoots)]))]) ?_
 refine s_so fun N3 k3 w3 => ?_
 refine o_h2 [(3, (.ptr 0 0)), (4, (vI 0))] [(some (.box 26 [(vL Node.c a2.fNodes), (vL Val.c a2.fRoots)]))] ?_
 refine o_end (k3 _ ?_)
 refine s_so fun N4 k4 w4 => ?_
 refine o_r1 [(11, (vL Form.c a1))] ?_
 refine bnd h fun r5 g6 h => ?_
 refine o_o (one_call (p_f17 g6)) ?_
 refine o_r1 [(5, (vI r5))] ?_
 refine o_end (k4 _ ?_)
 refine s_seq fun N7 k7 w7 => ?_
 refine s_so fun N8 k8 w8 => ?_
 refine o_r2 [(13, (vI r5)), (14, (vB (r5 != 0)))] ?_
 refine o_end (k8 _ ?_)
 refine i_c [14] h (fun h => ?_) (fun h => ?_)
 · refine s_so fun N10 k10 w10 => ?_
   refine o_r2 [(4, (vI r5)), (15, (vI r5))] ?_
   refine o_end (k10 _ ?_)
   exact c_ret (rets [] [(vI r5)] [(vI r5)] h)
 · refine c_skip (k7 _ ?_)
   refine s_so fun N11 k11 w11 => ?_
   refine o_r1 [(16, (.agg [(vL Node.c a2.fNodes), (vL Val.c a2.fRoots)]))] ?_
   refine bnd h fun r12 g13 h => ?_
   refine o_o (one_call (p_f60 g13)) ?_
   refine o_r1 [(5, (vI r12))] ?_
   refine o_end (k11 _ ?_)
   refine s_seq fun N14 k14 w14 => ?_
   refine s_so fun N15 k15 w15 => ?_
   refine o_r2 [(18, (vI r12)), (19, (vB (r12 != 0)))] ?_
   refine o_end (k15 _ ?_)
   refine i_c [19] h (fun h => ?_) (fun h => ?_)
   · refine s_so fun N17 k17 w17 => ?_
     refine o_r2 [(4, (vI r12)), (20, (vI r12))] ?_
     refine s_tm (mkd (.val undef) 91 0 [(0, (vL Form.c a1)), (1, (.agg [(vL Node.c a2.fNodes), (vL Val.c a2.fRoots)])), (3, (.ptr 0 0)), (4, (vI r12)), (5, (vI r12)), (11, (vL Form.c a1)), (12, (vI r5)), (13, (vI r5)), (14, (vB false)), (16, (.agg [(vL Node.c a2.fNodes), (vL Val.c a2.fRoots)])), (17, (vI r12)), (18, (vI r12)), (19, (vB true)), (20, (vI r12))]) ?_
     refine o_end (k17 _ ?_)
     exact c_ret (rets [] [(vI r12)] [(vI r12)] h)
   · refine c_skip (k14 _ ?_)
     refine J0 (r := r) ⟨(mkd .any 91 0 [(0, (vL Form.c a1)), (3, (.ptr 0 0))]), [(some (.box 26 [(vL Node.c a2.fNodes), (vL Val.c a2.fRoots)]))]⟩ (f19_k18 n a2 a1) ?_ ?_
     · intro h
       rw [f19_k18.eq_1] at h
       refine J0 (r := r) ⟨(mkd .any 91 0 []), []⟩ (f19_k49) ?_ ?_
       · intro h
         rw [f19_k49.eq_1] at h
         refine s_so fun N176 k176 w176 => ?_
         refine o_r1 [(4, (vI 0))] ?_
         refine o_end (k176 _ ?_)
         exact c_ret (rets [] [(vI 0)] [(vI 0)] h)
       · intro N49 w49
         refine s_so fun N50 k50 w50 => ?_
         refine o_r1 [(7, (vI 0))] ?_
         refine o_end (k50 _ ?_)
         refine c_block fun E51 hE51 hO51 => ?_
         refine W1 (fun (x114 : Int) => ⟨(mkd .any 91 0 [(0, (vL Form.c a1)), (3, (.ptr 0 0)), (7, (vI x114))]), [(some (.box 26 [(vL Node.c a2.fNodes), (vL Val.c a2.fRoots)]))]⟩) (f19_l52 a2 n a1 (f19_k49)) h (wkm [0, 3, 7] (whk wh_nil)) (by intros; rw [f19_l52.eq_1]) ?_
         intro m52 x114 h N52 w52
         rw [f19_l52.eq_2] at h
         refine s_seq fun N115 k115 w115 => ?_
         refine s_so fun N116 k116 w116 => ?_
         refine o_r3 [(37, (vI x114)), (38, (.ptr 0 0)), (39, (vL Node.c a2.fNodes))] ?_
         refine o_o (one_len (f := Node.c) (l := a2.fNodes)) ?_
         refine o_r1 [(41, (vB (decide (x114 < (len a2.fNodes)))))] ?_
         refine o_end (k116 _ ?_)
         refine i_c [41] h (fun h => ?_) (fun h => ?_)
         · refine c_skip (k115 _ ?_)
           refine J0 (r := r) ⟨(mkd .any 91 0 [(0, (vL Form.c a1)), (3, (.ptr 0 0)), (7, (vI x114))]), [(some (.box 26 [(vL Node.c a2.fNodes), (vL Val.c a2.fRoots)]))]⟩ (f19_k119 x114 (f19_l52 a2 n a1 (f19_k49) m52)) ?_ ?_
           · intro h
             rw [f19_k119.eq_1] at h
             refine c_ops ?_
             refine o_r3 [(7, (vI (wr .i64 (x114 + 1)))), (42, (vI x114)), (43, (vI (wr .i64 (x114 + 1))))] ?_
             exact o_end (w52 _ _ (wkm [0, 3, 7] (whk wh_nil)) h)
           · intro N119 w119
             refine c_block fun E120 hE120 hO120 => ?_
             refine s_so fun N121 k121 w121 => ?_
             refine o_r5 [(44, (vL Form.c a1)), (45, (vL Form.c a1)), (46, (.ptr 0 0)), (47, (vL Node.c a2.fNodes)), (48, (vI x114))] ?_
             refine bnd h fun x122 g123 h => ?_
             refine o_o (one_ia (f := Node.c) (ki := .i64) g123) ?_
             refine o_r2 [(50, (.iptr [(vS x122.fClass), (vL Val.c x122.fVals)])), (51, (vS x122.fClass))] ?_
             refine bnd h fun r124 g125 h => ?_
             refine o_o (one_call (p_f55 g125)) ?_
             refine bnd h fun x126 g127 h => ?_
             refine o_o (one_ia (f := Form.c) (ki := .i64) g127) ?_
             refine o_h3 [(8, (.ptr 2 0)), (54, (.agg [(vS x126.fName), (vL Col.c x126.fCols)]))] [(some (.box 26 [(vL Node.c a2.fNodes), (vL Val.c a2.fRoots)])), (some (.row 93 3 (List.map Col.c []))), (some (.box 91 [(vS x126.fName), (vL Col.c x126.fCols)]))] ?_
             refine o_end (w121 _ ⟨(mkd .any 91 0 [(0, (vL Form.c a1)), (3, (.ptr 0 0)), (7, (vI x114)), (8, (.ptr 2 0))]), [(some (.box 26 [(vL Node.c a2.fNodes), (vL Val.c a2.fRoots)])), none, (some (.box 91 [(vS x126.fName), (vL Col.c x126.fCols)]))]⟩ (wkm [0, 3, 7, 8] (whk (wh_drop (whk wh_nil)))) ?_)
             refine s_seq fun N128 k128 w128 => ?_
             refine s_seq fun N129 k129 w129 => ?_
             refine c_draw0 ?_
             refine d_r2 [(55, (.ptr 2 1)), (56, (vL Col.c x126.fCols))] ?_
             refine d_o (one_len (f := Col.c) (l := x126.fCols)) ?_
             refine d_r3 [(58, (.ptr 0 0)), (59, (vL Node.c a2.fNodes)), (60, (vI x114))] ?_
             refine bnd h fun x131 g132 h => ?_
             refine d_o (one_ia (f := Node.c) (ki := .i64) g132) ?_
             refine d_r2 [(62, (.iptr [(vL Val.c x131.fVals)])), (63, (vL Val.c x131.fVals))] ?_
             refine d_o (one_len (f := Val.c) (l := x131.fVals)) ?_
             refine d_r1 [(65, (vB ((len x126.fCols) != (len x131.fVals))))] ?_
             refine d_end (k129 _ ?_)
             refine i_c [65] h (fun h => ?_) (fun h => ?_)
             · refine s_so fun N135 k135 w135 => ?_
               refine o_r1 [(4, (vI 8))] ?_
               refine o_end (k135 _ ?_)
               exact c_ret (rets [] [(vI 8)] [(vI 8)] h)
             · refine c_skip (k128 _ ?_)
               refine s_so fun N136 k136 w136 => ?_
               refine o_r1 [(9, (vI 0))] ?_
               refine o_end (k136 _ ?_)
               refine c_block fun E137 hE137 hO137 => ?_
               refine W1 (fun (x157 : Int) => ⟨(mkd .any 91 0 [(0, (vL Form.c a1)), (3, (.ptr 0 0)), (7, (vI x114)), (8, (.ptr 2 0)), (9, (vI x157))]), [(some (.box 26 [(vL Node.c a2.fNodes), (vL Val.c a2.fRoots)])), none, (some (.box 91 [(vS x126.fName), (vL Col.c x126.fCols)]))]⟩) (f19_l138 x126 a2 x114 n (f19_k119 x114 (f19_l52 a2 n a1 (f19_k49) m52))) h (wkm [0, 3, 7, 8, 9] (whk (wh_none (whk wh_nil)))) (by intros; rw [f19_l138.eq_1]) ?_
               intro m138 x157 h N138 w138
               rw [f19_l138.eq_2] at h
               refine s_seq fun N158 k158 w158 => ?_
               refine s_so fun N159 k159 w159 => ?_
               refine o_r3 [(66, (vI x157)), (67, (.ptr 2 1)), (68, (vL Col.c x126.fCols))] ?_
               refine o_o (one_len (f := Col.c) (l := x126.fCols)) ?_
               refine o_r1 [(70, (vB (decide (x157 < (len x126.fCols)))))] ?_
               refine o_end (k159 _ ?_)
               refine i_c [70] h (fun h => ?_) (fun h => ?_)
               · refine c_skip (k158 _ ?_)
                 refine s_seq fun N162 k162 w162 => ?_
                 refine c_block fun E163 hE163 hO163 => ?_
                 refine s_seq fun N164 k164 w164 => ?_
                 refine c_draw0 ?_
                 refine d_r3 [(73, (.ptr 2 1)), (74, (vL Col.c x126.fCols)), (75, (vI x157))] ?_
                 refine bnd h fun x165 g166 h => ?_
                 refine d_o (one_ia (f := Col.c) (ki := .i64) g166) ?_
                 refine d_r4 [(77, (.agg [(vS x165.fName), (vI x165.fKind), (vS x165.fClass)])), (78, (.ptr 0 0)), (79, (vL Node.c a2.fNodes)), (80, (vI x114))] ?_
                 refine bnd h fun x167 g168 h => ?_
                 refine d_o (one_ia (f := Node.c) (ki := .i64) g168) ?_
                 refine d_r3 [(82, (.iptr [(vL Val.c x167.fVals)])), (83, (vL Val.c x167.fVals)), (84, (vI x157))] ?_
                 refine bnd h fun x169 g170 h => ?_
                 refine d_o (one_ia (f := Val.c) (ki := .i64) g170) ?_
                 refine d_r2 [(86, (.agg [(vI x169.fKind), (vI x169.fN)])), (87, (.agg [(vL Node.c a2.fNodes), (vL Val.c a2.fRoots)]))] ?_
                 refine bnd h fun r171 g172 h => ?_
                 refine d_o (one_call (p_f61 g172)) ?_
                 refine d_r1 [(10, (vB r171))] ?_
                 refine t_tm (mkd .any 91 0 [(0, (vL Form.c a1)), (3, (.ptr 0 0)), (7, (vI x114)), (8, (.ptr 2 0)), (9, (vI x157)), (10, (vB r171)), (66, (vI x157)), (67, (.ptr 2 1)), (68, (vL Col.c x126.fCols)), (69, (vI (len x126.fCols))), (70, (vB true)), (73, (.ptr 2 1)), (74, (vL Col.c x126.fCols)), (75, (vI x157)), (76, (.iptr [(vS x165.fName), (vI x165.fKind), (vS x165.fClass)])), (77, (.agg [(vS x165.fName), (vI x165.fKind), (vS x165.fClass)])), (78, (.ptr 0 0)), (79, (vL Node.c a2.fNodes)), (80, (vI x114)), (81, (.iptr [(vS x167.fClass), (vL Val.c x167.fVals)])), (82, (.iptr [(vL Val.c x167.fVals)])), (83, (vL Val.c x167.fVals)), (84, (vI x157)), (85, (.iptr [(vI x169.fKind), (vI x169.fN)])), (86, (.agg [(vI x169.fKind), (vI x169.fN)])), (87, (.agg [(vL Node.c a2.fNodes), (vL Val.c a2.fRoots)])), (88, (vB r171))]) ?_
                 refine d_end (w164 _ ⟨(mkd .any 91 0 [(0, (vL Form.c a1)), (3, (.ptr 0 0)), (7, (vI x114)), (8, (.ptr 2 0)), (9, (vI x157)), (10, (vB r171))]), [(some (.box 26 [(vL Node.c a2.fNodes), (vL Val.c a2.fRoots)])), none, (some (.box 91 [(vS x126.fName), (vL Col.c x126.fCols)]))]⟩ (wkm [0, 3, 7, 8, 9, 10] (whk (wh_none (whk wh_nil)))) ?_)
                 refine s_so fun N173 k173 w173 => ?_
                 refine o_r2 [(89, (vB r171)), (90, (vB (!r171)))] ?_
                 refine o_end (k173 _ ?_)
                 refine i_c [90] h (fun h => ?_) (fun h => ?_)
                 · refine s_so fun N175 k175 w175 => ?_
                   refine o_r1 [(4, (vI 8))] ?_
                   refine o_end (k175 _ ?_)
                   exact c_ret (rets [] [(vI 8)] [(vI 8)] h)
                 · refine c_skip (k162 _ ?_)
                   refine c_ops ?_
                   refine o_r3 [(9, (vI (wr .i64 (x157 + 1)))), (71, (vI x157)), (72, (vI (wr .i64 (x157 + 1))))] ?_
                   exact o_end (w138 _ _ (wkm [0, 3, 7, 8, 9] (whk (wh_none (whk wh_nil)))) h)
               · refine c_exit (hE137 _ ?_)
                 exact w119 _ (wkm [0, 3, 7] (whk wh_nil)) h
         · refine c_exit (hE51 _ ?_)
           exact w49 _ (wkm [] wh_nil) h
     · intro N18 w18
       refine s_so fun N19 k19 w19 => ?_
       refine o_r1 [(6, (vI 0))] ?_
       refine s_tm (mkd (.val undef) 91 0 [(0, (vL Form.c a1)), (1, (.agg [(vL Node.c a2.fNodes), (vL Val.c a2.fRoots)])), (3, (.ptr 0 0)), (4, (vI 0)), (5, (vI r12)), (6, (vI 0)), (11, (vL Form.c a1)), (12, (vI r5)), (13, (vI r5)), (14, (vB false)), (16, (.agg [(vL Node.c a2.fNodes), (vL Val.c a2.fRoots)])), (17, (vI r12)), (18, (vI r12)), (19, (vB false))]) ?_
       refine o_end (k19 _ ?_)
       refine c_block fun E20 hE20 hO20 => ?_
       refine W1 (fun (x35 : Int) => ⟨(mkd .any 91 0 [(0, (vL Form.c a1)), (3, (.ptr 0 0)), (6, (vI x35))]), [(some (.box 26 [(vL Node.c a2.fNodes), (vL Val.c a2.fRoots)]))]⟩) (f19_l21 a2 n a1 (f19_k18 n a2 a1)) h (wkm [0, 3, 6] (whk wh_nil)) (by intros; rw [f19_l21.eq_1]) ?_
       intro m21 x35 h N21 w21
       rw [f19_l21.eq_2] at h
       refine s_seq fun N36 k36 w36 => ?_
       refine s_so fun N37 k37 w37 => ?_
       refine o_r3 [(21, (vI x35)), (22, (.ptr 0 0)), (23, (vL Node.c a2.fNodes))] ?_
       refine o_o (one_len (f := Node.c) (l := a2.fNodes)) ?_
       refine o_r1 [(25, (vB (decide (x35 < (len a2.fNodes)))))] ?_
       refine o_end (k37 _ ?_)
       refine i_c [25] h (fun h => ?_) (fun h => ?_)
       · refine c_skip (k36 _ ?_)
         refine s_seq fun N40 k40 w40 => ?_
         refine c_block fun E41 hE41 hO41 => ?_
         refine s_so fun N42 k42 w42 => ?_
         refine o_r4 [(28, (vL Form.c a1)), (29, (.ptr 0 0)), (30, (vL Node.c a2.fNodes)), (31, (vI x35))] ?_
         refine bnd h fun x43 g44 h => ?_
         refine o_o (one_ia (f := Node.c) (ki := .i64) g44) ?_
         refine o_r2 [(33, (.iptr [(vS x43.fClass), (vL Val.c x43.fVals)])), (34, (vS x43.fClass))] ?_
         refine bnd h fun r45 g46 h => ?_
         refine o_o (one_call (p_f55 g46)) ?_
         refine o_r1 [(36, (vB (decide (r45 < 0))))] ?_
         refine o_end (k42 _ ?_)
         refine i_c [36] h (fun h => ?_) (fun h => ?_)
         · refine s_so fun N48 k48 w48 => ?_
           refine o_r1 [(4, (vI 4))] ?_
           refine o_end (w48 _ ⟨(mkd .any 91 0 [(4, (vI 4))]), []⟩ (wkm [4] wh_nil) ?_)
           exact c_ret (rets [] [(vI 4)] [(vI 4)] h)
         · refine c_skip (k40 _ ?_)
           refine c_ops ?_
           refine o_r3 [(6, (vI (wr .i64 (x35 + 1)))), (26, (vI x35)), (27, (vI (wr .i64 (x35 + 1))))] ?_
           exact o_end (w21 _ _ (wkm [0, 3, 6] (whk wh_nil)) h)
       · refine c_exit (hE20 _ ?_)
         exact w18 _ (wkm [0, 3] (whk wh_nil)) h
theorem ic101 : fnIC Try.prog H0 101 = some ([.tmp 2], 4, (.seq (.ops [zO 1 (.box 0 24 [(0, 59, 2, 0)] (.t 0)), zO 2 (.mov (.c .nilFunc))]) (.seq (.ops [zO 3 (.mkf 136 [(.t 1)]), zM 2 3]) .ret))) := by kernel_rfl
def f101 (n : Nat) (a1 : (List Val)) : Option (List Val) := some a1
def f101_r (a1 : (List Val)) (r : (List Val)) : AV := (.fn 136 [(.iptr [(vL Val.c r)])])
theorem p_f101 {n : Nat} {a1 : (List Val)} {r : (List Val)} (h : f101 n a1 = some r) : PureSpec Try.prog 101 [(vL Val.c a1)] (f101_r a1 r) := by
 rw [f101.eq_1] at h
 refine pure_of hmix ic101 ?_
 refine go_to (mkd (.val undef) 4 0 [(0, (vL Val.c a1))]) ?_
 refine s_so fun N2 k2 w2 => ?_
 refine o_h2 [(1, (.ptr 0 0)), (2, (.val .nilFunc))] [(some (.box 24 [(vL Val.c a1)]))] ?_
 refine o_end (k2 _ ?_)
 refine s_so fun N3 k3 w3 => ?_
 refine o_r2 [(2, (.fn 136 [(.ptr 0 0)])), (3, (.fn 136 [(.ptr 0 0)]))] ?_
 refine o_end (k3 _ ?_)
 exact c_ret (rets [0] [(.fn 136 [(.ptr 0 0)])] [(.fn 136 [(.iptr [(vL Val.c a1)])])] h)
theorem ic100 : fnIC Try.prog H0 100 = some ([], 26, (.seq (.ops [zM 7 0, zO 8 (.call 101 [(.t 7)])]) (.block 0 (.rfun (.t 8) [9] [(4, 9)] (.block 1 (.seq (.ops [zO 11 (.ld (.t 1) 1 false), zM 12 4, zO 13 (.lku (some .i64) true (.int .i64 0) (.t 11) (.t 12)), zM 10 13, zO 14 (.ext (.t 10) 0), zO 15 (.ext (.t 10) 1), zM 5 14, zM 6 15]) (.seq (.ops [zM 16 6, zO 17 (.sc (.un .not) [(.t 16)])]) (.cond (.t 17)
  (.seq (.ops [zO 18 (.ld (.t 1) 1 false), zM 19 4, zO 20 (.ld (.t 2) 1 false), zO 21 (.len false (.t 20)), zU (.mup (some .i64) (.t 18) (.t 19) (.t 21))]) (.ops [zO 22 (.ld (.t 2) 1 false), zM 23 4, zO 24 (.isl 1 [(.t 23)]), zO 25 (.app 0 3 1 8 (.t 22) (.t 24)), zU (.st true 1 [(0, 3, 1, 0)] (.t 2) (.t 25))]))
  .skip)))))))) := by kernel_rfl
def f100_b13 (y14 : Int) (v : (List (Int × Int)) × (List Int)) : Option ((List (Int × Int)) × (List Int)) := (bif (!(Option.isSome (mget y14 v.1))) then ((app2 v.2 [y14]).bind fun l35 => some ((mset y14 (len v.2) v.1), l35)) else some (v.1, v.2))
theorem f100_b13_t (y : Int) (v : List (Int × Int) × List Int) (h : List.length v.2 < 1000000000) : ∃ v', f100_b13 y v = some v' ∧ List.length v'.2 ≤ List.length v.2 + 1 := by
  unfold f100_b13
  cases hc : (!(Option.isSome (mget y v.1))) with
  | false => exact ⟨_, rfl, by simp⟩
  | true =>
    rw [app2_eq (by simp; omega)]
    exact ⟨_, rfl, by simp⟩
def f100_k37 (x25 : (List (Int × Int))) (x26 : (List Int)) : Option ((List (Int × Int)) × (List Int)) := some (x25, x26)
def f100 (n : Nat) (a1 : (List Node)) (a2 : (List Val)) (a3 : (List Int)) (a4 : (List (Int × Int))) (a5 : (List Int)) (a6 : (List Node)) (a7 : (List Val)) (a8 : (List Val)) : Option ((List (Int × Int)) × (List Int)) := ((f101 n a8).bind fun r10 => (bif Nat.ble ((fun (v : (List (Int × Int)) × (List Int)) => List.length v.2) (a4, a5) + List.length (refsOf r10)) 1000000000 then (foldB (f100_b13) (refsOf r10) (a4, a5)).bind (fun (w : (List (Int × Int)) × (List Int)) => (f100_k37 w.1 w.2)) else none))
def f100_r (a1 : (List Node)) (a2 : (List Val)) (a3 : (List Int)) (a4 : (List (Int × Int))) (a5 : (List Int)) (a6 : (List Node)) (a7 : (List Val)) (a8 : (List Val)) (r : ((List (Int × Int)) × (List Int))) : AV := .tup []
def f100_h (a1 : (List Node)) (a2 : (List Val)) (a3 : (List Int)) (a4 : (List (Int × Int))) (a5 : (List Int)) (a6 : (List Node)) (a7 : (List Val)) (a8 : (List Val)) (r : ((List (Int × Int)) × (List Int))) : Heap := [(some (.box 26 [(vL Node.c a6), (vL Val.c a7)])), (some (.row 57 2 (List.map Node.c a1))), (some (.row 59 2 (List.map Val.c a2))), (some (.box 26 [(.own 1 (List.length a1)), (.own 2 (List.length a2))])), (some (.row 3 1 (List.map cI a3))), (some (.map (List.map (fun (p : (Int × Int)) => (Value.int .i64 p.1, Value.int .i64 p.2)) r.1))), (some (.box 148 [(.mp 5)])), (some (.row 3 1 (List.map cI r.2))), (some (.box 46 [(.own 7 (List.length r.2))]))]
theorem q_f100 {n : Nat} {a1 : (List Node)} {a2 : (List Val)} {a3 : (List Int)} {a4 : (List (Int × Int))} {a5 : (List Int)} {a6 : (List Node)} {a7 : (List Val)} {a8 : (List Val)} {r : ((List (Int × Int)) × (List Int))} (h : f100 n a1 a2 a3 a4 a5 a6 a7 a8 = some r) : HSpec Try.prog 100 [(vL Val.c a8), (.ptr 6 0), (.ptr 8 0)] [(some (.box 26 [(vL Node.c a6), (vL Val.c a7)])), (some (.row 57 2 (List.map Node.c a1))), (some (.row 59 2 (List.map Val.c a2))), (some (.box 26 [(.own 1 (List.length a1)), (.own 2 (List.length a2))])), (some (.row 3 1 (List.map cI a3))), (some (.map (List.map (fun (p : (Int × Int)) => (Value.int .i64 p.1, Value.int .i64 p.2)) a4))), (some (.box 148 [(.mp 5)])), (some (.row 3 1 (List.map cI a5))), (some (.box 46 [(.own 7 (List.length a5))]))] (f100_r a1 a2 a3 a4 a5 a6 a7 a8 r) (f100_h a1 a2 a3 a4 a5 a6 a7 a8 r) := by
 rw [f100.eq_1] at h
 refine heap_of hmix ic100 ?_
 refine go_to (mkd (.val undef) 26 0 [(0, (vL Val.c a8)), (1, (.ptr 6 0)), (2, (.ptr 8 0))]) ?_
 refine s_so fun N9 k9 w9 => ?_
 refine o_r1 [(7, (vL Val.c a8))] ?_
 refine bnd h fun r10 g11 h => ?_
 refine o_o (one_call (p_f101 g11)) ?_
 refine o_end (k9 _ ?_)
 refine c_block fun E12 hE12 hO12 => ?_
 refine rf (caps := [(.iptr [(vL Val.c r10)])]) (fun (v : (List (Int × Int)) × (List Int)) => [(some (.box 26 [(vL Node.c a6), (vL Val.c a7)])), (some (.row 57 2 (List.map Node.c a1))), (some (.row 59 2 (List.map Val.c a2))), (some (.box 26 [(.own 1 (List.length a1)), (.own 2 (List.length a2))])), (some (.row 3 1 (List.map cI a3))), (some (.map (List.map (fun (p : (Int × Int)) => (Value.int .i64 p.1, Value.int .i64 p.2)) v.1))), (some (.box 148 [(.mp 5)])), (some (.row 3 1 (List.map cI v.2))), (some (.box 46 [(.own 7 (List.length v.2))]))]) (f100_b13) (fun (v : (List (Int × Int)) × (List Int)) => List.length v.2) 1000000000 (refsOf r10) cI (a4, a5) (fun (w : (List (Int × Int)) × (List Int)) => (f100_k37 w.1 w.2)) h (iter136 r10) ⟨fz_i, trivial⟩ (fun _ => ⟨rfl, fun a ha => by cases ha with | head => rfl | tail _ h => cases h⟩) (by intro a b hab; cases hab; rfl) (fun x => ⟨rfl, lowB_ok (by kernel_rfl)⟩) f100_b13_t ?_ ?_
 · intro y14 v v2 h R13 E13 N13 w13
   obtain ⟨x25, x26⟩ := v
   rw [f100_b13.eq_1] at h
   refine c_block fun E27 hE27 hO27 => ?_
   refine s_so fun N28 k28 w28 => ?_
   refine o_r2 [(11, (.mp 5)), (12, (vI y14))] ?_
   refine o_o (one_lukOk (ek := Value.int .i64) (ev := Value.int .i64) (l := x25) (o := 5) (k := y14) (z := 0) (key_int _)) ?_
   refine o_r5 [(5, (vI ((mget y14 x25).getD 0))), (6, (vB (Option.isSome (mget y14 x25)))), (10, (.tup [(vI ((mget y14 x25).getD 0)), (vB (Option.isSome (mget y14 x25)))])), (14, (vI ((mget y14 x25).getD 0))), (15, (vB (Option.isSome (mget y14 x25))))] ?_
   refine o_end (k28 _ ?_)
   refine s_so fun N30 k30 w30 => ?_
   refine o_r2 [(16, (vB (Option.isSome (mget y14 x25)))), (17, (vB (!(Option.isSome (mget y14 x25)))))] ?_
   refine o_end (k30 _ ?_)
   refine i_c [17] h (fun h => ?_) (fun h => ?_)
   · refine s_so fun N32 k32 w32 => ?_
     refine o_r3 [(18, (.mp 5)), (19, (vI y14)), (20, (.own 7 (List.length x26)))] ?_
     refine o_o (one_lenO (f := cI) (l := x26) (o := 7) (t := 3) (sz := 1)) ?_
     refine o_x [(some (.box 26 [(vL Node.c a6), (vL Val.c a7)])), (some (.row 57 2 (List.map Node.c a1))), (some (.row 59 2 (List.map Val.c a2))), (some (.box 26 [(.own 1 (List.length a1)), (.own 2 (List.length a2))])), (some (.row 3 1 (List.map cI a3))), (some (.map (List.map (fun (p : (Int × Int)) => (Value.int .i64 p.1, Value.int .i64 p.2)) (mset y14 (len x26) x25)))), (some (.box 148 [(.mp 5)])), (some (.row 3 1 (List.map cI x26))), (some (.box 46 [(.own 7 (List.length x26))]))] (one_mup (ek := Value.int .i64) (ev := Value.int .i64) (l := x25) (o := 5) (k := y14) (v := (len x26)) (key_int _) (fun _ => rfl)) ?_
     refine o_end (w32 _ ⟨(mkd .any 26 0 [(2, (.ptr 8 0)), (4, (vI y14))]), [(some (.box 26 [(vL Node.c a6), (vL Val.c a7)])), (some (.row 57 2 (List.map Node.c a1))), (some (.row 59 2 (List.map Val.c a2))), (some (.box 26 [(.own 1 (List.length a1)), (.own 2 (List.length a2))])), (some (.row 3 1 (List.map cI a3))), (some (.map (List.map (fun (p : (Int × Int)) => (Value.int .i64 p.1, Value.int .i64 p.2)) (mset y14 (len x26) x25)))), (some (.box 148 [(.mp 5)])), (some (.row 3 1 (List.map cI x26))), (some (.box 46 [(.own 7 (List.length x26))]))]⟩ (wkm [2, 4] (whk (wh_keep (row_below Node.p _ _ _ _) (wh_keep (row_below Val.p _ _ _ _) (whk (wh_keep (row_below cK_p _ _ _ _) (whk (whk (wh_keep (row_below cK_p _ _ _ _) (whk wh_nil)))))))))) ?_)
     refine c_ops ?_
     refine o_r3 [(22, (.own 7 (List.length x26))), (23, (vI y14)), (24, (vL cI [y14]))] ?_
     refine bnd h fun l35 g36 h => ?_
     refine o_x [(some (.box 26 [(vL Node.c a6), (vL Val.c a7)])), (some (.row 57 2 (List.map Node.c a1))), (some (.row 59 2 (List.map Val.c a2))), (some (.box 26 [(.own 1 (List.length a1)), (.own 2 (List.length a2))])), (some (.row 3 1 (List.map cI a3))), (some (.map (List.map (fun (p : (Int × Int)) => (Value.int .i64 p.1, Value.int .i64 p.2)) (mset y14 (len x26) x25)))), (some (.box 148 [(.mp 5)])), (some (.row 3 1 (List.map cI l35))), (some (.box 46 [(.own 7 (List.length x26))]))] (one_app (f := cI) (o := 7) g36 (fun _ => ⟨rfl, rfl⟩)) ?_
     refine o_h1 [] [(some (.box 26 [(vL Node.c a6), (vL Val.c a7)])), (some (.row 57 2 (List.map Node.c a1))), (some (.row 59 2 (List.map Val.c a2))), (some (.box 26 [(.own 1 (List.length a1)), (.own 2 (List.length a2))])), (some (.row 3 1 (List.map cI a3))), (some (.map (List.map (fun (p : (Int × Int)) => (Value.int .i64 p.1, Value.int .i64 p.2)) (mset y14 (len x26) x25)))), (some (.box 148 [(.mp 5)])), (some (.row 3 1 (List.map cI l35))), (some (.box 46 [(.own 7 (List.length l35))]))] ?_
     refine o_end ?_
     cases h
     exact w13 _ ⟨rfl, (whk (wh_keep (row_below Node.p _ _ _ _) (wh_keep (row_below Val.p _ _ _ _) (whk (wh_keep (row_below cK_p _ _ _ _) (whk (whk (wh_keep (row_below cK_p _ _ _ _) (whk wh_nil)))))))))⟩
   · refine c_skip ?_
     cases h
     exact w13 _ ⟨rfl, (whk (wh_keep (row_below Node.p _ _ _ _) (wh_keep (row_below Val.p _ _ _ _) (whk (wh_keep (row_below cK_p _ _ _ _) (whk (whk (wh_keep (row_below cK_p _ _ _ _) (whk wh_nil)))))))))⟩
 · intro v h
   obtain ⟨x25, x26⟩ := v
   replace h : (f100_k37 x25 x26) = some r := h
   rw [f100_k37.eq_1] at h
   show (_ : St → Prop) (St.mk _ [(some (.box 26 [(vL Node.c a6), (vL Val.c a7)])), (some (.row 57 2 (List.map Node.c a1))), (some (.row 59 2 (List.map Val.c a2))), (some (.box 26 [(.own 1 (List.length a1)), (.own 2 (List.length a2))])), (some (.row 3 1 (List.map cI a3))), (some (.map (List.map (fun (p : (Int × Int)) => (Value.int .i64 p.1, Value.int .i64 p.2)) x25))), (some (.box 148 [(.mp 5)])), (some (.row 3 1 (List.map cI x26))), (some (.box 46 [(.own 7 (List.length x26))]))])
   exact retsH [] [] h (wkm [] (whk (wh_keep (row_below Node.p _ _ _ _) (wh_keep (row_below Val.p _ _ _ _) (whk (wh_keep (row_below cK_p _ _ _ _) (whk (whk (wh_keep (row_below cK_p _ _ _ _) (whk wh_nil))))))))))
def f100_b_b12 (y13 : Int) (v : (List (Int × Int)) × (List Int)) : Option ((List (Int × Int)) × (List Int)) := (bif (!(Option.isSome (mget y13 v.1))) then ((app2 v.2 [y13]).bind fun l34 => some ((mset y13 (len v.2) v.1), l34)) else some (v.1, v.2))
theorem f100_b_b12_t (y : Int) (v : List (Int × Int) × List Int) (h : List.length v.2 < 1000000000) : ∃ v', f100_b_b12 y v = some v' ∧ List.length v'.2 ≤ List.length v.2 + 1 := by
  unfold f100_b_b12
  cases hc : (!(Option.isSome (mget y v.1))) with
  | false => exact ⟨_, rfl, by simp⟩
  | true =>
    rw [app2_eq (by simp; omega)]
    exact ⟨_, rfl, by simp⟩
def f100_b_k36 (x24 : (List (Int × Int))) (x25 : (List Int)) : Option ((List (Int × Int)) × (List Int)) := some (x24, x25)
def f100_b (n : Nat) (a1 : (List Node)) (a2 : (List Val)) (a3 : (List (Int × Int))) (a4 : (List Int)) (a5 : (List Node)) (a6 : (List Val)) (a7 : (List Val)) : Option ((List (Int × Int)) × (List Int)) := ((f101 n a7).bind fun r9 => (bif Nat.ble ((fun (v : (List (Int × Int)) × (List Int)) => List.length v.2) (a3, a4) + List.length (refsOf r9)) 1000000000 then (foldB (f100_b_b12) (refsOf r9) (a3, a4)).bind (fun (w : (List (Int × Int)) × (List Int)) => (f100_b_k36 w.1 w.2)) else none))
def f100_b_r (a1 : (List Node)) (a2 : (List Val)) (a3 : (List (Int × Int))) (a4 : (List Int)) (a5 : (List Node)) (a6 : (List Val)) (a7 : (List Val)) (r : ((List (Int × Int)) × (List Int))) : AV := .tup []
def f100_b_h (a1 : (List Node)) (a2 : (List Val)) (a3 : (List (Int × Int))) (a4 : (List Int)) (a5 : (List Node)) (a6 : (List Val)) (a7 : (List Val)) (r : ((List (Int × Int)) × (List Int))) : Heap := [(some (.box 26 [(vL Node.c a5), (vL Val.c a6)])), (some (.row 57 2 (List.map Node.c a1))), (some (.row 59 2 (List.map Val.c a2))), (some (.box 26 [(.own 1 (List.length a1)), (.own 2 (List.length a2))])), none, (some (.map (List.map (fun (p : (Int × Int)) => (Value.int .i64 p.1, Value.int .i64 p.2)) r.1))), (some (.box 148 [(.mp 5)])), (some (.row 3 1 (List.map cI r.2))), (some (.box 46 [(.own 7 (List.length r.2))]))]
theorem q_f100_b {n : Nat} {a1 : (List Node)} {a2 : (List Val)} {a3 : (List (Int × Int))} {a4 : (List Int)} {a5 : (List Node)} {a6 : (List Val)} {a7 : (List Val)} {r : ((List (Int × Int)) × (List Int))} (h : f100_b n a1 a2 a3 a4 a5 a6 a7 = some r) : HSpec Try.prog 100 [(vL Val.c a7), (.ptr 6 0), (.ptr 8 0)] [(some (.box 26 [(vL Node.c a5), (vL Val.c a6)])), (some (.row 57 2 (List.map Node.c a1))), (some (.row 59 2 (List.map Val.c a2))), (some (.box 26 [(.own 1 (List.length a1)), (.own 2 (List.length a2))])), none, (some (.map (List.map (fun (p : (Int × Int)) => (Value.int .i64 p.1, Value.int .i64 p.2)) a3))), (some (.box 148 [(.mp 5)])), (some (.row 3 1 (List.map cI a4))), (some (.box 46 [(.own 7 (List.length a4))]))] (f100_b_r a1 a2 a3 a4 a5 a6 a7 r) (f100_b_h a1 a2 a3 a4 a5 a6 a7 r) := by
 rw [f100_b.eq_1] at h
 refine heap_of hmix ic100 ?_
 refine go_to (mkd (.val undef) 26 0 [(0, (vL Val.c a7)), (1, (.ptr 6 0)), (2, (.ptr 8 0))]) ?_
 refine s_so fun N8 k8 w8 => ?_
 refine o_r1 [(7, (vL Val.c a7))] ?_
 refine bnd h fun r9 g10 h => ?_
 refine o_o (one_call (p_f101 g10)) ?_
 refine o_end (k8 _ ?_)
 refine c_block fun E11 hE11 hO11 => ?_
 refine rf (caps := [(.iptr [(vL Val.c r9)])]) (fun (v : (List (Int × Int)) × (List Int)) => [(some (.box 26 [(vL Node.c a5), (vL Val.c a6)])), (some (.row 57 2 (List.map Node.c a1))), (some (.row 59 2 (List.map Val.c a2))), (some (.box 26 [(.own 1 (List.length a1)), (.own 2 (List.length a2))])), none, (some (.map (List.map (fun (p : (Int × Int)) => (Value.int .i64 p.1, Value.int .i64 p.2)) v.1))), (some (.box 148 [(.mp 5)])), (some (.row 3 1 (List.map cI v.2))), (some (.box 46 [(.own 7 (List.length v.2))]))]) (f100_b_b12) (fun (v : (List (Int × Int)) × (List Int)) => List.length v.2) 1000000000 (refsOf r9) cI (a3, a4) (fun (w : (List (Int × Int)) × (List Int)) => (f100_b_k36 w.1 w.2)) h (iter136 r9) ⟨fz_i, trivial⟩ (fun _ => ⟨rfl, fun a ha => by cases ha with | head => rfl | tail _ h => cases h⟩) (by intro a b hab; cases hab; rfl) (fun x => ⟨rfl, lowB_ok (by kernel_rfl)⟩) f100_b_b12_t ?_ ?_
 · intro y13 v v2 h R12 E12 N12 w12
   obtain ⟨x24, x25⟩ := v
   rw [f100_b_b12.eq_1] at h
   refine c_block fun E26 hE26 hO26 => ?_
   refine s_so fun N27 k27 w27 => ?_
   refine o_r2 [(11, (.mp 5)), (12, (vI y13))] ?_
   refine o_o (one_lukOk (ek := Value.int .i64) (ev := Value.int .i64) (l := x24) (o := 5) (k := y13) (z := 0) (key_int _)) ?_
   refine o_r5 [(5, (vI ((mget y13 x24).getD 0))), (6, (vB (Option.isSome (mget y13 x24)))), (10, (.tup [(vI ((mget y13 x24).getD 0)), (vB (Option.isSome (mget y13 x24)))])), (14, (vI ((mget y13 x24).getD 0))), (15, (vB (Option.isSome (mget y13 x24))))] ?_
   refine o_end (k27 _ ?_)
   refine s_so fun N29 k29 w29 => ?_
   refine o_r2 [(16, (vB (Option.isSome (mget y13 x24)))), (17, (vB (!(Option.isSome (mget y13 x24)))))] ?_
   refine o_end (k29 _ ?_)
   refine i_c [17] h (fun h => ?_) (fun h => ?_)
   · refine s_so fun N31 k31 w31 => ?_
     refine o_r3 [(18, (.mp 5)), (19, (vI y13)), (20, (.own 7 (List.length x25)))] ?_
     refine o_o (one_lenO (f := cI) (l := x25) (o := 7) (t := 3) (sz := 1)) ?_
     refine o_x [(some (.box 26 [(vL Node.c a5), (vL Val.c a6)])), (some (.row 57 2 (List.map Node.c a1))), (some (.row 59 2 (List.map Val.c a2))), (some (.box 26 [(.own 1 (List.length a1)), (.own 2 (List.length a2))])), none, (some (.map (List.map (fun (p : (Int × Int)) => (Value.int .i64 p.1, Value.int .i64 p.2)) (mset y13 (len x25) x24)))), (some (.box 148 [(.mp 5)])), (some (.row 3 1 (List.map cI x25))), (some (.box 46 [(.own 7 (List.length x25))]))] (one_mup (ek := Value.int .i64) (ev := Value.int .i64) (l := x24) (o := 5) (k := y13) (v := (len x25)) (key_int _) (fun _ => rfl)) ?_
     refine o_end (w31 _ ⟨(mkd .any 26 0 [(2, (.ptr 8 0)), (4, (vI y13))]), [(some (.box 26 [(vL Node.c a5), (vL Val.c a6)])), (some (.row 57 2 (List.map Node.c a1))), (some (.row 59 2 (List.map Val.c a2))), (some (.box 26 [(.own 1 (List.length a1)), (.own 2 (List.length a2))])), none, (some (.map (List.map (fun (p : (Int × Int)) => (Value.int .i64 p.1, Value.int .i64 p.2)) (mset y13 (len x25) x24)))), (some (.box 148 [(.mp 5)])), (some (.row 3 1 (List.map cI x25))), (some (.box 46 [(.own 7 (List.length x25))]))]⟩ (wkm [2, 4] (whk (wh_keep (row_below Node.p _ _ _ _) (wh_keep (row_below Val.p _ _ _ _) (whk (wh_none (whk (whk (wh_keep (row_below cK_p _ _ _ _) (whk wh_nil)))))))))) ?_)
     refine c_ops ?_
     refine o_r3 [(22, (.own 7 (List.length x25))), (23, (vI y13)), (24, (vL cI [y13]))] ?_
     refine bnd h fun l34 g35 h => ?_
     refine o_x [(some (.box 26 [(vL Node.c a5), (vL Val.c a6)])), (some (.row 57 2 (List.map Node.c a1))), (some (.row 59 2 (List.map Val.c a2))), (some (.box 26 [(.own 1 (List.length a1)), (.own 2 (List.length a2))])), none, (some (.map (List.map (fun (p : (Int × Int)) => (Value.int .i64 p.1, Value.int .i64 p.2)) (mset y13 (len x25) x24)))), (some (.box 148 [(.mp 5)])), (some (.row 3 1 (List.map cI l34))), (some (.box 46 [(.own 7 (List.length x25))]))] (one_app (f := cI) (o := 7) g35 (fun _ => ⟨rfl, rfl⟩)) ?_
     refine o_h1 [] [(some (.box 26 [(vL Node.c a5), (vL Val.c a6)])), (some (.row 57 2 (List.map Node.c a1))), (some (.row 59 2 (List.map Val.c a2))), (some (.box 26 [(.own 1 (List.length a1)), (.own 2 (List.length a2))])), none, (some (.map (List.map (fun (p : (Int × Int)) => (Value.int .i64 p.1, Value.int .i64 p.2)) (mset y13 (len x25) x24)))), (some (.box 148 [(.mp 5)])), (some (.row 3 1 (List.map cI l34))), (some (.box 46 [(.own 7 (List.length l34))]))] ?_
     refine o_end ?_
     cases h
     exact w12 _ ⟨rfl, (whk (wh_keep (row_below Node.p _ _ _ _) (wh_keep (row_below Val.p _ _ _ _) (whk (wh_none (whk (whk (wh_keep (row_below cK_p _ _ _ _) (whk wh_nil)))))))))⟩
   · refine c_skip ?_
     cases h
     exact w12 _ ⟨rfl, (whk (wh_keep (row_below Node.p _ _ _ _) (wh_keep (row_below Val.p _ _ _ _) (whk (wh_none (whk (whk (wh_keep (row_below cK_p _ _ _ _) (whk wh_nil)))))))))⟩
 · intro v h
   obtain ⟨x24, x25⟩ := v
   replace h : (f100_b_k36 x24 x25) = some r := h
   rw [f100_b_k36.eq_1] at h
   show (_ : St → Prop) (St.mk _ [(some (.box 26 [(vL Node.c a5), (vL Val.c a6)])), (some (.row 57 2 (List.map Node.c a1))), (some (.row 59 2 (List.map Val.c a2))), (some (.box 26 [(.own 1 (List.length a1)), (.own 2 (List.length a2))])), none, (some (.map (List.map (fun (p : (Int × Int)) => (Value.int .i64 p.1, Value.int .i64 p.2)) x24))), (some (.box 148 [(.mp 5)])), (some (.row 3 1 (List.map cI x25))), (some (.box 46 [(.own 7 (List.length x25))]))])
   exact retsH [] [] h (wkm [] (whk (wh_keep (row_below Node.p _ _ _ _) (wh_keep (row_below Val.p _ _ _ _) (whk (wh_none (whk (whk (wh_keep (row_below cK_p _ _ _ _) (whk wh_nil))))))))))
theorem ic77 : fnIC Try.prog H77 77 = some ([.tmp 2], 8, (.seq (.ops [zO 2 (.nil 0 59 2)]) (.seq (.seq (.ops [zM 3 0, zO 4 (.isn (.t 3))]) (.cond (.t 4)
  (.seq (.ops [zO 2 (.nil 0 59 2)]) .ret)
  .skip)) (.seq (.ops [zO 5 (.bsl 0 true 59 2 []), zM 6 0, zO 7 (.app 0 59 2 16 (.t 5) (.t 6)), zM 2 7]) .ret)))) := by kernel_rfl
theorem ic102 : fnIC Try.prog H0 102 = some ([.tmp 3], 29, (.seq (.ops [zO 3 (.nil 0 59 2)]) (.seq (.ops [zM 7 0, zO 8 (.callv (.f 77) [(.t 7)]), zM 4 8]) (.seq (.seq (.ops [zM 9 4, zO 10 (.len false (.t 9)), zO 11 (.mov (.c (.int .i64 0)))]) (.block 0 (.loop (.seq (.ops [zO 12 (.sc (.bin .lss 3) [(.t 11), (.t 10)])]) (.seq (.cond (.t 12)
  .skip
  (.exit 0)) (.seq (.block 1 (.seq (.ops [zM 13 11, zO 14 (.iaddr 2 (.t 9) (.t 11)), zO 15 (.ld (.t 14) 2 true), zO 6 (.alloc 0 59 [] [(.int .i64 0), (.int .i64 0)]), zM 5 13, zU (.st true 2 [] (.t 6) (.t 15))]) (.seq (.ops [zO 16 (.faddr (.t 6) 0), zO 17 (.ld (.t 16) 1 false), zO 18 (.sc (.bin .eql 3) [(.t 17), (.c (.int .i64 4))])]) (.cond (.t 18)
  (.ops [zM 19 4, zM 20 5, zO 21 (.ld (.t 1) 1 false), zO 22 (.faddr (.t 6) 1), zO 23 (.ld (.t 22) 1 false), zO 24 (.lku (some .i64) false (.int .i64 0) (.t 21) (.t 23)), zO 25 (.iaddr 2 (.t 19) (.t 20)), zO 26 (.faddr (.t 25) 1), zU (.st true 1 [] (.t 26) (.t 24))])
  .skip)))) (.ops [zO 27 (.sc (.bin .add 3) [(.t 11), (.c (.int .i64 1))]), zM 11 27]))))))) (.seq (.ops [zM 28 4, zM 3 28]) .ret))))) := by kernel_rfl
def f102_k41 (x36 : Int) (c16k : Int → (List Val) → Option (List Val)) (x56 : (List Val)) : Option (List Val) := (c16k (wr .i64 (x36 + 1)) x56)
def f102_k12 (x57 : (List Val)) : Option (List Val) := some x57
def f102_l16 (l10 : (List Val)) (a3 : (List (Int × Int))) (k12k : (List Val) → Option (List Val)) : Nat → Int → (List Val) → Option (List Val)
  | 0, _, _ => none
  | m16 + 1, x36, x37 => (bif (decide (x36 < (len l10))) then ((gi x37 x36).bind fun x44 => ((gi x37 x36).bind fun x46 => (bif (x46.fKind == 4) then ((gi x37 x36).bind fun x51 => ((gi x37 x36).bind fun x54 => (f102_k41 x36 (f102_l16 l10 a3 (k12k) m16) (setI x37 x36 (Val.mk x54.fKind ((mget x46.fN a3).getD 0)))))) else (f102_k41 x36 (f102_l16 l10 a3 (k12k) m16) x37)))) else (k12k x37))
def f102 (n : Nat) (a1 : (List Node)) (a2 : (List Val)) (a3 : (List (Int × Int))) (a4 : (List Int)) (a5 : (List Node)) (a6 : (List Val)) (a7 : (List Val)) : Option (List Val) := ((app2 [] a7).bind fun l10 => (f102_l16 l10 a3 (f102_k12) n 0 l10))
def f102_r (a1 : (List Node)) (a2 : (List Val)) (a3 : (List (Int × Int))) (a4 : (List Int)) (a5 : (List Node)) (a6 : (List Val)) (a7 : (List Val)) (r : (List Val)) : AV := (.own 11 (List.length r))
def f102_h (a1 : (List Node)) (a2 : (List Val)) (a3 : (List (Int × Int))) (a4 : (List Int)) (a5 : (List Node)) (a6 : (List Val)) (a7 : (List Val)) (r : (List Val)) : Heap := [(some (.box 26 [(vL Node.c a5), (vL Val.c a6)])), (some (.row 57 2 (List.map Node.c a1))), (some (.row 59 2 (List.map Val.c a2))), (some (.box 26 [(.own 1 (List.length a1)), (.own 2 (List.length a2))])), none, (some (.map (List.map (fun (p : (Int × Int)) => (Value.int .i64 p.1, Value.int .i64 p.2)) a3))), (some (.box 148 [(.mp 5)])), (some (.row 3 1 (List.map cI a4))), (some (.box 46 [(.own 7 (List.length a4))])), none, none, (some (.row 59 2 (List.map Val.c r)))]
theorem q_f102 {n : Nat} {a1 : (List Node)} {a2 : (List Val)} {a3 : (List (Int × Int))} {a4 : (List Int)} {a5 : (List Node)} {a6 : (List Val)} {a7 : (List Val)} {r : (List Val)} (h : f102 n a1 a2 a3 a4 a5 a6 a7 = some r) : HSpec Try.prog 102 [(vL Val.c a7), (.ptr 6 0)] [(some (.box 26 [(vL Node.c a5), (vL Val.c a6)])), (some (.row 57 2 (List.map Node.c a1))), (some (.row 59 2 (List.map Val.c a2))), (some (.box 26 [(.own 1 (List.length a1)), (.own 2 (List.length a2))])), none, (some (.map (List.map (fun (p : (Int × Int)) => (Value.int .i64 p.1, Value.int .i64 p.2)) a3))), (some (.box 148 [(.mp 5)])), (some (.row 3 1 (List.map cI a4))), (some (.box 46 [(.own 7 (List.length a4))]))] (f102_r a1 a2 a3 a4 a5 a6 a7 r) (f102_h a1 a2 a3 a4 a5 a6 a7 r) := by
 rw [f102.eq_1] at h
 refine heap_of hmix ic102 ?_
 refine go_to (mkd (.val undef) 29 0 [(0, (vL Val.c a7)), (1, (.ptr 6 0))]) ?_
 refine s_so fun N8 k8 w8 => ?_
 refine o_h1 [(3, (.own 9 0))] [(some (.box 26 [(vL Node.c a5), (vL Val.c a6)])), (some (.row 57 2 (List.map Node.c a1))), (some (.row 59 2 (List.map Val.c a2))), (some (.box 26 [(.own 1 (List.length a1)), (.own 2 (List.length a2))])), none, (some (.map (List.map (fun (p : (Int × Int)) => (Value.int .i64 p.1, Value.int .i64 p.2)) a3))), (some (.box 148 [(.mp 5)])), (some (.row 3 1 (List.map cI a4))), (some (.box 46 [(.own 7 (List.length a4))])), (some (.row 59 2 (List.map Val.c [])))] ?_
 refine o_end (k8 _ ?_)
 refine s_so fun N9 k9 w9 => ?_
 refine o_r1 [(7, (vL Val.c a7))] ?_
 refine bnd h fun l10 g11 h => ?_
 refine o_x [(some (.box 26 [(vL Node.c a5), (vL Val.c a6)])), (some (.row 57 2 (List.map Node.c a1))), (some (.row 59 2 (List.map Val.c a2))), (some (.box 26 [(.own 1 (List.length a1)), (.own 2 (List.length a2))])), none, (some (.map (List.map (fun (p : (Int × Int)) => (Value.int .i64 p.1, Value.int .i64 p.2)) a3))), (some (.box 148 [(.mp 5)])), (some (.row 3 1 (List.map cI a4))), (some (.box 46 [(.own 7 (List.length a4))])), (some (.row 59 2 (List.map Val.c []))), none, (some (.row 59 2 (List.map Val.c l10)))] (one_callH (caps := []) (clone_spec (g := Val.c) hmix [(some (.box 26 [(vL Node.c a5), (vL Val.c a6)])), (some (.row 57 2 (List.map Node.c a1))), (some (.row 59 2 (List.map Val.c a2))), (some (.box 26 [(.own 1 (List.length a1)), (.own 2 (List.length a2))])), none, (some (.map (List.map (fun (p : (Int × Int)) => (Value.int .i64 p.1, Value.int .i64 p.2)) a3))), (some (.box 148 [(.mp 5)])), (some (.row 3 1 (List.map cI a4))), (some (.box 46 [(.own 7 (List.length a4))])), (some (.row 59 2 (List.map Val.c [])))] ic77 g11 (fun _ => ⟨rfl, rfl⟩) Val.p (by kernel_rfl) (whk (wh_keep (row_below Node.p _ _ _ _) (wh_keep (row_below Val.p _ _ _ _) (whk (wh_none (whk (whk (wh_keep (row_below cK_p _ _ _ _) (whk (wh_keep (row_below Val.p _ _ _ _) wh_nil)))))))))))) ?_
 refine o_r1 [(4, (.own 11 (List.length l10)))] ?_
 refine o_end (k9 _ ?_)
 refine J1 (r := r) (fun (x57 : (List Val)) => ⟨(mkd .any 29 0 [(4, (.own 11 (List.length x57)))]), [(some (.box 26 [(vL Node.c a5), (vL Val.c a6)])), (some (.row 57 2 (List.map Node.c a1))), (some (.row 59 2 (List.map Val.c a2))), (some (.box 26 [(.own 1 (List.length a1)), (.own 2 (List.length a2))])), none, (some (.map (List.map (fun (p : (Int × Int)) => (Value.int .i64 p.1, Value.int .i64 p.2)) a3))), (some (.box 148 [(.mp 5)])), (some (.row 3 1 (List.map cI a4))), (some (.box 46 [(.own 7 (List.length a4))])), none, none, (some (.row 59 2 (List.map Val.c x57)))]⟩) (f102_k12) ?_ ?_
 · intro x57 h
   rw [f102_k12.eq_1] at h
   refine s_so fun N58 k58 w58 => ?_
   refine o_r2 [(3, (.own 11 (List.length x57))), (28, (.own 11 (List.length x57)))] ?_
   refine o_end (k58 _ ?_)
   exact c_ret (retsH [(.own 11 (List.length x57))] [(.own 11 (List.length x57))] h (wkm [0] (whk (wh_keep (row_below Node.p _ _ _ _) (wh_keep (row_below Val.p _ _ _ _) (whk (wh_none (whk (whk (wh_keep (row_below cK_p _ _ _ _) (whk (wh_none (wh_none (wh_keep (row_below Val.p _ _ _ _) wh_nil))))))))))))))
 · intro N12 w12
   refine s_so fun N13 k13 w13 => ?_
   refine o_r1 [(9, (.own 11 (List.length l10)))] ?_
   refine o_o (one_lenO (f := Val.c) (l := l10) (o := 11) (t := 59) (sz := 2)) ?_
   refine o_r1 [(11, (vI 0))] ?_
   refine o_end (k13 _ ?_)
   refine c_block fun E15 hE15 hO15 => ?_
   refine W2 (fun (x36 : Int) (x37 : (List Val)) => ⟨(mkd .any 29 0 [(1, (.ptr 6 0)), (4, (.own 11 (List.length x37))), (9, (.own 11 (List.length x37))), (10, (vI (len l10))), (11, (vI x36))]), [(some (.box 26 [(vL Node.c a5), (vL Val.c a6)])), (some (.row 57 2 (List.map Node.c a1))), (some (.row 59 2 (List.map Val.c a2))), (some (.box 26 [(.own 1 (List.length a1)), (.own 2 (List.length a2))])), none, (some (.map (List.map (fun (p : (Int × Int)) => (Value.int .i64 p.1, Value.int .i64 p.2)) a3))), (some (.box 148 [(.mp 5)])), (some (.row 3 1 (List.map cI a4))), (some (.box 46 [(.own 7 (List.length a4))])), none, none, (some (.row 59 2 (List.map Val.c x37)))]⟩) (f102_l16 l10 a3 (f102_k12)) h (wkm [1, 4, 9, 10, 11] (whk (wh_keep (row_below Node.p _ _ _ _) (wh_keep (row_below Val.p _ _ _ _) (whk (wh_none (whk (whk (wh_keep (row_below cK_p _ _ _ _) (whk (wh_drop (wh_none (wh_keep (row_below Val.p _ _ _ _) wh_nil))))))))))))) (by intros; rw [f102_l16.eq_1]) ?_
   intro m16 x36 x37 h N16 w16
   rw [f102_l16.eq_2] at h
   refine s_so fun N38 k38 w38 => ?_
   refine o_r1 [(12, (vB (decide (x36 < (len l10)))))] ?_
   refine o_end (k38 _ ?_)
   refine s_seq fun N39 k39 w39 => ?_
   refine i_c [12] h (fun h => ?_) (fun h => ?_)
   · refine c_skip (k39 _ ?_)
     refine J1 (r := r) (fun (x56 : (List Val)) => ⟨(mkd .any 29 0 [(1, (.ptr 6 0)), (4, (.own 11 (List.length x56))), (9, (.own 11 (List.length x56))), (10, (vI (len l10))), (11, (vI x36))]), [(some (.box 26 [(vL Node.c a5), (vL Val.c a6)])), (some (.row 57 2 (List.map Node.c a1))), (some (.row 59 2 (List.map Val.c a2))), (some (.box 26 [(.own 1 (List.length a1)), (.own 2 (List.length a2))])), none, (some (.map (List.map (fun (p : (Int × Int)) => (Value.int .i64 p.1, Value.int .i64 p.2)) a3))), (some (.box 148 [(.mp 5)])), (some (.row 3 1 (List.map cI a4))), (some (.box 46 [(.own 7 (List.length a4))])), none, none, (some (.row 59 2 (List.map Val.c x56)))]⟩) (f102_k41 x36 (f102_l16 l10 a3 (f102_k12) m16)) ?_ ?_
     · intro x56 h
       rw [f102_k41.eq_1] at h
       refine c_ops ?_
       refine o_r2 [(11, (vI (wr .i64 (x36 + 1)))), (27, (vI (wr .i64 (x36 + 1))))] ?_
       exact o_end (w16 _ _ _ (wkm [1, 4, 9, 10, 11] (whk (wh_keep (row_below Node.p _ _ _ _) (wh_keep (row_below Val.p _ _ _ _) (whk (wh_none (whk (whk (wh_keep (row_below cK_p _ _ _ _) (whk (wh_none (wh_none (wh_keep (row_below Val.p _ _ _ _) wh_nil))))))))))))) h)
     · intro N41 w41
       refine c_block fun E42 hE42 hO42 => ?_
       refine s_so fun N43 k43 w43 => ?_
       refine o_r1 [(13, (vI x36))] ?_
       refine bnd h fun x44 g45 h => ?_
       refine o_o (one_iaO (f := Val.c) (ki := .i64) (t := 59) (o := 11) g45) ?_
       refine bnd h fun x46 g47 h => ?_
       refine o_o (one_ldE (f := Val.c) (k := 0) (t := 59) (sz := 2) (o := 11) g47) ?_
       refine o_h3 [(5, (vI x36)), (6, (.ptr 12 0))] [(some (.box 26 [(vL Node.c a5), (vL Val.c a6)])), (some (.row 57 2 (List.map Node.c a1))), (some (.row 59 2 (List.map Val.c a2))), (some (.box 26 [(.own 1 (List.length a1)), (.own 2 (List.length a2))])), none, (some (.map (List.map (fun (p : (Int × Int)) => (Value.int .i64 p.1, Value.int .i64 p.2)) a3))), (some (.box 148 [(.mp 5)])), (some (.row 3 1 (List.map cI a4))), (some (.box 46 [(.own 7 (List.length a4))])), none, none, (some (.row 59 2 (List.map Val.c x37))), (some (.box 59 [(vI x46.fKind), (vI x46.fN)]))] ?_
       refine o_end (k43 _ ?_)
       refine s_so fun N48 k48 w48 => ?_
       refine o_r3 [(16, (.ptr 12 0)), (17, (vI x46.fKind)), (18, (vB (x46.fKind == 4)))] ?_
       refine o_end (k48 _ ?_)
       refine i_c [18] h (fun h => ?_) (fun h => ?_)
       · refine c_ops ?_
         refine o_r5 [(19, (.own 11 (List.length x37))), (20, (vI x36)), (21, (.mp 5)), (22, (.ptr 12 1)), (23, (vI x46.fN))] ?_
         refine o_o (one_luk (ek := Value.int .i64) (ev := Value.int .i64) (l := a3) (o := 5) (k := x46.fN) (z := 0) (key_int _)) ?_
         refine bnd h fun x51 g52 h => ?_
         refine o_o (one_iaO (f := Val.c) (ki := .i64) (t := 59) (o := 11) g52) ?_
         refine o_o (one_faE (f := Val.c) (l := x37) (j := x36) (k := 0) (t := 59) (sz := 2) (o := 11)) ?_
         refine bnd h fun x54 g55 h => ?_
         refine o_x [(some (.box 26 [(vL Node.c a5), (vL Val.c a6)])), (some (.row 57 2 (List.map Node.c a1))), (some (.row 59 2 (List.map Val.c a2))), (some (.box 26 [(.own 1 (List.length a1)), (.own 2 (List.length a2))])), none, (some (.map (List.map (fun (p : (Int × Int)) => (Value.int .i64 p.1, Value.int .i64 p.2)) a3))), (some (.box 148 [(.mp 5)])), (some (.row 3 1 (List.map cI a4))), (some (.box 46 [(.own 7 (List.length a4))])), none, none, (some (.row 59 2 (List.map Val.c (setI x37 x36 (Val.mk x54.fKind ((mget x46.fN a3).getD 0)))))), (some (.box 59 [(vI x46.fKind), (vI x46.fN)]))] (one_stE (f := Val.c) (k := 1) (t := 59) (sz := 2) (o := 11) (z := (Val.mk x54.fKind ((mget x46.fN a3).getD 0))) (ds := [(vI ((mget x46.fN a3).getD 0))]) (es := [(vI ((mget x46.fN a3).getD 0))]) g55) ?_
         refine s_ln (fun b => ⟨(mkd .any 29 0 [(1, (.ptr 6 0)), (4, (.own 11 b)), (5, (vI x36)), (6, (.ptr 12 0)), (9, (.own 11 b)), (10, (vI (len l10))), (11, (vI x36)), (12, (vB true)), (13, (vI x36)), (14, (.eptr 11 b (Int.toNat x36) 0)), (15, (.agg [(vI x46.fKind), (vI x46.fN)])), (16, (.ptr 12 0)), (17, (vI x46.fKind)), (18, (vB true)), (19, (.own 11 b)), (20, (vI x36)), (21, (.mp 5)), (22, (.ptr 12 1)), (23, (vI x46.fN)), (24, (vI ((mget x46.fN a3).getD 0))), (25, (.eptr 11 b (Int.toNat x36) 0)), (26, (.eptr 11 b (Int.toNat x36) 1))]), [(some (.box 26 [(vL Node.c a5), (vL Val.c a6)])), (some (.row 57 2 (List.map Node.c a1))), (some (.row 59 2 (List.map Val.c a2))), (some (.box 26 [(.own 1 (List.length a1)), (.own 2 (List.length a2))])), none, (some (.map (List.map (fun (p : (Int × Int)) => (Value.int .i64 p.1, Value.int .i64 p.2)) a3))), (some (.box 148 [(.mp 5)])), (some (.row 3 1 (List.map cI a4))), (some (.box 46 [(.own 7 (List.length a4))])), none, none, (some (.row 59 2 (List.map Val.c (setI x37 x36 (Val.mk x54.fKind ((mget x46.fN a3).getD 0)))))), (some (.box 59 [(vI x46.fKind), (vI x46.fN)]))]⟩) (show List.length x37 = List.length (setI x37 x36 (Val.mk x54.fKind ((mget x46.fN a3).getD 0))) from setI_len) ?_
         exact o_end (w41 _ _ (wkm [1, 4, 9, 10, 11] (whk (wh_keep (row_below Node.p _ _ _ _) (wh_keep (row_below Val.p _ _ _ _) (whk (wh_none (whk (whk (wh_keep (row_below cK_p _ _ _ _) (whk (wh_none (wh_none (wh_keep (row_below Val.p _ _ _ _) wh_nil))))))))))))) h)
       · exact c_skip (w41 _ _ (wkm [1, 4, 9, 10, 11] (whk (wh_keep (row_below Node.p _ _ _ _) (wh_keep (row_below Val.p _ _ _ _) (whk (wh_none (whk (whk (wh_keep (row_below cK_p _ _ _ _) (whk (wh_none (wh_none (wh_keep (row_below Val.p _ _ _ _) wh_nil))))))))))))) h)
   · refine c_exit (hE15 _ ?_)
     exact w12 _ _ (wkm [4] (whk (wh_keep (row_below Node.p _ _ _ _) (wh_keep (row_below Val.p _ _ _ _) (whk (wh_none (whk (whk (wh_keep (row_below cK_p _ _ _ _) (whk (wh_none (wh_none (wh_keep (row_below Val.p _ _ _ _) wh_nil))))))))))))) h
def f102_b_k43 (x38 : Int) (c18k : Int → (List Val) → Option (List Val)) (x58 : (List Val)) : Option (List Val) := (c18k (wr .i64 (x38 + 1)) x58)
def f102_b_k14 (x59 : (List Val)) : Option (List Val) := some x59
def f102_b_l18 (l12 : (List Val)) (a3 : (List (Int × Int))) (k14k : (List Val) → Option (List Val)) : Nat → Int → (List Val) → Option (List Val)
  | 0, _, _ => none
  | m18 + 1, x38, x39 => (bif (decide (x38 < (len l12))) then ((gi x39 x38).bind fun x46 => ((gi x39 x38).bind fun x48 => (bif (x48.fKind == 4) then ((gi x39 x38).bind fun x53 => ((gi x39 x38).bind fun x56 => (f102_b_k43 x38 (f102_b_l18 l12 a3 (k14k) m18) (setI x39 x38 (Val.mk x56.fKind ((mget x48.fN a3).getD 0)))))) else (f102_b_k43 x38 (f102_b_l18 l12 a3 (k14k) m18) x39)))) else (k14k x39))
def f102_b (n : Nat) (a1 : (List Node)) (a2 : (List Val)) (a3 : (List (Int × Int))) (a4 : (List Int)) (a5 : (List Val)) (a6 : (List Node)) (a7 : (List Node)) (a8 : (List Val)) (a9 : (List Val)) : Option (List Val) := ((app2 [] a9).bind fun l12 => (f102_b_l18 l12 a3 (f102_b_k14) n 0 l12))
def f102_b_r (a1 : (List Node)) (a2 : (List Val)) (a3 : (List (Int × Int))) (a4 : (List Int)) (a5 : (List Val)) (a6 : (List Node)) (a7 : (List Node)) (a8 : (List Val)) (a9 : (List Val)) (r : (List Val)) : AV := (.own 18 (List.length r))
def f102_b_h (a1 : (List Node)) (a2 : (List Val)) (a3 : (List (Int × Int))) (a4 : (List Int)) (a5 : (List Val)) (a6 : (List Node)) (a7 : (List Node)) (a8 : (List Val)) (a9 : (List Val)) (r : (List Val)) : Heap := [(some (.box 26 [(vL Node.c a7), (vL Val.c a8)])), (some (.row 57 2 (List.map Node.c a1))), (some (.row 59 2 (List.map Val.c a2))), (some (.box 26 [(.own 1 (List.length a1)), (.own 2 (List.length a2))])), none, (some (.map (List.map (fun (p : (Int × Int)) => (Value.int .i64 p.1, Value.int .i64 p.2)) a3))), (some (.box 148 [(.mp 5)])), (some (.row 3 1 (List.map cI a4))), none, none, none, (some (.row 59 2 (List.map Val.c a5))), none, none, (some (.box 26 [(.own 15 (List.length a6)), (.own 11 (List.length a5))])), (some (.row 57 2 (List.map Node.c a6))), none, none, (some (.row 59 2 (List.map Val.c r)))]
theorem q_f102_b {n : Nat} {a1 : (List Node)} {a2 : (List Val)} {a3 : (List (Int × Int))} {a4 : (List Int)} {a5 : (List Val)} {a6 : (List Node)} {a7 : (List Node)} {a8 : (List Val)} {a9 : (List Val)} {r : (List Val)} (h : f102_b n a1 a2 a3 a4 a5 a6 a7 a8 a9 = some r) : HSpec Try.prog 102 [(vL Val.c a9), (.ptr 6 0)] [(some (.box 26 [(vL Node.c a7), (vL Val.c a8)])), (some (.row 57 2 (List.map Node.c a1))), (some (.row 59 2 (List.map Val.c a2))), (some (.box 26 [(.own 1 (List.length a1)), (.own 2 (List.length a2))])), none, (some (.map (List.map (fun (p : (Int × Int)) => (Value.int .i64 p.1, Value.int .i64 p.2)) a3))), (some (.box 148 [(.mp 5)])), (some (.row 3 1 (List.map cI a4))), none, none, none, (some (.row 59 2 (List.map Val.c a5))), none, none, (some (.box 26 [(.own 15 (List.length a6)), (.own 11 (List.length a5))])), (some (.row 57 2 (List.map Node.c a6)))] (f102_b_r a1 a2 a3 a4 a5 a6 a7 a8 a9 r) (f102_b_h a1 a2 a3 a4 a5 a6 a7 a8 a9 r) := by
 rw [f102_b.eq_1] at h
 refine heap_of hmix ic102 ?_
 refine go_to (mkd (.val undef) 29 0 [(0, (vL Val.c a9)), (1, (.ptr 6 0))]) ?_
 refine s_so fun N10 k10 w10 => ?_
 refine o_h1 [(3, (.own 16 0))] [(some (.box 26 [(vL Node.c a7), (vL Val.c a8)])), (some (.row 57 2 (List.map Node.c a1))), (some (.row 59 2 (List.map Val.c a2))), (some (.box 26 [(.own 1 (List.length a1)), (.own 2 (List.length a2))])), none, (some (.map (List.map (fun (p : (Int × Int)) => (Value.int .i64 p.1, Value.int .i64 p.2)) a3))), (some (.box 148 [(.mp 5)])), (some (.row 3 1 (List.map cI a4))), none, none, none, (some (.row 59 2 (List.map Val.c a5))), none, none, (some (.box 26 [(.own 15 (List.length a6)), (.own 11 (List.length a5))])), (some (.row 57 2 (List.map Node.c a6))), (some (.row 59 2 (List.map Val.c [])))] ?_
 refine o_end (k10 _ ?_)
 refine s_so fun N11 k11 w11 => ?_
 refine o_r1 [(7, (vL Val.c a9))] ?_
 refine bnd h fun l12 g13 h => ?_
 refine o_x [(some (.box 26 [(vL Node.c a7), (vL Val.c a8)])), (some (.row 57 2 (List.map Node.c a1))), (some (.row 59 2 (List.map Val.c a2))), (some (.box 26 [(.own 1 (List.length a1)), (.own 2 (List.length a2))])), none, (some (.map (List.map (fun (p : (Int × Int)) => (Value.int .i64 p.1, Value.int .i64 p.2)) a3))), (some (.box 148 [(.mp 5)])), (some (.row 3 1 (List.map cI a4))), none, none, none, (some (.row 59 2 (List.map Val.c a5))), none, none, (some (.box 26 [(.own 15 (List.length a6)), (.own 11 (List.length a5))])), (some (.row 57 2 (List.map Node.c a6))), (some (.row 59 2 (List.map Val.c []))), none, (some (.row 59 2 (List.map Val.c l12)))] (one_callH (caps := []) (clone_spec (g := Val.c) hmix [(some (.box 26 [(vL Node.c a7), (vL Val.c a8)])), (some (.row 57 2 (List.map Node.c a1))), (some (.row 59 2 (List.map Val.c a2))), (some (.box 26 [(.own 1 (List.length a1)), (.own 2 (List.length a2))])), none, (some (.map (List.map (fun (p : (Int × Int)) => (Value.int .i64 p.1, Value.int .i64 p.2)) a3))), (some (.box 148 [(.mp 5)])), (some (.row 3 1 (List.map cI a4))), none, none, none, (some (.row 59 2 (List.map Val.c a5))), none, none, (some (.box 26 [(.own 15 (List.length a6)), (.own 11 (List.length a5))])), (some (.row 57 2 (List.map Node.c a6))), (some (.row 59 2 (List.map Val.c [])))] ic77 g13 (fun _ => ⟨rfl, rfl⟩) Val.p (by kernel_rfl) (whk (wh_keep (row_below Node.p _ _ _ _) (wh_keep (row_below Val.p _ _ _ _) (whk (wh_none (whk (whk (wh_keep (row_below cK_p _ _ _ _) (wh_none (wh_none (wh_none (wh_keep (row_below Val.p _ _ _ _) (wh_none (wh_none (whk (wh_keep (row_below Node.p _ _ _ _) (wh_keep (row_below Val.p _ _ _ _) wh_nil))))))))))))))))))) ?_
 refine o_r1 [(4, (.own 18 (List.length l12)))] ?_
 refine o_end (k11 _ ?_)
 refine J1 (r := r) (fun (x59 : (List Val)) => ⟨(mkd .any 29 0 [(4, (.own 18 (List.length x59)))]), [(some (.box 26 [(vL Node.c a7), (vL Val.c a8)])), (some (.row 57 2 (List.map Node.c a1))), (some (.row 59 2 (List.map Val.c a2))), (some (.box 26 [(.own 1 (List.length a1)), (.own 2 (List.length a2))])), none, (some (.map (List.map (fun (p : (Int × Int)) => (Value.int .i64 p.1, Value.int .i64 p.2)) a3))), (some (.box 148 [(.mp 5)])), (some (.row 3 1 (List.map cI a4))), none, none, none, (some (.row 59 2 (List.map Val.c a5))), none, none, (some (.box 26 [(.own 15 (List.length a6)), (.own 11 (List.length a5))])), (some (.row 57 2 (List.map Node.c a6))), none, none, (some (.row 59 2 (List.map Val.c x59)))]⟩) (f102_b_k14) ?_ ?_
 · intro x59 h
   rw [f102_b_k14.eq_1] at h
   refine s_so fun N60 k60 w60 => ?_
   refine o_r2 [(3, (.own 18 (List.length x59))), (28, (.own 18 (List.length x59)))] ?_
   refine o_end (k60 _ ?_)
   exact c_ret (retsH [(.own 18 (List.length x59))] [(.own 18 (List.length x59))] h (wkm [0] (whk (wh_keep (row_below Node.p _ _ _ _) (wh_keep (row_below Val.p _ _ _ _) (whk (wh_none (whk (whk (wh_keep (row_below cK_p _ _ _ _) (wh_none (wh_none (wh_none (wh_keep (row_below Val.p _ _ _ _) (wh_none (wh_none (whk (wh_keep (row_below Node.p _ _ _ _) (wh_none (wh_none (wh_keep (row_below Val.p _ _ _ _) wh_nil)))))))))))))))))))))
 · intro N14 w14
   refine s_so fun N15 k15 w15 => ?_
   refine o_r1 [(9, (.own 18 (List.length l12)))] ?_
   refine o_o (one_lenO (f := Val.c) (l := l12) (o := 18) (t := 59) (sz := 2)) ?_
   refine o_r1 [(11, (vI 0))] ?_
   refine o_end (k15 _ ?_)
   refine c_block fun E17 hE17 hO17 => ?_
   refine W2 (fun (x38 : Int) (x39 : (List Val)) => ⟨(mkd .any 29 0 [(1, (.ptr 6 0)), (4, (.own 18 (List.length x39))), (9, (.own 18 (List.length x39))), (10, (vI (len l12))), (11, (vI x38))]), [(some (.box 26 [(vL Node.c a7), (vL Val.c a8)])), (some (.row 57 2 (List.map Node.c a1))), (some (.row 59 2 (List.map Val.c a2))), (some (.box 26 [(.own 1 (List.length a1)), (.own 2 (List.length a2))])), none, (some (.map (List.map (fun (p : (Int × Int)) => (Value.int .i64 p.1, Value.int .i64 p.2)) a3))), (some (.box 148 [(.mp 5)])), (some (.row 3 1 (List.map cI a4))), none, none, none, (some (.row 59 2 (List.map Val.c a5))), none, none, (some (.box 26 [(.own 15 (List.length a6)), (.own 11 (List.length a5))])), (some (.row 57 2 (List.map Node.c a6))), none, none, (some (.row 59 2 (List.map Val.c x39)))]⟩) (f102_b_l18 l12 a3 (f102_b_k14)) h (wkm [1, 4, 9, 10, 11] (whk (wh_keep (row_below Node.p _ _ _ _) (wh_keep (row_below Val.p _ _ _ _) (whk (wh_none (whk (whk (wh_keep (row_below cK_p _ _ _ _) (wh_none (wh_none (wh_none (wh_keep (row_below Val.p _ _ _ _) (wh_none (wh_none (whk (wh_keep (row_below Node.p _ _ _ _) (wh_drop (wh_none (wh_keep (row_below Val.p _ _ _ _) wh_nil)))))))))))))))))))) (by intros; rw [f102_b_l18.eq_1]) ?_
   intro m18 x38 x39 h N18 w18
   rw [f102_b_l18.eq_2] at h
   refine s_so fun N40 k40 w40 => ?_
   refine o_r1 [(12, (vB (decide (x38 < (len l12)))))] ?_
   refine o_end (k40 _ ?_)
   refine s_seq fun N41 k41 w41 => ?_
   refine i_c [12] h (fun h => ?_) (fun h => ?_)
   · refine c_skip (k41 _ ?_)
     refine J1 (r := r) (fun (x58 : (List Val)) => ⟨(mkd .any 29 0 [(1, (.ptr 6 0)), (4, (.own 18 (List.length x58))), (9, (.own 18 (List.length x58))), (10, (vI (len l12))), (11, (vI x38))]), [(some (.box 26 [(vL Node.c a7), (vL Val.c a8)])), (some (.row 57 2 (List.map Node.c a1))), (some (.row 59 2 (List.map Val.c a2))), (some (.box 26 [(.own 1 (List.length a1)), (.own 2 (List.length a2))])), none, (some (.map (List.map (fun (p : (Int × Int)) => (Value.int .i64 p.1, Value.int .i64 p.2)) a3))), (some (.box 148 [(.mp 5)])), (some (.row 3 1 (List.map cI a4))), none, none, none, (some (.row 59 2 (List.map Val.c a5))), none, none, (some (.box 26 [(.own 15 (List.length a6)), (.own 11 (List.length a5))])), (some (.row 57 2 (List.map Node.c a6))), none, none, (some (.row 59 2 (List.map Val.c x58)))]⟩) (f102_b_k43 x38 (f102_b_l18 l12 a3 (f102_b_k14) m18)) ?_ ?_
     · intro x58 h
       rw [f102_b_k43.eq_1] at h
       refine c_ops ?_
       refine o_r2 [(11, (vI (wr .i64 (x38 + 1)))), (27, (vI (wr .i64 (x38 + 1))))] ?_
       exact o_end (w18 _ _ _ (wkm [1, 4, 9, 10, 11] (whk (wh_keep (row_below Node.p _ _ _ _) (wh_keep (row_below Val.p _ _ _ _) (whk (wh_none (whk (whk (wh_keep (row_below cK_p _ _ _ _) (wh_none (wh_none (wh_none (wh_keep (row_below Val.p _ _ _ _) (wh_none (wh_none (whk (wh_keep (row_below Node.p _ _ _ _) (wh_none (wh_none (wh_keep (row_below Val.p _ _ _ _) wh_nil)))))))))))))))))))) h)
     · intro N43 w43
       refine c_block fun E44 hE44 hO44 => ?_
       refine s_so fun N45 k45 w45 => ?_
       refine o_r1 [(13, (vI x38))] ?_
       refine bnd h fun x46 g47 h => ?_
       refine o_o (one_iaO (f := Val.c) (ki := .i64) (t := 59) (o := 18) g47) ?_
       refine bnd h fun x48 g49 h => ?_
       refine o_o (one_ldE (f := Val.c) (k := 0) (t := 59) (sz := 2) (o := 18) g49) ?_
       refine o_h3 [(5, (vI x38)), (6, (.ptr 19 0))] [(some (.box 26 [(vL Node.c a7), (vL Val.c a8)])), (some (.row 57 2 (List.map Node.c a1))), (some (.row 59 2 (List.map Val.c a2))), (some (.box 26 [(.own 1 (List.length a1)), (.own 2 (List.length a2))])), none, (some (.map (List.map (fun (p : (Int × Int)) => (Value.int .i64 p.1, Value.int .i64 p.2)) a3))), (some (.box 148 [(.mp 5)])), (some (.row 3 1 (List.map cI a4))), none, none, none, (some (.row 59 2 (List.map Val.c a5))), none, none, (some (.box 26 [(.own 15 (List.length a6)), (.own 11 (List.length a5))])), (some (.row 57 2 (List.map Node.c a6))), none, none, (some (.row 59 2 (List.map Val.c x39))), (some (.box 59 [(vI x48.fKind), (vI x48.fN)]))] ?_
       refine o_end (k45 _ ?_)
       refine s_so fun N50 k50 w50 => ?_
       refine o_r3 [(16, (.ptr 19 0)), (17, (vI x48.fKind)), (18, (vB (x48.fKind == 4)))] ?_
       refine o_end (k50 _ ?_)
       refine i_c [18] h (fun h => ?_) (fun h => ?_)
       · refine c_ops ?_
         refine o_r5 [(19, (.own 18 (List.length x39))), (20, (vI x38)), (21, (.mp 5)), (22, (.ptr 19 1)), (23, (vI x48.fN))] ?_
         refine o_o (one_luk (ek := Value.int .i64) (ev := Value.int .i64) (l := a3) (o := 5) (k := x48.fN) (z := 0) (key_int _)) ?_
         refine bnd h fun x53 g54 h => ?_
         refine o_o (one_iaO (f := Val.c) (ki := .i64) (t := 59) (o := 18) g54) ?_
         refine o_o (one_faE (f := Val.c) (l := x39) (j := x38) (k := 0) (t := 59) (sz := 2) (o := 18)) ?_
         refine bnd h fun x56 g57 h => ?_
         refine o_x [(some (.box 26 [(vL Node.c a7), (vL Val.c a8)])), (some (.row 57 2 (List.map Node.c a1))), (some (.row 59 2 (List.map Val.c a2))), (some (.box 26 [(.own 1 (List.length a1)), (.own 2 (List.length a2))])), none, (some (.map (List.map (fun (p : (Int × Int)) => (Value.int .i64 p.1, Value.int .i64 p.2)) a3))), (some (.box 148 [(.mp 5)])), (some (.row 3 1 (List.map cI a4))), none, none, none, (some (.row 59 2 (List.map Val.c a5))), none, none, (some (.box 26 [(.own 15 (List.length a6)), (.own 11 (List.length a5))])), (some (.row 57 2 (List.map Node.c a6))), none, none, (some (.row 59 2 (List.map Val.c (setI x39 x38 (Val.mk x56.fKind ((mget x48.fN a3).getD 0)))))), (some (.box 59 [(vI x48.fKind), (vI x48.fN)]))] (one_stE (f := Val.c) (k := 1) (t := 59) (sz := 2) (o := 18) (z := (Val.mk x56.fKind ((mget x48.fN a3).getD 0))) (ds := [(vI ((mget x48.fN a3).getD 0))]) (es := [(vI ((mget x48.fN a3).getD 0))]) g57) ?_
         refine s_ln (fun b => ⟨(mkd .any 29 0 [(1, (.ptr 6 0)), (4, (.own 18 b)), (5, (vI x38)), (6, (.ptr 19 0)), (9, (.own 18 b)), (10, (vI (len l12))), (11, (vI x38)), (12, (vB true)), (13, (vI x38)), (14, (.eptr 18 b (Int.toNat x38) 0)), (15, (.agg [(vI x48.fKind), (vI x48.fN)])), (16, (.ptr 19 0)), (17, (vI x48.fKind)), (18, (vB true)), (19, (.own 18 b)), (20, (vI x38)), (21, (.mp 5)), (22, (.ptr 19 1)), (23, (vI x48.fN)), (24, (vI ((mget x48.fN a3).getD 0))), (25, (.eptr 18 b (Int.toNat x38) 0)), (26, (.eptr 18 b (Int.toNat x38) 1))]), [(some (.box 26 [(vL Node.c a7), (vL Val.c a8)])), (some (.row 57 2 (List.map Node.c a1))), (some (.row 59 2 (List.map Val.c a2))), (some (.box 26 [(.own 1 (List.length a1)), (.own 2 (List.length a2))])), none, (some (.map (List.map (fun (p : (Int × Int)) => (Value.int .i64 p.1, Value.int .i64 p.2)) a3))), (some (.box 148 [(.mp 5)])), (some (.row 3 1 (List.map cI a4))), none, none, none, (some (.row 59 2 (List.map Val.c a5))), none, none, (some (.box 26 [(.own 15 (List.length a6)), (.own 11 (List.length a5))])), (some (.row 57 2 (List.map Node.c a6))), none, none, (some (.row 59 2 (List.map Val.c (setI x39 x38 (Val.mk x56.fKind ((mget x48.fN a3).getD 0)))))), (some (.box 59 [(vI x48.fKind), (vI x48.fN)]))]⟩) (show List.length x39 = List.length (setI x39 x38 (Val.mk x56.fKind ((mget x48.fN a3).getD 0))) from setI_len) ?_
         exact o_end (w43 _ _ (wkm [1, 4, 9, 10, 11] (whk (wh_keep (row_below Node.p _ _ _ _) (wh_keep (row_below Val.p _ _ _ _) (whk (wh_none (whk (whk (wh_keep (row_below cK_p _ _ _ _) (wh_none (wh_none (wh_none (wh_keep (row_below Val.p _ _ _ _) (wh_none (wh_none (whk (wh_keep (row_below Node.p _ _ _ _) (wh_none (wh_none (wh_keep (row_below Val.p _ _ _ _) wh_nil)))))))))))))))))))) h)
       · exact c_skip (w43 _ _ (wkm [1, 4, 9, 10, 11] (whk (wh_keep (row_below Node.p _ _ _ _) (wh_keep (row_below Val.p _ _ _ _) (whk (wh_none (whk (whk (wh_keep (row_below cK_p _ _ _ _) (wh_none (wh_none (wh_none (wh_keep (row_below Val.p _ _ _ _) (wh_none (wh_none (whk (wh_keep (row_below Node.p _ _ _ _) (wh_none (wh_none (wh_keep (row_below Val.p _ _ _ _) wh_nil)))))))))))))))))))) h)
   · refine c_exit (hE17 _ ?_)
     exact w14 _ _ (wkm [4] (whk (wh_keep (row_below Node.p _ _ _ _) (wh_keep (row_below Val.p _ _ _ _) (whk (wh_none (whk (whk (wh_keep (row_below cK_p _ _ _ _) (wh_none (wh_none (wh_none (wh_keep (row_below Val.p _ _ _ _) (wh_none (wh_none (whk (wh_keep (row_below Node.p _ _ _ _) (wh_none (wh_none (wh_keep (row_below Val.p _ _ _ _) wh_nil)))))))))))))))))))) h
theorem ic62 : fnIC Try.prog H62 62 = some ([.cell 2 26, .tmp 3], 93, (.seq (.ops [zO 1 (.box 0 26 [(0, 57, 2, 0), (1, 59, 2, 0)] (.t 0)), zO 2 (.alloc 0 26 [(0, 57, 2, 0), (1, 59, 2, 0)] [(.slice none 0 0), (.slice none 0 0)]), zO 3 (.nil 0 3 1)]) (.seq (.ops [zO 16 (.mkm 0), zO 4 (.alloc 0 148 [] [(.map none)]), zU (.st true 1 [] (.t 4) (.t 16))]) (.seq (.ops [zO 5 (.alloc 0 46 [(0, 3, 1, 0)] [(.slice none 0 0)])]) (.seq (.ops [zO 17 (.mkf 100 [(.t 4), (.t 5)]), zM 6 17]) (.seq (.ops [zM 18 6, zO 19 (.faddr (.t 1) 1), zO 20 (.ld (.t 19) 1 false), zO 21 (.callv (.t 18) [(.t 20)])]) (.seq .skip (.seq (.seq (.ops [zO 7 (.mov (.c (.int .i64 0)))]) (.block 0 (.loop (.seq (.block 1 (.seq (.seq (.ops [zM 24 7, zO 25 (.ld (.t 5) 1 false), zO 26 (.len false (.t 25)), zO 27 (.sc (.bin .eql 3) [(.t 24), (.t 26)])]) (.cond (.t 27)
  (.exit 0)
  .skip)) (.draw [] [zQ (zM 28 6), zQ (zO 29 (.faddr (.t 1) 0)), zQ (zO 30 (.ld (.t 29) 1 false)), zQ (zO 31 (.ld (.t 5) 1 false)), zQ (zM 32 7), zQ (zO 33 (.iaddr 1 (.t 31) (.t 32))), zQ (zO 34 (.ld (.t 33) 1 false)), zQ (zO 35 (.iaddr 2 (.t 30) (.t 34))), zQ (zO 36 (.faddr (.t 35) 1)), zQ (zO 37 (.ld (.t 36) 1 false)), ⟨zO 38 (.callv (.t 28) [(.t 37)]), true, 0, 1⟩]))) (.ops [zM 22 7, zO 23 (.sc (.bin .add 3) [(.t 22), (.c (.int .i64 1))]), zM 7 23]))))) (.seq (.ops [zO 39 (.mkf 102 [(.t 4)]), zM 8 39]) (.seq (.ops [zM 40 8, zO 41 (.faddr (.t 1) 1), zO 42 (.ld (.t 41) 1 false), zO 43 (.callv (.t 40) [(.t 42)]), zO 44 (.bld [(.slice none 0 0), (.slice none 0 0)] [(1, 1, (.t 43))]), zO 9 (.alloc 0 26 [(0, 57, 2, 0), (1, 59, 2, 0)] [(.slice none 0 0), (.slice none 0 0)]), zU (.st true 2 [(0, 57, 2, 0), (1, 59, 2, 0)] (.t 9) (.t 44))]) (.seq (.seq (.ops [zO 45 (.ld (.t 5) 1 false), zO 46 (.len false (.t 45)), zO 47 (.mov (.c (.int .i64 0)))]) (.block 2 (.loop (.seq (.ops [zO 48 (.sc (.bin .lss 3) [(.t 47), (.t 46)])]) (.seq (.cond (.t 48)
  .skip
  (.exit 2)) (.seq (.block 3 (.seq (.ops [zO 49 (.iaddr 1 (.t 45) (.t 47)), zO 50 (.ld (.t 49) 1 false), zM 11 50]) (.draw [] [⟨zO 51 (.faddr (.t 9) 0), false, 0, 2⟩, ⟨zO 52 (.ld (.t 51) 1 false), false, 0, 2⟩, ⟨zO 53 (.faddr (.t 1) 0), false, 0, 1⟩, ⟨zO 54 (.ld (.t 53) 1 false), false, 0, 1⟩, ⟨zM 55 11, false, 0, 1⟩, ⟨zO 56 (.iaddr 2 (.t 54) (.t 55)), false, 0, 1⟩, ⟨zO 57 (.faddr (.t 56) 0), false, 0, 1⟩, ⟨zO 58 (.ld (.t 57) 1 false), false, 0, 1⟩, zQ (zM 59 8), zQ (zO 60 (.faddr (.t 1) 0)), zQ (zO 61 (.ld (.t 60) 1 false)), zQ (zM 62 11), zQ (zO 63 (.iaddr 2 (.t 61) (.t 62))), zQ (zO 64 (.faddr (.t 63) 1)), zQ (zO 65 (.ld (.t 64) 1 false)), ⟨zO 66 (.callv (.t 59) [(.t 65)]), true, 0, 1⟩, ⟨zO 67 (.bld [(.string ⟨#[]⟩), (.slice none 0 0)] [(0, 1, (.t 58)), (1, 1, (.t 66))]), false, 1, 1⟩, ⟨zO 68 (.bsl 0 true 57 2 [(.t 67)]), true, 1, 2⟩, ⟨zO 69 (.app 0 57 2 40 (.t 52) (.t 68)), true, 2, 3⟩, ⟨zO 70 (.faddr (.t 9) 0), false, 3, 3⟩, ⟨zU (.st true 1 [(0, 57, 2, 0)] (.t 70) (.t 69)), true, 3, 4⟩]))) (.ops [zO 71 (.sc (.bin .add 3) [(.t 47), (.c (.int .i64 1))]), zM 47 71]))))))) (.seq (.ops [zO 12 (.nil 0 3 1)]) (.seq (.seq (.ops [zO 72 (.faddr (.t 1) 0), zO 73 (.ld (.t 72) 1 false), zO 74 (.len false (.t 73)), zO 75 (.mov (.c (.int .i64 0)))]) (.block 4 (.loop (.seq (.ops [zO 76 (.sc (.bin .lss 3) [(.t 75), (.t 74)])]) (.seq (.cond (.t 76)
  .skip
  (.exit 4)) (.seq (.block 5 (.seq (.ops [zM 77 75, zM 13 77]) (.seq (.ops [zO 79 (.ld (.t 4) 1 false), zM 80 13, zO 81 (.lku (some .i64) true (.int .i64 0) (.t 79) (.t 80)), zM 78 81, zO 82 (.ext (.t 78) 0), zO 83 (.ext (.t 78) 1), zM 14 82, zM 15 83]) (.seq (.seq (.ops [zM 84 15, zO 85 (.sc (.un .not) [(.t 84)])]) (.cond (.t 85)
  (.ops [zO 14 (.mov (.c (.int .i64 (-1))))])
  .skip)) (.ops [zM 86 12, zM 87 14, zO 88 (.isl 1 [(.t 87)]), zO 89 (.app 0 3 1 8 (.t 86) (.t 88)), zM 12 89]))))) (.ops [zO 90 (.sc (.bin .add 3) [(.t 75), (.c (.int .i64 1))]), zM 75 90]))))))) (.seq (.ops [zO 91 (.ld (.t 9) 2 true), zM 92 12, zU (.st true 2 [(0, 57, 2, 0), (1, 59, 2, 0)] (.t 2) (.t 91)), zM 3 92]) .ret)))))))))))))) := by kernel_rfl
def f62_k127 (x118 : (List Int)) (x117 : Int) (c102k : Int → (List Int) → Option (Graph × (List Int))) (x130 : Int) : Option (Graph × (List Int)) := ((app2 x118 [x130]).bind fun l131 => (c102k (wr .i64 (x117 + 1)) l131))
def f62_k98 (x96 : (List Node)) (r49 : (List Val)) (x133 : (List Int)) : Option (Graph × (List Int)) := some ((Graph.mk x96 r49), x133)
def f62_l102 (a1 : Graph) (x45 : (List (Int × Int))) (k98k : (List Int) → Option (Graph × (List Int))) : Nat → Int → (List Int) → Option (Graph × (List Int))
  | 0, _, _ => none
  | m102 + 1, x117, x118 => (bif (decide (x117 < (len a1.fNodes))) then (bif (!(Option.isSome (mget x117 x45))) then (f62_k127 x118 x117 (f62_l102 a1 x45 (k98k) m102) (-1)) else (f62_k127 x118 x117 (f62_l102 a1 x45 (k98k) m102) ((mget x117 x45).getD 0))) else (k98k x118))
def f62_k51 (n : Nat) (a1 : Graph) (x45 : (List (Int × Int))) (r49 : (List Val)) (x96 : (List Node)) : Option (Graph × (List Int)) := (f62_l102 a1 x45 (f62_k98 x96 r49) n 0 [])
def f62_l55 (x46 : (List Int)) (a1 : Graph) (n : Nat) (x45 : (List (Int × Int))) (r49 : (List Val)) (k51k : (List Node) → Option (Graph × (List Int))) : Nat → Int → (List Node) → Option (Graph × (List Int))
  | 0, _, _ => none
  | m55 + 1, x75, x76 => (bif (decide (x75 < (len x46))) then ((gi x46 x75).bind fun x83 => ((gi x46 x75).bind fun x85 => ((gi a1.fNodes x85).bind fun x87 => ((gi a1.fNodes x85).bind fun x89 => ((f102_b n [] [] x45 x46 r49 x76 a1.fNodes a1.fRoots x89.fVals).bind fun r91 => ((app2 x76 [(Node.mk x87.fClass r91)]).bind fun l94 => (f62_l55 x46 a1 n x45 r49 (k51k) m55 (wr .i64 (x75 + 1)) l94))))))) else (k51k x76))
def f62_k10 (n : Nat) (a1 : Graph) (x45 : (List (Int × Int))) (x46 : (List Int)) : Option (Graph × (List Int)) := ((f102 n [] [] x45 x46 a1.fNodes a1.fRoots a1.fRoots).bind fun r49 => (f62_l55 x46 a1 n x45 r49 (f62_k51 n a1 x45 r49) n 0 []))
def f62_l13 (a1 : Graph) (n : Nat) (k10k : (List (Int × Int)) → (List Int) → Option (Graph × (List Int))) : Nat → Int → (List (Int × Int)) → (List Int) → Option (Graph × (List Int))
  | 0, _, _, _ => none
  | m13 + 1, x28, x29, x30 => (bif (x28 == (len x30)) then (k10k x29 x30) else ((gi x30 x28).bind fun x37 => ((gi x30 x28).bind fun x39 => ((gi a1.fNodes x39).bind fun x41 => ((f100_b n [] [] x29 x30 a1.fNodes a1.fRoots x41.fVals).bind fun r43 => (f62_l13 a1 n (k10k) m13 (wr .i64 (x28 + 1)) r43.1 r43.2))))))
def f62 (n : Nat) (a1 : Graph) : Option (Graph × (List Int)) := ((f100 n [] [] [] [] [] a1.fNodes a1.fRoots a1.fRoots).bind fun r7 => (f62_l13 a1 n (f62_k10 n a1) n 0 r7.1 r7.2))
def f62_r (r : (Graph × (List Int))) : AV := (.tup [(.agg [(vL Node.c r.1.fNodes), (vL Val.c r.1.fRoots)]), (vL cI r.2)])
theorem p_f62 {n : Nat} {a1 : Graph} {r : (Graph × (List Int))} (h : f62 n a1 = some r) : PureSpec Try.prog 62 [(.agg [(vL Node.c a1.fNodes), (vL Val.c a1.fRoots)])] (f62_r r) := by
 rw [f62.eq_1] at h
 refine pure_of hmix ic62 ?_
 refine go_to (mkd (.val undef) 93 0 [(0, (.agg [(vL Node.c a1.fNodes), (vL Val.c a1.fRoots)]))]) ?_
 refine s_so fun N2 k2 w2 => ?_
 refine o_h3 [(1, (.ptr 0 0)), (2, (.ptr 3 0)), (3, (.own 4 0))] [(some (.box 26 [(vL Node.c a1.fNodes), (vL Val.c a1.fRoots)])), (some (.row 57 2 (List.map Node.c []))), (some (.row 59 2 (List.map Val.c []))), (some (.box 26 [(.own 1 0), (.own 2 0)])), (some (.row 3 1 (List.map cI [])))] ?_
 refine o_end (k2 _ ?_)
 refine s_so fun N3 k3 w3 => ?_
 refine o_h3 [(4, (.ptr 6 0)), (16, (.mp 5))] [(some (.box 26 [(vL Node.c a1.fNodes), (vL Val.c a1.fRoots)])), (some (.row 57 2 (List.map Node.c []))), (some (.row 59 2 (List.map Val.c []))), (some (.box 26 [(.own 1 0), (.own 2 0)])), (some (.row 3 1 (List.map cI []))), (some (.map (List.map (fun (p : (Int × Int)) => (Value.int .i64 p.1, Value.int .i64 p.2)) []))), (some (.box 148 [(.mp 5)]))] ?_
 refine o_end (k3 _ ?_)
 refine s_so fun N4 k4 w4 => ?_
 refine o_h1 [(5, (.ptr 8 0))] [(some (.box 26 [(vL Node.c a1.fNodes), (vL Val.c a1.fRoots)])), (some (.row 57 2 (List.map Node.c []))), (some (.row 59 2 (List.map Val.c []))), (some (.box 26 [(.own 1 0), (.own 2 0)])), (some (.row 3 1 (List.map cI []))), (some (.map (List.map (fun (p : (Int × Int)) => (Value.int .i64 p.1, Value.int .i64 p.2)) []))), (some (.box 148 [(.mp 5)])), (some (.row 3 1 (List.map cI []))), (some (.box 46 [(.own 7 0)]))] ?_
 refine o_end (k4 _ ?_)
 refine s_so fun N5 k5 w5 => ?_
 refine o_r2 [(6, (.fn 100 [(.ptr 6 0), (.ptr 8 0)])), (17, (.fn 100 [(.ptr 6 0), (.ptr 8 0)]))] ?_
 refine o_end (k5 _ ?_)
 refine s_so fun N6 k6 w6 => ?_
 refine o_r3 [(18, (.fn 100 [(.ptr 6 0), (.ptr 8 0)])), (19, (.ptr 0 1)), (20, (vL Val.c a1.fRoots))] ?_
 refine bnd h fun r7 g8 h => ?_
 refine o_x [(some (.box 26 [(vL Node.c a1.fNodes), (vL Val.c a1.fRoots)])), (some (.row 57 2 (List.map Node.c []))), (some (.row 59 2 (List.map Val.c []))), (some (.box 26 [(.own 1 0), (.own 2 0)])), (some (.row 3 1 (List.map cI []))), (some (.map (List.map (fun (p : (Int × Int)) => (Value.int .i64 p.1, Value.int .i64 p.2)) r7.1))), (some (.box 148 [(.mp 5)])), (some (.row 3 1 (List.map cI r7.2))), (some (.box 46 [(.own 7 (List.length r7.2))]))] (one_callH (caps := [(.ptr 6 0), (.ptr 8 0)]) (q_f100 g8)) ?_
 refine o_end (k6 _ ?_)
 refine s_seq fun N9 k9 w9 => ?_
 refine c_skip (k9 _ ?_)
 refine J2 (r := r) (fun (x45 : (List (Int × Int))) (x46 : (List Int)) => ⟨(mkd .any 93 0 [(1, (.ptr 0 0)), (2, (.ptr 3 0)), (4, (.ptr 6 0)), (5, (.ptr 8 0))]), [(some (.box 26 [(vL Node.c a1.fNodes), (vL Val.c a1.fRoots)])), (some (.row 57 2 (List.map Node.c []))), (some (.row 59 2 (List.map Val.c []))), (some (.box 26 [(.own 1 0), (.own 2 0)])), none, (some (.map (List.map (fun (p : (Int × Int)) => (Value.int .i64 p.1, Value.int .i64 p.2)) x45))), (some (.box 148 [(.mp 5)])), (some (.row 3 1 (List.map cI x46))), (some (.box 46 [(.own 7 (List.length x46))]))]⟩) (f62_k10 n a1) ?_ ?_
 · intro x45 x46 h
   rw [f62_k10.eq_1] at h
   refine s_so fun N47 k47 w47 => ?_
   refine o_r2 [(8, (.fn 102 [(.ptr 6 0)])), (39, (.fn 102 [(.ptr 6 0)]))] ?_
   refine o_end (k47 _ ?_)
   refine s_so fun N48 k48 w48 => ?_
   refine o_r3 [(40, (.fn 102 [(.ptr 6 0)])), (41, (.ptr 0 1)), (42, (vL Val.c a1.fRoots))] ?_
   refine bnd h fun r49 g50 h => ?_
   refine o_x [(some (.box 26 [(vL Node.c a1.fNodes), (vL Val.c a1.fRoots)])), (some (.row 57 2 (List.map Node.c []))), (some (.row 59 2 (List.map Val.c []))), (some (.box 26 [(.own 1 0), (.own 2 0)])), none, (some (.map (List.map (fun (p : (Int × Int)) => (Value.int .i64 p.1, Value.int .i64 p.2)) x45))), (some (.box 148 [(.mp 5)])), (some (.row 3 1 (List.map cI x46))), (some (.box 46 [(.own 7 (List.length x46))])), none, none, (some (.row 59 2 (List.map Val.c r49)))] (one_callH (caps := [(.ptr 6 0)]) (q_f102 g50)) ?_
   refine o_h3 [(9, (.ptr 14 0)), (44, (.agg [(.val (.slice none 0 0)), (.own 11 (List.length r49))]))] [(some (.box 26 [(vL Node.c a1.fNodes), (vL Val.c a1.fRoots)])), (some (.row 57 2 (List.map Node.c []))), (some (.row 59 2 (List.map Val.c []))), (some (.box 26 [(.own 1 0), (.own 2 0)])), none, (some (.map (List.map (fun (p : (Int × Int)) => (Value.int .i64 p.1, Value.int .i64 p.2)) x45))), (some (.box 148 [(.mp 5)])), (some (.row 3 1 (List.map cI x46))), (some (.box 46 [(.own 7 (List.length x46))])), none, none, (some (.row 59 2 (List.map Val.c r49))), (some (.row 57 2 (List.map Node.c []))), (some (.row 59 2 (List.map Val.c []))), (some (.box 26 [(.own 15 0), (.own 11 (List.length r49))])), (some (.row 57 2 (List.map Node.c [])))] ?_
   refine o_end (k48 _ ?_)
   refine J1 (r := r) (fun (x96 : (List Node)) => ⟨(mkd .any 93 0 [(1, (.ptr 0 0)), (2, (.ptr 3 0)), (4, (.ptr 6 0)), (9, (.ptr 14 0))]), [(some (.box 26 [(vL Node.c a1.fNodes), (vL Val.c a1.fRoots)])), (some (.row 57 2 (List.map Node.c []))), (some (.row 59 2 (List.map Val.c []))), (some (.box 26 [(.own 1 0), (.own 2 0)])), none, (some (.map (List.map (fun (p : (Int × Int)) => (Value.int .i64 p.1, Value.int .i64 p.2)) x45))), (some (.box 148 [(.mp 5)])), none, none, none, none, (some (.row 59 2 (List.map Val.c r49))), none, none, (some (.box 26 [(.own 15 (List.length x96)), (.own 11 (List.length r49))])), (some (.row 57 2 (List.map Node.c x96)))]⟩) (f62_k51 n a1 x45 r49) ?_ ?_
   · intro x96 h
     rw [f62_k51.eq_1] at h
     refine s_so fun N97 k97 w97 => ?_
     refine o_h1 [(12, (.own 16 0))] [(some (.box 26 [(vL Node.c a1.fNodes), (vL Val.c a1.fRoots)])), (some (.row 57 2 (List.map Node.c []))), (some (.row 59 2 (List.map Val.c []))), (some (.box 26 [(.own 1 0), (.own 2 0)])), none, (some (.map (List.map (fun (p : (Int × Int)) => (Value.int .i64 p.1, Value.int .i64 p.2)) x45))), (some (.box 148 [(.mp 5)])), none, none, none, none, (some (.row 59 2 (List.map Val.c r49))), none, none, (some (.box 26 [(.own 15 (List.length x96)), (.own 11 (List.length r49))])), (some (.row 57 2 (List.map Node.c x96))), (some (.row 3 1 (List.map cI [])))] ?_
     refine o_end (k97 _ ?_)
     refine J1 (r := r) (fun (x133 : (List Int)) => ⟨(mkd .any 93 0 [(2, (.ptr 3 0)), (9, (.ptr 14 0)), (12, (.own 16 (List.length x133)))]), [none, (some (.row 57 2 (List.map Node.c []))), (some (.row 59 2 (List.map Val.c []))), (some (.box 26 [(.own 1 0), (.own 2 0)])), none, none, none, none, none, none, none, (some (.row 59 2 (List.map Val.c r49))), none, none, (some (.box 26 [(.own 15 (List.length x96)), (.own 11 (List.length r49))])), (some (.row 57 2 (List.map Node.c x96))), (some (.row 3 1 (List.map cI x133)))]⟩) (f62_k98 x96 r49) ?_ ?_
     · intro x133 h
       rw [f62_k98.eq_1] at h
       refine s_so fun N134 k134 w134 => ?_
       refine o_h4 [(3, (.own 16 (List.length x133))), (91, (.agg [(.own 15 (List.length x96)), (.own 11 (List.length r49))])), (92, (.own 16 (List.length x133)))] [none, (some (.row 57 2 (List.map Node.c []))), (some (.row 59 2 (List.map Val.c []))), (some (.box 26 [(.own 15 (List.length x96)), (.own 11 (List.length r49))])), none, none, none, none, none, none, none, (some (.row 59 2 (List.map Val.c r49))), none, none, (some (.box 26 [(.own 15 (List.length x96)), (.own 11 (List.length r49))])), (some (.row 57 2 (List.map Node.c x96))), (some (.row 3 1 (List.map cI x133)))] ?_
       refine o_end (k134 _ ?_)
       exact c_ret (retsF [15, 11, 16] [(.agg [(.own 15 (List.length x96)), (.own 11 (List.length r49))]), (.own 16 (List.length x133))] [(.agg [(vL Node.c x96), (vL Val.c r49)]), (vL cI x133)] ⟨(fz_agg ⟨(fz_own (g := Node.c) (l := x96) (t := 57) (sz := 2) Node.p), (fz_own (g := Val.c) (l := r49) (t := 59) (sz := 2) Val.p), trivial⟩), (fz_own (g := cI) (l := x133) (t := 3) (sz := 1) cK_p), trivial⟩ h)
     · intro N98 w98
       refine s_so fun N99 k99 w99 => ?_
       refine o_r2 [(72, (.ptr 0 0)), (73, (vL Node.c a1.fNodes))] ?_
       refine o_o (one_len (f := Node.c) (l := a1.fNodes)) ?_
       refine o_r1 [(75, (vI 0))] ?_
       refine o_end (k99 _ ?_)
       refine c_block fun E101 hE101 hO101 => ?_
       refine W2 (fun (x117 : Int) (x118 : (List Int)) => ⟨(mkd .any 93 0 [(2, (.ptr 3 0)), (4, (.ptr 6 0)), (9, (.ptr 14 0)), (12, (.own 16 (List.length x118))), (74, (vI (len a1.fNodes))), (75, (vI x117))]), [none, (some (.row 57 2 (List.map Node.c []))), (some (.row 59 2 (List.map Val.c []))), (some (.box 26 [(.own 1 0), (.own 2 0)])), none, (some (.map (List.map (fun (p : (Int × Int)) => (Value.int .i64 p.1, Value.int .i64 p.2)) x45))), (some (.box 148 [(.mp 5)])), none, none, none, none, (some (.row 59 2 (List.map Val.c r49))), none, none, (some (.box 26 [(.own 15 (List.length x96)), (.own 11 (List.length r49))])), (some (.row 57 2 (List.map Node.c x96))), (some (.row 3 1 (List.map cI x118)))]⟩) (f62_l102 a1 x45 (f62_k98 x96 r49)) h (wkm [2, 4, 9, 12, 74, 75] (wh_drop (wh_keep (row_below Node.p _ _ _ _) (wh_keep (row_below Val.p _ _ _ _) (whk (wh_none (whk (whk (wh_none (wh_none (wh_none (wh_none (wh_keep (row_below Val.p _ _ _ _) (wh_none (wh_none (whk (wh_keep (row_below Node.p _ _ _ _) (wh_keep (row_below cK_p _ _ _ _) wh_nil)))))))))))))))))) (by intros; rw [f62_l102.eq_1]) ?_
       intro m102 x117 x118 h N102 w102
       rw [f62_l102.eq_2] at h
       refine s_so fun N119 k119 w119 => ?_
       refine o_r1 [(76, (vB (decide (x117 < (len a1.fNodes)))))] ?_
       refine o_end (k119 _ ?_)
       refine s_seq fun N120 k120 w120 => ?_
       refine i_c [76] h (fun h => ?_) (fun h => ?_)
       · refine c_skip (k120 _ ?_)
         refine s_seq fun N122 k122 w122 => ?_
         refine c_block fun E123 hE123 hO123 => ?_
         refine s_so fun N124 k124 w124 => ?_
         refine o_r2 [(13, (vI x117)), (77, (vI x117))] ?_
         refine o_end (k124 _ ?_)
         refine s_so fun N125 k125 w125 => ?_
         refine o_r2 [(79, (.mp 5)), (80, (vI x117))] ?_
         refine o_o (one_lukOk (ek := Value.int .i64) (ev := Value.int .i64) (l := x45) (o := 5) (k := x117) (z := 0) (key_int _)) ?_
         refine o_r5 [(14, (vI ((mget x117 x45).getD 0))), (15, (vB (Option.isSome (mget x117 x45)))), (78, (.tup [(vI ((mget x117 x45).getD 0)), (vB (Option.isSome (mget x117 x45)))])), (82, (vI ((mget x117 x45).getD 0))), (83, (vB (Option.isSome (mget x117 x45))))] ?_
         refine o_end (k125 _ ?_)
         refine J1 (r := r) (fun (x130 : Int) => ⟨(mkd .any 93 0 [(2, (.ptr 3 0)), (4, (.ptr 6 0)), (9, (.ptr 14 0)), (12, (.own 16 (List.length x118))), (14, (vI x130)), (74, (vI (len a1.fNodes))), (75, (vI x117))]), [none, (some (.row 57 2 (List.map Node.c []))), (some (.row 59 2 (List.map Val.c []))), (some (.box 26 [(.own 1 0), (.own 2 0)])), none, (some (.map (List.map (fun (p : (Int × Int)) => (Value.int .i64 p.1, Value.int .i64 p.2)) x45))), (some (.box 148 [(.mp 5)])), none, none, none, none, (some (.row 59 2 (List.map Val.c r49))), none, none, (some (.box 26 [(.own 15 (List.length x96)), (.own 11 (List.length r49))])), (some (.row 57 2 (List.map Node.c x96))), (some (.row 3 1 (List.map cI x118)))]⟩) (f62_k127 x118 x117 (f62_l102 a1 x45 (f62_k98 x96 r49) m102)) ?_ ?_
         · intro x130 h
           rw [f62_k127.eq_1] at h
           refine c_ops ?_
           refine o_r3 [(86, (.own 16 (List.length x118))), (87, (vI x130)), (88, (vL cI [x130]))] ?_
           refine bnd h fun l131 g132 h => ?_
           refine o_x [none, (some (.row 57 2 (List.map Node.c []))), (some (.row 59 2 (List.map Val.c []))), (some (.box 26 [(.own 1 0), (.own 2 0)])), none, (some (.map (List.map (fun (p : (Int × Int)) => (Value.int .i64 p.1, Value.int .i64 p.2)) x45))), (some (.box 148 [(.mp 5)])), none, none, none, none, (some (.row 59 2 (List.map Val.c r49))), none, none, (some (.box 26 [(.own 15 (List.length x96)), (.own 11 (List.length r49))])), (some (.row 57 2 (List.map Node.c x96))), (some (.row 3 1 (List.map cI l131)))] (one_app (f := cI) (o := 16) g132 (fun _ => ⟨rfl, rfl⟩)) ?_
           refine o_r1 [(12, (.own 16 (List.length l131)))] ?_
           refine o_end (k122 _ ?_)
           refine c_ops ?_
           refine o_r2 [(75, (vI (wr .i64 (x117 + 1)))), (90, (vI (wr .i64 (x117 + 1))))] ?_
           exact o_end (w102 _ _ _ (wkm [2, 4, 9, 12, 74, 75] (wh_none (wh_keep (row_below Node.p _ _ _ _) (wh_keep (row_below Val.p _ _ _ _) (whk (wh_none (whk (whk (wh_none (wh_none (wh_none (wh_none (wh_keep (row_below Val.p _ _ _ _) (wh_none (wh_none (whk (wh_keep (row_below Node.p _ _ _ _) (wh_keep (row_below cK_p _ _ _ _) wh_nil)))))))))))))))))) h)
         · intro N127 w127
           refine s_so fun N128 k128 w128 => ?_
           refine o_r2 [(84, (vB (Option.isSome (mget x117 x45)))), (85, (vB (!(Option.isSome (mget x117 x45)))))] ?_
           refine o_end (k128 _ ?_)
           refine i_c [85] h (fun h => ?_) (fun h => ?_)
           · refine c_ops ?_
             refine o_r1 [(14, (vI (-1)))] ?_
             exact o_end (w127 _ _ (wkm [2, 4, 9, 12, 14, 74, 75] (wh_none (wh_keep (row_below Node.p _ _ _ _) (wh_keep (row_below Val.p _ _ _ _) (whk (wh_none (whk (whk (wh_none (wh_none (wh_none (wh_none (wh_keep (row_below Val.p _ _ _ _) (wh_none (wh_none (whk (wh_keep (row_below Node.p _ _ _ _) (wh_keep (row_below cK_p _ _ _ _) wh_nil)))))))))))))))))) h)
           · exact c_skip (w127 _ _ (wkm [2, 4, 9, 12, 14, 74, 75] (wh_none (wh_keep (row_below Node.p _ _ _ _) (wh_keep (row_below Val.p _ _ _ _) (whk (wh_none (whk (whk (wh_none (wh_none (wh_none (wh_none (wh_keep (row_below Val.p _ _ _ _) (wh_none (wh_none (whk (wh_keep (row_below Node.p _ _ _ _) (wh_keep (row_below cK_p _ _ _ _) wh_nil)))))))))))))))))) h)
       · refine c_exit (hE101 _ ?_)
         exact w98 _ _ (wkm [2, 9, 12] (wh_none (wh_keep (row_below Node.p _ _ _ _) (wh_keep (row_below Val.p _ _ _ _) (whk (wh_none (wh_drop (wh_drop (wh_none (wh_none (wh_none (wh_none (wh_keep (row_below Val.p _ _ _ _) (wh_none (wh_none (whk (wh_keep (row_below Node.p _ _ _ _) (wh_keep (row_below cK_p _ _ _ _) wh_nil)))))))))))))))))) h
   · intro N51 w51
     refine s_so fun N52 k52 w52 => ?_
     refine o_r1 [(45, (.own 7 (List.length x46)))] ?_
     refine o_o (one_lenO (f := cI) (l := x46) (o := 7) (t := 3) (sz := 1)) ?_
     refine o_r1 [(47, (vI 0))] ?_
     refine o_end (k52 _ ?_)
     refine c_block fun E54 hE54 hO54 => ?_
     refine W2 (fun (x75 : Int) (x76 : (List Node)) => ⟨(mkd .any 93 0 [(1, (.ptr 0 0)), (2, (.ptr 3 0)), (4, (.ptr 6 0)), (8, (.fn 102 [(.ptr 6 0)])), (9, (.ptr 14 0)), (45, (.own 7 (List.length x46))), (46, (vI (len x46))), (47, (vI x75))]), [(some (.box 26 [(vL Node.c a1.fNodes), (vL Val.c a1.fRoots)])), (some (.row 57 2 (List.map Node.c []))), (some (.row 59 2 (List.map Val.c []))), (some (.box 26 [(.own 1 0), (.own 2 0)])), none, (some (.map (List.map (fun (p : (Int × Int)) => (Value.int .i64 p.1, Value.int .i64 p.2)) x45))), (some (.box 148 [(.mp 5)])), (some (.row 3 1 (List.map cI x46))), none, none, none, (some (.row 59 2 (List.map Val.c r49))), none, none, (some (.box 26 [(.own 15 (List.length x76)), (.own 11 (List.length r49))])), (some (.row 57 2 (List.map Node.c x76)))]⟩) (f62_l55 x46 a1 n x45 r49 (f62_k51 n a1 x45 r49)) h (wkm [1, 2, 4, 8, 9, 45, 46, 47] (whk (wh_keep (row_below Node.p _ _ _ _) (wh_keep (row_below Val.p _ _ _ _) (whk (wh_none (whk (whk (wh_keep (row_below cK_p _ _ _ _) (wh_drop (wh_none (wh_none (wh_keep (row_below Val.p _ _ _ _) (wh_drop (wh_drop (whk (wh_keep (row_below Node.p _ _ _ _) wh_nil))))))))))))))))) (by intros; rw [f62_l55.eq_1]) ?_
     intro m55 x75 x76 h N55 w55
     rw [f62_l55.eq_2] at h
     refine s_so fun N77 k77 w77 => ?_
     refine o_r1 [(48, (vB (decide (x75 < (len x46)))))] ?_
     refine o_end (k77 _ ?_)
     refine s_seq fun N78 k78 w78 => ?_
     refine i_c [48] h (fun h => ?_) (fun h => ?_)
     · refine c_skip (k78 _ ?_)
       refine s_seq fun N80 k80 w80 => ?_
       refine c_block fun E81 hE81 hO81 => ?_
       refine s_so fun N82 k82 w82 => ?_
       refine bnd h fun x83 g84 h => ?_
       refine o_o (one_iaO (f := cI) (ki := .i64) (t := 3) (o := 7) g84) ?_
       refine bnd h fun x85 g86 h => ?_
       refine o_o (one_ldE (f := cI) (k := 0) (t := 3) (sz := 1) (o := 7) g86) ?_
       refine o_r1 [(11, (vI x85))] ?_
       refine o_end (k82 _ ?_)
       refine c_draw0 ?_
       refine d_r5 [(51, (.ptr 14 0)), (52, (.own 15 (List.length x76))), (53, (.ptr 0 0)), (54, (vL Node.c a1.fNodes)), (55, (vI x85))] ?_
       refine bnd h fun x87 g88 h => ?_
       refine d_o (one_ia (f := Node.c) (ki := .i64) g88) ?_
       refine d_r6 [(57, (.iptr [(vS x87.fClass), (vL Val.c x87.fVals)])), (58, (vS x87.fClass)), (59, (.fn 102 [(.ptr 6 0)])), (60, (.ptr 0 0)), (61, (vL Node.c a1.fNodes)), (62, (vI x85))] ?_
       refine bnd h fun x89 g90 h => ?_
       refine d_o (one_ia (f := Node.c) (ki := .i64) g90) ?_
       refine d_r2 [(64, (.iptr [(vL Val.c x89.fVals)])), (65, (vL Val.c x89.fVals))] ?_
       refine bnd h fun r91 g92 h => ?_
       refine d_xe [(some (.box 26 [(vL Node.c a1.fNodes), (vL Val.c a1.fRoots)])), (some (.row 57 2 (List.map Node.c []))), (some (.row 59 2 (List.map Val.c []))), (some (.box 26 [(.own 1 0), (.own 2 0)])), none, (some (.map (List.map (fun (p : (Int × Int)) => (Value.int .i64 p.1, Value.int .i64 p.2)) x45))), (some (.box 148 [(.mp 5)])), (some (.row 3 1 (List.map cI x46))), none, none, none, (some (.row 59 2 (List.map Val.c r49))), none, none, (some (.box 26 [(.own 15 (List.length x76)), (.own 11 (List.length r49))])), (some (.row 57 2 (List.map Node.c x76))), none, none, (some (.row 59 2 (List.map Val.c r91)))] (one_callH (caps := [(.ptr 6 0)]) (q_f102_b g92)) (ra_cat (ra_cat (ra_cat (ra_cat (ra_cat ra_nil (ra_t (ra_t (ra_t (ra_t (ra_t ra_nil)))))) (ra_o (one_ia (f := Node.c) (ki := .i64) g88) ra_nil)) (ra_t (ra_t (ra_s (ra_s (ra_s (ra_s ra_nil))))))) (ra_s ra_nil)) (ra_s (ra_s ra_nil))) ?_
       refine d_r1 [(67, (.agg [(vS x87.fClass), (.own 18 (List.length r91))]))] ?_
       refine t_tm (mkd .any 93 0 [(1, (.ptr 0 0)), (2, (.ptr 3 0)), (4, (.ptr 6 0)), (8, (.fn 102 [(.ptr 6 0)])), (9, (.ptr 14 0)), (11, (vI x85)), (45, (.own 7 (List.length x46))), (46, (vI (len x46))), (47, (vI x75)), (48, (vB true)), (49, (.eptr 7 (List.length x46) (Int.toNat x75) 0)), (50, (vI x85)), (51, (.ptr 14 0)), (52, (.own 15 (List.length x76))), (53, (.ptr 0 0)), (54, (vL Node.c a1.fNodes)), (55, (vI x85)), (56, (.iptr [(vS x87.fClass), (vL Val.c x87.fVals)])), (57, (.iptr [(vS x87.fClass), (vL Val.c x87.fVals)])), (58, (vS x87.fClass)), (59, (.fn 102 [(.ptr 6 0)])), (60, (.ptr 0 0)), (61, (vL Node.c a1.fNodes)), (62, (vI x85)), (63, (.iptr [(vS x89.fClass), (vL Val.c x89.fVals)])), (64, (.iptr [(vL Val.c x89.fVals)])), (65, (vL Val.c x89.fVals)), (66, (.own 18 (List.length r91))), (67, (.agg [(vS x87.fClass), (.own 18 (List.length r91))]))]) ?_
       refine d_xe [(some (.box 26 [(vL Node.c a1.fNodes), (vL Val.c a1.fRoots)])), (some (.row 57 2 (List.map Node.c []))), (some (.row 59 2 (List.map Val.c []))), (some (.box 26 [(.own 1 0), (.own 2 0)])), none, (some (.map (List.map (fun (p : (Int × Int)) => (Value.int .i64 p.1, Value.int .i64 p.2)) x45))), (some (.box 148 [(.mp 5)])), (some (.row 3 1 (List.map cI x46))), none, none, none, (some (.row 59 2 (List.map Val.c r49))), none, none, (some (.box 26 [(.own 15 (List.length x76)), (.own 11 (List.length r49))])), (some (.row 57 2 (List.map Node.c x76))), none, none, none, (some (.row 57 2 (List.map Node.c [(Node.mk x87.fClass r91)])))] (one_bsl (f := Node.c) (ys := [(vS x87.fClass), (vL Val.c r91)]) [(Node.mk x87.fClass r91)] [[(vS x87.fClass), (.own 18 (List.length r91))]] [18] (rl_v (rl_own (g := Val.c) (l := r91) (t := 59) (sz := 2) Val.p rl_nil))) (ra_cat (ra_cat (ra_cat (ra_cat (ra_cat (ra_cat ra_nil (ra_t (ra_t (ra_s (ra_s (ra_s ra_nil)))))) (ra_s ra_nil)) (ra_s (ra_s (ra_s (ra_s (ra_s (ra_s ra_nil))))))) (ra_s ra_nil)) (ra_s (ra_s ra_nil))) (ra_s ra_nil)) ?_
       refine bnd h fun l94 g95 h => ?_
       refine d_xe [(some (.box 26 [(vL Node.c a1.fNodes), (vL Val.c a1.fRoots)])), (some (.row 57 2 (List.map Node.c []))), (some (.row 59 2 (List.map Val.c []))), (some (.box 26 [(.own 1 0), (.own 2 0)])), none, (some (.map (List.map (fun (p : (Int × Int)) => (Value.int .i64 p.1, Value.int .i64 p.2)) x45))), (some (.box 148 [(.mp 5)])), (some (.row 3 1 (List.map cI x46))), none, none, none, (some (.row 59 2 (List.map Val.c r49))), none, none, (some (.box 26 [(.own 15 (List.length x76)), (.own 11 (List.length r49))])), (some (.row 57 2 (List.map Node.c l94))), none, none, none, (some (.row 57 2 (List.map Node.c [(Node.mk x87.fClass r91)])))] (one_app (f := Node.c) (o := 15) g95 (fun _ => ⟨rfl, rfl⟩) (hy := asL_own (t := 57) (sz := 2) (by kernel_rfl))) (ra_cat (ra_cat (ra_cat (ra_cat (ra_cat (ra_cat ra_nil (ra_s (ra_s (ra_s (ra_s (ra_s ra_nil)))))) (ra_s ra_nil)) (ra_s (ra_s (ra_s (ra_s (ra_s (ra_s ra_nil))))))) (ra_s ra_nil)) (ra_s (ra_s ra_nil))) (ra_s ra_nil)) ?_
       refine d_r1 [(70, (.ptr 14 0))] ?_
       refine d_te (.val undef) [(some (.box 26 [(vL Node.c a1.fNodes), (vL Val.c a1.fRoots)])), (some (.row 57 2 (List.map Node.c []))), (some (.row 59 2 (List.map Val.c []))), (some (.box 26 [(.own 1 0), (.own 2 0)])), none, (some (.map (List.map (fun (p : (Int × Int)) => (Value.int .i64 p.1, Value.int .i64 p.2)) x45))), (some (.box 148 [(.mp 5)])), (some (.row 3 1 (List.map cI x46))), none, none, none, (some (.row 59 2 (List.map Val.c r49))), none, none, (some (.box 26 [(.own 15 (List.length l94)), (.own 11 (List.length r49))])), (some (.row 57 2 (List.map Node.c l94))), none, none, none, (some (.row 57 2 (List.map Node.c [(Node.mk x87.fClass r91)])))] (ra_cat (ra_cat (ra_cat (ra_cat (ra_cat (ra_cat (ra_cat ra_nil (ra_s (ra_s (ra_s (ra_s (ra_s ra_nil)))))) (ra_s ra_nil)) (ra_s (ra_s (ra_s (ra_s (ra_s (ra_s ra_nil))))))) (ra_s ra_nil)) (ra_s (ra_s ra_nil))) (ra_s ra_nil)) (ra_s ra_nil)) ?_
       refine d_end (w80 _ ⟨(mkd .any 93 0 [(1, (.ptr 0 0)), (2, (.ptr 3 0)), (4, (.ptr 6 0)), (8, (.fn 102 [(.ptr 6 0)])), (9, (.ptr 14 0)), (45, (.own 7 (List.length x46))), (46, (vI (len x46))), (47, (vI x75))]), [(some (.box 26 [(vL Node.c a1.fNodes), (vL Val.c a1.fRoots)])), (some (.row 57 2 (List.map Node.c []))), (some (.row 59 2 (List.map Val.c []))), (some (.box 26 [(.own 1 0), (.own 2 0)])), none, (some (.map (List.map (fun (p : (Int × Int)) => (Value.int .i64 p.1, Value.int .i64 p.2)) x45))), (some (.box 148 [(.mp 5)])), (some (.row 3 1 (List.map cI x46))), none, none, none, (some (.row 59 2 (List.map Val.c r49))), none, none, (some (.box 26 [(.own 15 (List.length l94)), (.own 11 (List.length r49))])), (some (.row 57 2 (List.map Node.c l94)))]⟩ (wkm [1, 2, 4, 8, 9, 45, 46, 47] (whk (wh_keep (row_below Node.p _ _ _ _) (wh_keep (row_below Val.p _ _ _ _) (whk (wh_none (whk (whk (wh_keep (row_below cK_p _ _ _ _) (wh_none (wh_none (wh_none (wh_keep (row_below Val.p _ _ _ _) (wh_none (wh_none (whk (wh_keep (row_below Node.p _ _ _ _) wh_nil))))))))))))))))) ?_)
       refine c_ops ?_
       refine o_r2 [(47, (vI (wr .i64 (x75 + 1)))), (71, (vI (wr .i64 (x75 + 1))))] ?_
       exact o_end (w55 _ _ _ (wkm [1, 2, 4, 8, 9, 45, 46, 47] (whk (wh_keep (row_below Node.p _ _ _ _) (wh_keep (row_below Val.p _ _ _ _) (whk (wh_none (whk (whk (wh_keep (row_below cK_p _ _ _ _) (wh_none (wh_none (wh_none (wh_keep (row_below Val.p _ _ _ _) (wh_none (wh_none (whk (wh_keep (row_below Node.p _ _ _ _) wh_nil))))))))))))))))) h)
     · refine c_exit (hE54 _ ?_)
       exact w51 _ _ (wkm [1, 2, 4, 9] (whk (wh_keep (row_below Node.p _ _ _ _) (wh_keep (row_below Val.p _ _ _ _) (whk (wh_none (whk (whk (wh_drop (wh_none (wh_none (wh_none (wh_keep (row_below Val.p _ _ _ _) (wh_none (wh_none (whk (wh_keep (row_below Node.p _ _ _ _) wh_nil))))))))))))))))) h
 · intro N10 w10
   refine s_so fun N11 k11 w11 => ?_
   refine o_r1 [(7, (vI 0))] ?_
   refine o_end (k11 _ ?_)
   refine c_block fun E12 hE12 hO12 => ?_
   refine W3 (fun (x28 : Int) (x29 : (List (Int × Int))) (x30 : (List Int)) => ⟨(mkd .any 93 0 [(1, (.ptr 0 0)), (2, (.ptr 3 0)), (4, (.ptr 6 0)), (5, (.ptr 8 0)), (6, (.fn 100 [(.ptr 6 0), (.ptr 8 0)])), (7, (vI x28))]), [(some (.box 26 [(vL Node.c a1.fNodes), (vL Val.c a1.fRoots)])), (some (.row 57 2 (List.map Node.c []))), (some (.row 59 2 (List.map Val.c []))), (some (.box 26 [(.own 1 0), (.own 2 0)])), none, (some (.map (List.map (fun (p : (Int × Int)) => (Value.int .i64 p.1, Value.int .i64 p.2)) x29))), (some (.box 148 [(.mp 5)])), (some (.row 3 1 (List.map cI x30))), (some (.box 46 [(.own 7 (List.length x30))]))]⟩) (f62_l13 a1 n (f62_k10 n a1)) h (wkm [1, 2, 4, 5, 6, 7] (whk (wh_keep (row_below Node.p _ _ _ _) (wh_keep (row_below Val.p _ _ _ _) (whk (wh_drop (whk (whk (wh_keep (row_below cK_p _ _ _ _) (whk wh_nil)))))))))) (by intros; rw [f62_l13.eq_1]) ?_
   intro m13 x28 x29 x30 h N13 w13
   rw [f62_l13.eq_2] at h
   refine s_seq fun N31 k31 w31 => ?_
   refine c_block fun E32 hE32 hO32 => ?_
   refine s_seq fun N33 k33 w33 => ?_
   refine s_so fun N34 k34 w34 => ?_
   refine o_r2 [(24, (vI x28)), (25, (.own 7 (List.length x30)))] ?_
   refine o_o (one_lenO (f := cI) (l := x30) (o := 7) (t := 3) (sz := 1)) ?_
   refine o_r1 [(27, (vB (x28 == (len x30))))] ?_
   refine o_end (k34 _ ?_)
   refine i_c [27] h (fun h => ?_) (fun h => ?_)
   · refine c_exit (hO32 _ _ (by decide) (hE12 _ ?_))
     exact w10 _ _ _ (wkm [1, 2, 4, 5] (whk (wh_keep (row_below Node.p _ _ _ _) (wh_keep (row_below Val.p _ _ _ _) (whk (wh_none (whk (whk (wh_keep (row_below cK_p _ _ _ _) (whk wh_nil)))))))))) h
   · refine c_skip (k33 _ ?_)
     refine c_draw0 ?_
     refine d_r5 [(28, (.fn 100 [(.ptr 6 0), (.ptr 8 0)])), (29, (.ptr 0 0)), (30, (vL Node.c a1.fNodes)), (31, (.own 7 (List.length x30))), (32, (vI x28))] ?_
     refine bnd h fun x37 g38 h => ?_
     refine d_o (one_iaO (f := cI) (ki := .i64) (t := 3) (o := 7) g38) ?_
     refine bnd h fun x39 g40 h => ?_
     refine d_o (one_ldE (f := cI) (k := 0) (t := 3) (sz := 1) (o := 7) g40) ?_
     refine bnd h fun x41 g42 h => ?_
     refine d_o (one_ia (f := Node.c) (ki := .i64) g42) ?_
     refine d_r2 [(36, (.iptr [(vL Val.c x41.fVals)])), (37, (vL Val.c x41.fVals))] ?_
     refine bnd h fun r43 g44 h => ?_
     refine d_xe [(some (.box 26 [(vL Node.c a1.fNodes), (vL Val.c a1.fRoots)])), (some (.row 57 2 (List.map Node.c []))), (some (.row 59 2 (List.map Val.c []))), (some (.box 26 [(.own 1 0), (.own 2 0)])), none, (some (.map (List.map (fun (p : (Int × Int)) => (Value.int .i64 p.1, Value.int .i64 p.2)) r43.1))), (some (.box 148 [(.mp 5)])), (some (.row 3 1 (List.map cI r43.2))), (some (.box 46 [(.own 7 (List.length r43.2))]))] (one_callH (caps := [(.ptr 6 0), (.ptr 8 0)]) (q_f100_b g44)) (ra_cat (ra_cat (ra_cat (ra_cat (ra_cat ra_nil (ra_s (ra_s (ra_s (ra_s (ra_s ra_nil)))))) (ra_s ra_nil)) (ra_s ra_nil)) (ra_s ra_nil)) (ra_s (ra_s ra_nil))) ?_
     refine d_end (k31 _ ?_)
     refine c_ops ?_
     refine o_r3 [(7, (vI (wr .i64 (x28 + 1)))), (22, (vI x28)), (23, (vI (wr .i64 (x28 + 1))))] ?_
     exact o_end (w13 _ _ _ _ (wkm [1, 2, 4, 5, 6, 7] (whk (wh_keep (row_below Node.p _ _ _ _) (wh_keep (row_below Val.p _ _ _ _) (whk (wh_none (whk (whk (wh_keep (row_below cK_p _ _ _ _) (whk wh_nil)))))))))) h)
theorem ic64 : fnIC Try.prog H0 64 = some ([.tmp 2], 29, (.seq (.ops [zO 2 (.nil 0 5 1)]) (.seq (.ops [zM 5 0, zO 6 (.sc (.bin .mul 3) [(.c (.int .i64 2)), (.t 5)]), zO 7 (.sc (.conv 3 154) [(.t 6)]), zM 3 7]) (.seq (.seq (.ops [zM 8 0, zO 9 (.sc (.bin .lss 3) [(.t 8), (.c (.int .i64 0))])]) (.cond (.t 9)
  (.ops [zM 10 0, zO 11 (.sc (.bin .mul 3) [(.c (.int .i64 (-2))), (.t 10)]), zO 12 (.sc (.bin .sub 3) [(.t 11), (.c (.int .i64 1))]), zO 13 (.sc (.conv 3 154) [(.t 12)]), zM 3 13])
  .skip)) (.seq (.ops [zO 4 (.nil 0 5 1)]) (.seq (.block 0 (.loop (.seq (.seq (.ops [zM 14 3, zO 15 (.sc (.bin .geq 154) [(.t 14), (.c (.int .u64 128))])]) (.cond (.t 15)
  .skip
  (.exit 0))) (.block 1 (.seq (.ops [zM 16 4, zM 17 3, zO 18 (.sc (.conv 154 5) [(.t 17)]), zO 19 (.sc (.bin .or 5) [(.t 18), (.c (.int .u8 128))]), zO 20 (.isl 1 [(.t 19)]), zO 21 (.app 0 5 1 1 (.t 16) (.t 20)), zM 4 21]) (.ops [zM 22 3, zO 23 (.sc (.bin .shr 154) [(.t 22), (.c (.int .u64 7))]), zM 3 23])))))) (.seq (.ops [zM 24 4, zM 25 3, zO 26 (.sc (.conv 154 5) [(.t 25)]), zO 27 (.isl 1 [(.t 26)]), zO 28 (.app 0 5 1 1 (.t 24) (.t 27)), zM 2 28]) .ret))))))) := by kernel_rfl
def f64_k9 (x28 : Int) (x29 : (List Int)) : Option (List Int) := ((app2 x29 [(wr .u8 x28)]).bind fun l31 => some l31)
def f64_l11 (k9k : Int → (List Int) → Option (List Int)) : Nat → Int → (List Int) → Option (List Int)
  | 0, _, _ => none
  | m11 + 1, x19, x20 => (bif (decide (x19 ≥ 128)) then ((app2 x20 [(bitOr .u8 (wr .u8 x19) 128)]).bind fun l26 => (f64_l11 (k9k) m11 (shR .u64 x19 7) l26)) else (k9k x19 x20))
def f64_k4 (n : Nat) (x7 : Int) : Option (List Int) := (f64_l11 (f64_k9) n x7 [])
def f64 (n : Nat) (a1 : Int) : Option (List Int) := (bif (decide (a1 < 0)) then (f64_k4 n (wr .u64 (wr .i64 ((wr .i64 ((-2) * a1)) - 1)))) else (f64_k4 n (wr .u64 (wr .i64 (2 * a1)))))
def f64_r (r : (List Int)) : AV := (vL (cK .u8) r)
theorem p_f64 {n : Nat} {a1 : Int} {r : (List Int)} (h : f64 n a1 = some r) : PureSpec Try.prog 64 [(vI a1)] (f64_r r) := by
 rw [f64.eq_1] at h
 refine pure_of hmix ic64 ?_
 refine go_to (mkd (.val undef) 29 0 [(0, (vI a1))]) ?_
 refine s_so fun N2 k2 w2 => ?_
 refine o_h1 [(2, (.own 0 0))] [(some (.row 5 1 (List.map (cK .u8) [])))] ?_
 refine o_end (k2 _ ?_)
 refine s_so fun N3 k3 w3 => ?_
 refine o_r4 [(3, (vKi .u64 (wr .u64 (wr .i64 (2 * a1))))), (5, (vI a1)), (6, (vI (wr .i64 (2 * a1)))), (7, (vKi .u64 (wr .u64 (wr .i64 (2 * a1)))))] ?_
 refine o_end (k3 _ ?_)
 refine J1 (r := r) (fun (x7 : Int) => ⟨(mkd .any 29 0 [(3, (vKi .u64 x7))]), []⟩) (f64_k4 n) ?_ ?_
 · intro x7 h
   rw [f64_k4.eq_1] at h
   refine s_so fun N8 k8 w8 => ?_
   refine o_h1 [(4, (.own 0 0))] [(some (.row 5 1 (List.map (cK .u8) [])))] ?_
   refine o_end (k8 _ ?_)
   refine J2 (r := r) (fun (x28 : Int) (x29 : (List Int)) => ⟨(mkd .any 29 0 [(3, (vKi .u64 x28)), (4, (.own 0 (List.length x29)))]), [(some (.row 5 1 (List.map (cK .u8) x29)))]⟩) (f64_k9) ?_ ?_
   · intro x28 x29 h
     rw [f64_k9.eq_1] at h
     refine s_so fun N30 k30 w30 => ?_
     refine o_r4 [(24, (.own 0 (List.length x29))), (25, (vKi .u64 x28)), (26, (vKi .u8 (wr .u8 x28))), (27, (vL (cK .u8) [(wr .u8 x28)]))] ?_
     refine bnd h fun l31 g32 h => ?_
     refine o_x [(some (.row 5 1 (List.map (cK .u8) l31)))] (one_app (f := (cK .u8)) (o := 0) g32 (fun _ => ⟨rfl, rfl⟩)) ?_
     refine o_r1 [(2, (.own 0 (List.length l31)))] ?_
     refine o_end (k30 _ ?_)
     exact c_ret (retsF [0] [(.own 0 (List.length l31))] [(vL (cK .u8) l31)] ⟨(fz_own (g := (cK .u8)) (l := l31) (t := 5) (sz := 1) cK_p), trivial⟩ h)
   · intro N9 w9
     refine c_block fun E10 hE10 hO10 => ?_
     refine W2 (fun (x19 : Int) (x20 : (List Int)) => ⟨(mkd .any 29 0 [(3, (vKi .u64 x19)), (4, (.own 0 (List.length x20)))]), [(some (.row 5 1 (List.map (cK .u8) x20)))]⟩) (f64_l11 (f64_k9)) h (wkm [3, 4] (wh_keep (row_below cK_p _ _ _ _) wh_nil)) (by intros; rw [f64_l11.eq_1]) ?_
     intro m11 x19 x20 h N11 w11
     rw [f64_l11.eq_2] at h
     refine s_seq fun N21 k21 w21 => ?_
     refine s_so fun N22 k22 w22 => ?_
     refine o_r2 [(14, (vKi .u64 x19)), (15, (vB (decide (x19 ≥ 128))))] ?_
     refine o_end (k22 _ ?_)
     refine i_c [15] h (fun h => ?_) (fun h => ?_)
     · refine c_skip (k21 _ ?_)
       refine c_block fun E24 hE24 hO24 => ?_
       refine s_so fun N25 k25 w25 => ?_
       refine o_r5 [(16, (.own 0 (List.length x20))), (17, (vKi .u64 x19)), (18, (vKi .u8 (wr .u8 x19))), (19, (vKi .u8 (bitOr .u8 (wr .u8 x19) 128))), (20, (vL (cK .u8) [(bitOr .u8 (wr .u8 x19) 128)]))] ?_
       refine bnd h fun l26 g27 h => ?_
       refine o_x [(some (.row 5 1 (List.map (cK .u8) l26)))] (one_app (f := (cK .u8)) (o := 0) g27 (fun _ => ⟨rfl, rfl⟩)) ?_
       refine o_r1 [(4, (.own 0 (List.length l26)))] ?_
       refine o_end (k25 _ ?_)
       refine c_ops ?_
       refine o_r3 [(3, (vKi .u64 (shR .u64 x19 7))), (22, (vKi .u64 x19)), (23, (vKi .u64 (shR .u64 x19 7)))] ?_
       exact o_end (w11 _ _ _ (wkm [3, 4] (wh_keep (row_below cK_p _ _ _ _) wh_nil)) h)
     · refine c_exit (hE10 _ ?_)
       exact w9 _ _ _ (wkm [3, 4] (wh_keep (row_below cK_p _ _ _ _) wh_nil)) h
 · intro N4 w4
   refine s_so fun N5 k5 w5 => ?_
   refine o_r2 [(8, (vI a1)), (9, (vB (decide (a1 < 0))))] ?_
   refine o_end (k5 _ ?_)
   refine i_c [9] h (fun h => ?_) (fun h => ?_)
   · refine c_ops ?_
     refine o_r5 [(3, (vKi .u64 (wr .u64 (wr .i64 ((wr .i64 ((-2) * a1)) - 1))))), (10, (vI a1)), (11, (vI (wr .i64 ((-2) * a1)))), (12, (vI (wr .i64 ((wr .i64 ((-2) * a1)) - 1)))), (13, (vKi .u64 (wr .u64 (wr .i64 ((wr .i64 ((-2) * a1)) - 1)))))] ?_
     exact o_end (w4 _ _ (wkm [3] wh_nil) h)
   · exact c_skip (w4 _ _ (wkm [3] wh_nil) h)
theorem ic63 : fnIC Try.prog H0 63 = some ([], 7, (.draw [] [zQ (zO 3 (.ld (.t 1) 1 false)), zQ (zM 4 0), zQ (zO 5 (.call 64 [(.t 4)])), ⟨zO 6 (.app 0 5 1 1 (.t 3) (.t 5)), true, 0, 1⟩, ⟨zU (.st true 1 [(0, 5, 1, 0)] (.t 1) (.t 6)), true, 1, 2⟩])) := by kernel_rfl
def f63 (n : Nat) (a1 : (List Int)) (a2 : (List Int)) (a3 : (List Node)) (a4 : (List Val)) (a5 : Int) : Option (List Int) := ((f64 n a5).bind fun r6 => ((app2 a2 r6).bind fun l8 => some l8))
def f63_r (a1 : (List Int)) (a2 : (List Int)) (a3 : (List Node)) (a4 : (List Val)) (a5 : Int) (r : (List Int)) : AV := .tup []
def f63_h (a1 : (List Int)) (a2 : (List Int)) (a3 : (List Node)) (a4 : (List Val)) (a5 : Int) (r : (List Int)) : Heap := [(some (.box 26 [(vL Node.c a3), (vL Val.c a4)])), (some (.row 5 1 (List.map (cK .u8) a1))), (some (.row 5 1 (List.map (cK .u8) r))), (some (.box 34 [(.own 2 (List.length r))]))]
theorem q_f63 {n : Nat} {a1 : (List Int)} {a2 : (List Int)} {a3 : (List Node)} {a4 : (List Val)} {a5 : Int} {r : (List Int)} (h : f63 n a1 a2 a3 a4 a5 = some r) : HSpec Try.prog 63 [(vI a5), (.ptr 3 0)] [(some (.box 26 [(vL Node.c a3), (vL Val.c a4)])), (some (.row 5 1 (List.map (cK .u8) a1))), (some (.row 5 1 (List.map (cK .u8) a2))), (some (.box 34 [(.own 2 (List.length a2))]))] (f63_r a1 a2 a3 a4 a5 r) (f63_h a1 a2 a3 a4 a5 r) := by
 rw [f63.eq_1] at h
 refine heap_of hmix ic63 ?_
 refine go_to (mkd (.val undef) 7 0 [(0, (vI a5)), (1, (.ptr 3 0))]) ?_
 refine c_draw0 ?_
 refine d_r2 [(3, (.own 2 (List.length a2))), (4, (vI a5))] ?_
 refine bnd h fun r6 g7 h => ?_
 refine d_o (one_call (p_f64 g7)) ?_
 refine bnd h fun l8 g9 h => ?_
 refine d_xe [(some (.box 26 [(vL Node.c a3), (vL Val.c a4)])), (some (.row 5 1 (List.map (cK .u8) a1))), (some (.row 5 1 (List.map (cK .u8) l8))), (some (.box 34 [(.own 2 (List.length a2))]))] (one_app (f := (cK .u8)) (o := 2) g9 (fun _ => ⟨rfl, rfl⟩)) (ra_cat (ra_cat ra_nil (ra_s (ra_s ra_nil))) (ra_s ra_nil)) ?_
 refine d_te (.val undef) [(some (.box 26 [(vL Node.c a3), (vL Val.c a4)])), (some (.row 5 1 (List.map (cK .u8) a1))), (some (.row 5 1 (List.map (cK .u8) l8))), (some (.box 34 [(.own 2 (List.length l8))]))] (ra_cat (ra_cat ra_nil (ra_s (ra_s ra_nil))) (ra_s ra_nil)) ?_
 refine d_end ?_
 exact retsH [] [] h (wkm [] (whk (wh_keep (row_below cK_p _ _ _ _) (wh_keep (row_below cK_p _ _ _ _) (whk wh_nil)))))
def f63_b (n : Nat) (a1 : (List Int)) (a2 : (List Val)) (a3 : (List Node)) (a4 : (List Val)) (a5 : ByteArray) (a6 : (List Val)) (a7 : Int) : Option (List Int) := ((f64 n a7).bind fun r8 => ((app2 a1 r8).bind fun l10 => some l10))
def f63_b_r (a1 : (List Int)) (a2 : (List Val)) (a3 : (List Node)) (a4 : (List Val)) (a5 : ByteArray) (a6 : (List Val)) (a7 : Int) (r : (List Int)) : AV := .tup []
def f63_b_h (a1 : (List Int)) (a2 : (List Val)) (a3 : (List Node)) (a4 : (List Val)) (a5 : ByteArray) (a6 : (List Val)) (a7 : Int) (r : (List Int)) : Heap := [(some (.box 26 [(vL Node.c a3), (vL Val.c a4)])), none, (some (.row 5 1 (List.map (cK .u8) r))), (some (.box 34 [(.own 2 (List.length r))])), (some (.row 59 2 (List.map Val.c a2))), (some (.box 57 [(vS a5), (vL Val.c a6)]))]
theorem q_f63_b {n : Nat} {a1 : (List Int)} {a2 : (List Val)} {a3 : (List Node)} {a4 : (List Val)} {a5 : ByteArray} {a6 : (List Val)} {a7 : Int} {r : (List Int)} (h : f63_b n a1 a2 a3 a4 a5 a6 a7 = some r) : HSpec Try.prog 63 [(vI a7), (.ptr 3 0)] [(some (.box 26 [(vL Node.c a3), (vL Val.c a4)])), none, (some (.row 5 1 (List.map (cK .u8) a1))), (some (.box 34 [(.own 2 (List.length a1))])), (some (.row 59 2 (List.map Val.c a2))), (some (.box 57 [(vS a5), (vL Val.c a6)]))] (f63_b_r a1 a2 a3 a4 a5 a6 a7 r) (f63_b_h a1 a2 a3 a4 a5 a6 a7 r) := by
 rw [f63_b.eq_1] at h
 refine heap_of hmix ic63 ?_
 refine go_to (mkd (.val undef) 7 0 [(0, (vI a7)), (1, (.ptr 3 0))]) ?_
 refine c_draw0 ?_
 refine d_r2 [(3, (.own 2 (List.length a1))), (4, (vI a7))] ?_
 refine bnd h fun r8 g9 h => ?_
 refine d_o (one_call (p_f64 g9)) ?_
 refine bnd h fun l10 g11 h => ?_
 refine d_xe [(some (.box 26 [(vL Node.c a3), (vL Val.c a4)])), none, (some (.row 5 1 (List.map (cK .u8) l10))), (some (.box 34 [(.own 2 (List.length a1))])), (some (.row 59 2 (List.map Val.c a2))), (some (.box 57 [(vS a5), (vL Val.c a6)]))] (one_app (f := (cK .u8)) (o := 2) g11 (fun _ => ⟨rfl, rfl⟩)) (ra_cat (ra_cat ra_nil (ra_s (ra_s ra_nil))) (ra_s ra_nil)) ?_
 refine d_te (.val undef) [(some (.box 26 [(vL Node.c a3), (vL Val.c a4)])), none, (some (.row 5 1 (List.map (cK .u8) l10))), (some (.box 34 [(.own 2 (List.length l10))])), (some (.row 59 2 (List.map Val.c a2))), (some (.box 57 [(vS a5), (vL Val.c a6)]))] (ra_cat (ra_cat ra_nil (ra_s (ra_s ra_nil))) (ra_s ra_nil)) ?_
 refine d_end ?_
 exact retsH [] [] h (wkm [] (whk (wh_none (wh_keep (row_below cK_p _ _ _ _) (whk (wh_keep (row_below Val.p _ _ _ _) (whk wh_nil)))))))
theorem ic65 : fnIC Try.prog H0 65 = some ([.tmp 2], 14, (.seq (.ops [zO 1 (.box 0 59 [] (.t 0)), zO 2 (.mov (.c (.int .i64 0)))]) (.seq (.seq (.ops [zO 3 (.faddr (.t 1) 0), zO 4 (.ld (.t 3) 1 false)]) (.block 0 (.seq (.ops [zO 6 (.sc (.bin .eql 3) [(.t 4), (.c (.int .i64 3))]), zM 5 6]) (.cond (.t 5)
  (.seq (.ops [zO 2 (.mov (.c (.int .i64 0)))]) .ret)
  (.seq (.ops [zO 8 (.sc (.bin .eql 3) [(.t 4), (.c (.int .i64 4))]), zM 7 8]) (.cond (.t 7)
  (.seq (.ops [zO 9 (.faddr (.t 1) 1), zO 10 (.ld (.t 9) 1 false), zO 11 (.sc (.bin .add 3) [(.t 10), (.c (.int .i64 1))]), zM 2 11]) .ret)
  .skip)))))) (.seq (.ops [zO 12 (.faddr (.t 1) 1), zO 13 (.ld (.t 12) 1 false), zM 2 13]) .ret)))) := by kernel_rfl
def f65 (n : Nat) (a1 : Val) : Option Int := (bif (a1.fKind == 3) then some 0 else (bif (a1.fKind == 4) then some (wr .i64 (a1.fN + 1)) else some a1.fN))
def f65_r (r : Int) : AV := (vI r)
theorem p_f65 {n : Nat} {a1 : Val} {r : Int} (h : f65 n a1 = some r) : PureSpec Try.prog 65 [(.agg [(vI a1.fKind), (vI a1.fN)])] (f65_r r) := by
 rw [f65.eq_1] at h
 refine pure_of hmix ic65 ?_
 refine go_to (mkd (.val undef) 14 0 [(0, (.agg [(vI a1.fKind), (vI a1.fN)]))]) ?_
 refine s_so fun N2 k2 w2 => ?_
 refine o_h2 [(1, (.ptr 0 0)), (2, (vI 0))] [(some (.box 59 [(vI a1.fKind), (vI a1.fN)]))] ?_
 refine o_end (k2 _ ?_)
 refine s_seq fun N3 k3 w3 => ?_
 refine s_so fun N4 k4 w4 => ?_
 refine o_r2 [(3, (.ptr 0 0)), (4, (vI a1.fKind))] ?_
 refine o_end (k4 _ ?_)
 refine c_block fun E5 hE5 hO5 => ?_
 refine s_so fun N6 k6 w6 => ?_
 refine o_r2 [(5, (vB (a1.fKind == 3))), (6, (vB (a1.fKind == 3)))] ?_
 refine o_end (k6 _ ?_)
 refine i_c [5, 6] h (fun h => ?_) (fun h => ?_)
 · refine s_so fun N8 k8 w8 => ?_
   refine o_r1 [] ?_
   refine o_end (k8 _ ?_)
   exact c_ret (rets [] [(vI 0)] [(vI 0)] h)
 · refine s_so fun N9 k9 w9 => ?_
   refine o_r2 [(7, (vB (a1.fKind == 4))), (8, (vB (a1.fKind == 4)))] ?_
   refine o_end (k9 _ ?_)
   refine i_c [7, 8] h (fun h => ?_) (fun h => ?_)
   · refine s_so fun N11 k11 w11 => ?_
     refine o_r4 [(2, (vI (wr .i64 (a1.fN + 1)))), (9, (.ptr 0 1)), (10, (vI a1.fN)), (11, (vI (wr .i64 (a1.fN + 1))))] ?_
     refine o_end (k11 _ ?_)
     exact c_ret (rets [] [(vI (wr .i64 (a1.fN + 1)))] [(vI (wr .i64 (a1.fN + 1)))] h)
   · refine c_skip (k3 _ ?_)
     refine s_so fun N12 k12 w12 => ?_
     refine o_r3 [(2, (vI a1.fN)), (12, (.ptr 0 1)), (13, (vI a1.fN))] ?_
     refine o_end (k12 _ ?_)
     exact c_ret (rets [] [(vI a1.fN)] [(vI a1.fN)] h)
def f63_c (n : Nat) (a1 : (List Int)) (a2 : (List Node)) (a3 : (List Val)) (a4 : Int) (a5 : Int) (a6 : Int) : Option (List Int) := ((f64 n a6).bind fun r7 => ((app2 a1 r7).bind fun l9 => some l9))
def f63_c_r (a1 : (List Int)) (a2 : (List Node)) (a3 : (List Val)) (a4 : Int) (a5 : Int) (a6 : Int) (r : (List Int)) : AV := .tup []
def f63_c_h (a1 : (List Int)) (a2 : (List Node)) (a3 : (List Val)) (a4 : Int) (a5 : Int) (a6 : Int) (r : (List Int)) : Heap := [(some (.box 26 [(vL Node.c a2), (vL Val.c a3)])), none, (some (.row 5 1 (List.map (cK .u8) r))), (some (.box 34 [(.own 2 (List.length r))])), (some (.box 59 [(vI a4), (vI a5)]))]
theorem q_f63_c {n : Nat} {a1 : (List Int)} {a2 : (List Node)} {a3 : (List Val)} {a4 : Int} {a5 : Int} {a6 : Int} {r : (List Int)} (h : f63_c n a1 a2 a3 a4 a5 a6 = some r) : HSpec Try.prog 63 [(vI a6), (.ptr 3 0)] [(some (.box 26 [(vL Node.c a2), (vL Val.c a3)])), none, (some (.row 5 1 (List.map (cK .u8) a1))), (some (.box 34 [(.own 2 (List.length a1))])), (some (.box 59 [(vI a4), (vI a5)]))] (f63_c_r a1 a2 a3 a4 a5 a6 r) (f63_c_h a1 a2 a3 a4 a5 a6 r) := by
 rw [f63_c.eq_1] at h
 refine heap_of hmix ic63 ?_
 refine go_to (mkd (.val undef) 7 0 [(0, (vI a6)), (1, (.ptr 3 0))]) ?_
 refine c_draw0 ?_
 refine d_r2 [(3, (.own 2 (List.length a1))), (4, (vI a6))] ?_
 refine bnd h fun r7 g8 h => ?_
 refine d_o (one_call (p_f64 g8)) ?_
 refine bnd h fun l9 g10 h => ?_
 refine d_xe [(some (.box 26 [(vL Node.c a2), (vL Val.c a3)])), none, (some (.row 5 1 (List.map (cK .u8) l9))), (some (.box 34 [(.own 2 (List.length a1))])), (some (.box 59 [(vI a4), (vI a5)]))] (one_app (f := (cK .u8)) (o := 2) g10 (fun _ => ⟨rfl, rfl⟩)) (ra_cat (ra_cat ra_nil (ra_s (ra_s ra_nil))) (ra_s ra_nil)) ?_
 refine d_te (.val undef) [(some (.box 26 [(vL Node.c a2), (vL Val.c a3)])), none, (some (.row 5 1 (List.map (cK .u8) l9))), (some (.box 34 [(.own 2 (List.length l9))])), (some (.box 59 [(vI a4), (vI a5)]))] (ra_cat (ra_cat ra_nil (ra_s (ra_s ra_nil))) (ra_s ra_nil)) ?_
 refine d_end ?_
 exact retsH [] [] h (wkm [] (whk (wh_none (wh_keep (row_below cK_p _ _ _ _) (whk (whk wh_nil))))))
def f63_d (n : Nat) (a1 : (List Int)) (a2 : (List Node)) (a3 : (List Val)) (a4 : Int) : Option (List Int) := ((f64 n a4).bind fun r5 => ((app2 a1 r5).bind fun l7 => some l7))
def f63_d_r (a1 : (List Int)) (a2 : (List Node)) (a3 : (List Val)) (a4 : Int) (r : (List Int)) : AV := .tup []
def f63_d_h (a1 : (List Int)) (a2 : (List Node)) (a3 : (List Val)) (a4 : Int) (r : (List Int)) : Heap := [(some (.box 26 [(vL Node.c a2), (vL Val.c a3)])), none, (some (.row 5 1 (List.map (cK .u8) r))), (some (.box 34 [(.own 2 (List.length r))]))]
theorem q_f63_d {n : Nat} {a1 : (List Int)} {a2 : (List Node)} {a3 : (List Val)} {a4 : Int} {r : (List Int)} (h : f63_d n a1 a2 a3 a4 = some r) : HSpec Try.prog 63 [(vI a4), (.ptr 3 0)] [(some (.box 26 [(vL Node.c a2), (vL Val.c a3)])), none, (some (.row 5 1 (List.map (cK .u8) a1))), (some (.box 34 [(.own 2 (List.length a1))]))] (f63_d_r a1 a2 a3 a4 r) (f63_d_h a1 a2 a3 a4 r) := by
 rw [f63_d.eq_1] at h
 refine heap_of hmix ic63 ?_
 refine go_to (mkd (.val undef) 7 0 [(0, (vI a4)), (1, (.ptr 3 0))]) ?_
 refine c_draw0 ?_
 refine d_r2 [(3, (.own 2 (List.length a1))), (4, (vI a4))] ?_
 refine bnd h fun r5 g6 h => ?_
 refine d_o (one_call (p_f64 g6)) ?_
 refine bnd h fun l7 g8 h => ?_
 refine d_xe [(some (.box 26 [(vL Node.c a2), (vL Val.c a3)])), none, (some (.row 5 1 (List.map (cK .u8) l7))), (some (.box 34 [(.own 2 (List.length a1))]))] (one_app (f := (cK .u8)) (o := 2) g8 (fun _ => ⟨rfl, rfl⟩)) (ra_cat (ra_cat ra_nil (ra_s (ra_s ra_nil))) (ra_s ra_nil)) ?_
 refine d_te (.val undef) [(some (.box 26 [(vL Node.c a2), (vL Val.c a3)])), none, (some (.row 5 1 (List.map (cK .u8) l7))), (some (.box 34 [(.own 2 (List.length l7))]))] (ra_cat (ra_cat ra_nil (ra_s (ra_s ra_nil))) (ra_s ra_nil)) ?_
 refine d_end ?_
 exact retsH [] [] h (wkm [] (whk (wh_none (wh_keep (row_below cK_p _ _ _ _) (whk wh_nil)))))
def f63_e (n : Nat) (a1 : (List Int)) (a2 : Int) (a3 : Int) (a4 : Int) : Option (List Int) := ((f64 n a4).bind fun r5 => ((app2 a1 r5).bind fun l7 => some l7))
def f63_e_r (a1 : (List Int)) (a2 : Int) (a3 : Int) (a4 : Int) (r : (List Int)) : AV := .tup []
def f63_e_h (a1 : (List Int)) (a2 : Int) (a3 : Int) (a4 : Int) (r : (List Int)) : Heap := [none, none, (some (.row 5 1 (List.map (cK .u8) r))), (some (.box 34 [(.own 2 (List.length r))])), (some (.box 59 [(vI a2), (vI a3)]))]
theorem q_f63_e {n : Nat} {a1 : (List Int)} {a2 : Int} {a3 : Int} {a4 : Int} {r : (List Int)} (h : f63_e n a1 a2 a3 a4 = some r) : HSpec Try.prog 63 [(vI a4), (.ptr 3 0)] [none, none, (some (.row 5 1 (List.map (cK .u8) a1))), (some (.box 34 [(.own 2 (List.length a1))])), (some (.box 59 [(vI a2), (vI a3)]))] (f63_e_r a1 a2 a3 a4 r) (f63_e_h a1 a2 a3 a4 r) := by
 rw [f63_e.eq_1] at h
 refine heap_of hmix ic63 ?_
 refine go_to (mkd (.val undef) 7 0 [(0, (vI a4)), (1, (.ptr 3 0))]) ?_
 refine c_draw0 ?_
 refine d_r2 [(3, (.own 2 (List.length a1))), (4, (vI a4))] ?_
 refine bnd h fun r5 g6 h => ?_
 refine d_o (one_call (p_f64 g6)) ?_
 refine bnd h fun l7 g8 h => ?_
 refine d_xe [none, none, (some (.row 5 1 (List.map (cK .u8) l7))), (some (.box 34 [(.own 2 (List.length a1))])), (some (.box 59 [(vI a2), (vI a3)]))] (one_app (f := (cK .u8)) (o := 2) g8 (fun _ => ⟨rfl, rfl⟩)) (ra_cat (ra_cat ra_nil (ra_s (ra_s ra_nil))) (ra_s ra_nil)) ?_
 refine d_te (.val undef) [none, none, (some (.row 5 1 (List.map (cK .u8) l7))), (some (.box 34 [(.own 2 (List.length l7))])), (some (.box 59 [(vI a2), (vI a3)]))] (ra_cat (ra_cat ra_nil (ra_s (ra_s ra_nil))) (ra_s ra_nil)) ?_
 refine d_end ?_
 exact retsH [] [] h (wkm [] (wh_none (wh_none (wh_keep (row_below cK_p _ _ _ _) (whk (whk wh_nil))))))
theorem ic66 : fnIC Try.prog H0 66 = some ([.tmp 2], 31, (.seq (.ops [zO 2 (.nil 0 5 1)]) (.seq (.ops [zO 3 (.mov (.c (.int .i64 1)))]) (.seq (.seq (.ops [zM 6 0, zO 7 (.len false (.t 6)), zO 8 (.mov (.c (.int .i64 0)))]) (.block 0 (.loop (.seq (.ops [zO 9 (.sc (.bin .lss 3) [(.t 8), (.t 7)])]) (.seq (.cond (.t 9)
  .skip
  (.exit 0)) (.seq (.block 1 (.seq (.ops [zO 10 (.iaddr 1 (.t 6) (.t 8)), zO 11 (.ld (.t 10) 1 false), zM 5 11]) (.ops [zM 12 3, zO 13 (.sc (.bin .mul 3) [(.c (.int .i64 31)), (.t 12)]), zM 14 5, zO 15 (.sc (.conv 5 3) [(.t 14)]), zO 16 (.sc (.bin .add 3) [(.t 13), (.t 15)]), zO 17 (.sc (.bin .rem 3) [(.t 16), (.c (.int .i64 2147483647))]), zM 3 17]))) (.ops [zO 18 (.sc (.bin .add 3) [(.t 8), (.c (.int .i64 1))]), zM 8 18]))))))) (.seq (.ops [zM 19 3, zO 20 (.sc (.bin .shr 3) [(.t 19), (.c (.int .u64 24))]), zO 21 (.sc (.conv 3 5) [(.t 20)]), zM 22 3, zO 23 (.sc (.bin .shr 3) [(.t 22), (.c (.int .u64 16))]), zO 24 (.sc (.conv 3 5) [(.t 23)]), zM 25 3, zO 26 (.sc (.bin .shr 3) [(.t 25), (.c (.int .u64 8))]), zO 27 (.sc (.conv 3 5) [(.t 26)]), zM 28 3, zO 29 (.sc (.conv 3 5) [(.t 28)]), zO 30 (.isl 1 [(.t 21), (.t 24), (.t 27), (.t 29)]), zM 2 30]) .ret))))) := by kernel_rfl
def f66_k4 (x31 : Int) : Option (List Int) := some [(wr .u8 (shR .i64 x31 24)), (wr .u8 (shR .i64 x31 16)), (wr .u8 (shR .i64 x31 8)), (wr .u8 x31)]
def f66_l8 (a1 : (List Int)) (k4k : Int → Option (List Int)) : Nat → Int → Int → Option (List Int)
  | 0, _, _ => none
  | m8 + 1, x19, x20 => (bif (decide (x20 < (len a1))) then ((gi a1 x20).bind fun x27 => ((gi a1 x20).bind fun x29 => (f66_l8 a1 (k4k) m8 (Int.tmod (wr .i64 ((wr .i64 (31 * x19)) + (wr .i64 x29))) 2147483647) (wr .i64 (x20 + 1))))) else (k4k x19))
def f66 (n : Nat) (a1 : (List Int)) : Option (List Int) := (f66_l8 a1 (f66_k4) n 1 0)
def f66_r (a1 : (List Int)) (r : (List Int)) : AV := (vL (cK .u8) r)
def f66_h (a1 : (List Int)) (r : (List Int)) : Heap := [none, none, (some (.row 5 1 (List.map (cK .u8) a1))), (some (.box 34 [(.own 2 (List.length a1))]))]
theorem q_f66 {n : Nat} {a1 : (List Int)} {r : (List Int)} (h : f66 n a1 = some r) : HSpec Try.prog 66 [(.own 2 (List.length a1))] [none, none, (some (.row 5 1 (List.map (cK .u8) a1))), (some (.box 34 [(.own 2 (List.length a1))]))] (f66_r a1 r) (f66_h a1 r) := by
 rw [f66.eq_1] at h
 refine heap_of hmix ic66 ?_
 refine go_to (mkd (.val undef) 31 0 [(0, (.own 2 (List.length a1)))]) ?_
 refine s_so fun N2 k2 w2 => ?_
 refine o_h1 [(2, (.own 4 0))] [none, none, (some (.row 5 1 (List.map (cK .u8) a1))), (some (.box 34 [(.own 2 (List.length a1))])), (some (.row 5 1 (List.map (cK .u8) [])))] ?_
 refine o_end (k2 _ ?_)
 refine s_so fun N3 k3 w3 => ?_
 refine o_r1 [(3, (vI 1))] ?_
 refine o_end (k3 _ ?_)
 refine J1 (r := r) (fun (x31 : Int) => ⟨(mkd .any 31 0 [(3, (vI x31))]), [none, none, (some (.row 5 1 (List.map (cK .u8) a1))), (some (.box 34 [(.own 2 (List.length a1))]))]⟩) (f66_k4) ?_ ?_
 · intro x31 h
   rw [f66_k4.eq_1] at h
   refine s_so fun N32 k32 w32 => ?_
   refine o_r13 [(2, (vL (cK .u8) [(wr .u8 (shR .i64 x31 24)), (wr .u8 (shR .i64 x31 16)), (wr .u8 (shR .i64 x31 8)), (wr .u8 x31)])), (19, (vI x31)), (20, (vI (shR .i64 x31 24))), (21, (vKi .u8 (wr .u8 (shR .i64 x31 24)))), (22, (vI x31)), (23, (vI (shR .i64 x31 16))), (24, (vKi .u8 (wr .u8 (shR .i64 x31 16)))), (25, (vI x31)), (26, (vI (shR .i64 x31 8))), (27, (vKi .u8 (wr .u8 (shR .i64 x31 8)))), (28, (vI x31)), (29, (vKi .u8 (wr .u8 x31))), (30, (vL (cK .u8) [(wr .u8 (shR .i64 x31 24)), (wr .u8 (shR .i64 x31 16)), (wr .u8 (shR .i64 x31 8)), (wr .u8 x31)]))] ?_
   refine o_end (k32 _ ?_)
   exact c_ret (retsH [(vL (cK .u8) [(wr .u8 (shR .i64 x31 24)), (wr .u8 (shR .i64 x31 16)), (wr .u8 (shR .i64 x31 8)), (wr .u8 x31)])] [(vL (cK .u8) [(wr .u8 (shR .i64 x31 24)), (wr .u8 (shR .i64 x31 16)), (wr .u8 (shR .i64 x31 8)), (wr .u8 x31)])] h (wkm [0] (wh_none (wh_none (wh_keep (row_below cK_p _ _ _ _) (whk wh_nil))))))
 · intro N4 w4
   refine s_so fun N5 k5 w5 => ?_
   refine o_r1 [(6, (.own 2 (List.length a1)))] ?_
   refine o_o (one_lenO (f := (cK .u8)) (l := a1) (o := 2) (t := 5) (sz := 1)) ?_
   refine o_r1 [(8, (vI 0))] ?_
   refine o_end (k5 _ ?_)
   refine c_block fun E7 hE7 hO7 => ?_
   refine W2 (fun (x19 : Int) (x20 : Int) => ⟨(mkd .any 31 0 [(3, (vI x19)), (6, (.own 2 (List.length a1))), (7, (vI (len a1))), (8, (vI x20))]), [none, none, (some (.row 5 1 (List.map (cK .u8) a1))), (some (.box 34 [(.own 2 (List.length a1))]))]⟩) (f66_l8 a1 (f66_k4)) h (wkm [3, 6, 7, 8] (wh_none (wh_none (wh_keep (row_below cK_p _ _ _ _) (whk wh_nil))))) (by intros; rw [f66_l8.eq_1]) ?_
   intro m8 x19 x20 h N8 w8
   rw [f66_l8.eq_2] at h
   refine s_so fun N21 k21 w21 => ?_
   refine o_r1 [(9, (vB (decide (x20 < (len a1)))))] ?_
   refine o_end (k21 _ ?_)
   refine s_seq fun N22 k22 w22 => ?_
   refine i_c [9] h (fun h => ?_) (fun h => ?_)
   · refine c_skip (k22 _ ?_)
     refine s_seq fun N24 k24 w24 => ?_
     refine c_block fun E25 hE25 hO25 => ?_
     refine s_so fun N26 k26 w26 => ?_
     refine bnd h fun x27 g28 h => ?_
     refine o_o (one_iaO (f := (cK .u8)) (ki := .i64) (t := 5) (o := 2) g28) ?_
     refine bnd h fun x29 g30 h => ?_
     refine o_o (one_ldE (f := (cK .u8)) (k := 0) (t := 5) (sz := 1) (o := 2) g30) ?_
     refine o_r1 [(5, (vKi .u8 x29))] ?_
     refine o_end (k26 _ ?_)
     refine c_ops ?_
     refine o_r7 [(3, (vI (Int.tmod (wr .i64 ((wr .i64 (31 * x19)) + (wr .i64 x29))) 2147483647))), (12, (vI x19)), (13, (vI (wr .i64 (31 * x19)))), (14, (vKi .u8 x29)), (15, (vI (wr .i64 x29))), (16, (vI (wr .i64 ((wr .i64 (31 * x19)) + (wr .i64 x29))))), (17, (vI (Int.tmod (wr .i64 ((wr .i64 (31 * x19)) + (wr .i64 x29))) 2147483647)))] ?_
     refine o_end (k24 _ ?_)
     refine c_ops ?_
     refine o_r2 [(8, (vI (wr .i64 (x20 + 1)))), (18, (vI (wr .i64 (x20 + 1))))] ?_
     exact o_end (w8 _ _ _ (wkm [3, 6, 7, 8] (wh_none (wh_none (wh_keep (row_below cK_p _ _ _ _) (whk wh_nil))))) h)
   · refine c_exit (hE7 _ ?_)
     exact w4 _ _ (wkm [3] (wh_none (wh_none (wh_keep (row_below cK_p _ _ _ _) (whk wh_nil))))) h
theorem ic20 : fnIC Try.prog H0 20 = some ([.tmp 4, .tmp 5], 83, (.seq (.ops [zO 3 (.box 0 26 [(0, 57, 2, 0), (1, 59, 2, 0)] (.t 1)), zO 4 (.nil 0 5 1), zO 5 (.mov (.c (.int .i64 0)))]) (.seq (.seq (.ops [zM 15 0, zO 16 (.ld (.t 3) 2 true), zO 17 (.call 18 [(.t 15), (.t 16)]), zM 6 17]) (.seq (.ops [zM 18 6, zO 19 (.sc (.bin .neq 30) [(.t 18), (.c (.int .i64 0))])]) (.cond (.t 19)
  (.seq (.ops [zM 20 6, zO 4 (.nil 0 5 1), zM 5 20]) .ret)
  .skip))) (.seq (.ops [zO 22 (.ld (.t 3) 2 true), zO 23 (.call 62 [(.t 22)]), zM 21 23, zO 24 (.ext (.t 21) 0), zO 25 (.ext (.t 21) 1), zU (.st true 2 [(0, 57, 2, 0), (1, 59, 2, 0)] (.t 3) (.t 24))]) (.seq (.ops [zO 7 (.alloc 0 34 [(0, 5, 1, 0)] [(.slice none 0 0)])]) (.seq (.ops [zO 26 (.mkf 63 [(.t 7)]), zM 8 26]) (.seq (.ops [zM 27 8, zO 28 (.faddr (.t 3) 0), zO 29 (.ld (.t 28) 1 false), zO 30 (.len false (.t 29)), zO 31 (.callv (.t 27) [(.t 30)])]) (.seq (.seq (.ops [zO 32 (.faddr (.t 3) 0), zO 33 (.ld (.t 32) 1 false), zO 34 (.len false (.t 33)), zO 35 (.mov (.c (.int .i64 0)))]) (.block 0 (.loop (.seq (.ops [zO 36 (.sc (.bin .lss 3) [(.t 35), (.t 34)])]) (.seq (.cond (.t 36)
  .skip
  (.exit 0)) (.seq (.block 1 (.seq (.ops [zO 37 (.iaddr 2 (.t 33) (.t 35)), zO 38 (.ld (.t 37) 2 true), zO 10 (.alloc 0 57 [(1, 59, 2, 0)] [(.string ⟨#[]⟩), (.slice none 0 0)]), zU (.st true 2 [(1, 59, 2, 0)] (.t 10) (.t 38))]) (.seq (.ops [zM 39 8, zM 40 0, zO 41 (.faddr (.t 10) 0), zO 42 (.ld (.t 41) 1 false), zO 43 (.call 52 [(.t 40), (.t 42)]), zO 44 (.callv (.t 39) [(.t 43)])]) (.seq (.ops [zO 45 (.faddr (.t 10) 1), zO 46 (.ld (.t 45) 1 false), zO 47 (.len false (.t 46)), zO 48 (.mov (.c (.int .i64 0)))]) (.block 2 (.loop (.seq (.ops [zO 49 (.sc (.bin .lss 3) [(.t 48), (.t 47)])]) (.seq (.cond (.t 49)
  .skip
  (.exit 2)) (.seq (.block 3 (.seq (.ops [zO 50 (.iaddr 2 (.t 46) (.t 48)), zO 51 (.ld (.t 50) 2 true), zO 12 (.alloc 0 59 [] [(.int .i64 0), (.int .i64 0)]), zU (.st true 2 [] (.t 12) (.t 51))]) (.ops [zM 52 8, zO 53 (.ld (.t 12) 2 true), zO 54 (.call 65 [(.t 53)]), zO 55 (.callv (.t 52) [(.t 54)])]))) (.ops [zO 56 (.sc (.bin .add 3) [(.t 48), (.c (.int .i64 1))]), zM 48 56])))))))))) (.ops [zO 57 (.sc (.bin .add 3) [(.t 35), (.c (.int .i64 1))]), zM 35 57]))))))) (.seq (.ops [zM 58 8, zO 59 (.faddr (.t 3) 1), zO 60 (.ld (.t 59) 1 false), zO 61 (.len false (.t 60)), zO 62 (.callv (.t 58) [(.t 61)])]) (.seq (.seq (.ops [zO 63 (.faddr (.t 3) 1), zO 64 (.ld (.t 63) 1 false), zO 65 (.len false (.t 64)), zO 66 (.mov (.c (.int .i64 0)))]) (.block 4 (.loop (.seq (.ops [zO 67 (.sc (.bin .lss 3) [(.t 66), (.t 65)])]) (.seq (.cond (.t 67)
  .skip
  (.exit 4)) (.seq (.block 5 (.seq (.ops [zO 68 (.iaddr 2 (.t 64) (.t 66)), zO 69 (.ld (.t 68) 2 true), zO 14 (.alloc 0 59 [] [(.int .i64 0), (.int .i64 0)]), zU (.st true 2 [] (.t 14) (.t 69))]) (.ops [zM 70 8, zO 71 (.ld (.t 14) 2 true), zO 72 (.call 65 [(.t 71)]), zO 73 (.callv (.t 70) [(.t 72)])]))) (.ops [zO 74 (.sc (.bin .add 3) [(.t 66), (.c (.int .i64 1))]), zM 66 74]))))))) (.seq (.draw [] [zQ (zO 75 (.ld (.t 7) 1 false)), zQ (zO 76 (.ld (.t 7) 1 false)), zQ (zO 77 (.callv (.f 66) [(.t 76)])), ⟨zO 78 (.app 0 5 1 1 (.t 75) (.t 77)), true, 0, 1⟩, ⟨zU (.st true 1 [(0, 5, 1, 0)] (.t 7) (.t 78)), true, 1, 2⟩]) (.seq (.seq (.ops [zO 79 (.ld (.t 7) 1 false), zO 80 (.len false (.t 79)), zO 81 (.sc (.bin .gtr 3) [(.t 80), (.c (.int .i64 60000))])]) (.cond (.t 81)
  (.seq (.ops [zO 4 (.nil 0 5 1), zO 5 (.mov (.c (.int .i64 3)))]) .ret)
  .skip)) (.seq (.ops [zO 82 (.ld (.t 7) 1 false), zM 4 82, zO 5 (.mov (.c (.int .i64 0)))]) .ret))))))))))))) := by kernel_rfl
def f20_k74 (x69 : Int) (c24k : Int → (List Int) → Option ((List Int) × Int)) (x114 : (List Int)) : Option ((List Int) × Int) := (c24k (wr .i64 (x69 + 1)) x114)
def f20_l87 (x77 : Node) (n : Nat) (r12 : (Graph × (List Int))) (k74k : (List Int) → Option ((List Int) × Int)) : Nat → Int → (List Int) → Option ((List Int) × Int)
  | 0, _, _ => none
  | m87 + 1, x100, x101 => (bif (decide (x100 < (len x77.fVals))) then ((gi x77.fVals x100).bind fun x108 => ((f65 n x108).bind fun r110 => ((f63_c n x101 r12.1.fNodes r12.1.fRoots x108.fKind x108.fN r110).bind fun r112 => (f20_l87 x77 n r12 (k74k) m87 (wr .i64 (x100 + 1)) r112)))) else (k74k x101))
def f20_k120 (n : Nat) (x151 : (List Int)) : Option ((List Int) × Int) := ((f66 n x151).bind fun r153 => ((app2 x151 r153).bind fun l155 => (bif (decide ((len l155) > 60000)) then some ([], 3) else some (l155, 0))))
def f20_l124 (r12 : (Graph × (List Int))) (n : Nat) (k120k : (List Int) → Option ((List Int) × Int)) : Nat → Int → (List Int) → Option ((List Int) × Int)
  | 0, _, _ => none
  | m124 + 1, x137, x138 => (bif (decide (x137 < (len r12.1.fRoots))) then ((gi r12.1.fRoots x137).bind fun x145 => ((f65 n x145).bind fun r147 => ((f63_e n x138 x145.fKind x145.fN r147).bind fun r149 => (f20_l124 r12 n (k120k) m124 (wr .i64 (x137 + 1)) r149)))) else (k120k x138))
def f20_k20 (n : Nat) (r12 : (Graph × (List Int))) (x115 : (List Int)) : Option ((List Int) × Int) := ((f63_d n x115 r12.1.fNodes r12.1.fRoots (len r12.1.fRoots)).bind fun r118 => (f20_l124 r12 n (f20_k120 n) n 0 r118))
def f20_l24 (r12 : (Graph × (List Int))) (n : Nat) (a1 : (List Form)) (k20k : (List Int) → Option ((List Int) × Int)) : Nat → Int → (List Int) → Option ((List Int) × Int)
  | 0, _, _ => none
  | m24 + 1, x69, x70 => (bif (decide (x69 < (len r12.1.fNodes))) then ((gi r12.1.fNodes x69).bind fun x77 => ((f52 n a1 x77.fClass).bind fun r80 => ((f63_b n x70 [] r12.1.fNodes r12.1.fRoots x77.fClass x77.fVals r80).bind fun r82 => (f20_l87 x77 n r12 (f20_k74 x69 (f20_l24 r12 n a1 (k20k) m24)) n 0 r82)))) else (k20k x70))
def f20 (n : Nat) (a1 : (List Form)) (a2 : Graph) : Option ((List Int) × Int) := ((f18 n a1 a2).bind fun r6 => (bif (r6 != 0) then some ([], r6) else ((f62 n a2).bind fun r12 => ((f63 n [] [] r12.1.fNodes r12.1.fRoots (len r12.1.fNodes)).bind fun r18 => (f20_l24 r12 n a1 (f20_k20 n r12) n 0 r18)))))
def f20_r (r : ((List Int) × Int)) : AV := (.tup [(vL (cK .u8) r.1), (vI r.2)])
theorem p_f20 {n : Nat} {a1 : (List Form)} {a2 : Graph} {r : ((List Int) × Int)} (h : f20 n a1 a2 = some r) : PureSpec Try.prog 20 [(vL Form.c a1), (.agg [(vL Node.c a2.fNodes), (vL Val.c a2.fRoots)])] (f20_r r) := by
 rw [f20.eq_1] at h
 refine pure_of hmix ic20 ?_
 refine go_to (mkd (.val undef) 83 0 [(0, (vL Form.c a1)), (1, (.agg [(vL Node.c a2.fNodes), (vL Val.c a2.fRoots)]))]) ?_
 refine s_so fun N3 k3 w3 => ?_
 refine o_h3 [(3, (.ptr 0 0)), (4, (.own 1 0)), (5, (vI 0))] [(some (.box 26 [(vL Node.c a2.fNodes), (vL Val.c a2.fRoots)])), (some (.row 5 1 (List.map (cK .u8) [])))] ?_
 refine o_end (k3 _ ?_)
 refine s_seq fun N4 k4 w4 => ?_
 refine s_so fun N5 k5 w5 => ?_
 refine o_r2 [(15, (vL Form.c a1)), (16, (.agg [(vL Node.c a2.fNodes), (vL Val.c a2.fRoots)]))] ?_
 refine bnd h fun r6 g7 h => ?_
 refine o_o (one_call (p_f18 g7)) ?_
 refine o_r1 [(6, (vI r6))] ?_
 refine o_end (k5 _ ?_)
 refine s_so fun N8 k8 w8 => ?_
 refine o_r2 [(18, (vI r6)), (19, (vB (r6 != 0)))] ?_
 refine o_end (k8 _ ?_)
 refine i_c [19] h (fun h => ?_) (fun h => ?_)
 · refine s_so fun N10 k10 w10 => ?_
   refine o_h3 [(4, (.own 2 0)), (5, (vI r6)), (20, (vI r6))] [(some (.box 26 [(vL Node.c a2.fNodes), (vL Val.c a2.fRoots)])), (some (.row 5 1 (List.map (cK .u8) []))), (some (.row 5 1 (List.map (cK .u8) [])))] ?_
   refine o_end (k10 _ ?_)
   exact c_ret (retsF [2] [(.own 2 0), (vI r6)] [(vL (cK .u8) []), (vI r6)] ⟨(fz_own (g := (cK .u8)) (l := []) (t := 5) (sz := 1) cK_p), fz_v, trivial⟩ h)
 · refine c_skip (k4 _ ?_)
   refine s_so fun N11 k11 w11 => ?_
   refine o_r1 [(22, (.agg [(vL Node.c a2.fNodes), (vL Val.c a2.fRoots)]))] ?_
   refine bnd h fun r12 g13 h => ?_
   refine o_o (one_call (p_f62 g13)) ?_
   refine o_h4 [(21, (.tup [(.agg [(vL Node.c r12.1.fNodes), (vL Val.c r12.1.fRoots)]), (vL cI r12.2)])), (24, (.agg [(vL Node.c r12.1.fNodes), (vL Val.c r12.1.fRoots)])), (25, (vL cI r12.2))] [(some (.box 26 [(vL Node.c r12.1.fNodes), (vL Val.c r12.1.fRoots)])), (some (.row 5 1 (List.map (cK .u8) [])))] ?_
   refine o_end (k11 _ ?_)
   refine s_so fun N14 k14 w14 => ?_
   refine o_h1 [(7, (.ptr 3 0))] [(some (.box 26 [(vL Node.c r12.1.fNodes), (vL Val.c r12.1.fRoots)])), (some (.row 5 1 (List.map (cK .u8) []))), (some (.row 5 1 (List.map (cK .u8) []))), (some (.box 34 [(.own 2 0)]))] ?_
   refine o_end (k14 _ ?_)
   refine s_so fun N15 k15 w15 => ?_
   refine o_r2 [(8, (.fn 63 [(.ptr 3 0)])), (26, (.fn 63 [(.ptr 3 0)]))] ?_
   refine o_end (k15 _ ?_)
   refine s_so fun N16 k16 w16 => ?_
   refine o_r3 [(27, (.fn 63 [(.ptr 3 0)])), (28, (.ptr 0 0)), (29, (vL Node.c r12.1.fNodes))] ?_
   refine s_tm (mkd (.val undef) 83 0 [(0, (vL Form.c a1)), (1, (.agg [(vL Node.c a2.fNodes), (vL Val.c a2.fRoots)])), (3, (.ptr 0 0)), (4, (.own 1 0)), (5, (vI 0)), (6, (vI r6)), (7, (.ptr 3 0)), (8, (.fn 63 [(.ptr 3 0)])), (15, (vL Form.c a1)), (16, (.agg [(vL Node.c a2.fNodes), (vL Val.c a2.fRoots)])), (17, (vI r6)), (18, (vI r6)), (19, (vB false)), (21, (.tup [(.agg [(vL Node.c r12.1.fNodes), (vL Val.c r12.1.fRoots)]), (vL cI r12.2)])), (22, (.agg [(vL Node.c a2.fNodes), (vL Val.c a2.fRoots)])), (23, (.tup [(.agg [(vL Node.c r12.1.fNodes), (vL Val.c r12.1.fRoots)]), (vL cI r12.2)])), (24, (.agg [(vL Node.c r12.1.fNodes), (vL Val.c r12.1.fRoots)])), (25, (vL cI r12.2)), (26, (.fn 63 [(.ptr 3 0)])), (27, (.fn 63 [(.ptr 3 0)])), (28, (.ptr 0 0)), (29, (vL Node.c r12.1.fNodes))]) ?_
   refine o_o (one_len (f := Node.c) (l := r12.1.fNodes)) ?_
   refine bnd h fun r18 g19 h => ?_
   refine o_x [(some (.box 26 [(vL Node.c r12.1.fNodes), (vL Val.c r12.1.fRoots)])), (some (.row 5 1 (List.map (cK .u8) []))), (some (.row 5 1 (List.map (cK .u8) r18))), (some (.box 34 [(.own 2 (List.length r18))]))] (one_callH (caps := [(.ptr 3 0)]) (q_f63 g19)) ?_
   refine o_end (w16 _ ⟨(mkd .any 83 0 [(0, (vL Form.c a1)), (3, (.ptr 0 0)), (7, (.ptr 3 0)), (8, (.fn 63 [(.ptr 3 0)]))]), [(some (.box 26 [(vL Node.c r12.1.fNodes), (vL Val.c r12.1.fRoots)])), none, (some (.row 5 1 (List.map (cK .u8) r18))), (some (.box 34 [(.own 2 (List.length r18))]))]⟩ (wkm [0, 3, 7, 8] (whk (wh_drop (wh_keep (row_below cK_p _ _ _ _) (whk wh_nil))))) ?_)
   refine J1 (r := r) (fun (x115 : (List Int)) => ⟨(mkd .any 83 0 [(3, (.ptr 0 0)), (7, (.ptr 3 0)), (8, (.fn 63 [(.ptr 3 0)]))]), [(some (.box 26 [(vL Node.c r12.1.fNodes), (vL Val.c r12.1.fRoots)])), none, (some (.row 5 1 (List.map (cK .u8) x115))), (some (.box 34 [(.own 2 (List.length x115))]))]⟩) (f20_k20 n r12) ?_ ?_
   · intro x115 h
     rw [f20_k20.eq_1] at h
     refine s_so fun N116 k116 w116 => ?_
     refine o_r3 [(58, (.fn 63 [(.ptr 3 0)])), (59, (.ptr 0 1)), (60, (vL Val.c r12.1.fRoots))] ?_
     refine o_o (one_len (f := Val.c) (l := r12.1.fRoots)) ?_
     refine bnd h fun r118 g119 h => ?_
     refine o_x [(some (.box 26 [(vL Node.c r12.1.fNodes), (vL Val.c r12.1.fRoots)])), none, (some (.row 5 1 (List.map (cK .u8) r118))), (some (.box 34 [(.own 2 (List.length r118))]))] (one_callH (caps := [(.ptr 3 0)]) (q_f63_d g119)) ?_
     refine o_end (k116 _ ?_)
     refine J1 (r := r) (fun (x151 : (List Int)) => ⟨(mkd .any 83 0 [(7, (.ptr 3 0))]), [none, none, (some (.row 5 1 (List.map (cK .u8) x151))), (some (.box 34 [(.own 2 (List.length x151))]))]⟩) (f20_k120 n) ?_ ?_
     · intro x151 h
       rw [f20_k120.eq_1] at h
       refine s_seq fun N152 k152 w152 => ?_
       refine c_draw0 ?_
       refine d_r2 [(75, (.own 2 (List.length x151))), (76, (.own 2 (List.length x151)))] ?_
       refine bnd h fun r153 g154 h => ?_
       refine d_o (one_callH (caps := []) (q_f66 g154)) ?_
       refine bnd h fun l155 g156 h => ?_
       refine d_xe [none, none, (some (.row 5 1 (List.map (cK .u8) l155))), (some (.box 34 [(.own 2 (List.length x151))]))] (one_app (f := (cK .u8)) (o := 2) g156 (fun _ => ⟨rfl, rfl⟩)) (ra_cat (ra_cat ra_nil (ra_s (ra_s ra_nil))) (ra_s ra_nil)) ?_
       refine d_te (.val undef) [none, none, (some (.row 5 1 (List.map (cK .u8) l155))), (some (.box 34 [(.own 2 (List.length l155))]))] (ra_cat (ra_cat ra_nil (ra_s (ra_s ra_nil))) (ra_s ra_nil)) ?_
       refine d_end (k152 _ ?_)
       refine s_seq fun N157 k157 w157 => ?_
       refine s_so fun N158 k158 w158 => ?_
       refine o_r1 [(79, (.own 2 (List.length l155)))] ?_
       refine o_o (one_lenO (f := (cK .u8)) (l := l155) (o := 2) (t := 5) (sz := 1)) ?_
       refine o_r1 [(81, (vB (decide ((len l155) > 60000))))] ?_
       refine o_end (k158 _ ?_)
       refine i_c [81] h (fun h => ?_) (fun h => ?_)
       · refine s_so fun N161 k161 w161 => ?_
         refine o_h2 [(4, (.own 4 0)), (5, (vI 3))] [none, none, (some (.row 5 1 (List.map (cK .u8) l155))), (some (.box 34 [(.own 2 (List.length l155))])), (some (.row 5 1 (List.map (cK .u8) [])))] ?_
         refine o_end (k161 _ ?_)
         exact c_ret (retsF [4] [(.own 4 0), (vI 3)] [(vL (cK .u8) []), (vI 3)] ⟨(fz_own (g := (cK .u8)) (l := []) (t := 5) (sz := 1) cK_p), fz_v, trivial⟩ h)
       · refine c_skip (k157 _ ?_)
         refine s_so fun N162 k162 w162 => ?_
         refine o_r3 [(4, (.own 2 (List.length l155))), (5, (vI 0)), (82, (.own 2 (List.length l155)))] ?_
         refine o_end (k162 _ ?_)
         exact c_ret (retsF [2] [(.own 2 (List.length l155)), (vI 0)] [(vL (cK .u8) l155), (vI 0)] ⟨(fz_own (g := (cK .u8)) (l := l155) (t := 5) (sz := 1) cK_p), fz_v, trivial⟩ h)
     · intro N120 w120
       refine s_so fun N121 k121 w121 => ?_
       refine o_r2 [(63, (.ptr 0 1)), (64, (vL Val.c r12.1.fRoots))] ?_
       refine o_o (one_len (f := Val.c) (l := r12.1.fRoots)) ?_
       refine o_r1 [(66, (vI 0))] ?_
       refine o_end (k121 _ ?_)
       refine c_block fun E123 hE123 hO123 => ?_
       refine W2 (fun (x137 : Int) (x138 : (List Int)) => ⟨(mkd .any 83 0 [(7, (.ptr 3 0)), (8, (.fn 63 [(.ptr 3 0)])), (64, (vL Val.c r12.1.fRoots)), (65, (vI (len r12.1.fRoots))), (66, (vI x137))]), [none, none, (some (.row 5 1 (List.map (cK .u8) x138))), (some (.box 34 [(.own 2 (List.length x138))]))]⟩) (f20_l124 r12 n (f20_k120 n)) h (wkm [7, 8, 64, 65, 66] (wh_drop (wh_none (wh_keep (row_below cK_p _ _ _ _) (whk wh_nil))))) (by intros; rw [f20_l124.eq_1]) ?_
       intro m124 x137 x138 h N124 w124
       rw [f20_l124.eq_2] at h
       refine s_so fun N139 k139 w139 => ?_
       refine o_r1 [(67, (vB (decide (x137 < (len r12.1.fRoots)))))] ?_
       refine o_end (k139 _ ?_)
       refine s_seq fun N140 k140 w140 => ?_
       refine i_c [67] h (fun h => ?_) (fun h => ?_)
       · refine c_skip (k140 _ ?_)
         refine s_seq fun N142 k142 w142 => ?_
         refine c_block fun E143 hE143 hO143 => ?_
         refine s_so fun N144 k144 w144 => ?_
         refine bnd h fun x145 g146 h => ?_
         refine o_o (one_ia (f := Val.c) (ki := .i64) g146) ?_
         refine o_h3 [(14, (.ptr 4 0)), (69, (.agg [(vI x145.fKind), (vI x145.fN)]))] [none, none, (some (.row 5 1 (List.map (cK .u8) x138))), (some (.box 34 [(.own 2 (List.length x138))])), (some (.box 59 [(vI x145.fKind), (vI x145.fN)]))] ?_
         refine o_end (k144 _ ?_)
         refine c_ops ?_
         refine o_r2 [(70, (.fn 63 [(.ptr 3 0)])), (71, (.agg [(vI x145.fKind), (vI x145.fN)]))] ?_
         refine bnd h fun r147 g148 h => ?_
         refine o_o (one_call (p_f65 g148)) ?_
         refine bnd h fun r149 g150 h => ?_
         refine o_x [none, none, (some (.row 5 1 (List.map (cK .u8) r149))), (some (.box 34 [(.own 2 (List.length r149))])), (some (.box 59 [(vI x145.fKind), (vI x145.fN)]))] (one_callH (caps := [(.ptr 3 0)]) (q_f63_e g150)) ?_
         refine o_end (k142 _ ?_)
         refine c_ops ?_
         refine o_r2 [(66, (vI (wr .i64 (x137 + 1)))), (74, (vI (wr .i64 (x137 + 1))))] ?_
         exact o_end (w124 _ _ _ (wkm [7, 8, 64, 65, 66] (wh_none (wh_none (wh_keep (row_below cK_p _ _ _ _) (whk wh_nil))))) h)
       · refine c_exit (hE123 _ ?_)
         exact w120 _ _ (wkm [7] (wh_none (wh_none (wh_keep (row_below cK_p _ _ _ _) (whk wh_nil))))) h
   · intro N20 w20
     refine s_so fun N21 k21 w21 => ?_
     refine o_r2 [(32, (.ptr 0 0)), (33, (vL Node.c r12.1.fNodes))] ?_
     refine o_o (one_len (f := Node.c) (l := r12.1.fNodes)) ?_
     refine o_r1 [(35, (vI 0))] ?_
     refine o_end (k21 _ ?_)
     refine c_block fun E23 hE23 hO23 => ?_
     refine W2 (fun (x69 : Int) (x70 : (List Int)) => ⟨(mkd .any 83 0 [(0, (vL Form.c a1)), (3, (.ptr 0 0)), (7, (.ptr 3 0)), (8, (.fn 63 [(.ptr 3 0)])), (33, (vL Node.c r12.1.fNodes)), (34, (vI (len r12.1.fNodes))), (35, (vI x69))]), [(some (.box 26 [(vL Node.c r12.1.fNodes), (vL Val.c r12.1.fRoots)])), none, (some (.row 5 1 (List.map (cK .u8) x70))), (some (.box 34 [(.own 2 (List.length x70))]))]⟩) (f20_l24 r12 n a1 (f20_k20 n r12)) h (wkm [0, 3, 7, 8, 33, 34, 35] (whk (wh_none (wh_keep (row_below cK_p _ _ _ _) (whk wh_nil))))) (by intros; rw [f20_l24.eq_1]) ?_
     intro m24 x69 x70 h N24 w24
     rw [f20_l24.eq_2] at h
     refine s_so fun N71 k71 w71 => ?_
     refine o_r1 [(36, (vB (decide (x69 < (len r12.1.fNodes)))))] ?_
     refine o_end (k71 _ ?_)
     refine s_seq fun N72 k72 w72 => ?_
     refine i_c [36] h (fun h => ?_) (fun h => ?_)
     · refine c_skip (k72 _ ?_)
       refine J1 (r := r) (fun (x114 : (List Int)) => ⟨(mkd .any 83 0 [(0, (vL Form.c a1)), (3, (.ptr 0 0)), (7, (.ptr 3 0)), (8, (.fn 63 [(.ptr 3 0)])), (33, (vL Node.c r12.1.fNodes)), (34, (vI (len r12.1.fNodes))), (35, (vI x69))]), [(some (.box 26 [(vL Node.c r12.1.fNodes), (vL Val.c r12.1.fRoots)])), none, (some (.row 5 1 (List.map (cK .u8) x114))), (some (.box 34 [(.own 2 (List.length x114))]))]⟩) (f20_k74 x69 (f20_l24 r12 n a1 (f20_k20 n r12) m24)) ?_ ?_
       · intro x114 h
         rw [f20_k74.eq_1] at h
         refine c_ops ?_
         refine o_r2 [(35, (vI (wr .i64 (x69 + 1)))), (57, (vI (wr .i64 (x69 + 1))))] ?_
         exact o_end (w24 _ _ _ (wkm [0, 3, 7, 8, 33, 34, 35] (whk (wh_none (wh_keep (row_below cK_p _ _ _ _) (whk wh_nil))))) h)
       · intro N74 w74
         refine c_block fun E75 hE75 hO75 => ?_
         refine s_so fun N76 k76 w76 => ?_
         refine bnd h fun x77 g78 h => ?_
         refine o_o (one_ia (f := Node.c) (ki := .i64) g78) ?_
         refine o_h3 [(10, (.ptr 5 0)), (38, (.agg [(vS x77.fClass), (vL Val.c x77.fVals)]))] [(some (.box 26 [(vL Node.c r12.1.fNodes), (vL Val.c r12.1.fRoots)])), none, (some (.row 5 1 (List.map (cK .u8) x70))), (some (.box 34 [(.own 2 (List.length x70))])), (some (.row 59 2 (List.map Val.c []))), (some (.box 57 [(vS x77.fClass), (vL Val.c x77.fVals)]))] ?_
         refine o_end (k76 _ ?_)
         refine s_so fun N79 k79 w79 => ?_
         refine o_r4 [(39, (.fn 63 [(.ptr 3 0)])), (40, (vL Form.c a1)), (41, (.ptr 5 0)), (42, (vS x77.fClass))] ?_
         refine bnd h fun r80 g81 h => ?_
         refine o_o (one_call (p_f52 g81)) ?_
         refine bnd h fun r82 g83 h => ?_
         refine o_x [(some (.box 26 [(vL Node.c r12.1.fNodes), (vL Val.c r12.1.fRoots)])), none, (some (.row 5 1 (List.map (cK .u8) r82))), (some (.box 34 [(.own 2 (List.length r82))])), (some (.row 59 2 (List.map Val.c []))), (some (.box 57 [(vS x77.fClass), (vL Val.c x77.fVals)]))] (one_callH (caps := [(.ptr 3 0)]) (q_f63_b g83)) ?_
         refine o_end (k79 _ ?_)
         refine s_so fun N84 k84 w84 => ?_
         refine o_r2 [(45, (.ptr 5 1)), (46, (vL Val.c x77.fVals))] ?_
         refine o_o (one_len (f := Val.c) (l := x77.fVals)) ?_
         refine o_r1 [(48, (vI 0))] ?_
         refine o_end (k84 _ ?_)
         refine c_block fun E86 hE86 hO86 => ?_
         refine W2 (fun (x100 : Int) (x101 : (List Int)) => ⟨(mkd .any 83 0 [(0, (vL Form.c a1)), (3, (.ptr 0 0)), (7, (.ptr 3 0)), (8, (.fn 63 [(.ptr 3 0)])), (33, (vL Node.c r12.1.fNodes)), (34, (vI (len r12.1.fNodes))), (35, (vI x69)), (46, (vL Val.c x77.fVals)), (47, (vI (len x77.fVals))), (48, (vI x100))]), [(some (.box 26 [(vL Node.c r12.1.fNodes), (vL Val.c r12.1.fRoots)])), none, (some (.row 5 1 (List.map (cK .u8) x101))), (some (.box 34 [(.own 2 (List.length x101))]))]⟩) (f20_l87 x77 n r12 (f20_k74 x69 (f20_l24 r12 n a1 (f20_k20 n r12) m24))) h (wkm [0, 3, 7, 8, 33, 34, 35, 46, 47, 48] (whk (wh_none (wh_keep (row_below cK_p _ _ _ _) (whk wh_nil))))) (by intros; rw [f20_l87.eq_1]) ?_
         intro m87 x100 x101 h N87 w87
         rw [f20_l87.eq_2] at h
         refine s_so fun N102 k102 w102 => ?_
         refine o_r1 [(49, (vB (decide (x100 < (len x77.fVals)))))] ?_
         refine o_end (k102 _ ?_)
         refine s_seq fun N103 k103 w103 => ?_
         refine i_c [49] h (fun h => ?_) (fun h => ?_)
         · refine c_skip (k103 _ ?_)
           refine s_seq fun N105 k105 w105 => ?_
           refine c_block fun E106 hE106 hO106 => ?_
           refine s_so fun N107 k107 w107 => ?_
           refine bnd h fun x108 g109 h => ?_
           refine o_o (one_ia (f := Val.c) (ki := .i64) g109) ?_
           refine o_h3 [(12, (.ptr 4 0)), (51, (.agg [(vI x108.fKind), (vI x108.fN)]))] [(some (.box 26 [(vL Node.c r12.1.fNodes), (vL Val.c r12.1.fRoots)])), none, (some (.row 5 1 (List.map (cK .u8) x101))), (some (.box 34 [(.own 2 (List.length x101))])), (some (.box 59 [(vI x108.fKind), (vI x108.fN)]))] ?_
           refine o_end (k107 _ ?_)
           refine c_ops ?_
           refine o_r2 [(52, (.fn 63 [(.ptr 3 0)])), (53, (.agg [(vI x108.fKind), (vI x108.fN)]))] ?_
           refine bnd h fun r110 g111 h => ?_
           refine o_o (one_call (p_f65 g111)) ?_
           refine bnd h fun r112 g113 h => ?_
           refine o_x [(some (.box 26 [(vL Node.c r12.1.fNodes), (vL Val.c r12.1.fRoots)])), none, (some (.row 5 1 (List.map (cK .u8) r112))), (some (.box 34 [(.own 2 (List.length r112))])), (some (.box 59 [(vI x108.fKind), (vI x108.fN)]))] (one_callH (caps := [(.ptr 3 0)]) (q_f63_c g113)) ?_
           refine o_end (k105 _ ?_)
           refine c_ops ?_
           refine o_r2 [(48, (vI (wr .i64 (x100 + 1)))), (56, (vI (wr .i64 (x100 + 1))))] ?_
           exact o_end (w87 _ _ _ (wkm [0, 3, 7, 8, 33, 34, 35, 46, 47, 48] (whk (wh_none (wh_keep (row_below cK_p _ _ _ _) (whk wh_nil))))) h)
         · refine c_exit (hE86 _ ?_)
           exact w74 _ _ (wkm [0, 3, 7, 8, 33, 34, 35] (whk (wh_none (wh_keep (row_below cK_p _ _ _ _) (whk wh_nil))))) h
     · refine c_exit (hE23 _ ?_)
       exact w20 _ _ (wkm [3, 7, 8] (whk (wh_none (wh_keep (row_below cK_p _ _ _ _) (whk wh_nil))))) h
theorem ic103 : fnIC Try.prog H0 103 = some ([.tmp 6], 30, (.seq (.ops [zO 5 (.box 0 59 [] (.t 2)), zO 6 (.nil 0 3 1)]) (.seq (.seq (.ops [zO 7 (.faddr (.t 5) 0), zO 8 (.ld (.t 7) 1 false), zO 9 (.sc (.bin .neq 3) [(.t 8), (.c (.int .i64 4))]), zM 10 9, zN 11 10 false 1, zG 12 10 false (.faddr (.t 5) 1), zG 13 10 false (.ld (.t 12) 1 false), zG 14 10 false (.iaddr 1 (.t 11) (.t 13)), zG 15 10 false (.ld (.t 14) 1 false), zG 16 10 false (.sc (.bin .geq 3) [(.t 15), (.c (.int .i64 0))]), zO 17 (.pick (.t 10) (.c (.bool true)) (.t 16))]) (.cond (.t 17)
  (.seq (.ops [zM 18 0, zM 6 18]) .ret)
  .skip)) (.seq (.ops [zM 19 1, zO 20 (.faddr (.t 5) 1), zO 21 (.ld (.t 20) 1 false), zM 22 0, zO 23 (.len false (.t 22)), zO 24 (.iaddr 1 (.t 19) (.t 21)), zU (.st true 1 [] (.t 24) (.t 23))]) (.seq (.ops [zM 25 0, zO 26 (.faddr (.t 5) 1), zO 27 (.ld (.t 26) 1 false), zO 28 (.isl 1 [(.t 27)]), zO 29 (.app 0 3 1 8 (.t 25) (.t 28)), zM 6 29]) .ret))))) := by kernel_rfl
def f103_k13 (a4 : (List Int)) (a5 : (List Int)) (a10 : Int) (x19 : Bool) : Option ((List Int) × (List Int)) := (bif x19 then some (a4, a5) else ((gi a4 a10).bind fun x24 => ((gi a4 a10).bind fun x26 => ((app2 a5 [a10]).bind fun l29 => some ((setI a4 a10 (len a5)), l29)))))
def f103 (n : Nat) (a1 : (List Node)) (a2 : (List Val)) (a3 : (List Int)) (a4 : (List Int)) (a5 : (List Int)) (a6 : (List Node)) (a7 : (List Val)) (a8 : Int) (a9 : Int) (a10 : Int) : Option ((List Int) × (List Int)) := (bif (a9 != 4) then (f103_k13 a4 a5 a10 true) else ((gi a4 a10).bind fun x15 => ((gi a4 a10).bind fun x17 => (f103_k13 a4 a5 a10 (decide (x17 ≥ 0))))))
def f103_r (a1 : (List Node)) (a2 : (List Val)) (a3 : (List Int)) (a4 : (List Int)) (a5 : (List Int)) (a6 : (List Node)) (a7 : (List Val)) (a8 : Int) (a9 : Int) (a10 : Int) (r : ((List Int) × (List Int))) : AV := (.own 6 (List.length r.2))
def f103_h (a1 : (List Node)) (a2 : (List Val)) (a3 : (List Int)) (a4 : (List Int)) (a5 : (List Int)) (a6 : (List Node)) (a7 : (List Val)) (a8 : Int) (a9 : Int) (a10 : Int) (r : ((List Int) × (List Int))) : Heap := [(some (.box 26 [(vL Node.c a6), (vL Val.c a7)])), (some (.row 57 2 (List.map Node.c a1))), (some (.row 59 2 (List.map Val.c a2))), (some (.row 3 1 (List.map cI a3))), (some (.box 80 [(.own 1 (List.length a1)), (.own 2 (List.length a2)), (.own 3 (List.length a3)), (vI a8)])), (some (.row 3 1 (List.map cI r.1))), (some (.row 3 1 (List.map cI r.2)))]
theorem q_f103 {n : Nat} {a1 : (List Node)} {a2 : (List Val)} {a3 : (List Int)} {a4 : (List Int)} {a5 : (List Int)} {a6 : (List Node)} {a7 : (List Val)} {a8 : Int} {a9 : Int} {a10 : Int} {r : ((List Int) × (List Int))} (h : f103 n a1 a2 a3 a4 a5 a6 a7 a8 a9 a10 = some r) : HSpec Try.prog 103 [(.own 6 (List.length a5)), (.own 5 (List.length a4)), (.agg [(vI a9), (vI a10)])] [(some (.box 26 [(vL Node.c a6), (vL Val.c a7)])), (some (.row 57 2 (List.map Node.c a1))), (some (.row 59 2 (List.map Val.c a2))), (some (.row 3 1 (List.map cI a3))), (some (.box 80 [(.own 1 (List.length a1)), (.own 2 (List.length a2)), (.own 3 (List.length a3)), (vI a8)])), (some (.row 3 1 (List.map cI a4))), (some (.row 3 1 (List.map cI a5)))] (f103_r a1 a2 a3 a4 a5 a6 a7 a8 a9 a10 r) (f103_h a1 a2 a3 a4 a5 a6 a7 a8 a9 a10 r) := by
 rw [f103.eq_1] at h
 refine heap_of hmix ic103 ?_
 refine go_to (mkd (.val undef) 30 0 [(0, (.own 6 (List.length a5))), (1, (.own 5 (List.length a4))), (2, (.agg [(vI a9), (vI a10)]))]) ?_
 refine s_so fun N11 k11 w11 => ?_
 refine o_h2 [(5, (.ptr 7 0)), (6, (.own 8 0))] [(some (.box 26 [(vL Node.c a6), (vL Val.c a7)])), (some (.row 57 2 (List.map Node.c a1))), (some (.row 59 2 (List.map Val.c a2))), (some (.row 3 1 (List.map cI a3))), (some (.box 80 [(.own 1 (List.length a1)), (.own 2 (List.length a2)), (.own 3 (List.length a3)), (vI a8)])), (some (.row 3 1 (List.map cI a4))), (some (.row 3 1 (List.map cI a5))), (some (.box 59 [(vI a9), (vI a10)])), (some (.row 3 1 (List.map cI [])))] ?_
 refine o_end (k11 _ ?_)
 refine s_seq fun N12 k12 w12 => ?_
 refine J1 (r := r) (fun (x19 : Bool) => ⟨(mkd .any 30 0 [(0, (.own 6 (List.length a5))), (1, (.own 5 (List.length a4))), (5, (.ptr 7 0)), (17, (vB x19))]), [(some (.box 26 [(vL Node.c a6), (vL Val.c a7)])), (some (.row 57 2 (List.map Node.c a1))), (some (.row 59 2 (List.map Val.c a2))), (some (.row 3 1 (List.map cI a3))), (some (.box 80 [(.own 1 (List.length a1)), (.own 2 (List.length a2)), (.own 3 (List.length a3)), (vI a8)])), (some (.row 3 1 (List.map cI a4))), (some (.row 3 1 (List.map cI a5))), (some (.box 59 [(vI a9), (vI a10)]))]⟩) (f103_k13 a4 a5 a10) ?_ ?_
 · intro x19 h
   rw [f103_k13.eq_1] at h
   refine i_c [17] h (fun h => ?_) (fun h => ?_)
   · refine s_so fun N21 k21 w21 => ?_
     refine o_r2 [(6, (.own 6 (List.length a5))), (18, (.own 6 (List.length a5)))] ?_
     refine o_end (k21 _ ?_)
     exact c_ret (retsH [(.own 6 (List.length a5))] [(.own 6 (List.length a5))] h (wkm [0] (whk (wh_keep (row_below Node.p _ _ _ _) (wh_keep (row_below Val.p _ _ _ _) (wh_keep (row_below cK_p _ _ _ _) (whk (wh_keep (row_below cK_p _ _ _ _) (wh_keep (row_below cK_p _ _ _ _) wh_nil)))))))))
   · refine c_skip (k12 _ ?_)
     refine s_so fun N22 k22 w22 => ?_
     refine o_r4 [(19, (.own 5 (List.length a4))), (20, (.ptr 7 1)), (21, (vI a10)), (22, (.own 6 (List.length a5)))] ?_
     refine o_o (one_lenO (f := cI) (l := a5) (o := 6) (t := 3) (sz := 1)) ?_
     refine bnd h fun x24 g25 h => ?_
     refine o_o (one_iaO (f := cI) (ki := .i64) (t := 3) (o := 5) g25) ?_
     refine bnd h fun x26 g27 h => ?_
     refine o_x [(some (.box 26 [(vL Node.c a6), (vL Val.c a7)])), (some (.row 57 2 (List.map Node.c a1))), (some (.row 59 2 (List.map Val.c a2))), (some (.row 3 1 (List.map cI a3))), (some (.box 80 [(.own 1 (List.length a1)), (.own 2 (List.length a2)), (.own 3 (List.length a3)), (vI a8)])), (some (.row 3 1 (List.map cI (setI a4 a10 (len a5))))), (some (.row 3 1 (List.map cI a5))), (some (.box 59 [(vI a9), (vI a10)]))] (one_stE (f := cI) (k := 0) (t := 3) (sz := 1) (o := 5) (z := (len a5)) (ds := [(vI (len a5))]) (es := [(vI (len a5))]) g27) ?_
     refine s_ln (fun b => ⟨(mkd .any 30 0 [(0, (.own 6 (List.length a5))), (1, (.own 5 b)), (5, (.ptr 7 0)), (17, (vB false)), (19, (.own 5 b)), (20, (.ptr 7 1)), (21, (vI a10)), (22, (.own 6 (List.length a5))), (23, (vI (len a5))), (24, (.eptr 5 b (Int.toNat a10) 0))]), [(some (.box 26 [(vL Node.c a6), (vL Val.c a7)])), (some (.row 57 2 (List.map Node.c a1))), (some (.row 59 2 (List.map Val.c a2))), (some (.row 3 1 (List.map cI a3))), (some (.box 80 [(.own 1 (List.length a1)), (.own 2 (List.length a2)), (.own 3 (List.length a3)), (vI a8)])), (some (.row 3 1 (List.map cI (setI a4 a10 (len a5))))), (some (.row 3 1 (List.map cI a5))), (some (.box 59 [(vI a9), (vI a10)]))]⟩) (show List.length a4 = List.length (setI a4 a10 (len a5)) from setI_len) ?_
     refine o_end (k22 _ ?_)
     refine s_so fun N28 k28 w28 => ?_
     refine o_r4 [(25, (.own 6 (List.length a5))), (26, (.ptr 7 1)), (27, (vI a10)), (28, (vL cI [a10]))] ?_
     refine bnd h fun l29 g30 h => ?_
     refine o_x [(some (.box 26 [(vL Node.c a6), (vL Val.c a7)])), (some (.row 57 2 (List.map Node.c a1))), (some (.row 59 2 (List.map Val.c a2))), (some (.row 3 1 (List.map cI a3))), (some (.box 80 [(.own 1 (List.length a1)), (.own 2 (List.length a2)), (.own 3 (List.length a3)), (vI a8)])), (some (.row 3 1 (List.map cI (setI a4 a10 (len a5))))), (some (.row 3 1 (List.map cI l29))), (some (.box 59 [(vI a9), (vI a10)]))] (one_app (f := cI) (o := 6) g30 (fun _ => ⟨rfl, rfl⟩)) ?_
     refine o_r1 [(6, (.own 6 (List.length l29)))] ?_
     refine o_end (k28 _ ?_)
     exact c_ret (retsH [(.own 6 (List.length l29))] [(.own 6 (List.length l29))] h (wkm [0] (whk (wh_keep (row_below Node.p _ _ _ _) (wh_keep (row_below Val.p _ _ _ _) (wh_keep (row_below cK_p _ _ _ _) (whk (wh_keep (row_below cK_p _ _ _ _) (wh_keep (row_below cK_p _ _ _ _) wh_nil)))))))))
 · intro N13 w13
   refine c_ops ?_
   refine o_r4 [(7, (.ptr 7 0)), (8, (vI a9)), (9, (vB (a9 != 4))), (10, (vB (a9 != 4)))] ?_
   refine i_o [9, 10] h (fun h => ?_) (fun h => ?_)
   · refine o_r7 [(11, (.val undef)), (12, (.val undef)), (13, (.val undef)), (14, (.val undef)), (15, (.val undef)), (16, (.val undef)), (17, (vB true))] ?_
     exact o_end (w13 _ _ (wkm [0, 1, 5, 17] (whk (wh_keep (row_below Node.p _ _ _ _) (wh_keep (row_below Val.p _ _ _ _) (wh_keep (row_below cK_p _ _ _ _) (whk (wh_keep (row_below cK_p _ _ _ _) (wh_keep (row_below cK_p _ _ _ _) (whk wh_nil))))))))) h)
   · refine o_r3 [(11, (.own 5 (List.length a4))), (12, (.ptr 7 1)), (13, (vI a10))] ?_
     refine bnd h fun x15 g16 h => ?_
     refine o_g ?_
     refine o_o (one_iaO (f := cI) (ki := .i64) (t := 3) (o := 5) g16) ?_
     refine bnd h fun x17 g18 h => ?_
     refine o_g ?_
     refine o_o (one_ldE (f := cI) (k := 0) (t := 3) (sz := 1) (o := 5) g18) ?_
     refine o_r2 [(16, (vB (decide (x17 ≥ 0)))), (17, (vB (decide (x17 ≥ 0))))] ?_
     exact o_end (w13 _ _ (wkm [0, 1, 5, 17] (whk (wh_keep (row_below Node.p _ _ _ _) (wh_keep (row_below Val.p _ _ _ _) (wh_keep (row_below cK_p _ _ _ _) (whk (wh_keep (row_below cK_p _ _ _ _) (wh_keep (row_below cK_p _ _ _ _) (whk wh_nil))))))))) h)
def f103_b_k15 (a4 : (List Int)) (a5 : (List Int)) (a12 : Int) (x21 : Bool) : Option ((List Int) × (List Int)) := (bif x21 then some (a4, a5) else ((gi a4 a12).bind fun x26 => ((gi a4 a12).bind fun x28 => ((app2 a5 [a12]).bind fun l31 => some ((setI a4 a12 (len a5)), l31)))))
def f103_b (n : Nat) (a1 : (List Node)) (a2 : (List Val)) (a3 : (List Int)) (a4 : (List Int)) (a5 : (List Int)) (a6 : (List Node)) (a7 : (List Val)) (a8 : Int) (a9 : ByteArray) (a10 : (List Val)) (a11 : Int) (a12 : Int) : Option ((List Int) × (List Int)) := (bif (a11 != 4) then (f103_b_k15 a4 a5 a12 true) else ((gi a4 a12).bind fun x17 => ((gi a4 a12).bind fun x19 => (f103_b_k15 a4 a5 a12 (decide (x19 ≥ 0))))))
def f103_b_r (a1 : (List Node)) (a2 : (List Val)) (a3 : (List Int)) (a4 : (List Int)) (a5 : (List Int)) (a6 : (List Node)) (a7 : (List Val)) (a8 : Int) (a9 : ByteArray) (a10 : (List Val)) (a11 : Int) (a12 : Int) (r : ((List Int) × (List Int))) : AV := (.own 6 (List.length r.2))
def f103_b_h (a1 : (List Node)) (a2 : (List Val)) (a3 : (List Int)) (a4 : (List Int)) (a5 : (List Int)) (a6 : (List Node)) (a7 : (List Val)) (a8 : Int) (a9 : ByteArray) (a10 : (List Val)) (a11 : Int) (a12 : Int) (r : ((List Int) × (List Int))) : Heap := [(some (.box 26 [(vL Node.c a6), (vL Val.c a7)])), (some (.row 57 2 (List.map Node.c a1))), (some (.row 59 2 (List.map Val.c a2))), (some (.row 3 1 (List.map cI a3))), (some (.box 80 [(.own 1 (List.length a1)), (.own 2 (List.length a2)), (.own 3 (List.length a3)), (vI a8)])), (some (.row 3 1 (List.map cI r.1))), (some (.row 3 1 (List.map cI r.2))), none, (some (.box 57 [(vS a9), (vL Val.c a10)]))]
theorem q_f103_b {n : Nat} {a1 : (List Node)} {a2 : (List Val)} {a3 : (List Int)} {a4 : (List Int)} {a5 : (List Int)} {a6 : (List Node)} {a7 : (List Val)} {a8 : Int} {a9 : ByteArray} {a10 : (List Val)} {a11 : Int} {a12 : Int} {r : ((List Int) × (List Int))} (h : f103_b n a1 a2 a3 a4 a5 a6 a7 a8 a9 a10 a11 a12 = some r) : HSpec Try.prog 103 [(.own 6 (List.length a5)), (.own 5 (List.length a4)), (.agg [(vI a11), (vI a12)])] [(some (.box 26 [(vL Node.c a6), (vL Val.c a7)])), (some (.row 57 2 (List.map Node.c a1))), (some (.row 59 2 (List.map Val.c a2))), (some (.row 3 1 (List.map cI a3))), (some (.box 80 [(.own 1 (List.length a1)), (.own 2 (List.length a2)), (.own 3 (List.length a3)), (vI a8)])), (some (.row 3 1 (List.map cI a4))), (some (.row 3 1 (List.map cI a5))), none, (some (.box 57 [(vS a9), (vL Val.c a10)]))] (f103_b_r a1 a2 a3 a4 a5 a6 a7 a8 a9 a10 a11 a12 r) (f103_b_h a1 a2 a3 a4 a5 a6 a7 a8 a9 a10 a11 a12 r) := by
 rw [f103_b.eq_1] at h
 refine heap_of hmix ic103 ?_
 refine go_to (mkd (.val undef) 30 0 [(0, (.own 6 (List.length a5))), (1, (.own 5 (List.length a4))), (2, (.agg [(vI a11), (vI a12)]))]) ?_
 refine s_so fun N13 k13 w13 => ?_
 refine o_h2 [(5, (.ptr 9 0)), (6, (.own 10 0))] [(some (.box 26 [(vL Node.c a6), (vL Val.c a7)])), (some (.row 57 2 (List.map Node.c a1))), (some (.row 59 2 (List.map Val.c a2))), (some (.row 3 1 (List.map cI a3))), (some (.box 80 [(.own 1 (List.length a1)), (.own 2 (List.length a2)), (.own 3 (List.length a3)), (vI a8)])), (some (.row 3 1 (List.map cI a4))), (some (.row 3 1 (List.map cI a5))), none, (some (.box 57 [(vS a9), (vL Val.c a10)])), (some (.box 59 [(vI a11), (vI a12)])), (some (.row 3 1 (List.map cI [])))] ?_
 refine o_end (k13 _ ?_)
 refine s_seq fun N14 k14 w14 => ?_
 refine J1 (r := r) (fun (x21 : Bool) => ⟨(mkd .any 30 0 [(0, (.own 6 (List.length a5))), (1, (.own 5 (List.length a4))), (5, (.ptr 9 0)), (17, (vB x21))]), [(some (.box 26 [(vL Node.c a6), (vL Val.c a7)])), (some (.row 57 2 (List.map Node.c a1))), (some (.row 59 2 (List.map Val.c a2))), (some (.row 3 1 (List.map cI a3))), (some (.box 80 [(.own 1 (List.length a1)), (.own 2 (List.length a2)), (.own 3 (List.length a3)), (vI a8)])), (some (.row 3 1 (List.map cI a4))), (some (.row 3 1 (List.map cI a5))), none, (some (.box 57 [(vS a9), (vL Val.c a10)])), (some (.box 59 [(vI a11), (vI a12)]))]⟩) (f103_b_k15 a4 a5 a12) ?_ ?_
 · intro x21 h
   rw [f103_b_k15.eq_1] at h
   refine i_c [17] h (fun h => ?_) (fun h => ?_)
   · refine s_so fun N23 k23 w23 => ?_
     refine o_r2 [(6, (.own 6 (List.length a5))), (18, (.own 6 (List.length a5)))] ?_
     refine o_end (k23 _ ?_)
     exact c_ret (retsH [(.own 6 (List.length a5))] [(.own 6 (List.length a5))] h (wkm [0] (whk (wh_keep (row_below Node.p _ _ _ _) (wh_keep (row_below Val.p _ _ _ _) (wh_keep (row_below cK_p _ _ _ _) (whk (wh_keep (row_below cK_p _ _ _ _) (wh_keep (row_below cK_p _ _ _ _) (wh_none (whk wh_nil)))))))))))
   · refine c_skip (k14 _ ?_)
     refine s_so fun N24 k24 w24 => ?_
     refine o_r4 [(19, (.own 5 (List.length a4))), (20, (.ptr 9 1)), (21, (vI a12)), (22, (.own 6 (List.length a5)))] ?_
     refine o_o (one_lenO (f := cI) (l := a5) (o := 6) (t := 3) (sz := 1)) ?_
     refine bnd h fun x26 g27 h => ?_
     refine o_o (one_iaO (f := cI) (ki := .i64) (t := 3) (o := 5) g27) ?_
     refine bnd h fun x28 g29 h => ?_
     refine o_x [(some (.box 26 [(vL Node.c a6), (vL Val.c a7)])), (some (.row 57 2 (List.map Node.c a1))), (some (.row 59 2 (List.map Val.c a2))), (some (.row 3 1 (List.map cI a3))), (some (.box 80 [(.own 1 (List.length a1)), (.own 2 (List.length a2)), (.own 3 (List.length a3)), (vI a8)])), (some (.row 3 1 (List.map cI (setI a4 a12 (len a5))))), (some (.row 3 1 (List.map cI a5))), none, (some (.box 57 [(vS a9), (vL Val.c a10)])), (some (.box 59 [(vI a11), (vI a12)]))] (one_stE (f := cI) (k := 0) (t := 3) (sz := 1) (o := 5) (z := (len a5)) (ds := [(vI (len a5))]) (es := [(vI (len a5))]) g29) ?_
     refine s_ln (fun b => ⟨(mkd .any 30 0 [(0, (.own 6 (List.length a5))), (1, (.own 5 b)), (5, (.ptr 9 0)), (17, (vB false)), (19, (.own 5 b)), (20, (.ptr 9 1)), (21, (vI a12)), (22, (.own 6 (List.length a5))), (23, (vI (len a5))), (24, (.eptr 5 b (Int.toNat a12) 0))]), [(some (.box 26 [(vL Node.c a6), (vL Val.c a7)])), (some (.row 57 2 (List.map Node.c a1))), (some (.row 59 2 (List.map Val.c a2))), (some (.row 3 1 (List.map cI a3))), (some (.box 80 [(.own 1 (List.length a1)), (.own 2 (List.length a2)), (.own 3 (List.length a3)), (vI a8)])), (some (.row 3 1 (List.map cI (setI a4 a12 (len a5))))), (some (.row 3 1 (List.map cI a5))), none, (some (.box 57 [(vS a9), (vL Val.c a10)])), (some (.box 59 [(vI a11), (vI a12)]))]⟩) (show List.length a4 = List.length (setI a4 a12 (len a5)) from setI_len) ?_
     refine o_end (k24 _ ?_)
     refine s_so fun N30 k30 w30 => ?_
     refine o_r4 [(25, (.own 6 (List.length a5))), (26, (.ptr 9 1)), (27, (vI a12)), (28, (vL cI [a12]))] ?_
     refine bnd h fun l31 g32 h => ?_
     refine o_x [(some (.box 26 [(vL Node.c a6), (vL Val.c a7)])), (some (.row 57 2 (List.map Node.c a1))), (some (.row 59 2 (List.map Val.c a2))), (some (.row 3 1 (List.map cI a3))), (some (.box 80 [(.own 1 (List.length a1)), (.own 2 (List.length a2)), (.own 3 (List.length a3)), (vI a8)])), (some (.row 3 1 (List.map cI (setI a4 a12 (len a5))))), (some (.row 3 1 (List.map cI l31))), none, (some (.box 57 [(vS a9), (vL Val.c a10)])), (some (.box 59 [(vI a11), (vI a12)]))] (one_app (f := cI) (o := 6) g32 (fun _ => ⟨rfl, rfl⟩)) ?_
     refine o_r1 [(6, (.own 6 (List.length l31)))] ?_
     refine o_end (k30 _ ?_)
     exact c_ret (retsH [(.own 6 (List.length l31))] [(.own 6 (List.length l31))] h (wkm [0] (whk (wh_keep (row_below Node.p _ _ _ _) (wh_keep (row_below Val.p _ _ _ _) (wh_keep (row_below cK_p _ _ _ _) (whk (wh_keep (row_below cK_p _ _ _ _) (wh_keep (row_below cK_p _ _ _ _) (wh_none (whk wh_nil)))))))))))
 · intro N15 w15
   refine c_ops ?_
   refine o_r4 [(7, (.ptr 9 0)), (8, (vI a11)), (9, (vB (a11 != 4))), (10, (vB (a11 != 4)))] ?_
   refine i_o [9, 10] h (fun h => ?_) (fun h => ?_)
   · refine o_r7 [(11, (.val undef)), (12, (.val undef)), (13, (.val undef)), (14, (.val undef)), (15, (.val undef)), (16, (.val undef)), (17, (vB true))] ?_
     exact o_end (w15 _ _ (wkm [0, 1, 5, 17] (whk (wh_keep (row_below Node.p _ _ _ _) (wh_keep (row_below Val.p _ _ _ _) (wh_keep (row_below cK_p _ _ _ _) (whk (wh_keep (row_below cK_p _ _ _ _) (wh_keep (row_below cK_p _ _ _ _) (wh_none (whk (whk wh_nil))))))))))) h)
   · refine o_r3 [(11, (.own 5 (List.length a4))), (12, (.ptr 9 1)), (13, (vI a12))] ?_
     refine bnd h fun x17 g18 h => ?_
     refine o_g ?_
     refine o_o (one_iaO (f := cI) (ki := .i64) (t := 3) (o := 5) g18) ?_
     refine bnd h fun x19 g20 h => ?_
     refine o_g ?_
     refine o_o (one_ldE (f := cI) (k := 0) (t := 3) (sz := 1) (o := 5) g20) ?_
     refine o_r2 [(16, (vB (decide (x19 ≥ 0)))), (17, (vB (decide (x19 ≥ 0))))] ?_
     exact o_end (w15 _ _ (wkm [0, 1, 5, 17] (whk (wh_keep (row_below Node.p _ _ _ _) (wh_keep (row_below Val.p _ _ _ _) (wh_keep (row_below cK_p _ _ _ _) (whk (wh_keep (row_below cK_p _ _ _ _) (wh_keep (row_below cK_p _ _ _ _) (wh_none (whk (whk wh_nil))))))))))) h)
theorem ic104 : fnIC Try.prog H0 104 = some ([.cell 4 59], 15, (.seq (.ops [zO 2 (.box 0 59 [] (.t 0)), zO 4 (.alloc 0 59 [] [(.int .i64 0), (.int .i64 0)])]) (.seq (.seq (.ops [zO 5 (.faddr (.t 2) 0), zO 6 (.ld (.t 5) 1 false), zO 7 (.sc (.bin .eql 3) [(.t 6), (.c (.int .i64 4))])]) (.cond (.t 7)
  (.ops [zM 8 1, zO 9 (.faddr (.t 2) 1), zO 10 (.ld (.t 9) 1 false), zO 11 (.iaddr 1 (.t 8) (.t 10)), zO 12 (.ld (.t 11) 1 false), zO 13 (.faddr (.t 2) 1), zU (.st true 1 [] (.t 13) (.t 12))])
  .skip)) (.seq (.ops [zO 14 (.ld (.t 2) 2 true), zU (.st true 2 [] (.t 4) (.t 14))]) .ret)))) := by kernel_rfl
def f104_k4 (a1 : Val) (x9 : Int) : Option Val := some (Val.mk a1.fKind x9)
def f104 (n : Nat) (a1 : Val) (a2 : (List Int)) : Option Val := (bif (a1.fKind == 4) then ((gi a2 a1.fN).bind fun x7 => (f104_k4 a1 x7)) else (f104_k4 a1 a1.fN))
def f104_r (r : Val) : AV := (.agg [(vI r.fKind), (vI r.fN)])
theorem p_f104 {n : Nat} {a1 : Val} {a2 : (List Int)} {r : Val} (h : f104 n a1 a2 = some r) : PureSpec Try.prog 104 [(.agg [(vI a1.fKind), (vI a1.fN)]), (vL cI a2)] (f104_r r) := by
 rw [f104.eq_1] at h
 refine pure_of hmix ic104 ?_
 refine go_to (mkd (.val undef) 15 0 [(0, (.agg [(vI a1.fKind), (vI a1.fN)])), (1, (vL cI a2))]) ?_
 refine s_so fun N3 k3 w3 => ?_
 refine o_h2 [(2, (.ptr 0 0)), (4, (.ptr 1 0))] [(some (.box 59 [(vI a1.fKind), (vI a1.fN)])), (some (.box 59 [(vI 0), (vI 0)]))] ?_
 refine o_end (k3 _ ?_)
 refine J1 (r := r) (fun (x9 : Int) => ⟨(mkd .any 15 0 [(2, (.ptr 0 0)), (4, (.ptr 1 0))]), [(some (.box 59 [(vI a1.fKind), (vI x9)])), (some (.box 59 [(vI 0), (vI 0)]))]⟩) (f104_k4 a1) ?_ ?_
 · intro x9 h
   rw [f104_k4.eq_1] at h
   refine s_so fun N10 k10 w10 => ?_
   refine o_h2 [(14, (.agg [(vI a1.fKind), (vI x9)]))] [(some (.box 59 [(vI a1.fKind), (vI x9)])), (some (.box 59 [(vI a1.fKind), (vI x9)]))] ?_
   refine o_end (k10 _ ?_)
   exact c_ret (rets [] [(.agg [(vI a1.fKind), (vI x9)])] [(.agg [(vI a1.fKind), (vI x9)])] h)
 · intro N4 w4
   refine s_so fun N5 k5 w5 => ?_
   refine o_r3 [(5, (.ptr 0 0)), (6, (vI a1.fKind)), (7, (vB (a1.fKind == 4)))] ?_
   refine o_end (k5 _ ?_)
   refine i_c [7] h (fun h => ?_) (fun h => ?_)
   · refine c_ops ?_
     refine o_r3 [(8, (vL cI a2)), (9, (.ptr 0 1)), (10, (vI a1.fN))] ?_
     refine bnd h fun x7 g8 h => ?_
     refine o_o (one_ia (f := cI) (ki := .i64) g8) ?_
     refine o_h3 [(12, (vI x7)), (13, (.ptr 0 1))] [(some (.box 59 [(vI a1.fKind), (vI x7)])), (some (.box 59 [(vI 0), (vI 0)]))] ?_
     exact o_end (w4 _ _ (wkm [2, 4] (whk (whk wh_nil))) h)
   · exact c_skip (w4 _ _ (wkm [2, 4] (whk (whk wh_nil))) h)
theorem ic67 : fnIC Try.prog H67 67 = some ([.cell 2 80], 141, (.seq (.ops [zO 1 (.box 0 26 [(0, 57, 2, 0), (1, 59, 2, 0)] (.t 0)), zO 2 (.alloc 0 80 [(0, 57, 2, 0), (1, 59, 2, 0), (2, 3, 1, 0)] [(.slice none 0 0), (.slice none 0 0), (.slice none 0 0), (.int .i64 0)])]) (.seq (.ops [zO 16 (.faddr (.t 1) 0), zO 17 (.ld (.t 16) 1 false), zO 18 (.len false (.t 17)), zO 19 (.mks 0 3 1 [(.int .i64 0)] (.t 18)), zM 3 19]) (.seq (.seq (.ops [zO 4 (.mov (.c (.int .i64 0)))]) (.block 0 (.loop (.seq (.seq (.ops [zM 20 4, zM 21 3, zO 22 (.len false (.t 21)), zO 23 (.sc (.bin .lss 3) [(.t 20), (.t 22)])]) (.cond (.t 23)
  .skip
  (.exit 0))) (.seq (.block 1 (.ops [zM 26 3, zM 27 4, zO 28 (.iaddr 1 (.t 26) (.t 27)), zU (.st true 1 [] (.t 28) (.c (.int .i64 (-1))))])) (.ops [zM 24 4, zO 25 (.sc (.bin .add 3) [(.t 24), (.c (.int .i64 1))]), zM 4 25])))))) (.seq (.ops [zO 5 (.nil 0 3 1)]) (.seq (.seq (.ops [zO 6 (.mov (.c (.int .i64 0)))]) (.block 2 (.loop (.seq (.seq (.ops [zM 29 6, zO 30 (.faddr (.t 1) 1), zO 31 (.ld (.t 30) 1 false), zO 32 (.len false (.t 31)), zO 33 (.sc (.bin .lss 3) [(.t 29), (.t 32)])]) (.cond (.t 33)
  .skip
  (.exit 2))) (.seq (.block 3 (.ops [zM 36 5, zM 37 3, zO 38 (.faddr (.t 1) 1), zO 39 (.ld (.t 38) 1 false), zM 40 6, zO 41 (.iaddr 2 (.t 39) (.t 40)), zO 42 (.ld (.t 41) 2 true), zO 43 (.callv (.f 103) [(.t 36), (.t 37), (.t 42)]), zM 5 43])) (.ops [zM 34 6, zO 35 (.sc (.bin .add 3) [(.t 34), (.c (.int .i64 1))]), zM 6 35])))))) (.seq (.seq (.ops [zO 7 (.mov (.c (.int .i64 0)))]) (.block 4 (.loop (.seq (.seq (.ops [zM 44 7, zM 45 5, zO 46 (.len false (.t 45)), zO 47 (.sc (.bin .lss 3) [(.t 44), (.t 46)])]) (.cond (.t 47)
  .skip
  (.exit 4))) (.seq (.block 5 (.seq (.draw [] [⟨zO 50 (.faddr (.t 1) 0), false, 0, 1⟩, ⟨zO 51 (.ld (.t 50) 1 false), false, 0, 1⟩, ⟨zM 52 5, false, 0, 1⟩, ⟨zM 53 7, false, 0, 1⟩, ⟨zO 54 (.iaddr 1 (.t 52) (.t 53)), false, 0, 1⟩, ⟨zO 55 (.ld (.t 54) 1 false), false, 0, 1⟩, ⟨zO 56 (.iaddr 2 (.t 51) (.t 55)), false, 0, 1⟩, ⟨zO 57 (.ld (.t 56) 2 true), false, 0, 1⟩, ⟨zO 8 (.alloc 0 57 [(1, 59, 2, 0)] [(.string ⟨#[]⟩), (.slice none 0 0)]), true, 0, 1⟩, ⟨zU (.st true 2 [(1, 59, 2, 0)] (.t 8) (.t 57)), true, 1, 2⟩]) (.seq (.ops [zO 9 (.mov (.c (.int .i64 0)))]) (.block 6 (.loop (.seq (.seq (.ops [zM 58 9, zO 59 (.faddr (.t 8) 1), zO 60 (.ld (.t 59) 1 false), zO 61 (.len false (.t 60)), zO 62 (.sc (.bin .lss 3) [(.t 58), (.t 61)])]) (.cond (.t 62)
  .skip
  (.exit 6))) (.seq (.block 7 (.ops [zM 65 5, zM 66 3, zO 67 (.faddr (.t 8) 1), zO 68 (.ld (.t 67) 1 false), zM 69 9, zO 70 (.iaddr 2 (.t 68) (.t 69)), zO 71 (.ld (.t 70) 2 true), zO 72 (.callv (.f 103) [(.t 65), (.t 66), (.t 71)]), zM 5 72])) (.ops [zM 63 9, zO 64 (.sc (.bin .add 3) [(.t 63), (.c (.int .i64 1))]), zM 9 64])))))))) (.ops [zM 48 7, zO 49 (.sc (.bin .add 3) [(.t 48), (.c (.int .i64 1))]), zM 7 49])))))) (.seq (.ops [zM 73 3, zO 74 (.bld [(.slice none 0 0), (.slice none 0 0), (.slice none 0 0), (.int .i64 0)] [(2, 1, (.t 73))]), zO 10 (.alloc 0 80 [(0, 57, 2, 0), (1, 59, 2, 0), (2, 3, 1, 0)] [(.slice none 0 0), (.slice none 0 0), (.slice none 0 0), (.int .i64 0)]), zU (.st true 4 [(0, 57, 2, 0), (1, 59, 2, 0), (2, 3, 1, 0)] (.t 10) (.t 74))]) (.seq (.seq (.ops [zO 11 (.mov (.c (.int .i64 0)))]) (.block 8 (.loop (.seq (.seq (.ops [zM 75 11, zM 76 5, zO 77 (.len false (.t 76)), zO 78 (.sc (.bin .lss 3) [(.t 75), (.t 77)])]) (.cond (.t 78)
  .skip
  (.exit 8))) (.seq (.block 9 (.seq (.draw [] [⟨zO 81 (.faddr (.t 1) 0), false, 0, 1⟩, ⟨zO 82 (.ld (.t 81) 1 false), false, 0, 1⟩, ⟨zM 83 5, false, 0, 1⟩, ⟨zM 84 11, false, 0, 1⟩, ⟨zO 85 (.iaddr 1 (.t 83) (.t 84)), false, 0, 1⟩, ⟨zO 86 (.ld (.t 85) 1 false), false, 0, 1⟩, ⟨zO 87 (.iaddr 2 (.t 82) (.t 86)), false, 0, 1⟩, ⟨zO 88 (.ld (.t 87) 2 true), false, 0, 1⟩, ⟨zO 12 (.alloc 0 57 [(1, 59, 2, 0)] [(.string ⟨#[]⟩), (.slice none 0 0)]), true, 0, 1⟩, ⟨zU (.st true 2 [(1, 59, 2, 0)] (.t 12) (.t 88)), true, 1, 2⟩]) (.seq (.ops [zO 89 (.faddr (.t 12) 0), zO 90 (.ld (.t 89) 1 false), zO 91 (.bld [(.string ⟨#[]⟩), (.slice none 0 0)] [(0, 1, (.t 90))]), zO 13 (.alloc 0 57 [(1, 59, 2, 0)] [(.string ⟨#[]⟩), (.slice none 0 0)]), zU (.st true 2 [(1, 59, 2, 0)] (.t 13) (.t 91))]) (.seq (.seq (.ops [zO 14 (.mov (.c (.int .i64 0)))]) (.block 10 (.loop (.seq (.seq (.ops [zM 92 14, zO 93 (.faddr (.t 12) 1), zO 94 (.ld (.t 93) 1 false), zO 95 (.len false (.t 94)), zO 96 (.sc (.bin .lss 3) [(.t 92), (.t 95)])]) (.cond (.t 96)
  .skip
  (.exit 10))) (.seq (.block 11 (.draw [] [zQ (zO 99 (.faddr (.t 13) 1)), zQ (zO 100 (.ld (.t 99) 1 false)), zQ (zO 101 (.faddr (.t 12) 1)), zQ (zO 102 (.ld (.t 101) 1 false)), zQ (zM 103 14), zQ (zO 104 (.iaddr 2 (.t 102) (.t 103))), zQ (zO 105 (.ld (.t 104) 2 true)), zQ (zM 106 3), zQ (zO 107 (.call 104 [(.t 105), (.t 106)])), zQ (zO 108 (.isl 2 [(.t 107)])), ⟨zO 109 (.app 0 59 2 16 (.t 100) (.t 108)), true, 0, 1⟩, ⟨zO 110 (.faddr (.t 13) 1), false, 1, 1⟩, ⟨zU (.st true 1 [(0, 59, 2, 0)] (.t 110) (.t 109)), true, 1, 2⟩])) (.ops [zM 97 14, zO 98 (.sc (.bin .add 3) [(.t 97), (.c (.int .i64 1))]), zM 14 98])))))) (.ops [zO 111 (.faddr (.t 10) 0), zO 112 (.faddr (.t 111) 0), zO 113 (.ld (.t 112) 1 false), zO 114 (.ld (.t 13) 2 true), zO 115 (.bsl 0 true 57 2 [(.t 114)]), zO 116 (.app 0 57 2 40 (.t 113) (.t 115)), zO 117 (.faddr (.t 10) 0), zO 118 (.faddr (.t 117) 0), zU (.st true 1 [(0, 57, 2, 0)] (.t 118) (.t 116))]))))) (.ops [zM 79 11, zO 80 (.sc (.bin .add 3) [(.t 79), (.c (.int .i64 1))]), zM 11 80])))))) (.seq (.seq (.ops [zO 15 (.mov (.c (.int .i64 0)))]) (.block 12 (.loop (.seq (.seq (.ops [zM 119 15, zO 120 (.faddr (.t 1) 1), zO 121 (.ld (.t 120) 1 false), zO 122 (.len false (.t 121)), zO 123 (.sc (.bin .lss 3) [(.t 119), (.t 122)])]) (.cond (.t 123)
  .skip
  (.exit 12))) (.seq (.block 13 (.draw [] [zQ (zO 126 (.faddr (.t 10) 0)), zQ (zO 127 (.faddr (.t 126) 1)), zQ (zO 128 (.ld (.t 127) 1 false)), zQ (zO 129 (.faddr (.t 1) 1)), zQ (zO 130 (.ld (.t 129) 1 false)), zQ (zM 131 15), zQ (zO 132 (.iaddr 2 (.t 130) (.t 131))), zQ (zO 133 (.ld (.t 132) 2 true)), zQ (zM 134 3), zQ (zO 135 (.call 104 [(.t 133), (.t 134)])), zQ (zO 136 (.isl 2 [(.t 135)])), ⟨zO 137 (.app 0 59 2 16 (.t 128) (.t 136)), true, 0, 1⟩, ⟨zO 138 (.faddr (.t 10) 0), false, 1, 1⟩, ⟨zO 139 (.faddr (.t 138) 1), false, 1, 1⟩, ⟨zU (.st true 1 [(0, 59, 2, 0)] (.t 139) (.t 137)), true, 1, 2⟩])) (.ops [zM 124 15, zO 125 (.sc (.bin .add 3) [(.t 124), (.c (.int .i64 1))]), zM 15 125])))))) (.seq (.ops [zO 140 (.ld (.t 10) 4 true), zU (.st true 4 [(0, 57, 2, 0), (1, 59, 2, 0), (2, 3, 1, 0)] (.t 2) (.t 140))]) .ret))))))))))) := by kernel_rfl
end Go.Proofs
end
