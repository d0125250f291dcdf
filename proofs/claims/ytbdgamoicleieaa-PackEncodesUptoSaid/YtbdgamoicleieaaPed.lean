/- Texts of this claim, one behind the other. -/
import Derived.Test.YtbdgamoicleieaaPec
set_option linter.unusedVariables false
set_option linter.unusedSimpArgs false
section
set_option linter.unusedVariables false
set_option maxRecDepth 100000
set_option maxHeartbeats 4000000
namespace Go.Proofs
open Go.Vm
attribute [local irreducible] vOps vDraw vC vK retP retH PureSpec HSpec
theorem ic13 : fnIC Try.prog H0 13 = some ([.tmp 2], 79, (.seq (.ops [zO 2 (.mov (.c (.bool false)))]) (.seq (.seq (.ops [zO 3 (.mov (.c (.int .i64 0)))]) (.block 0 (.loop (.seq (.seq (.ops [zM 6 3, zM 7 0, zO 8 (.len false (.t 7)), zO 9 (.sc (.bin .lss 3) [(.t 6), (.t 8)])]) (.cond (.t 9)
  .skip
  (.exit 0))) (.seq (.block 1 (.seq (.ops [zM 12 0, zM 13 3, zO 14 (.iaddr 2 (.t 12) (.t 13)), zO 15 (.faddr (.t 14) 1), zO 16 (.ld (.t 15) 1 false), zO 17 (.len false (.t 16)), zM 4 17]) (.seq (.seq (.ops [zM 18 0, zM 19 3, zO 20 (.iaddr 2 (.t 18) (.t 19)), zO 21 (.faddr (.t 20) 0), zO 22 (.ld (.t 21) 1 false), zO 23 (.len true (.t 22)), zO 24 (.sc (.bin .gtr 3) [(.t 23), (.c (.int .i64 30))]), zM 25 24, zN 26 25 false 4, zG 27 25 false (.sc (.bin .gtr 3) [(.t 26), (.c (.int .i64 6))]), zN 28 25 false 27, zN 29 28 true 4, zG 30 28 true (.sc (.bin .leq 3) [(.t 29), (.c (.int .i64 30))]), zG 31 25 false (.pick (.t 28) (.t 30) (.c (.bool false))), zO 32 (.pick (.t 25) (.c (.bool true)) (.t 31)), zM 33 32, zN 34 33 false 4, zG 35 33 false (.sc (.bin .gtr 3) [(.t 34), (.c (.int .i64 40))]), zO 36 (.pick (.t 33) (.c (.bool true)) (.t 35))]) (.cond (.t 36)
  (.seq (.ops [zO 2 (.mov (.c (.bool false)))]) .ret)
  .skip)) (.seq (.ops [zO 5 (.mov (.c (.int .i64 0)))]) (.block 2 (.loop (.seq (.seq (.ops [zM 37 5, zM 38 4, zO 39 (.sc (.bin .lss 3) [(.t 37), (.t 38)])]) (.cond (.t 39)
  .skip
  (.exit 2))) (.seq (.block 3 (.seq (.ops [zM 42 0, zM 43 3, zO 44 (.iaddr 2 (.t 42) (.t 43)), zO 45 (.faddr (.t 44) 1), zO 46 (.ld (.t 45) 1 false), zM 47 5, zO 48 (.iaddr 3 (.t 46) (.t 47)), zO 49 (.faddr (.t 48) 0), zO 50 (.ld (.t 49) 1 false), zO 51 (.len true (.t 50)), zO 52 (.sc (.bin .gtr 3) [(.t 51), (.c (.int .i64 30))]), zM 53 52, zN 54 53 false 0, zN 55 53 false 3, zG 56 53 false (.iaddr 2 (.t 54) (.t 55)), zG 57 53 false (.faddr (.t 56) 1), zG 58 53 false (.ld (.t 57) 1 false), zN 59 53 false 5, zG 60 53 false (.iaddr 3 (.t 58) (.t 59)), zG 61 53 false (.faddr (.t 60) 2), zG 62 53 false (.ld (.t 61) 1 false), zG 63 53 false (.len true (.t 62)), zG 64 53 false (.sc (.bin .gtr 3) [(.t 63), (.c (.int .i64 30))]), zO 65 (.pick (.t 53) (.c (.bool true)) (.t 64))]) (.cond (.t 65)
  (.seq (.ops [zO 2 (.mov (.c (.bool false)))]) .ret)
  .skip))) (.ops [zM 40 5, zO 41 (.sc (.bin .add 3) [(.t 40), (.c (.int .i64 1))]), zM 5 41]))))))))) (.ops [zM 10 3, zO 11 (.sc (.bin .add 3) [(.t 10), (.c (.int .i64 1))]), zM 3 11])))))) (.seq (.ops [zM 66 0, zO 67 (.len false (.t 66)), zO 68 (.sc (.bin .leq 3) [(.t 67), (.c (.int .i64 6))]), zM 69 68, zN 70 69 false 0, zG 71 69 false (.len false (.t 70)), zG 72 69 false (.sc (.bin .gtr 3) [(.t 71), (.c (.int .i64 24))]), zN 73 69 false 72, zN 74 73 true 0, zG 75 73 true (.len false (.t 74)), zG 76 73 true (.sc (.bin .leq 3) [(.t 75), (.c (.int .i64 30))]), zG 77 69 false (.pick (.t 73) (.t 76) (.c (.bool false))), zO 78 (.pick (.t 69) (.c (.bool true)) (.t 77)), zM 2 78]) .ret)))) := by kernel_rfl
def f13_k115 (x109 : Int) (c90k : Int → Option Bool) (x125 : Bool) : Option Bool := (bif x125 then some false else (c90k (wr .i64 (x109 + 1))))
def f13_k72 (x67 : Int) (c6k : Int → Option Bool) : Option Bool := (c6k (wr .i64 (x67 + 1)))
def f13_l90 (x75 : Form) (a1 : (List Form)) (x67 : Int) (k72k : Option Bool) : Nat → Int → Option Bool
  | 0, _ => none
  | m90 + 1, x109 => (bif (decide (x109 < (len x75.fCols))) then ((gi a1 x67).bind fun x116 => ((gi x116.fCols x109).bind fun x118 => (bif (decide ((bsz x118.fName) > 30)) then (f13_k115 x109 (f13_l90 x75 a1 x67 (k72k) m90) true) else ((gi a1 x67).bind fun x121 => ((gi x121.fCols x109).bind fun x123 => (f13_k115 x109 (f13_l90 x75 a1 x67 (k72k) m90) (decide ((bsz x123.fClass) > 30)))))))) else (k72k))
def f13_k79 (n : Nat) (x75 : Form) (a1 : (List Form)) (x67 : Int) (c6k : Int → Option Bool) (x85 : Bool) : Option Bool := (bif x85 then some false else (f13_l90 x75 a1 x67 (f13_k72 x67 (c6k)) n 0))
def f13_k128 (x134 : Bool) : Option Bool := some x134
def f13_k3 (a1 : (List Form)) : Option Bool := (bif (decide ((len a1) ≤ 6)) then (f13_k128 true) else (bif (decide ((len a1) > 24)) then (f13_k128 (decide ((len a1) ≤ 30))) else (f13_k128 false)))
def f13_l6 (a1 : (List Form)) (n : Nat) (k3k : Option Bool) : Nat → Int → Option Bool
  | 0, _ => none
  | m6 + 1, x67 => (bif (decide (x67 < (len a1))) then ((gi a1 x67).bind fun x75 => ((gi a1 x67).bind fun x80 => (bif (decide ((bsz x80.fName) > 30)) then (f13_k79 n x75 a1 x67 (f13_l6 a1 n (k3k) m6) true) else (bif (decide ((len x75.fCols) > 6)) then (bif (decide ((len x75.fCols) ≤ 30)) then (f13_k79 n x75 a1 x67 (f13_l6 a1 n (k3k) m6) true) else (f13_k79 n x75 a1 x67 (f13_l6 a1 n (k3k) m6) (decide ((len x75.fCols) > 40)))) else (f13_k79 n x75 a1 x67 (f13_l6 a1 n (k3k) m6) (decide ((len x75.fCols) > 40))))))) else (k3k))
def f13 (n : Nat) (a1 : (List Form)) : Option Bool := (f13_l6 a1 n (f13_k3 a1) n 0)
def f13_r (r : Bool) : AV := (vB r)
theorem p_f13 {n : Nat} {a1 : (List Form)} {r : Bool} (h : f13 n a1 = some r) : PureSpec Try.prog 13 [(vL Form.c a1)] (f13_r r) := by
 rw [f13.eq_1] at h
 refine pure_of hmix ic13 ?_
 refine go_to (mkd (.val undef) 79 0 [(0, (vL Form.c a1))]) ?_
 refine s_so fun N2 k2 w2 => ?_
 refine o_r1 [(2, (vB false))] ?_
 refine o_end (k2 _ ?_)
 refine J0 (r := r) ⟨(mkd .any 79 0 [(0, (vL Form.c a1))]), []⟩ (f13_k3 a1) ?_ ?_
 · intro h
   rw [f13_k3.eq_1] at h
   refine J1 (r := r) (fun (x134 : Bool) => ⟨(mkd .any 79 0 [(2, (vB x134))]), []⟩) (f13_k128) ?_ ?_
   · intro x134 h
     rw [f13_k128.eq_1] at h
     exact c_ret (rets [] [(vB x134)] [(vB x134)] h)
   · intro N128 w128
     refine c_ops ?_
     refine o_r1 [(66, (vL Form.c a1))] ?_
     refine o_o (one_len (f := Form.c) (l := a1)) ?_
     refine o_r2 [(68, (vB (decide ((len a1) ≤ 6)))), (69, (vB (decide ((len a1) ≤ 6))))] ?_
     refine i_o [68, 69] h (fun h => ?_) (fun h => ?_)
     · refine o_r10 [(2, (vB true)), (70, (.val undef)), (71, (.val undef)), (72, (.val undef)), (73, (.val undef)), (74, (.val undef)), (75, (.val undef)), (76, (.val undef)), (77, (.val undef)), (78, (vB true))] ?_
       exact o_end (w128 _ _ (wkm [2] wh_nil) h)
     · refine o_r1 [(70, (vL Form.c a1))] ?_
       refine o_g ?_
       refine o_o (one_len (f := Form.c) (l := a1)) ?_
       refine o_r2 [(72, (vB (decide ((len a1) > 24)))), (73, (vB (decide ((len a1) > 24))))] ?_
       refine i_o [72, 73] h (fun h => ?_) (fun h => ?_)
       · refine o_r1 [(74, (vL Form.c a1))] ?_
         refine o_g ?_
         refine o_o (one_len (f := Form.c) (l := a1)) ?_
         refine o_r4 [(2, (vB (decide ((len a1) ≤ 30)))), (76, (vB (decide ((len a1) ≤ 30)))), (77, (vB (decide ((len a1) ≤ 30)))), (78, (vB (decide ((len a1) ≤ 30))))] ?_
         exact o_end (w128 _ _ (wkm [2] wh_nil) h)
       · refine o_r6 [(2, (vB false)), (74, (.val undef)), (75, (.val undef)), (76, (.val undef)), (77, (vB false)), (78, (vB false))] ?_
         exact o_end (w128 _ _ (wkm [2] wh_nil) h)
 · intro N3 w3
   refine s_so fun N4 k4 w4 => ?_
   refine o_r1 [(3, (vI 0))] ?_
   refine o_end (k4 _ ?_)
   refine c_block fun E5 hE5 hO5 => ?_
   refine W1 (fun (x67 : Int) => ⟨(mkd .any 79 0 [(0, (vL Form.c a1)), (3, (vI x67))]), []⟩) (f13_l6 a1 n (f13_k3 a1)) h (wkm [0, 3] wh_nil) (by intros; rw [f13_l6.eq_1]) ?_
   intro m6 x67 h N6 w6
   rw [f13_l6.eq_2] at h
   refine s_seq fun N68 k68 w68 => ?_
   refine s_so fun N69 k69 w69 => ?_
   refine o_r2 [(6, (vI x67)), (7, (vL Form.c a1))] ?_
   refine o_o (one_len (f := Form.c) (l := a1)) ?_
   refine o_r1 [(9, (vB (decide (x67 < (len a1)))))] ?_
   refine o_end (k69 _ ?_)
   refine i_c [9] h (fun h => ?_) (fun h => ?_)
   · refine c_skip (k68 _ ?_)
     refine J0 (r := r) ⟨(mkd .any 79 0 [(0, (vL Form.c a1)), (3, (vI x67))]), []⟩ (f13_k72 x67 (f13_l6 a1 n (f13_k3 a1) m6)) ?_ ?_
     · intro h
       rw [f13_k72.eq_1] at h
       refine c_ops ?_
       refine o_r3 [(3, (vI (wr .i64 (x67 + 1)))), (10, (vI x67)), (11, (vI (wr .i64 (x67 + 1))))] ?_
       exact o_end (w6 _ _ (wkm [0, 3] wh_nil) h)
     · intro N72 w72
       refine c_block fun E73 hE73 hO73 => ?_
       refine s_so fun N74 k74 w74 => ?_
       refine o_r2 [(12, (vL Form.c a1)), (13, (vI x67))] ?_
       refine bnd h fun x75 g76 h => ?_
       refine o_o (one_ia (f := Form.c) (ki := .i64) g76) ?_
       refine o_r2 [(15, (.iptr [(vL Col.c x75.fCols)])), (16, (vL Col.c x75.fCols))] ?_
       refine o_o (one_len (f := Col.c) (l := x75.fCols)) ?_
       refine o_r1 [(4, (vI (len x75.fCols)))] ?_
       refine o_end (k74 _ ?_)
       refine s_seq fun N78 k78 w78 => ?_
       refine J1 (r := r) (fun (x85 : Bool) => ⟨(mkd .any 79 0 [(0, (vL Form.c a1)), (3, (vI x67)), (4, (vI (len x75.fCols))), (36, (vB x85))]), []⟩) (f13_k79 n x75 a1 x67 (f13_l6 a1 n (f13_k3 a1) m6)) ?_ ?_
       · intro x85 h
         rw [f13_k79.eq_1] at h
         refine i_c [36] h (fun h => ?_) (fun h => ?_)
         · refine s_so fun N87 k87 w87 => ?_
           refine o_r1 [(2, (vB false))] ?_
           refine o_end (k87 _ ?_)
           exact c_ret (rets [] [(vB false)] [(vB false)] h)
         · refine c_skip (k78 _ ?_)
           refine s_so fun N88 k88 w88 => ?_
           refine o_r1 [(5, (vI 0))] ?_
           refine o_end (k88 _ ?_)
           refine c_block fun E89 hE89 hO89 => ?_
           refine W1 (fun (x109 : Int) => ⟨(mkd .any 79 0 [(0, (vL Form.c a1)), (3, (vI x67)), (4, (vI (len x75.fCols))), (5, (vI x109))]), []⟩) (f13_l90 x75 a1 x67 (f13_k72 x67 (f13_l6 a1 n (f13_k3 a1) m6))) h (wkm [0, 3, 4, 5] wh_nil) (by intros; rw [f13_l90.eq_1]) ?_
           intro m90 x109 h N90 w90
           rw [f13_l90.eq_2] at h
           refine s_seq fun N110 k110 w110 => ?_
           refine s_so fun N111 k111 w111 => ?_
           refine o_r3 [(37, (vI x109)), (38, (vI (len x75.fCols))), (39, (vB (decide (x109 < (len x75.fCols)))))] ?_
           refine o_end (k111 _ ?_)
           refine i_c [39] h (fun h => ?_) (fun h => ?_)
           · refine c_skip (k110 _ ?_)
             refine s_seq fun N113 k113 w113 => ?_
             refine c_block fun E114 hE114 hO114 => ?_
             refine J1 (r := r) (fun (x125 : Bool) => ⟨(mkd .any 79 0 [(0, (vL Form.c a1)), (3, (vI x67)), (4, (vI (len x75.fCols))), (5, (vI x109)), (65, (vB x125))]), []⟩) (f13_k115 x109 (f13_l90 x75 a1 x67 (f13_k72 x67 (f13_l6 a1 n (f13_k3 a1) m6)) m90)) ?_ ?_
             · intro x125 h
               rw [f13_k115.eq_1] at h
               refine i_c [65] h (fun h => ?_) (fun h => ?_)
               · refine s_so fun N127 k127 w127 => ?_
                 refine o_r1 [(2, (vB false))] ?_
                 refine o_end (k127 _ ?_)
                 exact c_ret (rets [] [(vB false)] [(vB false)] h)
               · refine c_skip (k113 _ ?_)
                 refine c_ops ?_
                 refine o_r3 [(5, (vI (wr .i64 (x109 + 1)))), (40, (vI x109)), (41, (vI (wr .i64 (x109 + 1))))] ?_
                 exact o_end (w90 _ _ (wkm [0, 3, 4, 5] wh_nil) h)
             · intro N115 w115
               refine c_ops ?_
               refine o_r2 [(42, (vL Form.c a1)), (43, (vI x67))] ?_
               refine bnd h fun x116 g117 h => ?_
               refine o_o (one_ia (f := Form.c) (ki := .i64) g117) ?_
               refine o_r3 [(45, (.iptr [(vL Col.c x116.fCols)])), (46, (vL Col.c x116.fCols)), (47, (vI x109))] ?_
               refine bnd h fun x118 g119 h => ?_
               refine o_o (one_ia (f := Col.c) (ki := .i64) g119) ?_
               refine o_r5 [(49, (.iptr [(vS x118.fName), (vI x118.fKind), (vS x118.fClass)])), (50, (vS x118.fName)), (51, (vI (bsz x118.fName))), (52, (vB (decide ((bsz x118.fName) > 30)))), (53, (vB (decide ((bsz x118.fName) > 30))))] ?_
               refine i_o [52, 53] h (fun h => ?_) (fun h => ?_)
               · refine o_r12 [(54, (.val undef)), (55, (.val undef)), (56, (.val undef)), (57, (.val undef)), (58, (.val undef)), (59, (.val undef)), (60, (.val undef)), (61, (.val undef)), (62, (.val undef)), (63, (.val undef)), (64, (.val undef)), (65, (vB true))] ?_
                 exact o_end (w115 _ _ (wkm [0, 3, 4, 5, 65] wh_nil) h)
               · refine o_r2 [(54, (vL Form.c a1)), (55, (vI x67))] ?_
                 refine bnd h fun x121 g122 h => ?_
                 refine o_g ?_
                 refine o_o (one_ia (f := Form.c) (ki := .i64) g122) ?_
                 refine o_r3 [(57, (.iptr [(vL Col.c x121.fCols)])), (58, (vL Col.c x121.fCols)), (59, (vI x109))] ?_
                 refine bnd h fun x123 g124 h => ?_
                 refine o_g ?_
                 refine o_o (one_ia (f := Col.c) (ki := .i64) g124) ?_
                 refine o_r5 [(61, (.iptr [(vS x123.fClass)])), (62, (vS x123.fClass)), (63, (vI (bsz x123.fClass))), (64, (vB (decide ((bsz x123.fClass) > 30)))), (65, (vB (decide ((bsz x123.fClass) > 30))))] ?_
                 refine s_tm (mkd .any 79 0 [(0, (vL Form.c a1)), (3, (vI x67)), (4, (vI (len x75.fCols))), (5, (vI x109)), (37, (vI x109)), (38, (vI (len x75.fCols))), (39, (vB true)), (42, (vL Form.c a1)), (43, (vI x67)), (44, (.iptr [(vS x116.fName), (vL Col.c x116.fCols)])), (45, (.iptr [(vL Col.c x116.fCols)])), (46, (vL Col.c x116.fCols)), (47, (vI x109)), (48, (.iptr [(vS x118.fName), (vI x118.fKind), (vS x118.fClass)])), (49, (.iptr [(vS x118.fName), (vI x118.fKind), (vS x118.fClass)])), (50, (vS x118.fName)), (51, (vI (bsz x118.fName))), (52, (vB false)), (53, (vB false)), (54, (vL Form.c a1)), (55, (vI x67)), (56, (.iptr [(vS x121.fName), (vL Col.c x121.fCols)])), (57, (.iptr [(vL Col.c x121.fCols)])), (58, (vL Col.c x121.fCols)), (59, (vI x109)), (60, (.iptr [(vS x123.fName), (vI x123.fKind), (vS x123.fClass)])), (61, (.iptr [(vS x123.fClass)])), (62, (vS x123.fClass)), (63, (vI (bsz x123.fClass))), (64, (vB (decide ((bsz x123.fClass) > 30)))), (65, (vB (decide ((bsz x123.fClass) > 30))))]) ?_
                 exact o_end (w115 _ _ (wkm [0, 3, 4, 5, 65] wh_nil) h)
           · refine c_exit (hE89 _ ?_)
             exact w72 _ (wkm [0, 3] wh_nil) h
       · intro N79 w79
         refine c_ops ?_
         refine o_r2 [(18, (vL Form.c a1)), (19, (vI x67))] ?_
         refine bnd h fun x80 g81 h => ?_
         refine o_o (one_ia (f := Form.c) (ki := .i64) g81) ?_
         refine o_r5 [(21, (.iptr [(vS x80.fName), (vL Col.c x80.fCols)])), (22, (vS x80.fName)), (23, (vI (bsz x80.fName))), (24, (vB (decide ((bsz x80.fName) > 30)))), (25, (vB (decide ((bsz x80.fName) > 30))))] ?_
         refine s_tm (mkd .any 79 0 [(0, (vL Form.c a1)), (3, (vI x67)), (4, (vI (len x75.fCols))), (6, (vI x67)), (7, (vL Form.c a1)), (8, (vI (len a1))), (9, (vB true)), (12, (vL Form.c a1)), (13, (vI x67)), (14, (.iptr [(vS x75.fName), (vL Col.c x75.fCols)])), (15, (.iptr [(vL Col.c x75.fCols)])), (16, (vL Col.c x75.fCols)), (17, (vI (len x75.fCols))), (18, (vL Form.c a1)), (19, (vI x67)), (20, (.iptr [(vS x80.fName), (vL Col.c x80.fCols)])), (21, (.iptr [(vS x80.fName), (vL Col.c x80.fCols)])), (22, (vS x80.fName)), (23, (vI (bsz x80.fName))), (24, (vB (decide ((bsz x80.fName) > 30)))), (25, (vB (decide ((bsz x80.fName) > 30))))]) ?_
         refine i_o [24, 25] h (fun h => ?_) (fun h => ?_)
         · refine o_r11 [(26, (.val undef)), (27, (.val undef)), (28, (.val undef)), (29, (.val undef)), (30, (.val undef)), (31, (.val undef)), (32, (vB true)), (33, (vB true)), (34, (.val undef)), (35, (.val undef)), (36, (vB true))] ?_
           exact o_end (w79 _ _ (wkm [0, 3, 4, 36] wh_nil) h)
         · refine o_r3 [(26, (vI (len x75.fCols))), (27, (vB (decide ((len x75.fCols) > 6)))), (28, (vB (decide ((len x75.fCols) > 6))))] ?_
           refine i_o [27, 28] h (fun h => ?_) (fun h => ?_)
           · refine o_r5 [(29, (vI (len x75.fCols))), (30, (vB (decide ((len x75.fCols) ≤ 30)))), (31, (vB (decide ((len x75.fCols) ≤ 30)))), (32, (vB (decide ((len x75.fCols) ≤ 30)))), (33, (vB (decide ((len x75.fCols) ≤ 30))))] ?_
             refine i_o [30, 31, 32, 33] h (fun h => ?_) (fun h => ?_)
             · refine o_r3 [(34, (.val undef)), (35, (.val undef)), (36, (vB true))] ?_
               exact o_end (w79 _ _ (wkm [0, 3, 4, 36] wh_nil) h)
             · refine o_r3 [(34, (vI (len x75.fCols))), (35, (vB (decide ((len x75.fCols) > 40)))), (36, (vB (decide ((len x75.fCols) > 40))))] ?_
               exact o_end (w79 _ _ (wkm [0, 3, 4, 36] wh_nil) h)
           · refine o_r8 [(29, (.val undef)), (30, (.val undef)), (31, (vB false)), (32, (vB false)), (33, (vB false)), (34, (vI (len x75.fCols))), (35, (vB (decide ((len x75.fCols) > 40)))), (36, (vB (decide ((len x75.fCols) > 40))))] ?_
             exact o_end (w79 _ _ (wkm [0, 3, 4, 36] wh_nil) h)
   · refine c_exit (hE5 _ ?_)
     exact w3 _ (wkm [0] wh_nil) h
theorem ic14 : fnIC Try.prog H0 14 = some ([.tmp 2], 57, (.seq (.ops [zO 1 (.box 0 26 [(0, 57, 2, 0), (1, 59, 2, 0)] (.t 0)), zO 2 (.mov (.c (.bool false)))]) (.seq (.ops [zO 7 (.faddr (.t 1) 0), zO 8 (.ld (.t 7) 1 false), zO 9 (.len false (.t 8)), zM 3 9]) (.seq (.seq (.ops [zO 4 (.mov (.c (.int .i64 0)))]) (.block 0 (.loop (.seq (.seq (.ops [zM 10 4, zM 11 3, zO 12 (.sc (.bin .lss 3) [(.t 10), (.t 11)])]) (.cond (.t 12)
  .skip
  (.exit 0))) (.seq (.block 1 (.seq (.ops [zO 15 (.faddr (.t 1) 0), zO 16 (.ld (.t 15) 1 false), zM 17 4, zO 18 (.iaddr 2 (.t 16) (.t 17)), zO 19 (.faddr (.t 18) 1), zO 20 (.ld (.t 19) 1 false), zO 21 (.len false (.t 20)), zM 5 21]) (.seq (.ops [zM 22 5, zO 23 (.sc (.bin .gtr 3) [(.t 22), (.c (.int .i64 8))]), zM 24 23, zN 25 24 true 5, zG 26 24 true (.sc (.bin .leq 3) [(.t 25), (.c (.int .i64 30))]), zO 27 (.pick (.t 24) (.t 26) (.c (.bool false))), zM 28 27, zN 29 28 false 5, zG 30 28 false (.sc (.bin .gtr 3) [(.t 29), (.c (.int .i64 40))]), zO 31 (.pick (.t 28) (.c (.bool true)) (.t 30))]) (.cond (.t 31)
  (.seq (.ops [zO 2 (.mov (.c (.bool false)))]) .ret)
  .skip)))) (.ops [zM 13 4, zO 14 (.sc (.bin .add 3) [(.t 13), (.c (.int .i64 1))]), zM 4 14])))))) (.seq (.ops [zO 32 (.faddr (.t 1) 1), zO 33 (.ld (.t 32) 1 false), zO 34 (.len false (.t 33)), zM 6 34]) (.seq (.ops [zM 35 3, zO 36 (.sc (.bin .leq 3) [(.t 35), (.c (.int .i64 30))]), zM 37 36, zN 38 37 false 3, zG 39 37 false (.sc (.bin .gtr 3) [(.t 38), (.c (.int .i64 400))]), zN 40 37 false 39, zN 41 40 true 3, zG 42 40 true (.sc (.bin .leq 3) [(.t 41), (.c (.int .i64 410))]), zG 43 37 false (.pick (.t 40) (.t 42) (.c (.bool false))), zO 44 (.pick (.t 37) (.c (.bool true)) (.t 43)), zM 45 44, zN 46 45 true 6, zG 47 45 true (.sc (.bin .leq 3) [(.t 46), (.c (.int .i64 10))]), zN 48 45 true 47, zN 49 48 false 6, zG 50 48 false (.sc (.bin .gtr 3) [(.t 49), (.c (.int .i64 60))]), zN 51 48 false 50, zN 52 51 true 6, zG 53 51 true (.sc (.bin .leq 3) [(.t 52), (.c (.int .i64 70))]), zG 54 48 false (.pick (.t 51) (.t 53) (.c (.bool false))), zG 55 45 true (.pick (.t 48) (.c (.bool true)) (.t 54)), zO 56 (.pick (.t 45) (.t 55) (.c (.bool false))), zM 2 56]) .ret)))))) := by kernel_rfl
def f14_k34 (x24 : Int) (c8k : Int → Option Bool) (x37 : Bool) : Option Bool := (bif x37 then some false else (c8k (wr .i64 (x24 + 1))))
def f14_k42 (x50 : Bool) : Option Bool := some x50
def f14_k5 (a1 : Graph) : Option Bool := (bif (decide ((len a1.fNodes) ≤ 30)) then (bif (decide ((len a1.fRoots) ≤ 10)) then (f14_k42 true) else (bif (decide ((len a1.fRoots) > 60)) then (f14_k42 (decide ((len a1.fRoots) ≤ 70))) else (f14_k42 false))) else (bif (decide ((len a1.fNodes) > 400)) then (bif (decide ((len a1.fNodes) ≤ 410)) then (bif (decide ((len a1.fRoots) ≤ 10)) then (f14_k42 true) else (bif (decide ((len a1.fRoots) > 60)) then (f14_k42 (decide ((len a1.fRoots) ≤ 70))) else (f14_k42 false))) else (f14_k42 false)) else (f14_k42 false)))
def f14_l8 (a1 : Graph) (k5k : Option Bool) : Nat → Int → Option Bool
  | 0, _ => none
  | m8 + 1, x24 => (bif (decide (x24 < (len a1.fNodes))) then ((gi a1.fNodes x24).bind fun x31 => (bif (decide ((len x31.fVals) > 8)) then (bif (decide ((len x31.fVals) ≤ 30)) then (f14_k34 x24 (f14_l8 a1 (k5k) m8) true) else (f14_k34 x24 (f14_l8 a1 (k5k) m8) (decide ((len x31.fVals) > 40)))) else (f14_k34 x24 (f14_l8 a1 (k5k) m8) (decide ((len x31.fVals) > 40))))) else (k5k))
def f14 (n : Nat) (a1 : Graph) : Option Bool := (f14_l8 a1 (f14_k5 a1) n 0)
def f14_r (r : Bool) : AV := (vB r)
theorem p_f14 {n : Nat} {a1 : Graph} {r : Bool} (h : f14 n a1 = some r) : PureSpec Try.prog 14 [(.agg [(vL Node.c a1.fNodes), (vL Val.c a1.fRoots)])] (f14_r r) := by
 rw [f14.eq_1] at h
 refine pure_of hmix ic14 ?_
 refine go_to (mkd (.val undef) 57 0 [(0, (.agg [(vL Node.c a1.fNodes), (vL Val.c a1.fRoots)]))]) ?_
 refine s_so fun N2 k2 w2 => ?_
 refine o_h2 [(1, (.ptr 0 0)), (2, (vB false))] [(some (.box 26 [(vL Node.c a1.fNodes), (vL Val.c a1.fRoots)]))] ?_
 refine o_end (k2 _ ?_)
 refine s_so fun N3 k3 w3 => ?_
 refine o_r2 [(7, (.ptr 0 0)), (8, (vL Node.c a1.fNodes))] ?_
 refine o_o (one_len (f := Node.c) (l := a1.fNodes)) ?_
 refine o_r1 [(3, (vI (len a1.fNodes)))] ?_
 refine o_end (k3 _ ?_)
 refine J0 (r := r) ⟨(mkd .any 57 0 [(1, (.ptr 0 0)), (3, (vI (len a1.fNodes)))]), [(some (.box 26 [(vL Node.c a1.fNodes), (vL Val.c a1.fRoots)]))]⟩ (f14_k5 a1) ?_ ?_
 · intro h
   rw [f14_k5.eq_1] at h
   refine s_so fun N40 k40 w40 => ?_
   refine o_r2 [(32, (.ptr 0 1)), (33, (vL Val.c a1.fRoots))] ?_
   refine o_o (one_len (f := Val.c) (l := a1.fRoots)) ?_
   refine o_r1 [(6, (vI (len a1.fRoots)))] ?_
   refine o_end (k40 _ ?_)
   refine J1 (r := r) (fun (x50 : Bool) => ⟨(mkd .any 57 0 [(2, (vB x50))]), []⟩) (f14_k42) ?_ ?_
   · intro x50 h
     rw [f14_k42.eq_1] at h
     exact c_ret (rets [] [(vB x50)] [(vB x50)] h)
   · intro N42 w42
     refine c_ops ?_
     refine o_r3 [(35, (vI (len a1.fNodes))), (36, (vB (decide ((len a1.fNodes) ≤ 30)))), (37, (vB (decide ((len a1.fNodes) ≤ 30))))] ?_
     refine i_o [36, 37] h (fun h => ?_) (fun h => ?_)
     · refine o_r11 [(38, (.val undef)), (39, (.val undef)), (40, (.val undef)), (41, (.val undef)), (42, (.val undef)), (43, (.val undef)), (44, (vB true)), (45, (vB true)), (46, (vI (len a1.fRoots))), (47, (vB (decide ((len a1.fRoots) ≤ 10)))), (48, (vB (decide ((len a1.fRoots) ≤ 10))))] ?_
       refine i_o [47, 48] h (fun h => ?_) (fun h => ?_)
       · refine o_r9 [(2, (vB true)), (49, (.val undef)), (50, (.val undef)), (51, (.val undef)), (52, (.val undef)), (53, (.val undef)), (54, (.val undef)), (55, (vB true)), (56, (vB true))] ?_
         exact o_end (w42 _ _ (wkm [2] wh_nil) h)
       · refine o_r3 [(49, (vI (len a1.fRoots))), (50, (vB (decide ((len a1.fRoots) > 60)))), (51, (vB (decide ((len a1.fRoots) > 60))))] ?_
         refine i_o [50, 51] h (fun h => ?_) (fun h => ?_)
         · refine o_r6 [(2, (vB (decide ((len a1.fRoots) ≤ 70)))), (52, (vI (len a1.fRoots))), (53, (vB (decide ((len a1.fRoots) ≤ 70)))), (54, (vB (decide ((len a1.fRoots) ≤ 70)))), (55, (vB (decide ((len a1.fRoots) ≤ 70)))), (56, (vB (decide ((len a1.fRoots) ≤ 70))))] ?_
           exact o_end (w42 _ _ (wkm [2] wh_nil) h)
         · refine o_r6 [(2, (vB false)), (52, (.val undef)), (53, (.val undef)), (54, (vB false)), (55, (vB false)), (56, (vB false))] ?_
           exact o_end (w42 _ _ (wkm [2] wh_nil) h)
     · refine o_r3 [(38, (vI (len a1.fNodes))), (39, (vB (decide ((len a1.fNodes) > 400)))), (40, (vB (decide ((len a1.fNodes) > 400))))] ?_
       refine i_o [39, 40] h (fun h => ?_) (fun h => ?_)
       · refine o_r5 [(41, (vI (len a1.fNodes))), (42, (vB (decide ((len a1.fNodes) ≤ 410)))), (43, (vB (decide ((len a1.fNodes) ≤ 410)))), (44, (vB (decide ((len a1.fNodes) ≤ 410)))), (45, (vB (decide ((len a1.fNodes) ≤ 410))))] ?_
         refine i_o [42, 43, 44, 45] h (fun h => ?_) (fun h => ?_)
         · refine o_r3 [(46, (vI (len a1.fRoots))), (47, (vB (decide ((len a1.fRoots) ≤ 10)))), (48, (vB (decide ((len a1.fRoots) ≤ 10))))] ?_
           refine i_o [47, 48] h (fun h => ?_) (fun h => ?_)
           · refine o_r9 [(2, (vB true)), (49, (.val undef)), (50, (.val undef)), (51, (.val undef)), (52, (.val undef)), (53, (.val undef)), (54, (.val undef)), (55, (vB true)), (56, (vB true))] ?_
             refine s_tm (mkd .any 57 0 [(1, (.ptr 0 0)), (2, (vB true)), (3, (vI (len a1.fNodes))), (6, (vI (len a1.fRoots))), (32, (.ptr 0 1)), (33, (vL Val.c a1.fRoots)), (34, (vI (len a1.fRoots))), (35, (vI (len a1.fNodes))), (36, (vB false)), (37, (vB false)), (38, (vI (len a1.fNodes))), (39, (vB true)), (40, (vB true)), (41, (vI (len a1.fNodes))), (42, (vB true)), (43, (vB true)), (44, (vB true)), (45, (vB true)), (46, (vI (len a1.fRoots))), (47, (vB true)), (48, (vB true)), (49, (.val undef)), (50, (.val undef)), (51, (.val undef)), (52, (.val undef)), (53, (.val undef)), (54, (.val undef)), (55, (vB true)), (56, (vB true))]) ?_
             exact o_end (w42 _ _ (wkm [2] wh_nil) h)
           · refine o_r3 [(49, (vI (len a1.fRoots))), (50, (vB (decide ((len a1.fRoots) > 60)))), (51, (vB (decide ((len a1.fRoots) > 60))))] ?_
             refine s_tm (mkd .any 57 0 [(1, (.ptr 0 0)), (3, (vI (len a1.fNodes))), (6, (vI (len a1.fRoots))), (32, (.ptr 0 1)), (33, (vL Val.c a1.fRoots)), (34, (vI (len a1.fRoots))), (35, (vI (len a1.fNodes))), (36, (vB false)), (37, (vB false)), (38, (vI (len a1.fNodes))), (39, (vB true)), (40, (vB true)), (41, (vI (len a1.fNodes))), (42, (vB true)), (43, (vB true)), (44, (vB true)), (45, (vB true)), (46, (vI (len a1.fRoots))), (47, (vB false)), (48, (vB false)), (49, (vI (len a1.fRoots))), (50, (vB (decide ((len a1.fRoots) > 60)))), (51, (vB (decide ((len a1.fRoots) > 60))))]) ?_
             refine i_o [50, 51] h (fun h => ?_) (fun h => ?_)
             · refine o_r6 [(2, (vB (decide ((len a1.fRoots) ≤ 70)))), (52, (vI (len a1.fRoots))), (53, (vB (decide ((len a1.fRoots) ≤ 70)))), (54, (vB (decide ((len a1.fRoots) ≤ 70)))), (55, (vB (decide ((len a1.fRoots) ≤ 70)))), (56, (vB (decide ((len a1.fRoots) ≤ 70))))] ?_
               exact o_end (w42 _ _ (wkm [2] wh_nil) h)
             · refine o_r6 [(2, (vB false)), (52, (.val undef)), (53, (.val undef)), (54, (vB false)), (55, (vB false)), (56, (vB false))] ?_
               exact o_end (w42 _ _ (wkm [2] wh_nil) h)
         · refine o_r12 [(2, (vB false)), (46, (.val undef)), (47, (.val undef)), (48, (.val undef)), (49, (.val undef)), (50, (.val undef)), (51, (.val undef)), (52, (.val undef)), (53, (.val undef)), (54, (.val undef)), (55, (.val undef)), (56, (vB false))] ?_
           exact o_end (w42 _ _ (wkm [2] wh_nil) h)
       · refine o_r16 [(41, (.val undef)), (42, (.val undef)), (43, (vB false)), (44, (vB false)), (45, (vB false)), (46, (.val undef)), (47, (.val undef)), (48, (.val undef)), (49, (.val undef)), (50, (.val undef)), (51, (.val undef)), (52, (.val undef)), (53, (.val undef)), (54, (.val undef)), (55, (.val undef)), (56, (vB false))] ?_
         refine o_r1 [(2, (vB false))] ?_
         exact o_end (w42 _ _ (wkm [2] wh_nil) h)
 · intro N5 w5
   refine s_so fun N6 k6 w6 => ?_
   refine o_r1 [(4, (vI 0))] ?_
   refine o_end (k6 _ ?_)
   refine c_block fun E7 hE7 hO7 => ?_
   refine W1 (fun (x24 : Int) => ⟨(mkd .any 57 0 [(1, (.ptr 0 0)), (3, (vI (len a1.fNodes))), (4, (vI x24))]), [(some (.box 26 [(vL Node.c a1.fNodes), (vL Val.c a1.fRoots)]))]⟩) (f14_l8 a1 (f14_k5 a1)) h (wkm [1, 3, 4] (whk wh_nil)) (by intros; rw [f14_l8.eq_1]) ?_
   intro m8 x24 h N8 w8
   rw [f14_l8.eq_2] at h
   refine s_seq fun N25 k25 w25 => ?_
   refine s_so fun N26 k26 w26 => ?_
   refine o_r3 [(10, (vI x24)), (11, (vI (len a1.fNodes))), (12, (vB (decide (x24 < (len a1.fNodes)))))] ?_
   refine o_end (k26 _ ?_)
   refine i_c [12] h (fun h => ?_) (fun h => ?_)
   · refine c_skip (k25 _ ?_)
     refine s_seq fun N28 k28 w28 => ?_
     refine c_block fun E29 hE29 hO29 => ?_
     refine s_so fun N30 k30 w30 => ?_
     refine o_r3 [(15, (.ptr 0 0)), (16, (vL Node.c a1.fNodes)), (17, (vI x24))] ?_
     refine bnd h fun x31 g32 h => ?_
     refine o_o (one_ia (f := Node.c) (ki := .i64) g32) ?_
     refine o_r2 [(19, (.iptr [(vL Val.c x31.fVals)])), (20, (vL Val.c x31.fVals))] ?_
     refine o_o (one_len (f := Val.c) (l := x31.fVals)) ?_
     refine o_r1 [(5, (vI (len x31.fVals)))] ?_
     refine o_end (k30 _ ?_)
     refine J1 (r := r) (fun (x37 : Bool) => ⟨(mkd .any 57 0 [(1, (.ptr 0 0)), (3, (vI (len a1.fNodes))), (4, (vI x24)), (31, (vB x37))]), [(some (.box 26 [(vL Node.c a1.fNodes), (vL Val.c a1.fRoots)]))]⟩) (f14_k34 x24 (f14_l8 a1 (f14_k5 a1) m8)) ?_ ?_
     · intro x37 h
       rw [f14_k34.eq_1] at h
       refine i_c [31] h (fun h => ?_) (fun h => ?_)
       · refine s_so fun N39 k39 w39 => ?_
         refine o_r1 [(2, (vB false))] ?_
         refine o_end (k39 _ ?_)
         exact c_ret (rets [] [(vB false)] [(vB false)] h)
       · refine c_skip (k28 _ ?_)
         refine c_ops ?_
         refine o_r3 [(4, (vI (wr .i64 (x24 + 1)))), (13, (vI x24)), (14, (vI (wr .i64 (x24 + 1))))] ?_
         exact o_end (w8 _ _ (wkm [1, 3, 4] (whk wh_nil)) h)
     · intro N34 w34
       refine c_ops ?_
       refine o_r3 [(22, (vI (len x31.fVals))), (23, (vB (decide ((len x31.fVals) > 8)))), (24, (vB (decide ((len x31.fVals) > 8))))] ?_
       refine i_o [23, 24] h (fun h => ?_) (fun h => ?_)
       · refine o_r4 [(25, (vI (len x31.fVals))), (26, (vB (decide ((len x31.fVals) ≤ 30)))), (27, (vB (decide ((len x31.fVals) ≤ 30)))), (28, (vB (decide ((len x31.fVals) ≤ 30))))] ?_
         refine i_o [26, 27, 28] h (fun h => ?_) (fun h => ?_)
         · refine o_r3 [(29, (.val undef)), (30, (.val undef)), (31, (vB true))] ?_
           refine s_tm (mkd .any 57 0 [(1, (.ptr 0 0)), (3, (vI (len a1.fNodes))), (4, (vI x24)), (5, (vI (len x31.fVals))), (10, (vI x24)), (11, (vI (len a1.fNodes))), (12, (vB true)), (15, (.ptr 0 0)), (16, (vL Node.c a1.fNodes)), (17, (vI x24)), (18, (.iptr [(vS x31.fClass), (vL Val.c x31.fVals)])), (19, (.iptr [(vL Val.c x31.fVals)])), (20, (vL Val.c x31.fVals)), (21, (vI (len x31.fVals))), (22, (vI (len x31.fVals))), (23, (vB true)), (24, (vB true)), (25, (vI (len x31.fVals))), (26, (vB true)), (27, (vB true)), (28, (vB true)), (29, (.val undef)), (30, (.val undef)), (31, (vB true))]) ?_
           exact o_end (w34 _ _ (wkm [1, 3, 4, 31] (whk wh_nil)) h)
         · refine o_r3 [(29, (vI (len x31.fVals))), (30, (vB (decide ((len x31.fVals) > 40)))), (31, (vB (decide ((len x31.fVals) > 40))))] ?_
           refine s_tm (mkd .any 57 0 [(1, (.ptr 0 0)), (3, (vI (len a1.fNodes))), (4, (vI x24)), (5, (vI (len x31.fVals))), (10, (vI x24)), (11, (vI (len a1.fNodes))), (12, (vB true)), (15, (.ptr 0 0)), (16, (vL Node.c a1.fNodes)), (17, (vI x24)), (18, (.iptr [(vS x31.fClass), (vL Val.c x31.fVals)])), (19, (.iptr [(vL Val.c x31.fVals)])), (20, (vL Val.c x31.fVals)), (21, (vI (len x31.fVals))), (22, (vI (len x31.fVals))), (23, (vB true)), (24, (vB true)), (25, (vI (len x31.fVals))), (26, (vB false)), (27, (vB false)), (28, (vB false)), (29, (vI (len x31.fVals))), (30, (vB (decide ((len x31.fVals) > 40)))), (31, (vB (decide ((len x31.fVals) > 40))))]) ?_
           exact o_end (w34 _ _ (wkm [1, 3, 4, 31] (whk wh_nil)) h)
       · refine o_r7 [(25, (.val undef)), (26, (.val undef)), (27, (vB false)), (28, (vB false)), (29, (vI (len x31.fVals))), (30, (vB (decide ((len x31.fVals) > 40)))), (31, (vB (decide ((len x31.fVals) > 40))))] ?_
         exact o_end (w34 _ _ (wkm [1, 3, 4, 31] (whk wh_nil)) h)
   · refine c_exit (hE7 _ ?_)
     exact w5 _ (wkm [1, 3] (whk wh_nil)) h
def f15 (n : Nat) : Option Bool := some true
def f15_r (r : Bool) : AV := (vB r)
theorem p_f15 {n : Nat} {r : Bool} (h : f15 n = some r) : PureSpec Try.prog 15 [] (f15_r r) := by
 cases Option.some.inj h
 exact sanity15
theorem ic123 : fnIC Try.prog H0 123 = some ([.tmp 4], 28, (.seq (.ops [zO 4 (.mov (.c (.bool false)))]) (.seq (.ops [zM 5 0, zO 6 (.ld (.t 1) 1 false), zO 7 (.sc (.conv 5 21) [(.t 6)]), zO 8 (.sc (.bin .geq 21) [(.t 5), (.t 7)]), zM 9 8, zN 10 9 true 0, zG 11 9 true (.ld (.t 2) 1 false), zG 12 9 true (.sc (.conv 5 21) [(.t 11)]), zG 13 9 true (.sc (.bin .leq 21) [(.t 10), (.t 12)]), zO 14 (.pick (.t 9) (.t 13) (.c (.bool false))), zM 15 14, zN 16 15 false 0, zG 17 15 false (.sc (.bin .geq 21) [(.t 16), (.c (.int .i32 48))]), zN 18 15 false 17, zN 19 18 true 0, zG 20 18 true (.sc (.bin .leq 21) [(.t 19), (.c (.int .i32 57))]), zG 21 15 false (.pick (.t 18) (.t 20) (.c (.bool false))), zO 22 (.pick (.t 15) (.c (.bool true)) (.t 21)), zM 23 22, zN 24 23 false 0, zG 25 23 false (.sc (.bin .eql 21) [(.t 24), (.c (.int .i32 95))]), zO 26 (.pick (.t 23) (.c (.bool true)) (.t 25)), zO 27 (.sc (.un .not) [(.t 26)]), zM 4 27]) .ret))) := by kernel_rfl
def f123_k5 (x12 : Bool) : Option Bool := some x12
def f123 (n : Nat) (a1 : Int) (a2 : Int) (a3 : Int) : Option Bool := (bif (decide (a1 ≥ (wr .i32 a2))) then (bif (decide (a1 ≤ (wr .i32 a3))) then (f123_k5 false) else (bif (decide (a1 ≥ 48)) then (bif (decide (a1 ≤ 57)) then (f123_k5 false) else (f123_k5 (!(a1 == 95)))) else (f123_k5 (!(a1 == 95))))) else (bif (decide (a1 ≥ 48)) then (bif (decide (a1 ≤ 57)) then (f123_k5 false) else (f123_k5 (!(a1 == 95)))) else (f123_k5 (!(a1 == 95)))))
def f123_r (r : Bool) : AV := (vB r)
theorem p_f123 {n : Nat} {a1 : Int} {a2 : Int} {a3 : Int} {r : Bool} (h : f123 n a1 a2 a3 = some r) : PureSpec Try.prog 123 [(vKi .i32 a1), (.iptr [(vKi .u8 a2)]), (.iptr [(vKi .u8 a3)])] (f123_r r) := by
 rw [f123.eq_1] at h
 refine pure_of hmix ic123 ?_
 refine go_to (mkd (.val undef) 28 0 [(0, (vKi .i32 a1)), (1, (.iptr [(vKi .u8 a2)])), (2, (.iptr [(vKi .u8 a3)]))]) ?_
 refine s_so fun N4 k4 w4 => ?_
 refine o_r1 [(4, (vB false))] ?_
 refine o_end (k4 _ ?_)
 refine J1 (r := r) (fun (x12 : Bool) => ⟨(mkd .any 28 0 [(4, (vB x12))]), []⟩) (f123_k5) ?_ ?_
 · intro x12 h
   rw [f123_k5.eq_1] at h
   exact c_ret (rets [] [(vB x12)] [(vB x12)] h)
 · intro N5 w5
   refine c_ops ?_
   refine o_r5 [(5, (vKi .i32 a1)), (6, (vKi .u8 a2)), (7, (vKi .i32 (wr .i32 a2))), (8, (vB (decide (a1 ≥ (wr .i32 a2))))), (9, (vB (decide (a1 ≥ (wr .i32 a2)))))] ?_
   refine i_o [8, 9] h (fun h => ?_) (fun h => ?_)
   · refine o_r6 [(10, (vKi .i32 a1)), (11, (vKi .u8 a3)), (12, (vKi .i32 (wr .i32 a3))), (13, (vB (decide (a1 ≤ (wr .i32 a3))))), (14, (vB (decide (a1 ≤ (wr .i32 a3))))), (15, (vB (decide (a1 ≤ (wr .i32 a3)))))] ?_
     refine i_o [13, 14, 15] h (fun h => ?_) (fun h => ?_)
     · refine o_r13 [(16, (.val undef)), (17, (.val undef)), (18, (.val undef)), (19, (.val undef)), (20, (.val undef)), (21, (.val undef)), (22, (vB true)), (23, (vB true)), (24, (.val undef)), (25, (.val undef)), (26, (vB true)), (27, (vB false))] ?_
       exact o_end (w5 _ _ (wkm [4] wh_nil) h)
     · refine o_r3 [(16, (vKi .i32 a1)), (17, (vB (decide (a1 ≥ 48)))), (18, (vB (decide (a1 ≥ 48))))] ?_
       refine i_o [17, 18] h (fun h => ?_) (fun h => ?_)
       · refine o_r5 [(19, (vKi .i32 a1)), (20, (vB (decide (a1 ≤ 57)))), (21, (vB (decide (a1 ≤ 57)))), (22, (vB (decide (a1 ≤ 57)))), (23, (vB (decide (a1 ≤ 57))))] ?_
         refine i_o [20, 21, 22, 23] h (fun h => ?_) (fun h => ?_)
         · refine o_r5 [(24, (.val undef)), (25, (.val undef)), (26, (vB true)), (27, (vB false))] ?_
           exact o_end (w5 _ _ (wkm [4] wh_nil) h)
         · refine o_r5 [(4, (vB (!(a1 == 95)))), (24, (vKi .i32 a1)), (25, (vB (a1 == 95))), (26, (vB (a1 == 95))), (27, (vB (!(a1 == 95))))] ?_
           exact o_end (w5 _ _ (wkm [4] wh_nil) h)
       · refine o_r10 [(4, (vB (!(a1 == 95)))), (19, (.val undef)), (20, (.val undef)), (21, (vB false)), (22, (vB false)), (23, (vB false)), (24, (vKi .i32 a1)), (25, (vB (a1 == 95))), (26, (vB (a1 == 95))), (27, (vB (!(a1 == 95))))] ?_
         exact o_end (w5 _ _ (wkm [4] wh_nil) h)
   · refine o_r9 [(10, (.val undef)), (11, (.val undef)), (12, (.val undef)), (13, (.val undef)), (14, (vB false)), (15, (vB false)), (16, (vKi .i32 a1)), (17, (vB (decide (a1 ≥ 48)))), (18, (vB (decide (a1 ≥ 48))))] ?_
     refine i_o [17, 18] h (fun h => ?_) (fun h => ?_)
     · refine o_r5 [(19, (vKi .i32 a1)), (20, (vB (decide (a1 ≤ 57)))), (21, (vB (decide (a1 ≤ 57)))), (22, (vB (decide (a1 ≤ 57)))), (23, (vB (decide (a1 ≤ 57))))] ?_
       refine i_o [20, 21, 22, 23] h (fun h => ?_) (fun h => ?_)
       · refine o_r5 [(24, (.val undef)), (25, (.val undef)), (26, (vB true)), (27, (vB false))] ?_
         exact o_end (w5 _ _ (wkm [4] wh_nil) h)
       · refine o_r5 [(4, (vB (!(a1 == 95)))), (24, (vKi .i32 a1)), (25, (vB (a1 == 95))), (26, (vB (a1 == 95))), (27, (vB (!(a1 == 95))))] ?_
         exact o_end (w5 _ _ (wkm [4] wh_nil) h)
     · refine o_r10 [(4, (vB (!(a1 == 95)))), (19, (.val undef)), (20, (.val undef)), (21, (vB false)), (22, (vB false)), (23, (vB false)), (24, (vKi .i32 a1)), (25, (vB (a1 == 95))), (26, (vB (a1 == 95))), (27, (vB (!(a1 == 95))))] ?_
       exact o_end (w5 _ _ (wkm [4] wh_nil) h)
theorem ic143 : fnIC Try.prog H0 143 = some ([.tmp 6], 21, (.seq (.ops [zO 6 (.mov (.c (.int .i64 0)))]) (.seq (.seq (.ops [zM 9 0, zO 10 (.rng 0 (.t 9))]) (.block 0 (.loop (.seq (.ops [zO 11 (.nxt (.t 10)), zO 12 (.ext (.t 11) 0)]) (.seq (.cond (.t 12)
  .skip
  (.exit 0)) (.block 1 (.seq (.ops [zO 13 (.ext (.t 11) 1), zO 14 (.ext (.t 11) 2), zM 7 13, zM 8 14]) (.seq (.ops [zM 15 1, zM 16 8, zO 17 (.callv (.t 15) [(.t 16)]), zM 18 2, zO 19 (.sc (.bin .eql 4) [(.t 17), (.t 18)])]) (.cond (.t 19)
  (.seq (.ops [zM 20 7, zM 6 20]) .ret)
  .skip))))))))) (.seq (.ops [zO 6 (.mov (.c (.int .i64 (-1))))]) .ret)))) := by kernel_rfl
def f143_k6 : Option Int := some (-1)
def f143_l9 (a1 : ByteArray) (n : Nat) (a2 : Int) (a3 : Int) (a4 : Bool) (k6k : Option Int) : Nat → Nat → Option Int
  | 0, _ => none
  | m9 + 1, x20 => (bif (decide (x20 < ByteArray.size a1)) then ((f123 n (dec1 a1 x20) a2 a3).bind fun r26 => (bif (r26 == a4) then some (Int.ofNat x20) else (f143_l9 a1 n a2 a3 a4 (k6k) m9 (x20 + dec2 a1 x20)))) else (k6k))
def f143 (n : Nat) (a1 : ByteArray) (a2 : Int) (a3 : Int) (a4 : Bool) : Option Int := (f143_l9 a1 n a2 a3 a4 (f143_k6) n 0)
def f143_r (r : Int) : AV := (vI r)
theorem p_f143 {n : Nat} {a1 : ByteArray} {a2 : Int} {a3 : Int} {a4 : Bool} {r : Int} (h : f143 n a1 a2 a3 a4 = some r) : PureSpec Try.prog 143 [(vS a1), (.fn 123 [(.iptr [(vKi .u8 a2)]), (.iptr [(vKi .u8 a3)])]), (vB a4)] (f143_r r) := by
 rw [f143.eq_1] at h
 refine pure_of hmix ic143 ?_
 refine go_to (mkd (.val undef) 21 0 [(0, (vS a1)), (1, (.fn 123 [(.iptr [(vKi .u8 a2)]), (.iptr [(vKi .u8 a3)])])), (2, (vB a4))]) ?_
 refine s_so fun N5 k5 w5 => ?_
 refine o_r1 [(6, (vI 0))] ?_
 refine o_end (k5 _ ?_)
 refine J0 (r := r) ⟨(mkd .any 21 0 []), []⟩ (f143_k6) ?_ ?_
 · intro h
   rw [f143_k6.eq_1] at h
   refine s_so fun N31 k31 w31 => ?_
   refine o_r1 [(6, (vI (-1)))] ?_
   refine o_end (k31 _ ?_)
   exact c_ret (rets [] [(vI (-1))] [(vI (-1))] h)
 · intro N6 w6
   refine s_so fun N7 k7 w7 => ?_
   refine o_h2 [(9, (vS a1)), (10, (.ptr 0 0))] [(some (.iter a1 0))] ?_
   refine o_end (k7 _ ?_)
   refine c_block fun E8 hE8 hO8 => ?_
   refine W1 (fun (x20 : Nat) => ⟨(mkd .any 21 0 [(1, (.fn 123 [(.iptr [(vKi .u8 a2)]), (.iptr [(vKi .u8 a3)])])), (2, (vB a4)), (10, (.ptr 0 0))]), [(some (.iter a1 x20))]⟩) (f143_l9 a1 n a2 a3 a4 (f143_k6)) h (wkm [1, 2, 10] (whk wh_nil)) (by intros; rw [f143_l9.eq_1]) ?_
   intro m9 x20 h N9 w9
   rw [f143_l9.eq_2] at h
   refine s_so fun N21 k21 w21 => ?_
   refine fork h (fun hb h => ?_) (fun hb h => ?_)
   · refine o_x [(some (.iter a1 (x20 + dec2 a1 x20)))] (one_nxtT (b := a1) (pos := x20) (o := 0) hb) ?_
     refine o_r1 [(12, (vB true))] ?_
     refine o_end (k21 _ ?_)
     refine s_seq fun N22 k22 w22 => ?_
     refine k_T ?_
     refine c_skip (k22 _ ?_)
     refine c_block fun E23 hE23 hO23 => ?_
     refine s_so fun N24 k24 w24 => ?_
     refine o_r4 [(7, (vI (Int.ofNat x20))), (8, (vKi .i32 (dec1 a1 x20))), (13, (vI (Int.ofNat x20))), (14, (vKi .i32 (dec1 a1 x20)))] ?_
     refine o_end (k24 _ ?_)
     refine s_so fun N25 k25 w25 => ?_
     refine o_r2 [(15, (.fn 123 [(.iptr [(vKi .u8 a2)]), (.iptr [(vKi .u8 a3)])])), (16, (vKi .i32 (dec1 a1 x20)))] ?_
     refine bnd h fun r26 g27 h => ?_
     refine o_o (one_callv (caps := [(.iptr [(vKi .u8 a2)]), (.iptr [(vKi .u8 a3)])]) (p_f123 g27)) ?_
     refine o_r2 [(18, (vB a4)), (19, (vB (r26 == a4)))] ?_
     refine o_end (k25 _ ?_)
     refine i_c [19] h (fun h => ?_) (fun h => ?_)
     · refine s_so fun N29 k29 w29 => ?_
       refine o_r2 [(6, (vI (Int.ofNat x20))), (20, (vI (Int.ofNat x20)))] ?_
       refine o_end (k29 _ ?_)
       exact c_ret (rets [] [(vI (Int.ofNat x20))] [(vI (Int.ofNat x20))] h)
     · exact c_skip (w9 _ _ (wkm [1, 2, 10] (whk wh_nil)) h)
   · refine o_x [(some (.iter a1 x20))] (one_nxtF (b := a1) (pos := x20) (o := 0) hb) ?_
     refine o_r1 [(12, (vB false))] ?_
     refine o_end (k21 _ ?_)
     refine s_seq fun N30 k30 w30 => ?_
     refine k_F ?_
     refine c_exit (hE8 _ ?_)
     exact w6 _ (wkm [] wh_nil) h
theorem ic122 : fnIC Try.prog H0 122 = some ([.tmp 4], 8, (.seq (.ops [zO 4 (.mov (.c (.int .i64 0)))]) (.seq (.ops [zM 5 0, zM 6 1, zO 7 (.call 143 [(.t 5), (.t 6), (.c (.bool true))]), zM 4 7]) .ret))) := by kernel_rfl
def f122 (n : Nat) (a1 : ByteArray) (a2 : Int) (a3 : Int) : Option Int := ((f143 n a1 a2 a3 true).bind fun r6 => some r6)
def f122_r (r : Int) : AV := (vI r)
theorem p_f122 {n : Nat} {a1 : ByteArray} {a2 : Int} {a3 : Int} {r : Int} (h : f122 n a1 a2 a3 = some r) : PureSpec Try.prog 122 [(vS a1), (.fn 123 [(.iptr [(vKi .u8 a2)]), (.iptr [(vKi .u8 a3)])])] (f122_r r) := by
 rw [f122.eq_1] at h
 refine pure_of hmix ic122 ?_
 refine go_to (mkd (.val undef) 8 0 [(0, (vS a1)), (1, (.fn 123 [(.iptr [(vKi .u8 a2)]), (.iptr [(vKi .u8 a3)])]))]) ?_
 refine s_so fun N4 k4 w4 => ?_
 refine o_r1 [(4, (vI 0))] ?_
 refine o_end (k4 _ ?_)
 refine s_so fun N5 k5 w5 => ?_
 refine o_r2 [(5, (vS a1)), (6, (.fn 123 [(.iptr [(vKi .u8 a2)]), (.iptr [(vKi .u8 a3)])]))] ?_
 refine bnd h fun r6 g7 h => ?_
 refine o_o (one_call (p_f143 g7)) ?_
 refine o_r1 [(4, (vI r6))] ?_
 refine o_end (k5 _ ?_)
 exact c_ret (rets [] [(vI r6)] [(vI r6)] h)
theorem ic90 : fnIC Try.prog H0 90 = some ([.tmp 6], 30, (.seq (.ops [zO 4 (.box 0 5 [] (.t 1)), zO 5 (.box 0 5 [] (.t 2)), zO 6 (.mov (.c (.bool false)))]) (.seq (.seq (.draw [] [zQ (zM 7 0), zQ (zO 8 (.sc (.bin .eql 9) [(.t 7), (.c (.string ⟨#[]⟩))])), zQ (zM 9 8), zQ (zN 10 9 false 0), zQ (zG 11 9 false (.len true (.t 10))), zQ (zG 12 9 false (.sc (.bin .gtr 3) [(.t 11), (.c (.int .i64 20))])), zQ (zO 13 (.pick (.t 9) (.c (.bool true)) (.t 12))), zQ (zM 14 13), zQ (zN 15 14 false 0), zQ (zG 16 14 false (.sc (.idx 9) [(.t 15), (.c (.int .i64 0))])), zQ (zG 17 14 false (.ld (.t 4) 1 false)), zQ (zG 18 14 false (.sc (.bin .lss 5) [(.t 16), (.t 17)])), zQ (zO 19 (.pick (.t 14) (.c (.bool true)) (.t 18))), zQ (zM 20 19), zQ (zN 21 20 false 0), zQ (zG 22 20 false (.sc (.idx 9) [(.t 21), (.c (.int .i64 0))])), zQ (zG 23 20 false (.ld (.t 5) 1 false)), zQ (zG 24 20 false (.sc (.bin .gtr 5) [(.t 22), (.t 23)])), zQ (zO 25 (.pick (.t 20) (.c (.bool true)) (.t 24)))]) (.cond (.t 25)
  (.seq (.ops [zO 6 (.mov (.c (.bool false)))]) .ret)
  .skip)) (.seq (.ops [zM 26 0, zO 27 (.mkf 123 [(.t 4), (.t 5)]), zO 28 (.call 122 [(.t 26), (.t 27)]), zO 29 (.sc (.bin .lss 3) [(.t 28), (.c (.int .i64 0))]), zM 6 29]) .ret)))) := by kernel_rfl
def f90_k6 (n : Nat) (a1 : ByteArray) (a2 : Int) (a3 : Int) (x15 : Bool) : Option Bool := (bif x15 then some false else ((f122 n a1 a2 a3).bind fun r19 => some (decide (r19 < 0))))
def f90 (n : Nat) (a1 : ByteArray) (a2 : Int) (a3 : Int) : Option Bool := (bif (sEqF a1 (ByteArray.mk #[])) then (f90_k6 n a1 a2 a3 true) else (bif (decide ((bsz a1) > 20)) then (f90_k6 n a1 a2 a3 true) else ((si a1 0).bind fun c10 => (bif (decide (c10 < a2)) then (f90_k6 n a1 a2 a3 true) else ((si a1 0).bind fun c13 => (f90_k6 n a1 a2 a3 (decide (c13 > a3))))))))
def f90_r (r : Bool) : AV := (vB r)
theorem p_f90 {n : Nat} {a1 : ByteArray} {a2 : Int} {a3 : Int} {r : Bool} (h : f90 n a1 a2 a3 = some r) : PureSpec Try.prog 90 [(vS a1), (vKi .u8 a2), (vKi .u8 a3)] (f90_r r) := by
 rw [f90.eq_1] at h
 refine pure_of hmix ic90 ?_
 refine go_to (mkd (.val undef) 30 0 [(0, (vS a1)), (1, (vKi .u8 a2)), (2, (vKi .u8 a3))]) ?_
 refine s_so fun N4 k4 w4 => ?_
 refine o_h3 [(4, (.ptr 0 0)), (5, (.ptr 1 0)), (6, (vB false))] [(some (.box 5 [(vKi .u8 a2)])), (some (.box 5 [(vKi .u8 a3)]))] ?_
 refine o_end (k4 _ ?_)
 refine s_seq fun N5 k5 w5 => ?_
 refine J1 (r := r) (fun (x15 : Bool) => ⟨(mkd .any 30 0 [(0, (vS a1)), (4, (.ptr 0 0)), (5, (.ptr 1 0)), (25, (vB x15))]), [(some (.box 5 [(vKi .u8 a2)])), (some (.box 5 [(vKi .u8 a3)]))]⟩) (f90_k6 n a1 a2 a3) ?_ ?_
 · intro x15 h
   rw [f90_k6.eq_1] at h
   refine i_c [25] h (fun h => ?_) (fun h => ?_)
   · refine s_so fun N17 k17 w17 => ?_
     refine o_r1 [(6, (vB false))] ?_
     refine o_end (k17 _ ?_)
     exact c_ret (rets [] [(vB false)] [(vB false)] h)
   · refine c_skip (k5 _ ?_)
     refine s_so fun N18 k18 w18 => ?_
     refine o_r2 [(26, (vS a1)), (27, (.fn 123 [(.ptr 0 0), (.ptr 1 0)]))] ?_
     refine bnd h fun r19 g20 h => ?_
     refine o_o (one_callT [0, 1] (p_f122 g20) (ns_v _)) ?_
     refine o_r2 [(6, (vB (decide (r19 < 0)))), (29, (vB (decide (r19 < 0))))] ?_
     refine o_end (k18 _ ?_)
     exact c_ret (rets [] [(vB (decide (r19 < 0)))] [(vB (decide (r19 < 0)))] h)
 · intro N6 w6
   refine c_draw0 ?_
   refine d_r1 [(7, (vS a1))] ?_
   refine d_o (one_sc (vs := [.string a1, .string (ByteArray.mk #[])]) (str_eql a1 (ByteArray.mk #[]))) ?_
   refine d_r1 [(9, (vB (sEqF a1 (ByteArray.mk #[]))))] ?_
   refine i_d [8, 9] h (fun h => ?_) (fun h => ?_)
   · refine d_r16 [(10, (.val undef)), (11, (.val undef)), (12, (.val undef)), (13, (vB true)), (14, (vB true)), (15, (.val undef)), (16, (.val undef)), (17, (.val undef)), (18, (.val undef)), (19, (vB true)), (20, (vB true)), (21, (.val undef)), (22, (.val undef)), (23, (.val undef)), (24, (.val undef)), (25, (vB true))] ?_
     exact d_end (w6 _ _ (wkm [0, 4, 5, 25] (whk (whk wh_nil))) h)
   · refine d_r5 [(10, (vS a1)), (11, (vI (bsz a1))), (12, (vB (decide ((bsz a1) > 20)))), (13, (vB (decide ((bsz a1) > 20)))), (14, (vB (decide ((bsz a1) > 20))))] ?_
     refine i_d [12, 13, 14] h (fun h => ?_) (fun h => ?_)
     · refine d_r11 [(15, (.val undef)), (16, (.val undef)), (17, (.val undef)), (18, (.val undef)), (19, (vB true)), (20, (vB true)), (21, (.val undef)), (22, (.val undef)), (23, (.val undef)), (24, (.val undef)), (25, (vB true))] ?_
       exact d_end (w6 _ _ (wkm [0, 4, 5, 25] (whk (whk wh_nil))) h)
     · refine d_r1 [(15, (vS a1))] ?_
       refine bnd h fun c10 g11 h => ?_
       refine d_g (one_idx (ki := .i64) g11) ?_
       refine d_r4 [(17, (vKi .u8 a2)), (18, (vB (decide (c10 < a2)))), (19, (vB (decide (c10 < a2)))), (20, (vB (decide (c10 < a2))))] ?_
       refine i_d [18, 19, 20] h (fun h => ?_) (fun h => ?_)
       · refine d_r5 [(21, (.val undef)), (22, (.val undef)), (23, (.val undef)), (24, (.val undef)), (25, (vB true))] ?_
         refine t_tm (mkd (.val undef) 30 0 [(0, (vS a1)), (1, (vKi .u8 a2)), (2, (vKi .u8 a3)), (4, (.ptr 0 0)), (5, (.ptr 1 0)), (6, (vB false)), (7, (vS a1)), (8, (vB false)), (9, (vB false)), (10, (vS a1)), (11, (vI (bsz a1))), (12, (vB false)), (13, (vB false)), (14, (vB false)), (15, (vS a1)), (16, (vKi .u8 c10)), (17, (vKi .u8 a2)), (18, (vB true)), (19, (vB true)), (20, (vB true)), (21, (.val undef)), (22, (.val undef)), (23, (.val undef)), (24, (.val undef)), (25, (vB true))]) ?_
         exact d_end (w6 _ _ (wkm [0, 4, 5, 25] (whk (whk wh_nil))) h)
       · refine d_r1 [(21, (vS a1))] ?_
         refine t_tm (mkd (.val undef) 30 0 [(0, (vS a1)), (1, (vKi .u8 a2)), (2, (vKi .u8 a3)), (4, (.ptr 0 0)), (5, (.ptr 1 0)), (6, (vB false)), (7, (vS a1)), (8, (vB false)), (9, (vB false)), (10, (vS a1)), (11, (vI (bsz a1))), (12, (vB false)), (13, (vB false)), (14, (vB false)), (15, (vS a1)), (16, (vKi .u8 c10)), (17, (vKi .u8 a2)), (18, (vB false)), (19, (vB false)), (20, (vB false)), (21, (vS a1))]) ?_
         refine bnd h fun c13 g14 h => ?_
         refine d_g (one_idx (ki := .i64) g14) ?_
         refine d_r3 [(23, (vKi .u8 a3)), (24, (vB (decide (c13 > a3)))), (25, (vB (decide (c13 > a3))))] ?_
         exact d_end (w6 _ _ (wkm [0, 4, 5, 25] (whk (whk wh_nil))) h)
theorem ic124 : fnIC Try.prog H0 124 = some ([.tmp 4], 19, (.seq (.ops [zO 4 (.mov (.c (.int .i64 0)))]) (.seq (.seq (.ops [zM 6 0, zO 7 (.len false (.t 6)), zO 8 (.mov (.c (.int .i64 0)))]) (.block 0 (.loop (.seq (.ops [zO 9 (.sc (.bin .lss 3) [(.t 8), (.t 7)])]) (.seq (.cond (.t 9)
  .skip
  (.exit 0)) (.seq (.block 1 (.seq (.ops [zM 10 8, zM 5 10]) (.seq (.ops [zM 11 1, zM 12 0, zM 13 5, zO 14 (.iaddr 1 (.t 12) (.t 13)), zO 15 (.ld (.t 14) 1 false), zO 16 (.sc (.bin .eql 9) [(.t 11), (.t 15)])]) (.cond (.t 16)
  (.seq (.ops [zM 17 5, zM 4 17]) .ret)
  .skip)))) (.ops [zO 18 (.sc (.bin .add 3) [(.t 8), (.c (.int .i64 1))]), zM 8 18]))))))) (.seq (.ops [zO 4 (.mov (.c (.int .i64 (-1))))]) .ret)))) := by kernel_rfl
def f124_k4 : Option Int := some (-1)
def f124_l8 (a1 : (List ByteArray)) (a2 : ByteArray) (k4k : Option Int) : Nat → Int → Option Int
  | 0, _ => none
  | m8 + 1, x21 => (bif (decide (x21 < (len a1))) then ((gi a1 x21).bind fun x29 => (bif (sEqF a2 x29) then some x21 else (f124_l8 a1 a2 (k4k) m8 (wr .i64 (x21 + 1))))) else (k4k))
def f124 (n : Nat) (a1 : (List ByteArray)) (a2 : ByteArray) : Option Int := (f124_l8 a1 a2 (f124_k4) n 0)
def f124_r (r : Int) : AV := (vI r)
theorem p_f124 {n : Nat} {a1 : (List ByteArray)} {a2 : ByteArray} {r : Int} (h : f124 n a1 a2 = some r) : PureSpec Try.prog 124 [(vL cS a1), (vS a2)] (f124_r r) := by
 rw [f124.eq_1] at h
 refine pure_of hmix ic124 ?_
 refine go_to (mkd (.val undef) 19 0 [(0, (vL cS a1)), (1, (vS a2))]) ?_
 refine s_so fun N3 k3 w3 => ?_
 refine o_r1 [(4, (vI 0))] ?_
 refine o_end (k3 _ ?_)
 refine J0 (r := r) ⟨(mkd .any 19 0 []), []⟩ (f124_k4) ?_ ?_
 · intro h
   rw [f124_k4.eq_1] at h
   refine s_so fun N34 k34 w34 => ?_
   refine o_r1 [(4, (vI (-1)))] ?_
   refine o_end (k34 _ ?_)
   exact c_ret (rets [] [(vI (-1))] [(vI (-1))] h)
 · intro N4 w4
   refine s_so fun N5 k5 w5 => ?_
   refine o_r1 [(6, (vL cS a1))] ?_
   refine o_o (one_len (f := cS) (l := a1)) ?_
   refine o_r1 [(8, (vI 0))] ?_
   refine o_end (k5 _ ?_)
   refine c_block fun E7 hE7 hO7 => ?_
   refine W1 (fun (x21 : Int) => ⟨(mkd .any 19 0 [(0, (vL cS a1)), (1, (vS a2)), (7, (vI (len a1))), (8, (vI x21))]), []⟩) (f124_l8 a1 a2 (f124_k4)) h (wkm [0, 1, 7, 8] wh_nil) (by intros; rw [f124_l8.eq_1]) ?_
   intro m8 x21 h N8 w8
   rw [f124_l8.eq_2] at h
   refine s_so fun N22 k22 w22 => ?_
   refine o_r1 [(9, (vB (decide (x21 < (len a1)))))] ?_
   refine o_end (k22 _ ?_)
   refine s_seq fun N23 k23 w23 => ?_
   refine i_c [9] h (fun h => ?_) (fun h => ?_)
   · refine c_skip (k23 _ ?_)
     refine s_seq fun N25 k25 w25 => ?_
     refine c_block fun E26 hE26 hO26 => ?_
     refine s_so fun N27 k27 w27 => ?_
     refine o_r2 [(5, (vI x21)), (10, (vI x21))] ?_
     refine o_end (k27 _ ?_)
     refine s_so fun N28 k28 w28 => ?_
     refine o_r3 [(11, (vS a2)), (12, (vL cS a1)), (13, (vI x21))] ?_
     refine bnd h fun x29 g30 h => ?_
     refine o_o (one_ia (f := cS) (ki := .i64) g30) ?_
     refine o_r1 [(15, (vS x29))] ?_
     refine o_o (one_sc (vs := [.string a2, .string x29]) (str_eql a2 x29)) ?_
     refine o_end (k28 _ ?_)
     refine i_c [16] h (fun h => ?_) (fun h => ?_)
     · refine s_so fun N33 k33 w33 => ?_
       refine o_r2 [(4, (vI x21)), (17, (vI x21))] ?_
       refine o_end (k33 _ ?_)
       exact c_ret (rets [] [(vI x21)] [(vI x21)] h)
     · refine c_skip (k25 _ ?_)
       refine c_ops ?_
       refine o_r2 [(8, (vI (wr .i64 (x21 + 1)))), (18, (vI (wr .i64 (x21 + 1))))] ?_
       exact o_end (w8 _ _ (wkm [0, 1, 7, 8] wh_nil) h)
   · refine c_exit (hE7 _ ?_)
     exact w4 _ (wkm [] wh_nil) h
theorem ic91 : fnIC Try.prog H0 91 = some ([.tmp 4], 9, (.seq (.ops [zO 4 (.mov (.c (.bool false)))]) (.seq (.ops [zM 5 0, zM 6 1, zO 7 (.call 124 [(.t 5), (.t 6)]), zO 8 (.sc (.bin .geq 3) [(.t 7), (.c (.int .i64 0))]), zM 4 8]) .ret))) := by kernel_rfl
def f91 (n : Nat) (a1 : (List ByteArray)) (a2 : ByteArray) : Option Bool := ((f124 n a1 a2).bind fun r5 => some (decide (r5 ≥ 0)))
def f91_r (r : Bool) : AV := (vB r)
theorem p_f91 {n : Nat} {a1 : (List ByteArray)} {a2 : ByteArray} {r : Bool} (h : f91 n a1 a2 = some r) : PureSpec Try.prog 91 [(vL cS a1), (vS a2)] (f91_r r) := by
 rw [f91.eq_1] at h
 refine pure_of hmix ic91 ?_
 refine go_to (mkd (.val undef) 9 0 [(0, (vL cS a1)), (1, (vS a2))]) ?_
 refine s_so fun N3 k3 w3 => ?_
 refine o_r1 [(4, (vB false))] ?_
 refine o_end (k3 _ ?_)
 refine s_so fun N4 k4 w4 => ?_
 refine o_r2 [(5, (vL cS a1)), (6, (vS a2))] ?_
 refine bnd h fun r5 g6 h => ?_
 refine o_o (one_call (p_f124 g6)) ?_
 refine o_r2 [(4, (vB (decide (r5 ≥ 0)))), (8, (vB (decide (r5 ≥ 0))))] ?_
 refine o_end (k4 _ ?_)
 exact c_ret (rets [] [(vB (decide (r5 ≥ 0)))] [(vB (decide (r5 ≥ 0)))] h)
theorem ic51 : fnIC Try.prog H0 51 = some ([.tmp 2], 11, (.seq (.ops [zO 2 (.mov (.c (.bool false)))]) (.seq (.ops [zM 3 0, zO 4 (.call 90 [(.t 3), (.c (.int .u8 65)), (.c (.int .u8 90))]), zM 5 4, zG 6 5 true (.isl 1 [(.c (.string ⟨#[73, 78, 84, 69, 71, 69, 82]⟩)), (.c (.string ⟨#[66, 79, 79, 76, 69, 65, 78]⟩)), (.c (.string ⟨#[65, 78, 89]⟩)), (.c (.string ⟨#[78, 79, 78, 69]⟩))]), zN 7 5 true 0, zG 8 5 true (.call 91 [(.t 6), (.t 7)]), zG 9 5 true (.sc (.un .not) [(.t 8)]), zO 10 (.pick (.t 5) (.t 9) (.c (.bool false))), zM 2 10]) .ret))) := by kernel_rfl
def f51_k3 (x9 : Bool) : Option Bool := some x9
def f51 (n : Nat) (a1 : ByteArray) : Option Bool := ((f90 n a1 65 90).bind fun r4 => (bif r4 then ((f91 n [(ByteArray.mk #[73, 78, 84, 69, 71, 69, 82]), (ByteArray.mk #[66, 79, 79, 76, 69, 65, 78]), (ByteArray.mk #[65, 78, 89]), (ByteArray.mk #[78, 79, 78, 69])] a1).bind fun r7 => (f51_k3 (!r7))) else (f51_k3 false)))
def f51_r (r : Bool) : AV := (vB r)
theorem p_f51 {n : Nat} {a1 : ByteArray} {r : Bool} (h : f51 n a1 = some r) : PureSpec Try.prog 51 [(vS a1)] (f51_r r) := by
 rw [f51.eq_1] at h
 refine pure_of hmix ic51 ?_
 refine go_to (mkd (.val undef) 11 0 [(0, (vS a1))]) ?_
 refine s_so fun N2 k2 w2 => ?_
 refine o_r1 [(2, (vB false))] ?_
 refine o_end (k2 _ ?_)
 refine J1 (r := r) (fun (x9 : Bool) => ⟨(mkd .any 11 0 [(2, (vB x9))]), []⟩) (f51_k3) ?_ ?_
 · intro x9 h
   rw [f51_k3.eq_1] at h
   exact c_ret (rets [] [(vB x9)] [(vB x9)] h)
 · intro N3 w3
   refine c_ops ?_
   refine o_r1 [(3, (vS a1))] ?_
   refine bnd h fun r4 g5 h => ?_
   refine o_o (one_call (p_f90 g5)) ?_
   refine o_r1 [(5, (vB r4))] ?_
   refine i_o [4, 5] h (fun h => ?_) (fun h => ?_)
   · refine o_r2 [(6, (vL cS [(ByteArray.mk #[73, 78, 84, 69, 71, 69, 82]), (ByteArray.mk #[66, 79, 79, 76, 69, 65, 78]), (ByteArray.mk #[65, 78, 89]), (ByteArray.mk #[78, 79, 78, 69])])), (7, (vS a1))] ?_
     refine bnd h fun r7 g8 h => ?_
     refine o_g ?_
     refine o_o (one_call (p_f91 g8)) ?_
     refine o_r3 [(2, (vB (!r7))), (9, (vB (!r7))), (10, (vB (!r7)))] ?_
     exact o_end (w3 _ _ (wkm [2] wh_nil) h)
   · refine o_r6 [(6, (.val undef)), (7, (.val undef)), (8, (.val undef)), (9, (.val undef)), (10, (vB false))] ?_
     exact o_end (w3 _ _ (wkm [2] wh_nil) h)
theorem ic50 : fnIC Try.prog H0 50 = some ([.tmp 4], 7, (.seq (.ops [zO 4 (.mov (.c (.int .i64 0)))]) (.seq (.seq (.ops [zM 5 0]) (.cond (.t 5)
  (.seq (.ops [zO 4 (.mov (.c (.int .i64 0)))]) .ret)
  .skip)) (.seq (.ops [zM 6 1, zM 4 6]) .ret)))) := by kernel_rfl
def f50 (n : Nat) (a1 : Bool) (a2 : Int) : Option Int := (bif a1 then some 0 else some a2)
def f50_r (r : Int) : AV := (vI r)
theorem p_f50 {n : Nat} {a1 : Bool} {a2 : Int} {r : Int} (h : f50 n a1 a2 = some r) : PureSpec Try.prog 50 [(vB a1), (vI a2)] (f50_r r) := by
 rw [f50.eq_1] at h
 refine pure_of hmix ic50 ?_
 refine go_to (mkd (.val undef) 7 0 [(0, (vB a1)), (1, (vI a2))]) ?_
 refine s_so fun N3 k3 w3 => ?_
 refine o_r1 [(4, (vI 0))] ?_
 refine o_end (k3 _ ?_)
 refine s_seq fun N4 k4 w4 => ?_
 refine s_so fun N5 k5 w5 => ?_
 refine o_r1 [(5, (vB a1))] ?_
 refine o_end (k5 _ ?_)
 refine i_c [0, 5] h (fun h => ?_) (fun h => ?_)
 · refine s_so fun N7 k7 w7 => ?_
   refine o_r1 [] ?_
   refine o_end (k7 _ ?_)
   exact c_ret (rets [] [(vI 0)] [(vI 0)] h)
 · refine c_skip (k4 _ ?_)
   refine s_so fun N8 k8 w8 => ?_
   refine o_r2 [(4, (vI a2)), (6, (vI a2))] ?_
   refine o_end (k8 _ ?_)
   exact c_ret (rets [] [(vI a2)] [(vI a2)] h)
theorem ic93 : fnIC Try.prog H0 93 = some ([.tmp 2], 5, (.seq (.ops [zO 1 (.box 0 91 [(1, 93, 3, 0)] (.t 0)), zO 2 (.mov (.c (.string ⟨#[]⟩)))]) (.seq (.ops [zO 3 (.faddr (.t 1) 0), zO 4 (.ld (.t 3) 1 false), zM 2 4]) .ret))) := by kernel_rfl
def f93 (n : Nat) (a1 : Form) : Option ByteArray := some a1.fName
def f93_r (r : ByteArray) : AV := (vS r)
theorem p_f93 {n : Nat} {a1 : Form} {r : ByteArray} (h : f93 n a1 = some r) : PureSpec Try.prog 93 [(.agg [(vS a1.fName), (vL Col.c a1.fCols)])] (f93_r r) := by
 rw [f93.eq_1] at h
 refine pure_of hmix ic93 ?_
 refine go_to (mkd (.val undef) 5 0 [(0, (.agg [(vS a1.fName), (vL Col.c a1.fCols)]))]) ?_
 refine s_so fun N2 k2 w2 => ?_
 refine o_h2 [(1, (.ptr 0 0)), (2, (vS (ByteArray.mk #[])))] [(some (.box 91 [(vS a1.fName), (vL Col.c a1.fCols)]))] ?_
 refine o_end (k2 _ ?_)
 refine s_so fun N3 k3 w3 => ?_
 refine o_r3 [(2, (vS a1.fName)), (3, (.ptr 0 0)), (4, (vS a1.fName))] ?_
 refine o_end (k3 _ ?_)
 exact c_ret (rets [] [(vS a1.fName)] [(vS a1.fName)] h)
theorem ic126 : fnIC Try.prog H0 126 = some ([.tmp 4], 10, (.seq (.ops [zO 3 (.box 0 91 [(1, 93, 3, 0)] (.t 0)), zO 4 (.mov (.c (.bool false)))]) (.seq (.draw [] [zQ (zO 5 (.ld (.t 1) 1 false)), zQ (zO 6 (.ld (.t 3) 2 true)), zQ (zO 7 (.callv (.t 5) [(.t 6)])), zQ (zO 8 (.ld (.t 2) 1 false)), zQ (zO 9 (.sc (.bin .eql 9) [(.t 7), (.t 8)])), zQ (zM 4 9)]) .ret))) := by kernel_rfl
def f126 (n : Nat) (a1 : Form) (a2 : ByteArray) : Option Bool := ((f93 n a1).bind fun r5 => some (sEqF r5 a2))
def f126_r (r : Bool) : AV := (vB r)
theorem p_f126 {n : Nat} {a1 : Form} {a2 : ByteArray} {r : Bool} (h : f126 n a1 a2 = some r) : PureSpec Try.prog 126 [(.agg [(vS a1.fName), (vL Col.c a1.fCols)]), (.iptr [(.fn 93 [])]), (.iptr [(vS a2)])] (f126_r r) := by
 rw [f126.eq_1] at h
 refine pure_of hmix ic126 ?_
 refine go_to (mkd (.val undef) 10 0 [(0, (.agg [(vS a1.fName), (vL Col.c a1.fCols)])), (1, (.iptr [(.fn 93 [])])), (2, (.iptr [(vS a2)]))]) ?_
 refine s_so fun N3 k3 w3 => ?_
 refine o_h2 [(3, (.ptr 0 0)), (4, (vB false))] [(some (.box 91 [(vS a1.fName), (vL Col.c a1.fCols)]))] ?_
 refine o_end (k3 _ ?_)
 refine s_seq fun N4 k4 w4 => ?_
 refine c_draw0 ?_
 refine d_r2 [(5, (.fn 93 [])), (6, (.agg [(vS a1.fName), (vL Col.c a1.fCols)]))] ?_
 refine bnd h fun r5 g6 h => ?_
 refine d_o (one_callv (caps := []) (p_f93 g6)) ?_
 refine d_r1 [(8, (vS a2))] ?_
 refine d_o (one_sc (vs := [.string r5, .string a2]) (str_eql r5 a2)) ?_
 refine d_r1 [(4, (vB (sEqF r5 a2)))] ?_
 refine d_end (k4 _ ?_)
 exact c_ret (rets [] [(vB (sEqF r5 a2))] [(vB (sEqF r5 a2))] h)
theorem ic125 : fnIC Try.prog H0 125 = some ([.tmp 4], 19, (.seq (.ops [zO 4 (.mov (.c (.int .i64 0)))]) (.seq (.seq (.ops [zM 6 0, zO 7 (.len false (.t 6)), zO 8 (.mov (.c (.int .i64 0)))]) (.block 0 (.loop (.seq (.ops [zO 9 (.sc (.bin .lss 3) [(.t 8), (.t 7)])]) (.seq (.cond (.t 9)
  .skip
  (.exit 0)) (.seq (.block 1 (.seq (.ops [zM 10 8, zM 5 10]) (.seq (.ops [zM 11 1, zM 12 0, zM 13 5, zO 14 (.iaddr 2 (.t 12) (.t 13)), zO 15 (.ld (.t 14) 2 true), zO 16 (.callv (.t 11) [(.t 15)])]) (.cond (.t 16)
  (.seq (.ops [zM 17 5, zM 4 17]) .ret)
  .skip)))) (.ops [zO 18 (.sc (.bin .add 3) [(.t 8), (.c (.int .i64 1))]), zM 8 18]))))))) (.seq (.ops [zO 4 (.mov (.c (.int .i64 (-1))))]) .ret)))) := by kernel_rfl
def f125_k4 : Option Int := some (-1)
def f125_l8 (a1 : (List Form)) (n : Nat) (a2 : ByteArray) (k4k : Option Int) : Nat → Int → Option Int
  | 0, _ => none
  | m8 + 1, x22 => (bif (decide (x22 < (len a1))) then ((gi a1 x22).bind fun x30 => ((f126 n x30 a2).bind fun r32 => (bif r32 then some x22 else (f125_l8 a1 n a2 (k4k) m8 (wr .i64 (x22 + 1)))))) else (k4k))
def f125 (n : Nat) (a1 : (List Form)) (a2 : ByteArray) : Option Int := (f125_l8 a1 n a2 (f125_k4) n 0)
def f125_r (r : Int) : AV := (vI r)
theorem p_f125 {n : Nat} {a1 : (List Form)} {a2 : ByteArray} {r : Int} (h : f125 n a1 a2 = some r) : PureSpec Try.prog 125 [(vL Form.c a1), (.fn 126 [(.iptr [(.fn 93 [])]), (.iptr [(vS a2)])])] (f125_r r) := by
 rw [f125.eq_1] at h
 refine pure_of hmix ic125 ?_
 refine go_to (mkd (.val undef) 19 0 [(0, (vL Form.c a1)), (1, (.fn 126 [(.iptr [(.fn 93 [])]), (.iptr [(vS a2)])]))]) ?_
 refine s_so fun N3 k3 w3 => ?_
 refine o_r1 [(4, (vI 0))] ?_
 refine o_end (k3 _ ?_)
 refine J0 (r := r) ⟨(mkd .any 19 0 []), []⟩ (f125_k4) ?_ ?_
 · intro h
   rw [f125_k4.eq_1] at h
   refine s_so fun N36 k36 w36 => ?_
   refine o_r1 [(4, (vI (-1)))] ?_
   refine o_end (k36 _ ?_)
   exact c_ret (rets [] [(vI (-1))] [(vI (-1))] h)
 · intro N4 w4
   refine s_so fun N5 k5 w5 => ?_
   refine o_r1 [(6, (vL Form.c a1))] ?_
   refine o_o (one_len (f := Form.c) (l := a1)) ?_
   refine o_r1 [(8, (vI 0))] ?_
   refine o_end (k5 _ ?_)
   refine c_block fun E7 hE7 hO7 => ?_
   refine W1 (fun (x22 : Int) => ⟨(mkd .any 19 0 [(0, (vL Form.c a1)), (1, (.fn 126 [(.iptr [(.fn 93 [])]), (.iptr [(vS a2)])])), (7, (vI (len a1))), (8, (vI x22))]), []⟩) (f125_l8 a1 n a2 (f125_k4)) h (wkm [0, 1, 7, 8] wh_nil) (by intros; rw [f125_l8.eq_1]) ?_
   intro m8 x22 h N8 w8
   rw [f125_l8.eq_2] at h
   refine s_so fun N23 k23 w23 => ?_
   refine o_r1 [(9, (vB (decide (x22 < (len a1)))))] ?_
   refine o_end (k23 _ ?_)
   refine s_seq fun N24 k24 w24 => ?_
   refine i_c [9] h (fun h => ?_) (fun h => ?_)
   · refine c_skip (k24 _ ?_)
     refine s_seq fun N26 k26 w26 => ?_
     refine c_block fun E27 hE27 hO27 => ?_
     refine s_so fun N28 k28 w28 => ?_
     refine o_r2 [(5, (vI x22)), (10, (vI x22))] ?_
     refine o_end (k28 _ ?_)
     refine s_so fun N29 k29 w29 => ?_
     refine o_r3 [(11, (.fn 126 [(.iptr [(.fn 93 [])]), (.iptr [(vS a2)])])), (12, (vL Form.c a1)), (13, (vI x22))] ?_
     refine bnd h fun x30 g31 h => ?_
     refine o_o (one_ia (f := Form.c) (ki := .i64) g31) ?_
     refine o_r1 [(15, (.agg [(vS x30.fName), (vL Col.c x30.fCols)]))] ?_
     refine bnd h fun r32 g33 h => ?_
     refine o_o (one_callv (caps := [(.iptr [(.fn 93 [])]), (.iptr [(vS a2)])]) (p_f126 g33)) ?_
     refine o_end (k29 _ ?_)
     refine i_c [16] h (fun h => ?_) (fun h => ?_)
     · refine s_so fun N35 k35 w35 => ?_
       refine o_r2 [(4, (vI x22)), (17, (vI x22))] ?_
       refine o_end (k35 _ ?_)
       exact c_ret (rets [] [(vI x22)] [(vI x22)] h)
     · refine c_skip (k26 _ ?_)
       refine c_ops ?_
       refine o_r2 [(8, (vI (wr .i64 (x22 + 1)))), (18, (vI (wr .i64 (x22 + 1))))] ?_
       exact o_end (w8 _ _ (wkm [0, 1, 7, 8] wh_nil) h)
   · refine c_exit (hE7 _ ?_)
     exact w4 _ (wkm [] wh_nil) h
theorem ic92 : fnIC Try.prog H0 92 = some ([.tmp 6], 10, (.seq (.ops [zO 4 (.box 0 9 [] (.t 1)), zO 5 (.box 0 140 [] (.t 2)), zO 6 (.mov (.c (.int .i64 0)))]) (.seq (.ops [zM 7 0, zO 8 (.mkf 126 [(.t 5), (.t 4)]), zO 9 (.call 125 [(.t 7), (.t 8)]), zM 6 9]) .ret))) := by kernel_rfl
def f92 (n : Nat) (a1 : (List Form)) (a2 : ByteArray) : Option Int := ((f125 n a1 a2).bind fun r5 => some r5)
def f92_r (r : Int) : AV := (vI r)
theorem p_f92 {n : Nat} {a1 : (List Form)} {a2 : ByteArray} {r : Int} (h : f92 n a1 a2 = some r) : PureSpec Try.prog 92 [(vL Form.c a1), (vS a2), (.fn 93 [])] (f92_r r) := by
 rw [f92.eq_1] at h
 refine pure_of hmix ic92 ?_
 refine go_to (mkd (.val undef) 10 0 [(0, (vL Form.c a1)), (1, (vS a2)), (2, (.fn 93 []))]) ?_
 refine s_so fun N3 k3 w3 => ?_
 refine o_h3 [(4, (.ptr 0 0)), (5, (.ptr 1 0)), (6, (vI 0))] [(some (.box 9 [(vS a2)])), (some (.box 140 [(.fn 93 [])]))] ?_
 refine o_end (k3 _ ?_)
 refine s_so fun N4 k4 w4 => ?_
 refine o_r2 [(7, (vL Form.c a1)), (8, (.fn 126 [(.ptr 1 0), (.ptr 0 0)]))] ?_
 refine bnd h fun r5 g6 h => ?_
 refine o_o (one_callT [1, 0] (p_f125 g6) (ns_v _)) ?_
 refine o_r1 [(6, (vI r5))] ?_
 refine o_end (k4 _ ?_)
 exact c_ret (rets [] [(vI r5)] [(vI r5)] h)
theorem ic52 : fnIC Try.prog H0 52 = some ([.tmp 4], 8, (.seq (.ops [zO 4 (.mov (.c (.int .i64 0)))]) (.seq (.ops [zM 5 0, zM 6 1, zO 7 (.call 92 [(.t 5), (.t 6), (.f 93)]), zM 4 7]) .ret))) := by kernel_rfl
def f52 (n : Nat) (a1 : (List Form)) (a2 : ByteArray) : Option Int := ((f92 n a1 a2).bind fun r5 => some r5)
def f52_r (r : Int) : AV := (vI r)
theorem p_f52 {n : Nat} {a1 : (List Form)} {a2 : ByteArray} {r : Int} (h : f52 n a1 a2 = some r) : PureSpec Try.prog 52 [(vL Form.c a1), (vS a2)] (f52_r r) := by
 rw [f52.eq_1] at h
 refine pure_of hmix ic52 ?_
 refine go_to (mkd (.val undef) 8 0 [(0, (vL Form.c a1)), (1, (vS a2))]) ?_
 refine s_so fun N3 k3 w3 => ?_
 refine o_r1 [(4, (vI 0))] ?_
 refine o_end (k3 _ ?_)
 refine s_so fun N4 k4 w4 => ?_
 refine o_r2 [(5, (vL Form.c a1)), (6, (vS a2))] ?_
 refine bnd h fun r5 g6 h => ?_
 refine o_o (one_call (p_f92 g6)) ?_
 refine o_r1 [(4, (vI r5))] ?_
 refine o_end (k4 _ ?_)
 exact c_ret (rets [] [(vI r5)] [(vI r5)] h)
theorem ic94 : fnIC Try.prog H0 94 = some ([.tmp 2], 11, (.seq (.ops [zO 2 (.mov (.c (.bool false)))]) (.seq (.ops [zM 3 0, zO 4 (.call 90 [(.t 3), (.c (.int .u8 97)), (.c (.int .u8 122))]), zM 5 4, zG 6 5 true (.isl 1 [(.c (.string ⟨#[116, 114, 117, 101]⟩)), (.c (.string ⟨#[102, 97, 108, 115, 101]⟩)), (.c (.string ⟨#[118, 111, 105, 100]⟩)), (.c (.string ⟨#[99, 117, 114, 114, 101, 110, 116]⟩)), (.c (.string ⟨#[114, 101, 115, 117, 108, 116]⟩))]), zN 7 5 true 0, zG 8 5 true (.call 91 [(.t 6), (.t 7)]), zG 9 5 true (.sc (.un .not) [(.t 8)]), zO 10 (.pick (.t 5) (.t 9) (.c (.bool false))), zM 2 10]) .ret))) := by kernel_rfl
def f94_k3 (x9 : Bool) : Option Bool := some x9
def f94 (n : Nat) (a1 : ByteArray) : Option Bool := ((f90 n a1 97 122).bind fun r4 => (bif r4 then ((f91 n [(ByteArray.mk #[116, 114, 117, 101]), (ByteArray.mk #[102, 97, 108, 115, 101]), (ByteArray.mk #[118, 111, 105, 100]), (ByteArray.mk #[99, 117, 114, 114, 101, 110, 116]), (ByteArray.mk #[114, 101, 115, 117, 108, 116])] a1).bind fun r7 => (f94_k3 (!r7))) else (f94_k3 false)))
def f94_r (r : Bool) : AV := (vB r)
theorem p_f94 {n : Nat} {a1 : ByteArray} {r : Bool} (h : f94 n a1 = some r) : PureSpec Try.prog 94 [(vS a1)] (f94_r r) := by
 rw [f94.eq_1] at h
 refine pure_of hmix ic94 ?_
 refine go_to (mkd (.val undef) 11 0 [(0, (vS a1))]) ?_
 refine s_so fun N2 k2 w2 => ?_
 refine o_r1 [(2, (vB false))] ?_
 refine o_end (k2 _ ?_)
 refine J1 (r := r) (fun (x9 : Bool) => ⟨(mkd .any 11 0 [(2, (vB x9))]), []⟩) (f94_k3) ?_ ?_
 · intro x9 h
   rw [f94_k3.eq_1] at h
   exact c_ret (rets [] [(vB x9)] [(vB x9)] h)
 · intro N3 w3
   refine c_ops ?_
   refine o_r1 [(3, (vS a1))] ?_
   refine bnd h fun r4 g5 h => ?_
   refine o_o (one_call (p_f90 g5)) ?_
   refine o_r1 [(5, (vB r4))] ?_
   refine i_o [4, 5] h (fun h => ?_) (fun h => ?_)
   · refine o_r2 [(6, (vL cS [(ByteArray.mk #[116, 114, 117, 101]), (ByteArray.mk #[102, 97, 108, 115, 101]), (ByteArray.mk #[118, 111, 105, 100]), (ByteArray.mk #[99, 117, 114, 114, 101, 110, 116]), (ByteArray.mk #[114, 101, 115, 117, 108, 116])])), (7, (vS a1))] ?_
     refine bnd h fun r7 g8 h => ?_
     refine o_g ?_
     refine o_o (one_call (p_f91 g8)) ?_
     refine o_r3 [(2, (vB (!r7))), (9, (vB (!r7))), (10, (vB (!r7)))] ?_
     exact o_end (w3 _ _ (wkm [2] wh_nil) h)
   · refine o_r6 [(6, (.val undef)), (7, (.val undef)), (8, (.val undef)), (9, (.val undef)), (10, (vB false))] ?_
     exact o_end (w3 _ _ (wkm [2] wh_nil) h)
theorem ic128 : fnIC Try.prog H0 128 = some ([.tmp 2], 5, (.seq (.ops [zO 1 (.box 0 93 [] (.t 0)), zO 2 (.mov (.c (.string ⟨#[]⟩)))]) (.seq (.ops [zO 3 (.faddr (.t 1) 0), zO 4 (.ld (.t 3) 1 false), zM 2 4]) .ret))) := by kernel_rfl
def f128 (n : Nat) (a1 : Col) : Option ByteArray := some a1.fName
def f128_r (r : ByteArray) : AV := (vS r)
theorem p_f128 {n : Nat} {a1 : Col} {r : ByteArray} (h : f128 n a1 = some r) : PureSpec Try.prog 128 [(.agg [(vS a1.fName), (vI a1.fKind), (vS a1.fClass)])] (f128_r r) := by
 rw [f128.eq_1] at h
 refine pure_of hmix ic128 ?_
 refine go_to (mkd (.val undef) 5 0 [(0, (.agg [(vS a1.fName), (vI a1.fKind), (vS a1.fClass)]))]) ?_
 refine s_so fun N2 k2 w2 => ?_
 refine o_h2 [(1, (.ptr 0 0)), (2, (vS (ByteArray.mk #[])))] [(some (.box 93 [(vS a1.fName), (vI a1.fKind), (vS a1.fClass)]))] ?_
 refine o_end (k2 _ ?_)
 refine s_so fun N3 k3 w3 => ?_
 refine o_r3 [(2, (vS a1.fName)), (3, (.ptr 0 0)), (4, (vS a1.fName))] ?_
 refine o_end (k3 _ ?_)
 exact c_ret (rets [] [(vS a1.fName)] [(vS a1.fName)] h)
theorem ic145 : fnIC Try.prog H0 145 = some ([.tmp 4], 10, (.seq (.ops [zO 3 (.box 0 93 [] (.t 0)), zO 4 (.mov (.c (.bool false)))]) (.seq (.draw [] [zQ (zO 5 (.ld (.t 1) 1 false)), zQ (zO 6 (.ld (.t 3) 3 true)), zQ (zO 7 (.callv (.t 5) [(.t 6)])), zQ (zO 8 (.ld (.t 2) 1 false)), zQ (zO 9 (.sc (.bin .eql 9) [(.t 7), (.t 8)])), zQ (zM 4 9)]) .ret))) := by kernel_rfl
def f145 (n : Nat) (a1 : Col) (a2 : ByteArray) : Option Bool := ((f128 n a1).bind fun r5 => some (sEqF r5 a2))
def f145_r (r : Bool) : AV := (vB r)
theorem p_f145 {n : Nat} {a1 : Col} {a2 : ByteArray} {r : Bool} (h : f145 n a1 a2 = some r) : PureSpec Try.prog 145 [(.agg [(vS a1.fName), (vI a1.fKind), (vS a1.fClass)]), (.iptr [(.fn 128 [])]), (.iptr [(vS a2)])] (f145_r r) := by
 rw [f145.eq_1] at h
 refine pure_of hmix ic145 ?_
 refine go_to (mkd (.val undef) 10 0 [(0, (.agg [(vS a1.fName), (vI a1.fKind), (vS a1.fClass)])), (1, (.iptr [(.fn 128 [])])), (2, (.iptr [(vS a2)]))]) ?_
 refine s_so fun N3 k3 w3 => ?_
 refine o_h2 [(3, (.ptr 0 0)), (4, (vB false))] [(some (.box 93 [(vS a1.fName), (vI a1.fKind), (vS a1.fClass)]))] ?_
 refine o_end (k3 _ ?_)
 refine s_seq fun N4 k4 w4 => ?_
 refine c_draw0 ?_
 refine d_r2 [(5, (.fn 128 [])), (6, (.agg [(vS a1.fName), (vI a1.fKind), (vS a1.fClass)]))] ?_
 refine bnd h fun r5 g6 h => ?_
 refine d_o (one_callv (caps := []) (p_f128 g6)) ?_
 refine d_r1 [(8, (vS a2))] ?_
 refine d_o (one_sc (vs := [.string r5, .string a2]) (str_eql r5 a2)) ?_
 refine d_r1 [(4, (vB (sEqF r5 a2)))] ?_
 refine d_end (k4 _ ?_)
 exact c_ret (rets [] [(vB (sEqF r5 a2))] [(vB (sEqF r5 a2))] h)
theorem ic144 : fnIC Try.prog H0 144 = some ([.tmp 4], 19, (.seq (.ops [zO 4 (.mov (.c (.int .i64 0)))]) (.seq (.seq (.ops [zM 6 0, zO 7 (.len false (.t 6)), zO 8 (.mov (.c (.int .i64 0)))]) (.block 0 (.loop (.seq (.ops [zO 9 (.sc (.bin .lss 3) [(.t 8), (.t 7)])]) (.seq (.cond (.t 9)
  .skip
  (.exit 0)) (.seq (.block 1 (.seq (.ops [zM 10 8, zM 5 10]) (.seq (.ops [zM 11 1, zM 12 0, zM 13 5, zO 14 (.iaddr 3 (.t 12) (.t 13)), zO 15 (.ld (.t 14) 3 true), zO 16 (.callv (.t 11) [(.t 15)])]) (.cond (.t 16)
  (.seq (.ops [zM 17 5, zM 4 17]) .ret)
  .skip)))) (.ops [zO 18 (.sc (.bin .add 3) [(.t 8), (.c (.int .i64 1))]), zM 8 18]))))))) (.seq (.ops [zO 4 (.mov (.c (.int .i64 (-1))))]) .ret)))) := by kernel_rfl
def f144_k4 : Option Int := some (-1)
def f144_l8 (a1 : (List Col)) (n : Nat) (a2 : ByteArray) (k4k : Option Int) : Nat → Int → Option Int
  | 0, _ => none
  | m8 + 1, x22 => (bif (decide (x22 < (len a1))) then ((gi a1 x22).bind fun x30 => ((f145 n x30 a2).bind fun r32 => (bif r32 then some x22 else (f144_l8 a1 n a2 (k4k) m8 (wr .i64 (x22 + 1)))))) else (k4k))
def f144 (n : Nat) (a1 : (List Col)) (a2 : ByteArray) : Option Int := (f144_l8 a1 n a2 (f144_k4) n 0)
def f144_r (r : Int) : AV := (vI r)
theorem p_f144 {n : Nat} {a1 : (List Col)} {a2 : ByteArray} {r : Int} (h : f144 n a1 a2 = some r) : PureSpec Try.prog 144 [(vL Col.c a1), (.fn 145 [(.iptr [(.fn 128 [])]), (.iptr [(vS a2)])])] (f144_r r) := by
 rw [f144.eq_1] at h
 refine pure_of hmix ic144 ?_
 refine go_to (mkd (.val undef) 19 0 [(0, (vL Col.c a1)), (1, (.fn 145 [(.iptr [(.fn 128 [])]), (.iptr [(vS a2)])]))]) ?_
 refine s_so fun N3 k3 w3 => ?_
 refine o_r1 [(4, (vI 0))] ?_
 refine o_end (k3 _ ?_)
 refine J0 (r := r) ⟨(mkd .any 19 0 []), []⟩ (f144_k4) ?_ ?_
 · intro h
   rw [f144_k4.eq_1] at h
   refine s_so fun N36 k36 w36 => ?_
   refine o_r1 [(4, (vI (-1)))] ?_
   refine o_end (k36 _ ?_)
   exact c_ret (rets [] [(vI (-1))] [(vI (-1))] h)
 · intro N4 w4
   refine s_so fun N5 k5 w5 => ?_
   refine o_r1 [(6, (vL Col.c a1))] ?_
   refine o_o (one_len (f := Col.c) (l := a1)) ?_
   refine o_r1 [(8, (vI 0))] ?_
   refine o_end (k5 _ ?_)
   refine c_block fun E7 hE7 hO7 => ?_
   refine W1 (fun (x22 : Int) => ⟨(mkd .any 19 0 [(0, (vL Col.c a1)), (1, (.fn 145 [(.iptr [(.fn 128 [])]), (.iptr [(vS a2)])])), (7, (vI (len a1))), (8, (vI x22))]), []⟩) (f144_l8 a1 n a2 (f144_k4)) h (wkm [0, 1, 7, 8] wh_nil) (by intros; rw [f144_l8.eq_1]) ?_
   intro m8 x22 h N8 w8
   rw [f144_l8.eq_2] at h
   refine s_so fun N23 k23 w23 => ?_
   refine o_r1 [(9, (vB (decide (x22 < (len a1)))))] ?_
   refine o_end (k23 _ ?_)
   refine s_seq fun N24 k24 w24 => ?_
   refine i_c [9] h (fun h => ?_) (fun h => ?_)
   · refine c_skip (k24 _ ?_)
     refine s_seq fun N26 k26 w26 => ?_
     refine c_block fun E27 hE27 hO27 => ?_
     refine s_so fun N28 k28 w28 => ?_
     refine o_r2 [(5, (vI x22)), (10, (vI x22))] ?_
     refine o_end (k28 _ ?_)
     refine s_so fun N29 k29 w29 => ?_
     refine o_r3 [(11, (.fn 145 [(.iptr [(.fn 128 [])]), (.iptr [(vS a2)])])), (12, (vL Col.c a1)), (13, (vI x22))] ?_
     refine bnd h fun x30 g31 h => ?_
     refine o_o (one_ia (f := Col.c) (ki := .i64) g31) ?_
     refine o_r1 [(15, (.agg [(vS x30.fName), (vI x30.fKind), (vS x30.fClass)]))] ?_
     refine bnd h fun r32 g33 h => ?_
     refine o_o (one_callv (caps := [(.iptr [(.fn 128 [])]), (.iptr [(vS a2)])]) (p_f145 g33)) ?_
     refine o_end (k29 _ ?_)
     refine i_c [16] h (fun h => ?_) (fun h => ?_)
     · refine s_so fun N35 k35 w35 => ?_
       refine o_r2 [(4, (vI x22)), (17, (vI x22))] ?_
       refine o_end (k35 _ ?_)
       exact c_ret (rets [] [(vI x22)] [(vI x22)] h)
     · refine c_skip (k26 _ ?_)
       refine c_ops ?_
       refine o_r2 [(8, (vI (wr .i64 (x22 + 1)))), (18, (vI (wr .i64 (x22 + 1))))] ?_
       exact o_end (w8 _ _ (wkm [0, 1, 7, 8] wh_nil) h)
   · refine c_exit (hE7 _ ?_)
     exact w4 _ (wkm [] wh_nil) h
theorem ic127 : fnIC Try.prog H0 127 = some ([.tmp 6], 10, (.seq (.ops [zO 4 (.box 0 9 [] (.t 1)), zO 5 (.box 0 181 [] (.t 2)), zO 6 (.mov (.c (.int .i64 0)))]) (.seq (.ops [zM 7 0, zO 8 (.mkf 145 [(.t 5), (.t 4)]), zO 9 (.call 144 [(.t 7), (.t 8)]), zM 6 9]) .ret))) := by kernel_rfl
def f127 (n : Nat) (a1 : (List Col)) (a2 : ByteArray) : Option Int := ((f144 n a1 a2).bind fun r5 => some r5)
def f127_r (r : Int) : AV := (vI r)
theorem p_f127 {n : Nat} {a1 : (List Col)} {a2 : ByteArray} {r : Int} (h : f127 n a1 a2 = some r) : PureSpec Try.prog 127 [(vL Col.c a1), (vS a2), (.fn 128 [])] (f127_r r) := by
 rw [f127.eq_1] at h
 refine pure_of hmix ic127 ?_
 refine go_to (mkd (.val undef) 10 0 [(0, (vL Col.c a1)), (1, (vS a2)), (2, (.fn 128 []))]) ?_
 refine s_so fun N3 k3 w3 => ?_
 refine o_h3 [(4, (.ptr 0 0)), (5, (.ptr 1 0)), (6, (vI 0))] [(some (.box 9 [(vS a2)])), (some (.box 181 [(.fn 128 [])]))] ?_
 refine o_end (k3 _ ?_)
 refine s_so fun N4 k4 w4 => ?_
 refine o_r2 [(7, (vL Col.c a1)), (8, (.fn 145 [(.ptr 1 0), (.ptr 0 0)]))] ?_
 refine bnd h fun r5 g6 h => ?_
 refine o_o (one_callT [1, 0] (p_f144 g6) (ns_v _)) ?_
 refine o_r1 [(6, (vI r5))] ?_
 refine o_end (k4 _ ?_)
 exact c_ret (rets [] [(vI r5)] [(vI r5)] h)
theorem ic95 : fnIC Try.prog H0 95 = some ([.tmp 4], 8, (.seq (.ops [zO 4 (.mov (.c (.int .i64 0)))]) (.seq (.ops [zM 5 0, zM 6 1, zO 7 (.call 127 [(.t 5), (.t 6), (.f 128)]), zM 4 7]) .ret))) := by kernel_rfl
def f95 (n : Nat) (a1 : (List Col)) (a2 : ByteArray) : Option Int := ((f127 n a1 a2).bind fun r5 => some r5)
def f95_r (r : Int) : AV := (vI r)
theorem p_f95 {n : Nat} {a1 : (List Col)} {a2 : ByteArray} {r : Int} (h : f95 n a1 a2 = some r) : PureSpec Try.prog 95 [(vL Col.c a1), (vS a2)] (f95_r r) := by
 rw [f95.eq_1] at h
 refine pure_of hmix ic95 ?_
 refine go_to (mkd (.val undef) 8 0 [(0, (vL Col.c a1)), (1, (vS a2))]) ?_
 refine s_so fun N3 k3 w3 => ?_
 refine o_r1 [(4, (vI 0))] ?_
 refine o_end (k3 _ ?_)
 refine s_so fun N4 k4 w4 => ?_
 refine o_r2 [(5, (vL Col.c a1)), (6, (vS a2))] ?_
 refine bnd h fun r5 g6 h => ?_
 refine o_o (one_call (p_f127 g6)) ?_
 refine o_r1 [(4, (vI r5))] ?_
 refine o_end (k4 _ ?_)
 exact c_ret (rets [] [(vI r5)] [(vI r5)] h)
theorem ic86 : fnIC Try.prog H0 86 = some ([.tmp 6], 15, (.seq (.ops [zO 6 (.mov (.c (.bool false)))]) (.seq (.ops [zM 7 1, zM 8 0, zO 9 (.sc (.bin .leq 3) [(.t 7), (.t 8)]), zM 10 9, zN 11 10 true 0, zN 12 10 true 2, zG 13 10 true (.sc (.bin .leq 3) [(.t 11), (.t 12)]), zO 14 (.pick (.t 10) (.t 13) (.c (.bool false))), zM 6 14]) .ret))) := by kernel_rfl
def f86_k5 (x7 : Bool) : Option Bool := some x7
def f86 (n : Nat) (a1 : Int) (a2 : Int) (a3 : Int) : Option Bool := (bif (decide (a2 ≤ a1)) then (f86_k5 (decide (a1 ≤ a3))) else (f86_k5 false))
def f86_r (r : Bool) : AV := (vB r)
theorem p_f86 {n : Nat} {a1 : Int} {a2 : Int} {a3 : Int} {r : Bool} (h : f86 n a1 a2 a3 = some r) : PureSpec Try.prog 86 [(vI a1), (vI a2), (vI a3)] (f86_r r) := by
 rw [f86.eq_1] at h
 refine pure_of hmix ic86 ?_
 refine go_to (mkd (.val undef) 15 0 [(0, (vI a1)), (1, (vI a2)), (2, (vI a3))]) ?_
 refine s_so fun N4 k4 w4 => ?_
 refine o_r1 [(6, (vB false))] ?_
 refine o_end (k4 _ ?_)
 refine J1 (r := r) (fun (x7 : Bool) => ⟨(mkd .any 15 0 [(6, (vB x7))]), []⟩) (f86_k5) ?_ ?_
 · intro x7 h
   rw [f86_k5.eq_1] at h
   exact c_ret (rets [] [(vB x7)] [(vB x7)] h)
 · intro N5 w5
   refine c_ops ?_
   refine o_r4 [(7, (vI a2)), (8, (vI a1)), (9, (vB (decide (a2 ≤ a1)))), (10, (vB (decide (a2 ≤ a1))))] ?_
   refine i_o [9, 10] h (fun h => ?_) (fun h => ?_)
   · refine o_r5 [(6, (vB (decide (a1 ≤ a3)))), (11, (vI a1)), (12, (vI a3)), (13, (vB (decide (a1 ≤ a3)))), (14, (vB (decide (a1 ≤ a3))))] ?_
     exact o_end (w5 _ _ (wkm [6] wh_nil) h)
   · refine o_r5 [(11, (.val undef)), (12, (.val undef)), (13, (.val undef)), (14, (vB false))] ?_
     exact o_end (w5 _ _ (wkm [6] wh_nil) h)
theorem ic53 : fnIC Try.prog H0 53 = some ([.tmp 2], 41, (.seq (.ops [zO 2 (.mov (.c (.int .i64 0)))]) (.seq (.seq (.ops [zM 5 0, zO 6 (.len false (.t 5)), zO 7 (.sc (.bin .gtr 3) [(.t 6), (.c (.int .i64 30))])]) (.cond (.t 7)
  (.seq (.ops [zO 2 (.mov (.c (.int .i64 3)))]) .ret)
  .skip)) (.seq (.seq (.ops [zM 8 0, zO 9 (.len false (.t 8)), zO 10 (.mov (.c (.int .i64 0)))]) (.block 0 (.loop (.seq (.ops [zO 11 (.sc (.bin .lss 3) [(.t 10), (.t 9)])]) (.seq (.cond (.t 11)
  .skip
  (.exit 0)) (.seq (.block 1 (.seq (.ops [zM 12 10, zO 13 (.iaddr 3 (.t 8) (.t 10)), zO 14 (.ld (.t 13) 3 true), zO 4 (.alloc 0 93 [] [(.string ⟨#[]⟩), (.int .i64 0), (.string ⟨#[]⟩)]), zM 3 12, zU (.st true 3 [] (.t 4) (.t 14))]) (.seq (.seq (.ops [zO 15 (.faddr (.t 4) 0), zO 16 (.ld (.t 15) 1 false), zO 17 (.call 94 [(.t 16)]), zO 18 (.sc (.un .not) [(.t 17)])]) (.cond (.t 18)
  (.seq (.ops [zO 2 (.mov (.c (.int .i64 4)))]) .ret)
  .skip)) (.seq (.seq (.draw [] [zQ (zM 19 0), zQ (zM 20 3), zQ (zO 21 (.lsl 3 (.t 19) none (some (.t 20)))), zQ (zO 22 (.faddr (.t 4) 0)), zQ (zO 23 (.ld (.t 22) 1 false)), zQ (zO 24 (.call 95 [(.t 21), (.t 23)])), zQ (zO 25 (.sc (.bin .geq 3) [(.t 24), (.c (.int .i64 0))]))]) (.cond (.t 25)
  (.seq (.ops [zO 2 (.mov (.c (.int .i64 6)))]) .ret)
  .skip)) (.seq (.ops [zO 26 (.faddr (.t 4) 1), zO 27 (.ld (.t 26) 1 false), zO 28 (.call 86 [(.t 27), (.c (.int .i64 1)), (.c (.int .i64 3))]), zO 29 (.sc (.un .not) [(.t 28)]), zM 30 29, zG 31 30 false (.faddr (.t 4) 1), zG 32 30 false (.ld (.t 31) 1 false), zG 33 30 false (.sc (.bin .neq 3) [(.t 32), (.c (.int .i64 3))]), zN 34 30 false 33, zG 35 34 true (.faddr (.t 4) 2), zG 36 34 true (.ld (.t 35) 1 false), zG 37 34 true (.sc (.bin .neq 9) [(.t 36), (.c (.string ⟨#[]⟩))]), zG 38 30 false (.pick (.t 34) (.t 37) (.c (.bool false))), zO 39 (.pick (.t 30) (.c (.bool true)) (.t 38))]) (.cond (.t 39)
  (.seq (.ops [zO 2 (.mov (.c (.int .i64 1)))]) .ret)
  .skip)))))) (.ops [zO 40 (.sc (.bin .add 3) [(.t 10), (.c (.int .i64 1))]), zM 10 40]))))))) (.seq (.ops [zO 2 (.mov (.c (.int .i64 0)))]) .ret))))) := by kernel_rfl
def f53_k67 (x44 : Int) (c12k : Int → Option Int) (x73 : Bool) : Option Int := (bif x73 then some 1 else (c12k (wr .i64 (x44 + 1))))
def f53_k8 : Option Int := some 0
def f53_l12 (a1 : (List Col)) (n : Nat) (k8k : Option Int) : Nat → Int → Option Int
  | 0, _ => none
  | m12 + 1, x44 => (bif (decide (x44 < (len a1))) then ((gi a1 x44).bind fun x51 => ((f94 n x51.fName).bind fun r55 => (bif (!r55) then some 4 else ((sli a1 0 x44).bind fun l61 => ((f95 n l61 x51.fName).bind fun r63 => (bif (decide (r63 ≥ 0)) then some 6 else ((f86 n x51.fKind 1 3).bind fun r68 => (bif (!r68) then (f53_k67 x44 (f53_l12 a1 n (k8k) m12) true) else (bif (x51.fKind != 3) then (f53_k67 x44 (f53_l12 a1 n (k8k) m12) (!(sEqF x51.fClass (ByteArray.mk #[])))) else (f53_k67 x44 (f53_l12 a1 n (k8k) m12) false)))))))))) else (k8k))
def f53 (n : Nat) (a1 : (List Col)) : Option Int := (bif (decide ((len a1) > 30)) then some 3 else (f53_l12 a1 n (f53_k8) n 0))
def f53_r (r : Int) : AV := (vI r)
theorem p_f53 {n : Nat} {a1 : (List Col)} {r : Int} (h : f53 n a1 = some r) : PureSpec Try.prog 53 [(vL Col.c a1)] (f53_r r) := by
 rw [f53.eq_1] at h
 refine pure_of hmix ic53 ?_
 refine go_to (mkd (.val undef) 41 0 [(0, (vL Col.c a1))]) ?_
 refine s_so fun N2 k2 w2 => ?_
 refine o_r1 [(2, (vI 0))] ?_
 refine o_end (k2 _ ?_)
 refine s_seq fun N3 k3 w3 => ?_
 refine s_so fun N4 k4 w4 => ?_
 refine o_r1 [(5, (vL Col.c a1))] ?_
 refine o_o (one_len (f := Col.c) (l := a1)) ?_
 refine o_r1 [(7, (vB (decide ((len a1) > 30))))] ?_
 refine o_end (k4 _ ?_)
 refine i_c [7] h (fun h => ?_) (fun h => ?_)
 · refine s_so fun N7 k7 w7 => ?_
   refine o_r1 [(2, (vI 3))] ?_
   refine o_end (k7 _ ?_)
   exact c_ret (rets [] [(vI 3)] [(vI 3)] h)
 · refine c_skip (k3 _ ?_)
   refine J0 (r := r) ⟨(mkd .any 41 0 []), []⟩ (f53_k8) ?_ ?_
   · intro h
     rw [f53_k8.eq_1] at h
     refine s_so fun N76 k76 w76 => ?_
     refine o_r1 [(2, (vI 0))] ?_
     refine o_end (k76 _ ?_)
     exact c_ret (rets [] [(vI 0)] [(vI 0)] h)
   · intro N8 w8
     refine s_so fun N9 k9 w9 => ?_
     refine o_r1 [(8, (vL Col.c a1))] ?_
     refine o_o (one_len (f := Col.c) (l := a1)) ?_
     refine o_r1 [(10, (vI 0))] ?_
     refine o_end (k9 _ ?_)
     refine c_block fun E11 hE11 hO11 => ?_
     refine W1 (fun (x44 : Int) => ⟨(mkd .any 41 0 [(0, (vL Col.c a1)), (8, (vL Col.c a1)), (9, (vI (len a1))), (10, (vI x44))]), []⟩) (f53_l12 a1 n (f53_k8)) h (wkm [0, 8, 9, 10] wh_nil) (by intros; rw [f53_l12.eq_1]) ?_
     intro m12 x44 h N12 w12
     rw [f53_l12.eq_2] at h
     refine s_so fun N45 k45 w45 => ?_
     refine o_r1 [(11, (vB (decide (x44 < (len a1)))))] ?_
     refine o_end (k45 _ ?_)
     refine s_seq fun N46 k46 w46 => ?_
     refine i_c [11] h (fun h => ?_) (fun h => ?_)
     · refine c_skip (k46 _ ?_)
       refine s_seq fun N48 k48 w48 => ?_
       refine c_block fun E49 hE49 hO49 => ?_
       refine s_so fun N50 k50 w50 => ?_
       refine o_r1 [(12, (vI x44))] ?_
       refine bnd h fun x51 g52 h => ?_
       refine o_o (one_ia (f := Col.c) (ki := .i64) g52) ?_
       refine o_h4 [(3, (vI x44)), (4, (.ptr 0 0)), (14, (.agg [(vS x51.fName), (vI x51.fKind), (vS x51.fClass)]))] [(some (.box 93 [(vS x51.fName), (vI x51.fKind), (vS x51.fClass)]))] ?_
       refine o_end (k50 _ ?_)
       refine s_seq fun N53 k53 w53 => ?_
       refine s_so fun N54 k54 w54 => ?_
       refine o_r2 [(15, (.ptr 0 0)), (16, (vS x51.fName))] ?_
       refine bnd h fun r55 g56 h => ?_
       refine o_o (one_call (p_f94 g56)) ?_
       refine o_r1 [(18, (vB (!r55)))] ?_
       refine o_end (k54 _ ?_)
       refine i_c [18] h (fun h => ?_) (fun h => ?_)
       · refine s_so fun N58 k58 w58 => ?_
         refine o_r1 [(2, (vI 4))] ?_
         refine o_end (k58 _ ?_)
         exact c_ret (rets [] [(vI 4)] [(vI 4)] h)
       · refine c_skip (k53 _ ?_)
         refine s_seq fun N59 k59 w59 => ?_
         refine s_seq fun N60 k60 w60 => ?_
         refine c_draw0 ?_
         refine d_r2 [(19, (vL Col.c a1)), (20, (vI x44))] ?_
         refine bnd h fun l61 g62 h => ?_
         refine d_o (one_lsl (f := Col.c) g62 (fun _ => rfl)) ?_
         refine d_r2 [(22, (.ptr 0 0)), (23, (vS x51.fName))] ?_
         refine t_tm (mkd .any 41 0 [(0, (vL Col.c a1)), (3, (vI x44)), (4, (.ptr 0 0)), (8, (vL Col.c a1)), (9, (vI (len a1))), (10, (vI x44)), (11, (vB true)), (12, (vI x44)), (13, (.iptr [(vS x51.fName), (vI x51.fKind), (vS x51.fClass)])), (14, (.agg [(vS x51.fName), (vI x51.fKind), (vS x51.fClass)])), (15, (.ptr 0 0)), (16, (vS x51.fName)), (17, (vB r55)), (18, (vB false)), (19, (vL Col.c a1)), (20, (vI x44)), (21, (vL Col.c l61)), (22, (.ptr 0 0)), (23, (vS x51.fName))]) ?_
         refine bnd h fun r63 g64 h => ?_
         refine d_o (one_call (p_f95 g64)) ?_
         refine d_r1 [(25, (vB (decide (r63 ≥ 0))))] ?_
         refine d_end (k60 _ ?_)
         refine i_c [25] h (fun h => ?_) (fun h => ?_)
         · refine s_so fun N66 k66 w66 => ?_
           refine o_r1 [(2, (vI 6))] ?_
           refine o_end (w66 _ ⟨(mkd .any 41 0 [(2, (vI 6))]), []⟩ (wkm [2] wh_nil) ?_)
           exact c_ret (rets [] [(vI 6)] [(vI 6)] h)
         · refine c_skip (w59 _ ⟨(mkd .any 41 0 [(0, (vL Col.c a1)), (4, (.ptr 0 0)), (8, (vL Col.c a1)), (9, (vI (len a1))), (10, (vI x44))]), [(some (.box 93 [(vS x51.fName), (vI x51.fKind), (vS x51.fClass)]))]⟩ (wkm [0, 4, 8, 9, 10] (whk wh_nil)) ?_)
           refine J1 (r := r) (fun (x73 : Bool) => ⟨(mkd .any 41 0 [(0, (vL Col.c a1)), (8, (vL Col.c a1)), (9, (vI (len a1))), (10, (vI x44)), (39, (vB x73))]), []⟩) (f53_k67 x44 (f53_l12 a1 n (f53_k8) m12)) ?_ ?_
           · intro x73 h
             rw [f53_k67.eq_1] at h
             refine i_c [39] h (fun h => ?_) (fun h => ?_)
             · refine s_so fun N75 k75 w75 => ?_
               refine o_r1 [(2, (vI 1))] ?_
               refine o_end (k75 _ ?_)
               exact c_ret (rets [] [(vI 1)] [(vI 1)] h)
             · refine c_skip (k48 _ ?_)
               refine c_ops ?_
               refine o_r2 [(10, (vI (wr .i64 (x44 + 1)))), (40, (vI (wr .i64 (x44 + 1))))] ?_
               exact o_end (w12 _ _ (wkm [0, 8, 9, 10] wh_nil) h)
           · intro N67 w67
             refine c_ops ?_
             refine o_r2 [(26, (.ptr 0 1)), (27, (vI x51.fKind))] ?_
             refine bnd h fun r68 g69 h => ?_
             refine o_o (one_call (p_f86 g69)) ?_
             refine o_r2 [(29, (vB (!r68))), (30, (vB (!r68)))] ?_
             refine i_o [29, 30] h (fun h => ?_) (fun h => ?_)
             · refine o_r9 [(31, (.val undef)), (32, (.val undef)), (33, (.val undef)), (34, (.val undef)), (35, (.val undef)), (36, (.val undef)), (37, (.val undef)), (38, (.val undef)), (39, (vB true))] ?_
               exact o_end (w67 _ _ (wkm [0, 8, 9, 10, 39] wh_nil) h)
             · refine o_r4 [(31, (.ptr 0 1)), (32, (vI x51.fKind)), (33, (vB (x51.fKind != 3))), (34, (vB (x51.fKind != 3)))] ?_
               refine i_o [33, 34] h (fun h => ?_) (fun h => ?_)
               · refine o_r2 [(35, (.ptr 0 2)), (36, (vS x51.fClass))] ?_
                 refine o_g ?_
                 refine o_o (one_sc (vs := [.string x51.fClass, .string (ByteArray.mk #[])]) (str_neq x51.fClass (ByteArray.mk #[]))) ?_
                 refine o_r2 [(38, (vB (!(sEqF x51.fClass (ByteArray.mk #[]))))), (39, (vB (!(sEqF x51.fClass (ByteArray.mk #[])))))] ?_
                 exact o_end (w67 _ _ (wkm [0, 8, 9, 10, 39] wh_nil) h)
               · refine o_r5 [(35, (.val undef)), (36, (.val undef)), (37, (.val undef)), (38, (vB false)), (39, (vB false))] ?_
                 exact o_end (w67 _ _ (wkm [0, 8, 9, 10, 39] wh_nil) h)
     · refine c_exit (hE11 _ ?_)
       exact w8 _ (wkm [] wh_nil) h
theorem ic49 : fnIC Try.prog H0 49 = some ([.tmp 2], 15, (.seq (.ops [zO 2 (.mov (.c (.int .i64 0)))]) (.seq (.seq (.ops [zM 5 0, zO 6 (.len false (.t 5)), zO 7 (.mov (.c (.int .i64 0)))]) (.block 0 (.loop (.seq (.ops [zO 8 (.sc (.bin .lss 3) [(.t 7), (.t 6)])]) (.seq (.cond (.t 8)
  .skip
  (.exit 0)) (.seq (.block 1 (.seq (.ops [zO 9 (.iaddr 1 (.t 5) (.t 7)), zO 10 (.ld (.t 9) 1 false), zM 4 10]) (.seq (.ops [zM 11 4, zO 12 (.sc (.bin .neq 30) [(.t 11), (.c (.int .i64 0))])]) (.cond (.t 12)
  (.seq (.ops [zM 13 4, zM 2 13]) .ret)
  .skip)))) (.ops [zO 14 (.sc (.bin .add 3) [(.t 7), (.c (.int .i64 1))]), zM 7 14]))))))) (.seq (.ops [zO 2 (.mov (.c (.int .i64 0)))]) .ret)))) := by kernel_rfl
def f49_k3 : Option Int := some 0
def f49_l7 (a1 : (List Int)) (k3k : Option Int) : Nat → Int → Option Int
  | 0, _ => none
  | m7 + 1, x19 => (bif (decide (x19 < (len a1))) then ((gi a1 x19).bind fun x26 => (bif (x26 != 0) then some x26 else (f49_l7 a1 (k3k) m7 (wr .i64 (x19 + 1))))) else (k3k))
def f49 (n : Nat) (a1 : (List Int)) : Option Int := (f49_l7 a1 (f49_k3) n 0)
def f49_r (r : Int) : AV := (vI r)
theorem p_f49 {n : Nat} {a1 : (List Int)} {r : Int} (h : f49 n a1 = some r) : PureSpec Try.prog 49 [(vL cI a1)] (f49_r r) := by
 rw [f49.eq_1] at h
 refine pure_of hmix ic49 ?_
 refine go_to (mkd (.val undef) 15 0 [(0, (vL cI a1))]) ?_
 refine s_so fun N2 k2 w2 => ?_
 refine o_r1 [(2, (vI 0))] ?_
 refine o_end (k2 _ ?_)
 refine J0 (r := r) ⟨(mkd .any 15 0 []), []⟩ (f49_k3) ?_ ?_
 · intro h
   rw [f49_k3.eq_1] at h
   refine s_so fun N31 k31 w31 => ?_
   refine o_r1 [(2, (vI 0))] ?_
   refine o_end (k31 _ ?_)
   exact c_ret (rets [] [(vI 0)] [(vI 0)] h)
 · intro N3 w3
   refine s_so fun N4 k4 w4 => ?_
   refine o_r1 [(5, (vL cI a1))] ?_
   refine o_o (one_len (f := cI) (l := a1)) ?_
   refine o_r1 [(7, (vI 0))] ?_
   refine o_end (k4 _ ?_)
   refine c_block fun E6 hE6 hO6 => ?_
   refine W1 (fun (x19 : Int) => ⟨(mkd .any 15 0 [(5, (vL cI a1)), (6, (vI (len a1))), (7, (vI x19))]), []⟩) (f49_l7 a1 (f49_k3)) h (wkm [5, 6, 7] wh_nil) (by intros; rw [f49_l7.eq_1]) ?_
   intro m7 x19 h N7 w7
   rw [f49_l7.eq_2] at h
   refine s_so fun N20 k20 w20 => ?_
   refine o_r1 [(8, (vB (decide (x19 < (len a1)))))] ?_
   refine o_end (k20 _ ?_)
   refine s_seq fun N21 k21 w21 => ?_
   refine i_c [8] h (fun h => ?_) (fun h => ?_)
   · refine c_skip (k21 _ ?_)
     refine s_seq fun N23 k23 w23 => ?_
     refine c_block fun E24 hE24 hO24 => ?_
     refine s_so fun N25 k25 w25 => ?_
     refine bnd h fun x26 g27 h => ?_
     refine o_o (one_ia (f := cI) (ki := .i64) g27) ?_
     refine o_r2 [(4, (vI x26)), (10, (vI x26))] ?_
     refine o_end (k25 _ ?_)
     refine s_so fun N28 k28 w28 => ?_
     refine o_r2 [(11, (vI x26)), (12, (vB (x26 != 0)))] ?_
     refine o_end (k28 _ ?_)
     refine i_c [12] h (fun h => ?_) (fun h => ?_)
     · refine s_so fun N30 k30 w30 => ?_
       refine o_r2 [(2, (vI x26)), (13, (vI x26))] ?_
       refine o_end (k30 _ ?_)
       exact c_ret (rets [] [(vI x26)] [(vI x26)] h)
     · refine c_skip (k23 _ ?_)
       refine c_ops ?_
       refine o_r2 [(7, (vI (wr .i64 (x19 + 1)))), (14, (vI (wr .i64 (x19 + 1))))] ?_
       exact o_end (w7 _ _ (wkm [5, 6, 7] wh_nil) h)
   · refine c_exit (hE6 _ ?_)
     exact w3 _ (wkm [] wh_nil) h
theorem ic16 : fnIC Try.prog H0 16 = some ([.tmp 2], 71, (.seq (.ops [zO 2 (.mov (.c (.int .i64 0)))]) (.seq (.seq (.ops [zM 10 0, zO 11 (.len false (.t 10)), zO 12 (.sc (.bin .gtr 3) [(.t 11), (.c (.int .i64 24))])]) (.cond (.t 12)
  (.seq (.ops [zO 2 (.mov (.c (.int .i64 3)))]) .ret)
  .skip)) (.seq (.seq (.ops [zM 13 0, zO 14 (.len false (.t 13)), zO 15 (.mov (.c (.int .i64 0)))]) (.block 0 (.loop (.seq (.ops [zO 16 (.sc (.bin .lss 3) [(.t 15), (.t 14)])]) (.seq (.cond (.t 16)
  .skip
  (.exit 0)) (.seq (.block 1 (.seq (.ops [zM 17 15, zO 18 (.iaddr 2 (.t 13) (.t 15)), zO 19 (.ld (.t 18) 2 true), zO 4 (.alloc 0 91 [(1, 93, 3, 0)] [(.string ⟨#[]⟩), (.slice none 0 0)]), zM 3 17, zU (.st true 2 [(1, 93, 3, 0)] (.t 4) (.t 19))]) (.seq (.draw [] [zQ (zO 20 (.faddr (.t 4) 0)), zQ (zO 21 (.ld (.t 20) 1 false)), zQ (zO 22 (.call 51 [(.t 21)])), zQ (zO 23 (.call 50 [(.t 22), (.c (.int .i64 4))])), zQ (zM 24 0), zQ (zM 25 3), zQ (zO 26 (.lsl 2 (.t 24) none (some (.t 25)))), zQ (zO 27 (.faddr (.t 4) 0)), zQ (zO 28 (.ld (.t 27) 1 false)), zQ (zO 29 (.call 52 [(.t 26), (.t 28)])), zQ (zO 30 (.sc (.bin .lss 3) [(.t 29), (.c (.int .i64 0))])), zQ (zO 31 (.call 50 [(.t 30), (.c (.int .i64 6))])), zQ (zO 32 (.faddr (.t 4) 1)), zQ (zO 33 (.ld (.t 32) 1 false)), zQ (zO 34 (.call 53 [(.t 33)])), zQ (zO 35 (.isl 1 [(.t 23), (.t 31), (.t 34)])), zQ (zO 36 (.call 49 [(.t 35)])), zQ (zM 5 36)]) (.seq (.ops [zM 37 5, zO 38 (.sc (.bin .neq 30) [(.t 37), (.c (.int .i64 0))])]) (.cond (.t 38)
  (.seq (.ops [zM 39 5, zM 2 39]) .ret)
  .skip))))) (.ops [zO 40 (.sc (.bin .add 3) [(.t 15), (.c (.int .i64 1))]), zM 15 40]))))))) (.seq (.seq (.ops [zM 41 0, zO 42 (.len false (.t 41)), zO 43 (.mov (.c (.int .i64 0)))]) (.block 2 (.loop (.seq (.ops [zO 44 (.sc (.bin .lss 3) [(.t 43), (.t 42)])]) (.seq (.cond (.t 44)
  .skip
  (.exit 2)) (.seq (.block 3 (.seq (.ops [zO 45 (.iaddr 2 (.t 41) (.t 43)), zO 46 (.ld (.t 45) 2 true), zO 7 (.alloc 0 91 [(1, 93, 3, 0)] [(.string ⟨#[]⟩), (.slice none 0 0)]), zU (.st true 2 [(1, 93, 3, 0)] (.t 7) (.t 46))]) (.seq (.ops [zO 47 (.faddr (.t 7) 1), zO 48 (.ld (.t 47) 1 false), zO 49 (.len false (.t 48)), zO 50 (.mov (.c (.int .i64 0)))]) (.block 4 (.loop (.seq (.ops [zO 51 (.sc (.bin .lss 3) [(.t 50), (.t 49)])]) (.seq (.cond (.t 51)
  .skip
  (.exit 4)) (.seq (.block 5 (.seq (.ops [zO 52 (.iaddr 3 (.t 48) (.t 50)), zO 53 (.ld (.t 52) 3 true), zO 9 (.alloc 0 93 [] [(.string ⟨#[]⟩), (.int .i64 0), (.string ⟨#[]⟩)]), zU (.st true 3 [] (.t 9) (.t 53))]) (.seq (.ops [zO 54 (.faddr (.t 9) 1), zO 55 (.ld (.t 54) 1 false), zO 56 (.sc (.bin .eql 3) [(.t 55), (.c (.int .i64 3))]), zM 57 56, zG 58 57 true (.faddr (.t 9) 2), zG 59 57 true (.ld (.t 58) 1 false), zG 60 57 true (.sc (.bin .neq 9) [(.t 59), (.c (.string ⟨#[65, 78, 89]⟩))]), zO 61 (.pick (.t 57) (.t 60) (.c (.bool false))), zM 62 61, zN 63 62 true 0, zG 64 62 true (.faddr (.t 9) 2), zG 65 62 true (.ld (.t 64) 1 false), zG 66 62 true (.call 52 [(.t 63), (.t 65)]), zG 67 62 true (.sc (.bin .lss 3) [(.t 66), (.c (.int .i64 0))]), zO 68 (.pick (.t 62) (.t 67) (.c (.bool false)))]) (.cond (.t 68)
  (.seq (.ops [zO 2 (.mov (.c (.int .i64 5)))]) .ret)
  .skip)))) (.ops [zO 69 (.sc (.bin .add 3) [(.t 50), (.c (.int .i64 1))]), zM 50 69]))))))))) (.ops [zO 70 (.sc (.bin .add 3) [(.t 43), (.c (.int .i64 1))]), zM 43 70]))))))) (.seq (.ops [zO 2 (.mov (.c (.int .i64 0)))]) .ret)))))) := by kernel_rfl
def f16_k157 (x148 : Int) (c130k : Int → Option Int) (x163 : Bool) : Option Int := (bif x163 then some 5 else (c130k (wr .i64 (x148 + 1))))
def f16_k122 (x118 : Int) (c70k : Int → Option Int) : Option Int := (c70k (wr .i64 (x118 + 1)))
def f16_l130 (x125 : Form) (n : Nat) (a1 : (List Form)) (k122k : Option Int) : Nat → Int → Option Int
  | 0, _ => none
  | m130 + 1, x148 => (bif (decide (x148 < (len x125.fCols))) then ((gi x125.fCols x148).bind fun x155 => (bif (x155.fKind == 3) then (bif (!(sEqF x155.fClass (ByteArray.mk #[65, 78, 89]))) then ((f52 n a1 x155.fClass).bind fun r161 => (f16_k157 x148 (f16_l130 x125 n a1 (k122k) m130) (decide (r161 < 0)))) else (f16_k157 x148 (f16_l130 x125 n a1 (k122k) m130) false)) else (f16_k157 x148 (f16_l130 x125 n a1 (k122k) m130) false))) else (k122k))
def f16_k66 : Option Int := some 0
def f16_l70 (a1 : (List Form)) (n : Nat) (k66k : Option Int) : Nat → Int → Option Int
  | 0, _ => none
  | m70 + 1, x118 => (bif (decide (x118 < (len a1))) then ((gi a1 x118).bind fun x125 => (f16_l130 x125 n a1 (f16_k122 x118 (f16_l70 a1 n (k66k) m70)) n 0)) else (k66k))
def f16_k8 (n : Nat) (a1 : (List Form)) : Option Int := (f16_l70 a1 n (f16_k66) n 0)
def f16_l12 (a1 : (List Form)) (n : Nat) (k8k : Option Int) : Nat → Int → Option Int
  | 0, _ => none
  | m12 + 1, x39 => (bif (decide (x39 < (len a1))) then ((gi a1 x39).bind fun x46 => ((f51 n x46.fName).bind fun r49 => ((f50 n r49 4).bind fun r51 => ((sli a1 0 x39).bind fun l53 => ((f52 n l53 x46.fName).bind fun r55 => ((f50 n (decide (r55 < 0)) 6).bind fun r57 => ((f53 n x46.fCols).bind fun r59 => ((f49 n [r51, r57, r59]).bind fun r61 => (bif (r61 != 0) then some r61 else (f16_l12 a1 n (k8k) m12 (wr .i64 (x39 + 1)))))))))))) else (k8k))
def f16 (n : Nat) (a1 : (List Form)) : Option Int := (bif (decide ((len a1) > 24)) then some 3 else (f16_l12 a1 n (f16_k8 n a1) n 0))
def f16_r (r : Int) : AV := (vI r)
theorem p_f16 {n : Nat} {a1 : (List Form)} {r : Int} (h : f16 n a1 = some r) : PureSpec Try.prog 16 [(vL Form.c a1)] (f16_r r) := by
 rw [f16.eq_1] at h
 refine pure_of hmix ic16 ?_
 refine go_to (mkd (.val undef) 71 0 [(0, (vL Form.c a1))]) ?_
 refine s_so fun N2 k2 w2 => ?_
 refine o_r1 [(2, (vI 0))] ?_
 refine o_end (k2 _ ?_)
 refine s_seq fun N3 k3 w3 => ?_
 refine s_so fun N4 k4 w4 => ?_
 refine o_r1 [(10, (vL Form.c a1))] ?_
 refine o_o (one_len (f := Form.c) (l := a1)) ?_
 refine o_r1 [(12, (vB (decide ((len a1) > 24))))] ?_
 refine o_end (k4 _ ?_)
 refine i_c [12] h (fun h => ?_) (fun h => ?_)
 · refine s_so fun N7 k7 w7 => ?_
   refine o_r1 [(2, (vI 3))] ?_
   refine o_end (k7 _ ?_)
   exact c_ret (rets [] [(vI 3)] [(vI 3)] h)
 · refine c_skip (k3 _ ?_)
   refine J0 (r := r) ⟨(mkd .any 71 0 [(0, (vL Form.c a1))]), []⟩ (f16_k8 n a1) ?_ ?_
   · intro h
     rw [f16_k8.eq_1] at h
     refine J0 (r := r) ⟨(mkd .any 71 0 []), []⟩ (f16_k66) ?_ ?_
     · intro h
       rw [f16_k66.eq_1] at h
       refine s_so fun N166 k166 w166 => ?_
       refine o_r1 [(2, (vI 0))] ?_
       refine o_end (k166 _ ?_)
       exact c_ret (rets [] [(vI 0)] [(vI 0)] h)
     · intro N66 w66
       refine s_so fun N67 k67 w67 => ?_
       refine o_r1 [(41, (vL Form.c a1))] ?_
       refine o_o (one_len (f := Form.c) (l := a1)) ?_
       refine o_r1 [(43, (vI 0))] ?_
       refine o_end (k67 _ ?_)
       refine c_block fun E69 hE69 hO69 => ?_
       refine W1 (fun (x118 : Int) => ⟨(mkd .any 71 0 [(0, (vL Form.c a1)), (41, (vL Form.c a1)), (42, (vI (len a1))), (43, (vI x118))]), []⟩) (f16_l70 a1 n (f16_k66)) h (wkm [0, 41, 42, 43] wh_nil) (by intros; rw [f16_l70.eq_1]) ?_
       intro m70 x118 h N70 w70
       rw [f16_l70.eq_2] at h
       refine s_so fun N119 k119 w119 => ?_
       refine o_r1 [(44, (vB (decide (x118 < (len a1)))))] ?_
       refine o_end (k119 _ ?_)
       refine s_seq fun N120 k120 w120 => ?_
       refine i_c [44] h (fun h => ?_) (fun h => ?_)
       · refine c_skip (k120 _ ?_)
         refine J0 (r := r) ⟨(mkd .any 71 0 [(0, (vL Form.c a1)), (41, (vL Form.c a1)), (42, (vI (len a1))), (43, (vI x118))]), []⟩ (f16_k122 x118 (f16_l70 a1 n (f16_k66) m70)) ?_ ?_
         · intro h
           rw [f16_k122.eq_1] at h
           refine c_ops ?_
           refine o_r2 [(43, (vI (wr .i64 (x118 + 1)))), (70, (vI (wr .i64 (x118 + 1))))] ?_
           exact o_end (w70 _ _ (wkm [0, 41, 42, 43] wh_nil) h)
         · intro N122 w122
           refine c_block fun E123 hE123 hO123 => ?_
           refine s_so fun N124 k124 w124 => ?_
           refine bnd h fun x125 g126 h => ?_
           refine o_o (one_ia (f := Form.c) (ki := .i64) g126) ?_
           refine o_h3 [(7, (.ptr 1 0)), (46, (.agg [(vS x125.fName), (vL Col.c x125.fCols)]))] [(some (.row 93 3 (List.map Col.c []))), (some (.box 91 [(vS x125.fName), (vL Col.c x125.fCols)]))] ?_
           refine o_end (k124 _ ?_)
           refine s_so fun N127 k127 w127 => ?_
           refine o_r2 [(47, (.ptr 1 1)), (48, (vL Col.c x125.fCols))] ?_
           refine o_o (one_len (f := Col.c) (l := x125.fCols)) ?_
           refine o_r1 [(50, (vI 0))] ?_
           refine o_end (k127 _ ?_)
           refine c_block fun E129 hE129 hO129 => ?_
           refine W1 (fun (x148 : Int) => ⟨(mkd .any 71 0 [(0, (vL Form.c a1)), (41, (vL Form.c a1)), (42, (vI (len a1))), (43, (vI x118)), (48, (vL Col.c x125.fCols)), (49, (vI (len x125.fCols))), (50, (vI x148))]), []⟩) (f16_l130 x125 n a1 (f16_k122 x118 (f16_l70 a1 n (f16_k66) m70))) h (wkm [0, 41, 42, 43, 48, 49, 50] wh_nil) (by intros; rw [f16_l130.eq_1]) ?_
           intro m130 x148 h N130 w130
           rw [f16_l130.eq_2] at h
           refine s_so fun N149 k149 w149 => ?_
           refine o_r1 [(51, (vB (decide (x148 < (len x125.fCols)))))] ?_
           refine o_end (k149 _ ?_)
           refine s_seq fun N150 k150 w150 => ?_
           refine i_c [51] h (fun h => ?_) (fun h => ?_)
           · refine c_skip (k150 _ ?_)
             refine s_seq fun N152 k152 w152 => ?_
             refine c_block fun E153 hE153 hO153 => ?_
             refine s_so fun N154 k154 w154 => ?_
             refine bnd h fun x155 g156 h => ?_
             refine o_o (one_ia (f := Col.c) (ki := .i64) g156) ?_
             refine o_h3 [(9, (.ptr 0 0)), (53, (.agg [(vS x155.fName), (vI x155.fKind), (vS x155.fClass)]))] [(some (.box 93 [(vS x155.fName), (vI x155.fKind), (vS x155.fClass)]))] ?_
             refine o_end (k154 _ ?_)
             refine J1 (r := r) (fun (x163 : Bool) => ⟨(mkd .any 71 0 [(0, (vL Form.c a1)), (41, (vL Form.c a1)), (42, (vI (len a1))), (43, (vI x118)), (48, (vL Col.c x125.fCols)), (49, (vI (len x125.fCols))), (50, (vI x148)), (68, (vB x163))]), []⟩) (f16_k157 x148 (f16_l130 x125 n a1 (f16_k122 x118 (f16_l70 a1 n (f16_k66) m70)) m130)) ?_ ?_
             · intro x163 h
               rw [f16_k157.eq_1] at h
               refine i_c [68] h (fun h => ?_) (fun h => ?_)
               · refine s_so fun N165 k165 w165 => ?_
                 refine o_r1 [(2, (vI 5))] ?_
                 refine o_end (k165 _ ?_)
                 exact c_ret (rets [] [(vI 5)] [(vI 5)] h)
               · refine c_skip (k152 _ ?_)
                 refine c_ops ?_
                 refine o_r2 [(50, (vI (wr .i64 (x148 + 1)))), (69, (vI (wr .i64 (x148 + 1))))] ?_
                 exact o_end (w130 _ _ (wkm [0, 41, 42, 43, 48, 49, 50] wh_nil) h)
             · intro N157 w157
               refine c_ops ?_
               refine o_r4 [(54, (.ptr 0 1)), (55, (vI x155.fKind)), (56, (vB (x155.fKind == 3))), (57, (vB (x155.fKind == 3)))] ?_
               refine i_o [56, 57] h (fun h => ?_) (fun h => ?_)
               · refine o_r2 [(58, (.ptr 0 2)), (59, (vS x155.fClass))] ?_
                 refine o_g ?_
                 refine o_o (one_sc (vs := [.string x155.fClass, .string (ByteArray.mk #[65, 78, 89])]) (str_neq x155.fClass (ByteArray.mk #[65, 78, 89]))) ?_
                 refine o_r2 [(61, (vB (!(sEqF x155.fClass (ByteArray.mk #[65, 78, 89]))))), (62, (vB (!(sEqF x155.fClass (ByteArray.mk #[65, 78, 89])))))] ?_
                 refine i_o [60, 61, 62] h (fun h => ?_) (fun h => ?_)
                 · refine o_r3 [(63, (vL Form.c a1)), (64, (.ptr 0 2)), (65, (vS x155.fClass))] ?_
                   refine bnd h fun r161 g162 h => ?_
                   refine o_g ?_
                   refine o_o (one_call (p_f52 g162)) ?_
                   refine o_r2 [(67, (vB (decide (r161 < 0)))), (68, (vB (decide (r161 < 0))))] ?_
                   refine s_tm (mkd .any 71 0 [(0, (vL Form.c a1)), (9, (.ptr 0 0)), (41, (vL Form.c a1)), (42, (vI (len a1))), (43, (vI x118)), (48, (vL Col.c x125.fCols)), (49, (vI (len x125.fCols))), (50, (vI x148)), (51, (vB true)), (52, (.iptr [(vS x155.fName), (vI x155.fKind), (vS x155.fClass)])), (53, (.agg [(vS x155.fName), (vI x155.fKind), (vS x155.fClass)])), (54, (.ptr 0 1)), (55, (vI x155.fKind)), (56, (vB true)), (57, (vB true)), (58, (.ptr 0 2)), (59, (vS x155.fClass)), (60, (vB true)), (61, (vB true)), (62, (vB true)), (63, (vL Form.c a1)), (64, (.ptr 0 2)), (65, (vS x155.fClass)), (66, (vI r161)), (67, (vB (decide (r161 < 0)))), (68, (vB (decide (r161 < 0))))]) ?_
                   exact o_end (w157 _ _ (wkm [0, 41, 42, 43, 48, 49, 50, 68] wh_nil) h)
                 · refine o_r6 [(63, (.val undef)), (64, (.val undef)), (65, (.val undef)), (66, (.val undef)), (67, (.val undef)), (68, (vB false))] ?_
                   exact o_end (w157 _ _ (wkm [0, 41, 42, 43, 48, 49, 50, 68] wh_nil) h)
               · refine o_r11 [(58, (.val undef)), (59, (.val undef)), (60, (.val undef)), (61, (vB false)), (62, (vB false)), (63, (.val undef)), (64, (.val undef)), (65, (.val undef)), (66, (.val undef)), (67, (.val undef)), (68, (vB false))] ?_
                 exact o_end (w157 _ _ (wkm [0, 41, 42, 43, 48, 49, 50, 68] wh_nil) h)
           · refine c_exit (hE129 _ ?_)
             exact w122 _ (wkm [0, 41, 42, 43] wh_nil) h
       · refine c_exit (hE69 _ ?_)
         exact w66 _ (wkm [] wh_nil) h
   · intro N8 w8
     refine s_so fun N9 k9 w9 => ?_
     refine o_r1 [(13, (vL Form.c a1))] ?_
     refine o_o (one_len (f := Form.c) (l := a1)) ?_
     refine o_r1 [(15, (vI 0))] ?_
     refine o_end (k9 _ ?_)
     refine c_block fun E11 hE11 hO11 => ?_
     refine W1 (fun (x39 : Int) => ⟨(mkd .any 71 0 [(0, (vL Form.c a1)), (13, (vL Form.c a1)), (14, (vI (len a1))), (15, (vI x39))]), []⟩) (f16_l12 a1 n (f16_k8 n a1)) h (wkm [0, 13, 14, 15] wh_nil) (by intros; rw [f16_l12.eq_1]) ?_
     intro m12 x39 h N12 w12
     rw [f16_l12.eq_2] at h
     refine s_so fun N40 k40 w40 => ?_
     refine o_r1 [(16, (vB (decide (x39 < (len a1)))))] ?_
     refine o_end (k40 _ ?_)
     refine s_seq fun N41 k41 w41 => ?_
     refine i_c [16] h (fun h => ?_) (fun h => ?_)
     · refine c_skip (k41 _ ?_)
       refine s_seq fun N43 k43 w43 => ?_
       refine c_block fun E44 hE44 hO44 => ?_
       refine s_so fun N45 k45 w45 => ?_
       refine o_r1 [(17, (vI x39))] ?_
       refine bnd h fun x46 g47 h => ?_
       refine o_o (one_ia (f := Form.c) (ki := .i64) g47) ?_
       refine o_h4 [(3, (vI x39)), (4, (.ptr 1 0)), (19, (.agg [(vS x46.fName), (vL Col.c x46.fCols)]))] [(some (.row 93 3 (List.map Col.c []))), (some (.box 91 [(vS x46.fName), (vL Col.c x46.fCols)]))] ?_
       refine o_end (k45 _ ?_)
       refine s_seq fun N48 k48 w48 => ?_
       refine c_draw0 ?_
       refine d_r2 [(20, (.ptr 1 0)), (21, (vS x46.fName))] ?_
       refine bnd h fun r49 g50 h => ?_
       refine d_o (one_call (p_f51 g50)) ?_
       refine bnd h fun r51 g52 h => ?_
       refine d_o (one_call (p_f50 g52)) ?_
       refine d_r2 [(24, (vL Form.c a1)), (25, (vI x39))] ?_
       refine bnd h fun l53 g54 h => ?_
       refine d_o (one_lsl (f := Form.c) g54 (fun _ => rfl)) ?_
       refine d_r2 [(27, (.ptr 1 0)), (28, (vS x46.fName))] ?_
       refine bnd h fun r55 g56 h => ?_
       refine d_o (one_call (p_f52 g56)) ?_
       refine d_r1 [(30, (vB (decide (r55 < 0))))] ?_
       refine t_tm (mkd .any 71 0 [(0, (vL Form.c a1)), (3, (vI x39)), (4, (.ptr 1 0)), (13, (vL Form.c a1)), (14, (vI (len a1))), (15, (vI x39)), (16, (vB true)), (17, (vI x39)), (18, (.iptr [(vS x46.fName), (vL Col.c x46.fCols)])), (19, (.agg [(vS x46.fName), (vL Col.c x46.fCols)])), (20, (.ptr 1 0)), (21, (vS x46.fName)), (22, (vB r49)), (23, (vI r51)), (24, (vL Form.c a1)), (25, (vI x39)), (26, (vL Form.c l53)), (27, (.ptr 1 0)), (28, (vS x46.fName)), (29, (vI r55)), (30, (vB (decide (r55 < 0))))]) ?_
       refine bnd h fun r57 g58 h => ?_
       refine d_o (one_call (p_f50 g58)) ?_
       refine d_r2 [(32, (.ptr 1 1)), (33, (vL Col.c x46.fCols))] ?_
       refine bnd h fun r59 g60 h => ?_
       refine d_o (one_call (p_f53 g60)) ?_
       refine d_r1 [(35, (vL cI [r51, r57, r59]))] ?_
       refine bnd h fun r61 g62 h => ?_
       refine d_o (one_call (p_f49 g62)) ?_
       refine d_r1 [(5, (vI r61))] ?_
       refine d_end (w48 _ ⟨(mkd .any 71 0 [(0, (vL Form.c a1)), (5, (vI r61)), (13, (vL Form.c a1)), (14, (vI (len a1))), (15, (vI x39))]), []⟩ (wkm [0, 5, 13, 14, 15] wh_nil) ?_)
       refine s_so fun N63 k63 w63 => ?_
       refine o_r2 [(37, (vI r61)), (38, (vB (r61 != 0)))] ?_
       refine o_end (k63 _ ?_)
       refine i_c [38] h (fun h => ?_) (fun h => ?_)
       · refine s_so fun N65 k65 w65 => ?_
         refine o_r2 [(2, (vI r61)), (39, (vI r61))] ?_
         refine o_end (k65 _ ?_)
         exact c_ret (rets [] [(vI r61)] [(vI r61)] h)
       · refine c_skip (k43 _ ?_)
         refine c_ops ?_
         refine o_r2 [(15, (vI (wr .i64 (x39 + 1)))), (40, (vI (wr .i64 (x39 + 1))))] ?_
         exact o_end (w12 _ _ (wkm [0, 13, 14, 15] wh_nil) h)
     · refine c_exit (hE11 _ ?_)
       exact w8 _ (wkm [0] wh_nil) h
theorem ic130 : fnIC Try.prog H0 130 = some ([.tmp 0], 2, (.seq (.ops [zO 0 (.nil 0 9 1)]) (.seq (.ops [zO 1 (.isl 1 [(.c (.string ⟨#[58, 61]⟩)), (.c (.string ⟨#[47, 61]⟩)), (.c (.string ⟨#[60, 61]⟩)), (.c (.string ⟨#[62, 61]⟩)), (.c (.string ⟨#[47, 47]⟩)), (.c (.string ⟨#[61]⟩)), (.c (.string ⟨#[60]⟩)), (.c (.string ⟨#[62]⟩)), (.c (.string ⟨#[43]⟩)), (.c (.string ⟨#[45]⟩)), (.c (.string ⟨#[42]⟩)), (.c (.string ⟨#[37]⟩)), (.c (.string ⟨#[40]⟩)), (.c (.string ⟨#[41]⟩)), (.c (.string ⟨#[91]⟩)), (.c (.string ⟨#[93]⟩)), (.c (.string ⟨#[123]⟩)), (.c (.string ⟨#[125]⟩)), (.c (.string ⟨#[44]⟩)), (.c (.string ⟨#[59]⟩)), (.c (.string ⟨#[58]⟩)), (.c (.string ⟨#[46]⟩))]), zM 0 1]) .ret))) := by kernel_rfl
def f130 (n : Nat) : Option (List ByteArray) := some [(ByteArray.mk #[58, 61]), (ByteArray.mk #[47, 61]), (ByteArray.mk #[60, 61]), (ByteArray.mk #[62, 61]), (ByteArray.mk #[47, 47]), (ByteArray.mk #[61]), (ByteArray.mk #[60]), (ByteArray.mk #[62]), (ByteArray.mk #[43]), (ByteArray.mk #[45]), (ByteArray.mk #[42]), (ByteArray.mk #[37]), (ByteArray.mk #[40]), (ByteArray.mk #[41]), (ByteArray.mk #[91]), (ByteArray.mk #[93]), (ByteArray.mk #[123]), (ByteArray.mk #[125]), (ByteArray.mk #[44]), (ByteArray.mk #[59]), (ByteArray.mk #[58]), (ByteArray.mk #[46])]
def f130_r (r : (List ByteArray)) : AV := (vL cS r)
theorem p_f130 {n : Nat} {r : (List ByteArray)} (h : f130 n = some r) : PureSpec Try.prog 130 [] (f130_r r) := by
 rw [f130.eq_1] at h
 refine pure_of hmix ic130 ?_
 refine go_to (mkd (.val undef) 2 0 []) ?_
 refine s_so fun N1 k1 w1 => ?_
 refine o_h1 [(0, (.own 0 0))] [(some (.row 9 1 (List.map cS [])))] ?_
 refine o_end (k1 _ ?_)
 refine s_so fun N2 k2 w2 => ?_
 refine o_r2 [(0, (vL cS [(ByteArray.mk #[58, 61]), (ByteArray.mk #[47, 61]), (ByteArray.mk #[60, 61]), (ByteArray.mk #[62, 61]), (ByteArray.mk #[47, 47]), (ByteArray.mk #[61]), (ByteArray.mk #[60]), (ByteArray.mk #[62]), (ByteArray.mk #[43]), (ByteArray.mk #[45]), (ByteArray.mk #[42]), (ByteArray.mk #[37]), (ByteArray.mk #[40]), (ByteArray.mk #[41]), (ByteArray.mk #[91]), (ByteArray.mk #[93]), (ByteArray.mk #[123]), (ByteArray.mk #[125]), (ByteArray.mk #[44]), (ByteArray.mk #[59]), (ByteArray.mk #[58]), (ByteArray.mk #[46])])), (1, (vL cS [(ByteArray.mk #[58, 61]), (ByteArray.mk #[47, 61]), (ByteArray.mk #[60, 61]), (ByteArray.mk #[62, 61]), (ByteArray.mk #[47, 47]), (ByteArray.mk #[61]), (ByteArray.mk #[60]), (ByteArray.mk #[62]), (ByteArray.mk #[43]), (ByteArray.mk #[45]), (ByteArray.mk #[42]), (ByteArray.mk #[37]), (ByteArray.mk #[40]), (ByteArray.mk #[41]), (ByteArray.mk #[91]), (ByteArray.mk #[93]), (ByteArray.mk #[123]), (ByteArray.mk #[125]), (ByteArray.mk #[44]), (ByteArray.mk #[59]), (ByteArray.mk #[58]), (ByteArray.mk #[46])]))] ?_
 refine o_end (k2 _ ?_)
 exact c_ret (rets [] [(vL cS [(ByteArray.mk #[58, 61]), (ByteArray.mk #[47, 61]), (ByteArray.mk #[60, 61]), (ByteArray.mk #[62, 61]), (ByteArray.mk #[47, 47]), (ByteArray.mk #[61]), (ByteArray.mk #[60]), (ByteArray.mk #[62]), (ByteArray.mk #[43]), (ByteArray.mk #[45]), (ByteArray.mk #[42]), (ByteArray.mk #[37]), (ByteArray.mk #[40]), (ByteArray.mk #[41]), (ByteArray.mk #[91]), (ByteArray.mk #[93]), (ByteArray.mk #[123]), (ByteArray.mk #[125]), (ByteArray.mk #[44]), (ByteArray.mk #[59]), (ByteArray.mk #[58]), (ByteArray.mk #[46])])] [(vL cS [(ByteArray.mk #[58, 61]), (ByteArray.mk #[47, 61]), (ByteArray.mk #[60, 61]), (ByteArray.mk #[62, 61]), (ByteArray.mk #[47, 47]), (ByteArray.mk #[61]), (ByteArray.mk #[60]), (ByteArray.mk #[62]), (ByteArray.mk #[43]), (ByteArray.mk #[45]), (ByteArray.mk #[42]), (ByteArray.mk #[37]), (ByteArray.mk #[40]), (ByteArray.mk #[41]), (ByteArray.mk #[91]), (ByteArray.mk #[93]), (ByteArray.mk #[123]), (ByteArray.mk #[125]), (ByteArray.mk #[44]), (ByteArray.mk #[59]), (ByteArray.mk #[58]), (ByteArray.mk #[46])])] h)
theorem ic129 : fnIC Try.prog H0 129 = some ([.tmp 4], 18, (.seq (.ops [zO 4 (.mov (.c (.bool false)))]) (.seq (.seq (.ops [zO 5 (.mov (.c (.int .i64 0)))]) (.block 0 (.loop (.seq (.seq (.ops [zM 6 5, zM 7 0, zO 8 (.len false (.t 7)), zO 9 (.sc (.bin .lss 3) [(.t 6), (.t 8)])]) (.cond (.t 9)
  .skip
  (.exit 0))) (.seq (.block 1 (.seq (.ops [zM 12 0, zM 13 5, zO 14 (.iaddr 1 (.t 12) (.t 13)), zO 15 (.ld (.t 14) 1 false), zM 16 1, zO 17 (.sc (.bin .eql 9) [(.t 15), (.t 16)])]) (.cond (.t 17)
  (.seq (.ops [zO 4 (.mov (.c (.bool true)))]) .ret)
  .skip))) (.ops [zM 10 5, zO 11 (.sc (.bin .add 3) [(.t 10), (.c (.int .i64 1))]), zM 5 11])))))) (.seq (.ops [zO 4 (.mov (.c (.bool false)))]) .ret)))) := by kernel_rfl
def f129_k4 : Option Bool := some false
def f129_l7 (a1 : (List ByteArray)) (a2 : ByteArray) (k4k : Option Bool) : Nat → Int → Option Bool
  | 0, _ => none
  | m7 + 1, x20 => (bif (decide (x20 < (len a1))) then ((gi a1 x20).bind fun x28 => (bif (sEqF x28 a2) then some true else (f129_l7 a1 a2 (k4k) m7 (wr .i64 (x20 + 1))))) else (k4k))
def f129 (n : Nat) (a1 : (List ByteArray)) (a2 : ByteArray) : Option Bool := (f129_l7 a1 a2 (f129_k4) n 0)
def f129_r (r : Bool) : AV := (vB r)
theorem p_f129 {n : Nat} {a1 : (List ByteArray)} {a2 : ByteArray} {r : Bool} (h : f129 n a1 a2 = some r) : PureSpec Try.prog 129 [(vL cS a1), (vS a2)] (f129_r r) := by
 rw [f129.eq_1] at h
 refine pure_of hmix ic129 ?_
 refine go_to (mkd (.val undef) 18 0 [(0, (vL cS a1)), (1, (vS a2))]) ?_
 refine s_so fun N3 k3 w3 => ?_
 refine o_r1 [(4, (vB false))] ?_
 refine o_end (k3 _ ?_)
 refine J0 (r := r) ⟨(mkd .any 18 0 []), []⟩ (f129_k4) ?_ ?_
 · intro h
   rw [f129_k4.eq_1] at h
   refine s_so fun N33 k33 w33 => ?_
   refine o_r1 [(4, (vB false))] ?_
   refine o_end (k33 _ ?_)
   exact c_ret (rets [] [(vB false)] [(vB false)] h)
 · intro N4 w4
   refine s_so fun N5 k5 w5 => ?_
   refine o_r1 [(5, (vI 0))] ?_
   refine o_end (k5 _ ?_)
   refine c_block fun E6 hE6 hO6 => ?_
   refine W1 (fun (x20 : Int) => ⟨(mkd .any 18 0 [(0, (vL cS a1)), (1, (vS a2)), (5, (vI x20))]), []⟩) (f129_l7 a1 a2 (f129_k4)) h (wkm [0, 1, 5] wh_nil) (by intros; rw [f129_l7.eq_1]) ?_
   intro m7 x20 h N7 w7
   rw [f129_l7.eq_2] at h
   refine s_seq fun N21 k21 w21 => ?_
   refine s_so fun N22 k22 w22 => ?_
   refine o_r2 [(6, (vI x20)), (7, (vL cS a1))] ?_
   refine o_o (one_len (f := cS) (l := a1)) ?_
   refine o_r1 [(9, (vB (decide (x20 < (len a1)))))] ?_
   refine o_end (k22 _ ?_)
   refine i_c [9] h (fun h => ?_) (fun h => ?_)
   · refine c_skip (k21 _ ?_)
     refine s_seq fun N25 k25 w25 => ?_
     refine c_block fun E26 hE26 hO26 => ?_
     refine s_so fun N27 k27 w27 => ?_
     refine o_r2 [(12, (vL cS a1)), (13, (vI x20))] ?_
     refine bnd h fun x28 g29 h => ?_
     refine o_o (one_ia (f := cS) (ki := .i64) g29) ?_
     refine o_r2 [(15, (vS x28)), (16, (vS a2))] ?_
     refine o_o (one_sc (vs := [.string x28, .string a2]) (str_eql x28 a2)) ?_
     refine o_end (k27 _ ?_)
     refine i_c [17] h (fun h => ?_) (fun h => ?_)
     · refine s_so fun N32 k32 w32 => ?_
       refine o_r1 [(4, (vB true))] ?_
       refine o_end (k32 _ ?_)
       exact c_ret (rets [] [(vB true)] [(vB true)] h)
     · refine c_skip (k25 _ ?_)
       refine c_ops ?_
       refine o_r3 [(5, (vI (wr .i64 (x20 + 1)))), (10, (vI x20)), (11, (vI (wr .i64 (x20 + 1))))] ?_
       exact o_end (w7 _ _ (wkm [0, 1, 5] wh_nil) h)
   · refine c_exit (hE6 _ ?_)
     exact w4 _ (wkm [] wh_nil) h
theorem ic148 : fnIC Try.prog H0 148 = some ([.tmp 2], 9, (.seq (.ops [zO 2 (.mov (.c (.bool false)))]) (.seq (.ops [zM 3 0, zO 4 (.sc (.bin .geq 5) [(.t 3), (.c (.int .u8 97))]), zM 5 4, zN 6 5 true 0, zG 7 5 true (.sc (.bin .leq 5) [(.t 6), (.c (.int .u8 122))]), zO 8 (.pick (.t 5) (.t 7) (.c (.bool false))), zM 2 8]) .ret))) := by kernel_rfl
def f148_k3 (x5 : Bool) : Option Bool := some x5
def f148 (n : Nat) (a1 : Int) : Option Bool := (bif (decide (a1 ≥ 97)) then (f148_k3 (decide (a1 ≤ 122))) else (f148_k3 false))
def f148_r (r : Bool) : AV := (vB r)
theorem p_f148 {n : Nat} {a1 : Int} {r : Bool} (h : f148 n a1 = some r) : PureSpec Try.prog 148 [(vKi .u8 a1)] (f148_r r) := by
 rw [f148.eq_1] at h
 refine pure_of hmix ic148 ?_
 refine go_to (mkd (.val undef) 9 0 [(0, (vKi .u8 a1))]) ?_
 refine s_so fun N2 k2 w2 => ?_
 refine o_r1 [(2, (vB false))] ?_
 refine o_end (k2 _ ?_)
 refine J1 (r := r) (fun (x5 : Bool) => ⟨(mkd .any 9 0 [(2, (vB x5))]), []⟩) (f148_k3) ?_ ?_
 · intro x5 h
   rw [f148_k3.eq_1] at h
   exact c_ret (rets [] [(vB x5)] [(vB x5)] h)
 · intro N3 w3
   refine c_ops ?_
   refine o_r3 [(3, (vKi .u8 a1)), (4, (vB (decide (a1 ≥ 97)))), (5, (vB (decide (a1 ≥ 97))))] ?_
   refine i_o [4, 5] h (fun h => ?_) (fun h => ?_)
   · refine o_r4 [(2, (vB (decide (a1 ≤ 122)))), (6, (vKi .u8 a1)), (7, (vB (decide (a1 ≤ 122)))), (8, (vB (decide (a1 ≤ 122))))] ?_
     exact o_end (w3 _ _ (wkm [2] wh_nil) h)
   · refine o_r4 [(6, (.val undef)), (7, (.val undef)), (8, (vB false))] ?_
     exact o_end (w3 _ _ (wkm [2] wh_nil) h)
theorem ic149 : fnIC Try.prog H0 149 = some ([.tmp 2], 9, (.seq (.ops [zO 2 (.mov (.c (.bool false)))]) (.seq (.ops [zM 3 0, zO 4 (.sc (.bin .geq 5) [(.t 3), (.c (.int .u8 65))]), zM 5 4, zN 6 5 true 0, zG 7 5 true (.sc (.bin .leq 5) [(.t 6), (.c (.int .u8 90))]), zO 8 (.pick (.t 5) (.t 7) (.c (.bool false))), zM 2 8]) .ret))) := by kernel_rfl
def f149_k3 (x5 : Bool) : Option Bool := some x5
def f149 (n : Nat) (a1 : Int) : Option Bool := (bif (decide (a1 ≥ 65)) then (f149_k3 (decide (a1 ≤ 90))) else (f149_k3 false))
def f149_r (r : Bool) : AV := (vB r)
theorem p_f149 {n : Nat} {a1 : Int} {r : Bool} (h : f149 n a1 = some r) : PureSpec Try.prog 149 [(vKi .u8 a1)] (f149_r r) := by
 rw [f149.eq_1] at h
 refine pure_of hmix ic149 ?_
 refine go_to (mkd (.val undef) 9 0 [(0, (vKi .u8 a1))]) ?_
 refine s_so fun N2 k2 w2 => ?_
 refine o_r1 [(2, (vB false))] ?_
 refine o_end (k2 _ ?_)
 refine J1 (r := r) (fun (x5 : Bool) => ⟨(mkd .any 9 0 [(2, (vB x5))]), []⟩) (f149_k3) ?_ ?_
 · intro x5 h
   rw [f149_k3.eq_1] at h
   exact c_ret (rets [] [(vB x5)] [(vB x5)] h)
 · intro N3 w3
   refine c_ops ?_
   refine o_r3 [(3, (vKi .u8 a1)), (4, (vB (decide (a1 ≥ 65)))), (5, (vB (decide (a1 ≥ 65))))] ?_
   refine i_o [4, 5] h (fun h => ?_) (fun h => ?_)
   · refine o_r4 [(2, (vB (decide (a1 ≤ 90)))), (6, (vKi .u8 a1)), (7, (vB (decide (a1 ≤ 90)))), (8, (vB (decide (a1 ≤ 90))))] ?_
     exact o_end (w3 _ _ (wkm [2] wh_nil) h)
   · refine o_r4 [(6, (.val undef)), (7, (.val undef)), (8, (vB false))] ?_
     exact o_end (w3 _ _ (wkm [2] wh_nil) h)
theorem ic132 : fnIC Try.prog H0 132 = some ([.tmp 2], 9, (.seq (.ops [zO 2 (.mov (.c (.bool false)))]) (.seq (.ops [zM 3 0, zO 4 (.sc (.bin .geq 5) [(.t 3), (.c (.int .u8 48))]), zM 5 4, zN 6 5 true 0, zG 7 5 true (.sc (.bin .leq 5) [(.t 6), (.c (.int .u8 57))]), zO 8 (.pick (.t 5) (.t 7) (.c (.bool false))), zM 2 8]) .ret))) := by kernel_rfl
def f132_k3 (x5 : Bool) : Option Bool := some x5
def f132 (n : Nat) (a1 : Int) : Option Bool := (bif (decide (a1 ≥ 48)) then (f132_k3 (decide (a1 ≤ 57))) else (f132_k3 false))
def f132_r (r : Bool) : AV := (vB r)
theorem p_f132 {n : Nat} {a1 : Int} {r : Bool} (h : f132 n a1 = some r) : PureSpec Try.prog 132 [(vKi .u8 a1)] (f132_r r) := by
 rw [f132.eq_1] at h
 refine pure_of hmix ic132 ?_
 refine go_to (mkd (.val undef) 9 0 [(0, (vKi .u8 a1))]) ?_
 refine s_so fun N2 k2 w2 => ?_
 refine o_r1 [(2, (vB false))] ?_
 refine o_end (k2 _ ?_)
 refine J1 (r := r) (fun (x5 : Bool) => ⟨(mkd .any 9 0 [(2, (vB x5))]), []⟩) (f132_k3) ?_ ?_
 · intro x5 h
   rw [f132_k3.eq_1] at h
   exact c_ret (rets [] [(vB x5)] [(vB x5)] h)
 · intro N3 w3
   refine c_ops ?_
   refine o_r3 [(3, (vKi .u8 a1)), (4, (vB (decide (a1 ≥ 48)))), (5, (vB (decide (a1 ≥ 48))))] ?_
   refine i_o [4, 5] h (fun h => ?_) (fun h => ?_)
   · refine o_r4 [(2, (vB (decide (a1 ≤ 57)))), (6, (vKi .u8 a1)), (7, (vB (decide (a1 ≤ 57)))), (8, (vB (decide (a1 ≤ 57))))] ?_
     exact o_end (w3 _ _ (wkm [2] wh_nil) h)
   · refine o_r4 [(6, (.val undef)), (7, (.val undef)), (8, (vB false))] ?_
     exact o_end (w3 _ _ (wkm [2] wh_nil) h)
theorem ic146 : fnIC Try.prog H0 146 = some ([.tmp 2], 17, (.seq (.ops [zO 2 (.mov (.c (.bool false)))]) (.seq (.ops [zM 3 0, zO 4 (.call 148 [(.t 3)]), zM 5 4, zN 6 5 false 0, zG 7 5 false (.call 149 [(.t 6)]), zO 8 (.pick (.t 5) (.c (.bool true)) (.t 7)), zM 9 8, zN 10 9 false 0, zG 11 9 false (.call 132 [(.t 10)]), zO 12 (.pick (.t 9) (.c (.bool true)) (.t 11)), zM 13 12, zN 14 13 false 0, zG 15 13 false (.sc (.bin .eql 5) [(.t 14), (.c (.int .u8 95))]), zO 16 (.pick (.t 13) (.c (.bool true)) (.t 15)), zM 2 16]) .ret))) := by kernel_rfl
def f146_k3 (x13 : Bool) : Option Bool := some x13
def f146 (n : Nat) (a1 : Int) : Option Bool := ((f148 n a1).bind fun r4 => (bif r4 then (f146_k3 true) else ((f149 n a1).bind fun r7 => (bif r7 then (f146_k3 true) else ((f132 n a1).bind fun r10 => (bif r10 then (f146_k3 true) else (f146_k3 (a1 == 95))))))))
def f146_r (r : Bool) : AV := (vB r)
theorem p_f146 {n : Nat} {a1 : Int} {r : Bool} (h : f146 n a1 = some r) : PureSpec Try.prog 146 [(vKi .u8 a1)] (f146_r r) := by
 rw [f146.eq_1] at h
 refine pure_of hmix ic146 ?_
 refine go_to (mkd (.val undef) 17 0 [(0, (vKi .u8 a1))]) ?_
 refine s_so fun N2 k2 w2 => ?_
 refine o_r1 [(2, (vB false))] ?_
 refine o_end (k2 _ ?_)
 refine J1 (r := r) (fun (x13 : Bool) => ⟨(mkd .any 17 0 [(2, (vB x13))]), []⟩) (f146_k3) ?_ ?_
 · intro x13 h
   rw [f146_k3.eq_1] at h
   exact c_ret (rets [] [(vB x13)] [(vB x13)] h)
 · intro N3 w3
   refine c_ops ?_
   refine o_r1 [(3, (vKi .u8 a1))] ?_
   refine bnd h fun r4 g5 h => ?_
   refine o_o (one_call (p_f148 g5)) ?_
   refine o_r1 [(5, (vB r4))] ?_
   refine i_o [4, 5] h (fun h => ?_) (fun h => ?_)
   · refine o_r12 [(2, (vB true)), (6, (.val undef)), (7, (.val undef)), (8, (vB true)), (9, (vB true)), (10, (.val undef)), (11, (.val undef)), (12, (vB true)), (13, (vB true)), (14, (.val undef)), (15, (.val undef)), (16, (vB true))] ?_
     exact o_end (w3 _ _ (wkm [2] wh_nil) h)
   · refine o_r1 [(6, (vKi .u8 a1))] ?_
     refine bnd h fun r7 g8 h => ?_
     refine o_g ?_
     refine o_o (one_call (p_f149 g8)) ?_
     refine o_r2 [(8, (vB r7)), (9, (vB r7))] ?_
     refine i_o [7, 8, 9] h (fun h => ?_) (fun h => ?_)
     · refine o_r8 [(2, (vB true)), (10, (.val undef)), (11, (.val undef)), (12, (vB true)), (13, (vB true)), (14, (.val undef)), (15, (.val undef)), (16, (vB true))] ?_
       exact o_end (w3 _ _ (wkm [2] wh_nil) h)
     · refine o_r1 [(10, (vKi .u8 a1))] ?_
       refine bnd h fun r10 g11 h => ?_
       refine o_g ?_
       refine o_o (one_call (p_f132 g11)) ?_
       refine o_r2 [(12, (vB r10)), (13, (vB r10))] ?_
       refine s_tm (mkd (.val undef) 17 0 [(0, (vKi .u8 a1)), (2, (vB false)), (3, (vKi .u8 a1)), (4, (vB false)), (5, (vB false)), (6, (vKi .u8 a1)), (7, (vB false)), (8, (vB false)), (9, (vB false)), (10, (vKi .u8 a1)), (11, (vB r10)), (12, (vB r10)), (13, (vB r10))]) ?_
       refine i_o [11, 12, 13] h (fun h => ?_) (fun h => ?_)
       · refine o_r4 [(2, (vB true)), (14, (.val undef)), (15, (.val undef)), (16, (vB true))] ?_
         exact o_end (w3 _ _ (wkm [2] wh_nil) h)
       · refine o_r4 [(2, (vB (a1 == 95))), (14, (vKi .u8 a1)), (15, (vB (a1 == 95))), (16, (vB (a1 == 95)))] ?_
         exact o_end (w3 _ _ (wkm [2] wh_nil) h)
theorem ic131 : fnIC Try.prog H0 131 = some ([.tmp 4], 23, (.seq (.ops [zO 4 (.mov (.c (.int .i64 0)))]) (.seq (.ops [zO 5 (.mov (.c (.int .i64 0)))]) (.seq (.block 0 (.loop (.seq (.seq (.ops [zM 6 1, zM 7 5, zO 8 (.sc (.bin .add 3) [(.t 6), (.t 7)]), zM 9 0, zO 10 (.len true (.t 9)), zO 11 (.sc (.bin .lss 3) [(.t 8), (.t 10)]), zM 12 11, zN 13 12 true 0, zN 14 12 true 1, zN 15 12 true 5, zG 16 12 true (.sc (.bin .add 3) [(.t 14), (.t 15)]), zG 17 12 true (.sc (.idx 9) [(.t 13), (.t 16)]), zG 18 12 true (.call 146 [(.t 17)]), zO 19 (.pick (.t 12) (.t 18) (.c (.bool false)))]) (.cond (.t 19)
  .skip
  (.exit 0))) (.block 1 (.ops [zM 20 5, zO 21 (.sc (.bin .add 3) [(.t 20), (.c (.int .i64 1))]), zM 5 21]))))) (.seq (.ops [zM 22 5, zM 4 22]) .ret))))) := by kernel_rfl
def f131_k5 (x29 : Int) : Option Int := some x29
def f131_k20 (x18 : Int) (c7k : Int → Option Int) (k5k : Int → Option Int) (x26 : Bool) : Option Int := (bif x26 then (c7k (wr .i64 (x18 + 1))) else (k5k x18))
def f131_l7 (a2 : Int) (a1 : ByteArray) (n : Nat) (k5k : Int → Option Int) : Nat → Int → Option Int
  | 0, _ => none
  | m7 + 1, x18 => (bif (decide ((wr .i64 (a2 + x18)) < (bsz a1))) then ((si a1 (wr .i64 (a2 + x18))).bind fun c22 => ((f146 n c22).bind fun r24 => (f131_k20 x18 (f131_l7 a2 a1 n (k5k) m7) (k5k) r24))) else (f131_k20 x18 (f131_l7 a2 a1 n (k5k) m7) (k5k) false))
def f131 (n : Nat) (a1 : ByteArray) (a2 : Int) : Option Int := (f131_l7 a2 a1 n (f131_k5) n 0)
def f131_r (r : Int) : AV := (vI r)
theorem p_f131 {n : Nat} {a1 : ByteArray} {a2 : Int} {r : Int} (h : f131 n a1 a2 = some r) : PureSpec Try.prog 131 [(vS a1), (vI a2)] (f131_r r) := by
 rw [f131.eq_1] at h
 refine pure_of hmix ic131 ?_
 refine go_to (mkd (.val undef) 23 0 [(0, (vS a1)), (1, (vI a2))]) ?_
 refine s_so fun N3 k3 w3 => ?_
 refine o_r1 [(4, (vI 0))] ?_
 refine o_end (k3 _ ?_)
 refine s_so fun N4 k4 w4 => ?_
 refine o_r1 [(5, (vI 0))] ?_
 refine o_end (k4 _ ?_)
 refine J1 (r := r) (fun (x29 : Int) => ⟨(mkd .any 23 0 [(5, (vI x29))]), []⟩) (f131_k5) ?_ ?_
 · intro x29 h
   rw [f131_k5.eq_1] at h
   refine s_so fun N30 k30 w30 => ?_
   refine o_r2 [(4, (vI x29)), (22, (vI x29))] ?_
   refine o_end (k30 _ ?_)
   exact c_ret (rets [] [(vI x29)] [(vI x29)] h)
 · intro N5 w5
   refine c_block fun E6 hE6 hO6 => ?_
   refine W1 (fun (x18 : Int) => ⟨(mkd .any 23 0 [(0, (vS a1)), (1, (vI a2)), (5, (vI x18))]), []⟩) (f131_l7 a2 a1 n (f131_k5)) h (wkm [0, 1, 5] wh_nil) (by intros; rw [f131_l7.eq_1]) ?_
   intro m7 x18 h N7 w7
   rw [f131_l7.eq_2] at h
   refine s_seq fun N19 k19 w19 => ?_
   refine J1 (r := r) (fun (x26 : Bool) => ⟨(mkd .any 23 0 [(0, (vS a1)), (1, (vI a2)), (5, (vI x18)), (19, (vB x26))]), []⟩) (f131_k20 x18 (f131_l7 a2 a1 n (f131_k5) m7) (f131_k5)) ?_ ?_
   · intro x26 h
     rw [f131_k20.eq_1] at h
     refine i_c [19] h (fun h => ?_) (fun h => ?_)
     · refine c_skip (k19 _ ?_)
       refine c_block fun E28 hE28 hO28 => ?_
       refine c_ops ?_
       refine o_r3 [(5, (vI (wr .i64 (x18 + 1)))), (20, (vI x18)), (21, (vI (wr .i64 (x18 + 1))))] ?_
       exact o_end (w7 _ _ (wkm [0, 1, 5] wh_nil) h)
     · refine c_exit (hE6 _ ?_)
       exact w5 _ _ (wkm [5] wh_nil) h
   · intro N20 w20
     refine c_ops ?_
     refine o_r7 [(6, (vI a2)), (7, (vI x18)), (8, (vI (wr .i64 (a2 + x18)))), (9, (vS a1)), (10, (vI (bsz a1))), (11, (vB (decide ((wr .i64 (a2 + x18)) < (bsz a1))))), (12, (vB (decide ((wr .i64 (a2 + x18)) < (bsz a1)))))] ?_
     refine i_o [11, 12] h (fun h => ?_) (fun h => ?_)
     · refine o_r4 [(13, (vS a1)), (14, (vI a2)), (15, (vI x18)), (16, (vI (wr .i64 (a2 + x18))))] ?_
       refine bnd h fun c22 g23 h => ?_
       refine o_g ?_
       refine o_o (one_idx (ki := .i64) g23) ?_
       refine bnd h fun r24 g25 h => ?_
       refine o_g ?_
       refine o_o (one_call (p_f146 g25)) ?_
       refine o_r1 [(19, (vB r24))] ?_
       exact o_end (w20 _ _ (wkm [0, 1, 5, 19] wh_nil) h)
     · refine o_r7 [(13, (.val undef)), (14, (.val undef)), (15, (.val undef)), (16, (.val undef)), (17, (.val undef)), (18, (.val undef)), (19, (vB false))] ?_
       exact o_end (w20 _ _ (wkm [0, 1, 5, 19] wh_nil) h)
theorem ic133 : fnIC Try.prog H0 133 = some ([.cell 2 186], 46, (.seq (.ops [zO 2 (.alloc 0 186 [] [(.int .i64 0), (.int .i64 0)])]) (.seq (.seq (.ops [zO 3 (.mov (.c (.int .i64 0)))]) (.block 0 (.loop (.seq (.seq (.ops [zM 6 3, zM 7 0, zO 8 (.len true (.t 7)), zO 9 (.sc (.bin .lss 3) [(.t 6), (.t 8)])]) (.cond (.t 9)
  .skip
  (.exit 0))) (.seq (.block 1 (.seq (.ops [zM 12 0, zM 13 3, zO 14 (.sc (.idx 9) [(.t 12), (.t 13)]), zO 15 (.call 132 [(.t 14)]), zO 16 (.sc (.un .not) [(.t 15)])]) (.cond (.t 16)
  (.seq (.ops [zO 17 (.bld [(.int .i64 0), (.int .i64 0)] [(1, 1, (.c (.int .i64 2)))]), zU (.st true 2 [] (.t 2) (.t 17))]) .ret)
  .skip))) (.ops [zM 10 3, zO 11 (.sc (.bin .add 3) [(.t 10), (.c (.int .i64 1))]), zM 3 11])))))) (.seq (.seq (.ops [zM 18 0, zO 19 (.sc (.idx 9) [(.t 18), (.c (.int .i64 0))]), zO 20 (.sc (.bin .eql 5) [(.t 19), (.c (.int .u8 48))]), zM 21 20, zN 22 21 true 0, zG 23 21 true (.len true (.t 22)), zG 24 21 true (.sc (.bin .gtr 3) [(.t 23), (.c (.int .i64 1))]), zO 25 (.pick (.t 21) (.t 24) (.c (.bool false)))]) (.cond (.t 25)
  (.seq (.ops [zO 26 (.bld [(.int .i64 0), (.int .i64 0)] [(1, 1, (.c (.int .i64 2)))]), zU (.st true 2 [] (.t 2) (.t 26))]) .ret)
  .skip)) (.seq (.ops [zO 4 (.mov (.c (.int .i64 0)))]) (.seq (.seq (.ops [zO 5 (.mov (.c (.int .i64 0)))]) (.block 2 (.loop (.seq (.seq (.ops [zM 27 5, zM 28 0, zO 29 (.len true (.t 28)), zO 30 (.sc (.bin .lss 3) [(.t 27), (.t 29)])]) (.cond (.t 30)
  .skip
  (.exit 2))) (.seq (.block 3 (.seq (.ops [zM 33 4, zO 34 (.sc (.bin .mul 3) [(.c (.int .i64 10)), (.t 33)]), zM 35 0, zM 36 5, zO 37 (.sc (.idx 9) [(.t 35), (.t 36)]), zO 38 (.sc (.conv 5 3) [(.t 37)]), zO 39 (.sc (.bin .add 3) [(.t 34), (.t 38)]), zO 40 (.sc (.bin .sub 3) [(.t 39), (.c (.int .i64 48))]), zM 4 40]) (.seq (.ops [zM 41 4, zO 42 (.sc (.bin .gtr 3) [(.t 41), (.c (.int .i64 1099511627776))])]) (.cond (.t 42)
  (.seq (.ops [zO 43 (.bld [(.int .i64 0), (.int .i64 0)] [(1, 1, (.c (.int .i64 3)))]), zU (.st true 2 [] (.t 2) (.t 43))]) .ret)
  .skip)))) (.ops [zM 31 5, zO 32 (.sc (.bin .add 3) [(.t 31), (.c (.int .i64 1))]), zM 5 32])))))) (.seq (.ops [zM 44 4, zO 45 (.bld [(.int .i64 0), (.int .i64 0)] [(0, 1, (.t 44))]), zU (.st true 2 [] (.t 2) (.t 45))]) .ret))))))) := by kernel_rfl
def f133_k41 (x69 : Int) : Option NE := some (NE.mk x69 0)
def f133_l44 (a1 : ByteArray) (k41k : Int → Option NE) : Nat → Int → Int → Option NE
  | 0, _, _ => none
  | m44 + 1, x56, x57 => (bif (decide (x57 < (bsz a1))) then ((si a1 x57).bind fun c64 => (bif (decide ((wr .i64 ((wr .i64 ((wr .i64 (10 * x56)) + (wr .i64 c64))) - 48)) > 1099511627776)) then some (NE.mk 0 3) else (f133_l44 a1 (k41k) m44 (wr .i64 ((wr .i64 ((wr .i64 (10 * x56)) + (wr .i64 c64))) - 48)) (wr .i64 (x57 + 1))))) else (k41k x56))
def f133_k33 (n : Nat) (a1 : ByteArray) (x37 : Bool) : Option NE := (bif x37 then some (NE.mk 0 2) else (f133_l44 a1 (f133_k41) n 0 0))
def f133_k3 (a1 : ByteArray) (n : Nat) : Option NE := ((si a1 0).bind fun c34 => (bif (c34 == 48) then (f133_k33 n a1 (decide ((bsz a1) > 1))) else (f133_k33 n a1 false)))
def f133_l6 (a1 : ByteArray) (n : Nat) (k3k : Option NE) : Nat → Int → Option NE
  | 0, _ => none
  | m6 + 1, x19 => (bif (decide (x19 < (bsz a1))) then ((si a1 x19).bind fun c26 => ((f132 n c26).bind fun r28 => (bif (!r28) then some (NE.mk 0 2) else (f133_l6 a1 n (k3k) m6 (wr .i64 (x19 + 1)))))) else (k3k))
def f133 (n : Nat) (a1 : ByteArray) : Option NE := (f133_l6 a1 n (f133_k3 a1 n) n 0)
def f133_r (r : NE) : AV := (.agg [(vI r.fN), (vI r.fE)])
theorem p_f133 {n : Nat} {a1 : ByteArray} {r : NE} (h : f133 n a1 = some r) : PureSpec Try.prog 133 [(vS a1)] (f133_r r) := by
 rw [f133.eq_1] at h
 refine pure_of hmix ic133 ?_
 refine go_to (mkd (.val undef) 46 0 [(0, (vS a1))]) ?_
 refine s_so fun N2 k2 w2 => ?_
 refine o_h1 [(2, (.ptr 0 0))] [(some (.box 186 [(vI 0), (vI 0)]))] ?_
 refine o_end (k2 _ ?_)
 refine J0 (r := r) ⟨(mkd .any 46 0 [(0, (vS a1)), (2, (.ptr 0 0))]), [(some (.box 186 [(vI 0), (vI 0)]))]⟩ (f133_k3 a1 n) ?_ ?_
 · intro h
   rw [f133_k3.eq_1] at h
   refine s_seq fun N32 k32 w32 => ?_
   refine J1 (r := r) (fun (x37 : Bool) => ⟨(mkd .any 46 0 [(0, (vS a1)), (2, (.ptr 0 0)), (25, (vB x37))]), [(some (.box 186 [(vI 0), (vI 0)]))]⟩) (f133_k33 n a1) ?_ ?_
   · intro x37 h
     rw [f133_k33.eq_1] at h
     refine i_c [25] h (fun h => ?_) (fun h => ?_)
     · refine s_so fun N39 k39 w39 => ?_
       refine o_h2 [(26, (.agg [(vI 0), (vI 2)]))] [(some (.box 186 [(vI 0), (vI 2)]))] ?_
       refine o_end (k39 _ ?_)
       exact c_ret (rets [] [(.agg [(vI 0), (vI 2)])] [(.agg [(vI 0), (vI 2)])] h)
     · refine c_skip (k32 _ ?_)
       refine s_so fun N40 k40 w40 => ?_
       refine o_r1 [(4, (vI 0))] ?_
       refine o_end (k40 _ ?_)
       refine J1 (r := r) (fun (x69 : Int) => ⟨(mkd .any 46 0 [(2, (.ptr 0 0)), (4, (vI x69))]), [(some (.box 186 [(vI 0), (vI 0)]))]⟩) (f133_k41) ?_ ?_
       · intro x69 h
         rw [f133_k41.eq_1] at h
         refine s_so fun N70 k70 w70 => ?_
         refine o_h3 [(44, (vI x69)), (45, (.agg [(vI x69), (vI 0)]))] [(some (.box 186 [(vI x69), (vI 0)]))] ?_
         refine o_end (k70 _ ?_)
         exact c_ret (rets [] [(.agg [(vI x69), (vI 0)])] [(.agg [(vI x69), (vI 0)])] h)
       · intro N41 w41
         refine s_so fun N42 k42 w42 => ?_
         refine o_r1 [(5, (vI 0))] ?_
         refine o_end (k42 _ ?_)
         refine c_block fun E43 hE43 hO43 => ?_
         refine W2 (fun (x56 : Int) (x57 : Int) => ⟨(mkd .any 46 0 [(0, (vS a1)), (2, (.ptr 0 0)), (4, (vI x56)), (5, (vI x57))]), [(some (.box 186 [(vI 0), (vI 0)]))]⟩) (f133_l44 a1 (f133_k41)) h (wkm [0, 2, 4, 5] (whk wh_nil)) (by intros; rw [f133_l44.eq_1]) ?_
         intro m44 x56 x57 h N44 w44
         rw [f133_l44.eq_2] at h
         refine s_seq fun N58 k58 w58 => ?_
         refine s_so fun N59 k59 w59 => ?_
         refine o_r4 [(27, (vI x57)), (28, (vS a1)), (29, (vI (bsz a1))), (30, (vB (decide (x57 < (bsz a1)))))] ?_
         refine o_end (k59 _ ?_)
         refine i_c [30] h (fun h => ?_) (fun h => ?_)
         · refine c_skip (k58 _ ?_)
           refine s_seq fun N61 k61 w61 => ?_
           refine c_block fun E62 hE62 hO62 => ?_
           refine s_so fun N63 k63 w63 => ?_
           refine o_r4 [(33, (vI x56)), (34, (vI (wr .i64 (10 * x56)))), (35, (vS a1)), (36, (vI x57))] ?_
           refine bnd h fun c64 g65 h => ?_
           refine o_o (one_idx (ki := .i64) g65) ?_
           refine o_r4 [(4, (vI (wr .i64 ((wr .i64 ((wr .i64 (10 * x56)) + (wr .i64 c64))) - 48)))), (38, (vI (wr .i64 c64))), (39, (vI (wr .i64 ((wr .i64 (10 * x56)) + (wr .i64 c64))))), (40, (vI (wr .i64 ((wr .i64 ((wr .i64 (10 * x56)) + (wr .i64 c64))) - 48))))] ?_
           refine o_end (k63 _ ?_)
           refine s_so fun N66 k66 w66 => ?_
           refine o_r2 [(41, (vI (wr .i64 ((wr .i64 ((wr .i64 (10 * x56)) + (wr .i64 c64))) - 48)))), (42, (vB (decide ((wr .i64 ((wr .i64 ((wr .i64 (10 * x56)) + (wr .i64 c64))) - 48)) > 1099511627776))))] ?_
           refine o_end (k66 _ ?_)
           refine i_c [42] h (fun h => ?_) (fun h => ?_)
           · refine s_so fun N68 k68 w68 => ?_
             refine o_h2 [(43, (.agg [(vI 0), (vI 3)]))] [(some (.box 186 [(vI 0), (vI 3)]))] ?_
             refine o_end (w68 _ ⟨(mkd .any 46 0 [(2, (.ptr 0 0))]), [(some (.box 186 [(vI 0), (vI 3)]))]⟩ (wkm [2] (whk wh_nil)) ?_)
             exact c_ret (rets [] [(.agg [(vI 0), (vI 3)])] [(.agg [(vI 0), (vI 3)])] h)
           · refine c_skip (k61 _ ?_)
             refine c_ops ?_
             refine o_r3 [(5, (vI (wr .i64 (x57 + 1)))), (31, (vI x57)), (32, (vI (wr .i64 (x57 + 1))))] ?_
             exact o_end (w44 _ _ _ (wkm [0, 2, 4, 5] (whk wh_nil)) h)
         · refine c_exit (hE43 _ ?_)
           exact w41 _ _ (wkm [2, 4] (whk wh_nil)) h
   · intro N33 w33
     refine c_ops ?_
     refine o_r1 [(18, (vS a1))] ?_
     refine bnd h fun c34 g35 h => ?_
     refine o_o (one_idx (ki := .i64) g35) ?_
     refine o_r2 [(20, (vB (c34 == 48))), (21, (vB (c34 == 48)))] ?_
     refine i_o [20, 21] h (fun h => ?_) (fun h => ?_)
     · refine o_r4 [(22, (vS a1)), (23, (vI (bsz a1))), (24, (vB (decide ((bsz a1) > 1)))), (25, (vB (decide ((bsz a1) > 1))))] ?_
       exact o_end (w33 _ _ (wkm [0, 2, 25] (whk wh_nil)) h)
     · refine o_r4 [(22, (.val undef)), (23, (.val undef)), (24, (.val undef)), (25, (vB false))] ?_
       exact o_end (w33 _ _ (wkm [0, 2, 25] (whk wh_nil)) h)
 · intro N3 w3
   refine s_so fun N4 k4 w4 => ?_
   refine o_r1 [(3, (vI 0))] ?_
   refine o_end (k4 _ ?_)
   refine c_block fun E5 hE5 hO5 => ?_
   refine W1 (fun (x19 : Int) => ⟨(mkd .any 46 0 [(0, (vS a1)), (2, (.ptr 0 0)), (3, (vI x19))]), [(some (.box 186 [(vI 0), (vI 0)]))]⟩) (f133_l6 a1 n (f133_k3 a1 n)) h (wkm [0, 2, 3] (whk wh_nil)) (by intros; rw [f133_l6.eq_1]) ?_
   intro m6 x19 h N6 w6
   rw [f133_l6.eq_2] at h
   refine s_seq fun N20 k20 w20 => ?_
   refine s_so fun N21 k21 w21 => ?_
   refine o_r4 [(6, (vI x19)), (7, (vS a1)), (8, (vI (bsz a1))), (9, (vB (decide (x19 < (bsz a1)))))] ?_
   refine o_end (k21 _ ?_)
   refine i_c [9] h (fun h => ?_) (fun h => ?_)
   · refine c_skip (k20 _ ?_)
     refine s_seq fun N23 k23 w23 => ?_
     refine c_block fun E24 hE24 hO24 => ?_
     refine s_so fun N25 k25 w25 => ?_
     refine o_r2 [(12, (vS a1)), (13, (vI x19))] ?_
     refine bnd h fun c26 g27 h => ?_
     refine o_o (one_idx (ki := .i64) g27) ?_
     refine bnd h fun r28 g29 h => ?_
     refine o_o (one_call (p_f132 g29)) ?_
     refine o_r1 [(16, (vB (!r28)))] ?_
     refine o_end (k25 _ ?_)
     refine i_c [16] h (fun h => ?_) (fun h => ?_)
     · refine s_so fun N31 k31 w31 => ?_
       refine o_h2 [(17, (.agg [(vI 0), (vI 2)]))] [(some (.box 186 [(vI 0), (vI 2)]))] ?_
       refine o_end (k31 _ ?_)
       exact c_ret (rets [] [(.agg [(vI 0), (vI 2)])] [(.agg [(vI 0), (vI 2)])] h)
     · refine c_skip (k23 _ ?_)
       refine c_ops ?_
       refine o_r3 [(3, (vI (wr .i64 (x19 + 1)))), (10, (vI x19)), (11, (vI (wr .i64 (x19 + 1))))] ?_
       exact o_end (w6 _ _ (wkm [0, 2, 3] (whk wh_nil)) h)
   · refine c_exit (hE5 _ ?_)
     exact w3 _ (wkm [0, 2] (whk wh_nil)) h
theorem ic147 : fnIC Try.prog H0 147 = some ([.tmp 0], 2, (.seq (.ops [zO 0 (.nil 0 9 1)]) (.seq (.ops [zO 1 (.isl 1 [(.c (.string ⟨#[97, 110, 100]⟩)), (.c (.string ⟨#[97, 115]⟩)), (.c (.string ⟨#[97, 116, 116, 97, 99, 104, 101, 100]⟩)), (.c (.string ⟨#[99, 104, 101, 99, 107]⟩)), (.c (.string ⟨#[99, 108, 97, 115, 115]⟩)), (.c (.string ⟨#[99, 114, 101, 97, 116, 101]⟩)), (.c (.string ⟨#[100, 101, 102, 101, 114, 114, 101, 100]⟩)), (.c (.string ⟨#[100, 101, 116, 97, 99, 104, 97, 98, 108, 101]⟩)), (.c (.string ⟨#[100, 111]⟩)), (.c (.string ⟨#[101, 108, 115, 101]⟩)), (.c (.string ⟨#[101, 110, 100]⟩)), (.c (.string ⟨#[101, 110, 115, 117, 114, 101]⟩)), (.c (.string ⟨#[102, 101, 97, 116, 117, 114, 101]⟩)), (.c (.string ⟨#[102, 114, 111, 109]⟩)), (.c (.string ⟨#[105, 102]⟩)), (.c (.string ⟨#[105, 109, 112, 108, 105, 101, 115]⟩)), (.c (.string ⟨#[105, 110, 104, 101, 114, 105, 116]⟩)), (.c (.string ⟨#[105, 110, 118, 97, 114, 105, 97, 110, 116]⟩)), (.c (.string ⟨#[108, 111, 99, 97, 108]⟩)), (.c (.string ⟨#[108, 111, 111, 112]⟩)), (.c (.string ⟨#[110, 111, 116]⟩)), (.c (.string ⟨#[111, 108, 100]⟩)), (.c (.string ⟨#[111, 114]⟩)), (.c (.string ⟨#[112, 117, 116]⟩)), (.c (.string ⟨#[114, 97, 105, 115, 101]⟩)), (.c (.string ⟨#[114, 101, 100, 101, 102, 105, 110, 101]⟩)), (.c (.string ⟨#[114, 101, 110, 97, 109, 101]⟩)), (.c (.string ⟨#[114, 101, 113, 117, 105, 114, 101]⟩)), (.c (.string ⟨#[114, 101, 115, 99, 117, 101]⟩)), (.c (.string ⟨#[114, 101, 116, 114, 121]⟩)), (.c (.string ⟨#[115, 101, 108, 101, 99, 116]⟩)), (.c (.string ⟨#[115, 101, 112, 97, 114, 97, 116, 101]⟩)), (.c (.string ⟨#[116, 104, 101, 110]⟩)), (.c (.string ⟨#[117, 110, 100, 101, 102, 105, 110, 101]⟩)), (.c (.string ⟨#[117, 110, 116, 105, 108]⟩)), (.c (.string ⟨#[118, 97, 114, 105, 97, 110, 116]⟩)), (.c (.string ⟨#[119, 104, 101, 110]⟩))]), zM 0 1]) .ret))) := by kernel_rfl
def f147 (n : Nat) : Option (List ByteArray) := some [(ByteArray.mk #[97, 110, 100]), (ByteArray.mk #[97, 115]), (ByteArray.mk #[97, 116, 116, 97, 99, 104, 101, 100]), (ByteArray.mk #[99, 104, 101, 99, 107]), (ByteArray.mk #[99, 108, 97, 115, 115]), (ByteArray.mk #[99, 114, 101, 97, 116, 101]), (ByteArray.mk #[100, 101, 102, 101, 114, 114, 101, 100]), (ByteArray.mk #[100, 101, 116, 97, 99, 104, 97, 98, 108, 101]), (ByteArray.mk #[100, 111]), (ByteArray.mk #[101, 108, 115, 101]), (ByteArray.mk #[101, 110, 100]), (ByteArray.mk #[101, 110, 115, 117, 114, 101]), (ByteArray.mk #[102, 101, 97, 116, 117, 114, 101]), (ByteArray.mk #[102, 114, 111, 109]), (ByteArray.mk #[105, 102]), (ByteArray.mk #[105, 109, 112, 108, 105, 101, 115]), (ByteArray.mk #[105, 110, 104, 101, 114, 105, 116]), (ByteArray.mk #[105, 110, 118, 97, 114, 105, 97, 110, 116]), (ByteArray.mk #[108, 111, 99, 97, 108]), (ByteArray.mk #[108, 111, 111, 112]), (ByteArray.mk #[110, 111, 116]), (ByteArray.mk #[111, 108, 100]), (ByteArray.mk #[111, 114]), (ByteArray.mk #[112, 117, 116]), (ByteArray.mk #[114, 97, 105, 115, 101]), (ByteArray.mk #[114, 101, 100, 101, 102, 105, 110, 101]), (ByteArray.mk #[114, 101, 110, 97, 109, 101]), (ByteArray.mk #[114, 101, 113, 117, 105, 114, 101]), (ByteArray.mk #[114, 101, 115, 99, 117, 101]), (ByteArray.mk #[114, 101, 116, 114, 121]), (ByteArray.mk #[115, 101, 108, 101, 99, 116]), (ByteArray.mk #[115, 101, 112, 97, 114, 97, 116, 101]), (ByteArray.mk #[116, 104, 101, 110]), (ByteArray.mk #[117, 110, 100, 101, 102, 105, 110, 101]), (ByteArray.mk #[117, 110, 116, 105, 108]), (ByteArray.mk #[118, 97, 114, 105, 97, 110, 116]), (ByteArray.mk #[119, 104, 101, 110])]
def f147_r (r : (List ByteArray)) : AV := (vL cS r)
theorem p_f147 {n : Nat} {r : (List ByteArray)} (h : f147 n = some r) : PureSpec Try.prog 147 [] (f147_r r) := by
 rw [f147.eq_1] at h
 refine pure_of hmix ic147 ?_
 refine go_to (mkd (.val undef) 2 0 []) ?_
 refine s_so fun N1 k1 w1 => ?_
 refine o_h1 [(0, (.own 0 0))] [(some (.row 9 1 (List.map cS [])))] ?_
 refine o_end (k1 _ ?_)
 refine s_so fun N2 k2 w2 => ?_
 refine o_r2 [(0, (vL cS [(ByteArray.mk #[97, 110, 100]), (ByteArray.mk #[97, 115]), (ByteArray.mk #[97, 116, 116, 97, 99, 104, 101, 100]), (ByteArray.mk #[99, 104, 101, 99, 107]), (ByteArray.mk #[99, 108, 97, 115, 115]), (ByteArray.mk #[99, 114, 101, 97, 116, 101]), (ByteArray.mk #[100, 101, 102, 101, 114, 114, 101, 100]), (ByteArray.mk #[100, 101, 116, 97, 99, 104, 97, 98, 108, 101]), (ByteArray.mk #[100, 111]), (ByteArray.mk #[101, 108, 115, 101]), (ByteArray.mk #[101, 110, 100]), (ByteArray.mk #[101, 110, 115, 117, 114, 101]), (ByteArray.mk #[102, 101, 97, 116, 117, 114, 101]), (ByteArray.mk #[102, 114, 111, 109]), (ByteArray.mk #[105, 102]), (ByteArray.mk #[105, 109, 112, 108, 105, 101, 115]), (ByteArray.mk #[105, 110, 104, 101, 114, 105, 116]), (ByteArray.mk #[105, 110, 118, 97, 114, 105, 97, 110, 116]), (ByteArray.mk #[108, 111, 99, 97, 108]), (ByteArray.mk #[108, 111, 111, 112]), (ByteArray.mk #[110, 111, 116]), (ByteArray.mk #[111, 108, 100]), (ByteArray.mk #[111, 114]), (ByteArray.mk #[112, 117, 116]), (ByteArray.mk #[114, 97, 105, 115, 101]), (ByteArray.mk #[114, 101, 100, 101, 102, 105, 110, 101]), (ByteArray.mk #[114, 101, 110, 97, 109, 101]), (ByteArray.mk #[114, 101, 113, 117, 105, 114, 101]), (ByteArray.mk #[114, 101, 115, 99, 117, 101]), (ByteArray.mk #[114, 101, 116, 114, 121]), (ByteArray.mk #[115, 101, 108, 101, 99, 116]), (ByteArray.mk #[115, 101, 112, 97, 114, 97, 116, 101]), (ByteArray.mk #[116, 104, 101, 110]), (ByteArray.mk #[117, 110, 100, 101, 102, 105, 110, 101]), (ByteArray.mk #[117, 110, 116, 105, 108]), (ByteArray.mk #[118, 97, 114, 105, 97, 110, 116]), (ByteArray.mk #[119, 104, 101, 110])])), (1, (vL cS [(ByteArray.mk #[97, 110, 100]), (ByteArray.mk #[97, 115]), (ByteArray.mk #[97, 116, 116, 97, 99, 104, 101, 100]), (ByteArray.mk #[99, 104, 101, 99, 107]), (ByteArray.mk #[99, 108, 97, 115, 115]), (ByteArray.mk #[99, 114, 101, 97, 116, 101]), (ByteArray.mk #[100, 101, 102, 101, 114, 114, 101, 100]), (ByteArray.mk #[100, 101, 116, 97, 99, 104, 97, 98, 108, 101]), (ByteArray.mk #[100, 111]), (ByteArray.mk #[101, 108, 115, 101]), (ByteArray.mk #[101, 110, 100]), (ByteArray.mk #[101, 110, 115, 117, 114, 101]), (ByteArray.mk #[102, 101, 97, 116, 117, 114, 101]), (ByteArray.mk #[102, 114, 111, 109]), (ByteArray.mk #[105, 102]), (ByteArray.mk #[105, 109, 112, 108, 105, 101, 115]), (ByteArray.mk #[105, 110, 104, 101, 114, 105, 116]), (ByteArray.mk #[105, 110, 118, 97, 114, 105, 97, 110, 116]), (ByteArray.mk #[108, 111, 99, 97, 108]), (ByteArray.mk #[108, 111, 111, 112]), (ByteArray.mk #[110, 111, 116]), (ByteArray.mk #[111, 108, 100]), (ByteArray.mk #[111, 114]), (ByteArray.mk #[112, 117, 116]), (ByteArray.mk #[114, 97, 105, 115, 101]), (ByteArray.mk #[114, 101, 100, 101, 102, 105, 110, 101]), (ByteArray.mk #[114, 101, 110, 97, 109, 101]), (ByteArray.mk #[114, 101, 113, 117, 105, 114, 101]), (ByteArray.mk #[114, 101, 115, 99, 117, 101]), (ByteArray.mk #[114, 101, 116, 114, 121]), (ByteArray.mk #[115, 101, 108, 101, 99, 116]), (ByteArray.mk #[115, 101, 112, 97, 114, 97, 116, 101]), (ByteArray.mk #[116, 104, 101, 110]), (ByteArray.mk #[117, 110, 100, 101, 102, 105, 110, 101]), (ByteArray.mk #[117, 110, 116, 105, 108]), (ByteArray.mk #[118, 97, 114, 105, 97, 110, 116]), (ByteArray.mk #[119, 104, 101, 110])]))] ?_
 refine o_end (k2 _ ?_)
 exact c_ret (rets [] [(vL cS [(ByteArray.mk #[97, 110, 100]), (ByteArray.mk #[97, 115]), (ByteArray.mk #[97, 116, 116, 97, 99, 104, 101, 100]), (ByteArray.mk #[99, 104, 101, 99, 107]), (ByteArray.mk #[99, 108, 97, 115, 115]), (ByteArray.mk #[99, 114, 101, 97, 116, 101]), (ByteArray.mk #[100, 101, 102, 101, 114, 114, 101, 100]), (ByteArray.mk #[100, 101, 116, 97, 99, 104, 97, 98, 108, 101]), (ByteArray.mk #[100, 111]), (ByteArray.mk #[101, 108, 115, 101]), (ByteArray.mk #[101, 110, 100]), (ByteArray.mk #[101, 110, 115, 117, 114, 101]), (ByteArray.mk #[102, 101, 97, 116, 117, 114, 101]), (ByteArray.mk #[102, 114, 111, 109]), (ByteArray.mk #[105, 102]), (ByteArray.mk #[105, 109, 112, 108, 105, 101, 115]), (ByteArray.mk #[105, 110, 104, 101, 114, 105, 116]), (ByteArray.mk #[105, 110, 118, 97, 114, 105, 97, 110, 116]), (ByteArray.mk #[108, 111, 99, 97, 108]), (ByteArray.mk #[108, 111, 111, 112]), (ByteArray.mk #[110, 111, 116]), (ByteArray.mk #[111, 108, 100]), (ByteArray.mk #[111, 114]), (ByteArray.mk #[112, 117, 116]), (ByteArray.mk #[114, 97, 105, 115, 101]), (ByteArray.mk #[114, 101, 100, 101, 102, 105, 110, 101]), (ByteArray.mk #[114, 101, 110, 97, 109, 101]), (ByteArray.mk #[114, 101, 113, 117, 105, 114, 101]), (ByteArray.mk #[114, 101, 115, 99, 117, 101]), (ByteArray.mk #[114, 101, 116, 114, 121]), (ByteArray.mk #[115, 101, 108, 101, 99, 116]), (ByteArray.mk #[115, 101, 112, 97, 114, 97, 116, 101]), (ByteArray.mk #[116, 104, 101, 110]), (ByteArray.mk #[117, 110, 100, 101, 102, 105, 110, 101]), (ByteArray.mk #[117, 110, 116, 105, 108]), (ByteArray.mk #[118, 97, 114, 105, 97, 110, 116]), (ByteArray.mk #[119, 104, 101, 110])])] [(vL cS [(ByteArray.mk #[97, 110, 100]), (ByteArray.mk #[97, 115]), (ByteArray.mk #[97, 116, 116, 97, 99, 104, 101, 100]), (ByteArray.mk #[99, 104, 101, 99, 107]), (ByteArray.mk #[99, 108, 97, 115, 115]), (ByteArray.mk #[99, 114, 101, 97, 116, 101]), (ByteArray.mk #[100, 101, 102, 101, 114, 114, 101, 100]), (ByteArray.mk #[100, 101, 116, 97, 99, 104, 97, 98, 108, 101]), (ByteArray.mk #[100, 111]), (ByteArray.mk #[101, 108, 115, 101]), (ByteArray.mk #[101, 110, 100]), (ByteArray.mk #[101, 110, 115, 117, 114, 101]), (ByteArray.mk #[102, 101, 97, 116, 117, 114, 101]), (ByteArray.mk #[102, 114, 111, 109]), (ByteArray.mk #[105, 102]), (ByteArray.mk #[105, 109, 112, 108, 105, 101, 115]), (ByteArray.mk #[105, 110, 104, 101, 114, 105, 116]), (ByteArray.mk #[105, 110, 118, 97, 114, 105, 97, 110, 116]), (ByteArray.mk #[108, 111, 99, 97, 108]), (ByteArray.mk #[108, 111, 111, 112]), (ByteArray.mk #[110, 111, 116]), (ByteArray.mk #[111, 108, 100]), (ByteArray.mk #[111, 114]), (ByteArray.mk #[112, 117, 116]), (ByteArray.mk #[114, 97, 105, 115, 101]), (ByteArray.mk #[114, 101, 100, 101, 102, 105, 110, 101]), (ByteArray.mk #[114, 101, 110, 97, 109, 101]), (ByteArray.mk #[114, 101, 113, 117, 105, 114, 101]), (ByteArray.mk #[114, 101, 115, 99, 117, 101]), (ByteArray.mk #[114, 101, 116, 114, 121]), (ByteArray.mk #[115, 101, 108, 101, 99, 116]), (ByteArray.mk #[115, 101, 112, 97, 114, 97, 116, 101]), (ByteArray.mk #[116, 104, 101, 110]), (ByteArray.mk #[117, 110, 100, 101, 102, 105, 110, 101]), (ByteArray.mk #[117, 110, 116, 105, 108]), (ByteArray.mk #[118, 97, 114, 105, 97, 110, 116]), (ByteArray.mk #[119, 104, 101, 110])])] h)
theorem ic134 : fnIC Try.prog H0 134 = some ([.cell 2 143], 51, (.seq (.ops [zO 2 (.alloc 0 143 [] [(.int .i64 0), (.int .i64 0)])]) (.seq (.seq (.ops [zO 6 (.call 147 []), zM 7 0, zO 8 (.call 129 [(.t 6), (.t 7)]), zM 9 8, zG 10 9 false (.isl 1 [(.c (.string ⟨#[84, 114, 117, 101]⟩)), (.c (.string ⟨#[70, 97, 108, 115, 101]⟩)), (.c (.string ⟨#[86, 111, 105, 100]⟩)), (.c (.string ⟨#[67, 117, 114, 114, 101, 110, 116]⟩)), (.c (.string ⟨#[82, 101, 115, 117, 108, 116]⟩))]), zN 11 9 false 0, zG 12 9 false (.call 129 [(.t 10), (.t 11)]), zO 13 (.pick (.t 9) (.c (.bool true)) (.t 12))]) (.cond (.t 13)
  (.seq (.ops [zO 14 (.bld [(.int .i64 0), (.int .i64 0)] [(0, 1, (.c (.int .i64 3)))]), zU (.st true 2 [] (.t 2) (.t 14))]) .ret)
  .skip)) (.seq (.seq (.ops [zO 15 (.isl 1 [(.c (.string ⟨#[116, 114, 117, 101]⟩)), (.c (.string ⟨#[102, 97, 108, 115, 101]⟩)), (.c (.string ⟨#[118, 111, 105, 100]⟩)), (.c (.string ⟨#[99, 117, 114, 114, 101, 110, 116]⟩)), (.c (.string ⟨#[114, 101, 115, 117, 108, 116]⟩))]), zM 16 0, zO 17 (.call 129 [(.t 15), (.t 16)])]) (.cond (.t 17)
  (.seq (.ops [zO 18 (.bld [(.int .i64 0), (.int .i64 0)] [(1, 1, (.c (.int .i64 4)))]), zU (.st true 2 [] (.t 2) (.t 18))]) .ret)
  .skip)) (.seq (.ops [zO 3 (.mov (.c (.bool false)))]) (.seq (.ops [zO 4 (.mov (.c (.bool false)))]) (.seq (.seq (.ops [zO 5 (.mov (.c (.int .i64 0)))]) (.block 0 (.loop (.seq (.seq (.ops [zM 19 5, zM 20 0, zO 21 (.len true (.t 20)), zO 22 (.sc (.bin .lss 3) [(.t 19), (.t 21)])]) (.cond (.t 22)
  .skip
  (.exit 0))) (.seq (.block 1 (.seq (.ops [zM 25 3, zM 26 25, zN 27 26 false 0, zN 28 26 false 5, zG 29 26 false (.sc (.idx 9) [(.t 27), (.t 28)]), zG 30 26 false (.call 148 [(.t 29)]), zO 31 (.pick (.t 26) (.c (.bool true)) (.t 30)), zM 3 31]) (.ops [zM 32 4, zM 33 32, zN 34 33 false 0, zN 35 33 false 5, zG 36 33 false (.sc (.idx 9) [(.t 34), (.t 35)]), zG 37 33 false (.call 149 [(.t 36)]), zO 38 (.pick (.t 33) (.c (.bool true)) (.t 37)), zM 4 38]))) (.ops [zM 23 5, zO 24 (.sc (.bin .add 3) [(.t 23), (.c (.int .i64 1))]), zM 5 24])))))) (.seq (.seq (.ops [zM 39 3, zM 40 39, zN 41 40 true 4, zO 42 (.pick (.t 40) (.t 41) (.c (.bool false)))]) (.cond (.t 42)
  (.seq (.ops [zO 43 (.bld [(.int .i64 0), (.int .i64 0)] [(1, 1, (.c (.int .i64 2)))]), zU (.st true 2 [] (.t 2) (.t 43))]) .ret)
  .skip)) (.seq (.seq (.ops [zM 44 0, zO 45 (.len true (.t 44)), zO 46 (.sc (.bin .gtr 3) [(.t 45), (.c (.int .i64 20))])]) (.cond (.t 46)
  (.seq (.ops [zO 47 (.bld [(.int .i64 0), (.int .i64 0)] [(1, 1, (.c (.int .i64 3)))]), zU (.st true 2 [] (.t 2) (.t 47))]) .ret)
  .skip)) (.seq (.seq (.ops [zM 48 3]) (.cond (.t 48)
  (.seq (.ops [zO 49 (.bld [(.int .i64 0), (.int .i64 0)] [(0, 1, (.c (.int .i64 1)))]), zU (.st true 2 [] (.t 2) (.t 49))]) .ret)
  .skip)) (.seq (.ops [zO 50 (.bld [(.int .i64 0), (.int .i64 0)] [(0, 1, (.c (.int .i64 2)))]), zU (.st true 2 [] (.t 2) (.t 50))]) .ret))))))))))) := by kernel_rfl
def f134_k47 (x43 : Int) (c26k : Bool → Bool → Int → Option KE) (x61 : Bool) (x62 : Bool) : Option KE := (c26k x62 x61 (wr .i64 (x43 + 1)))
def f134_k49 (x42 : Bool) (a1 : ByteArray) (x43 : Int) (n : Nat) (c26k : Bool → Bool → Int → Option KE) (x55 : Bool) : Option KE := (bif x42 then (f134_k47 x43 (c26k) true x55) else ((si a1 x43).bind fun c57 => ((f149 n c57).bind fun r59 => (f134_k47 x43 (c26k) r59 x55))))
def f134_k66 (a1 : ByteArray) (x68 : Bool) (x69 : Bool) : Option KE := (bif x69 then some (KE.mk 0 2) else (bif (decide ((bsz a1) > 20)) then some (KE.mk 0 3) else (bif x68 then some (KE.mk 1 0) else some (KE.mk 2 0))))
def f134_k23 (a1 : ByteArray) (x63 : Bool) (x64 : Bool) : Option KE := (bif x63 then (f134_k66 a1 true x64) else (f134_k66 a1 false false))
def f134_l26 (a1 : ByteArray) (n : Nat) (k23k : Bool → Bool → Option KE) : Nat → Bool → Bool → Int → Option KE
  | 0, _, _, _ => none
  | m26 + 1, x41, x42, x43 => (bif (decide (x43 < (bsz a1))) then (bif x41 then (f134_k49 x42 a1 x43 n (f134_l26 a1 n (k23k) m26) true) else ((si a1 x43).bind fun c51 => ((f148 n c51).bind fun r53 => (f134_k49 x42 a1 x43 n (f134_l26 a1 n (k23k) m26) r53)))) else (k23k x41 x42))
def f134_k4 (n : Nat) (a1 : ByteArray) (x12 : Bool) : Option KE := (bif x12 then some (KE.mk 3 0) else ((f129 n [(ByteArray.mk #[116, 114, 117, 101]), (ByteArray.mk #[102, 97, 108, 115, 101]), (ByteArray.mk #[118, 111, 105, 100]), (ByteArray.mk #[99, 117, 114, 114, 101, 110, 116]), (ByteArray.mk #[114, 101, 115, 117, 108, 116])] a1).bind fun r17 => (bif r17 then some (KE.mk 0 4) else (f134_l26 a1 n (f134_k23 a1) n false false 0))))
def f134 (n : Nat) (a1 : ByteArray) : Option KE := ((f147 n).bind fun r5 => ((f129 n r5 a1).bind fun r7 => (bif r7 then (f134_k4 n a1 true) else ((f129 n [(ByteArray.mk #[84, 114, 117, 101]), (ByteArray.mk #[70, 97, 108, 115, 101]), (ByteArray.mk #[86, 111, 105, 100]), (ByteArray.mk #[67, 117, 114, 114, 101, 110, 116]), (ByteArray.mk #[82, 101, 115, 117, 108, 116])] a1).bind fun r10 => (f134_k4 n a1 r10)))))
def f134_r (r : KE) : AV := (.agg [(vI r.fK), (vI r.fE)])
theorem p_f134 {n : Nat} {a1 : ByteArray} {r : KE} (h : f134 n a1 = some r) : PureSpec Try.prog 134 [(vS a1)] (f134_r r) := by
 rw [f134.eq_1] at h
 refine pure_of hmix ic134 ?_
 refine go_to (mkd (.val undef) 51 0 [(0, (vS a1))]) ?_
 refine s_so fun N2 k2 w2 => ?_
 refine o_h1 [(2, (.ptr 0 0))] [(some (.box 143 [(vI 0), (vI 0)]))] ?_
 refine o_end (k2 _ ?_)
 refine s_seq fun N3 k3 w3 => ?_
 refine J1 (r := r) (fun (x12 : Bool) => ⟨(mkd .any 51 0 [(0, (vS a1)), (2, (.ptr 0 0)), (13, (vB x12))]), [(some (.box 143 [(vI 0), (vI 0)]))]⟩) (f134_k4 n a1) ?_ ?_
 · intro x12 h
   rw [f134_k4.eq_1] at h
   refine i_c [13] h (fun h => ?_) (fun h => ?_)
   · refine s_so fun N14 k14 w14 => ?_
     refine o_h2 [(14, (.agg [(vI 3), (vI 0)]))] [(some (.box 143 [(vI 3), (vI 0)]))] ?_
     refine o_end (k14 _ ?_)
     exact c_ret (rets [] [(.agg [(vI 3), (vI 0)])] [(.agg [(vI 3), (vI 0)])] h)
   · refine c_skip (k3 _ ?_)
     refine s_seq fun N15 k15 w15 => ?_
     refine s_so fun N16 k16 w16 => ?_
     refine o_r2 [(15, (vL cS [(ByteArray.mk #[116, 114, 117, 101]), (ByteArray.mk #[102, 97, 108, 115, 101]), (ByteArray.mk #[118, 111, 105, 100]), (ByteArray.mk #[99, 117, 114, 114, 101, 110, 116]), (ByteArray.mk #[114, 101, 115, 117, 108, 116])])), (16, (vS a1))] ?_
     refine bnd h fun r17 g18 h => ?_
     refine o_o (one_call (p_f129 g18)) ?_
     refine o_end (k16 _ ?_)
     refine i_c [17] h (fun h => ?_) (fun h => ?_)
     · refine s_so fun N20 k20 w20 => ?_
       refine o_h2 [(18, (.agg [(vI 0), (vI 4)]))] [(some (.box 143 [(vI 0), (vI 4)]))] ?_
       refine o_end (k20 _ ?_)
       exact c_ret (rets [] [(.agg [(vI 0), (vI 4)])] [(.agg [(vI 0), (vI 4)])] h)
     · refine c_skip (k15 _ ?_)
       refine s_so fun N21 k21 w21 => ?_
       refine o_r1 [(3, (vB false))] ?_
       refine o_end (k21 _ ?_)
       refine s_so fun N22 k22 w22 => ?_
       refine o_r1 [(4, (vB false))] ?_
       refine o_end (k22 _ ?_)
       refine J2 (r := r) (fun (x63 : Bool) (x64 : Bool) => ⟨(mkd .any 51 0 [(0, (vS a1)), (2, (.ptr 0 0)), (3, (vB x63)), (4, (vB x64))]), [(some (.box 143 [(vI 0), (vI 0)]))]⟩) (f134_k23 a1) ?_ ?_
       · intro x63 x64 h
         rw [f134_k23.eq_1] at h
         refine s_seq fun N65 k65 w65 => ?_
         refine J2 (r := r) (fun (x68 : Bool) (x69 : Bool) => ⟨(mkd .any 51 0 [(0, (vS a1)), (2, (.ptr 0 0)), (3, (vB x68)), (42, (vB x69))]), [(some (.box 143 [(vI 0), (vI 0)]))]⟩) (f134_k66 a1) ?_ ?_
         · intro x68 x69 h
           rw [f134_k66.eq_1] at h
           refine i_c [42] h (fun h => ?_) (fun h => ?_)
           · refine s_so fun N71 k71 w71 => ?_
             refine o_h2 [(43, (.agg [(vI 0), (vI 2)]))] [(some (.box 143 [(vI 0), (vI 2)]))] ?_
             refine o_end (k71 _ ?_)
             exact c_ret (rets [] [(.agg [(vI 0), (vI 2)])] [(.agg [(vI 0), (vI 2)])] h)
           · refine c_skip (k65 _ ?_)
             refine s_seq fun N72 k72 w72 => ?_
             refine s_so fun N73 k73 w73 => ?_
             refine o_r3 [(44, (vS a1)), (45, (vI (bsz a1))), (46, (vB (decide ((bsz a1) > 20))))] ?_
             refine o_end (k73 _ ?_)
             refine i_c [46] h (fun h => ?_) (fun h => ?_)
             · refine s_so fun N75 k75 w75 => ?_
               refine o_h2 [(47, (.agg [(vI 0), (vI 3)]))] [(some (.box 143 [(vI 0), (vI 3)]))] ?_
               refine o_end (k75 _ ?_)
               exact c_ret (rets [] [(.agg [(vI 0), (vI 3)])] [(.agg [(vI 0), (vI 3)])] h)
             · refine c_skip (k72 _ ?_)
               refine s_seq fun N76 k76 w76 => ?_
               refine s_so fun N77 k77 w77 => ?_
               refine o_r1 [(48, (vB x68))] ?_
               refine o_end (k77 _ ?_)
               refine i_c [3, 48] h (fun h => ?_) (fun h => ?_)
               · refine s_so fun N79 k79 w79 => ?_
                 refine o_h2 [(49, (.agg [(vI 1), (vI 0)]))] [(some (.box 143 [(vI 1), (vI 0)]))] ?_
                 refine o_end (k79 _ ?_)
                 exact c_ret (rets [] [(.agg [(vI 1), (vI 0)])] [(.agg [(vI 1), (vI 0)])] h)
               · refine c_skip (k76 _ ?_)
                 refine s_so fun N80 k80 w80 => ?_
                 refine o_h2 [(50, (.agg [(vI 2), (vI 0)]))] [(some (.box 143 [(vI 2), (vI 0)]))] ?_
                 refine o_end (k80 _ ?_)
                 exact c_ret (rets [] [(.agg [(vI 2), (vI 0)])] [(.agg [(vI 2), (vI 0)])] h)
         · intro N66 w66
           refine c_ops ?_
           refine o_r2 [(39, (vB x63)), (40, (vB x63))] ?_
           refine i_o [3, 39, 40] h (fun h => ?_) (fun h => ?_)
           · refine o_r2 [(41, (vB x64)), (42, (vB x64))] ?_
             exact o_end (w66 _ _ _ (wkm [0, 2, 3, 42] (whk wh_nil)) h)
           · refine o_r2 [(41, (.val undef)), (42, (vB false))] ?_
             exact o_end (w66 _ _ _ (wkm [0, 2, 3, 42] (whk wh_nil)) h)
       · intro N23 w23
         refine s_so fun N24 k24 w24 => ?_
         refine o_r1 [(5, (vI 0))] ?_
         refine o_end (k24 _ ?_)
         refine c_block fun E25 hE25 hO25 => ?_
         refine W3 (fun (x41 : Bool) (x42 : Bool) (x43 : Int) => ⟨(mkd .any 51 0 [(0, (vS a1)), (2, (.ptr 0 0)), (3, (vB x41)), (4, (vB x42)), (5, (vI x43))]), [(some (.box 143 [(vI 0), (vI 0)]))]⟩) (f134_l26 a1 n (f134_k23 a1)) h (wkm [0, 2, 3, 4, 5] (whk wh_nil)) (by intros; rw [f134_l26.eq_1]) ?_
         intro m26 x41 x42 x43 h N26 w26
         rw [f134_l26.eq_2] at h
         refine s_seq fun N44 k44 w44 => ?_
         refine s_so fun N45 k45 w45 => ?_
         refine o_r4 [(19, (vI x43)), (20, (vS a1)), (21, (vI (bsz a1))), (22, (vB (decide (x43 < (bsz a1)))))] ?_
         refine o_end (k45 _ ?_)
         refine i_c [22] h (fun h => ?_) (fun h => ?_)
         · refine c_skip (k44 _ ?_)
           refine J2 (r := r) (fun (x61 : Bool) (x62 : Bool) => ⟨(mkd .any 51 0 [(0, (vS a1)), (2, (.ptr 0 0)), (3, (vB x62)), (4, (vB x61)), (5, (vI x43))]), [(some (.box 143 [(vI 0), (vI 0)]))]⟩) (f134_k47 x43 (f134_l26 a1 n (f134_k23 a1) m26)) ?_ ?_
           · intro x61 x62 h
             rw [f134_k47.eq_1] at h
             refine c_ops ?_
             refine o_r3 [(5, (vI (wr .i64 (x43 + 1)))), (23, (vI x43)), (24, (vI (wr .i64 (x43 + 1))))] ?_
             exact o_end (w26 _ _ _ _ (wkm [0, 2, 3, 4, 5] (whk wh_nil)) h)
           · intro N47 w47
             refine c_block fun E48 hE48 hO48 => ?_
             refine J1 (r := r) (fun (x55 : Bool) => ⟨(mkd .any 51 0 [(0, (vS a1)), (2, (.ptr 0 0)), (3, (vB x55)), (4, (vB x42)), (5, (vI x43))]), [(some (.box 143 [(vI 0), (vI 0)]))]⟩) (f134_k49 x42 a1 x43 n (f134_l26 a1 n (f134_k23 a1) m26)) ?_ ?_
             · intro x55 h
               rw [f134_k49.eq_1] at h
               refine c_ops ?_
               refine o_r2 [(32, (vB x42)), (33, (vB x42))] ?_
               refine i_o [4, 32, 33] h (fun h => ?_) (fun h => ?_)
               · refine o_r6 [(34, (.val undef)), (35, (.val undef)), (36, (.val undef)), (37, (.val undef)), (38, (vB true))] ?_
                 exact o_end (w47 _ _ _ (wkm [0, 2, 3, 4, 5] (whk wh_nil)) h)
               · refine o_r2 [(34, (vS a1)), (35, (vI x43))] ?_
                 refine bnd h fun c57 g58 h => ?_
                 refine o_g ?_
                 refine o_o (one_idx (ki := .i64) g58) ?_
                 refine bnd h fun r59 g60 h => ?_
                 refine o_g ?_
                 refine o_o (one_call (p_f149 g60)) ?_
                 refine o_r2 [(4, (vB r59)), (38, (vB r59))] ?_
                 exact o_end (w47 _ _ _ (wkm [0, 2, 3, 4, 5] (whk wh_nil)) h)
             · intro N49 w49
               refine c_ops ?_
               refine o_r2 [(25, (vB x41)), (26, (vB x41))] ?_
               refine i_o [3, 25, 26] h (fun h => ?_) (fun h => ?_)
               · refine o_r6 [(27, (.val undef)), (28, (.val undef)), (29, (.val undef)), (30, (.val undef)), (31, (vB true))] ?_
                 exact o_end (w49 _ _ (wkm [0, 2, 3, 4, 5] (whk wh_nil)) h)
               · refine o_r2 [(27, (vS a1)), (28, (vI x43))] ?_
                 refine bnd h fun c51 g52 h => ?_
                 refine o_g ?_
                 refine o_o (one_idx (ki := .i64) g52) ?_
                 refine bnd h fun r53 g54 h => ?_
                 refine o_g ?_
                 refine o_o (one_call (p_f148 g54)) ?_
                 refine o_r2 [(3, (vB r53)), (31, (vB r53))] ?_
                 exact o_end (w49 _ _ (wkm [0, 2, 3, 4, 5] (whk wh_nil)) h)
         · refine c_exit (hE25 _ ?_)
           exact w23 _ _ _ (wkm [0, 2, 3, 4] (whk wh_nil)) h
 · intro N4 w4
   refine c_ops ?_
   refine bnd h fun r5 g6 h => ?_
   refine o_o (one_call (p_f147 g6)) ?_
   refine o_r1 [(7, (vS a1))] ?_
   refine bnd h fun r7 g8 h => ?_
   refine o_o (one_call (p_f129 g8)) ?_
   refine o_r1 [(9, (vB r7))] ?_
   refine i_o [8, 9] h (fun h => ?_) (fun h => ?_)
   · refine o_r4 [(10, (.val undef)), (11, (.val undef)), (12, (.val undef)), (13, (vB true))] ?_
     exact o_end (w4 _ _ (wkm [0, 2, 13] (whk wh_nil)) h)
   · refine o_r2 [(10, (vL cS [(ByteArray.mk #[84, 114, 117, 101]), (ByteArray.mk #[70, 97, 108, 115, 101]), (ByteArray.mk #[86, 111, 105, 100]), (ByteArray.mk #[67, 117, 114, 114, 101, 110, 116]), (ByteArray.mk #[82, 101, 115, 117, 108, 116])])), (11, (vS a1))] ?_
     refine bnd h fun r10 g11 h => ?_
     refine o_g ?_
     refine o_o (one_call (p_f129 g11)) ?_
     refine o_r1 [(13, (vB r10))] ?_
     exact o_end (w4 _ _ (wkm [0, 2, 13] (whk wh_nil)) h)
theorem ic96 : fnIC Try.prog H0 96 = some ([.cell 2 143], 38, (.seq (.ops [zO 2 (.alloc 0 143 [] [(.int .i64 0), (.int .i64 0)])]) (.seq (.seq (.ops [zO 4 (.call 130 []), zM 5 0, zO 6 (.call 129 [(.t 4), (.t 5)])]) (.cond (.t 6)
  (.seq (.ops [zO 7 (.bld [(.int .i64 0), (.int .i64 0)] [(0, 1, (.c (.int .i64 5)))]), zU (.st true 2 [] (.t 2) (.t 7))]) .ret)
  .skip)) (.seq (.seq (.ops [zM 8 0, zO 9 (.len true (.t 8)), zO 10 (.sc (.bin .eql 3) [(.t 9), (.c (.int .i64 0))]), zM 11 10, zN 12 11 false 0, zG 13 11 false (.call 131 [(.t 12), (.c (.int .i64 0))]), zN 14 11 false 0, zG 15 11 false (.len true (.t 14)), zG 16 11 false (.sc (.bin .lss 3) [(.t 13), (.t 15)]), zO 17 (.pick (.t 11) (.c (.bool true)) (.t 16)), zM 18 17, zN 19 18 false 0, zG 20 18 false (.sc (.idx 9) [(.t 19), (.c (.int .i64 0))]), zG 21 18 false (.sc (.bin .eql 5) [(.t 20), (.c (.int .u8 95))]), zO 22 (.pick (.t 18) (.c (.bool true)) (.t 21))]) (.cond (.t 22)
  (.seq (.ops [zO 23 (.bld [(.int .i64 0), (.int .i64 0)] [(1, 1, (.c (.int .i64 2)))]), zU (.st true 2 [] (.t 2) (.t 23))]) .ret)
  .skip)) (.seq (.seq (.ops [zM 24 0, zO 25 (.sc (.idx 9) [(.t 24), (.c (.int .i64 0))]), zO 26 (.call 132 [(.t 25)])]) (.cond (.t 26)
  (.seq (.ops [zM 27 0, zO 28 (.call 133 [(.t 27)]), zO 3 (.alloc 0 186 [] [(.int .i64 0), (.int .i64 0)]), zU (.st true 2 [] (.t 3) (.t 28))]) (.seq (.seq (.ops [zO 29 (.faddr (.t 3) 1), zO 30 (.ld (.t 29) 1 false), zO 31 (.sc (.bin .neq 30) [(.t 30), (.c (.int .i64 0))])]) (.cond (.t 31)
  (.seq (.ops [zO 32 (.faddr (.t 3) 1), zO 33 (.ld (.t 32) 1 false), zO 34 (.bld [(.int .i64 0), (.int .i64 0)] [(1, 1, (.t 33))]), zU (.st true 2 [] (.t 2) (.t 34))]) .ret)
  .skip)) (.seq (.ops [zO 35 (.bld [(.int .i64 0), (.int .i64 0)] [(0, 1, (.c (.int .i64 4)))]), zU (.st true 2 [] (.t 2) (.t 35))]) .ret)))
  .skip)) (.seq (.ops [zM 36 0, zO 37 (.call 134 [(.t 36)]), zU (.st true 2 [] (.t 2) (.t 37))]) .ret)))))) := by kernel_rfl
def f96_k12 (a1 : ByteArray) (n : Nat) (x19 : Bool) : Option KE := (bif x19 then some (KE.mk 0 2) else ((si a1 0).bind fun c24 => ((f132 n c24).bind fun r26 => (bif r26 then ((f133 n a1).bind fun r30 => (bif (r30.fE != 0) then some (KE.mk 0 r30.fE) else some (KE.mk 4 0))) else ((f134 n a1).bind fun r38 => some (KE.mk r38.fK r38.fE))))))
def f96 (n : Nat) (a1 : ByteArray) : Option KE := ((f130 n).bind fun r5 => ((f129 n r5 a1).bind fun r7 => (bif r7 then some (KE.mk 5 0) else (bif ((bsz a1) == 0) then (f96_k12 a1 n true) else ((f131 n a1 0).bind fun r14 => (bif (decide (r14 < (bsz a1))) then (f96_k12 a1 n true) else ((si a1 0).bind fun c17 => (f96_k12 a1 n (c17 == 95)))))))))
def f96_r (r : KE) : AV := (.agg [(vI r.fK), (vI r.fE)])
theorem p_f96 {n : Nat} {a1 : ByteArray} {r : KE} (h : f96 n a1 = some r) : PureSpec Try.prog 96 [(vS a1)] (f96_r r) := by
 rw [f96.eq_1] at h
 refine pure_of hmix ic96 ?_
 refine go_to (mkd (.val undef) 38 0 [(0, (vS a1))]) ?_
 refine s_so fun N2 k2 w2 => ?_
 refine o_h1 [(2, (.ptr 0 0))] [(some (.box 143 [(vI 0), (vI 0)]))] ?_
 refine o_end (k2 _ ?_)
 refine s_seq fun N3 k3 w3 => ?_
 refine s_so fun N4 k4 w4 => ?_
 refine bnd h fun r5 g6 h => ?_
 refine o_o (one_call (p_f130 g6)) ?_
 refine o_r1 [(5, (vS a1))] ?_
 refine bnd h fun r7 g8 h => ?_
 refine o_o (one_call (p_f129 g8)) ?_
 refine o_end (k4 _ ?_)
 refine i_c [6] h (fun h => ?_) (fun h => ?_)
 · refine s_so fun N10 k10 w10 => ?_
   refine o_h2 [(7, (.agg [(vI 5), (vI 0)]))] [(some (.box 143 [(vI 5), (vI 0)]))] ?_
   refine o_end (k10 _ ?_)
   exact c_ret (rets [] [(.agg [(vI 5), (vI 0)])] [(.agg [(vI 5), (vI 0)])] h)
 · refine c_skip (k3 _ ?_)
   refine s_seq fun N11 k11 w11 => ?_
   refine J1 (r := r) (fun (x19 : Bool) => ⟨(mkd .any 38 0 [(0, (vS a1)), (2, (.ptr 0 0)), (22, (vB x19))]), [(some (.box 143 [(vI 0), (vI 0)]))]⟩) (f96_k12 a1 n) ?_ ?_
   · intro x19 h
     rw [f96_k12.eq_1] at h
     refine i_c [22] h (fun h => ?_) (fun h => ?_)
     · refine s_so fun N21 k21 w21 => ?_
       refine o_h2 [(23, (.agg [(vI 0), (vI 2)]))] [(some (.box 143 [(vI 0), (vI 2)]))] ?_
       refine o_end (k21 _ ?_)
       exact c_ret (rets [] [(.agg [(vI 0), (vI 2)])] [(.agg [(vI 0), (vI 2)])] h)
     · refine c_skip (k11 _ ?_)
       refine s_seq fun N22 k22 w22 => ?_
       refine s_so fun N23 k23 w23 => ?_
       refine o_r1 [(24, (vS a1))] ?_
       refine bnd h fun c24 g25 h => ?_
       refine o_o (one_idx (ki := .i64) g25) ?_
       refine bnd h fun r26 g27 h => ?_
       refine o_o (one_call (p_f132 g27)) ?_
       refine o_end (k23 _ ?_)
       refine i_c [26] h (fun h => ?_) (fun h => ?_)
       · refine s_so fun N29 k29 w29 => ?_
         refine o_r1 [(27, (vS a1))] ?_
         refine bnd h fun r30 g31 h => ?_
         refine o_o (one_call (p_f133 g31)) ?_
         refine o_h2 [(3, (.ptr 1 0))] [(some (.box 143 [(vI 0), (vI 0)])), (some (.box 186 [(vI r30.fN), (vI r30.fE)]))] ?_
         refine o_end (k29 _ ?_)
         refine s_seq fun N32 k32 w32 => ?_
         refine s_so fun N33 k33 w33 => ?_
         refine o_r3 [(29, (.ptr 1 1)), (30, (vI r30.fE)), (31, (vB (r30.fE != 0)))] ?_
         refine o_end (k33 _ ?_)
         refine i_c [31] h (fun h => ?_) (fun h => ?_)
         · refine s_so fun N35 k35 w35 => ?_
           refine o_h4 [(32, (.ptr 1 1)), (33, (vI r30.fE)), (34, (.agg [(vI 0), (vI r30.fE)]))] [(some (.box 143 [(vI 0), (vI r30.fE)])), (some (.box 186 [(vI r30.fN), (vI r30.fE)]))] ?_
           refine o_end (k35 _ ?_)
           exact c_ret (rets [] [(.agg [(vI 0), (vI r30.fE)])] [(.agg [(vI 0), (vI r30.fE)])] h)
         · refine c_skip (k32 _ ?_)
           refine s_so fun N36 k36 w36 => ?_
           refine o_h2 [(35, (.agg [(vI 4), (vI 0)]))] [(some (.box 143 [(vI 4), (vI 0)])), (some (.box 186 [(vI r30.fN), (vI r30.fE)]))] ?_
           refine o_end (k36 _ ?_)
           exact c_ret (rets [] [(.agg [(vI 4), (vI 0)])] [(.agg [(vI 4), (vI 0)])] h)
       · refine c_skip (k22 _ ?_)
         refine s_so fun N37 k37 w37 => ?_
         refine o_r1 [(36, (vS a1))] ?_
         refine bnd h fun r38 g39 h => ?_
         refine o_o (one_call (p_f134 g39)) ?_
         refine o_h1 [] [(some (.box 143 [(vI r38.fK), (vI r38.fE)]))] ?_
         refine o_end (k37 _ ?_)
         exact c_ret (rets [] [(.agg [(vI r38.fK), (vI r38.fE)])] [(.agg [(vI r38.fK), (vI r38.fE)])] h)
   · intro N12 w12
     refine c_ops ?_
     refine o_r4 [(8, (vS a1)), (9, (vI (bsz a1))), (10, (vB ((bsz a1) == 0))), (11, (vB ((bsz a1) == 0)))] ?_
     refine i_o [10, 11] h (fun h => ?_) (fun h => ?_)
     · refine o_r11 [(12, (.val undef)), (13, (.val undef)), (14, (.val undef)), (15, (.val undef)), (16, (.val undef)), (17, (vB true)), (18, (vB true)), (19, (.val undef)), (20, (.val undef)), (21, (.val undef)), (22, (vB true))] ?_
       exact o_end (w12 _ _ (wkm [0, 2, 22] (whk wh_nil)) h)
     · refine o_r1 [(12, (vS a1))] ?_
       refine bnd h fun r14 g15 h => ?_
       refine o_g ?_
       refine o_o (one_call (p_f131 g15)) ?_
       refine o_r5 [(14, (vS a1)), (15, (vI (bsz a1))), (16, (vB (decide (r14 < (bsz a1))))), (17, (vB (decide (r14 < (bsz a1))))), (18, (vB (decide (r14 < (bsz a1)))))] ?_
       refine i_o [16, 17, 18] h (fun h => ?_) (fun h => ?_)
       · refine o_r4 [(19, (.val undef)), (20, (.val undef)), (21, (.val undef)), (22, (vB true))] ?_
         refine s_tm (mkd (.val undef) 38 0 [(0, (vS a1)), (2, (.ptr 0 0)), (4, (vL cS r5)), (5, (vS a1)), (6, (vB false)), (8, (vS a1)), (9, (vI (bsz a1))), (10, (vB false)), (11, (vB false)), (12, (vS a1)), (13, (vI r14)), (14, (vS a1)), (15, (vI (bsz a1))), (16, (vB true)), (17, (vB true)), (18, (vB true)), (19, (.val undef)), (20, (.val undef)), (21, (.val undef)), (22, (vB true))]) ?_
         exact o_end (w12 _ _ (wkm [0, 2, 22] (whk wh_nil)) h)
       · refine o_r1 [(19, (vS a1))] ?_
         refine s_tm (mkd (.val undef) 38 0 [(0, (vS a1)), (2, (.ptr 0 0)), (4, (vL cS r5)), (5, (vS a1)), (6, (vB false)), (8, (vS a1)), (9, (vI (bsz a1))), (10, (vB false)), (11, (vB false)), (12, (vS a1)), (13, (vI r14)), (14, (vS a1)), (15, (vI (bsz a1))), (16, (vB false)), (17, (vB false)), (18, (vB false)), (19, (vS a1))]) ?_
         refine bnd h fun c17 g18 h => ?_
         refine o_g ?_
         refine o_o (one_idx (ki := .i64) g18) ?_
         refine o_r2 [(21, (vB (c17 == 95))), (22, (vB (c17 == 95)))] ?_
         exact o_end (w12 _ _ (wkm [0, 2, 22] (whk wh_nil)) h)
theorem ic54 : fnIC Try.prog H0 54 = some ([.tmp 2], 30, (.seq (.ops [zO 2 (.mov (.c (.bool false)))]) (.seq (.ops [zM 4 0, zO 5 (.call 96 [(.t 4)]), zO 3 (.alloc 0 143 [] [(.int .i64 0), (.int .i64 0)]), zU (.st true 2 [] (.t 3) (.t 5))]) (.seq (.ops [zO 6 (.faddr (.t 3) 1), zO 7 (.ld (.t 6) 1 false), zO 8 (.sc (.bin .eql 30) [(.t 7), (.c (.int .i64 0))]), zM 9 8, zG 10 9 true (.faddr (.t 3) 0), zG 11 9 true (.ld (.t 10) 1 false), zG 12 9 true (.sc (.bin .eql 3) [(.t 11), (.c (.int .i64 2))]), zO 13 (.pick (.t 9) (.t 12) (.c (.bool false))), zM 14 13, zN 15 14 true 0, zG 16 14 true (.sc (.bin .neq 9) [(.t 15), (.c (.string ⟨#[73, 78, 84, 69, 71, 69, 82]⟩))]), zO 17 (.pick (.t 14) (.t 16) (.c (.bool false))), zM 18 17, zN 19 18 true 0, zG 20 18 true (.sc (.bin .neq 9) [(.t 19), (.c (.string ⟨#[66, 79, 79, 76, 69, 65, 78]⟩))]), zO 21 (.pick (.t 18) (.t 20) (.c (.bool false))), zM 22 21, zN 23 22 true 0, zG 24 22 true (.sc (.bin .neq 9) [(.t 23), (.c (.string ⟨#[65, 78, 89]⟩))]), zO 25 (.pick (.t 22) (.t 24) (.c (.bool false))), zM 26 25, zN 27 26 true 0, zG 28 26 true (.sc (.bin .neq 9) [(.t 27), (.c (.string ⟨#[78, 79, 78, 69]⟩))]), zO 29 (.pick (.t 26) (.t 28) (.c (.bool false))), zM 2 29]) .ret)))) := by kernel_rfl
def f54_k6 (x16 : Bool) : Option Bool := some x16
def f54 (n : Nat) (a1 : ByteArray) : Option Bool := ((f96 n a1).bind fun r4 => (bif (r4.fE == 0) then (bif (r4.fK == 2) then (bif (!(sEqF a1 (ByteArray.mk #[73, 78, 84, 69, 71, 69, 82]))) then (bif (!(sEqF a1 (ByteArray.mk #[66, 79, 79, 76, 69, 65, 78]))) then (bif (!(sEqF a1 (ByteArray.mk #[65, 78, 89]))) then (f54_k6 (!(sEqF a1 (ByteArray.mk #[78, 79, 78, 69])))) else (f54_k6 false)) else (f54_k6 false)) else (f54_k6 false)) else (f54_k6 false)) else (f54_k6 false)))
def f54_r (r : Bool) : AV := (vB r)
theorem p_f54 {n : Nat} {a1 : ByteArray} {r : Bool} (h : f54 n a1 = some r) : PureSpec Try.prog 54 [(vS a1)] (f54_r r) := by
 rw [f54.eq_1] at h
 refine pure_of hmix ic54 ?_
 refine go_to (mkd (.val undef) 30 0 [(0, (vS a1))]) ?_
 refine s_so fun N2 k2 w2 => ?_
 refine o_r1 [(2, (vB false))] ?_
 refine o_end (k2 _ ?_)
 refine s_so fun N3 k3 w3 => ?_
 refine o_r1 [(4, (vS a1))] ?_
 refine bnd h fun r4 g5 h => ?_
 refine o_o (one_call (p_f96 g5)) ?_
 refine o_h2 [(3, (.ptr 0 0))] [(some (.box 143 [(vI r4.fK), (vI r4.fE)]))] ?_
 refine o_end (k3 _ ?_)
 refine J1 (r := r) (fun (x16 : Bool) => ⟨(mkd .any 30 0 [(2, (vB x16))]), []⟩) (f54_k6) ?_ ?_
 · intro x16 h
   rw [f54_k6.eq_1] at h
   exact c_ret (rets [] [(vB x16)] [(vB x16)] h)
 · intro N6 w6
   refine c_ops ?_
   refine o_r4 [(6, (.ptr 0 1)), (7, (vI r4.fE)), (8, (vB (r4.fE == 0))), (9, (vB (r4.fE == 0)))] ?_
   refine i_o [8, 9] h (fun h => ?_) (fun h => ?_)
   · refine o_r5 [(10, (.ptr 0 0)), (11, (vI r4.fK)), (12, (vB (r4.fK == 2))), (13, (vB (r4.fK == 2))), (14, (vB (r4.fK == 2)))] ?_
     refine i_o [12, 13, 14] h (fun h => ?_) (fun h => ?_)
     · refine o_r1 [(15, (vS a1))] ?_
       refine o_g ?_
       refine o_o (one_sc (vs := [.string a1, .string (ByteArray.mk #[73, 78, 84, 69, 71, 69, 82])]) (str_neq a1 (ByteArray.mk #[73, 78, 84, 69, 71, 69, 82]))) ?_
       refine o_r2 [(17, (vB (!(sEqF a1 (ByteArray.mk #[73, 78, 84, 69, 71, 69, 82]))))), (18, (vB (!(sEqF a1 (ByteArray.mk #[73, 78, 84, 69, 71, 69, 82])))))] ?_
       refine i_o [16, 17, 18] h (fun h => ?_) (fun h => ?_)
       · refine o_r1 [(19, (vS a1))] ?_
         refine s_tm (mkd (.val undef) 30 0 [(0, (vS a1)), (2, (vB false)), (3, (.ptr 0 0)), (4, (vS a1)), (5, (.agg [(vI r4.fK), (vI r4.fE)])), (6, (.ptr 0 1)), (7, (vI r4.fE)), (8, (vB true)), (9, (vB true)), (10, (.ptr 0 0)), (11, (vI r4.fK)), (12, (vB true)), (13, (vB true)), (14, (vB true)), (15, (vS a1)), (16, (vB true)), (17, (vB true)), (18, (vB true)), (19, (vS a1))]) ?_
         refine o_g ?_
         refine o_o (one_sc (vs := [.string a1, .string (ByteArray.mk #[66, 79, 79, 76, 69, 65, 78])]) (str_neq a1 (ByteArray.mk #[66, 79, 79, 76, 69, 65, 78]))) ?_
         refine o_r2 [(21, (vB (!(sEqF a1 (ByteArray.mk #[66, 79, 79, 76, 69, 65, 78]))))), (22, (vB (!(sEqF a1 (ByteArray.mk #[66, 79, 79, 76, 69, 65, 78])))))] ?_
         refine i_o [20, 21, 22] h (fun h => ?_) (fun h => ?_)
         · refine o_r1 [(23, (vS a1))] ?_
           refine o_g ?_
           refine o_o (one_sc (vs := [.string a1, .string (ByteArray.mk #[65, 78, 89])]) (str_neq a1 (ByteArray.mk #[65, 78, 89]))) ?_
           refine o_r2 [(25, (vB (!(sEqF a1 (ByteArray.mk #[65, 78, 89]))))), (26, (vB (!(sEqF a1 (ByteArray.mk #[65, 78, 89])))))] ?_
           refine i_o [24, 25, 26] h (fun h => ?_) (fun h => ?_)
           · refine o_r1 [(27, (vS a1))] ?_
             refine o_g ?_
             refine o_o (one_sc (vs := [.string a1, .string (ByteArray.mk #[78, 79, 78, 69])]) (str_neq a1 (ByteArray.mk #[78, 79, 78, 69]))) ?_
             refine o_r2 [(2, (vB (!(sEqF a1 (ByteArray.mk #[78, 79, 78, 69]))))), (29, (vB (!(sEqF a1 (ByteArray.mk #[78, 79, 78, 69])))))] ?_
             exact o_end (w6 _ _ (wkm [2] wh_nil) h)
           · refine o_r4 [(27, (.val undef)), (28, (.val undef)), (29, (vB false))] ?_
             exact o_end (w6 _ _ (wkm [2] wh_nil) h)
         · refine o_r8 [(23, (.val undef)), (24, (.val undef)), (25, (vB false)), (26, (vB false)), (27, (.val undef)), (28, (.val undef)), (29, (vB false))] ?_
           exact o_end (w6 _ _ (wkm [2] wh_nil) h)
       · refine o_r12 [(19, (.val undef)), (20, (.val undef)), (21, (vB false)), (22, (vB false)), (23, (.val undef)), (24, (.val undef)), (25, (vB false)), (26, (vB false)), (27, (.val undef)), (28, (.val undef)), (29, (vB false))] ?_
         refine s_tm (mkd (.val undef) 30 0 [(0, (vS a1)), (2, (vB false)), (3, (.ptr 0 0)), (4, (vS a1)), (5, (.agg [(vI r4.fK), (vI r4.fE)])), (6, (.ptr 0 1)), (7, (vI r4.fE)), (8, (vB true)), (9, (vB true)), (10, (.ptr 0 0)), (11, (vI r4.fK)), (12, (vB true)), (13, (vB true)), (14, (vB true)), (15, (vS a1)), (16, (vB false)), (17, (vB false)), (18, (vB false)), (19, (.val undef)), (20, (.val undef)), (21, (vB false)), (22, (vB false)), (23, (.val undef)), (24, (.val undef)), (25, (vB false)), (26, (vB false)), (27, (.val undef)), (28, (.val undef)), (29, (vB false))]) ?_
         exact o_end (w6 _ _ (wkm [2] wh_nil) h)
     · refine o_r16 [(15, (.val undef)), (16, (.val undef)), (17, (vB false)), (18, (vB false)), (19, (.val undef)), (20, (.val undef)), (21, (vB false)), (22, (vB false)), (23, (.val undef)), (24, (.val undef)), (25, (vB false)), (26, (vB false)), (27, (.val undef)), (28, (.val undef)), (29, (vB false))] ?_
       exact o_end (w6 _ _ (wkm [2] wh_nil) h)
   · refine o_r16 [(10, (.val undef)), (11, (.val undef)), (12, (.val undef)), (13, (vB false)), (14, (vB false)), (15, (.val undef)), (16, (.val undef)), (17, (vB false)), (18, (vB false)), (19, (.val undef)), (20, (.val undef)), (21, (vB false)), (22, (vB false)), (23, (.val undef)), (24, (.val undef)), (25, (vB false))] ?_
     refine o_r5 [(26, (vB false)), (27, (.val undef)), (28, (.val undef)), (29, (vB false))] ?_
     exact o_end (w6 _ _ (wkm [2] wh_nil) h)
theorem ic55 : fnIC Try.prog H0 55 = some ([.tmp 4], 20, (.seq (.ops [zO 4 (.mov (.c (.int .i64 0)))]) (.seq (.seq (.ops [zO 5 (.mov (.c (.int .i64 0)))]) (.block 0 (.loop (.seq (.seq (.ops [zM 6 5, zM 7 0, zO 8 (.len false (.t 7)), zO 9 (.sc (.bin .lss 3) [(.t 6), (.t 8)])]) (.cond (.t 9)
  .skip
  (.exit 0))) (.seq (.block 1 (.seq (.ops [zM 12 0, zM 13 5, zO 14 (.iaddr 2 (.t 12) (.t 13)), zO 15 (.faddr (.t 14) 0), zO 16 (.ld (.t 15) 1 false), zM 17 1, zO 18 (.sc (.bin .eql 9) [(.t 16), (.t 17)])]) (.cond (.t 18)
  (.seq (.ops [zM 19 5, zM 4 19]) .ret)
  .skip))) (.ops [zM 10 5, zO 11 (.sc (.bin .add 3) [(.t 10), (.c (.int .i64 1))]), zM 5 11])))))) (.seq (.ops [zO 4 (.mov (.c (.int .i64 (-1))))]) .ret)))) := by kernel_rfl
def f55_k4 : Option Int := some (-1)
def f55_l7 (a1 : (List Form)) (a2 : ByteArray) (k4k : Option Int) : Nat → Int → Option Int
  | 0, _ => none
  | m7 + 1, x20 => (bif (decide (x20 < (len a1))) then ((gi a1 x20).bind fun x28 => (bif (sEqF x28.fName a2) then some x20 else (f55_l7 a1 a2 (k4k) m7 (wr .i64 (x20 + 1))))) else (k4k))
def f55 (n : Nat) (a1 : (List Form)) (a2 : ByteArray) : Option Int := (f55_l7 a1 a2 (f55_k4) n 0)
def f55_r (r : Int) : AV := (vI r)
theorem p_f55 {n : Nat} {a1 : (List Form)} {a2 : ByteArray} {r : Int} (h : f55 n a1 a2 = some r) : PureSpec Try.prog 55 [(vL Form.c a1), (vS a2)] (f55_r r) := by
 rw [f55.eq_1] at h
 refine pure_of hmix ic55 ?_
 refine go_to (mkd (.val undef) 20 0 [(0, (vL Form.c a1)), (1, (vS a2))]) ?_
 refine s_so fun N3 k3 w3 => ?_
 refine o_r1 [(4, (vI 0))] ?_
 refine o_end (k3 _ ?_)
 refine J0 (r := r) ⟨(mkd .any 20 0 []), []⟩ (f55_k4) ?_ ?_
 · intro h
   rw [f55_k4.eq_1] at h
   refine s_so fun N33 k33 w33 => ?_
   refine o_r1 [(4, (vI (-1)))] ?_
   refine o_end (k33 _ ?_)
   exact c_ret (rets [] [(vI (-1))] [(vI (-1))] h)
 · intro N4 w4
   refine s_so fun N5 k5 w5 => ?_
   refine o_r1 [(5, (vI 0))] ?_
   refine o_end (k5 _ ?_)
   refine c_block fun E6 hE6 hO6 => ?_
   refine W1 (fun (x20 : Int) => ⟨(mkd .any 20 0 [(0, (vL Form.c a1)), (1, (vS a2)), (5, (vI x20))]), []⟩) (f55_l7 a1 a2 (f55_k4)) h (wkm [0, 1, 5] wh_nil) (by intros; rw [f55_l7.eq_1]) ?_
   intro m7 x20 h N7 w7
   rw [f55_l7.eq_2] at h
   refine s_seq fun N21 k21 w21 => ?_
   refine s_so fun N22 k22 w22 => ?_
   refine o_r2 [(6, (vI x20)), (7, (vL Form.c a1))] ?_
   refine o_o (one_len (f := Form.c) (l := a1)) ?_
   refine o_r1 [(9, (vB (decide (x20 < (len a1)))))] ?_
   refine o_end (k22 _ ?_)
   refine i_c [9] h (fun h => ?_) (fun h => ?_)
   · refine c_skip (k21 _ ?_)
     refine s_seq fun N25 k25 w25 => ?_
     refine c_block fun E26 hE26 hO26 => ?_
     refine s_so fun N27 k27 w27 => ?_
     refine o_r2 [(12, (vL Form.c a1)), (13, (vI x20))] ?_
     refine bnd h fun x28 g29 h => ?_
     refine o_o (one_ia (f := Form.c) (ki := .i64) g29) ?_
     refine o_r3 [(15, (.iptr [(vS x28.fName), (vL Col.c x28.fCols)])), (16, (vS x28.fName)), (17, (vS a2))] ?_
     refine o_o (one_sc (vs := [.string x28.fName, .string a2]) (str_eql x28.fName a2)) ?_
     refine o_end (k27 _ ?_)
     refine i_c [18] h (fun h => ?_) (fun h => ?_)
     · refine s_so fun N32 k32 w32 => ?_
       refine o_r2 [(4, (vI x20)), (19, (vI x20))] ?_
       refine o_end (k32 _ ?_)
       exact c_ret (rets [] [(vI x20)] [(vI x20)] h)
     · refine c_skip (k25 _ ?_)
       refine c_ops ?_
       refine o_r3 [(5, (vI (wr .i64 (x20 + 1)))), (10, (vI x20)), (11, (vI (wr .i64 (x20 + 1))))] ?_
       exact o_end (w7 _ _ (wkm [0, 1, 5] wh_nil) h)
   · refine c_exit (hE6 _ ?_)
     exact w4 _ (wkm [] wh_nil) h
theorem ic56 : fnIC Try.prog H0 56 = some ([.tmp 2], 77, (.seq (.ops [zO 2 (.mov (.c (.bool false)))]) (.seq (.seq (.ops [zM 5 0, zO 6 (.len true (.t 5)), zO 7 (.sc (.bin .lss 3) [(.t 6), (.c (.int .i64 1))]), zM 8 7, zN 9 8 false 0, zG 10 8 false (.len true (.t 9)), zG 11 8 false (.sc (.bin .gtr 3) [(.t 10), (.c (.int .i64 20))]), zO 12 (.pick (.t 8) (.c (.bool true)) (.t 11)), zM 13 12, zN 14 13 false 0, zG 15 13 false (.sc (.idx 9) [(.t 14), (.c (.int .i64 0))]), zG 16 13 false (.sc (.bin .lss 5) [(.t 15), (.c (.int .u8 97))]), zO 17 (.pick (.t 13) (.c (.bool true)) (.t 16)), zM 18 17, zN 19 18 false 0, zG 20 18 false (.sc (.idx 9) [(.t 19), (.c (.int .i64 0))]), zG 21 18 false (.sc (.bin .gtr 5) [(.t 20), (.c (.int .u8 122))]), zO 22 (.pick (.t 18) (.c (.bool true)) (.t 21))]) (.cond (.t 22)
  (.seq (.ops [zO 2 (.mov (.c (.bool false)))]) .ret)
  .skip)) (.seq (.seq (.ops [zO 3 (.mov (.c (.int .i64 0)))]) (.block 0 (.loop (.seq (.seq (.ops [zM 23 3, zM 24 0, zO 25 (.len true (.t 24)), zO 26 (.sc (.bin .lss 3) [(.t 23), (.t 25)])]) (.cond (.t 26)
  .skip
  (.exit 0))) (.seq (.block 1 (.seq (.ops [zM 29 0, zM 30 3, zO 31 (.sc (.idx 9) [(.t 29), (.t 30)]), zO 32 (.sc (.bin .geq 5) [(.t 31), (.c (.int .u8 97))]), zM 33 32, zN 34 33 true 0, zN 35 33 true 3, zG 36 33 true (.sc (.idx 9) [(.t 34), (.t 35)]), zG 37 33 true (.sc (.bin .leq 5) [(.t 36), (.c (.int .u8 122))]), zO 38 (.pick (.t 33) (.t 37) (.c (.bool false))), zM 39 38, zN 40 39 false 0, zN 41 39 false 3, zG 42 39 false (.sc (.idx 9) [(.t 40), (.t 41)]), zG 43 39 false (.sc (.bin .geq 5) [(.t 42), (.c (.int .u8 48))]), zN 44 39 false 43, zN 45 44 true 0, zN 46 44 true 3, zG 47 44 true (.sc (.idx 9) [(.t 45), (.t 46)]), zG 48 44 true (.sc (.bin .leq 5) [(.t 47), (.c (.int .u8 57))]), zG 49 39 false (.pick (.t 44) (.t 48) (.c (.bool false))), zO 50 (.pick (.t 39) (.c (.bool true)) (.t 49)), zM 51 50, zN 52 51 false 0, zN 53 51 false 3, zG 54 51 false (.sc (.idx 9) [(.t 52), (.t 53)]), zG 55 51 false (.sc (.bin .eql 5) [(.t 54), (.c (.int .u8 95))]), zO 56 (.pick (.t 51) (.c (.bool true)) (.t 55)), zM 4 56]) (.seq (.ops [zM 57 4, zO 58 (.sc (.un .not) [(.t 57)])]) (.cond (.t 58)
  (.seq (.ops [zO 2 (.mov (.c (.bool false)))]) .ret)
  .skip)))) (.ops [zM 27 3, zO 28 (.sc (.bin .add 3) [(.t 27), (.c (.int .i64 1))]), zM 3 28])))))) (.seq (.ops [zM 59 0, zO 60 (.sc (.bin .neq 9) [(.t 59), (.c (.string ⟨#[116, 114, 117, 101]⟩))]), zM 61 60, zN 62 61 true 0, zG 63 61 true (.sc (.bin .neq 9) [(.t 62), (.c (.string ⟨#[102, 97, 108, 115, 101]⟩))]), zO 64 (.pick (.t 61) (.t 63) (.c (.bool false))), zM 65 64, zN 66 65 true 0, zG 67 65 true (.sc (.bin .neq 9) [(.t 66), (.c (.string ⟨#[118, 111, 105, 100]⟩))]), zO 68 (.pick (.t 65) (.t 67) (.c (.bool false))), zM 69 68, zN 70 69 true 0, zG 71 69 true (.sc (.bin .neq 9) [(.t 70), (.c (.string ⟨#[99, 117, 114, 114, 101, 110, 116]⟩))]), zO 72 (.pick (.t 69) (.t 71) (.c (.bool false))), zM 73 72, zN 74 73 true 0, zG 75 73 true (.sc (.bin .neq 9) [(.t 74), (.c (.string ⟨#[114, 101, 115, 117, 108, 116]⟩))]), zO 76 (.pick (.t 73) (.t 75) (.c (.bool false))), zM 2 76]) .ret))))) := by kernel_rfl
def f56_k61 (x55 : Int) (c18k : Int → Option Bool) (x88 : Bool) : Option Bool := (bif (!x88) then some false else (c18k (wr .i64 (x55 + 1))))
def f56_k92 (x102 : Bool) : Option Bool := some x102
def f56_k15 (a1 : ByteArray) : Option Bool := (bif (!(sEqF a1 (ByteArray.mk #[116, 114, 117, 101]))) then (bif (!(sEqF a1 (ByteArray.mk #[102, 97, 108, 115, 101]))) then (bif (!(sEqF a1 (ByteArray.mk #[118, 111, 105, 100]))) then (bif (!(sEqF a1 (ByteArray.mk #[99, 117, 114, 114, 101, 110, 116]))) then (f56_k92 (!(sEqF a1 (ByteArray.mk #[114, 101, 115, 117, 108, 116])))) else (f56_k92 false)) else (f56_k92 false)) else (f56_k92 false)) else (f56_k92 false))
def f56_l18 (a1 : ByteArray) (k15k : Option Bool) : Nat → Int → Option Bool
  | 0, _ => none
  | m18 + 1, x55 => (bif (decide (x55 < (bsz a1))) then ((si a1 x55).bind fun c62 => (bif (decide (c62 ≥ 97)) then ((si a1 x55).bind fun c65 => (bif (decide (c65 ≤ 122)) then (f56_k61 x55 (f56_l18 a1 (k15k) m18) true) else ((si a1 x55).bind fun c68 => (bif (decide (c68 ≥ 48)) then ((si a1 x55).bind fun c71 => (bif (decide (c71 ≤ 57)) then (f56_k61 x55 (f56_l18 a1 (k15k) m18) true) else ((si a1 x55).bind fun c74 => (f56_k61 x55 (f56_l18 a1 (k15k) m18) (c74 == 95))))) else ((si a1 x55).bind fun c76 => (f56_k61 x55 (f56_l18 a1 (k15k) m18) (c76 == 95))))))) else ((si a1 x55).bind fun c78 => (bif (decide (c78 ≥ 48)) then ((si a1 x55).bind fun c81 => (bif (decide (c81 ≤ 57)) then (f56_k61 x55 (f56_l18 a1 (k15k) m18) true) else ((si a1 x55).bind fun c84 => (f56_k61 x55 (f56_l18 a1 (k15k) m18) (c84 == 95))))) else ((si a1 x55).bind fun c86 => (f56_k61 x55 (f56_l18 a1 (k15k) m18) (c86 == 95))))))) else (k15k))
def f56_k4 (n : Nat) (a1 : ByteArray) (x12 : Bool) : Option Bool := (bif x12 then some false else (f56_l18 a1 (f56_k15 a1) n 0))
def f56 (n : Nat) (a1 : ByteArray) : Option Bool := (bif (decide ((bsz a1) < 1)) then (f56_k4 n a1 true) else (bif (decide ((bsz a1) > 20)) then (f56_k4 n a1 true) else ((si a1 0).bind fun c7 => (bif (decide (c7 < 97)) then (f56_k4 n a1 true) else ((si a1 0).bind fun c10 => (f56_k4 n a1 (decide (c10 > 122))))))))
def f56_r (r : Bool) : AV := (vB r)
theorem p_f56 {n : Nat} {a1 : ByteArray} {r : Bool} (h : f56 n a1 = some r) : PureSpec Try.prog 56 [(vS a1)] (f56_r r) := by
 rw [f56.eq_1] at h
 refine pure_of hmix ic56 ?_
 refine go_to (mkd (.val undef) 77 0 [(0, (vS a1))]) ?_
 refine s_so fun N2 k2 w2 => ?_
 refine o_r1 [(2, (vB false))] ?_
 refine o_end (k2 _ ?_)
 refine s_seq fun N3 k3 w3 => ?_
 refine J1 (r := r) (fun (x12 : Bool) => ⟨(mkd .any 77 0 [(0, (vS a1)), (22, (vB x12))]), []⟩) (f56_k4 n a1) ?_ ?_
 · intro x12 h
   rw [f56_k4.eq_1] at h
   refine i_c [22] h (fun h => ?_) (fun h => ?_)
   · refine s_so fun N14 k14 w14 => ?_
     refine o_r1 [(2, (vB false))] ?_
     refine o_end (k14 _ ?_)
     exact c_ret (rets [] [(vB false)] [(vB false)] h)
   · refine c_skip (k3 _ ?_)
     refine J0 (r := r) ⟨(mkd .any 77 0 [(0, (vS a1))]), []⟩ (f56_k15 a1) ?_ ?_
     · intro h
       rw [f56_k15.eq_1] at h
       refine J1 (r := r) (fun (x102 : Bool) => ⟨(mkd .any 77 0 [(2, (vB x102))]), []⟩) (f56_k92) ?_ ?_
       · intro x102 h
         rw [f56_k92.eq_1] at h
         exact c_ret (rets [] [(vB x102)] [(vB x102)] h)
       · intro N92 w92
         refine c_ops ?_
         refine o_r1 [(59, (vS a1))] ?_
         refine o_o (one_sc (vs := [.string a1, .string (ByteArray.mk #[116, 114, 117, 101])]) (str_neq a1 (ByteArray.mk #[116, 114, 117, 101]))) ?_
         refine o_r1 [(61, (vB (!(sEqF a1 (ByteArray.mk #[116, 114, 117, 101])))))] ?_
         refine i_o [60, 61] h (fun h => ?_) (fun h => ?_)
         · refine o_r1 [(62, (vS a1))] ?_
           refine o_g ?_
           refine o_o (one_sc (vs := [.string a1, .string (ByteArray.mk #[102, 97, 108, 115, 101])]) (str_neq a1 (ByteArray.mk #[102, 97, 108, 115, 101]))) ?_
           refine o_r2 [(64, (vB (!(sEqF a1 (ByteArray.mk #[102, 97, 108, 115, 101]))))), (65, (vB (!(sEqF a1 (ByteArray.mk #[102, 97, 108, 115, 101])))))] ?_
           refine i_o [63, 64, 65] h (fun h => ?_) (fun h => ?_)
           · refine o_r1 [(66, (vS a1))] ?_
             refine o_g ?_
             refine o_o (one_sc (vs := [.string a1, .string (ByteArray.mk #[118, 111, 105, 100])]) (str_neq a1 (ByteArray.mk #[118, 111, 105, 100]))) ?_
             refine o_r2 [(68, (vB (!(sEqF a1 (ByteArray.mk #[118, 111, 105, 100]))))), (69, (vB (!(sEqF a1 (ByteArray.mk #[118, 111, 105, 100])))))] ?_
             refine i_o [67, 68, 69] h (fun h => ?_) (fun h => ?_)
             · refine o_r1 [(70, (vS a1))] ?_
               refine s_tm (mkd .any 77 0 [(0, (vS a1)), (59, (vS a1)), (60, (vB true)), (61, (vB true)), (62, (vS a1)), (63, (vB true)), (64, (vB true)), (65, (vB true)), (66, (vS a1)), (67, (vB true)), (68, (vB true)), (69, (vB true)), (70, (vS a1))]) ?_
               refine o_g ?_
               refine o_o (one_sc (vs := [.string a1, .string (ByteArray.mk #[99, 117, 114, 114, 101, 110, 116])]) (str_neq a1 (ByteArray.mk #[99, 117, 114, 114, 101, 110, 116]))) ?_
               refine o_r2 [(72, (vB (!(sEqF a1 (ByteArray.mk #[99, 117, 114, 114, 101, 110, 116]))))), (73, (vB (!(sEqF a1 (ByteArray.mk #[99, 117, 114, 114, 101, 110, 116])))))] ?_
               refine i_o [71, 72, 73] h (fun h => ?_) (fun h => ?_)
               · refine o_r1 [(74, (vS a1))] ?_
                 refine o_g ?_
                 refine o_o (one_sc (vs := [.string a1, .string (ByteArray.mk #[114, 101, 115, 117, 108, 116])]) (str_neq a1 (ByteArray.mk #[114, 101, 115, 117, 108, 116]))) ?_
                 refine o_r2 [(2, (vB (!(sEqF a1 (ByteArray.mk #[114, 101, 115, 117, 108, 116]))))), (76, (vB (!(sEqF a1 (ByteArray.mk #[114, 101, 115, 117, 108, 116])))))] ?_
                 exact o_end (w92 _ _ (wkm [2] wh_nil) h)
               · refine o_r4 [(2, (vB false)), (74, (.val undef)), (75, (.val undef)), (76, (vB false))] ?_
                 exact o_end (w92 _ _ (wkm [2] wh_nil) h)
             · refine o_r8 [(2, (vB false)), (70, (.val undef)), (71, (.val undef)), (72, (vB false)), (73, (vB false)), (74, (.val undef)), (75, (.val undef)), (76, (vB false))] ?_
               refine s_tm (mkd .any 77 0 [(0, (vS a1)), (2, (vB false)), (59, (vS a1)), (60, (vB true)), (61, (vB true)), (62, (vS a1)), (63, (vB true)), (64, (vB true)), (65, (vB true)), (66, (vS a1)), (67, (vB false)), (68, (vB false)), (69, (vB false)), (70, (.val undef)), (71, (.val undef)), (72, (vB false)), (73, (vB false)), (74, (.val undef)), (75, (.val undef)), (76, (vB false))]) ?_
               exact o_end (w92 _ _ (wkm [2] wh_nil) h)
           · refine o_r12 [(2, (vB false)), (66, (.val undef)), (67, (.val undef)), (68, (vB false)), (69, (vB false)), (70, (.val undef)), (71, (.val undef)), (72, (vB false)), (73, (vB false)), (74, (.val undef)), (75, (.val undef)), (76, (vB false))] ?_
             exact o_end (w92 _ _ (wkm [2] wh_nil) h)
         · refine o_r16 [(2, (vB false)), (62, (.val undef)), (63, (.val undef)), (64, (vB false)), (65, (vB false)), (66, (.val undef)), (67, (.val undef)), (68, (vB false)), (69, (vB false)), (70, (.val undef)), (71, (.val undef)), (72, (vB false)), (73, (vB false)), (74, (.val undef)), (75, (.val undef)), (76, (vB false))] ?_
           exact o_end (w92 _ _ (wkm [2] wh_nil) h)
     · intro N15 w15
       refine s_so fun N16 k16 w16 => ?_
       refine o_r1 [(3, (vI 0))] ?_
       refine o_end (k16 _ ?_)
       refine c_block fun E17 hE17 hO17 => ?_
       refine W1 (fun (x55 : Int) => ⟨(mkd .any 77 0 [(0, (vS a1)), (3, (vI x55))]), []⟩) (f56_l18 a1 (f56_k15 a1)) h (wkm [0, 3] wh_nil) (by intros; rw [f56_l18.eq_1]) ?_
       intro m18 x55 h N18 w18
       rw [f56_l18.eq_2] at h
       refine s_seq fun N56 k56 w56 => ?_
       refine s_so fun N57 k57 w57 => ?_
       refine o_r4 [(23, (vI x55)), (24, (vS a1)), (25, (vI (bsz a1))), (26, (vB (decide (x55 < (bsz a1)))))] ?_
       refine o_end (k57 _ ?_)
       refine i_c [26] h (fun h => ?_) (fun h => ?_)
       · refine c_skip (k56 _ ?_)
         refine s_seq fun N59 k59 w59 => ?_
         refine c_block fun E60 hE60 hO60 => ?_
         refine J1 (r := r) (fun (x88 : Bool) => ⟨(mkd .any 77 0 [(0, (vS a1)), (3, (vI x55)), (4, (vB x88))]), []⟩) (f56_k61 x55 (f56_l18 a1 (f56_k15 a1) m18)) ?_ ?_
         · intro x88 h
           rw [f56_k61.eq_1] at h
           refine s_so fun N89 k89 w89 => ?_
           refine o_r2 [(57, (vB x88)), (58, (vB (!x88)))] ?_
           refine o_end (k89 _ ?_)
           refine i_c [58] h (fun h => ?_) (fun h => ?_)
           · refine s_so fun N91 k91 w91 => ?_
             refine o_r1 [(2, (vB false))] ?_
             refine o_end (k91 _ ?_)
             exact c_ret (rets [] [(vB false)] [(vB false)] h)
           · refine c_skip (k59 _ ?_)
             refine c_ops ?_
             refine o_r3 [(3, (vI (wr .i64 (x55 + 1)))), (27, (vI x55)), (28, (vI (wr .i64 (x55 + 1))))] ?_
             exact o_end (w18 _ _ (wkm [0, 3] wh_nil) h)
         · intro N61 w61
           refine c_ops ?_
           refine o_r2 [(29, (vS a1)), (30, (vI x55))] ?_
           refine bnd h fun c62 g63 h => ?_
           refine o_o (one_idx (ki := .i64) g63) ?_
           refine o_r2 [(32, (vB (decide (c62 ≥ 97)))), (33, (vB (decide (c62 ≥ 97))))] ?_
           refine i_o [32, 33] h (fun h => ?_) (fun h => ?_)
           · refine o_r2 [(34, (vS a1)), (35, (vI x55))] ?_
             refine bnd h fun c65 g66 h => ?_
             refine o_g ?_
             refine o_o (one_idx (ki := .i64) g66) ?_
             refine o_r3 [(37, (vB (decide (c65 ≤ 122)))), (38, (vB (decide (c65 ≤ 122)))), (39, (vB (decide (c65 ≤ 122))))] ?_
             refine i_o [37, 38, 39] h (fun h => ?_) (fun h => ?_)
             · refine o_r16 [(40, (.val undef)), (41, (.val undef)), (42, (.val undef)), (43, (.val undef)), (44, (.val undef)), (45, (.val undef)), (46, (.val undef)), (47, (.val undef)), (48, (.val undef)), (49, (.val undef)), (50, (vB true)), (51, (vB true)), (52, (.val undef)), (53, (.val undef)), (54, (.val undef)), (55, (.val undef))] ?_
               refine o_r2 [(4, (vB true)), (56, (vB true))] ?_
               exact o_end (w61 _ _ (wkm [0, 3, 4] wh_nil) h)
             · refine o_r2 [(40, (vS a1)), (41, (vI x55))] ?_
               refine bnd h fun c68 g69 h => ?_
               refine o_g ?_
               refine o_o (one_idx (ki := .i64) g69) ?_
               refine o_r2 [(43, (vB (decide (c68 ≥ 48)))), (44, (vB (decide (c68 ≥ 48))))] ?_
               refine s_tm (mkd .any 77 0 [(0, (vS a1)), (3, (vI x55)), (23, (vI x55)), (24, (vS a1)), (25, (vI (bsz a1))), (26, (vB true)), (29, (vS a1)), (30, (vI x55)), (31, (vKi .u8 c62)), (32, (vB true)), (33, (vB true)), (34, (vS a1)), (35, (vI x55)), (36, (vKi .u8 c65)), (37, (vB false)), (38, (vB false)), (39, (vB false)), (40, (vS a1)), (41, (vI x55)), (42, (vKi .u8 c68)), (43, (vB (decide (c68 ≥ 48)))), (44, (vB (decide (c68 ≥ 48))))]) ?_
               refine i_o [43, 44] h (fun h => ?_) (fun h => ?_)
               · refine o_r2 [(45, (vS a1)), (46, (vI x55))] ?_
                 refine bnd h fun c71 g72 h => ?_
                 refine o_g ?_
                 refine o_o (one_idx (ki := .i64) g72) ?_
                 refine o_r4 [(48, (vB (decide (c71 ≤ 57)))), (49, (vB (decide (c71 ≤ 57)))), (50, (vB (decide (c71 ≤ 57)))), (51, (vB (decide (c71 ≤ 57))))] ?_
                 refine i_o [48, 49, 50, 51] h (fun h => ?_) (fun h => ?_)
                 · refine o_r6 [(4, (vB true)), (52, (.val undef)), (53, (.val undef)), (54, (.val undef)), (55, (.val undef)), (56, (vB true))] ?_
                   exact o_end (w61 _ _ (wkm [0, 3, 4] wh_nil) h)
                 · refine o_r2 [(52, (vS a1)), (53, (vI x55))] ?_
                   refine bnd h fun c74 g75 h => ?_
                   refine o_g ?_
                   refine o_o (one_idx (ki := .i64) g75) ?_
                   refine o_r3 [(4, (vB (c74 == 95))), (55, (vB (c74 == 95))), (56, (vB (c74 == 95)))] ?_
                   exact o_end (w61 _ _ (wkm [0, 3, 4] wh_nil) h)
               · refine o_r9 [(45, (.val undef)), (46, (.val undef)), (47, (.val undef)), (48, (.val undef)), (49, (vB false)), (50, (vB false)), (51, (vB false)), (52, (vS a1)), (53, (vI x55))] ?_
                 refine bnd h fun c76 g77 h => ?_
                 refine o_g ?_
                 refine o_o (one_idx (ki := .i64) g77) ?_
                 refine o_r3 [(4, (vB (c76 == 95))), (55, (vB (c76 == 95))), (56, (vB (c76 == 95)))] ?_
                 exact o_end (w61 _ _ (wkm [0, 3, 4] wh_nil) h)
           · refine o_r8 [(34, (.val undef)), (35, (.val undef)), (36, (.val undef)), (37, (.val undef)), (38, (vB false)), (39, (vB false)), (40, (vS a1)), (41, (vI x55))] ?_
             refine bnd h fun c78 g79 h => ?_
             refine o_g ?_
             refine o_o (one_idx (ki := .i64) g79) ?_
             refine o_r2 [(43, (vB (decide (c78 ≥ 48)))), (44, (vB (decide (c78 ≥ 48))))] ?_
             refine i_o [43, 44] h (fun h => ?_) (fun h => ?_)
             · refine o_r2 [(45, (vS a1)), (46, (vI x55))] ?_
               refine bnd h fun c81 g82 h => ?_
               refine o_g ?_
               refine o_o (one_idx (ki := .i64) g82) ?_
               refine o_r4 [(48, (vB (decide (c81 ≤ 57)))), (49, (vB (decide (c81 ≤ 57)))), (50, (vB (decide (c81 ≤ 57)))), (51, (vB (decide (c81 ≤ 57))))] ?_
               refine s_tm (mkd .any 77 0 [(0, (vS a1)), (3, (vI x55)), (23, (vI x55)), (24, (vS a1)), (25, (vI (bsz a1))), (26, (vB true)), (29, (vS a1)), (30, (vI x55)), (31, (vKi .u8 c62)), (32, (vB false)), (33, (vB false)), (34, (.val undef)), (35, (.val undef)), (36, (.val undef)), (37, (.val undef)), (38, (vB false)), (39, (vB false)), (40, (vS a1)), (41, (vI x55)), (42, (vKi .u8 c78)), (43, (vB true)), (44, (vB true)), (45, (vS a1)), (46, (vI x55)), (47, (vKi .u8 c81)), (48, (vB (decide (c81 ≤ 57)))), (49, (vB (decide (c81 ≤ 57)))), (50, (vB (decide (c81 ≤ 57)))), (51, (vB (decide (c81 ≤ 57))))]) ?_
               refine i_o [48, 49, 50, 51] h (fun h => ?_) (fun h => ?_)
               · refine o_r6 [(4, (vB true)), (52, (.val undef)), (53, (.val undef)), (54, (.val undef)), (55, (.val undef)), (56, (vB true))] ?_
                 exact o_end (w61 _ _ (wkm [0, 3, 4] wh_nil) h)
               · refine o_r2 [(52, (vS a1)), (53, (vI x55))] ?_
                 refine bnd h fun c84 g85 h => ?_
                 refine o_g ?_
                 refine o_o (one_idx (ki := .i64) g85) ?_
                 refine o_r3 [(4, (vB (c84 == 95))), (55, (vB (c84 == 95))), (56, (vB (c84 == 95)))] ?_
                 exact o_end (w61 _ _ (wkm [0, 3, 4] wh_nil) h)
             · refine o_r9 [(45, (.val undef)), (46, (.val undef)), (47, (.val undef)), (48, (.val undef)), (49, (vB false)), (50, (vB false)), (51, (vB false)), (52, (vS a1)), (53, (vI x55))] ?_
               refine bnd h fun c86 g87 h => ?_
               refine o_g ?_
               refine o_o (one_idx (ki := .i64) g87) ?_
               refine o_r3 [(4, (vB (c86 == 95))), (55, (vB (c86 == 95))), (56, (vB (c86 == 95)))] ?_
               refine s_tm (mkd .any 77 0 [(0, (vS a1)), (3, (vI x55)), (4, (vB (c86 == 95))), (23, (vI x55)), (24, (vS a1)), (25, (vI (bsz a1))), (26, (vB true)), (29, (vS a1)), (30, (vI x55)), (31, (vKi .u8 c62)), (32, (vB false)), (33, (vB false)), (34, (.val undef)), (35, (.val undef)), (36, (.val undef)), (37, (.val undef)), (38, (vB false)), (39, (vB false)), (40, (vS a1)), (41, (vI x55)), (42, (vKi .u8 c78)), (43, (vB false)), (44, (vB false)), (45, (.val undef)), (46, (.val undef)), (47, (.val undef)), (48, (.val undef)), (49, (vB false)), (50, (vB false)), (51, (vB false)), (52, (vS a1)), (53, (vI x55)), (54, (vKi .u8 c86)), (55, (vB (c86 == 95))), (56, (vB (c86 == 95)))]) ?_
               exact o_end (w61 _ _ (wkm [0, 3, 4] wh_nil) h)
       · refine c_exit (hE17 _ ?_)
         exact w15 _ (wkm [0] wh_nil) h
 · intro N4 w4
   refine c_ops ?_
   refine o_r4 [(5, (vS a1)), (6, (vI (bsz a1))), (7, (vB (decide ((bsz a1) < 1)))), (8, (vB (decide ((bsz a1) < 1))))] ?_
   refine i_o [7, 8] h (fun h => ?_) (fun h => ?_)
   · refine o_r14 [(9, (.val undef)), (10, (.val undef)), (11, (.val undef)), (12, (vB true)), (13, (vB true)), (14, (.val undef)), (15, (.val undef)), (16, (.val undef)), (17, (vB true)), (18, (vB true)), (19, (.val undef)), (20, (.val undef)), (21, (.val undef)), (22, (vB true))] ?_
     exact o_end (w4 _ _ (wkm [0, 22] wh_nil) h)
   · refine o_r5 [(9, (vS a1)), (10, (vI (bsz a1))), (11, (vB (decide ((bsz a1) > 20)))), (12, (vB (decide ((bsz a1) > 20)))), (13, (vB (decide ((bsz a1) > 20))))] ?_
     refine i_o [11, 12, 13] h (fun h => ?_) (fun h => ?_)
     · refine o_r9 [(14, (.val undef)), (15, (.val undef)), (16, (.val undef)), (17, (vB true)), (18, (vB true)), (19, (.val undef)), (20, (.val undef)), (21, (.val undef)), (22, (vB true))] ?_
       exact o_end (w4 _ _ (wkm [0, 22] wh_nil) h)
     · refine o_r1 [(14, (vS a1))] ?_
       refine bnd h fun c7 g8 h => ?_
       refine o_g ?_
       refine o_o (one_idx (ki := .i64) g8) ?_
       refine o_r3 [(16, (vB (decide (c7 < 97)))), (17, (vB (decide (c7 < 97)))), (18, (vB (decide (c7 < 97))))] ?_
       refine i_o [16, 17, 18] h (fun h => ?_) (fun h => ?_)
       · refine o_r4 [(19, (.val undef)), (20, (.val undef)), (21, (.val undef)), (22, (vB true))] ?_
         exact o_end (w4 _ _ (wkm [0, 22] wh_nil) h)
       · refine o_r1 [(19, (vS a1))] ?_
         refine bnd h fun c10 g11 h => ?_
         refine o_g ?_
         refine o_o (one_idx (ki := .i64) g11) ?_
         refine o_r2 [(21, (vB (decide (c10 > 122)))), (22, (vB (decide (c10 > 122))))] ?_
         refine s_tm (mkd (.val undef) 77 0 [(0, (vS a1)), (2, (vB false)), (5, (vS a1)), (6, (vI (bsz a1))), (7, (vB false)), (8, (vB false)), (9, (vS a1)), (10, (vI (bsz a1))), (11, (vB false)), (12, (vB false)), (13, (vB false)), (14, (vS a1)), (15, (vKi .u8 c7)), (16, (vB false)), (17, (vB false)), (18, (vB false)), (19, (vS a1)), (20, (vKi .u8 c10)), (21, (vB (decide (c10 > 122)))), (22, (vB (decide (c10 > 122))))]) ?_
         exact o_end (w4 _ _ (wkm [0, 22] wh_nil) h)
theorem ic57 : fnIC Try.prog H0 57 = some ([.tmp 4], 22, (.seq (.ops [zO 2 (.box 0 91 [(1, 93, 3, 0)] (.t 0)), zO 4 (.mov (.c (.int .i64 0)))]) (.seq (.seq (.ops [zO 5 (.mov (.c (.int .i64 0)))]) (.block 0 (.loop (.seq (.seq (.ops [zM 6 5, zO 7 (.faddr (.t 2) 1), zO 8 (.ld (.t 7) 1 false), zO 9 (.len false (.t 8)), zO 10 (.sc (.bin .lss 3) [(.t 6), (.t 9)])]) (.cond (.t 10)
  .skip
  (.exit 0))) (.seq (.block 1 (.seq (.ops [zO 13 (.faddr (.t 2) 1), zO 14 (.ld (.t 13) 1 false), zM 15 5, zO 16 (.iaddr 3 (.t 14) (.t 15)), zO 17 (.faddr (.t 16) 0), zO 18 (.ld (.t 17) 1 false), zM 19 1, zO 20 (.sc (.bin .eql 9) [(.t 18), (.t 19)])]) (.cond (.t 20)
  (.seq (.ops [zM 21 5, zM 4 21]) .ret)
  .skip))) (.ops [zM 11 5, zO 12 (.sc (.bin .add 3) [(.t 11), (.c (.int .i64 1))]), zM 5 12])))))) (.seq (.ops [zO 4 (.mov (.c (.int .i64 (-1))))]) .ret)))) := by kernel_rfl
def f57_k4 : Option Int := some (-1)
def f57_l7 (a1 : Form) (a2 : ByteArray) (k4k : Option Int) : Nat → Int → Option Int
  | 0, _ => none
  | m7 + 1, x20 => (bif (decide (x20 < (len a1.fCols))) then ((gi a1.fCols x20).bind fun x28 => (bif (sEqF x28.fName a2) then some x20 else (f57_l7 a1 a2 (k4k) m7 (wr .i64 (x20 + 1))))) else (k4k))
def f57 (n : Nat) (a1 : Form) (a2 : ByteArray) : Option Int := (f57_l7 a1 a2 (f57_k4) n 0)
def f57_r (r : Int) : AV := (vI r)
theorem p_f57 {n : Nat} {a1 : Form} {a2 : ByteArray} {r : Int} (h : f57 n a1 a2 = some r) : PureSpec Try.prog 57 [(.agg [(vS a1.fName), (vL Col.c a1.fCols)]), (vS a2)] (f57_r r) := by
 rw [f57.eq_1] at h
 refine pure_of hmix ic57 ?_
 refine go_to (mkd (.val undef) 22 0 [(0, (.agg [(vS a1.fName), (vL Col.c a1.fCols)])), (1, (vS a2))]) ?_
 refine s_so fun N3 k3 w3 => ?_
 refine o_h2 [(2, (.ptr 0 0)), (4, (vI 0))] [(some (.box 91 [(vS a1.fName), (vL Col.c a1.fCols)]))] ?_
 refine o_end (k3 _ ?_)
 refine J0 (r := r) ⟨(mkd .any 22 0 []), []⟩ (f57_k4) ?_ ?_
 · intro h
   rw [f57_k4.eq_1] at h
   refine s_so fun N33 k33 w33 => ?_
   refine o_r1 [(4, (vI (-1)))] ?_
   refine o_end (k33 _ ?_)
   exact c_ret (rets [] [(vI (-1))] [(vI (-1))] h)
 · intro N4 w4
   refine s_so fun N5 k5 w5 => ?_
   refine o_r1 [(5, (vI 0))] ?_
   refine o_end (k5 _ ?_)
   refine c_block fun E6 hE6 hO6 => ?_
   refine W1 (fun (x20 : Int) => ⟨(mkd .any 22 0 [(1, (vS a2)), (2, (.ptr 0 0)), (5, (vI x20))]), [(some (.box 91 [(vS a1.fName), (vL Col.c a1.fCols)]))]⟩) (f57_l7 a1 a2 (f57_k4)) h (wkm [1, 2, 5] (whk wh_nil)) (by intros; rw [f57_l7.eq_1]) ?_
   intro m7 x20 h N7 w7
   rw [f57_l7.eq_2] at h
   refine s_seq fun N21 k21 w21 => ?_
   refine s_so fun N22 k22 w22 => ?_
   refine o_r3 [(6, (vI x20)), (7, (.ptr 0 1)), (8, (vL Col.c a1.fCols))] ?_
   refine o_o (one_len (f := Col.c) (l := a1.fCols)) ?_
   refine o_r1 [(10, (vB (decide (x20 < (len a1.fCols)))))] ?_
   refine o_end (k22 _ ?_)
   refine i_c [10] h (fun h => ?_) (fun h => ?_)
   · refine c_skip (k21 _ ?_)
     refine s_seq fun N25 k25 w25 => ?_
     refine c_block fun E26 hE26 hO26 => ?_
     refine s_so fun N27 k27 w27 => ?_
     refine o_r3 [(13, (.ptr 0 1)), (14, (vL Col.c a1.fCols)), (15, (vI x20))] ?_
     refine bnd h fun x28 g29 h => ?_
     refine o_o (one_ia (f := Col.c) (ki := .i64) g29) ?_
     refine o_r3 [(17, (.iptr [(vS x28.fName), (vI x28.fKind), (vS x28.fClass)])), (18, (vS x28.fName)), (19, (vS a2))] ?_
     refine o_o (one_sc (vs := [.string x28.fName, .string a2]) (str_eql x28.fName a2)) ?_
     refine o_end (k27 _ ?_)
     refine i_c [20] h (fun h => ?_) (fun h => ?_)
     · refine s_so fun N32 k32 w32 => ?_
       refine o_r2 [(4, (vI x20)), (21, (vI x20))] ?_
       refine o_end (w32 _ ⟨(mkd .any 22 0 [(4, (vI x20))]), []⟩ (wkm [4] wh_nil) ?_)
       exact c_ret (rets [] [(vI x20)] [(vI x20)] h)
     · refine c_skip (k25 _ ?_)
       refine c_ops ?_
       refine o_r3 [(5, (vI (wr .i64 (x20 + 1)))), (11, (vI x20)), (12, (vI (wr .i64 (x20 + 1))))] ?_
       exact o_end (w7 _ _ (wkm [1, 2, 5] (whk wh_nil)) h)
   · refine c_exit (hE6 _ ?_)
     exact w4 _ (wkm [] wh_nil) h
theorem ic58 : fnIC Try.prog H0 58 = some ([.tmp 6], 15, (.seq (.ops [zO 6 (.mov (.c (.bool false)))]) (.seq (.ops [zM 7 0, zM 8 1, zO 9 (.sc (.bin .geq 3) [(.t 7), (.t 8)]), zM 10 9, zN 11 10 true 0, zN 12 10 true 2, zG 13 10 true (.sc (.bin .leq 3) [(.t 11), (.t 12)]), zO 14 (.pick (.t 10) (.t 13) (.c (.bool false))), zM 6 14]) .ret))) := by kernel_rfl
def f58_k5 (x7 : Bool) : Option Bool := some x7
def f58 (n : Nat) (a1 : Int) (a2 : Int) (a3 : Int) : Option Bool := (bif (decide (a1 ≥ a2)) then (f58_k5 (decide (a1 ≤ a3))) else (f58_k5 false))
def f58_r (r : Bool) : AV := (vB r)
theorem p_f58 {n : Nat} {a1 : Int} {a2 : Int} {a3 : Int} {r : Bool} (h : f58 n a1 a2 a3 = some r) : PureSpec Try.prog 58 [(vI a1), (vI a2), (vI a3)] (f58_r r) := by
 rw [f58.eq_1] at h
 refine pure_of hmix ic58 ?_
 refine go_to (mkd (.val undef) 15 0 [(0, (vI a1)), (1, (vI a2)), (2, (vI a3))]) ?_
 refine s_so fun N4 k4 w4 => ?_
 refine o_r1 [(6, (vB false))] ?_
 refine o_end (k4 _ ?_)
 refine J1 (r := r) (fun (x7 : Bool) => ⟨(mkd .any 15 0 [(6, (vB x7))]), []⟩) (f58_k5) ?_ ?_
 · intro x7 h
   rw [f58_k5.eq_1] at h
   exact c_ret (rets [] [(vB x7)] [(vB x7)] h)
 · intro N5 w5
   refine c_ops ?_
   refine o_r4 [(7, (vI a1)), (8, (vI a2)), (9, (vB (decide (a1 ≥ a2)))), (10, (vB (decide (a1 ≥ a2))))] ?_
   refine i_o [9, 10] h (fun h => ?_) (fun h => ?_)
   · refine o_r5 [(6, (vB (decide (a1 ≤ a3)))), (11, (vI a1)), (12, (vI a3)), (13, (vB (decide (a1 ≤ a3)))), (14, (vB (decide (a1 ≤ a3))))] ?_
     exact o_end (w5 _ _ (wkm [6] wh_nil) h)
   · refine o_r5 [(11, (.val undef)), (12, (.val undef)), (13, (.val undef)), (14, (vB false))] ?_
     exact o_end (w5 _ _ (wkm [6] wh_nil) h)
theorem ic17 : fnIC Try.prog H0 17 = some ([.tmp 2], 129, (.seq (.ops [zO 2 (.mov (.c (.int .i64 0)))]) (.seq (.seq (.ops [zM 11 0, zO 12 (.len false (.t 11)), zO 13 (.sc (.bin .gtr 3) [(.t 12), (.c (.int .i64 24))])]) (.cond (.t 13)
  (.seq (.ops [zO 2 (.mov (.c (.int .i64 3)))]) .ret)
  .skip)) (.seq (.seq (.ops [zO 3 (.mov (.c (.int .i64 0)))]) (.block 0 (.loop (.seq (.seq (.ops [zM 14 3, zM 15 0, zO 16 (.len false (.t 15)), zO 17 (.sc (.bin .lss 3) [(.t 14), (.t 16)])]) (.cond (.t 17)
  .skip
  (.exit 0))) (.seq (.block 1 (.seq (.ops [zM 20 0, zM 21 3, zO 22 (.iaddr 2 (.t 20) (.t 21)), zO 23 (.faddr (.t 22) 0), zO 24 (.ld (.t 23) 1 false), zO 25 (.call 54 [(.t 24)]), zM 4 25]) (.seq (.seq (.ops [zM 26 4, zO 27 (.sc (.un .not) [(.t 26)])]) (.cond (.t 27)
  (.seq (.ops [zO 2 (.mov (.c (.int .i64 4)))]) .ret)
  .skip)) (.seq (.seq (.ops [zM 28 0, zM 29 0, zM 30 3, zO 31 (.iaddr 2 (.t 29) (.t 30)), zO 32 (.faddr (.t 31) 0), zO 33 (.ld (.t 32) 1 false), zO 34 (.call 55 [(.t 28), (.t 33)]), zM 35 3, zO 36 (.sc (.bin .lss 3) [(.t 34), (.t 35)])]) (.cond (.t 36)
  (.seq (.ops [zO 2 (.mov (.c (.int .i64 6)))]) .ret)
  .skip)) (.seq (.seq (.ops [zM 37 0, zM 38 3, zO 39 (.iaddr 2 (.t 37) (.t 38)), zO 40 (.faddr (.t 39) 1), zO 41 (.ld (.t 40) 1 false), zO 42 (.len false (.t 41)), zO 43 (.sc (.bin .gtr 3) [(.t 42), (.c (.int .i64 30))])]) (.cond (.t 43)
  (.seq (.ops [zO 2 (.mov (.c (.int .i64 3)))]) .ret)
  .skip)) (.seq (.ops [zO 5 (.mov (.c (.int .i64 0)))]) (.block 2 (.loop (.seq (.seq (.ops [zM 44 5, zM 45 0, zM 46 3, zO 47 (.iaddr 2 (.t 45) (.t 46)), zO 48 (.faddr (.t 47) 1), zO 49 (.ld (.t 48) 1 false), zO 50 (.len false (.t 49)), zO 51 (.sc (.bin .lss 3) [(.t 44), (.t 50)])]) (.cond (.t 51)
  .skip
  (.exit 2))) (.seq (.block 3 (.seq (.ops [zM 54 0, zM 55 3, zO 56 (.iaddr 2 (.t 54) (.t 55)), zO 57 (.faddr (.t 56) 1), zO 58 (.ld (.t 57) 1 false), zM 59 5, zO 60 (.iaddr 3 (.t 58) (.t 59)), zO 61 (.ld (.t 60) 3 true), zO 6 (.alloc 0 93 [] [(.string ⟨#[]⟩), (.int .i64 0), (.string ⟨#[]⟩)]), zU (.st true 3 [] (.t 6) (.t 61))]) (.seq (.ops [zO 62 (.faddr (.t 6) 0), zO 63 (.ld (.t 62) 1 false), zO 64 (.call 56 [(.t 63)]), zM 7 64]) (.seq (.seq (.ops [zM 65 7, zO 66 (.sc (.un .not) [(.t 65)])]) (.cond (.t 66)
  (.seq (.ops [zO 2 (.mov (.c (.int .i64 4)))]) .ret)
  .skip)) (.seq (.seq (.draw [] [zQ (zM 67 0), zQ (zM 68 3), zQ (zO 69 (.iaddr 2 (.t 67) (.t 68))), zQ (zO 70 (.ld (.t 69) 2 true)), zQ (zO 71 (.faddr (.t 6) 0)), zQ (zO 72 (.ld (.t 71) 1 false)), zQ (zO 73 (.call 57 [(.t 70), (.t 72)])), zQ (zM 74 5), zQ (zO 75 (.sc (.bin .lss 3) [(.t 73), (.t 74)]))]) (.cond (.t 75)
  (.seq (.ops [zO 2 (.mov (.c (.int .i64 6)))]) .ret)
  .skip)) (.seq (.ops [zO 76 (.faddr (.t 6) 1), zO 77 (.ld (.t 76) 1 false), zO 78 (.call 58 [(.t 77), (.c (.int .i64 1)), (.c (.int .i64 3))]), zO 79 (.sc (.un .not) [(.t 78)]), zM 80 79, zG 81 80 false (.faddr (.t 6) 1), zG 82 80 false (.ld (.t 81) 1 false), zG 83 80 false (.sc (.bin .neq 3) [(.t 82), (.c (.int .i64 3))]), zN 84 80 false 83, zG 85 84 true (.faddr (.t 6) 2), zG 86 84 true (.ld (.t 85) 1 false), zG 87 84 true (.sc (.bin .neq 9) [(.t 86), (.c (.string ⟨#[]⟩))]), zG 88 80 false (.pick (.t 84) (.t 87) (.c (.bool false))), zO 89 (.pick (.t 80) (.c (.bool true)) (.t 88))]) (.cond (.t 89)
  (.seq (.ops [zO 2 (.mov (.c (.int .i64 1)))]) .ret)
  .skip))))))) (.ops [zM 52 5, zO 53 (.sc (.bin .add 3) [(.t 52), (.c (.int .i64 1))]), zM 5 53]))))))))))) (.ops [zM 18 3, zO 19 (.sc (.bin .add 3) [(.t 18), (.c (.int .i64 1))]), zM 3 19])))))) (.seq (.seq (.ops [zO 8 (.mov (.c (.int .i64 0)))]) (.block 4 (.loop (.seq (.seq (.ops [zM 90 8, zM 91 0, zO 92 (.len false (.t 91)), zO 93 (.sc (.bin .lss 3) [(.t 90), (.t 92)])]) (.cond (.t 93)
  .skip
  (.exit 4))) (.seq (.block 5 (.seq (.ops [zO 9 (.mov (.c (.int .i64 0)))]) (.block 6 (.loop (.seq (.seq (.ops [zM 96 9, zM 97 0, zM 98 8, zO 99 (.iaddr 2 (.t 97) (.t 98)), zO 100 (.faddr (.t 99) 1), zO 101 (.ld (.t 100) 1 false), zO 102 (.len false (.t 101)), zO 103 (.sc (.bin .lss 3) [(.t 96), (.t 102)])]) (.cond (.t 103)
  .skip
  (.exit 6))) (.seq (.block 7 (.seq (.ops [zM 106 0, zM 107 8, zO 108 (.iaddr 2 (.t 106) (.t 107)), zO 109 (.faddr (.t 108) 1), zO 110 (.ld (.t 109) 1 false), zM 111 9, zO 112 (.iaddr 3 (.t 110) (.t 111)), zO 113 (.ld (.t 112) 3 true), zO 10 (.alloc 0 93 [] [(.string ⟨#[]⟩), (.int .i64 0), (.string ⟨#[]⟩)]), zU (.st true 3 [] (.t 10) (.t 113))]) (.seq (.ops [zO 114 (.faddr (.t 10) 1), zO 115 (.ld (.t 114) 1 false), zO 116 (.sc (.bin .eql 3) [(.t 115), (.c (.int .i64 3))]), zM 117 116, zG 118 117 true (.faddr (.t 10) 2), zG 119 117 true (.ld (.t 118) 1 false), zG 120 117 true (.sc (.bin .neq 9) [(.t 119), (.c (.string ⟨#[65, 78, 89]⟩))]), zO 121 (.pick (.t 117) (.t 120) (.c (.bool false))), zM 122 121, zN 123 122 true 0, zG 124 122 true (.faddr (.t 10) 2), zG 125 122 true (.ld (.t 124) 1 false), zG 126 122 true (.call 55 [(.t 123), (.t 125)]), zG 127 122 true (.sc (.bin .lss 3) [(.t 126), (.c (.int .i64 0))]), zO 128 (.pick (.t 122) (.t 127) (.c (.bool false)))]) (.cond (.t 128)
  (.seq (.ops [zO 2 (.mov (.c (.int .i64 5)))]) .ret)
  .skip)))) (.ops [zM 104 9, zO 105 (.sc (.bin .add 3) [(.t 104), (.c (.int .i64 1))]), zM 9 105]))))))) (.ops [zM 94 8, zO 95 (.sc (.bin .add 3) [(.t 94), (.c (.int .i64 1))]), zM 8 95])))))) (.seq (.ops [zO 2 (.mov (.c (.int .i64 0)))]) .ret)))))) := by kernel_rfl
def f17_k220 (x191 : Int) (c153k : Int → Option Int) (x226 : Bool) : Option Int := (bif x226 then some 1 else (c153k (wr .i64 (x191 + 1))))
def f17_k125 (x120 : Int) (c11k : Int → Option Int) : Option Int := (c11k (wr .i64 (x120 + 1)))
def f17_l153 (a1 : (List Form)) (x120 : Int) (n : Nat) (k125k : Option Int) : Nat → Int → Option Int
  | 0, _ => none
  | m153 + 1, x191 => ((gi a1 x120).bind fun x194 => (bif (decide (x191 < (len x194.fCols))) then ((gi a1 x120).bind fun x201 => ((gi x201.fCols x191).bind fun x203 => ((f56 n x203.fName).bind fun r206 => (bif (!r206) then some 4 else ((gi a1 x120).bind fun x214 => ((f57 n x214 x203.fName).bind fun r216 => (bif (decide (r216 < x191)) then some 6 else ((f58 n x203.fKind 1 3).bind fun r221 => (bif (!r221) then (f17_k220 x191 (f17_l153 a1 x120 n (k125k) m153) true) else (bif (x203.fKind != 3) then (f17_k220 x191 (f17_l153 a1 x120 n (k125k) m153) (!(sEqF x203.fClass (ByteArray.mk #[])))) else (f17_k220 x191 (f17_l153 a1 x120 n (k125k) m153) false))))))))))) else (k125k)))
def f17_k333 (x319 : Int) (c296k : Int → Option Int) (x339 : Bool) : Option Int := (bif x339 then some 5 else (c296k (wr .i64 (x319 + 1))))
def f17_k292 (x287 : Int) (c232k : Int → Option Int) : Option Int := (c232k (wr .i64 (x287 + 1)))
def f17_l296 (a1 : (List Form)) (x287 : Int) (n : Nat) (k292k : Option Int) : Nat → Int → Option Int
  | 0, _ => none
  | m296 + 1, x319 => ((gi a1 x287).bind fun x322 => (bif (decide (x319 < (len x322.fCols))) then ((gi a1 x287).bind fun x329 => ((gi x329.fCols x319).bind fun x331 => (bif (x331.fKind == 3) then (bif (!(sEqF x331.fClass (ByteArray.mk #[65, 78, 89]))) then ((f55 n a1 x331.fClass).bind fun r337 => (f17_k333 x319 (f17_l296 a1 x287 n (k292k) m296) (decide (r337 < 0)))) else (f17_k333 x319 (f17_l296 a1 x287 n (k292k) m296) false)) else (f17_k333 x319 (f17_l296 a1 x287 n (k292k) m296) false)))) else (k292k)))
def f17_k229 : Option Int := some 0
def f17_l232 (a1 : (List Form)) (n : Nat) (k229k : Option Int) : Nat → Int → Option Int
  | 0, _ => none
  | m232 + 1, x287 => (bif (decide (x287 < (len a1))) then (f17_l296 a1 x287 n (f17_k292 x287 (f17_l232 a1 n (k229k) m232)) n 0) else (k229k))
def f17_k8 (n : Nat) (a1 : (List Form)) : Option Int := (f17_l232 a1 n (f17_k229) n 0)
def f17_l11 (a1 : (List Form)) (n : Nat) (k8k : Option Int) : Nat → Int → Option Int
  | 0, _ => none
  | m11 + 1, x120 => (bif (decide (x120 < (len a1))) then ((gi a1 x120).bind fun x128 => ((f54 n x128.fName).bind fun r130 => (bif (!r130) then some 4 else ((gi a1 x120).bind fun x138 => ((f55 n a1 x138.fName).bind fun r140 => (bif (decide (r140 < x120)) then some 6 else ((gi a1 x120).bind fun x146 => (bif (decide ((len x146.fCols) > 30)) then some 3 else (f17_l153 a1 x120 n (f17_k125 x120 (f17_l11 a1 n (k8k) m11)) n 0))))))))) else (k8k))
def f17 (n : Nat) (a1 : (List Form)) : Option Int := (bif (decide ((len a1) > 24)) then some 3 else (f17_l11 a1 n (f17_k8 n a1) n 0))
def f17_r (r : Int) : AV := (vI r)
theorem p_f17 {n : Nat} {a1 : (List Form)} {r : Int} (h : f17 n a1 = some r) : PureSpec Try.prog 17 [(vL Form.c a1)] (f17_r r) := by
 rw [f17.eq_1] at h
 refine pure_of hmix ic17 ?_
 refine go_to (mkd (.val undef) 129 0 [(0, (vL Form.c a1))]) ?_
 refine s_so fun N2 k2 w2 => ?_
 refine o_r1 [(2, (vI 0))] ?_
 refine o_end (k2 _ ?_)
 refine s_seq fun N3 k3 w3 => ?_
 refine s_so fun N4 k4 w4 => ?_
 refine o_r1 [(11, (vL Form.c a1))] ?_
 refine o_o (one_len (f := Form.c) (l := a1)) ?_
 refine o_r1 [(13, (vB (decide ((len a1) > 24))))] ?_
 refine o_end (k4 _ ?_)
 refine i_c [13] h (fun h => ?_) (fun h => ?_)
 · refine s_so fun N7 k7 w7 => ?_
   refine o_r1 [(2, (vI 3))] ?_
   refine o_end (k7 _ ?_)
   exact c_ret (rets [] [(vI 3)] [(vI 3)] h)
 · refine c_skip (k3 _ ?_)
   refine J0 (r := r) ⟨(mkd .any 129 0 [(0, (vL Form.c a1))]), []⟩ (f17_k8 n a1) ?_ ?_
   · intro h
     rw [f17_k8.eq_1] at h
     refine J0 (r := r) ⟨(mkd .any 129 0 []), []⟩ (f17_k229) ?_ ?_
     · intro h
       rw [f17_k229.eq_1] at h
       refine s_so fun N342 k342 w342 => ?_
       refine o_r1 [(2, (vI 0))] ?_
       refine o_end (k342 _ ?_)
       exact c_ret (rets [] [(vI 0)] [(vI 0)] h)
     · intro N229 w229
       refine s_so fun N230 k230 w230 => ?_
       refine o_r1 [(8, (vI 0))] ?_
       refine o_end (k230 _ ?_)
       refine c_block fun E231 hE231 hO231 => ?_
       refine W1 (fun (x287 : Int) => ⟨(mkd .any 129 0 [(0, (vL Form.c a1)), (8, (vI x287))]), []⟩) (f17_l232 a1 n (f17_k229)) h (wkm [0, 8] wh_nil) (by intros; rw [f17_l232.eq_1]) ?_
       intro m232 x287 h N232 w232
       rw [f17_l232.eq_2] at h
       refine s_seq fun N288 k288 w288 => ?_
       refine s_so fun N289 k289 w289 => ?_
       refine o_r2 [(90, (vI x287)), (91, (vL Form.c a1))] ?_
       refine o_o (one_len (f := Form.c) (l := a1)) ?_
       refine o_r1 [(93, (vB (decide (x287 < (len a1)))))] ?_
       refine o_end (k289 _ ?_)
       refine i_c [93] h (fun h => ?_) (fun h => ?_)
       · refine c_skip (k288 _ ?_)
         refine J0 (r := r) ⟨(mkd .any 129 0 [(0, (vL Form.c a1)), (8, (vI x287))]), []⟩ (f17_k292 x287 (f17_l232 a1 n (f17_k229) m232)) ?_ ?_
         · intro h
           rw [f17_k292.eq_1] at h
           refine c_ops ?_
           refine o_r3 [(8, (vI (wr .i64 (x287 + 1)))), (94, (vI x287)), (95, (vI (wr .i64 (x287 + 1))))] ?_
           exact o_end (w232 _ _ (wkm [0, 8] wh_nil) h)
         · intro N292 w292
           refine c_block fun E293 hE293 hO293 => ?_
           refine s_so fun N294 k294 w294 => ?_
           refine o_r1 [(9, (vI 0))] ?_
           refine o_end (k294 _ ?_)
           refine c_block fun E295 hE295 hO295 => ?_
           refine W1 (fun (x319 : Int) => ⟨(mkd .any 129 0 [(0, (vL Form.c a1)), (8, (vI x287)), (9, (vI x319))]), []⟩) (f17_l296 a1 x287 n (f17_k292 x287 (f17_l232 a1 n (f17_k229) m232))) h (wkm [0, 8, 9] wh_nil) (by intros; rw [f17_l296.eq_1]) ?_
           intro m296 x319 h N296 w296
           rw [f17_l296.eq_2] at h
           refine s_seq fun N320 k320 w320 => ?_
           refine s_so fun N321 k321 w321 => ?_
           refine o_r3 [(96, (vI x319)), (97, (vL Form.c a1)), (98, (vI x287))] ?_
           refine bnd h fun x322 g323 h => ?_
           refine o_o (one_ia (f := Form.c) (ki := .i64) g323) ?_
           refine o_r2 [(100, (.iptr [(vL Col.c x322.fCols)])), (101, (vL Col.c x322.fCols))] ?_
           refine o_o (one_len (f := Col.c) (l := x322.fCols)) ?_
           refine o_r1 [(103, (vB (decide (x319 < (len x322.fCols)))))] ?_
           refine o_end (k321 _ ?_)
           refine i_c [103] h (fun h => ?_) (fun h => ?_)
           · refine c_skip (k320 _ ?_)
             refine s_seq fun N326 k326 w326 => ?_
             refine c_block fun E327 hE327 hO327 => ?_
             refine s_so fun N328 k328 w328 => ?_
             refine o_r2 [(106, (vL Form.c a1)), (107, (vI x287))] ?_
             refine bnd h fun x329 g330 h => ?_
             refine o_o (one_ia (f := Form.c) (ki := .i64) g330) ?_
             refine o_r3 [(109, (.iptr [(vL Col.c x329.fCols)])), (110, (vL Col.c x329.fCols)), (111, (vI x319))] ?_
             refine bnd h fun x331 g332 h => ?_
             refine o_o (one_ia (f := Col.c) (ki := .i64) g332) ?_
             refine o_h3 [(10, (.ptr 0 0)), (113, (.agg [(vS x331.fName), (vI x331.fKind), (vS x331.fClass)]))] [(some (.box 93 [(vS x331.fName), (vI x331.fKind), (vS x331.fClass)]))] ?_
             refine o_end (w328 _ ⟨(mkd .any 129 0 [(0, (vL Form.c a1)), (8, (vI x287)), (9, (vI x319)), (10, (.ptr 0 0))]), [(some (.box 93 [(vS x331.fName), (vI x331.fKind), (vS x331.fClass)]))]⟩ (wkm [0, 8, 9, 10] (whk wh_nil)) ?_)
             refine J1 (r := r) (fun (x339 : Bool) => ⟨(mkd .any 129 0 [(0, (vL Form.c a1)), (8, (vI x287)), (9, (vI x319)), (128, (vB x339))]), []⟩) (f17_k333 x319 (f17_l296 a1 x287 n (f17_k292 x287 (f17_l232 a1 n (f17_k229) m232)) m296)) ?_ ?_
             · intro x339 h
               rw [f17_k333.eq_1] at h
               refine i_c [128] h (fun h => ?_) (fun h => ?_)
               · refine s_so fun N341 k341 w341 => ?_
                 refine o_r1 [(2, (vI 5))] ?_
                 refine o_end (k341 _ ?_)
                 exact c_ret (rets [] [(vI 5)] [(vI 5)] h)
               · refine c_skip (k326 _ ?_)
                 refine c_ops ?_
                 refine o_r3 [(9, (vI (wr .i64 (x319 + 1)))), (104, (vI x319)), (105, (vI (wr .i64 (x319 + 1))))] ?_
                 exact o_end (w296 _ _ (wkm [0, 8, 9] wh_nil) h)
             · intro N333 w333
               refine c_ops ?_
               refine o_r4 [(114, (.ptr 0 1)), (115, (vI x331.fKind)), (116, (vB (x331.fKind == 3))), (117, (vB (x331.fKind == 3)))] ?_
               refine i_o [116, 117] h (fun h => ?_) (fun h => ?_)
               · refine o_r2 [(118, (.ptr 0 2)), (119, (vS x331.fClass))] ?_
                 refine o_g ?_
                 refine o_o (one_sc (vs := [.string x331.fClass, .string (ByteArray.mk #[65, 78, 89])]) (str_neq x331.fClass (ByteArray.mk #[65, 78, 89]))) ?_
                 refine o_r2 [(121, (vB (!(sEqF x331.fClass (ByteArray.mk #[65, 78, 89]))))), (122, (vB (!(sEqF x331.fClass (ByteArray.mk #[65, 78, 89])))))] ?_
                 refine i_o [120, 121, 122] h (fun h => ?_) (fun h => ?_)
                 · refine o_r3 [(123, (vL Form.c a1)), (124, (.ptr 0 2)), (125, (vS x331.fClass))] ?_
                   refine bnd h fun r337 g338 h => ?_
                   refine o_g ?_
                   refine o_o (one_call (p_f55 g338)) ?_
                   refine o_r2 [(127, (vB (decide (r337 < 0)))), (128, (vB (decide (r337 < 0))))] ?_
                   exact o_end (w333 _ _ (wkm [0, 8, 9, 128] wh_nil) h)
                 · refine o_r6 [(123, (.val undef)), (124, (.val undef)), (125, (.val undef)), (126, (.val undef)), (127, (.val undef)), (128, (vB false))] ?_
                   exact o_end (w333 _ _ (wkm [0, 8, 9, 128] wh_nil) h)
               · refine o_r11 [(118, (.val undef)), (119, (.val undef)), (120, (.val undef)), (121, (vB false)), (122, (vB false)), (123, (.val undef)), (124, (.val undef)), (125, (.val undef)), (126, (.val undef)), (127, (.val undef)), (128, (vB false))] ?_
                 exact o_end (w333 _ _ (wkm [0, 8, 9, 128] wh_nil) h)
           · refine c_exit (hE295 _ ?_)
             exact w292 _ (wkm [0, 8] wh_nil) h
       · refine c_exit (hE231 _ ?_)
         exact w229 _ (wkm [] wh_nil) h
   · intro N8 w8
     refine s_so fun N9 k9 w9 => ?_
     refine o_r1 [(3, (vI 0))] ?_
     refine o_end (k9 _ ?_)
     refine c_block fun E10 hE10 hO10 => ?_
     refine W1 (fun (x120 : Int) => ⟨(mkd .any 129 0 [(0, (vL Form.c a1)), (3, (vI x120))]), []⟩) (f17_l11 a1 n (f17_k8 n a1)) h (wkm [0, 3] wh_nil) (by intros; rw [f17_l11.eq_1]) ?_
     intro m11 x120 h N11 w11
     rw [f17_l11.eq_2] at h
     refine s_seq fun N121 k121 w121 => ?_
     refine s_so fun N122 k122 w122 => ?_
     refine o_r2 [(14, (vI x120)), (15, (vL Form.c a1))] ?_
     refine o_o (one_len (f := Form.c) (l := a1)) ?_
     refine o_r1 [(17, (vB (decide (x120 < (len a1)))))] ?_
     refine o_end (k122 _ ?_)
     refine i_c [17] h (fun h => ?_) (fun h => ?_)
     · refine c_skip (k121 _ ?_)
       refine J0 (r := r) ⟨(mkd .any 129 0 [(0, (vL Form.c a1)), (3, (vI x120))]), []⟩ (f17_k125 x120 (f17_l11 a1 n (f17_k8 n a1) m11)) ?_ ?_
       · intro h
         rw [f17_k125.eq_1] at h
         refine c_ops ?_
         refine o_r3 [(3, (vI (wr .i64 (x120 + 1)))), (18, (vI x120)), (19, (vI (wr .i64 (x120 + 1))))] ?_
         exact o_end (w11 _ _ (wkm [0, 3] wh_nil) h)
       · intro N125 w125
         refine c_block fun E126 hE126 hO126 => ?_
         refine s_so fun N127 k127 w127 => ?_
         refine o_r2 [(20, (vL Form.c a1)), (21, (vI x120))] ?_
         refine bnd h fun x128 g129 h => ?_
         refine o_o (one_ia (f := Form.c) (ki := .i64) g129) ?_
         refine o_r2 [(23, (.iptr [(vS x128.fName), (vL Col.c x128.fCols)])), (24, (vS x128.fName))] ?_
         refine bnd h fun r130 g131 h => ?_
         refine o_o (one_call (p_f54 g131)) ?_
         refine o_r1 [(4, (vB r130))] ?_
         refine o_end (k127 _ ?_)
         refine s_seq fun N132 k132 w132 => ?_
         refine s_so fun N133 k133 w133 => ?_
         refine o_r2 [(26, (vB r130)), (27, (vB (!r130)))] ?_
         refine o_end (k133 _ ?_)
         refine i_c [27] h (fun h => ?_) (fun h => ?_)
         · refine s_so fun N135 k135 w135 => ?_
           refine o_r1 [(2, (vI 4))] ?_
           refine s_tm (mkd .any 129 0 [(0, (vL Form.c a1)), (2, (vI 4)), (3, (vI x120)), (4, (vB r130)), (14, (vI x120)), (15, (vL Form.c a1)), (16, (vI (len a1))), (17, (vB true)), (20, (vL Form.c a1)), (21, (vI x120)), (22, (.iptr [(vS x128.fName), (vL Col.c x128.fCols)])), (23, (.iptr [(vS x128.fName), (vL Col.c x128.fCols)])), (24, (vS x128.fName)), (25, (vB r130)), (26, (vB r130)), (27, (vB true))]) ?_
           refine o_end (k135 _ ?_)
           exact c_ret (rets [] [(vI 4)] [(vI 4)] h)
         · refine c_skip (k132 _ ?_)
           refine s_seq fun N136 k136 w136 => ?_
           refine s_so fun N137 k137 w137 => ?_
           refine o_r3 [(28, (vL Form.c a1)), (29, (vL Form.c a1)), (30, (vI x120))] ?_
           refine s_tm (mkd .any 129 0 [(0, (vL Form.c a1)), (3, (vI x120)), (4, (vB r130)), (14, (vI x120)), (15, (vL Form.c a1)), (16, (vI (len a1))), (17, (vB true)), (20, (vL Form.c a1)), (21, (vI x120)), (22, (.iptr [(vS x128.fName), (vL Col.c x128.fCols)])), (23, (.iptr [(vS x128.fName), (vL Col.c x128.fCols)])), (24, (vS x128.fName)), (25, (vB r130)), (26, (vB r130)), (27, (vB false)), (28, (vL Form.c a1)), (29, (vL Form.c a1)), (30, (vI x120))]) ?_
           refine bnd h fun x138 g139 h => ?_
           refine o_o (one_ia (f := Form.c) (ki := .i64) g139) ?_
           refine o_r2 [(32, (.iptr [(vS x138.fName), (vL Col.c x138.fCols)])), (33, (vS x138.fName))] ?_
           refine bnd h fun r140 g141 h => ?_
           refine o_o (one_call (p_f55 g141)) ?_
           refine o_r2 [(35, (vI x120)), (36, (vB (decide (r140 < x120))))] ?_
           refine o_end (w137 _ ⟨(mkd .any 129 0 [(0, (vL Form.c a1)), (3, (vI x120)), (36, (vB (decide (r140 < x120))))]), []⟩ (wkm [0, 3, 36] wh_nil) ?_)
           refine i_c [36] h (fun h => ?_) (fun h => ?_)
           · refine s_so fun N143 k143 w143 => ?_
             refine o_r1 [(2, (vI 6))] ?_
             refine o_end (k143 _ ?_)
             exact c_ret (rets [] [(vI 6)] [(vI 6)] h)
           · refine c_skip (k136 _ ?_)
             refine s_seq fun N144 k144 w144 => ?_
             refine s_so fun N145 k145 w145 => ?_
             refine o_r2 [(37, (vL Form.c a1)), (38, (vI x120))] ?_
             refine bnd h fun x146 g147 h => ?_
             refine o_o (one_ia (f := Form.c) (ki := .i64) g147) ?_
             refine o_r2 [(40, (.iptr [(vL Col.c x146.fCols)])), (41, (vL Col.c x146.fCols))] ?_
             refine o_o (one_len (f := Col.c) (l := x146.fCols)) ?_
             refine o_r1 [(43, (vB (decide ((len x146.fCols) > 30))))] ?_
             refine o_end (k145 _ ?_)
             refine i_c [43] h (fun h => ?_) (fun h => ?_)
             · refine s_so fun N150 k150 w150 => ?_
               refine o_r1 [(2, (vI 3))] ?_
               refine o_end (k150 _ ?_)
               exact c_ret (rets [] [(vI 3)] [(vI 3)] h)
             · refine c_skip (k144 _ ?_)
               refine s_so fun N151 k151 w151 => ?_
               refine o_r1 [(5, (vI 0))] ?_
               refine o_end (k151 _ ?_)
               refine c_block fun E152 hE152 hO152 => ?_
               refine W1 (fun (x191 : Int) => ⟨(mkd .any 129 0 [(0, (vL Form.c a1)), (3, (vI x120)), (5, (vI x191))]), []⟩) (f17_l153 a1 x120 n (f17_k125 x120 (f17_l11 a1 n (f17_k8 n a1) m11))) h (wkm [0, 3, 5] wh_nil) (by intros; rw [f17_l153.eq_1]) ?_
               intro m153 x191 h N153 w153
               rw [f17_l153.eq_2] at h
               refine s_seq fun N192 k192 w192 => ?_
               refine s_so fun N193 k193 w193 => ?_
               refine o_r3 [(44, (vI x191)), (45, (vL Form.c a1)), (46, (vI x120))] ?_
               refine bnd h fun x194 g195 h => ?_
               refine o_o (one_ia (f := Form.c) (ki := .i64) g195) ?_
               refine o_r2 [(48, (.iptr [(vL Col.c x194.fCols)])), (49, (vL Col.c x194.fCols))] ?_
               refine o_o (one_len (f := Col.c) (l := x194.fCols)) ?_
               refine o_r1 [(51, (vB (decide (x191 < (len x194.fCols)))))] ?_
               refine o_end (k193 _ ?_)
               refine i_c [51] h (fun h => ?_) (fun h => ?_)
               · refine c_skip (k192 _ ?_)
                 refine s_seq fun N198 k198 w198 => ?_
                 refine c_block fun E199 hE199 hO199 => ?_
                 refine s_so fun N200 k200 w200 => ?_
                 refine o_r2 [(54, (vL Form.c a1)), (55, (vI x120))] ?_
                 refine bnd h fun x201 g202 h => ?_
                 refine o_o (one_ia (f := Form.c) (ki := .i64) g202) ?_
                 refine o_r3 [(57, (.iptr [(vL Col.c x201.fCols)])), (58, (vL Col.c x201.fCols)), (59, (vI x191))] ?_
                 refine bnd h fun x203 g204 h => ?_
                 refine o_o (one_ia (f := Col.c) (ki := .i64) g204) ?_
                 refine o_h3 [(6, (.ptr 0 0)), (61, (.agg [(vS x203.fName), (vI x203.fKind), (vS x203.fClass)]))] [(some (.box 93 [(vS x203.fName), (vI x203.fKind), (vS x203.fClass)]))] ?_
                 refine o_end (w200 _ ⟨(mkd .any 129 0 [(0, (vL Form.c a1)), (3, (vI x120)), (5, (vI x191)), (6, (.ptr 0 0))]), [(some (.box 93 [(vS x203.fName), (vI x203.fKind), (vS x203.fClass)]))]⟩ (wkm [0, 3, 5, 6] (whk wh_nil)) ?_)
                 refine s_so fun N205 k205 w205 => ?_
                 refine o_r2 [(62, (.ptr 0 0)), (63, (vS x203.fName))] ?_
                 refine bnd h fun r206 g207 h => ?_
                 refine o_o (one_call (p_f56 g207)) ?_
                 refine o_r1 [(7, (vB r206))] ?_
                 refine o_end (k205 _ ?_)
                 refine s_seq fun N208 k208 w208 => ?_
                 refine s_so fun N209 k209 w209 => ?_
                 refine o_r2 [(65, (vB r206)), (66, (vB (!r206)))] ?_
                 refine o_end (k209 _ ?_)
                 refine i_c [66] h (fun h => ?_) (fun h => ?_)
                 · refine s_so fun N211 k211 w211 => ?_
                   refine o_r1 [(2, (vI 4))] ?_
                   refine o_end (k211 _ ?_)
                   exact c_ret (rets [] [(vI 4)] [(vI 4)] h)
                 · refine c_skip (k208 _ ?_)
                   refine s_seq fun N212 k212 w212 => ?_
                   refine s_seq fun N213 k213 w213 => ?_
                   refine c_draw0 ?_
                   refine d_r2 [(67, (vL Form.c a1)), (68, (vI x120))] ?_
                   refine bnd h fun x214 g215 h => ?_
                   refine d_o (one_ia (f := Form.c) (ki := .i64) g215) ?_
                   refine d_r3 [(70, (.agg [(vS x214.fName), (vL Col.c x214.fCols)])), (71, (.ptr 0 0)), (72, (vS x203.fName))] ?_
                   refine bnd h fun r216 g217 h => ?_
                   refine d_o (one_call (p_f57 g217)) ?_
                   refine d_r2 [(74, (vI x191)), (75, (vB (decide (r216 < x191))))] ?_
                   refine d_end (k213 _ ?_)
                   refine i_c [75] h (fun h => ?_) (fun h => ?_)
                   · refine s_so fun N219 k219 w219 => ?_
                     refine o_r1 [(2, (vI 6))] ?_
                     refine s_tm (mkd .any 129 0 [(0, (vL Form.c a1)), (2, (vI 6)), (3, (vI x120)), (5, (vI x191)), (6, (.ptr 0 0)), (7, (vB r206)), (62, (.ptr 0 0)), (63, (vS x203.fName)), (64, (vB r206)), (65, (vB r206)), (66, (vB false)), (67, (vL Form.c a1)), (68, (vI x120)), (69, (.iptr [(vS x214.fName), (vL Col.c x214.fCols)])), (70, (.agg [(vS x214.fName), (vL Col.c x214.fCols)])), (71, (.ptr 0 0)), (72, (vS x203.fName)), (73, (vI r216)), (74, (vI x191)), (75, (vB true))]) ?_
                     refine o_end (w219 _ ⟨(mkd .any 129 0 [(2, (vI 6))]), []⟩ (wkm [2] wh_nil) ?_)
                     exact c_ret (rets [] [(vI 6)] [(vI 6)] h)
                   · refine c_skip (k212 _ ?_)
                     refine J1 (r := r) (fun (x226 : Bool) => ⟨(mkd .any 129 0 [(0, (vL Form.c a1)), (3, (vI x120)), (5, (vI x191)), (89, (vB x226))]), []⟩) (f17_k220 x191 (f17_l153 a1 x120 n (f17_k125 x120 (f17_l11 a1 n (f17_k8 n a1) m11)) m153)) ?_ ?_
                     · intro x226 h
                       rw [f17_k220.eq_1] at h
                       refine i_c [89] h (fun h => ?_) (fun h => ?_)
                       · refine s_so fun N228 k228 w228 => ?_
                         refine o_r1 [(2, (vI 1))] ?_
                         refine o_end (k228 _ ?_)
                         exact c_ret (rets [] [(vI 1)] [(vI 1)] h)
                       · refine c_skip (k198 _ ?_)
                         refine c_ops ?_
                         refine o_r3 [(5, (vI (wr .i64 (x191 + 1)))), (52, (vI x191)), (53, (vI (wr .i64 (x191 + 1))))] ?_
                         exact o_end (w153 _ _ (wkm [0, 3, 5] wh_nil) h)
                     · intro N220 w220
                       refine c_ops ?_
                       refine o_r2 [(76, (.ptr 0 1)), (77, (vI x203.fKind))] ?_
                       refine s_tm (mkd .any 129 0 [(0, (vL Form.c a1)), (3, (vI x120)), (5, (vI x191)), (6, (.ptr 0 0)), (7, (vB r206)), (62, (.ptr 0 0)), (63, (vS x203.fName)), (64, (vB r206)), (65, (vB r206)), (66, (vB false)), (67, (vL Form.c a1)), (68, (vI x120)), (69, (.iptr [(vS x214.fName), (vL Col.c x214.fCols)])), (70, (.agg [(vS x214.fName), (vL Col.c x214.fCols)])), (71, (.ptr 0 0)), (72, (vS x203.fName)), (73, (vI r216)), (74, (vI x191)), (75, (vB false)), (76, (.ptr 0 1)), (77, (vI x203.fKind))]) ?_
                       refine bnd h fun r221 g222 h => ?_
                       refine o_o (one_call (p_f58 g222)) ?_
                       refine o_r2 [(79, (vB (!r221))), (80, (vB (!r221)))] ?_
                       refine i_o [79, 80] h (fun h => ?_) (fun h => ?_)
                       · refine o_r9 [(81, (.val undef)), (82, (.val undef)), (83, (.val undef)), (84, (.val undef)), (85, (.val undef)), (86, (.val undef)), (87, (.val undef)), (88, (.val undef)), (89, (vB true))] ?_
                         exact o_end (w220 _ _ (wkm [0, 3, 5, 89] wh_nil) h)
                       · refine o_r4 [(81, (.ptr 0 1)), (82, (vI x203.fKind)), (83, (vB (x203.fKind != 3))), (84, (vB (x203.fKind != 3)))] ?_
                         refine i_o [83, 84] h (fun h => ?_) (fun h => ?_)
                         · refine o_r2 [(85, (.ptr 0 2)), (86, (vS x203.fClass))] ?_
                           refine o_g ?_
                           refine o_o (one_sc (vs := [.string x203.fClass, .string (ByteArray.mk #[])]) (str_neq x203.fClass (ByteArray.mk #[]))) ?_
                           refine o_r2 [(88, (vB (!(sEqF x203.fClass (ByteArray.mk #[]))))), (89, (vB (!(sEqF x203.fClass (ByteArray.mk #[])))))] ?_
                           exact o_end (w220 _ _ (wkm [0, 3, 5, 89] wh_nil) h)
                         · refine o_r5 [(85, (.val undef)), (86, (.val undef)), (87, (.val undef)), (88, (vB false)), (89, (vB false))] ?_
                           exact o_end (w220 _ _ (wkm [0, 3, 5, 89] wh_nil) h)
               · refine c_exit (hE152 _ ?_)
                 exact w125 _ (wkm [0, 3] wh_nil) h
     · refine c_exit (hE10 _ ?_)
       exact w8 _ (wkm [0] wh_nil) h
theorem ic111 : fnIC Try.prog H0 111 = some ([.tmp 4], 29, (.seq (.ops [zO 2 (.box 0 59 [] (.t 0)), zO 4 (.mov (.c (.bool false)))]) (.seq (.seq (.ops [zO 5 (.faddr (.t 2) 0), zO 6 (.ld (.t 5) 1 false)]) (.block 0 (.seq (.ops [zO 8 (.sc (.bin .eql 3) [(.t 6), (.c (.int .i64 1))]), zM 7 8]) (.cond (.t 7)
  (.seq (.ops [zO 9 (.faddr (.t 2) 1), zO 10 (.ld (.t 9) 1 false), zO 11 (.call 86 [(.t 10), (.c (.int .i64 (-1099511627776))), (.c (.int .i64 1099511627776))]), zM 4 11]) .ret)
  (.seq (.ops [zO 13 (.sc (.bin .eql 3) [(.t 6), (.c (.int .i64 2))]), zM 12 13]) (.cond (.t 12)
  (.seq (.ops [zO 14 (.faddr (.t 2) 1), zO 15 (.ld (.t 14) 1 false), zO 16 (.call 86 [(.t 15), (.c (.int .i64 0)), (.c (.int .i64 1))]), zM 4 16]) .ret)
  (.seq (.ops [zO 18 (.sc (.bin .eql 3) [(.t 6), (.c (.int .i64 3))]), zM 17 18]) (.cond (.t 17)
  (.seq (.ops [zO 19 (.faddr (.t 2) 1), zO 20 (.ld (.t 19) 1 false), zO 21 (.sc (.bin .eql 3) [(.t 20), (.c (.int .i64 0))]), zM 4 21]) .ret)
  (.seq (.ops [zO 23 (.sc (.bin .eql 3) [(.t 6), (.c (.int .i64 4))]), zM 22 23]) (.cond (.t 22)
  (.seq (.ops [zO 24 (.faddr (.t 2) 1), zO 25 (.ld (.t 24) 1 false), zM 26 1, zO 27 (.sc (.bin .sub 3) [(.t 26), (.c (.int .i64 1))]), zO 28 (.call 86 [(.t 25), (.c (.int .i64 0)), (.t 27)]), zM 4 28]) .ret)
  .skip)))))))))) (.seq (.ops [zO 4 (.mov (.c (.bool false)))]) .ret)))) := by kernel_rfl
def f111 (n : Nat) (a1 : Val) (a2 : Int) : Option Bool := (bif (a1.fKind == 1) then ((f86 n a1.fN (-1099511627776) 1099511627776).bind fun r10 => some r10) else (bif (a1.fKind == 2) then ((f86 n a1.fN 0 1).bind fun r15 => some r15) else (bif (a1.fKind == 3) then some (a1.fN == 0) else (bif (a1.fKind == 4) then ((f86 n a1.fN 0 (wr .i64 (a2 - 1))).bind fun r23 => some r23) else some false))))
def f111_r (r : Bool) : AV := (vB r)
theorem p_f111 {n : Nat} {a1 : Val} {a2 : Int} {r : Bool} (h : f111 n a1 a2 = some r) : PureSpec Try.prog 111 [(.agg [(vI a1.fKind), (vI a1.fN)]), (vI a2)] (f111_r r) := by
 rw [f111.eq_1] at h
 refine pure_of hmix ic111 ?_
 refine go_to (mkd (.val undef) 29 0 [(0, (.agg [(vI a1.fKind), (vI a1.fN)])), (1, (vI a2))]) ?_
 refine s_so fun N3 k3 w3 => ?_
 refine o_h2 [(2, (.ptr 0 0)), (4, (vB false))] [(some (.box 59 [(vI a1.fKind), (vI a1.fN)]))] ?_
 refine o_end (k3 _ ?_)
 refine s_seq fun N4 k4 w4 => ?_
 refine s_so fun N5 k5 w5 => ?_
 refine o_r2 [(5, (.ptr 0 0)), (6, (vI a1.fKind))] ?_
 refine o_end (k5 _ ?_)
 refine c_block fun E6 hE6 hO6 => ?_
 refine s_so fun N7 k7 w7 => ?_
 refine o_r2 [(7, (vB (a1.fKind == 1))), (8, (vB (a1.fKind == 1)))] ?_
 refine o_end (k7 _ ?_)
 refine i_c [7, 8] h (fun h => ?_) (fun h => ?_)
 · refine s_so fun N9 k9 w9 => ?_
   refine o_r2 [(9, (.ptr 0 1)), (10, (vI a1.fN))] ?_
   refine bnd h fun r10 g11 h => ?_
   refine o_o (one_call (p_f86 g11)) ?_
   refine o_r1 [(4, (vB r10))] ?_
   refine o_end (k9 _ ?_)
   exact c_ret (rets [] [(vB r10)] [(vB r10)] h)
 · refine s_so fun N12 k12 w12 => ?_
   refine o_r2 [(12, (vB (a1.fKind == 2))), (13, (vB (a1.fKind == 2)))] ?_
   refine o_end (k12 _ ?_)
   refine i_c [12, 13] h (fun h => ?_) (fun h => ?_)
   · refine s_so fun N14 k14 w14 => ?_
     refine o_r2 [(14, (.ptr 0 1)), (15, (vI a1.fN))] ?_
     refine bnd h fun r15 g16 h => ?_
     refine o_o (one_call (p_f86 g16)) ?_
     refine o_r1 [(4, (vB r15))] ?_
     refine o_end (k14 _ ?_)
     exact c_ret (rets [] [(vB r15)] [(vB r15)] h)
   · refine s_so fun N17 k17 w17 => ?_
     refine o_r2 [(17, (vB (a1.fKind == 3))), (18, (vB (a1.fKind == 3)))] ?_
     refine o_end (k17 _ ?_)
     refine i_c [17, 18] h (fun h => ?_) (fun h => ?_)
     · refine s_so fun N19 k19 w19 => ?_
       refine o_r4 [(4, (vB (a1.fN == 0))), (19, (.ptr 0 1)), (20, (vI a1.fN)), (21, (vB (a1.fN == 0)))] ?_
       refine o_end (k19 _ ?_)
       exact c_ret (rets [] [(vB (a1.fN == 0))] [(vB (a1.fN == 0))] h)
     · refine s_so fun N20 k20 w20 => ?_
       refine o_r2 [(22, (vB (a1.fKind == 4))), (23, (vB (a1.fKind == 4)))] ?_
       refine o_end (k20 _ ?_)
       refine i_c [22, 23] h (fun h => ?_) (fun h => ?_)
       · refine s_so fun N22 k22 w22 => ?_
         refine o_r4 [(24, (.ptr 0 1)), (25, (vI a1.fN)), (26, (vI a2)), (27, (vI (wr .i64 (a2 - 1))))] ?_
         refine bnd h fun r23 g24 h => ?_
         refine o_o (one_call (p_f86 g24)) ?_
         refine o_r1 [(4, (vB r23))] ?_
         refine s_tm (mkd (.val undef) 29 0 [(0, (.agg [(vI a1.fKind), (vI a1.fN)])), (1, (vI a2)), (2, (.ptr 0 0)), (4, (vB r23)), (5, (.ptr 0 0)), (6, (vI a1.fKind)), (7, (vB false)), (8, (vB false)), (12, (vB false)), (13, (vB false)), (17, (vB false)), (18, (vB false)), (22, (vB true)), (23, (vB true)), (24, (.ptr 0 1)), (25, (vI a1.fN)), (26, (vI a2)), (27, (vI (wr .i64 (a2 - 1)))), (28, (vB r23))]) ?_
         refine o_end (w22 _ ⟨(mkd .any 29 0 [(4, (vB r23))]), []⟩ (wkm [4] wh_nil) ?_)
         exact c_ret (rets [] [(vB r23)] [(vB r23)] h)
       · refine c_skip (k4 _ ?_)
         refine s_so fun N25 k25 w25 => ?_
         refine o_r1 [] ?_
         refine o_end (k25 _ ?_)
         exact c_ret (rets [] [(vB false)] [(vB false)] h)
theorem ic110 : fnIC Try.prog H0 110 = some ([.tmp 3], 10, (.seq (.ops [zO 2 (.box 0 59 [] (.t 0)), zO 3 (.mov (.c (.bool false)))]) (.seq (.ops [zO 4 (.ld (.t 2) 2 true), zO 5 (.faddr (.t 1) 0), zO 6 (.ld (.t 5) 1 false), zO 7 (.len false (.t 6)), zO 8 (.call 111 [(.t 4), (.t 7)]), zO 9 (.sc (.un .not) [(.t 8)]), zM 3 9]) .ret))) := by kernel_rfl
def f110 (n : Nat) (a1 : Val) (a2 : (List Node)) (a3 : (List Val)) : Option Bool := ((f111 n a1 (len a2)).bind fun r7 => some (!r7))
def f110_r (r : Bool) : AV := (vB r)
theorem p_f110 {n : Nat} {a1 : Val} {a2 : (List Node)} {a3 : (List Val)} {r : Bool} (h : f110 n a1 a2 a3 = some r) : PureSpec Try.prog 110 [(.agg [(vI a1.fKind), (vI a1.fN)]), (.iptr [(vL Node.c a2), (vL Val.c a3)])] (f110_r r) := by
 rw [f110.eq_1] at h
 refine pure_of hmix ic110 ?_
 refine go_to (mkd (.val undef) 10 0 [(0, (.agg [(vI a1.fKind), (vI a1.fN)])), (1, (.iptr [(vL Node.c a2), (vL Val.c a3)]))]) ?_
 refine s_so fun N4 k4 w4 => ?_
 refine o_h2 [(2, (.ptr 0 0)), (3, (vB false))] [(some (.box 59 [(vI a1.fKind), (vI a1.fN)]))] ?_
 refine o_end (k4 _ ?_)
 refine s_so fun N5 k5 w5 => ?_
 refine o_r3 [(4, (.agg [(vI a1.fKind), (vI a1.fN)])), (5, (.iptr [(vL Node.c a2), (vL Val.c a3)])), (6, (vL Node.c a2))] ?_
 refine o_o (one_len (f := Node.c) (l := a2)) ?_
 refine bnd h fun r7 g8 h => ?_
 refine o_o (one_call (p_f111 g8)) ?_
 refine o_r2 [(3, (vB (!r7))), (9, (vB (!r7)))] ?_
 refine o_end (k5 _ ?_)
 exact c_ret (rets [] [(vB (!r7))] [(vB (!r7))] h)
theorem ic140 : fnIC Try.prog H0 140 = some ([.tmp 4], 19, (.seq (.ops [zO 4 (.mov (.c (.int .i64 0)))]) (.seq (.seq (.ops [zM 6 0, zO 7 (.len false (.t 6)), zO 8 (.mov (.c (.int .i64 0)))]) (.block 0 (.loop (.seq (.ops [zO 9 (.sc (.bin .lss 3) [(.t 8), (.t 7)])]) (.seq (.cond (.t 9)
  .skip
  (.exit 0)) (.seq (.block 1 (.seq (.ops [zM 10 8, zM 5 10]) (.seq (.ops [zM 11 1, zM 12 0, zM 13 5, zO 14 (.iaddr 2 (.t 12) (.t 13)), zO 15 (.ld (.t 14) 2 true), zO 16 (.callv (.t 11) [(.t 15)])]) (.cond (.t 16)
  (.seq (.ops [zM 17 5, zM 4 17]) .ret)
  .skip)))) (.ops [zO 18 (.sc (.bin .add 3) [(.t 8), (.c (.int .i64 1))]), zM 8 18]))))))) (.seq (.ops [zO 4 (.mov (.c (.int .i64 (-1))))]) .ret)))) := by kernel_rfl
def f140_k5 : Option Int := some (-1)
def f140_l9 (a1 : (List Val)) (n : Nat) (a2 : (List Node)) (a3 : (List Val)) (k5k : Option Int) : Nat → Int → Option Int
  | 0, _ => none
  | m9 + 1, x23 => (bif (decide (x23 < (len a1))) then ((gi a1 x23).bind fun x31 => ((f110 n x31 a2 a3).bind fun r33 => (bif r33 then some x23 else (f140_l9 a1 n a2 a3 (k5k) m9 (wr .i64 (x23 + 1)))))) else (k5k))
def f140 (n : Nat) (a1 : (List Val)) (a2 : (List Node)) (a3 : (List Val)) : Option Int := (f140_l9 a1 n a2 a3 (f140_k5) n 0)
def f140_r (r : Int) : AV := (vI r)
theorem p_f140 {n : Nat} {a1 : (List Val)} {a2 : (List Node)} {a3 : (List Val)} {r : Int} (h : f140 n a1 a2 a3 = some r) : PureSpec Try.prog 140 [(vL Val.c a1), (.fn 110 [(.iptr [(vL Node.c a2), (vL Val.c a3)])])] (f140_r r) := by
 rw [f140.eq_1] at h
 refine pure_of hmix ic140 ?_
 refine go_to (mkd (.val undef) 19 0 [(0, (vL Val.c a1)), (1, (.fn 110 [(.iptr [(vL Node.c a2), (vL Val.c a3)])]))]) ?_
 refine s_so fun N4 k4 w4 => ?_
 refine o_r1 [(4, (vI 0))] ?_
 refine o_end (k4 _ ?_)
 refine J0 (r := r) ⟨(mkd .any 19 0 []), []⟩ (f140_k5) ?_ ?_
 · intro h
   rw [f140_k5.eq_1] at h
   refine s_so fun N37 k37 w37 => ?_
   refine o_r1 [(4, (vI (-1)))] ?_
   refine o_end (k37 _ ?_)
   exact c_ret (rets [] [(vI (-1))] [(vI (-1))] h)
 · intro N5 w5
   refine s_so fun N6 k6 w6 => ?_
   refine o_r1 [(6, (vL Val.c a1))] ?_
   refine o_o (one_len (f := Val.c) (l := a1)) ?_
   refine o_r1 [(8, (vI 0))] ?_
   refine o_end (k6 _ ?_)
   refine c_block fun E8 hE8 hO8 => ?_
   refine W1 (fun (x23 : Int) => ⟨(mkd .any 19 0 [(0, (vL Val.c a1)), (1, (.fn 110 [(.iptr [(vL Node.c a2), (vL Val.c a3)])])), (7, (vI (len a1))), (8, (vI x23))]), []⟩) (f140_l9 a1 n a2 a3 (f140_k5)) h (wkm [0, 1, 7, 8] wh_nil) (by intros; rw [f140_l9.eq_1]) ?_
   intro m9 x23 h N9 w9
   rw [f140_l9.eq_2] at h
   refine s_so fun N24 k24 w24 => ?_
   refine o_r1 [(9, (vB (decide (x23 < (len a1)))))] ?_
   refine o_end (k24 _ ?_)
   refine s_seq fun N25 k25 w25 => ?_
   refine i_c [9] h (fun h => ?_) (fun h => ?_)
   · refine c_skip (k25 _ ?_)
     refine s_seq fun N27 k27 w27 => ?_
     refine c_block fun E28 hE28 hO28 => ?_
     refine s_so fun N29 k29 w29 => ?_
     refine o_r2 [(5, (vI x23)), (10, (vI x23))] ?_
     refine o_end (k29 _ ?_)
     refine s_so fun N30 k30 w30 => ?_
     refine o_r3 [(11, (.fn 110 [(.iptr [(vL Node.c a2), (vL Val.c a3)])])), (12, (vL Val.c a1)), (13, (vI x23))] ?_
     refine bnd h fun x31 g32 h => ?_
     refine o_o (one_ia (f := Val.c) (ki := .i64) g32) ?_
     refine o_r1 [(15, (.agg [(vI x31.fKind), (vI x31.fN)]))] ?_
     refine bnd h fun r33 g34 h => ?_
     refine o_o (one_callv (caps := [(.iptr [(vL Node.c a2), (vL Val.c a3)])]) (p_f110 g34)) ?_
     refine o_end (k30 _ ?_)
     refine i_c [16] h (fun h => ?_) (fun h => ?_)
     · refine s_so fun N36 k36 w36 => ?_
       refine o_r2 [(4, (vI x23)), (17, (vI x23))] ?_
       refine o_end (k36 _ ?_)
       exact c_ret (rets [] [(vI x23)] [(vI x23)] h)
     · refine c_skip (k27 _ ?_)
       refine c_ops ?_
       refine o_r2 [(8, (vI (wr .i64 (x23 + 1)))), (18, (vI (wr .i64 (x23 + 1))))] ?_
       exact o_end (w9 _ _ (wkm [0, 1, 7, 8] wh_nil) h)
   · refine c_exit (hE8 _ ?_)
     exact w5 _ (wkm [] wh_nil) h
theorem ic112 : fnIC Try.prog H0 112 = some ([.tmp 4], 9, (.seq (.ops [zO 4 (.mov (.c (.bool false)))]) (.seq (.ops [zM 5 0, zM 6 1, zO 7 (.call 140 [(.t 5), (.t 6)]), zO 8 (.sc (.bin .geq 3) [(.t 7), (.c (.int .i64 0))]), zM 4 8]) .ret))) := by kernel_rfl
def f112 (n : Nat) (a1 : (List Val)) (a2 : (List Node)) (a3 : (List Val)) : Option Bool := ((f140 n a1 a2 a3).bind fun r6 => some (decide (r6 ≥ 0)))
def f112_r (r : Bool) : AV := (vB r)
theorem p_f112 {n : Nat} {a1 : (List Val)} {a2 : (List Node)} {a3 : (List Val)} {r : Bool} (h : f112 n a1 a2 a3 = some r) : PureSpec Try.prog 112 [(vL Val.c a1), (.fn 110 [(.iptr [(vL Node.c a2), (vL Val.c a3)])])] (f112_r r) := by
 rw [f112.eq_1] at h
 refine pure_of hmix ic112 ?_
 refine go_to (mkd (.val undef) 9 0 [(0, (vL Val.c a1)), (1, (.fn 110 [(.iptr [(vL Node.c a2), (vL Val.c a3)])]))]) ?_
 refine s_so fun N4 k4 w4 => ?_
 refine o_r1 [(4, (vB false))] ?_
 refine o_end (k4 _ ?_)
 refine s_so fun N5 k5 w5 => ?_
 refine o_r2 [(5, (vL Val.c a1)), (6, (.fn 110 [(.iptr [(vL Node.c a2), (vL Val.c a3)])]))] ?_
 refine bnd h fun r6 g7 h => ?_
 refine o_o (one_call (p_f140 g7)) ?_
 refine o_r2 [(4, (vB (decide (r6 ≥ 0)))), (8, (vB (decide (r6 ≥ 0))))] ?_
 refine o_end (k5 _ ?_)
 exact c_ret (rets [] [(vB (decide (r6 ≥ 0)))] [(vB (decide (r6 ≥ 0)))] h)
theorem ic114 : fnIC Try.prog H0 114 = some ([.tmp 2], 11, (.seq (.ops [zO 1 (.box 0 59 [] (.t 0)), zO 2 (.mov (.c (.bool false)))]) (.seq (.ops [zO 3 (.faddr (.t 1) 0), zO 4 (.ld (.t 3) 1 false), zO 5 (.sc (.bin .eql 3) [(.t 4), (.c (.int .i64 3))]), zM 6 5, zG 7 6 false (.faddr (.t 1) 0), zG 8 6 false (.ld (.t 7) 1 false), zG 9 6 false (.sc (.bin .eql 3) [(.t 8), (.c (.int .i64 4))]), zO 10 (.pick (.t 6) (.c (.bool true)) (.t 9)), zM 2 10]) .ret))) := by kernel_rfl
def f114_k3 (x5 : Bool) : Option Bool := some x5
def f114 (n : Nat) (a1 : Val) : Option Bool := (bif (a1.fKind == 3) then (f114_k3 true) else (f114_k3 (a1.fKind == 4)))
def f114_r (r : Bool) : AV := (vB r)
theorem p_f114 {n : Nat} {a1 : Val} {r : Bool} (h : f114 n a1 = some r) : PureSpec Try.prog 114 [(.agg [(vI a1.fKind), (vI a1.fN)])] (f114_r r) := by
 rw [f114.eq_1] at h
 refine pure_of hmix ic114 ?_
 refine go_to (mkd (.val undef) 11 0 [(0, (.agg [(vI a1.fKind), (vI a1.fN)]))]) ?_
 refine s_so fun N2 k2 w2 => ?_
 refine o_h2 [(1, (.ptr 0 0)), (2, (vB false))] [(some (.box 59 [(vI a1.fKind), (vI a1.fN)]))] ?_
 refine o_end (k2 _ ?_)
 refine J1 (r := r) (fun (x5 : Bool) => ⟨(mkd .any 11 0 [(2, (vB x5))]), []⟩) (f114_k3) ?_ ?_
 · intro x5 h
   rw [f114_k3.eq_1] at h
   exact c_ret (rets [] [(vB x5)] [(vB x5)] h)
 · intro N3 w3
   refine c_ops ?_
   refine o_r4 [(3, (.ptr 0 0)), (4, (vI a1.fKind)), (5, (vB (a1.fKind == 3))), (6, (vB (a1.fKind == 3)))] ?_
   refine i_o [5, 6] h (fun h => ?_) (fun h => ?_)
   · refine o_r5 [(2, (vB true)), (7, (.val undef)), (8, (.val undef)), (9, (.val undef)), (10, (vB true))] ?_
     exact o_end (w3 _ _ (wkm [2] wh_nil) h)
   · refine o_r5 [(2, (vB (a1.fKind == 4))), (7, (.ptr 0 0)), (8, (vI a1.fKind)), (9, (vB (a1.fKind == 4))), (10, (vB (a1.fKind == 4)))] ?_
     exact o_end (w3 _ _ (wkm [2] wh_nil) h)
theorem ic113 : fnIC Try.prog H0 113 = some ([.tmp 3], 12, (.seq (.ops [zO 2 (.box 0 59 [] (.t 0)), zO 3 (.mov (.c (.bool false)))]) (.seq (.ops [zO 4 (.ld (.t 1) 1 false), zO 5 (.ld (.t 2) 2 true), zO 6 (.callv (.t 4) [(.t 5)]), zM 7 6, zG 8 7 false (.ld (.t 2) 2 true), zG 9 7 false (.call 114 [(.t 8)]), zG 10 7 false (.sc (.un .not) [(.t 9)]), zO 11 (.pick (.t 7) (.c (.bool true)) (.t 10)), zM 3 11]) .ret))) := by kernel_rfl
def f113_k5 (x11 : Bool) : Option Bool := some x11
def f113 (n : Nat) (a1 : Val) (a2 : (List Node)) (a3 : (List Val)) : Option Bool := ((f110 n a1 a2 a3).bind fun r6 => (bif r6 then (f113_k5 true) else ((f114 n a1).bind fun r9 => (f113_k5 (!r9)))))
def f113_r (r : Bool) : AV := (vB r)
theorem p_f113 {n : Nat} {a1 : Val} {a2 : (List Node)} {a3 : (List Val)} {r : Bool} (h : f113 n a1 a2 a3 = some r) : PureSpec Try.prog 113 [(.agg [(vI a1.fKind), (vI a1.fN)]), (.iptr [(.fn 110 [(.iptr [(vL Node.c a2), (vL Val.c a3)])])])] (f113_r r) := by
 rw [f113.eq_1] at h
 refine pure_of hmix ic113 ?_
 refine go_to (mkd (.val undef) 12 0 [(0, (.agg [(vI a1.fKind), (vI a1.fN)])), (1, (.iptr [(.fn 110 [(.iptr [(vL Node.c a2), (vL Val.c a3)])])]))]) ?_
 refine s_so fun N4 k4 w4 => ?_
 refine o_h2 [(2, (.ptr 0 0)), (3, (vB false))] [(some (.box 59 [(vI a1.fKind), (vI a1.fN)]))] ?_
 refine o_end (k4 _ ?_)
 refine J1 (r := r) (fun (x11 : Bool) => ⟨(mkd .any 12 0 [(3, (vB x11))]), []⟩) (f113_k5) ?_ ?_
 · intro x11 h
   rw [f113_k5.eq_1] at h
   exact c_ret (rets [] [(vB x11)] [(vB x11)] h)
 · intro N5 w5
   refine c_ops ?_
   refine o_r2 [(4, (.fn 110 [(.iptr [(vL Node.c a2), (vL Val.c a3)])])), (5, (.agg [(vI a1.fKind), (vI a1.fN)]))] ?_
   refine bnd h fun r6 g7 h => ?_
   refine o_o (one_callv (caps := [(.iptr [(vL Node.c a2), (vL Val.c a3)])]) (p_f110 g7)) ?_
   refine o_r1 [(7, (vB r6))] ?_
   refine i_o [6, 7] h (fun h => ?_) (fun h => ?_)
   · refine o_r5 [(3, (vB true)), (8, (.val undef)), (9, (.val undef)), (10, (.val undef)), (11, (vB true))] ?_
     exact o_end (w5 _ _ (wkm [3] wh_nil) h)
   · refine o_r1 [(8, (.agg [(vI a1.fKind), (vI a1.fN)]))] ?_
     refine bnd h fun r9 g10 h => ?_
     refine o_g ?_
     refine o_o (one_call (p_f114 g10)) ?_
     refine o_r3 [(3, (vB (!r9))), (10, (vB (!r9))), (11, (vB (!r9)))] ?_
     exact o_end (w5 _ _ (wkm [3] wh_nil) h)
def f140_b_k5 : Option Int := some (-1)
def f140_b_l9 (a1 : (List Val)) (n : Nat) (a2 : (List Node)) (a3 : (List Val)) (k5k : Option Int) : Nat → Int → Option Int
  | 0, _ => none
  | m9 + 1, x23 => (bif (decide (x23 < (len a1))) then ((gi a1 x23).bind fun x31 => ((f113 n x31 a2 a3).bind fun r33 => (bif r33 then some x23 else (f140_b_l9 a1 n a2 a3 (k5k) m9 (wr .i64 (x23 + 1)))))) else (k5k))
def f140_b (n : Nat) (a1 : (List Val)) (a2 : (List Node)) (a3 : (List Val)) : Option Int := (f140_b_l9 a1 n a2 a3 (f140_b_k5) n 0)
def f140_b_r (r : Int) : AV := (vI r)
theorem p_f140_b {n : Nat} {a1 : (List Val)} {a2 : (List Node)} {a3 : (List Val)} {r : Int} (h : f140_b n a1 a2 a3 = some r) : PureSpec Try.prog 140 [(vL Val.c a1), (.fn 113 [(.iptr [(.fn 110 [(.iptr [(vL Node.c a2), (vL Val.c a3)])])])])] (f140_b_r r) := by
 rw [f140_b.eq_1] at h
 refine pure_of hmix ic140 ?_
 refine go_to (mkd (.val undef) 19 0 [(0, (vL Val.c a1)), (1, (.fn 113 [(.iptr [(.fn 110 [(.iptr [(vL Node.c a2), (vL Val.c a3)])])])]))]) ?_
 refine s_so fun N4 k4 w4 => ?_
 refine o_r1 [(4, (vI 0))] ?_
 refine o_end (k4 _ ?_)
 refine J0 (r := r) ⟨(mkd .any 19 0 []), []⟩ (f140_b_k5) ?_ ?_
 · intro h
   rw [f140_b_k5.eq_1] at h
   refine s_so fun N37 k37 w37 => ?_
   refine o_r1 [(4, (vI (-1)))] ?_
   refine o_end (k37 _ ?_)
   exact c_ret (rets [] [(vI (-1))] [(vI (-1))] h)
 · intro N5 w5
   refine s_so fun N6 k6 w6 => ?_
   refine o_r1 [(6, (vL Val.c a1))] ?_
   refine o_o (one_len (f := Val.c) (l := a1)) ?_
   refine o_r1 [(8, (vI 0))] ?_
   refine o_end (k6 _ ?_)
   refine c_block fun E8 hE8 hO8 => ?_
   refine W1 (fun (x23 : Int) => ⟨(mkd .any 19 0 [(0, (vL Val.c a1)), (1, (.fn 113 [(.iptr [(.fn 110 [(.iptr [(vL Node.c a2), (vL Val.c a3)])])])])), (7, (vI (len a1))), (8, (vI x23))]), []⟩) (f140_b_l9 a1 n a2 a3 (f140_b_k5)) h (wkm [0, 1, 7, 8] wh_nil) (by intros; rw [f140_b_l9.eq_1]) ?_
   intro m9 x23 h N9 w9
   rw [f140_b_l9.eq_2] at h
   refine s_so fun N24 k24 w24 => ?_
   refine o_r1 [(9, (vB (decide (x23 < (len a1)))))] ?_
   refine o_end (k24 _ ?_)
   refine s_seq fun N25 k25 w25 => ?_
   refine i_c [9] h (fun h => ?_) (fun h => ?_)
   · refine c_skip (k25 _ ?_)
     refine s_seq fun N27 k27 w27 => ?_
     refine c_block fun E28 hE28 hO28 => ?_
     refine s_so fun N29 k29 w29 => ?_
     refine o_r2 [(5, (vI x23)), (10, (vI x23))] ?_
     refine o_end (k29 _ ?_)
     refine s_so fun N30 k30 w30 => ?_
     refine o_r3 [(11, (.fn 113 [(.iptr [(.fn 110 [(.iptr [(vL Node.c a2), (vL Val.c a3)])])])])), (12, (vL Val.c a1)), (13, (vI x23))] ?_
     refine bnd h fun x31 g32 h => ?_
     refine o_o (one_ia (f := Val.c) (ki := .i64) g32) ?_
     refine o_r1 [(15, (.agg [(vI x31.fKind), (vI x31.fN)]))] ?_
     refine bnd h fun r33 g34 h => ?_
     refine o_o (one_callv (caps := [(.iptr [(.fn 110 [(.iptr [(vL Node.c a2), (vL Val.c a3)])])])]) (p_f113 g34)) ?_
     refine o_end (k30 _ ?_)
     refine i_c [16] h (fun h => ?_) (fun h => ?_)
     · refine s_so fun N36 k36 w36 => ?_
       refine o_r2 [(4, (vI x23)), (17, (vI x23))] ?_
       refine o_end (k36 _ ?_)
       exact c_ret (rets [] [(vI x23)] [(vI x23)] h)
     · refine c_skip (k27 _ ?_)
       refine c_ops ?_
       refine o_r2 [(8, (vI (wr .i64 (x23 + 1)))), (18, (vI (wr .i64 (x23 + 1))))] ?_
       exact o_end (w9 _ _ (wkm [0, 1, 7, 8] wh_nil) h)
   · refine c_exit (hE8 _ ?_)
     exact w5 _ (wkm [] wh_nil) h
def f112_b (n : Nat) (a1 : (List Val)) (a2 : (List Node)) (a3 : (List Val)) : Option Bool := ((f140_b n a1 a2 a3).bind fun r6 => some (decide (r6 ≥ 0)))
def f112_b_r (r : Bool) : AV := (vB r)
theorem p_f112_b {n : Nat} {a1 : (List Val)} {a2 : (List Node)} {a3 : (List Val)} {r : Bool} (h : f112_b n a1 a2 a3 = some r) : PureSpec Try.prog 112 [(vL Val.c a1), (.fn 113 [(.iptr [(.fn 110 [(.iptr [(vL Node.c a2), (vL Val.c a3)])])])])] (f112_b_r r) := by
 rw [f112_b.eq_1] at h
 refine pure_of hmix ic112 ?_
 refine go_to (mkd (.val undef) 9 0 [(0, (vL Val.c a1)), (1, (.fn 113 [(.iptr [(.fn 110 [(.iptr [(vL Node.c a2), (vL Val.c a3)])])])]))]) ?_
 refine s_so fun N4 k4 w4 => ?_
 refine o_r1 [(4, (vB false))] ?_
 refine o_end (k4 _ ?_)
 refine s_so fun N5 k5 w5 => ?_
 refine o_r2 [(5, (vL Val.c a1)), (6, (.fn 113 [(.iptr [(.fn 110 [(.iptr [(vL Node.c a2), (vL Val.c a3)])])])]))] ?_
 refine bnd h fun r6 g7 h => ?_
 refine o_o (one_call (p_f140_b g7)) ?_
 refine o_r2 [(4, (vB (decide (r6 ≥ 0)))), (8, (vB (decide (r6 ≥ 0))))] ?_
 refine o_end (k5 _ ?_)
 exact c_ret (rets [] [(vB (decide (r6 ≥ 0)))] [(vB (decide (r6 ≥ 0)))] h)
theorem ic74 : fnIC Try.prog H0 74 = some ([.tmp 2], 49, (.seq (.ops [zO 1 (.box 0 26 [(0, 57, 2, 0), (1, 59, 2, 0)] (.t 0)), zO 2 (.mov (.c (.int .i64 0)))]) (.seq (.seq (.ops [zO 8 (.faddr (.t 1) 0), zO 9 (.ld (.t 8) 1 false), zO 10 (.len false (.t 9)), zO 11 (.sc (.bin .gtr 3) [(.t 10), (.c (.int .i64 400))]), zM 12 11, zG 13 12 false (.faddr (.t 1) 1), zG 14 12 false (.ld (.t 13) 1 false), zG 15 12 false (.len false (.t 14)), zG 16 12 false (.sc (.bin .gtr 3) [(.t 15), (.c (.int .i64 60))]), zO 17 (.pick (.t 12) (.c (.bool true)) (.t 16))]) (.cond (.t 17)
  (.seq (.ops [zO 2 (.mov (.c (.int .i64 3)))]) .ret)
  .skip)) (.seq (.seq (.ops [zO 18 (.faddr (.t 1) 0), zO 19 (.ld (.t 18) 1 false), zO 20 (.len false (.t 19)), zO 21 (.mov (.c (.int .i64 0)))]) (.block 0 (.loop (.seq (.ops [zO 22 (.sc (.bin .lss 3) [(.t 21), (.t 20)])]) (.seq (.cond (.t 22)
  .skip
  (.exit 0)) (.seq (.block 1 (.seq (.ops [zO 23 (.iaddr 2 (.t 19) (.t 21)), zO 24 (.ld (.t 23) 2 true), zO 4 (.alloc 0 57 [(1, 59, 2, 0)] [(.string ⟨#[]⟩), (.slice none 0 0)]), zU (.st true 2 [(1, 59, 2, 0)] (.t 4) (.t 24))]) (.seq (.ops [zO 25 (.faddr (.t 4) 1), zO 26 (.ld (.t 25) 1 false), zO 27 (.len false (.t 26)), zO 28 (.sc (.bin .gtr 3) [(.t 27), (.c (.int .i64 30))])]) (.cond (.t 28)
  (.seq (.ops [zO 2 (.mov (.c (.int .i64 3)))]) .ret)
  .skip)))) (.ops [zO 29 (.sc (.bin .add 3) [(.t 21), (.c (.int .i64 1))]), zM 21 29]))))))) (.seq (.ops [zO 30 (.mkf 110 [(.t 1)]), zO 5 (.alloc 0 165 [] [.nilFunc]), zU (.st true 1 [] (.t 5) (.t 30))]) (.seq (.seq (.ops [zO 31 (.faddr (.t 1) 0), zO 32 (.ld (.t 31) 1 false), zO 33 (.len false (.t 32)), zO 34 (.mov (.c (.int .i64 0)))]) (.block 2 (.loop (.seq (.ops [zO 35 (.sc (.bin .lss 3) [(.t 34), (.t 33)])]) (.seq (.cond (.t 35)
  .skip
  (.exit 2)) (.seq (.block 3 (.seq (.ops [zO 36 (.iaddr 2 (.t 32) (.t 34)), zO 37 (.ld (.t 36) 2 true), zO 7 (.alloc 0 57 [(1, 59, 2, 0)] [(.string ⟨#[]⟩), (.slice none 0 0)]), zU (.st true 2 [(1, 59, 2, 0)] (.t 7) (.t 37))]) (.seq (.ops [zO 38 (.faddr (.t 7) 1), zO 39 (.ld (.t 38) 1 false), zO 40 (.ld (.t 5) 1 false), zO 41 (.call 112 [(.t 39), (.t 40)])]) (.cond (.t 41)
  (.seq (.ops [zO 2 (.mov (.c (.int .i64 2)))]) .ret)
  .skip)))) (.ops [zO 42 (.sc (.bin .add 3) [(.t 34), (.c (.int .i64 1))]), zM 34 42]))))))) (.seq (.ops [zO 43 (.faddr (.t 1) 1), zO 44 (.ld (.t 43) 1 false), zO 45 (.mkf 113 [(.t 5)]), zO 46 (.call 112 [(.t 44), (.t 45)]), zO 47 (.sc (.un .not) [(.t 46)]), zO 48 (.call 50 [(.t 47), (.c (.int .i64 2))]), zM 2 48]) .ret))))))) := by kernel_rfl
def f74_k42 (n : Nat) (a1 : Graph) : Option Int := ((f112_b n a1.fRoots a1.fNodes a1.fRoots).bind fun r75 => ((f50 n (!r75) 2).bind fun r77 => some r77))
def f74_l46 (a1 : Graph) (n : Nat) (k42k : Option Int) : Nat → Int → Option Int
  | 0, _ => none
  | m46 + 1, x60 => (bif (decide (x60 < (len a1.fNodes))) then ((gi a1.fNodes x60).bind fun x67 => ((f112 n x67.fVals a1.fNodes a1.fRoots).bind fun r70 => (bif r70 then some 2 else (f74_l46 a1 n (k42k) m46 (wr .i64 (x60 + 1)))))) else (k42k))
def f74_k11 (n : Nat) (a1 : Graph) : Option Int := (f74_l46 a1 n (f74_k42 n a1) n 0)
def f74_l15 (a1 : Graph) (k11k : Option Int) : Nat → Int → Option Int
  | 0, _ => none
  | m15 + 1, x28 => (bif (decide (x28 < (len a1.fNodes))) then ((gi a1.fNodes x28).bind fun x35 => (bif (decide ((len x35.fVals) > 30)) then some 3 else (f74_l15 a1 (k11k) m15 (wr .i64 (x28 + 1))))) else (k11k))
def f74_k4 (n : Nat) (a1 : Graph) (x8 : Bool) : Option Int := (bif x8 then some 3 else (f74_l15 a1 (f74_k11 n a1) n 0))
def f74 (n : Nat) (a1 : Graph) : Option Int := (bif (decide ((len a1.fNodes) > 400)) then (f74_k4 n a1 true) else (f74_k4 n a1 (decide ((len a1.fRoots) > 60))))
def f74_r (r : Int) : AV := (vI r)
theorem p_f74 {n : Nat} {a1 : Graph} {r : Int} (h : f74 n a1 = some r) : PureSpec Try.prog 74 [(.agg [(vL Node.c a1.fNodes), (vL Val.c a1.fRoots)])] (f74_r r) := by
 rw [f74.eq_1] at h
 refine pure_of hmix ic74 ?_
 refine go_to (mkd (.val undef) 49 0 [(0, (.agg [(vL Node.c a1.fNodes), (vL Val.c a1.fRoots)]))]) ?_
 refine s_so fun N2 k2 w2 => ?_
 refine o_h2 [(1, (.ptr 0 0)), (2, (vI 0))] [(some (.box 26 [(vL Node.c a1.fNodes), (vL Val.c a1.fRoots)]))] ?_
 refine o_end (k2 _ ?_)
 refine s_seq fun N3 k3 w3 => ?_
 refine J1 (r := r) (fun (x8 : Bool) => ⟨(mkd .any 49 0 [(1, (.ptr 0 0)), (17, (vB x8))]), [(some (.box 26 [(vL Node.c a1.fNodes), (vL Val.c a1.fRoots)]))]⟩) (f74_k4 n a1) ?_ ?_
 · intro x8 h
   rw [f74_k4.eq_1] at h
   refine i_c [17] h (fun h => ?_) (fun h => ?_)
   · refine s_so fun N10 k10 w10 => ?_
     refine o_r1 [(2, (vI 3))] ?_
     refine o_end (k10 _ ?_)
     exact c_ret (rets [] [(vI 3)] [(vI 3)] h)
   · refine c_skip (k3 _ ?_)
     refine J0 (r := r) ⟨(mkd .any 49 0 [(1, (.ptr 0 0))]), [(some (.box 26 [(vL Node.c a1.fNodes), (vL Val.c a1.fRoots)]))]⟩ (f74_k11 n a1) ?_ ?_
     · intro h
       rw [f74_k11.eq_1] at h
       refine s_so fun N41 k41 w41 => ?_
       refine o_h3 [(5, (.ptr 1 0)), (30, (.fn 110 [(.ptr 0 0)]))] [(some (.box 26 [(vL Node.c a1.fNodes), (vL Val.c a1.fRoots)])), (some (.box 165 [(.fn 110 [(.ptr 0 0)])]))] ?_
       refine o_end (k41 _ ?_)
       refine J0 (r := r) ⟨(mkd .any 49 0 [(1, (.ptr 0 0)), (5, (.ptr 1 0))]), [(some (.box 26 [(vL Node.c a1.fNodes), (vL Val.c a1.fRoots)])), (some (.box 165 [(.fn 110 [(.ptr 0 0)])]))]⟩ (f74_k42 n a1) ?_ ?_
       · intro h
         rw [f74_k42.eq_1] at h
         refine s_so fun N74 k74 w74 => ?_
         refine o_r3 [(43, (.ptr 0 1)), (44, (vL Val.c a1.fRoots)), (45, (.fn 113 [(.ptr 1 0)]))] ?_
         refine bnd h fun r75 g76 h => ?_
         refine o_o (one_callT [1, 0] (p_f112_b g76) (ns_v _)) ?_
         refine o_r1 [(47, (vB (!r75)))] ?_
         refine bnd h fun r77 g78 h => ?_
         refine o_o (one_call (p_f50 g78)) ?_
         refine o_r1 [(2, (vI r77))] ?_
         refine o_end (k74 _ ?_)
         exact c_ret (rets [] [(vI r77)] [(vI r77)] h)
       · intro N42 w42
         refine s_so fun N43 k43 w43 => ?_
         refine o_r2 [(31, (.ptr 0 0)), (32, (vL Node.c a1.fNodes))] ?_
         refine o_o (one_len (f := Node.c) (l := a1.fNodes)) ?_
         refine o_r1 [(34, (vI 0))] ?_
         refine o_end (k43 _ ?_)
         refine c_block fun E45 hE45 hO45 => ?_
         refine W1 (fun (x60 : Int) => ⟨(mkd .any 49 0 [(1, (.ptr 0 0)), (5, (.ptr 1 0)), (32, (vL Node.c a1.fNodes)), (33, (vI (len a1.fNodes))), (34, (vI x60))]), [(some (.box 26 [(vL Node.c a1.fNodes), (vL Val.c a1.fRoots)])), (some (.box 165 [(.fn 110 [(.ptr 0 0)])]))]⟩) (f74_l46 a1 n (f74_k42 n a1)) h (wkm [1, 5, 32, 33, 34] (whk (whk wh_nil))) (by intros; rw [f74_l46.eq_1]) ?_
         intro m46 x60 h N46 w46
         rw [f74_l46.eq_2] at h
         refine s_so fun N61 k61 w61 => ?_
         refine o_r1 [(35, (vB (decide (x60 < (len a1.fNodes)))))] ?_
         refine o_end (k61 _ ?_)
         refine s_seq fun N62 k62 w62 => ?_
         refine i_c [35] h (fun h => ?_) (fun h => ?_)
         · refine c_skip (k62 _ ?_)
           refine s_seq fun N64 k64 w64 => ?_
           refine c_block fun E65 hE65 hO65 => ?_
           refine s_so fun N66 k66 w66 => ?_
           refine bnd h fun x67 g68 h => ?_
           refine o_o (one_ia (f := Node.c) (ki := .i64) g68) ?_
           refine o_h3 [(7, (.ptr 3 0)), (37, (.agg [(vS x67.fClass), (vL Val.c x67.fVals)]))] [(some (.box 26 [(vL Node.c a1.fNodes), (vL Val.c a1.fRoots)])), (some (.box 165 [(.fn 110 [(.ptr 0 0)])])), (some (.row 59 2 (List.map Val.c []))), (some (.box 57 [(vS x67.fClass), (vL Val.c x67.fVals)]))] ?_
           refine o_end (k66 _ ?_)
           refine s_so fun N69 k69 w69 => ?_
           refine o_r3 [(38, (.ptr 3 1)), (39, (vL Val.c x67.fVals)), (40, (.fn 110 [(.ptr 0 0)]))] ?_
           refine bnd h fun r70 g71 h => ?_
           refine o_o (one_callT [0] (p_f112 g71) (ns_v _)) ?_
           refine o_end (k69 _ ?_)
           refine i_c [41] h (fun h => ?_) (fun h => ?_)
           · refine s_so fun N73 k73 w73 => ?_
             refine o_r1 [(2, (vI 2))] ?_
             refine o_end (k73 _ ?_)
             exact c_ret (rets [] [(vI 2)] [(vI 2)] h)
           · refine c_skip (k64 _ ?_)
             refine c_ops ?_
             refine o_r2 [(34, (vI (wr .i64 (x60 + 1)))), (42, (vI (wr .i64 (x60 + 1))))] ?_
             exact o_end (w46 _ _ (wkm [1, 5, 32, 33, 34] (whk (whk wh_nil))) h)
         · refine c_exit (hE45 _ ?_)
           exact w42 _ (wkm [1, 5] (whk (whk wh_nil))) h
     · intro N11 w11
       refine s_so fun N12 k12 w12 => ?_
       refine o_r2 [(18, (.ptr 0 0)), (19, (vL Node.c a1.fNodes))] ?_
       refine o_o (one_len (f := Node.c) (l := a1.fNodes)) ?_
       refine o_r1 [(21, (vI 0))] ?_
       refine o_end (k12 _ ?_)
       refine c_block fun E14 hE14 hO14 => ?_
       refine W1 (fun (x28 : Int) => ⟨(mkd .any 49 0 [(1, (.ptr 0 0)), (19, (vL Node.c a1.fNodes)), (20, (vI (len a1.fNodes))), (21, (vI x28))]), [(some (.box 26 [(vL Node.c a1.fNodes), (vL Val.c a1.fRoots)]))]⟩) (f74_l15 a1 (f74_k11 n a1)) h (wkm [1, 19, 20, 21] (whk wh_nil)) (by intros; rw [f74_l15.eq_1]) ?_
       intro m15 x28 h N15 w15
       rw [f74_l15.eq_2] at h
       refine s_so fun N29 k29 w29 => ?_
       refine o_r1 [(22, (vB (decide (x28 < (len a1.fNodes)))))] ?_
       refine o_end (k29 _ ?_)
       refine s_seq fun N30 k30 w30 => ?_
       refine i_c [22] h (fun h => ?_) (fun h => ?_)
       · refine c_skip (k30 _ ?_)
         refine s_seq fun N32 k32 w32 => ?_
         refine c_block fun E33 hE33 hO33 => ?_
         refine s_so fun N34 k34 w34 => ?_
         refine bnd h fun x35 g36 h => ?_
         refine o_o (one_ia (f := Node.c) (ki := .i64) g36) ?_
         refine o_h3 [(4, (.ptr 2 0)), (24, (.agg [(vS x35.fClass), (vL Val.c x35.fVals)]))] [(some (.box 26 [(vL Node.c a1.fNodes), (vL Val.c a1.fRoots)])), (some (.row 59 2 (List.map Val.c []))), (some (.box 57 [(vS x35.fClass), (vL Val.c x35.fVals)]))] ?_
         refine o_end (k34 _ ?_)
         refine s_so fun N37 k37 w37 => ?_
         refine o_r2 [(25, (.ptr 2 1)), (26, (vL Val.c x35.fVals))] ?_
         refine o_o (one_len (f := Val.c) (l := x35.fVals)) ?_
         refine o_r1 [(28, (vB (decide ((len x35.fVals) > 30))))] ?_
         refine o_end (k37 _ ?_)
         refine i_c [28] h (fun h => ?_) (fun h => ?_)
         · refine s_so fun N40 k40 w40 => ?_
           refine o_r1 [(2, (vI 3))] ?_
           refine o_end (k40 _ ?_)
           exact c_ret (rets [] [(vI 3)] [(vI 3)] h)
         · refine c_skip (k32 _ ?_)
           refine c_ops ?_
           refine o_r2 [(21, (vI (wr .i64 (x28 + 1)))), (29, (vI (wr .i64 (x28 + 1))))] ?_
           exact o_end (w15 _ _ (wkm [1, 19, 20, 21] (whk wh_nil)) h)
       · refine c_exit (hE14 _ ?_)
         exact w11 _ (wkm [1] (whk wh_nil)) h
 · intro N4 w4
   refine c_ops ?_
   refine o_r2 [(8, (.ptr 0 0)), (9, (vL Node.c a1.fNodes))] ?_
   refine o_o (one_len (f := Node.c) (l := a1.fNodes)) ?_
   refine o_r2 [(11, (vB (decide ((len a1.fNodes) > 400)))), (12, (vB (decide ((len a1.fNodes) > 400))))] ?_
   refine i_o [11, 12] h (fun h => ?_) (fun h => ?_)
   · refine o_r5 [(13, (.val undef)), (14, (.val undef)), (15, (.val undef)), (16, (.val undef)), (17, (vB true))] ?_
     exact o_end (w4 _ _ (wkm [1, 17] (whk wh_nil)) h)
   · refine o_r2 [(13, (.ptr 0 1)), (14, (vL Val.c a1.fRoots))] ?_
     refine o_g ?_
     refine o_o (one_len (f := Val.c) (l := a1.fRoots)) ?_
     refine o_r2 [(16, (vB (decide ((len a1.fRoots) > 60)))), (17, (vB (decide ((len a1.fRoots) > 60))))] ?_
     exact o_end (w4 _ _ (wkm [1, 17] (whk wh_nil)) h)
theorem ic98 : fnIC Try.prog H0 98 = some ([.tmp 3], 9, (.seq (.ops [zO 2 (.box 0 57 [(1, 59, 2, 0)] (.t 0)), zO 3 (.mov (.c (.bool false)))]) (.seq (.ops [zO 4 (.ld (.t 1) 1 false), zO 5 (.faddr (.t 2) 0), zO 6 (.ld (.t 5) 1 false), zO 7 (.call 52 [(.t 4), (.t 6)]), zO 8 (.sc (.bin .lss 3) [(.t 7), (.c (.int .i64 0))]), zM 3 8]) .ret))) := by kernel_rfl
def f98 (n : Nat) (a1 : Node) (a2 : (List Form)) : Option Bool := ((f52 n a2 a1.fClass).bind fun r5 => some (decide (r5 < 0)))
def f98_r (r : Bool) : AV := (vB r)
theorem p_f98 {n : Nat} {a1 : Node} {a2 : (List Form)} {r : Bool} (h : f98 n a1 a2 = some r) : PureSpec Try.prog 98 [(.agg [(vS a1.fClass), (vL Val.c a1.fVals)]), (.iptr [(vL Form.c a2)])] (f98_r r) := by
 rw [f98.eq_1] at h
 refine pure_of hmix ic98 ?_
 refine go_to (mkd (.val undef) 9 0 [(0, (.agg [(vS a1.fClass), (vL Val.c a1.fVals)])), (1, (.iptr [(vL Form.c a2)]))]) ?_
 refine s_so fun N3 k3 w3 => ?_
 refine o_h2 [(2, (.ptr 0 0)), (3, (vB false))] [(some (.box 57 [(vS a1.fClass), (vL Val.c a1.fVals)]))] ?_
 refine o_end (k3 _ ?_)
 refine s_so fun N4 k4 w4 => ?_
 refine o_r3 [(4, (vL Form.c a2)), (5, (.ptr 0 0)), (6, (vS a1.fClass))] ?_
 refine bnd h fun r5 g6 h => ?_
 refine o_o (one_call (p_f52 g6)) ?_
 refine o_r2 [(3, (vB (decide (r5 < 0)))), (8, (vB (decide (r5 < 0))))] ?_
 refine o_end (k4 _ ?_)
 exact c_ret (rets [] [(vB (decide (r5 < 0)))] [(vB (decide (r5 < 0)))] h)
theorem ic135 : fnIC Try.prog H0 135 = some ([.tmp 4], 19, (.seq (.ops [zO 4 (.mov (.c (.int .i64 0)))]) (.seq (.seq (.ops [zM 6 0, zO 7 (.len false (.t 6)), zO 8 (.mov (.c (.int .i64 0)))]) (.block 0 (.loop (.seq (.ops [zO 9 (.sc (.bin .lss 3) [(.t 8), (.t 7)])]) (.seq (.cond (.t 9)
  .skip
  (.exit 0)) (.seq (.block 1 (.seq (.ops [zM 10 8, zM 5 10]) (.seq (.ops [zM 11 1, zM 12 0, zM 13 5, zO 14 (.iaddr 2 (.t 12) (.t 13)), zO 15 (.ld (.t 14) 2 true), zO 16 (.callv (.t 11) [(.t 15)])]) (.cond (.t 16)
  (.seq (.ops [zM 17 5, zM 4 17]) .ret)
  .skip)))) (.ops [zO 18 (.sc (.bin .add 3) [(.t 8), (.c (.int .i64 1))]), zM 8 18]))))))) (.seq (.ops [zO 4 (.mov (.c (.int .i64 (-1))))]) .ret)))) := by kernel_rfl
def f135_k4 : Option Int := some (-1)
def f135_l8 (a1 : (List Node)) (n : Nat) (a2 : (List Form)) (k4k : Option Int) : Nat → Int → Option Int
  | 0, _ => none
  | m8 + 1, x22 => (bif (decide (x22 < (len a1))) then ((gi a1 x22).bind fun x30 => ((f98 n x30 a2).bind fun r32 => (bif r32 then some x22 else (f135_l8 a1 n a2 (k4k) m8 (wr .i64 (x22 + 1)))))) else (k4k))
def f135 (n : Nat) (a1 : (List Node)) (a2 : (List Form)) : Option Int := (f135_l8 a1 n a2 (f135_k4) n 0)
def f135_r (r : Int) : AV := (vI r)
theorem p_f135 {n : Nat} {a1 : (List Node)} {a2 : (List Form)} {r : Int} (h : f135 n a1 a2 = some r) : PureSpec Try.prog 135 [(vL Node.c a1), (.fn 98 [(.iptr [(vL Form.c a2)])])] (f135_r r) := by
 rw [f135.eq_1] at h
 refine pure_of hmix ic135 ?_
 refine go_to (mkd (.val undef) 19 0 [(0, (vL Node.c a1)), (1, (.fn 98 [(.iptr [(vL Form.c a2)])]))]) ?_
 refine s_so fun N3 k3 w3 => ?_
 refine o_r1 [(4, (vI 0))] ?_
 refine o_end (k3 _ ?_)
 refine J0 (r := r) ⟨(mkd .any 19 0 []), []⟩ (f135_k4) ?_ ?_
 · intro h
   rw [f135_k4.eq_1] at h
   refine s_so fun N36 k36 w36 => ?_
   refine o_r1 [(4, (vI (-1)))] ?_
   refine o_end (k36 _ ?_)
   exact c_ret (rets [] [(vI (-1))] [(vI (-1))] h)
 · intro N4 w4
   refine s_so fun N5 k5 w5 => ?_
   refine o_r1 [(6, (vL Node.c a1))] ?_
   refine o_o (one_len (f := Node.c) (l := a1)) ?_
   refine o_r1 [(8, (vI 0))] ?_
   refine o_end (k5 _ ?_)
   refine c_block fun E7 hE7 hO7 => ?_
   refine W1 (fun (x22 : Int) => ⟨(mkd .any 19 0 [(0, (vL Node.c a1)), (1, (.fn 98 [(.iptr [(vL Form.c a2)])])), (7, (vI (len a1))), (8, (vI x22))]), []⟩) (f135_l8 a1 n a2 (f135_k4)) h (wkm [0, 1, 7, 8] wh_nil) (by intros; rw [f135_l8.eq_1]) ?_
   intro m8 x22 h N8 w8
   rw [f135_l8.eq_2] at h
   refine s_so fun N23 k23 w23 => ?_
   refine o_r1 [(9, (vB (decide (x22 < (len a1)))))] ?_
   refine o_end (k23 _ ?_)
   refine s_seq fun N24 k24 w24 => ?_
   refine i_c [9] h (fun h => ?_) (fun h => ?_)
   · refine c_skip (k24 _ ?_)
     refine s_seq fun N26 k26 w26 => ?_
     refine c_block fun E27 hE27 hO27 => ?_
     refine s_so fun N28 k28 w28 => ?_
     refine o_r2 [(5, (vI x22)), (10, (vI x22))] ?_
     refine o_end (k28 _ ?_)
     refine s_so fun N29 k29 w29 => ?_
     refine o_r3 [(11, (.fn 98 [(.iptr [(vL Form.c a2)])])), (12, (vL Node.c a1)), (13, (vI x22))] ?_
     refine bnd h fun x30 g31 h => ?_
     refine o_o (one_ia (f := Node.c) (ki := .i64) g31) ?_
     refine o_r1 [(15, (.agg [(vS x30.fClass), (vL Val.c x30.fVals)]))] ?_
     refine bnd h fun r32 g33 h => ?_
     refine o_o (one_callv (caps := [(.iptr [(vL Form.c a2)])]) (p_f98 g33)) ?_
     refine o_end (k29 _ ?_)
     refine i_c [16] h (fun h => ?_) (fun h => ?_)
     · refine s_so fun N35 k35 w35 => ?_
       refine o_r2 [(4, (vI x22)), (17, (vI x22))] ?_
       refine o_end (k35 _ ?_)
       exact c_ret (rets [] [(vI x22)] [(vI x22)] h)
     · refine c_skip (k26 _ ?_)
       refine c_ops ?_
       refine o_r2 [(8, (vI (wr .i64 (x22 + 1)))), (18, (vI (wr .i64 (x22 + 1))))] ?_
       exact o_end (w8 _ _ (wkm [0, 1, 7, 8] wh_nil) h)
   · refine c_exit (hE7 _ ?_)
     exact w4 _ (wkm [] wh_nil) h
theorem ic97 : fnIC Try.prog H0 97 = some ([.tmp 4], 9, (.seq (.ops [zO 4 (.mov (.c (.bool false)))]) (.seq (.ops [zM 5 0, zM 6 1, zO 7 (.call 135 [(.t 5), (.t 6)]), zO 8 (.sc (.bin .geq 3) [(.t 7), (.c (.int .i64 0))]), zM 4 8]) .ret))) := by kernel_rfl
end Go.Proofs
end
