/- Texts of this claim, one behind the other. -/
import Derived.Test.YtbdgamoicleieaaPfb
set_option linter.unusedVariables false
set_option linter.unusedSimpArgs false
section
set_option linter.unusedVariables false
set_option maxRecDepth 100000
set_option maxHeartbeats 4000000
namespace Go.Proofs
open Go.Vm
attribute [local irreducible] vOps vDraw vC vK retP retH PureSpec HSpec
theorem ic13 : fnIC Try.prog H0 13 = some ([.tmp 2], 79, (.seq (.ops [⟨(some 2), none, .mov (.c (.bool false))⟩]) (.seq (.seq (.ops [⟨(some 3), none, .mov (.c (.int .i64 0))⟩]) (.block 0 (.loop (.seq (.seq (.ops [⟨(some 6), none, .mov (.t 3)⟩, ⟨(some 7), none, .mov (.t 0)⟩, ⟨(some 8), none, .len false (.t 7)⟩, ⟨(some 9), none, .sc (.bin .lss 3) [(.t 6), (.t 8)]⟩]) (.cond (.t 9)
  .skip
  (.exit 0))) (.seq (.block 1 (.seq (.ops [⟨(some 12), none, .mov (.t 0)⟩, ⟨(some 13), none, .mov (.t 3)⟩, ⟨(some 14), none, .iaddr 2 (.t 12) (.t 13)⟩, ⟨(some 15), none, .faddr (.t 14) 1⟩, ⟨(some 16), none, .ld (.t 15) 1 false⟩, ⟨(some 17), none, .len false (.t 16)⟩, ⟨(some 4), none, .mov (.t 17)⟩]) (.seq (.seq (.ops [⟨(some 18), none, .mov (.t 0)⟩, ⟨(some 19), none, .mov (.t 3)⟩, ⟨(some 20), none, .iaddr 2 (.t 18) (.t 19)⟩, ⟨(some 21), none, .faddr (.t 20) 0⟩, ⟨(some 22), none, .ld (.t 21) 1 false⟩, ⟨(some 23), none, .len true (.t 22)⟩, ⟨(some 24), none, .sc (.bin .gtr 3) [(.t 23), (.c (.int .i64 30))]⟩, ⟨(some 25), none, .mov (.t 24)⟩, ⟨(some 26), (some (25, false)), .mov (.t 4)⟩, ⟨(some 27), (some (25, false)), .sc (.bin .gtr 3) [(.t 26), (.c (.int .i64 6))]⟩, ⟨(some 28), (some (25, false)), .mov (.t 27)⟩, ⟨(some 29), (some (28, true)), .mov (.t 4)⟩, ⟨(some 30), (some (28, true)), .sc (.bin .leq 3) [(.t 29), (.c (.int .i64 30))]⟩, ⟨(some 31), (some (25, false)), .pick (.t 28) (.t 30) (.c (.bool false))⟩, ⟨(some 32), none, .pick (.t 25) (.c (.bool true)) (.t 31)⟩, ⟨(some 33), none, .mov (.t 32)⟩, ⟨(some 34), (some (33, false)), .mov (.t 4)⟩, ⟨(some 35), (some (33, false)), .sc (.bin .gtr 3) [(.t 34), (.c (.int .i64 40))]⟩, ⟨(some 36), none, .pick (.t 33) (.c (.bool true)) (.t 35)⟩]) (.cond (.t 36)
  (.seq (.ops [⟨(some 2), none, .mov (.c (.bool false))⟩]) .ret)
  .skip)) (.seq (.ops [⟨(some 5), none, .mov (.c (.int .i64 0))⟩]) (.block 2 (.loop (.seq (.seq (.ops [⟨(some 37), none, .mov (.t 5)⟩, ⟨(some 38), none, .mov (.t 4)⟩, ⟨(some 39), none, .sc (.bin .lss 3) [(.t 37), (.t 38)]⟩]) (.cond (.t 39)
  .skip
  (.exit 2))) (.seq (.block 3 (.seq (.ops [⟨(some 42), none, .mov (.t 0)⟩, ⟨(some 43), none, .mov (.t 3)⟩, ⟨(some 44), none, .iaddr 2 (.t 42) (.t 43)⟩, ⟨(some 45), none, .faddr (.t 44) 1⟩, ⟨(some 46), none, .ld (.t 45) 1 false⟩, ⟨(some 47), none, .mov (.t 5)⟩, ⟨(some 48), none, .iaddr 3 (.t 46) (.t 47)⟩, ⟨(some 49), none, .faddr (.t 48) 0⟩, ⟨(some 50), none, .ld (.t 49) 1 false⟩, ⟨(some 51), none, .len true (.t 50)⟩, ⟨(some 52), none, .sc (.bin .gtr 3) [(.t 51), (.c (.int .i64 30))]⟩, ⟨(some 53), none, .mov (.t 52)⟩, ⟨(some 54), (some (53, false)), .mov (.t 0)⟩, ⟨(some 55), (some (53, false)), .mov (.t 3)⟩, ⟨(some 56), (some (53, false)), .iaddr 2 (.t 54) (.t 55)⟩, ⟨(some 57), (some (53, false)), .faddr (.t 56) 1⟩, ⟨(some 58), (some (53, false)), .ld (.t 57) 1 false⟩, ⟨(some 59), (some (53, false)), .mov (.t 5)⟩, ⟨(some 60), (some (53, false)), .iaddr 3 (.t 58) (.t 59)⟩, ⟨(some 61), (some (53, false)), .faddr (.t 60) 2⟩, ⟨(some 62), (some (53, false)), .ld (.t 61) 1 false⟩, ⟨(some 63), (some (53, false)), .len true (.t 62)⟩, ⟨(some 64), (some (53, false)), .sc (.bin .gtr 3) [(.t 63), (.c (.int .i64 30))]⟩, ⟨(some 65), none, .pick (.t 53) (.c (.bool true)) (.t 64)⟩]) (.cond (.t 65)
  (.seq (.ops [⟨(some 2), none, .mov (.c (.bool false))⟩]) .ret)
  .skip))) (.ops [⟨(some 40), none, .mov (.t 5)⟩, ⟨(some 41), none, .sc (.bin .add 3) [(.t 40), (.c (.int .i64 1))]⟩, ⟨(some 5), none, .mov (.t 41)⟩]))))))))) (.ops [⟨(some 10), none, .mov (.t 3)⟩, ⟨(some 11), none, .sc (.bin .add 3) [(.t 10), (.c (.int .i64 1))]⟩, ⟨(some 3), none, .mov (.t 11)⟩])))))) (.seq (.ops [⟨(some 66), none, .mov (.t 0)⟩, ⟨(some 67), none, .len false (.t 66)⟩, ⟨(some 68), none, .sc (.bin .leq 3) [(.t 67), (.c (.int .i64 6))]⟩, ⟨(some 69), none, .mov (.t 68)⟩, ⟨(some 70), (some (69, false)), .mov (.t 0)⟩, ⟨(some 71), (some (69, false)), .len false (.t 70)⟩, ⟨(some 72), (some (69, false)), .sc (.bin .gtr 3) [(.t 71), (.c (.int .i64 24))]⟩, ⟨(some 73), (some (69, false)), .mov (.t 72)⟩, ⟨(some 74), (some (73, true)), .mov (.t 0)⟩, ⟨(some 75), (some (73, true)), .len false (.t 74)⟩, ⟨(some 76), (some (73, true)), .sc (.bin .leq 3) [(.t 75), (.c (.int .i64 30))]⟩, ⟨(some 77), (some (69, false)), .pick (.t 73) (.t 76) (.c (.bool false))⟩, ⟨(some 78), none, .pick (.t 69) (.c (.bool true)) (.t 77)⟩, ⟨(some 2), none, .mov (.t 78)⟩]) .ret)))) := by kernel_rfl
def f13_k115 (x109 : Int) (c90k : Int → Option Bool) (x125 : Bool) : Option Bool := (bif x125 then some false else (c90k (wr .i64 (x109 + 1))))
def f13_k72 (x67 : Int) (c6k : Int → Option Bool) : Option Bool := (c6k (wr .i64 (x67 + 1)))
def f13_l90 (x75 : Form) (a1 : (List Form)) (x67 : Int) (k72k : Option Bool) : Nat → Int → Option Bool
  | 0, _ => none
  | m90 + 1, x109 => (bif (decide (x109 < (len x75.fCols))) then ((gi a1 x67).bind fun x116 => ((gi x116.fCols x109).bind fun x118 => (bif (decide ((bsz x118.fName) > 30)) then (f13_k115 x109 (f13_l90 x75 a1 x67 (k72k) m90) true) else ((gi a1 x67).bind fun x121 => ((gi x121.fCols x109).bind fun x123 => (f13_k115 x109 (f13_l90 x75 a1 x67 (k72k) m90) (decide ((bsz x123.fClass) > 30)))))))) else (k72k))
def f13_k79 (n : Nat) (x75 : Form) (a1 : (List Form)) (x67 : Int) (c6k : Int → Option Bool) (x85 : Bool) : Option Bool := (bif x85 then some false else (f13_l90 x75 a1 x67 (f13_k72 x67 (c6k)) n 0))
def f13_k128 (x134 : Bool) : Option Bool := some x134
def f13_k3 (a1 : (List Form)) : Option Bool := (bif (decide ((len a1) ≤ 6)) then (f13_k128 true) else (bif (decide ((len a1) > 24)) then (f13_k128 (decide ((len a1) ≤ 30))) else (f13_k128 false)))
def f13_l6 (a1 : (List Form)) (n : Nat) (k3k : Option Bool) : Nat → Int → Option Bool
  | 0, _ => none
  | m6 + 1, x67 => (bif (decide (x67 < (len a1))) then ((gi a1 x67).bind fun x75 => ((gi a1 x67).bind fun x80 => (bif (decide ((bsz x80.fName) > 30)) then (f13_k79 n x75 a1 x67 (f13_l6 a1 n (k3k) m6) true) else (bif (decide ((len x75.fCols) > 6)) then (bif (decide ((len x75.fCols) ≤ 30)) then (f13_k79 n x75 a1 x67 (f13_l6 a1 n (k3k) m6) true) else (f13_k79 n x75 a1 x67 (f13_l6 a1 n (k3k) m6) (decide ((len x75.fCols) > 40)))) else (f13_k79 n x75 a1 x67 (f13_l6 a1 n (k3k) m6) (decide ((len x75.fCols) > 40))))))) else (k3k))
def f13 (n : Nat) (a1 : (List Form)) : Option Bool := (f13_l6 a1 n (f13_k3 a1) n 0)
def f13_r (r : Bool) : AV := (vB r)
theorem p_f13 {n : Nat} {a1 : (List Form)} {r : Bool} (h : f13 n a1 = some r) : PureSpec Try.prog 13 [(vL Form.c a1)] (f13_r r) := by
 rw [f13.eq_1] at h
 refine pure_of hmix ic13 ?_
 refine go_to (mkd (.val undef) 79 0 [(0, (vL Form.c a1))]) ?_
 refine s_so fun N2 k2 w2 => ?_
 refine o_r1 [(2, (vB false))] ?_
 refine o_end (k2 _ ?_)
 refine J0 (r := r) ⟨(mkd .any 79 0 [(0, (vL Form.c a1))]), []⟩ (f13_k3 a1) ?_ ?_
 · intro h
   rw [f13_k3.eq_1] at h
   refine J1 (r := r) (fun (x134 : Bool) => ⟨(mkd .any 79 0 [(2, (vB x134))]), []⟩) (f13_k128) ?_ ?_
   · intro x134 h
     rw [f13_k128.eq_1] at h
     exact c_ret (rets [] [(vB x134)] [(vB x134)] h)
   · intro N128 w128
     refine c_ops ?_
     refine o_r1 [(66, (vL Form.c a1))] ?_
     refine o_o (one_len (f := Form.c) (l := a1)) ?_
     refine o_r2 [(68, (vB (decide ((len a1) ≤ 6)))), (69, (vB (decide ((len a1) ≤ 6))))] ?_
     refine i_o [68, 69] h (fun h => ?_) (fun h => ?_)
     · refine o_r10 [(2, (vB true)), (70, (.val undef)), (71, (.val undef)), (72, (.val undef)), (73, (.val undef)), (74, (.val undef)), (75, (.val undef)), (76, (.val undef)), (77, (.val undef)), (78, (vB true))] ?_
       exact o_end (w128 _ _ (wkm [2] wh_nil) h)
     · refine o_r1 [(70, (vL Form.c a1))] ?_
       refine o_g ?_
       refine o_o (one_len (f := Form.c) (l := a1)) ?_
       refine o_r2 [(72, (vB (decide ((len a1) > 24)))), (73, (vB (decide ((len a1) > 24))))] ?_
       refine i_o [72, 73] h (fun h => ?_) (fun h => ?_)
       · refine o_r1 [(74, (vL Form.c a1))] ?_
         refine o_g ?_
         refine o_o (one_len (f := Form.c) (l := a1)) ?_
         refine o_r4 [(2, (vB (decide ((len a1) ≤ 30)))), (76, (vB (decide ((len a1) ≤ 30)))), (77, (vB (decide ((len a1) ≤ 30)))), (78, (vB (decide ((len a1) ≤ 30))))] ?_
         exact o_end (w128 _ _ (wkm [2] wh_nil) h)
       · refine o_r6 [(2, (vB false)), (74, (.val undef)), (75, (.val undef)), (76, (.val undef)), (77, (vB false)), (78, (vB false))] ?_
         exact o_end (w128 _ _ (wkm [2] wh_nil) h)
 · intro N3 w3
   refine s_so fun N4 k4 w4 => ?_
   refine o_r1 [(3, (vI 0))] ?_
   refine o_end (k4 _ ?_)
   refine c_block fun E5 hE5 hO5 => ?_
   refine W1 (fun (x67 : Int) => ⟨(mkd .any 79 0 [(0, (vL Form.c a1)), (3, (vI x67))]), []⟩) (f13_l6 a1 n (f13_k3 a1)) h (wkm [0, 3] wh_nil) (by intros; rw [f13_l6.eq_1]) ?_
   intro m6 x67 h N6 w6
   rw [f13_l6.eq_2] at h
   refine s_seq fun N68 k68 w68 => ?_
   refine s_so fun N69 k69 w69 => ?_
   refine o_r2 [(6, (vI x67)), (7, (vL Form.c a1))] ?_
   refine o_o (one_len (f := Form.c) (l := a1)) ?_
   refine o_r1 [(9, (vB (decide (x67 < (len a1)))))] ?_
   refine o_end (k69 _ ?_)
   refine i_c [9] h (fun h => ?_) (fun h => ?_)
   · refine c_skip (k68 _ ?_)
     refine J0 (r := r) ⟨(mkd .any 79 0 [(0, (vL Form.c a1)), (3, (vI x67))]), []⟩ (f13_k72 x67 (f13_l6 a1 n (f13_k3 a1) m6)) ?_ ?_
     · intro h
       rw [f13_k72.eq_1] at h
       refine c_ops ?_
       refine o_r3 [(3, (vI (wr .i64 (x67 + 1)))), (10, (vI x67)), (11, (vI (wr .i64 (x67 + 1))))] ?_
       exact o_end (w6 _ _ (wkm [0, 3] wh_nil) h)
     · intro N72 w72
       refine c_block fun E73 hE73 hO73 => ?_
       refine s_so fun N74 k74 w74 => ?_
       refine o_r2 [(12, (vL Form.c a1)), (13, (vI x67))] ?_
       refine bnd h fun x75 g76 h => ?_
       refine o_o (one_ia (f := Form.c) (ki := .i64) g76) ?_
       refine o_r2 [(15, (.iptr [(vL Col.c x75.fCols)])), (16, (vL Col.c x75.fCols))] ?_
       refine o_o (one_len (f := Col.c) (l := x75.fCols)) ?_
       refine o_r1 [(4, (vI (len x75.fCols)))] ?_
       refine o_end (k74 _ ?_)
       refine s_seq fun N78 k78 w78 => ?_
       refine J1 (r := r) (fun (x85 : Bool) => ⟨(mkd .any 79 0 [(0, (vL Form.c a1)), (3, (vI x67)), (4, (vI (len x75.fCols))), (36, (vB x85))]), []⟩) (f13_k79 n x75 a1 x67 (f13_l6 a1 n (f13_k3 a1) m6)) ?_ ?_
       · intro x85 h
         rw [f13_k79.eq_1] at h
         refine i_c [36] h (fun h => ?_) (fun h => ?_)
         · refine s_so fun N87 k87 w87 => ?_
           refine o_r1 [(2, (vB false))] ?_
           refine o_end (k87 _ ?_)
           exact c_ret (rets [] [(vB false)] [(vB false)] h)
         · refine c_skip (k78 _ ?_)
           refine s_so fun N88 k88 w88 => ?_
           refine o_r1 [(5, (vI 0))] ?_
           refine o_end (k88 _ ?_)
           refine c_block fun E89 hE89 hO89 => ?_
           refine W1 (fun (x109 : Int) => ⟨(mkd .any 79 0 [(0, (vL Form.c a1)), (3, (vI x67)), (4, (vI (len x75.fCols))), (5, (vI x109))]), []⟩) (f13_l90 x75 a1 x67 (f13_k72 x67 (f13_l6 a1 n (f13_k3 a1) m6))) h (wkm [0, 3, 4, 5] wh_nil) (by intros; rw [f13_l90.eq_1]) ?_
           intro m90 x109 h N90 w90
           rw [f13_l90.eq_2] at h
           refine s_seq fun N110 k110 w110 => ?_
           refine s_so fun N111 k111 w111 => ?_
           refine o_r3 [(37, (vI x109)), (38, (vI (len x75.fCols))), (39, (vB (decide (x109 < (len x75.fCols)))))] ?_
           refine o_end (k111 _ ?_)
           refine i_c [39] h (fun h => ?_) (fun h => ?_)
           · refine c_skip (k110 _ ?_)
             refine s_seq fun N113 k113 w113 => ?_
             refine c_block fun E114 hE114 hO114 => ?_
             refine J1 (r := r) (fun (x125 : Bool) => ⟨(mkd .any 79 0 [(0, (vL Form.c a1)), (3, (vI x67)), (4, (vI (len x75.fCols))), (5, (vI x109)), (65, (vB x125))]), []⟩) (f13_k115 x109 (f13_l90 x75 a1 x67 (f13_k72 x67 (f13_l6 a1 n (f13_k3 a1) m6)) m90)) ?_ ?_
             · intro x125 h
               rw [f13_k115.eq_1] at h
               refine i_c [65] h (fun h => ?_) (fun h => ?_)
               · refine s_so fun N127 k127 w127 => ?_
                 refine o_r1 [(2, (vB false))] ?_
                 refine o_end (k127 _ ?_)
                 exact c_ret (rets [] [(vB false)] [(vB false)] h)
               · refine c_skip (k113 _ ?_)
                 refine c_ops ?_
                 refine o_r3 [(5, (vI (wr .i64 (x109 + 1)))), (40, (vI x109)), (41, (vI (wr .i64 (x109 + 1))))] ?_
                 exact o_end (w90 _ _ (wkm [0, 3, 4, 5] wh_nil) h)
             · intro N115 w115
               refine c_ops ?_
               refine o_r2 [(42, (vL Form.c a1)), (43, (vI x67))] ?_
               refine bnd h fun x116 g117 h => ?_
               refine o_o (one_ia (f := Form.c) (ki := .i64) g117) ?_
               refine o_r3 [(45, (.iptr [(vL Col.c x116.fCols)])), (46, (vL Col.c x116.fCols)), (47, (vI x109))] ?_
               refine bnd h fun x118 g119 h => ?_
               refine o_o (one_ia (f := Col.c) (ki := .i64) g119) ?_
               refine o_r5 [(49, (.iptr [(vS x118.fName), (vI x118.fKind), (vS x118.fClass)])), (50, (vS x118.fName)), (51, (vI (bsz x118.fName))), (52, (vB (decide ((bsz x118.fName) > 30)))), (53, (vB (decide ((bsz x118.fName) > 30))))] ?_
               refine i_o [52, 53] h (fun h => ?_) (fun h => ?_)
               · refine o_r12 [(54, (.val undef)), (55, (.val undef)), (56, (.val undef)), (57, (.val undef)), (58, (.val undef)), (59, (.val undef)), (60, (.val undef)), (61, (.val undef)), (62, (.val undef)), (63, (.val undef)), (64, (.val undef)), (65, (vB true))] ?_
                 exact o_end (w115 _ _ (wkm [0, 3, 4, 5, 65] wh_nil) h)
               · refine o_r2 [(54, (vL Form.c a1)), (55, (vI x67))] ?_
                 refine bnd h fun x121 g122 h => ?_
                 refine o_g ?_
                 refine o_o (one_ia (f := Form.c) (ki := .i64) g122) ?_
                 refine o_r3 [(57, (.iptr [(vL Col.c x121.fCols)])), (58, (vL Col.c x121.fCols)), (59, (vI x109))] ?_
                 refine bnd h fun x123 g124 h => ?_
                 refine o_g ?_
                 refine o_o (one_ia (f := Col.c) (ki := .i64) g124) ?_
                 refine o_r5 [(61, (.iptr [(vS x123.fClass)])), (62, (vS x123.fClass)), (63, (vI (bsz x123.fClass))), (64, (vB (decide ((bsz x123.fClass) > 30)))), (65, (vB (decide ((bsz x123.fClass) > 30))))] ?_
                 refine s_tm (mkd .any 79 0 [(0, (vL Form.c a1)), (3, (vI x67)), (4, (vI (len x75.fCols))), (5, (vI x109)), (37, (vI x109)), (38, (vI (len x75.fCols))), (39, (vB true)), (42, (vL Form.c a1)), (43, (vI x67)), (44, (.iptr [(vS x116.fName), (vL Col.c x116.fCols)])), (45, (.iptr [(vL Col.c x116.fCols)])), (46, (vL Col.c x116.fCols)), (47, (vI x109)), (48, (.iptr [(vS x118.fName), (vI x118.fKind), (vS x118.fClass)])), (49, (.iptr [(vS x118.fName), (vI x118.fKind), (vS x118.fClass)])), (50, (vS x118.fName)), (51, (vI (bsz x118.fName))), (52, (vB false)), (53, (vB false)), (54, (vL Form.c a1)), (55, (vI x67)), (56, (.iptr [(vS x121.fName), (vL Col.c x121.fCols)])), (57, (.iptr [(vL Col.c x121.fCols)])), (58, (vL Col.c x121.fCols)), (59, (vI x109)), (60, (.iptr [(vS x123.fName), (vI x123.fKind), (vS x123.fClass)])), (61, (.iptr [(vS x123.fClass)])), (62, (vS x123.fClass)), (63, (vI (bsz x123.fClass))), (64, (vB (decide ((bsz x123.fClass) > 30)))), (65, (vB (decide ((bsz x123.fClass) > 30))))]) ?_
                 exact o_end (w115 _ _ (wkm [0, 3, 4, 5, 65] wh_nil) h)
           · refine c_exit (hE89 _ ?_)
             exact w72 _ (wkm [0, 3] wh_nil) h
       · intro N79 w79
         refine c_ops ?_
         refine o_r2 [(18, (vL Form.c a1)), (19, (vI x67))] ?_
         refine bnd h fun x80 g81 h => ?_
         refine o_o (one_ia (f := Form.c) (ki := .i64) g81) ?_
         refine o_r5 [(21, (.iptr [(vS x80.fName), (vL Col.c x80.fCols)])), (22, (vS x80.fName)), (23, (vI (bsz x80.fName))), (24, (vB (decide ((bsz x80.fName) > 30)))), (25, (vB (decide ((bsz x80.fName) > 30))))] ?_
         refine s_tm (mkd .any 79 0 [(0, (vL Form.c a1)), (3, (vI x67)), (4, (vI (len x75.fCols))), (6, (vI x67)), (7, (vL Form.c a1)), (8, (vI (len a1))), (9, (vB true)), (12, (vL Form.c a1)), (13, (vI x67)), (14, (.iptr [(vS x75.fName), (vL Col.c x75.fCols)])), (15, (.iptr [(vL Col.c x75.fCols)])), (16, (vL Col.c x75.fCols)), (17, (vI (len x75.fCols))), (18, (vL Form.c a1)), (19, (vI x67)), (20, (.iptr [(vS x80.fName), (vL Col.c x80.fCols)])), (21, (.iptr [(vS x80.fName), (vL Col.c x80.fCols)])), (22, (vS x80.fName)), (23, (vI (bsz x80.fName))), (24, (vB (decide ((bsz x80.fName) > 30)))), (25, (vB (decide ((bsz x80.fName) > 30))))]) ?_
         refine i_o [24, 25] h (fun h => ?_) (fun h => ?_)
         · refine o_r11 [(26, (.val undef)), (27, (.val undef)), (28, (.val undef)), (29, (.val undef)), (30, (.val undef)), (31, (.val undef)), (32, (vB true)), (33, (vB true)), (34, (.val undef)), (35, (.val undef)), (36, (vB true))] ?_
           exact o_end (w79 _ _ (wkm [0, 3, 4, 36] wh_nil) h)
         · refine o_r3 [(26, (vI (len x75.fCols))), (27, (vB (decide ((len x75.fCols) > 6)))), (28, (vB (decide ((len x75.fCols) > 6))))] ?_
           refine i_o [27, 28] h (fun h => ?_) (fun h => ?_)
           · refine o_r5 [(29, (vI (len x75.fCols))), (30, (vB (decide ((len x75.fCols) ≤ 30)))), (31, (vB (decide ((len x75.fCols) ≤ 30)))), (32, (vB (decide ((len x75.fCols) ≤ 30)))), (33, (vB (decide ((len x75.fCols) ≤ 30))))] ?_
             refine i_o [30, 31, 32, 33] h (fun h => ?_) (fun h => ?_)
             · refine o_r3 [(34, (.val undef)), (35, (.val undef)), (36, (vB true))] ?_
               exact o_end (w79 _ _ (wkm [0, 3, 4, 36] wh_nil) h)
             · refine o_r3 [(34, (vI (len x75.fCols))), (35, (vB (decide ((len x75.fCols) > 40)))), (36, (vB (decide ((len x75.fCols) > 40))))] ?_
               exact o_end (w79 _ _ (wkm [0, 3, 4, 36] wh_nil) h)
           · refine o_r8 [(29, (.val undef)), (30, (.val undef)), (31, (vB false)), (32, (vB false)), (33, (vB false)), (34, (vI (len x75.fCols))), (35, (vB (decide ((len x75.fCols) > 40)))), (36, (vB (decide ((len x75.fCols) > 40))))] ?_
             exact o_end (w79 _ _ (wkm [0, 3, 4, 36] wh_nil) h)
   · refine c_exit (hE5 _ ?_)
     exact w3 _ (wkm [0] wh_nil) h
theorem ic14 : fnIC Try.prog H0 14 = some ([.tmp 2], 57, (.seq (.ops [⟨(some 1), none, .box 0 26 [(0, 57, 2, 0), (1, 59, 2, 0)] (.t 0)⟩, ⟨(some 2), none, .mov (.c (.bool false))⟩]) (.seq (.ops [⟨(some 7), none, .faddr (.t 1) 0⟩, ⟨(some 8), none, .ld (.t 7) 1 false⟩, ⟨(some 9), none, .len false (.t 8)⟩, ⟨(some 3), none, .mov (.t 9)⟩]) (.seq (.seq (.ops [⟨(some 4), none, .mov (.c (.int .i64 0))⟩]) (.block 0 (.loop (.seq (.seq (.ops [⟨(some 10), none, .mov (.t 4)⟩, ⟨(some 11), none, .mov (.t 3)⟩, ⟨(some 12), none, .sc (.bin .lss 3) [(.t 10), (.t 11)]⟩]) (.cond (.t 12)
  .skip
  (.exit 0))) (.seq (.block 1 (.seq (.ops [⟨(some 15), none, .faddr (.t 1) 0⟩, ⟨(some 16), none, .ld (.t 15) 1 false⟩, ⟨(some 17), none, .mov (.t 4)⟩, ⟨(some 18), none, .iaddr 2 (.t 16) (.t 17)⟩, ⟨(some 19), none, .faddr (.t 18) 1⟩, ⟨(some 20), none, .ld (.t 19) 1 false⟩, ⟨(some 21), none, .len false (.t 20)⟩, ⟨(some 5), none, .mov (.t 21)⟩]) (.seq (.ops [⟨(some 22), none, .mov (.t 5)⟩, ⟨(some 23), none, .sc (.bin .gtr 3) [(.t 22), (.c (.int .i64 8))]⟩, ⟨(some 24), none, .mov (.t 23)⟩, ⟨(some 25), (some (24, true)), .mov (.t 5)⟩, ⟨(some 26), (some (24, true)), .sc (.bin .leq 3) [(.t 25), (.c (.int .i64 30))]⟩, ⟨(some 27), none, .pick (.t 24) (.t 26) (.c (.bool false))⟩, ⟨(some 28), none, .mov (.t 27)⟩, ⟨(some 29), (some (28, false)), .mov (.t 5)⟩, ⟨(some 30), (some (28, false)), .sc (.bin .gtr 3) [(.t 29), (.c (.int .i64 40))]⟩, ⟨(some 31), none, .pick (.t 28) (.c (.bool true)) (.t 30)⟩]) (.cond (.t 31)
  (.seq (.ops [⟨(some 2), none, .mov (.c (.bool false))⟩]) .ret)
  .skip)))) (.ops [⟨(some 13), none, .mov (.t 4)⟩, ⟨(some 14), none, .sc (.bin .add 3) [(.t 13), (.c (.int .i64 1))]⟩, ⟨(some 4), none, .mov (.t 14)⟩])))))) (.seq (.ops [⟨(some 32), none, .faddr (.t 1) 1⟩, ⟨(some 33), none, .ld (.t 32) 1 false⟩, ⟨(some 34), none, .len false (.t 33)⟩, ⟨(some 6), none, .mov (.t 34)⟩]) (.seq (.ops [⟨(some 35), none, .mov (.t 3)⟩, ⟨(some 36), none, .sc (.bin .leq 3) [(.t 35), (.c (.int .i64 30))]⟩, ⟨(some 37), none, .mov (.t 36)⟩, ⟨(some 38), (some (37, false)), .mov (.t 3)⟩, ⟨(some 39), (some (37, false)), .sc (.bin .gtr 3) [(.t 38), (.c (.int .i64 400))]⟩, ⟨(some 40), (some (37, false)), .mov (.t 39)⟩, ⟨(some 41), (some (40, true)), .mov (.t 3)⟩, ⟨(some 42), (some (40, true)), .sc (.bin .leq 3) [(.t 41), (.c (.int .i64 410))]⟩, ⟨(some 43), (some (37, false)), .pick (.t 40) (.t 42) (.c (.bool false))⟩, ⟨(some 44), none, .pick (.t 37) (.c (.bool true)) (.t 43)⟩, ⟨(some 45), none, .mov (.t 44)⟩, ⟨(some 46), (some (45, true)), .mov (.t 6)⟩, ⟨(some 47), (some (45, true)), .sc (.bin .leq 3) [(.t 46), (.c (.int .i64 10))]⟩, ⟨(some 48), (some (45, true)), .mov (.t 47)⟩, ⟨(some 49), (some (48, false)), .mov (.t 6)⟩, ⟨(some 50), (some (48, false)), .sc (.bin .gtr 3) [(.t 49), (.c (.int .i64 60))]⟩, ⟨(some 51), (some (48, false)), .mov (.t 50)⟩, ⟨(some 52), (some (51, true)), .mov (.t 6)⟩, ⟨(some 53), (some (51, true)), .sc (.bin .leq 3) [(.t 52), (.c (.int .i64 70))]⟩, ⟨(some 54), (some (48, false)), .pick (.t 51) (.t 53) (.c (.bool false))⟩, ⟨(some 55), (some (45, true)), .pick (.t 48) (.c (.bool true)) (.t 54)⟩, ⟨(some 56), none, .pick (.t 45) (.t 55) (.c (.bool false))⟩, ⟨(some 2), none, .mov (.t 56)⟩]) .ret)))))) := by kernel_rfl
def f14_k34 (x24 : Int) (c8k : Int → Option Bool) (x37 : Bool) : Option Bool := (bif x37 then some false else (c8k (wr .i64 (x24 + 1))))
def f14_k42 (x50 : Bool) : Option Bool := some x50
def f14_k5 (a1 : Graph) : Option Bool := (bif (decide ((len a1.fNodes) ≤ 30)) then (bif (decide ((len a1.fRoots) ≤ 10)) then (f14_k42 true) else (bif (decide ((len a1.fRoots) > 60)) then (f14_k42 (decide ((len a1.fRoots) ≤ 70))) else (f14_k42 false))) else (bif (decide ((len a1.fNodes) > 400)) then (bif (decide ((len a1.fNodes) ≤ 410)) then (bif (decide ((len a1.fRoots) ≤ 10)) then (f14_k42 true) else (bif (decide ((len a1.fRoots) > 60)) then (f14_k42 (decide ((len a1.fRoots) ≤ 70))) else (f14_k42 false))) else (f14_k42 false)) else (f14_k42 false)))
def f14_l8 (a1 : Graph) (k5k : Option Bool) : Nat → Int → Option Bool
  | 0, _ => none
  | m8 + 1, x24 => (bif (decide (x24 < (len a1.fNodes))) then ((gi a1.fNodes x24).bind fun x31 => (bif (decide ((len x31.fVals) > 8)) then (bif (decide ((len x31.fVals) ≤ 30)) then (f14_k34 x24 (f14_l8 a1 (k5k) m8) true) else (f14_k34 x24 (f14_l8 a1 (k5k) m8) (decide ((len x31.fVals) > 40)))) else (f14_k34 x24 (f14_l8 a1 (k5k) m8) (decide ((len x31.fVals) > 40))))) else (k5k))
def f14 (n : Nat) (a1 : Graph) : Option Bool := (f14_l8 a1 (f14_k5 a1) n 0)
def f14_r (r : Bool) : AV := (vB r)
theorem p_f14 {n : Nat} {a1 : Graph} {r : Bool} (h : f14 n a1 = some r) : PureSpec Try.prog 14 [(.agg [(vL Node.c a1.fNodes), (vL Val.c a1.fRoots)])] (f14_r r) := by
 rw [f14.eq_1] at h
 refine pure_of hmix ic14 ?_
 refine go_to (mkd (.val undef) 57 0 [(0, (.agg [(vL Node.c a1.fNodes), (vL Val.c a1.fRoots)]))]) ?_
 refine s_so fun N2 k2 w2 => ?_
 refine o_h2 [(1, (.ptr 0 0)), (2, (vB false))] [(some (.box 26 [(vL Node.c a1.fNodes), (vL Val.c a1.fRoots)]))] ?_
 refine o_end (k2 _ ?_)
 refine s_so fun N3 k3 w3 => ?_
 refine o_r2 [(7, (.ptr 0 0)), (8, (vL Node.c a1.fNodes))] ?_
 refine o_o (one_len (f := Node.c) (l := a1.fNodes)) ?_
 refine o_r1 [(3, (vI (len a1.fNodes)))] ?_
 refine o_end (k3 _ ?_)
 refine J0 (r := r) ⟨(mkd .any 57 0 [(1, (.ptr 0 0)), (3, (vI (len a1.fNodes)))]), [(some (.box 26 [(vL Node.c a1.fNodes), (vL Val.c a1.fRoots)]))]⟩ (f14_k5 a1) ?_ ?_
 · intro h
   rw [f14_k5.eq_1] at h
   refine s_so fun N40 k40 w40 => ?_
   refine o_r2 [(32, (.ptr 0 1)), (33, (vL Val.c a1.fRoots))] ?_
   refine o_o (one_len (f := Val.c) (l := a1.fRoots)) ?_
   refine o_r1 [(6, (vI (len a1.fRoots)))] ?_
   refine o_end (k40 _ ?_)
   refine J1 (r := r) (fun (x50 : Bool) => ⟨(mkd .any 57 0 [(2, (vB x50))]), []⟩) (f14_k42) ?_ ?_
   · intro x50 h
     rw [f14_k42.eq_1] at h
     exact c_ret (rets [] [(vB x50)] [(vB x50)] h)
   · intro N42 w42
     refine c_ops ?_
     refine o_r3 [(35, (vI (len a1.fNodes))), (36, (vB (decide ((len a1.fNodes) ≤ 30)))), (37, (vB (decide ((len a1.fNodes) ≤ 30))))] ?_
     refine i_o [36, 37] h (fun h => ?_) (fun h => ?_)
     · refine o_r11 [(38, (.val undef)), (39, (.val undef)), (40, (.val undef)), (41, (.val undef)), (42, (.val undef)), (43, (.val undef)), (44, (vB true)), (45, (vB true)), (46, (vI (len a1.fRoots))), (47, (vB (decide ((len a1.fRoots) ≤ 10)))), (48, (vB (decide ((len a1.fRoots) ≤ 10))))] ?_
       refine i_o [47, 48] h (fun h => ?_) (fun h => ?_)
       · refine o_r9 [(2, (vB true)), (49, (.val undef)), (50, (.val undef)), (51, (.val undef)), (52, (.val undef)), (53, (.val undef)), (54, (.val undef)), (55, (vB true)), (56, (vB true))] ?_
         exact o_end (w42 _ _ (wkm [2] wh_nil) h)
       · refine o_r3 [(49, (vI (len a1.fRoots))), (50, (vB (decide ((len a1.fRoots) > 60)))), (51, (vB (decide ((len a1.fRoots) > 60))))] ?_
         refine i_o [50, 51] h (fun h => ?_) (fun h => ?_)
         · refine o_r6 [(2, (vB (decide ((len a1.fRoots) ≤ 70)))), (52, (vI (len a1.fRoots))), (53, (vB (decide ((len a1.fRoots) ≤ 70)))), (54, (vB (decide ((len a1.fRoots) ≤ 70)))), (55, (vB (decide ((len a1.fRoots) ≤ 70)))), (56, (vB (decide ((len a1.fRoots) ≤ 70))))] ?_
           exact o_end (w42 _ _ (wkm [2] wh_nil) h)
         · refine o_r6 [(2, (vB false)), (52, (.val undef)), (53, (.val undef)), (54, (vB false)), (55, (vB false)), (56, (vB false))] ?_
           exact o_end (w42 _ _ (wkm [2] wh_nil) h)
     · refine o_r3 [(38, (vI (len a1.fNodes))), (39, (vB (decide ((len a1.fNodes) > 400)))), (40, (vB (decide ((len a1.fNodes) > 400))))] ?_
       refine i_o [39, 40] h (fun h => ?_) (fun h => ?_)
       · refine o_r5 [(41, (vI (len a1.fNodes))), (42, (vB (decide ((len a1.fNodes) ≤ 410)))), (43, (vB (decide ((len a1.fNodes) ≤ 410)))), (44, (vB (decide ((len a1.fNodes) ≤ 410)))), (45, (vB (decide ((len a1.fNodes) ≤ 410))))] ?_
         refine i_o [42, 43, 44, 45] h (fun h => ?_) (fun h => ?_)
         · refine o_r3 [(46, (vI (len a1.fRoots))), (47, (vB (decide ((len a1.fRoots) ≤ 10)))), (48, (vB (decide ((len a1.fRoots) ≤ 10))))] ?_
           refine i_o [47, 48] h (fun h => ?_) (fun h => ?_)
           · refine o_r9 [(2, (vB true)), (49, (.val undef)), (50, (.val undef)), (51, (.val undef)), (52, (.val undef)), (53, (.val undef)), (54, (.val undef)), (55, (vB true)), (56, (vB true))] ?_
             refine s_tm (mkd .any 57 0 [(1, (.ptr 0 0)), (2, (vB true)), (3, (vI (len a1.fNodes))), (6, (vI (len a1.fRoots))), (32, (.ptr 0 1)), (33, (vL Val.c a1.fRoots)), (34, (vI (len a1.fRoots))), (35, (vI (len a1.fNodes))), (36, (vB false)), (37, (vB false)), (38, (vI (len a1.fNodes))), (39, (vB true)), (40, (vB true)), (41, (vI (len a1.fNodes))), (42, (vB true)), (43, (vB true)), (44, (vB true)), (45, (vB true)), (46, (vI (len a1.fRoots))), (47, (vB true)), (48, (vB true)), (49, (.val undef)), (50, (.val undef)), (51, (.val undef)), (52, (.val undef)), (53, (.val undef)), (54, (.val undef)), (55, (vB true)), (56, (vB true))]) ?_
             exact o_end (w42 _ _ (wkm [2] wh_nil) h)
           · refine o_r3 [(49, (vI (len a1.fRoots))), (50, (vB (decide ((len a1.fRoots) > 60)))), (51, (vB (decide ((len a1.fRoots) > 60))))] ?_
             refine s_tm (mkd .any 57 0 [(1, (.ptr 0 0)), (3, (vI (len a1.fNodes))), (6, (vI (len a1.fRoots))), (32, (.ptr 0 1)), (33, (vL Val.c a1.fRoots)), (34, (vI (len a1.fRoots))), (35, (vI (len a1.fNodes))), (36, (vB false)), (37, (vB false)), (38, (vI (len a1.fNodes))), (39, (vB true)), (40, (vB true)), (41, (vI (len a1.fNodes))), (42, (vB true)), (43, (vB true)), (44, (vB true)), (45, (vB true)), (46, (vI (len a1.fRoots))), (47, (vB false)), (48, (vB false)), (49, (vI (len a1.fRoots))), (50, (vB (decide ((len a1.fRoots) > 60)))), (51, (vB (decide ((len a1.fRoots) > 60))))]) ?_
             refine i_o [50, 51] h (fun h => ?_) (fun h => ?_)
             · refine o_r6 [(2, (vB (decide ((len a1.fRoots) ≤ 70)))), (52, (vI (len a1.fRoots))), (53, (vB (decide ((len a1.fRoots) ≤ 70)))), (54, (vB (decide ((len a1.fRoots) ≤ 70)))), (55, (vB (decide ((len a1.fRoots) ≤ 70)))), (56, (vB (decide ((len a1.fRoots) ≤ 70))))] ?_
               exact o_end (w42 _ _ (wkm [2] wh_nil) h)
             · refine o_r6 [(2, (vB false)), (52, (.val undef)), (53, (.val undef)), (54, (vB false)), (55, (vB false)), (56, (vB false))] ?_
               exact o_end (w42 _ _ (wkm [2] wh_nil) h)
         · refine o_r12 [(2, (vB false)), (46, (.val undef)), (47, (.val undef)), (48, (.val undef)), (49, (.val undef)), (50, (.val undef)), (51, (.val undef)), (52, (.val undef)), (53, (.val undef)), (54, (.val undef)), (55, (.val undef)), (56, (vB false))] ?_
           exact o_end (w42 _ _ (wkm [2] wh_nil) h)
       · refine o_r16 [(41, (.val undef)), (42, (.val undef)), (43, (vB false)), (44, (vB false)), (45, (vB false)), (46, (.val undef)), (47, (.val undef)), (48, (.val undef)), (49, (.val undef)), (50, (.val undef)), (51, (.val undef)), (52, (.val undef)), (53, (.val undef)), (54, (.val undef)), (55, (.val undef)), (56, (vB false))] ?_
         refine o_r1 [(2, (vB false))] ?_
         exact o_end (w42 _ _ (wkm [2] wh_nil) h)
 · intro N5 w5
   refine s_so fun N6 k6 w6 => ?_
   refine o_r1 [(4, (vI 0))] ?_
   refine o_end (k6 _ ?_)
   refine c_block fun E7 hE7 hO7 => ?_
   refine W1 (fun (x24 : Int) => ⟨(mkd .any 57 0 [(1, (.ptr 0 0)), (3, (vI (len a1.fNodes))), (4, (vI x24))]), [(some (.box 26 [(vL Node.c a1.fNodes), (vL Val.c a1.fRoots)]))]⟩) (f14_l8 a1 (f14_k5 a1)) h (wkm [1, 3, 4] (whk wh_nil)) (by intros; rw [f14_l8.eq_1]) ?_
   intro m8 x24 h N8 w8
   rw [f14_l8.eq_2] at h
   refine s_seq fun N25 k25 w25 => ?_
   refine s_so fun N26 k26 w26 => ?_
   refine o_r3 [(10, (vI x24)), (11, (vI (len a1.fNodes))), (12, (vB (decide (x24 < (len a1.fNodes)))))] ?_
   refine o_end (k26 _ ?_)
   refine i_c [12] h (fun h => ?_) (fun h => ?_)
   · refine c_skip (k25 _ ?_)
     refine s_seq fun N28 k28 w28 => ?_
     refine c_block fun E29 hE29 hO29 => ?_
     refine s_so fun N30 k30 w30 => ?_
     refine o_r3 [(15, (.ptr 0 0)), (16, (vL Node.c a1.fNodes)), (17, (vI x24))] ?_
     refine bnd h fun x31 g32 h => ?_
     refine o_o (one_ia (f := Node.c) (ki := .i64) g32) ?_
     refine o_r2 [(19, (.iptr [(vL Val.c x31.fVals)])), (20, (vL Val.c x31.fVals))] ?_
     refine o_o (one_len (f := Val.c) (l := x31.fVals)) ?_
     refine o_r1 [(5, (vI (len x31.fVals)))] ?_
     refine o_end (k30 _ ?_)
     refine J1 (r := r) (fun (x37 : Bool) => ⟨(mkd .any 57 0 [(1, (.ptr 0 0)), (3, (vI (len a1.fNodes))), (4, (vI x24)), (31, (vB x37))]), [(some (.box 26 [(vL Node.c a1.fNodes), (vL Val.c a1.fRoots)]))]⟩) (f14_k34 x24 (f14_l8 a1 (f14_k5 a1) m8)) ?_ ?_
     · intro x37 h
       rw [f14_k34.eq_1] at h
       refine i_c [31] h (fun h => ?_) (fun h => ?_)
       · refine s_so fun N39 k39 w39 => ?_
         refine o_r1 [(2, (vB false))] ?_
         refine o_end (k39 _ ?_)
         exact c_ret (rets [] [(vB false)] [(vB false)] h)
       · refine c_skip (k28 _ ?_)
         refine c_ops ?_
         refine o_r3 [(4, (vI (wr .i64 (x24 + 1)))), (13, (vI x24)), (14, (vI (wr .i64 (x24 + 1))))] ?_
         exact o_end (w8 _ _ (wkm [1, 3, 4] (whk wh_nil)) h)
     · intro N34 w34
       refine c_ops ?_
       refine o_r3 [(22, (vI (len x31.fVals))), (23, (vB (decide ((len x31.fVals) > 8)))), (24, (vB (decide ((len x31.fVals) > 8))))] ?_
       refine i_o [23, 24] h (fun h => ?_) (fun h => ?_)
       · refine o_r4 [(25, (vI (len x31.fVals))), (26, (vB (decide ((len x31.fVals) ≤ 30)))), (27, (vB (decide ((len x31.fVals) ≤ 30)))), (28, (vB (decide ((len x31.fVals) ≤ 30))))] ?_
         refine i_o [26, 27, 28] h (fun h => ?_) (fun h => ?_)
         · refine o_r3 [(29, (.val undef)), (30, (.val undef)), (31, (vB true))] ?_
           refine s_tm (mkd .any 57 0 [(1, (.ptr 0 0)), (3, (vI (len a1.fNodes))), (4, (vI x24)), (5, (vI (len x31.fVals))), (10, (vI x24)), (11, (vI (len a1.fNodes))), (12, (vB true)), (15, (.ptr 0 0)), (16, (vL Node.c a1.fNodes)), (17, (vI x24)), (18, (.iptr [(vS x31.fClass), (vL Val.c x31.fVals)])), (19, (.iptr [(vL Val.c x31.fVals)])), (20, (vL Val.c x31.fVals)), (21, (vI (len x31.fVals))), (22, (vI (len x31.fVals))), (23, (vB true)), (24, (vB true)), (25, (vI (len x31.fVals))), (26, (vB true)), (27, (vB true)), (28, (vB true)), (29, (.val undef)), (30, (.val undef)), (31, (vB true))]) ?_
           exact o_end (w34 _ _ (wkm [1, 3, 4, 31] (whk wh_nil)) h)
         · refine o_r3 [(29, (vI (len x31.fVals))), (30, (vB (decide ((len x31.fVals) > 40)))), (31, (vB (decide ((len x31.fVals) > 40))))] ?_
           refine s_tm (mkd .any 57 0 [(1, (.ptr 0 0)), (3, (vI (len a1.fNodes))), (4, (vI x24)), (5, (vI (len x31.fVals))), (10, (vI x24)), (11, (vI (len a1.fNodes))), (12, (vB true)), (15, (.ptr 0 0)), (16, (vL Node.c a1.fNodes)), (17, (vI x24)), (18, (.iptr [(vS x31.fClass), (vL Val.c x31.fVals)])), (19, (.iptr [(vL Val.c x31.fVals)])), (20, (vL Val.c x31.fVals)), (21, (vI (len x31.fVals))), (22, (vI (len x31.fVals))), (23, (vB true)), (24, (vB true)), (25, (vI (len x31.fVals))), (26, (vB false)), (27, (vB false)), (28, (vB false)), (29, (vI (len x31.fVals))), (30, (vB (decide ((len x31.fVals) > 40)))), (31, (vB (decide ((len x31.fVals) > 40))))]) ?_
           exact o_end (w34 _ _ (wkm [1, 3, 4, 31] (whk wh_nil)) h)
       · refine o_r7 [(25, (.val undef)), (26, (.val undef)), (27, (vB false)), (28, (vB false)), (29, (vI (len x31.fVals))), (30, (vB (decide ((len x31.fVals) > 40)))), (31, (vB (decide ((len x31.fVals) > 40))))] ?_
         exact o_end (w34 _ _ (wkm [1, 3, 4, 31] (whk wh_nil)) h)
   · refine c_exit (hE7 _ ?_)
     exact w5 _ (wkm [1, 3] (whk wh_nil)) h
def f15 (n : Nat) : Option Bool := some true
def f15_r (r : Bool) : AV := (vB r)
theorem p_f15 {n : Nat} {r : Bool} (h : f15 n = some r) : PureSpec Try.prog 15 [] (f15_r r) := by
 cases Option.some.inj h
 exact sanity15
theorem ic123 : fnIC Try.prog H0 123 = some ([.tmp 4], 28, (.seq (.ops [⟨(some 4), none, .mov (.c (.bool false))⟩]) (.seq (.ops [⟨(some 5), none, .mov (.t 0)⟩, ⟨(some 6), none, .ld (.t 1) 1 false⟩, ⟨(some 7), none, .sc (.conv 5 21) [(.t 6)]⟩, ⟨(some 8), none, .sc (.bin .geq 21) [(.t 5), (.t 7)]⟩, ⟨(some 9), none, .mov (.t 8)⟩, ⟨(some 10), (some (9, true)), .mov (.t 0)⟩, ⟨(some 11), (some (9, true)), .ld (.t 2) 1 false⟩, ⟨(some 12), (some (9, true)), .sc (.conv 5 21) [(.t 11)]⟩, ⟨(some 13), (some (9, true)), .sc (.bin .leq 21) [(.t 10), (.t 12)]⟩, ⟨(some 14), none, .pick (.t 9) (.t 13) (.c (.bool false))⟩, ⟨(some 15), none, .mov (.t 14)⟩, ⟨(some 16), (some (15, false)), .mov (.t 0)⟩, ⟨(some 17), (some (15, false)), .sc (.bin .geq 21) [(.t 16), (.c (.int .i32 48))]⟩, ⟨(some 18), (some (15, false)), .mov (.t 17)⟩, ⟨(some 19), (some (18, true)), .mov (.t 0)⟩, ⟨(some 20), (some (18, true)), .sc (.bin .leq 21) [(.t 19), (.c (.int .i32 57))]⟩, ⟨(some 21), (some (15, false)), .pick (.t 18) (.t 20) (.c (.bool false))⟩, ⟨(some 22), none, .pick (.t 15) (.c (.bool true)) (.t 21)⟩, ⟨(some 23), none, .mov (.t 22)⟩, ⟨(some 24), (some (23, false)), .mov (.t 0)⟩, ⟨(some 25), (some (23, false)), .sc (.bin .eql 21) [(.t 24), (.c (.int .i32 95))]⟩, ⟨(some 26), none, .pick (.t 23) (.c (.bool true)) (.t 25)⟩, ⟨(some 27), none, .sc (.un .not) [(.t 26)]⟩, ⟨(some 4), none, .mov (.t 27)⟩]) .ret))) := by kernel_rfl
def f123_k5 (x12 : Bool) : Option Bool := some x12
def f123 (n : Nat) (a1 : Int) (a2 : Int) (a3 : Int) : Option Bool := (bif (decide (a1 ≥ (wr .i32 a2))) then (bif (decide (a1 ≤ (wr .i32 a3))) then (f123_k5 false) else (bif (decide (a1 ≥ 48)) then (bif (decide (a1 ≤ 57)) then (f123_k5 false) else (f123_k5 (!(a1 == 95)))) else (f123_k5 (!(a1 == 95))))) else (bif (decide (a1 ≥ 48)) then (bif (decide (a1 ≤ 57)) then (f123_k5 false) else (f123_k5 (!(a1 == 95)))) else (f123_k5 (!(a1 == 95)))))
def f123_r (r : Bool) : AV := (vB r)
theorem p_f123 {n : Nat} {a1 : Int} {a2 : Int} {a3 : Int} {r : Bool} (h : f123 n a1 a2 a3 = some r) : PureSpec Try.prog 123 [(vKi .i32 a1), (.iptr [(vKi .u8 a2)]), (.iptr [(vKi .u8 a3)])] (f123_r r) := by
 rw [f123.eq_1] at h
 refine pure_of hmix ic123 ?_
 refine go_to (mkd (.val undef) 28 0 [(0, (vKi .i32 a1)), (1, (.iptr [(vKi .u8 a2)])), (2, (.iptr [(vKi .u8 a3)]))]) ?_
 refine s_so fun N4 k4 w4 => ?_
 refine o_r1 [(4, (vB false))] ?_
 refine o_end (k4 _ ?_)
 refine J1 (r := r) (fun (x12 : Bool) => ⟨(mkd .any 28 0 [(4, (vB x12))]), []⟩) (f123_k5) ?_ ?_
 · intro x12 h
   rw [f123_k5.eq_1] at h
   exact c_ret (rets [] [(vB x12)] [(vB x12)] h)
 · intro N5 w5
   refine c_ops ?_
   refine o_r5 [(5, (vKi .i32 a1)), (6, (vKi .u8 a2)), (7, (vKi .i32 (wr .i32 a2))), (8, (vB (decide (a1 ≥ (wr .i32 a2))))), (9, (vB (decide (a1 ≥ (wr .i32 a2)))))] ?_
   refine i_o [8, 9] h (fun h => ?_) (fun h => ?_)
   · refine o_r6 [(10, (vKi .i32 a1)), (11, (vKi .u8 a3)), (12, (vKi .i32 (wr .i32 a3))), (13, (vB (decide (a1 ≤ (wr .i32 a3))))), (14, (vB (decide (a1 ≤ (wr .i32 a3))))), (15, (vB (decide (a1 ≤ (wr .i32 a3)))))] ?_
     refine i_o [13, 14, 15] h (fun h => ?_) (fun h => ?_)
     · refine o_r13 [(16, (.val undef)), (17, (.val undef)), (18, (.val undef)), (19, (.val undef)), (20, (.val undef)), (21, (.val undef)), (22, (vB true)), (23, (vB true)), (24, (.val undef)), (25, (.val undef)), (26, (vB true)), (27, (vB false))] ?_
       exact o_end (w5 _ _ (wkm [4] wh_nil) h)
     · refine o_r3 [(16, (vKi .i32 a1)), (17, (vB (decide (a1 ≥ 48)))), (18, (vB (decide (a1 ≥ 48))))] ?_
       refine i_o [17, 18] h (fun h => ?_) (fun h => ?_)
       · refine o_r5 [(19, (vKi .i32 a1)), (20, (vB (decide (a1 ≤ 57)))), (21, (vB (decide (a1 ≤ 57)))), (22, (vB (decide (a1 ≤ 57)))), (23, (vB (decide (a1 ≤ 57))))] ?_
         refine i_o [20, 21, 22, 23] h (fun h => ?_) (fun h => ?_)
         · refine o_r5 [(24, (.val undef)), (25, (.val undef)), (26, (vB true)), (27, (vB false))] ?_
           exact o_end (w5 _ _ (wkm [4] wh_nil) h)
         · refine o_r5 [(4, (vB (!(a1 == 95)))), (24, (vKi .i32 a1)), (25, (vB (a1 == 95))), (26, (vB (a1 == 95))), (27, (vB (!(a1 == 95))))] ?_
           exact o_end (w5 _ _ (wkm [4] wh_nil) h)
       · refine o_r10 [(4, (vB (!(a1 == 95)))), (19, (.val undef)), (20, (.val undef)), (21, (vB false)), (22, (vB false)), (23, (vB false)), (24, (vKi .i32 a1)), (25, (vB (a1 == 95))), (26, (vB (a1 == 95))), (27, (vB (!(a1 == 95))))] ?_
         exact o_end (w5 _ _ (wkm [4] wh_nil) h)
   · refine o_r9 [(10, (.val undef)), (11, (.val undef)), (12, (.val undef)), (13, (.val undef)), (14, (vB false)), (15, (vB false)), (16, (vKi .i32 a1)), (17, (vB (decide (a1 ≥ 48)))), (18, (vB (decide (a1 ≥ 48))))] ?_
     refine i_o [17, 18] h (fun h => ?_) (fun h => ?_)
     · refine o_r5 [(19, (vKi .i32 a1)), (20, (vB (decide (a1 ≤ 57)))), (21, (vB (decide (a1 ≤ 57)))), (22, (vB (decide (a1 ≤ 57)))), (23, (vB (decide (a1 ≤ 57))))] ?_
       refine i_o [20, 21, 22, 23] h (fun h => ?_) (fun h => ?_)
       · refine o_r5 [(24, (.val undef)), (25, (.val undef)), (26, (vB true)), (27, (vB false))] ?_
         exact o_end (w5 _ _ (wkm [4] wh_nil) h)
       · refine o_r5 [(4, (vB (!(a1 == 95)))), (24, (vKi .i32 a1)), (25, (vB (a1 == 95))), (26, (vB (a1 == 95))), (27, (vB (!(a1 == 95))))] ?_
         exact o_end (w5 _ _ (wkm [4] wh_nil) h)
     · refine o_r10 [(4, (vB (!(a1 == 95)))), (19, (.val undef)), (20, (.val undef)), (21, (vB false)), (22, (vB false)), (23, (vB false)), (24, (vKi .i32 a1)), (25, (vB (a1 == 95))), (26, (vB (a1 == 95))), (27, (vB (!(a1 == 95))))] ?_
       exact o_end (w5 _ _ (wkm [4] wh_nil) h)
theorem ic143 : fnIC Try.prog H0 143 = some ([.tmp 6], 21, (.seq (.ops [⟨(some 6), none, .mov (.c (.int .i64 0))⟩]) (.seq (.seq (.ops [⟨(some 9), none, .mov (.t 0)⟩, ⟨(some 10), none, .rng 0 (.t 9)⟩]) (.block 0 (.loop (.seq (.ops [⟨(some 11), none, .nxt (.t 10)⟩, ⟨(some 12), none, .ext (.t 11) 0⟩]) (.seq (.cond (.t 12)
  .skip
  (.exit 0)) (.block 1 (.seq (.ops [⟨(some 13), none, .ext (.t 11) 1⟩, ⟨(some 14), none, .ext (.t 11) 2⟩, ⟨(some 7), none, .mov (.t 13)⟩, ⟨(some 8), none, .mov (.t 14)⟩]) (.seq (.ops [⟨(some 15), none, .mov (.t 1)⟩, ⟨(some 16), none, .mov (.t 8)⟩, ⟨(some 17), none, .callv (.t 15) [(.t 16)]⟩, ⟨(some 18), none, .mov (.t 2)⟩, ⟨(some 19), none, .sc (.bin .eql 4) [(.t 17), (.t 18)]⟩]) (.cond (.t 19)
  (.seq (.ops [⟨(some 20), none, .mov (.t 7)⟩, ⟨(some 6), none, .mov (.t 20)⟩]) .ret)
  .skip))))))))) (.seq (.ops [⟨(some 6), none, .mov (.c (.int .i64 (-1)))⟩]) .ret)))) := by kernel_rfl
def f143_k6 : Option Int := some (-1)
def f143_l9 (a1 : ByteArray) (n : Nat) (a2 : Int) (a3 : Int) (a4 : Bool) (k6k : Option Int) : Nat → Nat → Option Int
  | 0, _ => none
  | m9 + 1, x20 => (bif (decide (x20 < ByteArray.size a1)) then ((f123 n (dec1 a1 x20) a2 a3).bind fun r26 => (bif (r26 == a4) then some (Int.ofNat x20) else (f143_l9 a1 n a2 a3 a4 (k6k) m9 (x20 + dec2 a1 x20)))) else (k6k))
def f143 (n : Nat) (a1 : ByteArray) (a2 : Int) (a3 : Int) (a4 : Bool) : Option Int := (f143_l9 a1 n a2 a3 a4 (f143_k6) n 0)
def f143_r (r : Int) : AV := (vI r)
theorem p_f143 {n : Nat} {a1 : ByteArray} {a2 : Int} {a3 : Int} {a4 : Bool} {r : Int} (h : f143 n a1 a2 a3 a4 = some r) : PureSpec Try.prog 143 [(vS a1), (.fn 123 [(.iptr [(vKi .u8 a2)]), (.iptr [(vKi .u8 a3)])]), (vB a4)] (f143_r r) := by
 rw [f143.eq_1] at h
 refine pure_of hmix ic143 ?_
 refine go_to (mkd (.val undef) 21 0 [(0, (vS a1)), (1, (.fn 123 [(.iptr [(vKi .u8 a2)]), (.iptr [(vKi .u8 a3)])])), (2, (vB a4))]) ?_
 refine s_so fun N5 k5 w5 => ?_
 refine o_r1 [(6, (vI 0))] ?_
 refine o_end (k5 _ ?_)
 refine J0 (r := r) ⟨(mkd .any 21 0 []), []⟩ (f143_k6) ?_ ?_
 · intro h
   rw [f143_k6.eq_1] at h
   refine s_so fun N31 k31 w31 => ?_
   refine o_r1 [(6, (vI (-1)))] ?_
   refine o_end (k31 _ ?_)
   exact c_ret (rets [] [(vI (-1))] [(vI (-1))] h)
 · intro N6 w6
   refine s_so fun N7 k7 w7 => ?_
   refine o_h2 [(9, (vS a1)), (10, (.ptr 0 0))] [(some (.iter a1 0))] ?_
   refine o_end (k7 _ ?_)
   refine c_block fun E8 hE8 hO8 => ?_
   refine W1 (fun (x20 : Nat) => ⟨(mkd .any 21 0 [(1, (.fn 123 [(.iptr [(vKi .u8 a2)]), (.iptr [(vKi .u8 a3)])])), (2, (vB a4)), (10, (.ptr 0 0))]), [(some (.iter a1 x20))]⟩) (f143_l9 a1 n a2 a3 a4 (f143_k6)) h (wkm [1, 2, 10] (whk wh_nil)) (by intros; rw [f143_l9.eq_1]) ?_
   intro m9 x20 h N9 w9
   rw [f143_l9.eq_2] at h
   refine s_so fun N21 k21 w21 => ?_
   refine fork h (fun hb h => ?_) (fun hb h => ?_)
   · refine o_x [(some (.iter a1 (x20 + dec2 a1 x20)))] (one_nxtT (b := a1) (pos := x20) (o := 0) hb) ?_
     refine o_r1 [(12, (vB true))] ?_
     refine o_end (k21 _ ?_)
     refine s_seq fun N22 k22 w22 => ?_
     refine k_T ?_
     refine c_skip (k22 _ ?_)
     refine c_block fun E23 hE23 hO23 => ?_
     refine s_so fun N24 k24 w24 => ?_
     refine o_r4 [(7, (vI (Int.ofNat x20))), (8, (vKi .i32 (dec1 a1 x20))), (13, (vI (Int.ofNat x20))), (14, (vKi .i32 (dec1 a1 x20)))] ?_
     refine o_end (k24 _ ?_)
     refine s_so fun N25 k25 w25 => ?_
     refine o_r2 [(15, (.fn 123 [(.iptr [(vKi .u8 a2)]), (.iptr [(vKi .u8 a3)])])), (16, (vKi .i32 (dec1 a1 x20)))] ?_
     refine bnd h fun r26 g27 h => ?_
     refine o_o (one_callv (caps := [(.iptr [(vKi .u8 a2)]), (.iptr [(vKi .u8 a3)])]) (p_f123 g27)) ?_
     refine o_r2 [(18, (vB a4)), (19, (vB (r26 == a4)))] ?_
     refine o_end (k25 _ ?_)
     refine i_c [19] h (fun h => ?_) (fun h => ?_)
     · refine s_so fun N29 k29 w29 => ?_
       refine o_r2 [(6, (vI (Int.ofNat x20))), (20, (vI (Int.ofNat x20)))] ?_
       refine o_end (k29 _ ?_)
       exact c_ret (rets [] [(vI (Int.ofNat x20))] [(vI (Int.ofNat x20))] h)
     · exact c_skip (w9 _ _ (wkm [1, 2, 10] (whk wh_nil)) h)
   · refine o_x [(some (.iter a1 x20))] (one_nxtF (b := a1) (pos := x20) (o := 0) hb) ?_
     refine o_r1 [(12, (vB false))] ?_
     refine o_end (k21 _ ?_)
     refine s_seq fun N30 k30 w30 => ?_
     refine k_F ?_
     refine c_exit (hE8 _ ?_)
     exact w6 _ (wkm [] wh_nil) h
theorem ic122 : fnIC Try.prog H0 122 = some ([.tmp 4], 8, (.seq (.ops [⟨(some 4), none, .mov (.c (.int .i64 0))⟩]) (.seq (.ops [⟨(some 5), none, .mov (.t 0)⟩, ⟨(some 6), none, .mov (.t 1)⟩, ⟨(some 7), none, .call 143 [(.t 5), (.t 6), (.c (.bool true))]⟩, ⟨(some 4), none, .mov (.t 7)⟩]) .ret))) := by kernel_rfl
def f122 (n : Nat) (a1 : ByteArray) (a2 : Int) (a3 : Int) : Option Int := ((f143 n a1 a2 a3 true).bind fun r6 => some r6)
def f122_r (r : Int) : AV := (vI r)
theorem p_f122 {n : Nat} {a1 : ByteArray} {a2 : Int} {a3 : Int} {r : Int} (h : f122 n a1 a2 a3 = some r) : PureSpec Try.prog 122 [(vS a1), (.fn 123 [(.iptr [(vKi .u8 a2)]), (.iptr [(vKi .u8 a3)])])] (f122_r r) := by
 rw [f122.eq_1] at h
 refine pure_of hmix ic122 ?_
 refine go_to (mkd (.val undef) 8 0 [(0, (vS a1)), (1, (.fn 123 [(.iptr [(vKi .u8 a2)]), (.iptr [(vKi .u8 a3)])]))]) ?_
 refine s_so fun N4 k4 w4 => ?_
 refine o_r1 [(4, (vI 0))] ?_
 refine o_end (k4 _ ?_)
 refine s_so fun N5 k5 w5 => ?_
 refine o_r2 [(5, (vS a1)), (6, (.fn 123 [(.iptr [(vKi .u8 a2)]), (.iptr [(vKi .u8 a3)])]))] ?_
 refine bnd h fun r6 g7 h => ?_
 refine o_o (one_call (p_f143 g7)) ?_
 refine o_r1 [(4, (vI r6))] ?_
 refine o_end (k5 _ ?_)
 exact c_ret (rets [] [(vI r6)] [(vI r6)] h)
theorem ic90 : fnIC Try.prog H0 90 = some ([.tmp 6], 30, (.seq (.ops [⟨(some 4), none, .box 0 5 [] (.t 1)⟩, ⟨(some 5), none, .box 0 5 [] (.t 2)⟩, ⟨(some 6), none, .mov (.c (.bool false))⟩]) (.seq (.seq (.draw [] [⟨⟨(some 7), none, .mov (.t 0)⟩, false, 0, 0⟩, ⟨⟨(some 8), none, .sc (.bin .eql 9) [(.t 7), (.c (.string ⟨#[]⟩))]⟩, false, 0, 0⟩, ⟨⟨(some 9), none, .mov (.t 8)⟩, false, 0, 0⟩, ⟨⟨(some 10), (some (9, false)), .mov (.t 0)⟩, false, 0, 0⟩, ⟨⟨(some 11), (some (9, false)), .len true (.t 10)⟩, false, 0, 0⟩, ⟨⟨(some 12), (some (9, false)), .sc (.bin .gtr 3) [(.t 11), (.c (.int .i64 20))]⟩, false, 0, 0⟩, ⟨⟨(some 13), none, .pick (.t 9) (.c (.bool true)) (.t 12)⟩, false, 0, 0⟩, ⟨⟨(some 14), none, .mov (.t 13)⟩, false, 0, 0⟩, ⟨⟨(some 15), (some (14, false)), .mov (.t 0)⟩, false, 0, 0⟩, ⟨⟨(some 16), (some (14, false)), .sc (.idx 9) [(.t 15), (.c (.int .i64 0))]⟩, false, 0, 0⟩, ⟨⟨(some 17), (some (14, false)), .ld (.t 4) 1 false⟩, false, 0, 0⟩, ⟨⟨(some 18), (some (14, false)), .sc (.bin .lss 5) [(.t 16), (.t 17)]⟩, false, 0, 0⟩, ⟨⟨(some 19), none, .pick (.t 14) (.c (.bool true)) (.t 18)⟩, false, 0, 0⟩, ⟨⟨(some 20), none, .mov (.t 19)⟩, false, 0, 0⟩, ⟨⟨(some 21), (some (20, false)), .mov (.t 0)⟩, false, 0, 0⟩, ⟨⟨(some 22), (some (20, false)), .sc (.idx 9) [(.t 21), (.c (.int .i64 0))]⟩, false, 0, 0⟩, ⟨⟨(some 23), (some (20, false)), .ld (.t 5) 1 false⟩, false, 0, 0⟩, ⟨⟨(some 24), (some (20, false)), .sc (.bin .gtr 5) [(.t 22), (.t 23)]⟩, false, 0, 0⟩, ⟨⟨(some 25), none, .pick (.t 20) (.c (.bool true)) (.t 24)⟩, false, 0, 0⟩]) (.cond (.t 25)
  (.seq (.ops [⟨(some 6), none, .mov (.c (.bool false))⟩]) .ret)
  .skip)) (.seq (.ops [⟨(some 26), none, .mov (.t 0)⟩, ⟨(some 27), none, .mkf 123 [(.t 4), (.t 5)]⟩, ⟨(some 28), none, .call 122 [(.t 26), (.t 27)]⟩, ⟨(some 29), none, .sc (.bin .lss 3) [(.t 28), (.c (.int .i64 0))]⟩, ⟨(some 6), none, .mov (.t 29)⟩]) .ret)))) := by kernel_rfl
def f90_k6 (n : Nat) (a1 : ByteArray) (a2 : Int) (a3 : Int) (x15 : Bool) : Option Bool := (bif x15 then some false else ((f122 n a1 a2 a3).bind fun r19 => some (decide (r19 < 0))))
def f90 (n : Nat) (a1 : ByteArray) (a2 : Int) (a3 : Int) : Option Bool := (bif (sEqF a1 (ByteArray.mk #[])) then (f90_k6 n a1 a2 a3 true) else (bif (decide ((bsz a1) > 20)) then (f90_k6 n a1 a2 a3 true) else ((si a1 0).bind fun c10 => (bif (decide (c10 < a2)) then (f90_k6 n a1 a2 a3 true) else ((si a1 0).bind fun c13 => (f90_k6 n a1 a2 a3 (decide (c13 > a3))))))))
def f90_r (r : Bool) : AV := (vB r)
theorem p_f90 {n : Nat} {a1 : ByteArray} {a2 : Int} {a3 : Int} {r : Bool} (h : f90 n a1 a2 a3 = some r) : PureSpec Try.prog 90 [(vS a1), (vKi .u8 a2), (vKi .u8 a3)] (f90_r r) := by
 rw [f90.eq_1] at h
 refine pure_of hmix ic90 ?_
 refine go_to (mkd (.val undef) 30 0 [(0, (vS a1)), (1, (vKi .u8 a2)), (2, (vKi .u8 a3))]) ?_
 refine s_so fun N4 k4 w4 => ?_
 refine o_h3 [(4, (.ptr 0 0)), (5, (.ptr 1 0)), (6, (vB false))] [(some (.box 5 [(vKi .u8 a2)])), (some (.box 5 [(vKi .u8 a3)]))] ?_
 refine o_end (k4 _ ?_)
 refine s_seq fun N5 k5 w5 => ?_
 refine J1 (r := r) (fun (x15 : Bool) => ⟨(mkd .any 30 0 [(0, (vS a1)), (4, (.ptr 0 0)), (5, (.ptr 1 0)), (25, (vB x15))]), [(some (.box 5 [(vKi .u8 a2)])), (some (.box 5 [(vKi .u8 a3)]))]⟩) (f90_k6 n a1 a2 a3) ?_ ?_
 · intro x15 h
   rw [f90_k6.eq_1] at h
   refine i_c [25] h (fun h => ?_) (fun h => ?_)
   · refine s_so fun N17 k17 w17 => ?_
     refine o_r1 [(6, (vB false))] ?_
     refine o_end (k17 _ ?_)
     exact c_ret (rets [] [(vB false)] [(vB false)] h)
   · refine c_skip (k5 _ ?_)
     refine s_so fun N18 k18 w18 => ?_
     refine o_r2 [(26, (vS a1)), (27, (.fn 123 [(.ptr 0 0), (.ptr 1 0)]))] ?_
     refine bnd h fun r19 g20 h => ?_
     refine o_o (one_callT [0, 1] (p_f122 g20) (ns_v _)) ?_
     refine o_r2 [(6, (vB (decide (r19 < 0)))), (29, (vB (decide (r19 < 0))))] ?_
     refine o_end (k18 _ ?_)
     exact c_ret (rets [] [(vB (decide (r19 < 0)))] [(vB (decide (r19 < 0)))] h)
 · intro N6 w6
   refine c_draw0 ?_
   refine d_r1 [(7, (vS a1))] ?_
   refine d_o (one_sc (vs := [.string a1, .string (ByteArray.mk #[])]) (str_eql a1 (ByteArray.mk #[]))) ?_
   refine d_r1 [(9, (vB (sEqF a1 (ByteArray.mk #[]))))] ?_
   refine i_d [8, 9] h (fun h => ?_) (fun h => ?_)
   · refine d_r16 [(10, (.val undef)), (11, (.val undef)), (12, (.val undef)), (13, (vB true)), (14, (vB true)), (15, (.val undef)), (16, (.val undef)), (17, (.val undef)), (18, (.val undef)), (19, (vB true)), (20, (vB true)), (21, (.val undef)), (22, (.val undef)), (23, (.val undef)), (24, (.val undef)), (25, (vB true))] ?_
     exact d_end (w6 _ _ (wkm [0, 4, 5, 25] (whk (whk wh_nil))) h)
   · refine d_r5 [(10, (vS a1)), (11, (vI (bsz a1))), (12, (vB (decide ((bsz a1) > 20)))), (13, (vB (decide ((bsz a1) > 20)))), (14, (vB (decide ((bsz a1) > 20))))] ?_
     refine i_d [12, 13, 14] h (fun h => ?_) (fun h => ?_)
     · refine d_r11 [(15, (.val undef)), (16, (.val undef)), (17, (.val undef)), (18, (.val undef)), (19, (vB true)), (20, (vB true)), (21, (.val undef)), (22, (.val undef)), (23, (.val undef)), (24, (.val undef)), (25, (vB true))] ?_
       exact d_end (w6 _ _ (wkm [0, 4, 5, 25] (whk (whk wh_nil))) h)
     · refine d_r1 [(15, (vS a1))] ?_
       refine bnd h fun c10 g11 h => ?_
       refine d_g (one_idx (ki := .i64) g11) ?_
       refine d_r4 [(17, (vKi .u8 a2)), (18, (vB (decide (c10 < a2)))), (19, (vB (decide (c10 < a2)))), (20, (vB (decide (c10 < a2))))] ?_
       refine i_d [18, 19, 20] h (fun h => ?_) (fun h => ?_)
       · refine d_r5 [(21, (.val undef)), (22, (.val undef)), (23, (.val undef)), (24, (.val undef)), (25, (vB true))] ?_
         refine t_tm (mkd (.val undef) 30 0 [(0, (vS a1)), (1, (vKi .u8 a2)), (2, (vKi .u8 a3)), (4, (.ptr 0 0)), (5, (.ptr 1 0)), (6, (vB false)), (7, (vS a1)), (8, (vB false)), (9, (vB false)), (10, (vS a1)), (11, (vI (bsz a1))), (12, (vB false)), (13, (vB false)), (14, (vB false)), (15, (vS a1)), (16, (vKi .u8 c10)), (17, (vKi .u8 a2)), (18, (vB true)), (19, (vB true)), (20, (vB true)), (21, (.val undef)), (22, (.val undef)), (23, (.val undef)), (24, (.val undef)), (25, (vB true))]) ?_
         exact d_end (w6 _ _ (wkm [0, 4, 5, 25] (whk (whk wh_nil))) h)
       · refine d_r1 [(21, (vS a1))] ?_
         refine t_tm (mkd (.val undef) 30 0 [(0, (vS a1)), (1, (vKi .u8 a2)), (2, (vKi .u8 a3)), (4, (.ptr 0 0)), (5, (.ptr 1 0)), (6, (vB false)), (7, (vS a1)), (8, (vB false)), (9, (vB false)), (10, (vS a1)), (11, (vI (bsz a1))), (12, (vB false)), (13, (vB false)), (14, (vB false)), (15, (vS a1)), (16, (vKi .u8 c10)), (17, (vKi .u8 a2)), (18, (vB false)), (19, (vB false)), (20, (vB false)), (21, (vS a1))]) ?_
         refine bnd h fun c13 g14 h => ?_
         refine d_g (one_idx (ki := .i64) g14) ?_
         refine d_r3 [(23, (vKi .u8 a3)), (24, (vB (decide (c13 > a3)))), (25, (vB (decide (c13 > a3))))] ?_
         exact d_end (w6 _ _ (wkm [0, 4, 5, 25] (whk (whk wh_nil))) h)
theorem ic124 : fnIC Try.prog H0 124 = some ([.tmp 4], 19, (.seq (.ops [⟨(some 4), none, .mov (.c (.int .i64 0))⟩]) (.seq (.seq (.ops [⟨(some 6), none, .mov (.t 0)⟩, ⟨(some 7), none, .len false (.t 6)⟩, ⟨(some 8), none, .mov (.c (.int .i64 0))⟩]) (.block 0 (.loop (.seq (.ops [⟨(some 9), none, .sc (.bin .lss 3) [(.t 8), (.t 7)]⟩]) (.seq (.cond (.t 9)
  .skip
  (.exit 0)) (.seq (.block 1 (.seq (.ops [⟨(some 10), none, .mov (.t 8)⟩, ⟨(some 5), none, .mov (.t 10)⟩]) (.seq (.ops [⟨(some 11), none, .mov (.t 1)⟩, ⟨(some 12), none, .mov (.t 0)⟩, ⟨(some 13), none, .mov (.t 5)⟩, ⟨(some 14), none, .iaddr 1 (.t 12) (.t 13)⟩, ⟨(some 15), none, .ld (.t 14) 1 false⟩, ⟨(some 16), none, .sc (.bin .eql 9) [(.t 11), (.t 15)]⟩]) (.cond (.t 16)
  (.seq (.ops [⟨(some 17), none, .mov (.t 5)⟩, ⟨(some 4), none, .mov (.t 17)⟩]) .ret)
  .skip)))) (.ops [⟨(some 18), none, .sc (.bin .add 3) [(.t 8), (.c (.int .i64 1))]⟩, ⟨(some 8), none, .mov (.t 18)⟩]))))))) (.seq (.ops [⟨(some 4), none, .mov (.c (.int .i64 (-1)))⟩]) .ret)))) := by kernel_rfl
def f124_k4 : Option Int := some (-1)
def f124_l8 (a1 : (List ByteArray)) (a2 : ByteArray) (k4k : Option Int) : Nat → Int → Option Int
  | 0, _ => none
  | m8 + 1, x21 => (bif (decide (x21 < (len a1))) then ((gi a1 x21).bind fun x29 => (bif (sEqF a2 x29) then some x21 else (f124_l8 a1 a2 (k4k) m8 (wr .i64 (x21 + 1))))) else (k4k))
def f124 (n : Nat) (a1 : (List ByteArray)) (a2 : ByteArray) : Option Int := (f124_l8 a1 a2 (f124_k4) n 0)
def f124_r (r : Int) : AV := (vI r)
theorem p_f124 {n : Nat} {a1 : (List ByteArray)} {a2 : ByteArray} {r : Int} (h : f124 n a1 a2 = some r) : PureSpec Try.prog 124 [(vL cS a1), (vS a2)] (f124_r r) := by
 rw [f124.eq_1] at h
 refine pure_of hmix ic124 ?_
 refine go_to (mkd (.val undef) 19 0 [(0, (vL cS a1)), (1, (vS a2))]) ?_
 refine s_so fun N3 k3 w3 => ?_
 refine o_r1 [(4, (vI 0))] ?_
 refine o_end (k3 _ ?_)
 refine J0 (r := r) ⟨(mkd .any 19 0 []), []⟩ (f124_k4) ?_ ?_
 · intro h
   rw [f124_k4.eq_1] at h
   refine s_so fun N34 k34 w34 => ?_
   refine o_r1 [(4, (vI (-1)))] ?_
   refine o_end (k34 _ ?_)
   exact c_ret (rets [] [(vI (-1))] [(vI (-1))] h)
 · intro N4 w4
   refine s_so fun N5 k5 w5 => ?_
   refine o_r1 [(6, (vL cS a1))] ?_
   refine o_o (one_len (f := cS) (l := a1)) ?_
   refine o_r1 [(8, (vI 0))] ?_
   refine o_end (k5 _ ?_)
   refine c_block fun E7 hE7 hO7 => ?_
   refine W1 (fun (x21 : Int) => ⟨(mkd .any 19 0 [(0, (vL cS a1)), (1, (vS a2)), (7, (vI (len a1))), (8, (vI x21))]), []⟩) (f124_l8 a1 a2 (f124_k4)) h (wkm [0, 1, 7, 8] wh_nil) (by intros; rw [f124_l8.eq_1]) ?_
   intro m8 x21 h N8 w8
   rw [f124_l8.eq_2] at h
   refine s_so fun N22 k22 w22 => ?_
   refine o_r1 [(9, (vB (decide (x21 < (len a1)))))] ?_
   refine o_end (k22 _ ?_)
   refine s_seq fun N23 k23 w23 => ?_
   refine i_c [9] h (fun h => ?_) (fun h => ?_)
   · refine c_skip (k23 _ ?_)
     refine s_seq fun N25 k25 w25 => ?_
     refine c_block fun E26 hE26 hO26 => ?_
     refine s_so fun N27 k27 w27 => ?_
     refine o_r2 [(5, (vI x21)), (10, (vI x21))] ?_
     refine o_end (k27 _ ?_)
     refine s_so fun N28 k28 w28 => ?_
     refine o_r3 [(11, (vS a2)), (12, (vL cS a1)), (13, (vI x21))] ?_
     refine bnd h fun x29 g30 h => ?_
     refine o_o (one_ia (f := cS) (ki := .i64) g30) ?_
     refine o_r1 [(15, (vS x29))] ?_
     refine o_o (one_sc (vs := [.string a2, .string x29]) (str_eql a2 x29)) ?_
     refine o_end (k28 _ ?_)
     refine i_c [16] h (fun h => ?_) (fun h => ?_)
     · refine s_so fun N33 k33 w33 => ?_
       refine o_r2 [(4, (vI x21)), (17, (vI x21))] ?_
       refine o_end (k33 _ ?_)
       exact c_ret (rets [] [(vI x21)] [(vI x21)] h)
     · refine c_skip (k25 _ ?_)
       refine c_ops ?_
       refine o_r2 [(8, (vI (wr .i64 (x21 + 1)))), (18, (vI (wr .i64 (x21 + 1))))] ?_
       exact o_end (w8 _ _ (wkm [0, 1, 7, 8] wh_nil) h)
   · refine c_exit (hE7 _ ?_)
     exact w4 _ (wkm [] wh_nil) h
theorem ic91 : fnIC Try.prog H0 91 = some ([.tmp 4], 9, (.seq (.ops [⟨(some 4), none, .mov (.c (.bool false))⟩]) (.seq (.ops [⟨(some 5), none, .mov (.t 0)⟩, ⟨(some 6), none, .mov (.t 1)⟩, ⟨(some 7), none, .call 124 [(.t 5), (.t 6)]⟩, ⟨(some 8), none, .sc (.bin .geq 3) [(.t 7), (.c (.int .i64 0))]⟩, ⟨(some 4), none, .mov (.t 8)⟩]) .ret))) := by kernel_rfl
def f91 (n : Nat) (a1 : (List ByteArray)) (a2 : ByteArray) : Option Bool := ((f124 n a1 a2).bind fun r5 => some (decide (r5 ≥ 0)))
def f91_r (r : Bool) : AV := (vB r)
theorem p_f91 {n : Nat} {a1 : (List ByteArray)} {a2 : ByteArray} {r : Bool} (h : f91 n a1 a2 = some r) : PureSpec Try.prog 91 [(vL cS a1), (vS a2)] (f91_r r) := by
 rw [f91.eq_1] at h
 refine pure_of hmix ic91 ?_
 refine go_to (mkd (.val undef) 9 0 [(0, (vL cS a1)), (1, (vS a2))]) ?_
 refine s_so fun N3 k3 w3 => ?_
 refine o_r1 [(4, (vB false))] ?_
 refine o_end (k3 _ ?_)
 refine s_so fun N4 k4 w4 => ?_
 refine o_r2 [(5, (vL cS a1)), (6, (vS a2))] ?_
 refine bnd h fun r5 g6 h => ?_
 refine o_o (one_call (p_f124 g6)) ?_
 refine o_r2 [(4, (vB (decide (r5 ≥ 0)))), (8, (vB (decide (r5 ≥ 0))))] ?_
 refine o_end (k4 _ ?_)
 exact c_ret (rets [] [(vB (decide (r5 ≥ 0)))] [(vB (decide (r5 ≥ 0)))] h)
theorem ic51 : fnIC Try.prog H0 51 = some ([.tmp 2], 11, (.seq (.ops [⟨(some 2), none, .mov (.c (.bool false))⟩]) (.seq (.ops [⟨(some 3), none, .mov (.t 0)⟩, ⟨(some 4), none, .call 90 [(.t 3), (.c (.int .u8 65)), (.c (.int .u8 90))]⟩, ⟨(some 5), none, .mov (.t 4)⟩, ⟨(some 6), (some (5, true)), .isl 1 [(.c (.string ⟨#[73, 78, 84, 69, 71, 69, 82]⟩)), (.c (.string ⟨#[66, 79, 79, 76, 69, 65, 78]⟩)), (.c (.string ⟨#[65, 78, 89]⟩)), (.c (.string ⟨#[78, 79, 78, 69]⟩))]⟩, ⟨(some 7), (some (5, true)), .mov (.t 0)⟩, ⟨(some 8), (some (5, true)), .call 91 [(.t 6), (.t 7)]⟩, ⟨(some 9), (some (5, true)), .sc (.un .not) [(.t 8)]⟩, ⟨(some 10), none, .pick (.t 5) (.t 9) (.c (.bool false))⟩, ⟨(some 2), none, .mov (.t 10)⟩]) .ret))) := by kernel_rfl
def f51_k3 (x9 : Bool) : Option Bool := some x9
def f51 (n : Nat) (a1 : ByteArray) : Option Bool := ((f90 n a1 65 90).bind fun r4 => (bif r4 then ((f91 n [(ByteArray.mk #[73, 78, 84, 69, 71, 69, 82]), (ByteArray.mk #[66, 79, 79, 76, 69, 65, 78]), (ByteArray.mk #[65, 78, 89]), (ByteArray.mk #[78, 79, 78, 69])] a1).bind fun r7 => (f51_k3 (!r7))) else (f51_k3 false)))
def f51_r (r : Bool) : AV := (vB r)
theorem p_f51 {n : Nat} {a1 : ByteArray} {r : Bool} (h : f51 n a1 = some r) : PureSpec Try.prog 51 [(vS a1)] (f51_r r) := by
 rw [f51.eq_1] at h
 refine pure_of hmix ic51 ?_
 refine go_to (mkd (.val undef) 11 0 [(0, (vS a1))]) ?_
 refine s_so fun N2 k2 w2 => ?_
 refine o_r1 [(2, (vB false))] ?_
 refine o_end (k2 _ ?_)
 refine J1 (r := r) (fun (x9 : Bool) => ⟨(mkd .any 11 0 [(2, (vB x9))]), []⟩) (f51_k3) ?_ ?_
 · intro x9 h
   rw [f51_k3.eq_1] at h
   exact c_ret (rets [] [(vB x9)] [(vB x9)] h)
 · intro N3 w3
   refine c_ops ?_
   refine o_r1 [(3, (vS a1))] ?_
   refine bnd h fun r4 g5 h => ?_
   refine o_o (one_call (p_f90 g5)) ?_
   refine o_r1 [(5, (vB r4))] ?_
   refine i_o [4, 5] h (fun h => ?_) (fun h => ?_)
   · refine o_r2 [(6, (vL cS [(ByteArray.mk #[73, 78, 84, 69, 71, 69, 82]), (ByteArray.mk #[66, 79, 79, 76, 69, 65, 78]), (ByteArray.mk #[65, 78, 89]), (ByteArray.mk #[78, 79, 78, 69])])), (7, (vS a1))] ?_
     refine bnd h fun r7 g8 h => ?_
     refine o_g ?_
     refine o_o (one_call (p_f91 g8)) ?_
     refine o_r3 [(2, (vB (!r7))), (9, (vB (!r7))), (10, (vB (!r7)))] ?_
     exact o_end (w3 _ _ (wkm [2] wh_nil) h)
   · refine o_r6 [(6, (.val undef)), (7, (.val undef)), (8, (.val undef)), (9, (.val undef)), (10, (vB false))] ?_
     exact o_end (w3 _ _ (wkm [2] wh_nil) h)
theorem ic50 : fnIC Try.prog H0 50 = some ([.tmp 4], 7, (.seq (.ops [⟨(some 4), none, .mov (.c (.int .i64 0))⟩]) (.seq (.seq (.ops [⟨(some 5), none, .mov (.t 0)⟩]) (.cond (.t 5)
  (.seq (.ops [⟨(some 4), none, .mov (.c (.int .i64 0))⟩]) .ret)
  .skip)) (.seq (.ops [⟨(some 6), none, .mov (.t 1)⟩, ⟨(some 4), none, .mov (.t 6)⟩]) .ret)))) := by kernel_rfl
def f50 (n : Nat) (a1 : Bool) (a2 : Int) : Option Int := (bif a1 then some 0 else some a2)
def f50_r (r : Int) : AV := (vI r)
theorem p_f50 {n : Nat} {a1 : Bool} {a2 : Int} {r : Int} (h : f50 n a1 a2 = some r) : PureSpec Try.prog 50 [(vB a1), (vI a2)] (f50_r r) := by
 rw [f50.eq_1] at h
 refine pure_of hmix ic50 ?_
 refine go_to (mkd (.val undef) 7 0 [(0, (vB a1)), (1, (vI a2))]) ?_
 refine s_so fun N3 k3 w3 => ?_
 refine o_r1 [(4, (vI 0))] ?_
 refine o_end (k3 _ ?_)
 refine s_seq fun N4 k4 w4 => ?_
 refine s_so fun N5 k5 w5 => ?_
 refine o_r1 [(5, (vB a1))] ?_
 refine o_end (k5 _ ?_)
 refine i_c [0, 5] h (fun h => ?_) (fun h => ?_)
 · refine s_so fun N7 k7 w7 => ?_
   refine o_r1 [] ?_
   refine o_end (k7 _ ?_)
   exact c_ret (rets [] [(vI 0)] [(vI 0)] h)
 · refine c_skip (k4 _ ?_)
   refine s_so fun N8 k8 w8 => ?_
   refine o_r2 [(4, (vI a2)), (6, (vI a2))] ?_
   refine o_end (k8 _ ?_)
   exact c_ret (rets [] [(vI a2)] [(vI a2)] h)
theorem ic93 : fnIC Try.prog H0 93 = some ([.tmp 2], 5, (.seq (.ops [⟨(some 1), none, .box 0 91 [(1, 93, 3, 0)] (.t 0)⟩, ⟨(some 2), none, .mov (.c (.string ⟨#[]⟩))⟩]) (.seq (.ops [⟨(some 3), none, .faddr (.t 1) 0⟩, ⟨(some 4), none, .ld (.t 3) 1 false⟩, ⟨(some 2), none, .mov (.t 4)⟩]) .ret))) := by kernel_rfl
def f93 (n : Nat) (a1 : Form) : Option ByteArray := some a1.fName
def f93_r (r : ByteArray) : AV := (vS r)
theorem p_f93 {n : Nat} {a1 : Form} {r : ByteArray} (h : f93 n a1 = some r) : PureSpec Try.prog 93 [(.agg [(vS a1.fName), (vL Col.c a1.fCols)])] (f93_r r) := by
 rw [f93.eq_1] at h
 refine pure_of hmix ic93 ?_
 refine go_to (mkd (.val undef) 5 0 [(0, (.agg [(vS a1.fName), (vL Col.c a1.fCols)]))]) ?_
 refine s_so fun N2 k2 w2 => ?_
 refine o_h2 [(1, (.ptr 0 0)), (2, (vS (ByteArray.mk #[])))] [(some (.box 91 [(vS a1.fName), (vL Col.c a1.fCols)]))] ?_
 refine o_end (k2 _ ?_)
 refine s_so fun N3 k3 w3 => ?_
 refine o_r3 [(2, (vS a1.fName)), (3, (.ptr 0 0)), (4, (vS a1.fName))] ?_
 refine o_end (k3 _ ?_)
 exact c_ret (rets [] [(vS a1.fName)] [(vS a1.fName)] h)
theorem ic126 : fnIC Try.prog H0 126 = some ([.tmp 4], 10, (.seq (.ops [⟨(some 3), none, .box 0 91 [(1, 93, 3, 0)] (.t 0)⟩, ⟨(some 4), none, .mov (.c (.bool false))⟩]) (.seq (.draw [] [⟨⟨(some 5), none, .ld (.t 1) 1 false⟩, false, 0, 0⟩, ⟨⟨(some 6), none, .ld (.t 3) 2 true⟩, false, 0, 0⟩, ⟨⟨(some 7), none, .callv (.t 5) [(.t 6)]⟩, false, 0, 0⟩, ⟨⟨(some 8), none, .ld (.t 2) 1 false⟩, false, 0, 0⟩, ⟨⟨(some 9), none, .sc (.bin .eql 9) [(.t 7), (.t 8)]⟩, false, 0, 0⟩, ⟨⟨(some 4), none, .mov (.t 9)⟩, false, 0, 0⟩]) .ret))) := by kernel_rfl
def f126 (n : Nat) (a1 : Form) (a2 : ByteArray) : Option Bool := ((f93 n a1).bind fun r5 => some (sEqF r5 a2))
def f126_r (r : Bool) : AV := (vB r)
theorem p_f126 {n : Nat} {a1 : Form} {a2 : ByteArray} {r : Bool} (h : f126 n a1 a2 = some r) : PureSpec Try.prog 126 [(.agg [(vS a1.fName), (vL Col.c a1.fCols)]), (.iptr [(.fn 93 [])]), (.iptr [(vS a2)])] (f126_r r) := by
 rw [f126.eq_1] at h
 refine pure_of hmix ic126 ?_
 refine go_to (mkd (.val undef) 10 0 [(0, (.agg [(vS a1.fName), (vL Col.c a1.fCols)])), (1, (.iptr [(.fn 93 [])])), (2, (.iptr [(vS a2)]))]) ?_
 refine s_so fun N3 k3 w3 => ?_
 refine o_h2 [(3, (.ptr 0 0)), (4, (vB false))] [(some (.box 91 [(vS a1.fName), (vL Col.c a1.fCols)]))] ?_
 refine o_end (k3 _ ?_)
 refine s_seq fun N4 k4 w4 => ?_
 refine c_draw0 ?_
 refine d_r2 [(5, (.fn 93 [])), (6, (.agg [(vS a1.fName), (vL Col.c a1.fCols)]))] ?_
 refine bnd h fun r5 g6 h => ?_
 refine d_o (one_callv (caps := []) (p_f93 g6)) ?_
 refine d_r1 [(8, (vS a2))] ?_
 refine d_o (one_sc (vs := [.string r5, .string a2]) (str_eql r5 a2)) ?_
 refine d_r1 [(4, (vB (sEqF r5 a2)))] ?_
 refine d_end (k4 _ ?_)
 exact c_ret (rets [] [(vB (sEqF r5 a2))] [(vB (sEqF r5 a2))] h)
theorem ic125 : fnIC Try.prog H0 125 = some ([.tmp 4], 19, (.seq (.ops [⟨(some 4), none, .mov (.c (.int .i64 0))⟩]) (.seq (.seq (.ops [⟨(some 6), none, .mov (.t 0)⟩, ⟨(some 7), none, .len false (.t 6)⟩, ⟨(some 8), none, .mov (.c (.int .i64 0))⟩]) (.block 0 (.loop (.seq (.ops [⟨(some 9), none, .sc (.bin .lss 3) [(.t 8), (.t 7)]⟩]) (.seq (.cond (.t 9)
  .skip
  (.exit 0)) (.seq (.block 1 (.seq (.ops [⟨(some 10), none, .mov (.t 8)⟩, ⟨(some 5), none, .mov (.t 10)⟩]) (.seq (.ops [⟨(some 11), none, .mov (.t 1)⟩, ⟨(some 12), none, .mov (.t 0)⟩, ⟨(some 13), none, .mov (.t 5)⟩, ⟨(some 14), none, .iaddr 2 (.t 12) (.t 13)⟩, ⟨(some 15), none, .ld (.t 14) 2 true⟩, ⟨(some 16), none, .callv (.t 11) [(.t 15)]⟩]) (.cond (.t 16)
  (.seq (.ops [⟨(some 17), none, .mov (.t 5)⟩, ⟨(some 4), none, .mov (.t 17)⟩]) .ret)
  .skip)))) (.ops [⟨(some 18), none, .sc (.bin .add 3) [(.t 8), (.c (.int .i64 1))]⟩, ⟨(some 8), none, .mov (.t 18)⟩]))))))) (.seq (.ops [⟨(some 4), none, .mov (.c (.int .i64 (-1)))⟩]) .ret)))) := by kernel_rfl
def f125_k4 : Option Int := some (-1)
def f125_l8 (a1 : (List Form)) (n : Nat) (a2 : ByteArray) (k4k : Option Int) : Nat → Int → Option Int
  | 0, _ => none
  | m8 + 1, x22 => (bif (decide (x22 < (len a1))) then ((gi a1 x22).bind fun x30 => ((f126 n x30 a2).bind fun r32 => (bif r32 then some x22 else (f125_l8 a1 n a2 (k4k) m8 (wr .i64 (x22 + 1)))))) else (k4k))
def f125 (n : Nat) (a1 : (List Form)) (a2 : ByteArray) : Option Int := (f125_l8 a1 n a2 (f125_k4) n 0)
def f125_r (r : Int) : AV := (vI r)
theorem p_f125 {n : Nat} {a1 : (List Form)} {a2 : ByteArray} {r : Int} (h : f125 n a1 a2 = some r) : PureSpec Try.prog 125 [(vL Form.c a1), (.fn 126 [(.iptr [(.fn 93 [])]), (.iptr [(vS a2)])])] (f125_r r) := by
 rw [f125.eq_1] at h
 refine pure_of hmix ic125 ?_
 refine go_to (mkd (.val undef) 19 0 [(0, (vL Form.c a1)), (1, (.fn 126 [(.iptr [(.fn 93 [])]), (.iptr [(vS a2)])]))]) ?_
 refine s_so fun N3 k3 w3 => ?_
 refine o_r1 [(4, (vI 0))] ?_
 refine o_end (k3 _ ?_)
 refine J0 (r := r) ⟨(mkd .any 19 0 []), []⟩ (f125_k4) ?_ ?_
 · intro h
   rw [f125_k4.eq_1] at h
   refine s_so fun N36 k36 w36 => ?_
   refine o_r1 [(4, (vI (-1)))] ?_
   refine o_end (k36 _ ?_)
   exact c_ret (rets [] [(vI (-1))] [(vI (-1))] h)
 · intro N4 w4
   refine s_so fun N5 k5 w5 => ?_
   refine o_r1 [(6, (vL Form.c a1))] ?_
   refine o_o (one_len (f := Form.c) (l := a1)) ?_
   refine o_r1 [(8, (vI 0))] ?_
   refine o_end (k5 _ ?_)
   refine c_block fun E7 hE7 hO7 => ?_
   refine W1 (fun (x22 : Int) => ⟨(mkd .any 19 0 [(0, (vL Form.c a1)), (1, (.fn 126 [(.iptr [(.fn 93 [])]), (.iptr [(vS a2)])])), (7, (vI (len a1))), (8, (vI x22))]), []⟩) (f125_l8 a1 n a2 (f125_k4)) h (wkm [0, 1, 7, 8] wh_nil) (by intros; rw [f125_l8.eq_1]) ?_
   intro m8 x22 h N8 w8
   rw [f125_l8.eq_2] at h
   refine s_so fun N23 k23 w23 => ?_
   refine o_r1 [(9, (vB (decide (x22 < (len a1)))))] ?_
   refine o_end (k23 _ ?_)
   refine s_seq fun N24 k24 w24 => ?_
   refine i_c [9] h (fun h => ?_) (fun h => ?_)
   · refine c_skip (k24 _ ?_)
     refine s_seq fun N26 k26 w26 => ?_
     refine c_block fun E27 hE27 hO27 => ?_
     refine s_so fun N28 k28 w28 => ?_
     refine o_r2 [(5, (vI x22)), (10, (vI x22))] ?_
     refine o_end (k28 _ ?_)
     refine s_so fun N29 k29 w29 => ?_
     refine o_r3 [(11, (.fn 126 [(.iptr [(.fn 93 [])]), (.iptr [(vS a2)])])), (12, (vL Form.c a1)), (13, (vI x22))] ?_
     refine bnd h fun x30 g31 h => ?_
     refine o_o (one_ia (f := Form.c) (ki := .i64) g31) ?_
     refine o_r1 [(15, (.agg [(vS x30.fName), (vL Col.c x30.fCols)]))] ?_
     refine bnd h fun r32 g33 h => ?_
     refine o_o (one_callv (caps := [(.iptr [(.fn 93 [])]), (.iptr [(vS a2)])]) (p_f126 g33)) ?_
     refine o_end (k29 _ ?_)
     refine i_c [16] h (fun h => ?_) (fun h => ?_)
     · refine s_so fun N35 k35 w35 => ?_
       refine o_r2 [(4, (vI x22)), (17, (vI x22))] ?_
       refine o_end (k35 _ ?_)
       exact c_ret (rets [] [(vI x22)] [(vI x22)] h)
     · refine c_skip (k26 _ ?_)
       refine c_ops ?_
       refine o_r2 [(8, (vI (wr .i64 (x22 + 1)))), (18, (vI (wr .i64 (x22 + 1))))] ?_
       exact o_end (w8 _ _ (wkm [0, 1, 7, 8] wh_nil) h)
   · refine c_exit (hE7 _ ?_)
     exact w4 _ (wkm [] wh_nil) h
theorem ic92 : fnIC Try.prog H0 92 = some ([.tmp 6], 10, (.seq (.ops [⟨(some 4), none, .box 0 9 [] (.t 1)⟩, ⟨(some 5), none, .box 0 140 [] (.t 2)⟩, ⟨(some 6), none, .mov (.c (.int .i64 0))⟩]) (.seq (.ops [⟨(some 7), none, .mov (.t 0)⟩, ⟨(some 8), none, .mkf 126 [(.t 5), (.t 4)]⟩, ⟨(some 9), none, .call 125 [(.t 7), (.t 8)]⟩, ⟨(some 6), none, .mov (.t 9)⟩]) .ret))) := by kernel_rfl
def f92 (n : Nat) (a1 : (List Form)) (a2 : ByteArray) : Option Int := ((f125 n a1 a2).bind fun r5 => some r5)
def f92_r (r : Int) : AV := (vI r)
theorem p_f92 {n : Nat} {a1 : (List Form)} {a2 : ByteArray} {r : Int} (h : f92 n a1 a2 = some r) : PureSpec Try.prog 92 [(vL Form.c a1), (vS a2), (.fn 93 [])] (f92_r r) := by
 rw [f92.eq_1] at h
 refine pure_of hmix ic92 ?_
 refine go_to (mkd (.val undef) 10 0 [(0, (vL Form.c a1)), (1, (vS a2)), (2, (.fn 93 []))]) ?_
 refine s_so fun N3 k3 w3 => ?_
 refine o_h3 [(4, (.ptr 0 0)), (5, (.ptr 1 0)), (6, (vI 0))] [(some (.box 9 [(vS a2)])), (some (.box 140 [(.fn 93 [])]))] ?_
 refine o_end (k3 _ ?_)
 refine s_so fun N4 k4 w4 => ?_
 refine o_r2 [(7, (vL Form.c a1)), (8, (.fn 126 [(.ptr 1 0), (.ptr 0 0)]))] ?_
 refine bnd h fun r5 g6 h => ?_
 refine o_o (one_callT [1, 0] (p_f125 g6) (ns_v _)) ?_
 refine o_r1 [(6, (vI r5))] ?_
 refine o_end (k4 _ ?_)
 exact c_ret (rets [] [(vI r5)] [(vI r5)] h)
theorem ic52 : fnIC Try.prog H0 52 = some ([.tmp 4], 8, (.seq (.ops [⟨(some 4), none, .mov (.c (.int .i64 0))⟩]) (.seq (.ops [⟨(some 5), none, .mov (.t 0)⟩, ⟨(some 6), none, .mov (.t 1)⟩, ⟨(some 7), none, .call 92 [(.t 5), (.t 6), (.f 93)]⟩, ⟨(some 4), none, .mov (.t 7)⟩]) .ret))) := by kernel_rfl
def f52 (n : Nat) (a1 : (List Form)) (a2 : ByteArray) : Option Int := ((f92 n a1 a2).bind fun r5 => some r5)
def f52_r (r : Int) : AV := (vI r)
theorem p_f52 {n : Nat} {a1 : (List Form)} {a2 : ByteArray} {r : Int} (h : f52 n a1 a2 = some r) : PureSpec Try.prog 52 [(vL Form.c a1), (vS a2)] (f52_r r) := by
 rw [f52.eq_1] at h
 refine pure_of hmix ic52 ?_
 refine go_to (mkd (.val undef) 8 0 [(0, (vL Form.c a1)), (1, (vS a2))]) ?_
 refine s_so fun N3 k3 w3 => ?_
 refine o_r1 [(4, (vI 0))] ?_
 refine o_end (k3 _ ?_)
 refine s_so fun N4 k4 w4 => ?_
 refine o_r2 [(5, (vL Form.c a1)), (6, (vS a2))] ?_
 refine bnd h fun r5 g6 h => ?_
 refine o_o (one_call (p_f92 g6)) ?_
 refine o_r1 [(4, (vI r5))] ?_
 refine o_end (k4 _ ?_)
 exact c_ret (rets [] [(vI r5)] [(vI r5)] h)
theorem ic94 : fnIC Try.prog H0 94 = some ([.tmp 2], 11, (.seq (.ops [⟨(some 2), none, .mov (.c (.bool false))⟩]) (.seq (.ops [⟨(some 3), none, .mov (.t 0)⟩, ⟨(some 4), none, .call 90 [(.t 3), (.c (.int .u8 97)), (.c (.int .u8 122))]⟩, ⟨(some 5), none, .mov (.t 4)⟩, ⟨(some 6), (some (5, true)), .isl 1 [(.c (.string ⟨#[116, 114, 117, 101]⟩)), (.c (.string ⟨#[102, 97, 108, 115, 101]⟩)), (.c (.string ⟨#[118, 111, 105, 100]⟩)), (.c (.string ⟨#[99, 117, 114, 114, 101, 110, 116]⟩)), (.c (.string ⟨#[114, 101, 115, 117, 108, 116]⟩))]⟩, ⟨(some 7), (some (5, true)), .mov (.t 0)⟩, ⟨(some 8), (some (5, true)), .call 91 [(.t 6), (.t 7)]⟩, ⟨(some 9), (some (5, true)), .sc (.un .not) [(.t 8)]⟩, ⟨(some 10), none, .pick (.t 5) (.t 9) (.c (.bool false))⟩, ⟨(some 2), none, .mov (.t 10)⟩]) .ret))) := by kernel_rfl
def f94_k3 (x9 : Bool) : Option Bool := some x9
def f94 (n : Nat) (a1 : ByteArray) : Option Bool := ((f90 n a1 97 122).bind fun r4 => (bif r4 then ((f91 n [(ByteArray.mk #[116, 114, 117, 101]), (ByteArray.mk #[102, 97, 108, 115, 101]), (ByteArray.mk #[118, 111, 105, 100]), (ByteArray.mk #[99, 117, 114, 114, 101, 110, 116]), (ByteArray.mk #[114, 101, 115, 117, 108, 116])] a1).bind fun r7 => (f94_k3 (!r7))) else (f94_k3 false)))
def f94_r (r : Bool) : AV := (vB r)
theorem p_f94 {n : Nat} {a1 : ByteArray} {r : Bool} (h : f94 n a1 = some r) : PureSpec Try.prog 94 [(vS a1)] (f94_r r) := by
 rw [f94.eq_1] at h
 refine pure_of hmix ic94 ?_
 refine go_to (mkd (.val undef) 11 0 [(0, (vS a1))]) ?_
 refine s_so fun N2 k2 w2 => ?_
 refine o_r1 [(2, (vB false))] ?_
 refine o_end (k2 _ ?_)
 refine J1 (r := r) (fun (x9 : Bool) => ⟨(mkd .any 11 0 [(2, (vB x9))]), []⟩) (f94_k3) ?_ ?_
 · intro x9 h
   rw [f94_k3.eq_1] at h
   exact c_ret (rets [] [(vB x9)] [(vB x9)] h)
 · intro N3 w3
   refine c_ops ?_
   refine o_r1 [(3, (vS a1))] ?_
   refine bnd h fun r4 g5 h => ?_
   refine o_o (one_call (p_f90 g5)) ?_
   refine o_r1 [(5, (vB r4))] ?_
   refine i_o [4, 5] h (fun h => ?_) (fun h => ?_)
   · refine o_r2 [(6, (vL cS [(ByteArray.mk #[116, 114, 117, 101]), (ByteArray.mk #[102, 97, 108, 115, 101]), (ByteArray.mk #[118, 111, 105, 100]), (ByteArray.mk #[99, 117, 114, 114, 101, 110, 116]), (ByteArray.mk #[114, 101, 115, 117, 108, 116])])), (7, (vS a1))] ?_
     refine bnd h fun r7 g8 h => ?_
     refine o_g ?_
     refine o_o (one_call (p_f91 g8)) ?_
     refine o_r3 [(2, (vB (!r7))), (9, (vB (!r7))), (10, (vB (!r7)))] ?_
     exact o_end (w3 _ _ (wkm [2] wh_nil) h)
   · refine o_r6 [(6, (.val undef)), (7, (.val undef)), (8, (.val undef)), (9, (.val undef)), (10, (vB false))] ?_
     exact o_end (w3 _ _ (wkm [2] wh_nil) h)
theorem ic128 : fnIC Try.prog H0 128 = some ([.tmp 2], 5, (.seq (.ops [⟨(some 1), none, .box 0 93 [] (.t 0)⟩, ⟨(some 2), none, .mov (.c (.string ⟨#[]⟩))⟩]) (.seq (.ops [⟨(some 3), none, .faddr (.t 1) 0⟩, ⟨(some 4), none, .ld (.t 3) 1 false⟩, ⟨(some 2), none, .mov (.t 4)⟩]) .ret))) := by kernel_rfl
def f128 (n : Nat) (a1 : Col) : Option ByteArray := some a1.fName
def f128_r (r : ByteArray) : AV := (vS r)
theorem p_f128 {n : Nat} {a1 : Col} {r : ByteArray} (h : f128 n a1 = some r) : PureSpec Try.prog 128 [(.agg [(vS a1.fName), (vI a1.fKind), (vS a1.fClass)])] (f128_r r) := by
 rw [f128.eq_1] at h
 refine pure_of hmix ic128 ?_
 refine go_to (mkd (.val undef) 5 0 [(0, (.agg [(vS a1.fName), (vI a1.fKind), (vS a1.fClass)]))]) ?_
 refine s_so fun N2 k2 w2 => ?_
 refine o_h2 [(1, (.ptr 0 0)), (2, (vS (ByteArray.mk #[])))] [(some (.box 93 [(vS a1.fName), (vI a1.fKind), (vS a1.fClass)]))] ?_
 refine o_end (k2 _ ?_)
 refine s_so fun N3 k3 w3 => ?_
 refine o_r3 [(2, (vS a1.fName)), (3, (.ptr 0 0)), (4, (vS a1.fName))] ?_
 refine o_end (k3 _ ?_)
 exact c_ret (rets [] [(vS a1.fName)] [(vS a1.fName)] h)
theorem ic145 : fnIC Try.prog H0 145 = some ([.tmp 4], 10, (.seq (.ops [⟨(some 3), none, .box 0 93 [] (.t 0)⟩, ⟨(some 4), none, .mov (.c (.bool false))⟩]) (.seq (.draw [] [⟨⟨(some 5), none, .ld (.t 1) 1 false⟩, false, 0, 0⟩, ⟨⟨(some 6), none, .ld (.t 3) 3 true⟩, false, 0, 0⟩, ⟨⟨(some 7), none, .callv (.t 5) [(.t 6)]⟩, false, 0, 0⟩, ⟨⟨(some 8), none, .ld (.t 2) 1 false⟩, false, 0, 0⟩, ⟨⟨(some 9), none, .sc (.bin .eql 9) [(.t 7), (.t 8)]⟩, false, 0, 0⟩, ⟨⟨(some 4), none, .mov (.t 9)⟩, false, 0, 0⟩]) .ret))) := by kernel_rfl
def f145 (n : Nat) (a1 : Col) (a2 : ByteArray) : Option Bool := ((f128 n a1).bind fun r5 => some (sEqF r5 a2))
def f145_r (r : Bool) : AV := (vB r)
theorem p_f145 {n : Nat} {a1 : Col} {a2 : ByteArray} {r : Bool} (h : f145 n a1 a2 = some r) : PureSpec Try.prog 145 [(.agg [(vS a1.fName), (vI a1.fKind), (vS a1.fClass)]), (.iptr [(.fn 128 [])]), (.iptr [(vS a2)])] (f145_r r) := by
 rw [f145.eq_1] at h
 refine pure_of hmix ic145 ?_
 refine go_to (mkd (.val undef) 10 0 [(0, (.agg [(vS a1.fName), (vI a1.fKind), (vS a1.fClass)])), (1, (.iptr [(.fn 128 [])])), (2, (.iptr [(vS a2)]))]) ?_
 refine s_so fun N3 k3 w3 => ?_
 refine o_h2 [(3, (.ptr 0 0)), (4, (vB false))] [(some (.box 93 [(vS a1.fName), (vI a1.fKind), (vS a1.fClass)]))] ?_
 refine o_end (k3 _ ?_)
 refine s_seq fun N4 k4 w4 => ?_
 refine c_draw0 ?_
 refine d_r2 [(5, (.fn 128 [])), (6, (.agg [(vS a1.fName), (vI a1.fKind), (vS a1.fClass)]))] ?_
 refine bnd h fun r5 g6 h => ?_
 refine d_o (one_callv (caps := []) (p_f128 g6)) ?_
 refine d_r1 [(8, (vS a2))] ?_
 refine d_o (one_sc (vs := [.string r5, .string a2]) (str_eql r5 a2)) ?_
 refine d_r1 [(4, (vB (sEqF r5 a2)))] ?_
 refine d_end (k4 _ ?_)
 exact c_ret (rets [] [(vB (sEqF r5 a2))] [(vB (sEqF r5 a2))] h)
theorem ic144 : fnIC Try.prog H0 144 = some ([.tmp 4], 19, (.seq (.ops [⟨(some 4), none, .mov (.c (.int .i64 0))⟩]) (.seq (.seq (.ops [⟨(some 6), none, .mov (.t 0)⟩, ⟨(some 7), none, .len false (.t 6)⟩, ⟨(some 8), none, .mov (.c (.int .i64 0))⟩]) (.block 0 (.loop (.seq (.ops [⟨(some 9), none, .sc (.bin .lss 3) [(.t 8), (.t 7)]⟩]) (.seq (.cond (.t 9)
  .skip
  (.exit 0)) (.seq (.block 1 (.seq (.ops [⟨(some 10), none, .mov (.t 8)⟩, ⟨(some 5), none, .mov (.t 10)⟩]) (.seq (.ops [⟨(some 11), none, .mov (.t 1)⟩, ⟨(some 12), none, .mov (.t 0)⟩, ⟨(some 13), none, .mov (.t 5)⟩, ⟨(some 14), none, .iaddr 3 (.t 12) (.t 13)⟩, ⟨(some 15), none, .ld (.t 14) 3 true⟩, ⟨(some 16), none, .callv (.t 11) [(.t 15)]⟩]) (.cond (.t 16)
  (.seq (.ops [⟨(some 17), none, .mov (.t 5)⟩, ⟨(some 4), none, .mov (.t 17)⟩]) .ret)
  .skip)))) (.ops [⟨(some 18), none, .sc (.bin .add 3) [(.t 8), (.c (.int .i64 1))]⟩, ⟨(some 8), none, .mov (.t 18)⟩]))))))) (.seq (.ops [⟨(some 4), none, .mov (.c (.int .i64 (-1)))⟩]) .ret)))) := by kernel_rfl
def f144_k4 : Option Int := some (-1)
def f144_l8 (a1 : (List Col)) (n : Nat) (a2 : ByteArray) (k4k : Option Int) : Nat → Int → Option Int
  | 0, _ => none
  | m8 + 1, x22 => (bif (decide (x22 < (len a1))) then ((gi a1 x22).bind fun x30 => ((f145 n x30 a2).bind fun r32 => (bif r32 then some x22 else (f144_l8 a1 n a2 (k4k) m8 (wr .i64 (x22 + 1)))))) else (k4k))
def f144 (n : Nat) (a1 : (List Col)) (a2 : ByteArray) : Option Int := (f144_l8 a1 n a2 (f144_k4) n 0)
def f144_r (r : Int) : AV := (vI r)
theorem p_f144 {n : Nat} {a1 : (List Col)} {a2 : ByteArray} {r : Int} (h : f144 n a1 a2 = some r) : PureSpec Try.prog 144 [(vL Col.c a1), (.fn 145 [(.iptr [(.fn 128 [])]), (.iptr [(vS a2)])])] (f144_r r) := by
 rw [f144.eq_1] at h
 refine pure_of hmix ic144 ?_
 refine go_to (mkd (.val undef) 19 0 [(0, (vL Col.c a1)), (1, (.fn 145 [(.iptr [(.fn 128 [])]), (.iptr [(vS a2)])]))]) ?_
 refine s_so fun N3 k3 w3 => ?_
 refine o_r1 [(4, (vI 0))] ?_
 refine o_end (k3 _ ?_)
 refine J0 (r := r) ⟨(mkd .any 19 0 []), []⟩ (f144_k4) ?_ ?_
 · intro h
   rw [f144_k4.eq_1] at h
   refine s_so fun N36 k36 w36 => ?_
   refine o_r1 [(4, (vI (-1)))] ?_
   refine o_end (k36 _ ?_)
   exact c_ret (rets [] [(vI (-1))] [(vI (-1))] h)
 · intro N4 w4
   refine s_so fun N5 k5 w5 => ?_
   refine o_r1 [(6, (vL Col.c a1))] ?_
   refine o_o (one_len (f := Col.c) (l := a1)) ?_
   refine o_r1 [(8, (vI 0))] ?_
   refine o_end (k5 _ ?_)
   refine c_block fun E7 hE7 hO7 => ?_
   refine W1 (fun (x22 : Int) => ⟨(mkd .any 19 0 [(0, (vL Col.c a1)), (1, (.fn 145 [(.iptr [(.fn 128 [])]), (.iptr [(vS a2)])])), (7, (vI (len a1))), (8, (vI x22))]), []⟩) (f144_l8 a1 n a2 (f144_k4)) h (wkm [0, 1, 7, 8] wh_nil) (by intros; rw [f144_l8.eq_1]) ?_
   intro m8 x22 h N8 w8
   rw [f144_l8.eq_2] at h
   refine s_so fun N23 k23 w23 => ?_
   refine o_r1 [(9, (vB (decide (x22 < (len a1)))))] ?_
   refine o_end (k23 _ ?_)
   refine s_seq fun N24 k24 w24 => ?_
   refine i_c [9] h (fun h => ?_) (fun h => ?_)
   · refine c_skip (k24 _ ?_)
     refine s_seq fun N26 k26 w26 => ?_
     refine c_block fun E27 hE27 hO27 => ?_
     refine s_so fun N28 k28 w28 => ?_
     refine o_r2 [(5, (vI x22)), (10, (vI x22))] ?_
     refine o_end (k28 _ ?_)
     refine s_so fun N29 k29 w29 => ?_
     refine o_r3 [(11, (.fn 145 [(.iptr [(.fn 128 [])]), (.iptr [(vS a2)])])), (12, (vL Col.c a1)), (13, (vI x22))] ?_
     refine bnd h fun x30 g31 h => ?_
     refine o_o (one_ia (f := Col.c) (ki := .i64) g31) ?_
     refine o_r1 [(15, (.agg [(vS x30.fName), (vI x30.fKind), (vS x30.fClass)]))] ?_
     refine bnd h fun r32 g33 h => ?_
     refine o_o (one_callv (caps := [(.iptr [(.fn 128 [])]), (.iptr [(vS a2)])]) (p_f145 g33)) ?_
     refine o_end (k29 _ ?_)
     refine i_c [16] h (fun h => ?_) (fun h => ?_)
     · refine s_so fun N35 k35 w35 => ?_
       refine o_r2 [(4, (vI x22)), (17, (vI x22))] ?_
       refine o_end (k35 _ ?_)
       exact c_ret (rets [] [(vI x22)] [(vI x22)] h)
     · refine c_skip (k26 _ ?_)
       refine c_ops ?_
       refine o_r2 [(8, (vI (wr .i64 (x22 + 1)))), (18, (vI (wr .i64 (x22 + 1))))] ?_
       exact o_end (w8 _ _ (wkm [0, 1, 7, 8] wh_nil) h)
   · refine c_exit (hE7 _ ?_)
     exact w4 _ (wkm [] wh_nil) h
theorem ic127 : fnIC Try.prog H0 127 = some ([.tmp 6], 10, (.seq (.ops [⟨(some 4), none, .box 0 9 [] (.t 1)⟩, ⟨(some 5), none, .box 0 181 [] (.t 2)⟩, ⟨(some 6), none, .mov (.c (.int .i64 0))⟩]) (.seq (.ops [⟨(some 7), none, .mov (.t 0)⟩, ⟨(some 8), none, .mkf 145 [(.t 5), (.t 4)]⟩, ⟨(some 9), none, .call 144 [(.t 7), (.t 8)]⟩, ⟨(some 6), none, .mov (.t 9)⟩]) .ret))) := by kernel_rfl
def f127 (n : Nat) (a1 : (List Col)) (a2 : ByteArray) : Option Int := ((f144 n a1 a2).bind fun r5 => some r5)
def f127_r (r : Int) : AV := (vI r)
theorem p_f127 {n : Nat} {a1 : (List Col)} {a2 : ByteArray} {r : Int} (h : f127 n a1 a2 = some r) : PureSpec Try.prog 127 [(vL Col.c a1), (vS a2), (.fn 128 [])] (f127_r r) := by
 rw [f127.eq_1] at h
 refine pure_of hmix ic127 ?_
 refine go_to (mkd (.val undef) 10 0 [(0, (vL Col.c a1)), (1, (vS a2)), (2, (.fn 128 []))]) ?_
 refine s_so fun N3 k3 w3 => ?_
 refine o_h3 [(4, (.ptr 0 0)), (5, (.ptr 1 0)), (6, (vI 0))] [(some (.box 9 [(vS a2)])), (some (.box 181 [(.fn 128 [])]))] ?_
 refine o_end (k3 _ ?_)
 refine s_so fun N4 k4 w4 => ?_
 refine o_r2 [(7, (vL Col.c a1)), (8, (.fn 145 [(.ptr 1 0), (.ptr 0 0)]))] ?_
 refine bnd h fun r5 g6 h => ?_
 refine o_o (one_callT [1, 0] (p_f144 g6) (ns_v _)) ?_
 refine o_r1 [(6, (vI r5))] ?_
 refine o_end (k4 _ ?_)
 exact c_ret (rets [] [(vI r5)] [(vI r5)] h)
theorem ic95 : fnIC Try.prog H0 95 = some ([.tmp 4], 8, (.seq (.ops [⟨(some 4), none, .mov (.c (.int .i64 0))⟩]) (.seq (.ops [⟨(some 5), none, .mov (.t 0)⟩, ⟨(some 6), none, .mov (.t 1)⟩, ⟨(some 7), none, .call 127 [(.t 5), (.t 6), (.f 128)]⟩, ⟨(some 4), none, .mov (.t 7)⟩]) .ret))) := by kernel_rfl
def f95 (n : Nat) (a1 : (List Col)) (a2 : ByteArray) : Option Int := ((f127 n a1 a2).bind fun r5 => some r5)
def f95_r (r : Int) : AV := (vI r)
theorem p_f95 {n : Nat} {a1 : (List Col)} {a2 : ByteArray} {r : Int} (h : f95 n a1 a2 = some r) : PureSpec Try.prog 95 [(vL Col.c a1), (vS a2)] (f95_r r) := by
 rw [f95.eq_1] at h
 refine pure_of hmix ic95 ?_
 refine go_to (mkd (.val undef) 8 0 [(0, (vL Col.c a1)), (1, (vS a2))]) ?_
 refine s_so fun N3 k3 w3 => ?_
 refine o_r1 [(4, (vI 0))] ?_
 refine o_end (k3 _ ?_)
 refine s_so fun N4 k4 w4 => ?_
 refine o_r2 [(5, (vL Col.c a1)), (6, (vS a2))] ?_
 refine bnd h fun r5 g6 h => ?_
 refine o_o (one_call (p_f127 g6)) ?_
 refine o_r1 [(4, (vI r5))] ?_
 refine o_end (k4 _ ?_)
 exact c_ret (rets [] [(vI r5)] [(vI r5)] h)
theorem ic86 : fnIC Try.prog H0 86 = some ([.tmp 6], 15, (.seq (.ops [⟨(some 6), none, .mov (.c (.bool false))⟩]) (.seq (.ops [⟨(some 7), none, .mov (.t 1)⟩, ⟨(some 8), none, .mov (.t 0)⟩, ⟨(some 9), none, .sc (.bin .leq 3) [(.t 7), (.t 8)]⟩, ⟨(some 10), none, .mov (.t 9)⟩, ⟨(some 11), (some (10, true)), .mov (.t 0)⟩, ⟨(some 12), (some (10, true)), .mov (.t 2)⟩, ⟨(some 13), (some (10, true)), .sc (.bin .leq 3) [(.t 11), (.t 12)]⟩, ⟨(some 14), none, .pick (.t 10) (.t 13) (.c (.bool false))⟩, ⟨(some 6), none, .mov (.t 14)⟩]) .ret))) := by kernel_rfl
def f86_k5 (x7 : Bool) : Option Bool := some x7
def f86 (n : Nat) (a1 : Int) (a2 : Int) (a3 : Int) : Option Bool := (bif (decide (a2 ≤ a1)) then (f86_k5 (decide (a1 ≤ a3))) else (f86_k5 false))
def f86_r (r : Bool) : AV := (vB r)
theorem p_f86 {n : Nat} {a1 : Int} {a2 : Int} {a3 : Int} {r : Bool} (h : f86 n a1 a2 a3 = some r) : PureSpec Try.prog 86 [(vI a1), (vI a2), (vI a3)] (f86_r r) := by
 rw [f86.eq_1] at h
 refine pure_of hmix ic86 ?_
 refine go_to (mkd (.val undef) 15 0 [(0, (vI a1)), (1, (vI a2)), (2, (vI a3))]) ?_
 refine s_so fun N4 k4 w4 => ?_
 refine o_r1 [(6, (vB false))] ?_
 refine o_end (k4 _ ?_)
 refine J1 (r := r) (fun (x7 : Bool) => ⟨(mkd .any 15 0 [(6, (vB x7))]), []⟩) (f86_k5) ?_ ?_
 · intro x7 h
   rw [f86_k5.eq_1] at h
   exact c_ret (rets [] [(vB x7)] [(vB x7)] h)
 · intro N5 w5
   refine c_ops ?_
   refine o_r4 [(7, (vI a2)), (8, (vI a1)), (9, (vB (decide (a2 ≤ a1)))), (10, (vB (decide (a2 ≤ a1))))] ?_
   refine i_o [9, 10] h (fun h => ?_) (fun h => ?_)
   · refine o_r5 [(6, (vB (decide (a1 ≤ a3)))), (11, (vI a1)), (12, (vI a3)), (13, (vB (decide (a1 ≤ a3)))), (14, (vB (decide (a1 ≤ a3))))] ?_
     exact o_end (w5 _ _ (wkm [6] wh_nil) h)
   · refine o_r5 [(11, (.val undef)), (12, (.val undef)), (13, (.val undef)), (14, (vB false))] ?_
     exact o_end (w5 _ _ (wkm [6] wh_nil) h)
theorem ic53 : fnIC Try.prog H0 53 = some ([.tmp 2], 41, (.seq (.ops [⟨(some 2), none, .mov (.c (.int .i64 0))⟩]) (.seq (.seq (.ops [⟨(some 5), none, .mov (.t 0)⟩, ⟨(some 6), none, .len false (.t 5)⟩, ⟨(some 7), none, .sc (.bin .gtr 3) [(.t 6), (.c (.int .i64 30))]⟩]) (.cond (.t 7)
  (.seq (.ops [⟨(some 2), none, .mov (.c (.int .i64 3))⟩]) .ret)
  .skip)) (.seq (.seq (.ops [⟨(some 8), none, .mov (.t 0)⟩, ⟨(some 9), none, .len false (.t 8)⟩, ⟨(some 10), none, .mov (.c (.int .i64 0))⟩]) (.block 0 (.loop (.seq (.ops [⟨(some 11), none, .sc (.bin .lss 3) [(.t 10), (.t 9)]⟩]) (.seq (.cond (.t 11)
  .skip
  (.exit 0)) (.seq (.block 1 (.seq (.ops [⟨(some 12), none, .mov (.t 10)⟩, ⟨(some 13), none, .iaddr 3 (.t 8) (.t 10)⟩, ⟨(some 14), none, .ld (.t 13) 3 true⟩, ⟨(some 4), none, .alloc 0 93 [] [(.string ⟨#[]⟩), (.int .i64 0), (.string ⟨#[]⟩)]⟩, ⟨(some 3), none, .mov (.t 12)⟩, ⟨none, none, .st true 3 [] (.t 4) (.t 14)⟩]) (.seq (.seq (.ops [⟨(some 15), none, .faddr (.t 4) 0⟩, ⟨(some 16), none, .ld (.t 15) 1 false⟩, ⟨(some 17), none, .call 94 [(.t 16)]⟩, ⟨(some 18), none, .sc (.un .not) [(.t 17)]⟩]) (.cond (.t 18)
  (.seq (.ops [⟨(some 2), none, .mov (.c (.int .i64 4))⟩]) .ret)
  .skip)) (.seq (.seq (.draw [] [⟨⟨(some 19), none, .mov (.t 0)⟩, false, 0, 0⟩, ⟨⟨(some 20), none, .mov (.t 3)⟩, false, 0, 0⟩, ⟨⟨(some 21), none, .lsl 3 (.t 19) none (some (.t 20))⟩, false, 0, 0⟩, ⟨⟨(some 22), none, .faddr (.t 4) 0⟩, false, 0, 0⟩, ⟨⟨(some 23), none, .ld (.t 22) 1 false⟩, false, 0, 0⟩, ⟨⟨(some 24), none, .call 95 [(.t 21), (.t 23)]⟩, false, 0, 0⟩, ⟨⟨(some 25), none, .sc (.bin .geq 3) [(.t 24), (.c (.int .i64 0))]⟩, false, 0, 0⟩]) (.cond (.t 25)
  (.seq (.ops [⟨(some 2), none, .mov (.c (.int .i64 6))⟩]) .ret)
  .skip)) (.seq (.ops [⟨(some 26), none, .faddr (.t 4) 1⟩, ⟨(some 27), none, .ld (.t 26) 1 false⟩, ⟨(some 28), none, .call 86 [(.t 27), (.c (.int .i64 1)), (.c (.int .i64 3))]⟩, ⟨(some 29), none, .sc (.un .not) [(.t 28)]⟩, ⟨(some 30), none, .mov (.t 29)⟩, ⟨(some 31), (some (30, false)), .faddr (.t 4) 1⟩, ⟨(some 32), (some (30, false)), .ld (.t 31) 1 false⟩, ⟨(some 33), (some (30, false)), .sc (.bin .neq 3) [(.t 32), (.c (.int .i64 3))]⟩, ⟨(some 34), (some (30, false)), .mov (.t 33)⟩, ⟨(some 35), (some (34, true)), .faddr (.t 4) 2⟩, ⟨(some 36), (some (34, true)), .ld (.t 35) 1 false⟩, ⟨(some 37), (some (34, true)), .sc (.bin .neq 9) [(.t 36), (.c (.string ⟨#[]⟩))]⟩, ⟨(some 38), (some (30, false)), .pick (.t 34) (.t 37) (.c (.bool false))⟩, ⟨(some 39), none, .pick (.t 30) (.c (.bool true)) (.t 38)⟩]) (.cond (.t 39)
  (.seq (.ops [⟨(some 2), none, .mov (.c (.int .i64 1))⟩]) .ret)
  .skip)))))) (.ops [⟨(some 40), none, .sc (.bin .add 3) [(.t 10), (.c (.int .i64 1))]⟩, ⟨(some 10), none, .mov (.t 40)⟩]))))))) (.seq (.ops [⟨(some 2), none, .mov (.c (.int .i64 0))⟩]) .ret))))) := by kernel_rfl
def f53_k67 (x44 : Int) (c12k : Int → Option Int) (x73 : Bool) : Option Int := (bif x73 then some 1 else (c12k (wr .i64 (x44 + 1))))
def f53_k8 : Option Int := some 0
def f53_l12 (a1 : (List Col)) (n : Nat) (k8k : Option Int) : Nat → Int → Option Int
  | 0, _ => none
  | m12 + 1, x44 => (bif (decide (x44 < (len a1))) then ((gi a1 x44).bind fun x51 => ((f94 n x51.fName).bind fun r55 => (bif (!r55) then some 4 else ((sli a1 0 x44).bind fun l61 => ((f95 n l61 x51.fName).bind fun r63 => (bif (decide (r63 ≥ 0)) then some 6 else ((f86 n x51.fKind 1 3).bind fun r68 => (bif (!r68) then (f53_k67 x44 (f53_l12 a1 n (k8k) m12) true) else (bif (x51.fKind != 3) then (f53_k67 x44 (f53_l12 a1 n (k8k) m12) (!(sEqF x51.fClass (ByteArray.mk #[])))) else (f53_k67 x44 (f53_l12 a1 n (k8k) m12) false)))))))))) else (k8k))
def f53 (n : Nat) (a1 : (List Col)) : Option Int := (bif (decide ((len a1) > 30)) then some 3 else (f53_l12 a1 n (f53_k8) n 0))
def f53_r (r : Int) : AV := (vI r)
theorem p_f53 {n : Nat} {a1 : (List Col)} {r : Int} (h : f53 n a1 = some r) : PureSpec Try.prog 53 [(vL Col.c a1)] (f53_r r) := by
 rw [f53.eq_1] at h
 refine pure_of hmix ic53 ?_
 refine go_to (mkd (.val undef) 41 0 [(0, (vL Col.c a1))]) ?_
 refine s_so fun N2 k2 w2 => ?_
 refine o_r1 [(2, (vI 0))] ?_
 refine o_end (k2 _ ?_)
 refine s_seq fun N3 k3 w3 => ?_
 refine s_so fun N4 k4 w4 => ?_
 refine o_r1 [(5, (vL Col.c a1))] ?_
 refine o_o (one_len (f := Col.c) (l := a1)) ?_
 refine o_r1 [(7, (vB (decide ((len a1) > 30))))] ?_
 refine o_end (k4 _ ?_)
 refine i_c [7] h (fun h => ?_) (fun h => ?_)
 · refine s_so fun N7 k7 w7 => ?_
   refine o_r1 [(2, (vI 3))] ?_
   refine o_end (k7 _ ?_)
   exact c_ret (rets [] [(vI 3)] [(vI 3)] h)
 · refine c_skip (k3 _ ?_)
   refine J0 (r := r) ⟨(mkd .any 41 0 []), []⟩ (f53_k8) ?_ ?_
   · intro h
     rw [f53_k8.eq_1] at h
     refine s_so fun N76 k76 w76 => ?_
     refine o_r1 [(2, (vI 0))] ?_
     refine o_end (k76 _ ?_)
     exact c_ret (rets [] [(vI 0)] [(vI 0)] h)
   · intro N8 w8
     refine s_so fun N9 k9 w9 => ?_
     refine o_r1 [(8, (vL Col.c a1))] ?_
     refine o_o (one_len (f := Col.c) (l := a1)) ?_
     refine o_r1 [(10, (vI 0))] ?_
     refine o_end (k9 _ ?_)
     refine c_block fun E11 hE11 hO11 => ?_
     refine W1 (fun (x44 : Int) => ⟨(mkd .any 41 0 [(0, (vL Col.c a1)), (8, (vL Col.c a1)), (9, (vI (len a1))), (10, (vI x44))]), []⟩) (f53_l12 a1 n (f53_k8)) h (wkm [0, 8, 9, 10] wh_nil) (by intros; rw [f53_l12.eq_1]) ?_
     intro m12 x44 h N12 w12
     rw [f53_l12.eq_2] at h
     refine s_so fun N45 k45 w45 => ?_
     refine o_r1 [(11, (vB (decide (x44 < (len a1)))))] ?_
     refine o_end (k45 _ ?_)
     refine s_seq fun N46 k46 w46 => ?_
     refine i_c [11] h (fun h => ?_) (fun h => ?_)
     · refine c_skip (k46 _ ?_)
       refine s_seq fun N48 k48 w48 => ?_
       refine c_block fun E49 hE49 hO49 => ?_
       refine s_so fun N50 k50 w50 => ?_
       refine o_r1 [(12, (vI x44))] ?_
       refine bnd h fun x51 g52 h => ?_
       refine o_o (one_ia (f := Col.c) (ki := .i64) g52) ?_
       refine o_h4 [(3, (vI x44)), (4, (.ptr 0 0)), (14, (.agg [(vS x51.fName), (vI x51.fKind), (vS x51.fClass)]))] [(some (.box 93 [(vS x51.fName), (vI x51.fKind), (vS x51.fClass)]))] ?_
       refine o_end (k50 _ ?_)
       refine s_seq fun N53 k53 w53 => ?_
       refine s_so fun N54 k54 w54 => ?_
       refine o_r2 [(15, (.ptr 0 0)), (16, (vS x51.fName))] ?_
       refine bnd h fun r55 g56 h => ?_
       refine o_o (one_call (p_f94 g56)) ?_
       refine o_r1 [(18, (vB (!r55)))] ?_
       refine o_end (k54 _ ?_)
       refine i_c [18] h (fun h => ?_) (fun h => ?_)
       · refine s_so fun N58 k58 w58 => ?_
         refine o_r1 [(2, (vI 4))] ?_
         refine o_end (k58 _ ?_)
         exact c_ret (rets [] [(vI 4)] [(vI 4)] h)
       · refine c_skip (k53 _ ?_)
         refine s_seq fun N59 k59 w59 => ?_
         refine s_seq fun N60 k60 w60 => ?_
         refine c_draw0 ?_
         refine d_r2 [(19, (vL Col.c a1)), (20, (vI x44))] ?_
         refine bnd h fun l61 g62 h => ?_
         refine d_o (one_lsl (f := Col.c) g62 (fun _ => rfl)) ?_
         refine d_r2 [(22, (.ptr 0 0)), (23, (vS x51.fName))] ?_
         refine t_tm (mkd .any 41 0 [(0, (vL Col.c a1)), (3, (vI x44)), (4, (.ptr 0 0)), (8, (vL Col.c a1)), (9, (vI (len a1))), (10, (vI x44)), (11, (vB true)), (12, (vI x44)), (13, (.iptr [(vS x51.fName), (vI x51.fKind), (vS x51.fClass)])), (14, (.agg [(vS x51.fName), (vI x51.fKind), (vS x51.fClass)])), (15, (.ptr 0 0)), (16, (vS x51.fName)), (17, (vB r55)), (18, (vB false)), (19, (vL Col.c a1)), (20, (vI x44)), (21, (vL Col.c l61)), (22, (.ptr 0 0)), (23, (vS x51.fName))]) ?_
         refine bnd h fun r63 g64 h => ?_
         refine d_o (one_call (p_f95 g64)) ?_
         refine d_r1 [(25, (vB (decide (r63 ≥ 0))))] ?_
         refine d_end (k60 _ ?_)
         refine i_c [25] h (fun h => ?_) (fun h => ?_)
         · refine s_so fun N66 k66 w66 => ?_
           refine o_r1 [(2, (vI 6))] ?_
           refine o_end (w66 _ ⟨(mkd .any 41 0 [(2, (vI 6))]), []⟩ (wkm [2] wh_nil) ?_)
           exact c_ret (rets [] [(vI 6)] [(vI 6)] h)
         · refine c_skip (w59 _ ⟨(mkd .any 41 0 [(0, (vL Col.c a1)), (4, (.ptr 0 0)), (8, (vL Col.c a1)), (9, (vI (len a1))), (10, (vI x44))]), [(some (.box 93 [(vS x51.fName), (vI x51.fKind), (vS x51.fClass)]))]⟩ (wkm [0, 4, 8, 9, 10] (whk wh_nil)) ?_)
           refine J1 (r := r) (fun (x73 : Bool) => ⟨(mkd .any 41 0 [(0, (vL Col.c a1)), (8, (vL Col.c a1)), (9, (vI (len a1))), (10, (vI x44)), (39, (vB x73))]), []⟩) (f53_k67 x44 (f53_l12 a1 n (f53_k8) m12)) ?_ ?_
           · intro x73 h
             rw [f53_k67.eq_1] at h
             refine i_c [39] h (fun h => ?_) (fun h => ?_)
             · refine s_so fun N75 k75 w75 => ?_
               refine o_r1 [(2, (vI 1))] ?_
               refine o_end (k75 _ ?_)
               exact c_ret (rets [] [(vI 1)] [(vI 1)] h)
             · refine c_skip (k48 _ ?_)
               refine c_ops ?_
               refine o_r2 [(10, (vI (wr .i64 (x44 + 1)))), (40, (vI (wr .i64 (x44 + 1))))] ?_
               exact o_end (w12 _ _ (wkm [0, 8, 9, 10] wh_nil) h)
           · intro N67 w67
             refine c_ops ?_
             refine o_r2 [(26, (.ptr 0 1)), (27, (vI x51.fKind))] ?_
             refine bnd h fun r68 g69 h => ?_
             refine o_o (one_call (p_f86 g69)) ?_
             refine o_r2 [(29, (vB (!r68))), (30, (vB (!r68)))] ?_
             refine i_o [29, 30] h (fun h => ?_) (fun h => ?_)
             · refine o_r9 [(31, (.val undef)), (32, (.val undef)), (33, (.val undef)), (34, (.val undef)), (35, (.val undef)), (36, (.val undef)), (37, (.val undef)), (38, (.val undef)), (39, (vB true))] ?_
               exact o_end (w67 _ _ (wkm [0, 8, 9, 10, 39] wh_nil) h)
             · refine o_r4 [(31, (.ptr 0 1)), (32, (vI x51.fKind)), (33, (vB (x51.fKind != 3))), (34, (vB (x51.fKind != 3)))] ?_
               refine i_o [33, 34] h (fun h => ?_) (fun h => ?_)
               · refine o_r2 [(35, (.ptr 0 2)), (36, (vS x51.fClass))] ?_
                 refine o_g ?_
                 refine o_o (one_sc (vs := [.string x51.fClass, .string (ByteArray.mk #[])]) (str_neq x51.fClass (ByteArray.mk #[]))) ?_
                 refine o_r2 [(38, (vB (!(sEqF x51.fClass (ByteArray.mk #[]))))), (39, (vB (!(sEqF x51.fClass (ByteArray.mk #[])))))] ?_
                 exact o_end (w67 _ _ (wkm [0, 8, 9, 10, 39] wh_nil) h)
               · refine o_r5 [(35, (.val undef)), (36, (.val undef)), (37, (.val undef)), (38, (vB false)), (39, (vB false))] ?_
                 exact o_end (w67 _ _ (wkm [0, 8, 9, 10, 39] wh_nil) h)
     · refine c_exit (hE11 _ ?_)
       exact w8 _ (wkm [] wh_nil) h
theorem ic49 : fnIC Try.prog H0 49 = some ([.tmp 2], 15, (.seq (.ops [⟨(some 2), none, .mov (.c (.int .i64 0))⟩]) (.seq (.seq (.ops [⟨(some 5), none, .mov (.t 0)⟩, ⟨(some 6), none, .len false (.t 5)⟩, ⟨(some 7), none, .mov (.c (.int .i64 0))⟩]) (.block 0 (.loop (.seq (.ops [⟨(some 8), none, .sc (.bin .lss 3) [(.t 7), (.t 6)]⟩]) (.seq (.cond (.t 8)
  .skip
  (.exit 0)) (.seq (.block 1 (.seq (.ops [⟨(some 9), none, .iaddr 1 (.t 5) (.t 7)⟩, ⟨(some 10), none, .ld (.t 9) 1 false⟩, ⟨(some 4), none, .mov (.t 10)⟩]) (.seq (.ops [⟨(some 11), none, .mov (.t 4)⟩, ⟨(some 12), none, .sc (.bin .neq 30) [(.t 11), (.c (.int .i64 0))]⟩]) (.cond (.t 12)
  (.seq (.ops [⟨(some 13), none, .mov (.t 4)⟩, ⟨(some 2), none, .mov (.t 13)⟩]) .ret)
  .skip)))) (.ops [⟨(some 14), none, .sc (.bin .add 3) [(.t 7), (.c (.int .i64 1))]⟩, ⟨(some 7), none, .mov (.t 14)⟩]))))))) (.seq (.ops [⟨(some 2), none, .mov (.c (.int .i64 0))⟩]) .ret)))) := by kernel_rfl
def f49_k3 : Option Int := some 0
def f49_l7 (a1 : (List Int)) (k3k : Option Int) : Nat → Int → Option Int
  | 0, _ => none
  | m7 + 1, x19 => (bif (decide (x19 < (len a1))) then ((gi a1 x19).bind fun x26 => (bif (x26 != 0) then some x26 else (f49_l7 a1 (k3k) m7 (wr .i64 (x19 + 1))))) else (k3k))
def f49 (n : Nat) (a1 : (List Int)) : Option Int := (f49_l7 a1 (f49_k3) n 0)
def f49_r (r : Int) : AV := (vI r)
theorem p_f49 {n : Nat} {a1 : (List Int)} {r : Int} (h : f49 n a1 = some r) : PureSpec Try.prog 49 [(vL cI a1)] (f49_r r) := by
 rw [f49.eq_1] at h
 refine pure_of hmix ic49 ?_
 refine go_to (mkd (.val undef) 15 0 [(0, (vL cI a1))]) ?_
 refine s_so fun N2 k2 w2 => ?_
 refine o_r1 [(2, (vI 0))] ?_
 refine o_end (k2 _ ?_)
 refine J0 (r := r) ⟨(mkd .any 15 0 []), []⟩ (f49_k3) ?_ ?_
 · intro h
   rw [f49_k3.eq_1] at h
   refine s_so fun N31 k31 w31 => ?_
   refine o_r1 [(2, (vI 0))] ?_
   refine o_end (k31 _ ?_)
   exact c_ret (rets [] [(vI 0)] [(vI 0)] h)
 · intro N3 w3
   refine s_so fun N4 k4 w4 => ?_
   refine o_r1 [(5, (vL cI a1))] ?_
   refine o_o (one_len (f := cI) (l := a1)) ?_
   refine o_r1 [(7, (vI 0))] ?_
   refine o_end (k4 _ ?_)
   refine c_block fun E6 hE6 hO6 => ?_
   refine W1 (fun (x19 : Int) => ⟨(mkd .any 15 0 [(5, (vL cI a1)), (6, (vI (len a1))), (7, (vI x19))]), []⟩) (f49_l7 a1 (f49_k3)) h (wkm [5, 6, 7] wh_nil) (by intros; rw [f49_l7.eq_1]) ?_
   intro m7 x19 h N7 w7
   rw [f49_l7.eq_2] at h
   refine s_so fun N20 k20 w20 => ?_
   refine o_r1 [(8, (vB (decide (x19 < (len a1)))))] ?_
   refine o_end (k20 _ ?_)
   refine s_seq fun N21 k21 w21 => ?_
   refine i_c [8] h (fun h => ?_) (fun h => ?_)
   · refine c_skip (k21 _ ?_)
     refine s_seq fun N23 k23 w23 => ?_
     refine c_block fun E24 hE24 hO24 => ?_
     refine s_so fun N25 k25 w25 => ?_
     refine bnd h fun x26 g27 h => ?_
     refine o_o (one_ia (f := cI) (ki := .i64) g27) ?_
     refine o_r2 [(4, (vI x26)), (10, (vI x26))] ?_
     refine o_end (k25 _ ?_)
     refine s_so fun N28 k28 w28 => ?_
     refine o_r2 [(11, (vI x26)), (12, (vB (x26 != 0)))] ?_
     refine o_end (k28 _ ?_)
     refine i_c [12] h (fun h => ?_) (fun h => ?_)
     · refine s_so fun N30 k30 w30 => ?_
       refine o_r2 [(2, (vI x26)), (13, (vI x26))] ?_
       refine o_end (k30 _ ?_)
       exact c_ret (rets [] [(vI x26)] [(vI x26)] h)
     · refine c_skip (k23 _ ?_)
       refine c_ops ?_
       refine o_r2 [(7, (vI (wr .i64 (x19 + 1)))), (14, (vI (wr .i64 (x19 + 1))))] ?_
       exact o_end (w7 _ _ (wkm [5, 6, 7] wh_nil) h)
   · refine c_exit (hE6 _ ?_)
     exact w3 _ (wkm [] wh_nil) h
theorem ic16 : fnIC Try.prog H0 16 = some ([.tmp 2], 71, (.seq (.ops [⟨(some 2), none, .mov (.c (.int .i64 0))⟩]) (.seq (.seq (.ops [⟨(some 10), none, .mov (.t 0)⟩, ⟨(some 11), none, .len false (.t 10)⟩, ⟨(some 12), none, .sc (.bin .gtr 3) [(.t 11), (.c (.int .i64 24))]⟩]) (.cond (.t 12)
  (.seq (.ops [⟨(some 2), none, .mov (.c (.int .i64 3))⟩]) .ret)
  .skip)) (.seq (.seq (.ops [⟨(some 13), none, .mov (.t 0)⟩, ⟨(some 14), none, .len false (.t 13)⟩, ⟨(some 15), none, .mov (.c (.int .i64 0))⟩]) (.block 0 (.loop (.seq (.ops [⟨(some 16), none, .sc (.bin .lss 3) [(.t 15), (.t 14)]⟩]) (.seq (.cond (.t 16)
  .skip
  (.exit 0)) (.seq (.block 1 (.seq (.ops [⟨(some 17), none, .mov (.t 15)⟩, ⟨(some 18), none, .iaddr 2 (.t 13) (.t 15)⟩, ⟨(some 19), none, .ld (.t 18) 2 true⟩, ⟨(some 4), none, .alloc 0 91 [(1, 93, 3, 0)] [(.string ⟨#[]⟩), (.slice none 0 0)]⟩, ⟨(some 3), none, .mov (.t 17)⟩, ⟨none, none, .st true 2 [(1, 93, 3, 0)] (.t 4) (.t 19)⟩]) (.seq (.draw [] [⟨⟨(some 20), none, .faddr (.t 4) 0⟩, false, 0, 0⟩, ⟨⟨(some 21), none, .ld (.t 20) 1 false⟩, false, 0, 0⟩, ⟨⟨(some 22), none, .call 51 [(.t 21)]⟩, false, 0, 0⟩, ⟨⟨(some 23), none, .call 50 [(.t 22), (.c (.int .i64 4))]⟩, false, 0, 0⟩, ⟨⟨(some 24), none, .mov (.t 0)⟩, false, 0, 0⟩, ⟨⟨(some 25), none, .mov (.t 3)⟩, false, 0, 0⟩, ⟨⟨(some 26), none, .lsl 2 (.t 24) none (some (.t 25))⟩, false, 0, 0⟩, ⟨⟨(some 27), none, .faddr (.t 4) 0⟩, false, 0, 0⟩, ⟨⟨(some 28), none, .ld (.t 27) 1 false⟩, false, 0, 0⟩, ⟨⟨(some 29), none, .call 52 [(.t 26), (.t 28)]⟩, false, 0, 0⟩, ⟨⟨(some 30), none, .sc (.bin .lss 3) [(.t 29), (.c (.int .i64 0))]⟩, false, 0, 0⟩, ⟨⟨(some 31), none, .call 50 [(.t 30), (.c (.int .i64 6))]⟩, false, 0, 0⟩, ⟨⟨(some 32), none, .faddr (.t 4) 1⟩, false, 0, 0⟩, ⟨⟨(some 33), none, .ld (.t 32) 1 false⟩, false, 0, 0⟩, ⟨⟨(some 34), none, .call 53 [(.t 33)]⟩, false, 0, 0⟩, ⟨⟨(some 35), none, .isl 1 [(.t 23), (.t 31), (.t 34)]⟩, false, 0, 0⟩, ⟨⟨(some 36), none, .call 49 [(.t 35)]⟩, false, 0, 0⟩, ⟨⟨(some 5), none, .mov (.t 36)⟩, false, 0, 0⟩]) (.seq (.ops [⟨(some 37), none, .mov (.t 5)⟩, ⟨(some 38), none, .sc (.bin .neq 30) [(.t 37), (.c (.int .i64 0))]⟩]) (.cond (.t 38)
  (.seq (.ops [⟨(some 39), none, .mov (.t 5)⟩, ⟨(some 2), none, .mov (.t 39)⟩]) .ret)
  .skip))))) (.ops [⟨(some 40), none, .sc (.bin .add 3) [(.t 15), (.c (.int .i64 1))]⟩, ⟨(some 15), none, .mov (.t 40)⟩]))))))) (.seq (.seq (.ops [⟨(some 41), none, .mov (.t 0)⟩, ⟨(some 42), none, .len false (.t 41)⟩, ⟨(some 43), none, .mov (.c (.int .i64 0))⟩]) (.block 2 (.loop (.seq (.ops [⟨(some 44), none, .sc (.bin .lss 3) [(.t 43), (.t 42)]⟩]) (.seq (.cond (.t 44)
  .skip
  (.exit 2)) (.seq (.block 3 (.seq (.ops [⟨(some 45), none, .iaddr 2 (.t 41) (.t 43)⟩, ⟨(some 46), none, .ld (.t 45) 2 true⟩, ⟨(some 7), none, .alloc 0 91 [(1, 93, 3, 0)] [(.string ⟨#[]⟩), (.slice none 0 0)]⟩, ⟨none, none, .st true 2 [(1, 93, 3, 0)] (.t 7) (.t 46)⟩]) (.seq (.ops [⟨(some 47), none, .faddr (.t 7) 1⟩, ⟨(some 48), none, .ld (.t 47) 1 false⟩, ⟨(some 49), none, .len false (.t 48)⟩, ⟨(some 50), none, .mov (.c (.int .i64 0))⟩]) (.block 4 (.loop (.seq (.ops [⟨(some 51), none, .sc (.bin .lss 3) [(.t 50), (.t 49)]⟩]) (.seq (.cond (.t 51)
  .skip
  (.exit 4)) (.seq (.block 5 (.seq (.ops [⟨(some 52), none, .iaddr 3 (.t 48) (.t 50)⟩, ⟨(some 53), none, .ld (.t 52) 3 true⟩, ⟨(some 9), none, .alloc 0 93 [] [(.string ⟨#[]⟩), (.int .i64 0), (.string ⟨#[]⟩)]⟩, ⟨none, none, .st true 3 [] (.t 9) (.t 53)⟩]) (.seq (.ops [⟨(some 54), none, .faddr (.t 9) 1⟩, ⟨(some 55), none, .ld (.t 54) 1 false⟩, ⟨(some 56), none, .sc (.bin .eql 3) [(.t 55), (.c (.int .i64 3))]⟩, ⟨(some 57), none, .mov (.t 56)⟩, ⟨(some 58), (some (57, true)), .faddr (.t 9) 2⟩, ⟨(some 59), (some (57, true)), .ld (.t 58) 1 false⟩, ⟨(some 60), (some (57, true)), .sc (.bin .neq 9) [(.t 59), (.c (.string ⟨#[65, 78, 89]⟩))]⟩, ⟨(some 61), none, .pick (.t 57) (.t 60) (.c (.bool false))⟩, ⟨(some 62), none, .mov (.t 61)⟩, ⟨(some 63), (some (62, true)), .mov (.t 0)⟩, ⟨(some 64), (some (62, true)), .faddr (.t 9) 2⟩, ⟨(some 65), (some (62, true)), .ld (.t 64) 1 false⟩, ⟨(some 66), (some (62, true)), .call 52 [(.t 63), (.t 65)]⟩, ⟨(some 67), (some (62, true)), .sc (.bin .lss 3) [(.t 66), (.c (.int .i64 0))]⟩, ⟨(some 68), none, .pick (.t 62) (.t 67) (.c (.bool false))⟩]) (.cond (.t 68)
  (.seq (.ops [⟨(some 2), none, .mov (.c (.int .i64 5))⟩]) .ret)
  .skip)))) (.ops [⟨(some 69), none, .sc (.bin .add 3) [(.t 50), (.c (.int .i64 1))]⟩, ⟨(some 50), none, .mov (.t 69)⟩]))))))))) (.ops [⟨(some 70), none, .sc (.bin .add 3) [(.t 43), (.c (.int .i64 1))]⟩, ⟨(some 43), none, .mov (.t 70)⟩]))))))) (.seq (.ops [⟨(some 2), none, .mov (.c (.int .i64 0))⟩]) .ret)))))) := by kernel_rfl
def f16_k157 (x148 : Int) (c130k : Int → Option Int) (x163 : Bool) : Option Int := (bif x163 then some 5 else (c130k (wr .i64 (x148 + 1))))
def f16_k122 (x118 : Int) (c70k : Int → Option Int) : Option Int := (c70k (wr .i64 (x118 + 1)))
def f16_l130 (x125 : Form) (n : Nat) (a1 : (List Form)) (k122k : Option Int) : Nat → Int → Option Int
  | 0, _ => none
  | m130 + 1, x148 => (bif (decide (x148 < (len x125.fCols))) then ((gi x125.fCols x148).bind fun x155 => (bif (x155.fKind == 3) then (bif (!(sEqF x155.fClass (ByteArray.mk #[65, 78, 89]))) then ((f52 n a1 x155.fClass).bind fun r161 => (f16_k157 x148 (f16_l130 x125 n a1 (k122k) m130) (decide (r161 < 0)))) else (f16_k157 x148 (f16_l130 x125 n a1 (k122k) m130) false)) else (f16_k157 x148 (f16_l130 x125 n a1 (k122k) m130) false))) else (k122k))
def f16_k66 : Option Int := some 0
def f16_l70 (a1 : (List Form)) (n : Nat) (k66k : Option Int) : Nat → Int → Option Int
  | 0, _ => none
  | m70 + 1, x118 => (bif (decide (x118 < (len a1))) then ((gi a1 x118).bind fun x125 => (f16_l130 x125 n a1 (f16_k122 x118 (f16_l70 a1 n (k66k) m70)) n 0)) else (k66k))
def f16_k8 (n : Nat) (a1 : (List Form)) : Option Int := (f16_l70 a1 n (f16_k66) n 0)
def f16_l12 (a1 : (List Form)) (n : Nat) (k8k : Option Int) : Nat → Int → Option Int
  | 0, _ => none
  | m12 + 1, x39 => (bif (decide (x39 < (len a1))) then ((gi a1 x39).bind fun x46 => ((f51 n x46.fName).bind fun r49 => ((f50 n r49 4).bind fun r51 => ((sli a1 0 x39).bind fun l53 => ((f52 n l53 x46.fName).bind fun r55 => ((f50 n (decide (r55 < 0)) 6).bind fun r57 => ((f53 n x46.fCols).bind fun r59 => ((f49 n [r51, r57, r59]).bind fun r61 => (bif (r61 != 0) then some r61 else (f16_l12 a1 n (k8k) m12 (wr .i64 (x39 + 1)))))))))))) else (k8k))
def f16 (n : Nat) (a1 : (List Form)) : Option Int := (bif (decide ((len a1) > 24)) then some 3 else (f16_l12 a1 n (f16_k8 n a1) n 0))
def f16_r (r : Int) : AV := (vI r)
theorem p_f16 {n : Nat} {a1 : (List Form)} {r : Int} (h : f16 n a1 = some r) : PureSpec Try.prog 16 [(vL Form.c a1)] (f16_r r) := by
 rw [f16.eq_1] at h
 refine pure_of hmix ic16 ?_
 refine go_to (mkd (.val undef) 71 0 [(0, (vL Form.c a1))]) ?_
 refine s_so fun N2 k2 w2 => ?_
 refine o_r1 [(2, (vI 0))] ?_
 refine o_end (k2 _ ?_)
 refine s_seq fun N3 k3 w3 => ?_
 refine s_so fun N4 k4 w4 => ?_
 refine o_r1 [(10, (vL Form.c a1))] ?_
 refine o_o (one_len (f := Form.c) (l := a1)) ?_
 refine o_r1 [(12, (vB (decide ((len a1) > 24))))] ?_
 refine o_end (k4 _ ?_)
 refine i_c [12] h (fun h => ?_) (fun h => ?_)
 · refine s_so fun N7 k7 w7 => ?_
   refine o_r1 [(2, (vI 3))] ?_
   refine o_end (k7 _ ?_)
   exact c_ret (rets [] [(vI 3)] [(vI 3)] h)
 · refine c_skip (k3 _ ?_)
   refine J0 (r := r) ⟨(mkd .any 71 0 [(0, (vL Form.c a1))]), []⟩ (f16_k8 n a1) ?_ ?_
   · intro h
     rw [f16_k8.eq_1] at h
     refine J0 (r := r) ⟨(mkd .any 71 0 []), []⟩ (f16_k66) ?_ ?_
     · intro h
       rw [f16_k66.eq_1] at h
       refine s_so fun N166 k166 w166 => ?_
       refine o_r1 [(2, (vI 0))] ?_
       refine o_end (k166 _ ?_)
       exact c_ret (rets [] [(vI 0)] [(vI 0)] h)
     · intro N66 w66
       refine s_so fun N67 k67 w67 => ?_
       refine o_r1 [(41, (vL Form.c a1))] ?_
       refine o_o (one_len (f := Form.c) (l := a1)) ?_
       refine o_r1 [(43, (vI 0))] ?_
       refine o_end (k67 _ ?_)
       refine c_block fun E69 hE69 hO69 => ?_
       refine W1 (fun (x118 : Int) => ⟨(mkd .any 71 0 [(0, (vL Form.c a1)), (41, (vL Form.c a1)), (42, (vI (len a1))), (43, (vI x118))]), []⟩) (f16_l70 a1 n (f16_k66)) h (wkm [0, 41, 42, 43] wh_nil) (by intros; rw [f16_l70.eq_1]) ?_
       intro m70 x118 h N70 w70
       rw [f16_l70.eq_2] at h
       refine s_so fun N119 k119 w119 => ?_
       refine o_r1 [(44, (vB (decide (x118 < (len a1)))))] ?_
       refine o_end (k119 _ ?_)
       refine s_seq fun N120 k120 w120 => ?_
       refine i_c [44] h (fun h => ?_) (fun h => ?_)
       · refine c_skip (k120 _ ?_)
         refine J0 (r := r) ⟨(mkd .any 71 0 [(0, (vL Form.c a1)), (41, (vL Form.c a1)), (42, (vI (len a1))), (43, (vI x118))]), []⟩ (f16_k122 x118 (f16_l70 a1 n (f16_k66) m70)) ?_ ?_
         · intro h
           rw [f16_k122.eq_1] at h
           refine c_ops ?_
           refine o_r2 [(43, (vI (wr .i64 (x118 + 1)))), (70, (vI (wr .i64 (x118 + 1))))] ?_
           exact o_end (w70 _ _ (wkm [0, 41, 42, 43] wh_nil) h)
         · intro N122 w122
           refine c_block fun E123 hE123 hO123 => ?_
           refine s_so fun N124 k124 w124 => ?_
           refine bnd h fun x125 g126 h => ?_
           refine o_o (one_ia (f := Form.c) (ki := .i64) g126) ?_
           refine o_h3 [(7, (.ptr 1 0)), (46, (.agg [(vS x125.fName), (vL Col.c x125.fCols)]))] [(some (.row 93 3 (List.map Col.c []))), (some (.box 91 [(vS x125.fName), (vL Col.c x125.fCols)]))] ?_
           refine o_end (k124 _ ?_)
           refine s_so fun N127 k127 w127 => ?_
           refine o_r2 [(47, (.ptr 1 1)), (48, (vL Col.c x125.fCols))] ?_
           refine o_o (one_len (f := Col.c) (l := x125.fCols)) ?_
           refine o_r1 [(50, (vI 0))] ?_
           refine o_end (k127 _ ?_)
           refine c_block fun E129 hE129 hO129 => ?_
           refine W1 (fun (x148 : Int) => ⟨(mkd .any 71 0 [(0, (vL Form.c a1)), (41, (vL Form.c a1)), (42, (vI (len a1))), (43, (vI x118)), (48, (vL Col.c x125.fCols)), (49, (vI (len x125.fCols))), (50, (vI x148))]), []⟩) (f16_l130 x125 n a1 (f16_k122 x118 (f16_l70 a1 n (f16_k66) m70))) h (wkm [0, 41, 42, 43, 48, 49, 50] wh_nil) (by intros; rw [f16_l130.eq_1]) ?_
           intro m130 x148 h N130 w130
           rw [f16_l130.eq_2] at h
           refine s_so fun N149 k149 w149 => ?_
           refine o_r1 [(51, (vB (decide (x148 < (len x125.fCols)))))] ?_
           refine o_end (k149 _ ?_)
           refine s_seq fun N150 k150 w150 => ?_
           refine i_c [51] h (fun h => ?_) (fun h => ?_)
           · refine c_skip (k150 _ ?_)
             refine s_seq fun N152 k152 w152 => ?_
             refine c_block fun E153 hE153 hO153 => ?_
             refine s_so fun N154 k154 w154 => ?_
             refine bnd h fun x155 g156 h => ?_
             refine o_o (one_ia (f := Col.c) (ki := .i64) g156) ?_
             refine o_h3 [(9, (.ptr 0 0)), (53, (.agg [(vS x155.fName), (vI x155.fKind), (vS x155.fClass)]))] [(some (.box 93 [(vS x155.fName), (vI x155.fKind), (vS x155.fClass)]))] ?_
             refine o_end (k154 _ ?_)
             refine J1 (r := r) (fun (x163 : Bool) => ⟨(mkd .any 71 0 [(0, (vL Form.c a1)), (41, (vL Form.c a1)), (42, (vI (len a1))), (43, (vI x118)), (48, (vL Col.c x125.fCols)), (49, (vI (len x125.fCols))), (50, (vI x148)), (68, (vB x163))]), []⟩) (f16_k157 x148 (f16_l130 x125 n a1 (f16_k122 x118 (f16_l70 a1 n (f16_k66) m70)) m130)) ?_ ?_
             · intro x163 h
               rw [f16_k157.eq_1] at h
               refine i_c [68] h (fun h => ?_) (fun h => ?_)
               · refine s_so fun N165 k165 w165 => ?_
                 refine o_r1 [(2, (vI 5))] ?_
                 refine o_end (k165 _ ?_)
                 exact c_ret (rets [] [(vI 5)] [(vI 5)] h)
               · refine c_skip (k152 _ ?_)
                 refine c_ops ?_
                 refine o_r2 [(50, (vI (wr .i64 (x148 + 1)))), (69, (vI (wr .i64 (x148 + 1))))] ?_
                 exact o_end (w130 _ _ (wkm [0, 41, 42, 43, 48, 49, 50] wh_nil) h)
             · intro N157 w157
               refine c_ops ?_
               refine o_r4 [(54, (.ptr 0 1)), (55, (vI x155.fKind)), (56, (vB (x155.fKind == 3))), (57, (vB (x155.fKind == 3)))] ?_
               refine i_o [56, 57] h (fun h => ?_) (fun h => ?_)
               · refine o_r2 [(58, (.ptr 0 2)), (59, (vS x155.fClass))] ?_
                 refine o_g ?_
                 refine o_o (one_sc (vs := [.string x155.fClass, .string (ByteArray.mk #[65, 78, 89])]) (str_neq x155.fClass (ByteArray.mk #[65, 78, 89]))) ?_
                 refine o_r2 [(61, (vB (!(sEqF x155.fClass (ByteArray.mk #[65, 78, 89]))))), (62, (vB (!(sEqF x155.fClass (ByteArray.mk #[65, 78, 89])))))] ?_
                 refine i_o [60, 61, 62] h (fun h => ?_) (fun h => ?_)
                 · refine o_r3 [(63, (vL Form.c a1)), (64, (.ptr 0 2)), (65, (vS x155.fClass))] ?_
                   refine bnd h fun r161 g162 h => ?_
                   refine o_g ?_
                   refine o_o (one_call (p_f52 g162)) ?_
                   refine o_r2 [(67, (vB (decide (r161 < 0)))), (68, (vB (decide (r161 < 0))))] ?_
                   refine s_tm (mkd .any 71 0 [(0, (vL Form.c a1)), (9, (.ptr 0 0)), (41, (vL Form.c a1)), (42, (vI (len a1))), (43, (vI x118)), (48, (vL Col.c x125.fCols)), (49, (vI (len x125.fCols))), (50, (vI x148)), (51, (vB true)), (52, (.iptr [(vS x155.fName), (vI x155.fKind), (vS x155.fClass)])), (53, (.agg [(vS x155.fName), (vI x155.fKind), (vS x155.fClass)])), (54, (.ptr 0 1)), (55, (vI x155.fKind)), (56, (vB true)), (57, (vB true)), (58, (.ptr 0 2)), (59, (vS x155.fClass)), (60, (vB true)), (61, (vB true)), (62, (vB true)), (63, (vL Form.c a1)), (64, (.ptr 0 2)), (65, (vS x155.fClass)), (66, (vI r161)), (67, (vB (decide (r161 < 0)))), (68, (vB (decide (r161 < 0))))]) ?_
                   exact o_end (w157 _ _ (wkm [0, 41, 42, 43, 48, 49, 50, 68] wh_nil) h)
                 · refine o_r6 [(63, (.val undef)), (64, (.val undef)), (65, (.val undef)), (66, (.val undef)), (67, (.val undef)), (68, (vB false))] ?_
                   exact o_end (w157 _ _ (wkm [0, 41, 42, 43, 48, 49, 50, 68] wh_nil) h)
               · refine o_r11 [(58, (.val undef)), (59, (.val undef)), (60, (.val undef)), (61, (vB false)), (62, (vB false)), (63, (.val undef)), (64, (.val undef)), (65, (.val undef)), (66, (.val undef)), (67, (.val undef)), (68, (vB false))] ?_
                 exact o_end (w157 _ _ (wkm [0, 41, 42, 43, 48, 49, 50, 68] wh_nil) h)
           · refine c_exit (hE129 _ ?_)
             exact w122 _ (wkm [0, 41, 42, 43] wh_nil) h
       · refine c_exit (hE69 _ ?_)
         exact w66 _ (wkm [] wh_nil) h
   · intro N8 w8
     refine s_so fun N9 k9 w9 => ?_
     refine o_r1 [(13, (vL Form.c a1))] ?_
     refine o_o (one_len (f := Form.c) (l := a1)) ?_
     refine o_r1 [(15, (vI 0))] ?_
     refine o_end (k9 _ ?_)
     refine c_block fun E11 hE11 hO11 => ?_
     refine W1 (fun (x39 : Int) => ⟨(mkd .any 71 0 [(0, (vL Form.c a1)), (13, (vL Form.c a1)), (14, (vI (len a1))), (15, (vI x39))]), []⟩) (f16_l12 a1 n (f16_k8 n a1)) h (wkm [0, 13, 14, 15] wh_nil) (by intros; rw [f16_l12.eq_1]) ?_
     intro m12 x39 h N12 w12
     rw [f16_l12.eq_2] at h
     refine s_so fun N40 k40 w40 => ?_
     refine o_r1 [(16, (vB (decide (x39 < (len a1)))))] ?_
     refine o_end (k40 _ ?_)
     refine s_seq fun N41 k41 w41 => ?_
     refine i_c [16] h (fun h => ?_) (fun h => ?_)
     · refine c_skip (k41 _ ?_)
       refine s_seq fun N43 k43 w43 => ?_
       refine c_block fun E44 hE44 hO44 => ?_
       refine s_so fun N45 k45 w45 => ?_
       refine o_r1 [(17, (vI x39))] ?_
       refine bnd h fun x46 g47 h => ?_
       refine o_o (one_ia (f := Form.c) (ki := .i64) g47) ?_
       refine o_h4 [(3, (vI x39)), (4, (.ptr 1 0)), (19, (.agg [(vS x46.fName), (vL Col.c x46.fCols)]))] [(some (.row 93 3 (List.map Col.c []))), (some (.box 91 [(vS x46.fName), (vL Col.c x46.fCols)]))] ?_
       refine o_end (k45 _ ?_)
       refine s_seq fun N48 k48 w48 => ?_
       refine c_draw0 ?_
       refine d_r2 [(20, (.ptr 1 0)), (21, (vS x46.fName))] ?_
       refine bnd h fun r49 g50 h => ?_
       refine d_o (one_call (p_f51 g50)) ?_
       refine bnd h fun r51 g52 h => ?_
       refine d_o (one_call (p_f50 g52)) ?_
       refine d_r2 [(24, (vL Form.c a1)), (25, (vI x39))] ?_
       refine bnd h fun l53 g54 h => ?_
       refine d_o (one_lsl (f := Form.c) g54 (fun _ => rfl)) ?_
       refine d_r2 [(27, (.ptr 1 0)), (28, (vS x46.fName))] ?_
       refine bnd h fun r55 g56 h => ?_
       refine d_o (one_call (p_f52 g56)) ?_
       refine d_r1 [(30, (vB (decide (r55 < 0))))] ?_
       refine t_tm (mkd .any 71 0 [(0, (vL Form.c a1)), (3, (vI x39)), (4, (.ptr 1 0)), (13, (vL Form.c a1)), (14, (vI (len a1))), (15, (vI x39)), (16, (vB true)), (17, (vI x39)), (18, (.iptr [(vS x46.fName), (vL Col.c x46.fCols)])), (19, (.agg [(vS x46.fName), (vL Col.c x46.fCols)])), (20, (.ptr 1 0)), (21, (vS x46.fName)), (22, (vB r49)), (23, (vI r51)), (24, (vL Form.c a1)), (25, (vI x39)), (26, (vL Form.c l53)), (27, (.ptr 1 0)), (28, (vS x46.fName)), (29, (vI r55)), (30, (vB (decide (r55 < 0))))]) ?_
       refine bnd h fun r57 g58 h => ?_
       refine d_o (one_call (p_f50 g58)) ?_
       refine d_r2 [(32, (.ptr 1 1)), (33, (vL Col.c x46.fCols))] ?_
       refine bnd h fun r59 g60 h => ?_
       refine d_o (one_call (p_f53 g60)) ?_
       refine d_r1 [(35, (vL cI [r51, r57, r59]))] ?_
       refine bnd h fun r61 g62 h => ?_
       refine d_o (one_call (p_f49 g62)) ?_
       refine d_r1 [(5, (vI r61))] ?_
       refine d_end (w48 _ ⟨(mkd .any 71 0 [(0, (vL Form.c a1)), (5, (vI r61)), (13, (vL Form.c a1)), (14, (vI (len a1))), (15, (vI x39))]), []⟩ (wkm [0, 5, 13, 14, 15] wh_nil) ?_)
       refine s_so fun N63 k63 w63 => ?_
       refine o_r2 [(37, (vI r61)), (38, (vB (r61 != 0)))] ?_
       refine o_end (k63 _ ?_)
       refine i_c [38] h (fun h => ?_) (fun h => ?_)
       · refine s_so fun N65 k65 w65 => ?_
         refine o_r2 [(2, (vI r61)), (39, (vI r61))] ?_
         refine o_end (k65 _ ?_)
         exact c_ret (rets [] [(vI r61)] [(vI r61)] h)
       · refine c_skip (k43 _ ?_)
         refine c_ops ?_
         refine o_r2 [(15, (vI (wr .i64 (x39 + 1)))), (40, (vI (wr .i64 (x39 + 1))))] ?_
         exact o_end (w12 _ _ (wkm [0, 13, 14, 15] wh_nil) h)
     · refine c_exit (hE11 _ ?_)
       exact w8 _ (wkm [0] wh_nil) h
theorem ic130 : fnIC Try.prog H0 130 = some ([.tmp 0], 2, (.seq (.ops [⟨(some 0), none, .nil 0 9 1⟩]) (.seq (.ops [⟨(some 1), none, .isl 1 [(.c (.string ⟨#[58, 61]⟩)), (.c (.string ⟨#[47, 61]⟩)), (.c (.string ⟨#[60, 61]⟩)), (.c (.string ⟨#[62, 61]⟩)), (.c (.string ⟨#[47, 47]⟩)), (.c (.string ⟨#[61]⟩)), (.c (.string ⟨#[60]⟩)), (.c (.string ⟨#[62]⟩)), (.c (.string ⟨#[43]⟩)), (.c (.string ⟨#[45]⟩)), (.c (.string ⟨#[42]⟩)), (.c (.string ⟨#[37]⟩)), (.c (.string ⟨#[40]⟩)), (.c (.string ⟨#[41]⟩)), (.c (.string ⟨#[91]⟩)), (.c (.string ⟨#[93]⟩)), (.c (.string ⟨#[123]⟩)), (.c (.string ⟨#[125]⟩)), (.c (.string ⟨#[44]⟩)), (.c (.string ⟨#[59]⟩)), (.c (.string ⟨#[58]⟩)), (.c (.string ⟨#[46]⟩))]⟩, ⟨(some 0), none, .mov (.t 1)⟩]) .ret))) := by kernel_rfl
def f130 (n : Nat) : Option (List ByteArray) := some [(ByteArray.mk #[58, 61]), (ByteArray.mk #[47, 61]), (ByteArray.mk #[60, 61]), (ByteArray.mk #[62, 61]), (ByteArray.mk #[47, 47]), (ByteArray.mk #[61]), (ByteArray.mk #[60]), (ByteArray.mk #[62]), (ByteArray.mk #[43]), (ByteArray.mk #[45]), (ByteArray.mk #[42]), (ByteArray.mk #[37]), (ByteArray.mk #[40]), (ByteArray.mk #[41]), (ByteArray.mk #[91]), (ByteArray.mk #[93]), (ByteArray.mk #[123]), (ByteArray.mk #[125]), (ByteArray.mk #[44]), (ByteArray.mk #[59]), (ByteArray.mk #[58]), (ByteArray.mk #[46])]
def f130_r (r : (List ByteArray)) : AV := (vL cS r)
theorem p_f130 {n : Nat} {r : (List ByteArray)} (h : f130 n = some r) : PureSpec Try.prog 130 [] (f130_r r) := by
 rw [f130.eq_1] at h
 refine pure_of hmix ic130 ?_
 refine go_to (mkd (.val undef) 2 0 []) ?_
 refine s_so fun N1 k1 w1 => ?_
 refine o_h1 [(0, (.own 0 0))] [(some (.row 9 1 (List.map cS [])))] ?_
 refine o_end (k1 _ ?_)
 refine s_so fun N2 k2 w2 => ?_
 refine o_r2 [(0, (vL cS [(ByteArray.mk #[58, 61]), (ByteArray.mk #[47, 61]), (ByteArray.mk #[60, 61]), (ByteArray.mk #[62, 61]), (ByteArray.mk #[47, 47]), (ByteArray.mk #[61]), (ByteArray.mk #[60]), (ByteArray.mk #[62]), (ByteArray.mk #[43]), (ByteArray.mk #[45]), (ByteArray.mk #[42]), (ByteArray.mk #[37]), (ByteArray.mk #[40]), (ByteArray.mk #[41]), (ByteArray.mk #[91]), (ByteArray.mk #[93]), (ByteArray.mk #[123]), (ByteArray.mk #[125]), (ByteArray.mk #[44]), (ByteArray.mk #[59]), (ByteArray.mk #[58]), (ByteArray.mk #[46])])), (1, (vL cS [(ByteArray.mk #[58, 61]), (ByteArray.mk #[47, 61]), (ByteArray.mk #[60, 61]), (ByteArray.mk #[62, 61]), (ByteArray.mk #[47, 47]), (ByteArray.mk #[61]), (ByteArray.mk #[60]), (ByteArray.mk #[62]), (ByteArray.mk #[43]), (ByteArray.mk #[45]), (ByteArray.mk #[42]), (ByteArray.mk #[37]), (ByteArray.mk #[40]), (ByteArray.mk #[41]), (ByteArray.mk #[91]), (ByteArray.mk #[93]), (ByteArray.mk #[123]), (ByteArray.mk #[125]), (ByteArray.mk #[44]), (ByteArray.mk #[59]), (ByteArray.mk #[58]), (ByteArray.mk #[46])]))] ?_
 refine o_end (k2 _ ?_)
 exact c_ret (rets [] [(vL cS [(ByteArray.mk #[58, 61]), (ByteArray.mk #[47, 61]), (ByteArray.mk #[60, 61]), (ByteArray.mk #[62, 61]), (ByteArray.mk #[47, 47]), (ByteArray.mk #[61]), (ByteArray.mk #[60]), (ByteArray.mk #[62]), (ByteArray.mk #[43]), (ByteArray.mk #[45]), (ByteArray.mk #[42]), (ByteArray.mk #[37]), (ByteArray.mk #[40]), (ByteArray.mk #[41]), (ByteArray.mk #[91]), (ByteArray.mk #[93]), (ByteArray.mk #[123]), (ByteArray.mk #[125]), (ByteArray.mk #[44]), (ByteArray.mk #[59]), (ByteArray.mk #[58]), (ByteArray.mk #[46])])] [(vL cS [(ByteArray.mk #[58, 61]), (ByteArray.mk #[47, 61]), (ByteArray.mk #[60, 61]), (ByteArray.mk #[62, 61]), (ByteArray.mk #[47, 47]), (ByteArray.mk #[61]), (ByteArray.mk #[60]), (ByteArray.mk #[62]), (ByteArray.mk #[43]), (ByteArray.mk #[45]), (ByteArray.mk #[42]), (ByteArray.mk #[37]), (ByteArray.mk #[40]), (ByteArray.mk #[41]), (ByteArray.mk #[91]), (ByteArray.mk #[93]), (ByteArray.mk #[123]), (ByteArray.mk #[125]), (ByteArray.mk #[44]), (ByteArray.mk #[59]), (ByteArray.mk #[58]), (ByteArray.mk #[46])])] h)
theorem ic129 : fnIC Try.prog H0 129 = some ([.tmp 4], 18, (.seq (.ops [⟨(some 4), none, .mov (.c (.bool false))⟩]) (.seq (.seq (.ops [⟨(some 5), none, .mov (.c (.int .i64 0))⟩]) (.block 0 (.loop (.seq (.seq (.ops [⟨(some 6), none, .mov (.t 5)⟩, ⟨(some 7), none, .mov (.t 0)⟩, ⟨(some 8), none, .len false (.t 7)⟩, ⟨(some 9), none, .sc (.bin .lss 3) [(.t 6), (.t 8)]⟩]) (.cond (.t 9)
  .skip
  (.exit 0))) (.seq (.block 1 (.seq (.ops [⟨(some 12), none, .mov (.t 0)⟩, ⟨(some 13), none, .mov (.t 5)⟩, ⟨(some 14), none, .iaddr 1 (.t 12) (.t 13)⟩, ⟨(some 15), none, .ld (.t 14) 1 false⟩, ⟨(some 16), none, .mov (.t 1)⟩, ⟨(some 17), none, .sc (.bin .eql 9) [(.t 15), (.t 16)]⟩]) (.cond (.t 17)
  (.seq (.ops [⟨(some 4), none, .mov (.c (.bool true))⟩]) .ret)
  .skip))) (.ops [⟨(some 10), none, .mov (.t 5)⟩, ⟨(some 11), none, .sc (.bin .add 3) [(.t 10), (.c (.int .i64 1))]⟩, ⟨(some 5), none, .mov (.t 11)⟩])))))) (.seq (.ops [⟨(some 4), none, .mov (.c (.bool false))⟩]) .ret)))) := by kernel_rfl
def f129_k4 : Option Bool := some false
def f129_l7 (a1 : (List ByteArray)) (a2 : ByteArray) (k4k : Option Bool) : Nat → Int → Option Bool
  | 0, _ => none
  | m7 + 1, x20 => (bif (decide (x20 < (len a1))) then ((gi a1 x20).bind fun x28 => (bif (sEqF x28 a2) then some true else (f129_l7 a1 a2 (k4k) m7 (wr .i64 (x20 + 1))))) else (k4k))
def f129 (n : Nat) (a1 : (List ByteArray)) (a2 : ByteArray) : Option Bool := (f129_l7 a1 a2 (f129_k4) n 0)
def f129_r (r : Bool) : AV := (vB r)
theorem p_f129 {n : Nat} {a1 : (List ByteArray)} {a2 : ByteArray} {r : Bool} (h : f129 n a1 a2 = some r) : PureSpec Try.prog 129 [(vL cS a1), (vS a2)] (f129_r r) := by
 rw [f129.eq_1] at h
 refine pure_of hmix ic129 ?_
 refine go_to (mkd (.val undef) 18 0 [(0, (vL cS a1)), (1, (vS a2))]) ?_
 refine s_so fun N3 k3 w3 => ?_
 refine o_r1 [(4, (vB false))] ?_
 refine o_end (k3 _ ?_)
 refine J0 (r := r) ⟨(mkd .any 18 0 []), []⟩ (f129_k4) ?_ ?_
 · intro h
   rw [f129_k4.eq_1] at h
   refine s_so fun N33 k33 w33 => ?_
   refine o_r1 [(4, (vB false))] ?_
   refine o_end (k33 _ ?_)
   exact c_ret (rets [] [(vB false)] [(vB false)] h)
 · intro N4 w4
   refine s_so fun N5 k5 w5 => ?_
   refine o_r1 [(5, (vI 0))] ?_
   refine o_end (k5 _ ?_)
   refine c_block fun E6 hE6 hO6 => ?_
   refine W1 (fun (x20 : Int) => ⟨(mkd .any 18 0 [(0, (vL cS a1)), (1, (vS a2)), (5, (vI x20))]), []⟩) (f129_l7 a1 a2 (f129_k4)) h (wkm [0, 1, 5] wh_nil) (by intros; rw [f129_l7.eq_1]) ?_
   intro m7 x20 h N7 w7
   rw [f129_l7.eq_2] at h
   refine s_seq fun N21 k21 w21 => ?_
   refine s_so fun N22 k22 w22 => ?_
   refine o_r2 [(6, (vI x20)), (7, (vL cS a1))] ?_
   refine o_o (one_len (f := cS) (l := a1)) ?_
   refine o_r1 [(9, (vB (decide (x20 < (len a1)))))] ?_
   refine o_end (k22 _ ?_)
   refine i_c [9] h (fun h => ?_) (fun h => ?_)
   · refine c_skip (k21 _ ?_)
     refine s_seq fun N25 k25 w25 => ?_
     refine c_block fun E26 hE26 hO26 => ?_
     refine s_so fun N27 k27 w27 => ?_
     refine o_r2 [(12, (vL cS a1)), (13, (vI x20))] ?_
     refine bnd h fun x28 g29 h => ?_
     refine o_o (one_ia (f := cS) (ki := .i64) g29) ?_
     refine o_r2 [(15, (vS x28)), (16, (vS a2))] ?_
     refine o_o (one_sc (vs := [.string x28, .string a2]) (str_eql x28 a2)) ?_
     refine o_end (k27 _ ?_)
     refine i_c [17] h (fun h => ?_) (fun h => ?_)
     · refine s_so fun N32 k32 w32 => ?_
       refine o_r1 [(4, (vB true))] ?_
       refine o_end (k32 _ ?_)
       exact c_ret (rets [] [(vB true)] [(vB true)] h)
     · refine c_skip (k25 _ ?_)
       refine c_ops ?_
       refine o_r3 [(5, (vI (wr .i64 (x20 + 1)))), (10, (vI x20)), (11, (vI (wr .i64 (x20 + 1))))] ?_
       exact o_end (w7 _ _ (wkm [0, 1, 5] wh_nil) h)
   · refine c_exit (hE6 _ ?_)
     exact w4 _ (wkm [] wh_nil) h
theorem ic148 : fnIC Try.prog H0 148 = some ([.tmp 2], 9, (.seq (.ops [⟨(some 2), none, .mov (.c (.bool false))⟩]) (.seq (.ops [⟨(some 3), none, .mov (.t 0)⟩, ⟨(some 4), none, .sc (.bin .geq 5) [(.t 3), (.c (.int .u8 97))]⟩, ⟨(some 5), none, .mov (.t 4)⟩, ⟨(some 6), (some (5, true)), .mov (.t 0)⟩, ⟨(some 7), (some (5, true)), .sc (.bin .leq 5) [(.t 6), (.c (.int .u8 122))]⟩, ⟨(some 8), none, .pick (.t 5) (.t 7) (.c (.bool false))⟩, ⟨(some 2), none, .mov (.t 8)⟩]) .ret))) := by kernel_rfl
def f148_k3 (x5 : Bool) : Option Bool := some x5
def f148 (n : Nat) (a1 : Int) : Option Bool := (bif (decide (a1 ≥ 97)) then (f148_k3 (decide (a1 ≤ 122))) else (f148_k3 false))
def f148_r (r : Bool) : AV := (vB r)
theorem p_f148 {n : Nat} {a1 : Int} {r : Bool} (h : f148 n a1 = some r) : PureSpec Try.prog 148 [(vKi .u8 a1)] (f148_r r) := by
 rw [f148.eq_1] at h
 refine pure_of hmix ic148 ?_
 refine go_to (mkd (.val undef) 9 0 [(0, (vKi .u8 a1))]) ?_
 refine s_so fun N2 k2 w2 => ?_
 refine o_r1 [(2, (vB false))] ?_
 refine o_end (k2 _ ?_)
 refine J1 (r := r) (fun (x5 : Bool) => ⟨(mkd .any 9 0 [(2, (vB x5))]), []⟩) (f148_k3) ?_ ?_
 · intro x5 h
   rw [f148_k3.eq_1] at h
   exact c_ret (rets [] [(vB x5)] [(vB x5)] h)
 · intro N3 w3
   refine c_ops ?_
   refine o_r3 [(3, (vKi .u8 a1)), (4, (vB (decide (a1 ≥ 97)))), (5, (vB (decide (a1 ≥ 97))))] ?_
   refine i_o [4, 5] h (fun h => ?_) (fun h => ?_)
   · refine o_r4 [(2, (vB (decide (a1 ≤ 122)))), (6, (vKi .u8 a1)), (7, (vB (decide (a1 ≤ 122)))), (8, (vB (decide (a1 ≤ 122))))] ?_
     exact o_end (w3 _ _ (wkm [2] wh_nil) h)
   · refine o_r4 [(6, (.val undef)), (7, (.val undef)), (8, (vB false))] ?_
     exact o_end (w3 _ _ (wkm [2] wh_nil) h)
theorem ic149 : fnIC Try.prog H0 149 = some ([.tmp 2], 9, (.seq (.ops [⟨(some 2), none, .mov (.c (.bool false))⟩]) (.seq (.ops [⟨(some 3), none, .mov (.t 0)⟩, ⟨(some 4), none, .sc (.bin .geq 5) [(.t 3), (.c (.int .u8 65))]⟩, ⟨(some 5), none, .mov (.t 4)⟩, ⟨(some 6), (some (5, true)), .mov (.t 0)⟩, ⟨(some 7), (some (5, true)), .sc (.bin .leq 5) [(.t 6), (.c (.int .u8 90))]⟩, ⟨(some 8), none, .pick (.t 5) (.t 7) (.c (.bool false))⟩, ⟨(some 2), none, .mov (.t 8)⟩]) .ret))) := by kernel_rfl
def f149_k3 (x5 : Bool) : Option Bool := some x5
def f149 (n : Nat) (a1 : Int) : Option Bool := (bif (decide (a1 ≥ 65)) then (f149_k3 (decide (a1 ≤ 90))) else (f149_k3 false))
def f149_r (r : Bool) : AV := (vB r)
theorem p_f149 {n : Nat} {a1 : Int} {r : Bool} (h : f149 n a1 = some r) : PureSpec Try.prog 149 [(vKi .u8 a1)] (f149_r r) := by
 rw [f149.eq_1] at h
 refine pure_of hmix ic149 ?_
 refine go_to (mkd (.val undef) 9 0 [(0, (vKi .u8 a1))]) ?_
 refine s_so fun N2 k2 w2 => ?_
 refine o_r1 [(2, (vB false))] ?_
 refine o_end (k2 _ ?_)
 refine J1 (r := r) (fun (x5 : Bool) => ⟨(mkd .any 9 0 [(2, (vB x5))]), []⟩) (f149_k3) ?_ ?_
 · intro x5 h
   rw [f149_k3.eq_1] at h
   exact c_ret (rets [] [(vB x5)] [(vB x5)] h)
 · intro N3 w3
   refine c_ops ?_
   refine o_r3 [(3, (vKi .u8 a1)), (4, (vB (decide (a1 ≥ 65)))), (5, (vB (decide (a1 ≥ 65))))] ?_
   refine i_o [4, 5] h (fun h => ?_) (fun h => ?_)
   · refine o_r4 [(2, (vB (decide (a1 ≤ 90)))), (6, (vKi .u8 a1)), (7, (vB (decide (a1 ≤ 90)))), (8, (vB (decide (a1 ≤ 90))))] ?_
     exact o_end (w3 _ _ (wkm [2] wh_nil) h)
   · refine o_r4 [(6, (.val undef)), (7, (.val undef)), (8, (vB false))] ?_
     exact o_end (w3 _ _ (wkm [2] wh_nil) h)
theorem ic132 : fnIC Try.prog H0 132 = some ([.tmp 2], 9, (.seq (.ops [⟨(some 2), none, .mov (.c (.bool false))⟩]) (.seq (.ops [⟨(some 3), none, .mov (.t 0)⟩, ⟨(some 4), none, .sc (.bin .geq 5) [(.t 3), (.c (.int .u8 48))]⟩, ⟨(some 5), none, .mov (.t 4)⟩, ⟨(some 6), (some (5, true)), .mov (.t 0)⟩, ⟨(some 7), (some (5, true)), .sc (.bin .leq 5) [(.t 6), (.c (.int .u8 57))]⟩, ⟨(some 8), none, .pick (.t 5) (.t 7) (.c (.bool false))⟩, ⟨(some 2), none, .mov (.t 8)⟩]) .ret))) := by kernel_rfl
def f132_k3 (x5 : Bool) : Option Bool := some x5
def f132 (n : Nat) (a1 : Int) : Option Bool := (bif (decide (a1 ≥ 48)) then (f132_k3 (decide (a1 ≤ 57))) else (f132_k3 false))
def f132_r (r : Bool) : AV := (vB r)
theorem p_f132 {n : Nat} {a1 : Int} {r : Bool} (h : f132 n a1 = some r) : PureSpec Try.prog 132 [(vKi .u8 a1)] (f132_r r) := by
 rw [f132.eq_1] at h
 refine pure_of hmix ic132 ?_
 refine go_to (mkd (.val undef) 9 0 [(0, (vKi .u8 a1))]) ?_
 refine s_so fun N2 k2 w2 => ?_
 refine o_r1 [(2, (vB false))] ?_
 refine o_end (k2 _ ?_)
 refine J1 (r := r) (fun (x5 : Bool) => ⟨(mkd .any 9 0 [(2, (vB x5))]), []⟩) (f132_k3) ?_ ?_
 · intro x5 h
   rw [f132_k3.eq_1] at h
   exact c_ret (rets [] [(vB x5)] [(vB x5)] h)
 · intro N3 w3
   refine c_ops ?_
   refine o_r3 [(3, (vKi .u8 a1)), (4, (vB (decide (a1 ≥ 48)))), (5, (vB (decide (a1 ≥ 48))))] ?_
   refine i_o [4, 5] h (fun h => ?_) (fun h => ?_)
   · refine o_r4 [(2, (vB (decide (a1 ≤ 57)))), (6, (vKi .u8 a1)), (7, (vB (decide (a1 ≤ 57)))), (8, (vB (decide (a1 ≤ 57))))] ?_
     exact o_end (w3 _ _ (wkm [2] wh_nil) h)
   · refine o_r4 [(6, (.val undef)), (7, (.val undef)), (8, (vB false))] ?_
     exact o_end (w3 _ _ (wkm [2] wh_nil) h)
theorem ic146 : fnIC Try.prog H0 146 = some ([.tmp 2], 17, (.seq (.ops [⟨(some 2), none, .mov (.c (.bool false))⟩]) (.seq (.ops [⟨(some 3), none, .mov (.t 0)⟩, ⟨(some 4), none, .call 148 [(.t 3)]⟩, ⟨(some 5), none, .mov (.t 4)⟩, ⟨(some 6), (some (5, false)), .mov (.t 0)⟩, ⟨(some 7), (some (5, false)), .call 149 [(.t 6)]⟩, ⟨(some 8), none, .pick (.t 5) (.c (.bool true)) (.t 7)⟩, ⟨(some 9), none, .mov (.t 8)⟩, ⟨(some 10), (some (9, false)), .mov (.t 0)⟩, ⟨(some 11), (some (9, false)), .call 132 [(.t 10)]⟩, ⟨(some 12), none, .pick (.t 9) (.c (.bool true)) (.t 11)⟩, ⟨(some 13), none, .mov (.t 12)⟩, ⟨(some 14), (some (13, false)), .mov (.t 0)⟩, ⟨(some 15), (some (13, false)), .sc (.bin .eql 5) [(.t 14), (.c (.int .u8 95))]⟩, ⟨(some 16), none, .pick (.t 13) (.c (.bool true)) (.t 15)⟩, ⟨(some 2), none, .mov (.t 16)⟩]) .ret))) := by kernel_rfl
def f146_k3 (x13 : Bool) : Option Bool := some x13
def f146 (n : Nat) (a1 : Int) : Option Bool := ((f148 n a1).bind fun r4 => (bif r4 then (f146_k3 true) else ((f149 n a1).bind fun r7 => (bif r7 then (f146_k3 true) else ((f132 n a1).bind fun r10 => (bif r10 then (f146_k3 true) else (f146_k3 (a1 == 95))))))))
def f146_r (r : Bool) : AV := (vB r)
theorem p_f146 {n : Nat} {a1 : Int} {r : Bool} (h : f146 n a1 = some r) : PureSpec Try.prog 146 [(vKi .u8 a1)] (f146_r r) := by
 rw [f146.eq_1] at h
 refine pure_of hmix ic146 ?_
 refine go_to (mkd (.val undef) 17 0 [(0, (vKi .u8 a1))]) ?_
 refine s_so fun N2 k2 w2 => ?_
 refine o_r1 [(2, (vB false))] ?_
 refine o_end (k2 _ ?_)
 refine J1 (r := r) (fun (x13 : Bool) => ⟨(mkd .any 17 0 [(2, (vB x13))]), []⟩) (f146_k3) ?_ ?_
 · intro x13 h
   rw [f146_k3.eq_1] at h
   exact c_ret (rets [] [(vB x13)] [(vB x13)] h)
 · intro N3 w3
   refine c_ops ?_
   refine o_r1 [(3, (vKi .u8 a1))] ?_
   refine bnd h fun r4 g5 h => ?_
   refine o_o (one_call (p_f148 g5)) ?_
   refine o_r1 [(5, (vB r4))] ?_
   refine i_o [4, 5] h (fun h => ?_) (fun h => ?_)
   · refine o_r12 [(2, (vB true)), (6, (.val undef)), (7, (.val undef)), (8, (vB true)), (9, (vB true)), (10, (.val undef)), (11, (.val undef)), (12, (vB true)), (13, (vB true)), (14, (.val undef)), (15, (.val undef)), (16, (vB true))] ?_
     exact o_end (w3 _ _ (wkm [2] wh_nil) h)
   · refine o_r1 [(6, (vKi .u8 a1))] ?_
     refine bnd h fun r7 g8 h => ?_
     refine o_g ?_
     refine o_o (one_call (p_f149 g8)) ?_
     refine o_r2 [(8, (vB r7)), (9, (vB r7))] ?_
     refine i_o [7, 8, 9] h (fun h => ?_) (fun h => ?_)
     · refine o_r8 [(2, (vB true)), (10, (.val undef)), (11, (.val undef)), (12, (vB true)), (13, (vB true)), (14, (.val undef)), (15, (.val undef)), (16, (vB true))] ?_
       exact o_end (w3 _ _ (wkm [2] wh_nil) h)
     · refine o_r1 [(10, (vKi .u8 a1))] ?_
       refine bnd h fun r10 g11 h => ?_
       refine o_g ?_
       refine o_o (one_call (p_f132 g11)) ?_
       refine o_r2 [(12, (vB r10)), (13, (vB r10))] ?_
       refine s_tm (mkd (.val undef) 17 0 [(0, (vKi .u8 a1)), (2, (vB false)), (3, (vKi .u8 a1)), (4, (vB false)), (5, (vB false)), (6, (vKi .u8 a1)), (7, (vB false)), (8, (vB false)), (9, (vB false)), (10, (vKi .u8 a1)), (11, (vB r10)), (12, (vB r10)), (13, (vB r10))]) ?_
       refine i_o [11, 12, 13] h (fun h => ?_) (fun h => ?_)
       · refine o_r4 [(2, (vB true)), (14, (.val undef)), (15, (.val undef)), (16, (vB true))] ?_
         exact o_end (w3 _ _ (wkm [2] wh_nil) h)
       · refine o_r4 [(2, (vB (a1 == 95))), (14, (vKi .u8 a1)), (15, (vB (a1 == 95))), (16, (vB (a1 == 95)))] ?_
         exact o_end (w3 _ _ (wkm [2] wh_nil) h)
theorem ic131 : fnIC Try.prog H0 131 = some ([.tmp 4], 23, (.seq (.ops [⟨(some 4), none, .mov (.c (.int .i64 0))⟩]) (.seq (.ops [⟨(some 5), none, .mov (.c (.int .i64 0))⟩]) (.seq (.block 0 (.loop (.seq (.seq (.ops [⟨(some 6), none, .mov (.t 1)⟩, ⟨(some 7), none, .mov (.t 5)⟩, ⟨(some 8), none, .sc (.bin .add 3) [(.t 6), (.t 7)]⟩, ⟨(some 9), none, .mov (.t 0)⟩, ⟨(some 10), none, .len true (.t 9)⟩, ⟨(some 11), none, .sc (.bin .lss 3) [(.t 8), (.t 10)]⟩, ⟨(some 12), none, .mov (.t 11)⟩, ⟨(some 13), (some (12, true)), .mov (.t 0)⟩, ⟨(some 14), (some (12, true)), .mov (.t 1)⟩, ⟨(some 15), (some (12, true)), .mov (.t 5)⟩, ⟨(some 16), (some (12, true)), .sc (.bin .add 3) [(.t 14), (.t 15)]⟩, ⟨(some 17), (some (12, true)), .sc (.idx 9) [(.t 13), (.t 16)]⟩, ⟨(some 18), (some (12, true)), .call 146 [(.t 17)]⟩, ⟨(some 19), none, .pick (.t 12) (.t 18) (.c (.bool false))⟩]) (.cond (.t 19)
  .skip
  (.exit 0))) (.block 1 (.ops [⟨(some 20), none, .mov (.t 5)⟩, ⟨(some 21), none, .sc (.bin .add 3) [(.t 20), (.c (.int .i64 1))]⟩, ⟨(some 5), none, .mov (.t 21)⟩]))))) (.seq (.ops [⟨(some 22), none, .mov (.t 5)⟩, ⟨(some 4), none, .mov (.t 22)⟩]) .ret))))) := by kernel_rfl
def f131_k5 (x29 : Int) : Option Int := some x29
def f131_k20 (x18 : Int) (c7k : Int → Option Int) (k5k : Int → Option Int) (x26 : Bool) : Option Int := (bif x26 then (c7k (wr .i64 (x18 + 1))) else (k5k x18))
def f131_l7 (a2 : Int) (a1 : ByteArray) (n : Nat) (k5k : Int → Option Int) : Nat → Int → Option Int
  | 0, _ => none
  | m7 + 1, x18 => (bif (decide ((wr .i64 (a2 + x18)) < (bsz a1))) then ((si a1 (wr .i64 (a2 + x18))).bind fun c22 => ((f146 n c22).bind fun r24 => (f131_k20 x18 (f131_l7 a2 a1 n (k5k) m7) (k5k) r24))) else (f131_k20 x18 (f131_l7 a2 a1 n (k5k) m7) (k5k) false))
def f131 (n : Nat) (a1 : ByteArray) (a2 : Int) : Option Int := (f131_l7 a2 a1 n (f131_k5) n 0)
def f131_r (r : Int) : AV := (vI r)
theorem p_f131 {n : Nat} {a1 : ByteArray} {a2 : Int} {r : Int} (h : f131 n a1 a2 = some r) : PureSpec Try.prog 131 [(vS a1), (vI a2)] (f131_r r) := by
 rw [f131.eq_1] at h
 refine pure_of hmix ic131 ?_
 refine go_to (mkd (.val undef) 23 0 [(0, (vS a1)), (1, (vI a2))]) ?_
 refine s_so fun N3 k3 w3 => ?_
 refine o_r1 [(4, (vI 0))] ?_
 refine o_end (k3 _ ?_)
 refine s_so fun N4 k4 w4 => ?_
 refine o_r1 [(5, (vI 0))] ?_
 refine o_end (k4 _ ?_)
 refine J1 (r := r) (fun (x29 : Int) => ⟨(mkd .any 23 0 [(5, (vI x29))]), []⟩) (f131_k5) ?_ ?_
 · intro x29 h
   rw [f131_k5.eq_1] at h
   refine s_so fun N30 k30 w30 => ?_
   refine o_r2 [(4, (vI x29)), (22, (vI x29))] ?_
   refine o_end (k30 _ ?_)
   exact c_ret (rets [] [(vI x29)] [(vI x29)] h)
 · intro N5 w5
   refine c_block fun E6 hE6 hO6 => ?_
   refine W1 (fun (x18 : Int) => ⟨(mkd .any 23 0 [(0, (vS a1)), (1, (vI a2)), (5, (vI x18))]), []⟩) (f131_l7 a2 a1 n (f131_k5)) h (wkm [0, 1, 5] wh_nil) (by intros; rw [f131_l7.eq_1]) ?_
   intro m7 x18 h N7 w7
   rw [f131_l7.eq_2] at h
   refine s_seq fun N19 k19 w19 => ?_
   refine J1 (r := r) (fun (x26 : Bool) => ⟨(mkd .any 23 0 [(0, (vS a1)), (1, (vI a2)), (5, (vI x18)), (19, (vB x26))]), []⟩) (f131_k20 x18 (f131_l7 a2 a1 n (f131_k5) m7) (f131_k5)) ?_ ?_
   · intro x26 h
     rw [f131_k20.eq_1] at h
     refine i_c [19] h (fun h => ?_) (fun h => ?_)
     · refine c_skip (k19 _ ?_)
       refine c_block fun E28 hE28 hO28 => ?_
       refine c_ops ?_
       refine o_r3 [(5, (vI (wr .i64 (x18 + 1)))), (20, (vI x18)), (21, (vI (wr .i64 (x18 + 1))))] ?_
       exact o_end (w7 _ _ (wkm [0, 1, 5] wh_nil) h)
     · refine c_exit (hE6 _ ?_)
       exact w5 _ _ (wkm [5] wh_nil) h
   · intro N20 w20
     refine c_ops ?_
     refine o_r7 [(6, (vI a2)), (7, (vI x18)), (8, (vI (wr .i64 (a2 + x18)))), (9, (vS a1)), (10, (vI (bsz a1))), (11, (vB (decide ((wr .i64 (a2 + x18)) < (bsz a1))))), (12, (vB (decide ((wr .i64 (a2 + x18)) < (bsz a1)))))] ?_
     refine i_o [11, 12] h (fun h => ?_) (fun h => ?_)
     · refine o_r4 [(13, (vS a1)), (14, (vI a2)), (15, (vI x18)), (16, (vI (wr .i64 (a2 + x18))))] ?_
       refine bnd h fun c22 g23 h => ?_
       refine o_g ?_
       refine o_o (one_idx (ki := .i64) g23) ?_
       refine bnd h fun r24 g25 h => ?_
       refine o_g ?_
       refine o_o (one_call (p_f146 g25)) ?_
       refine o_r1 [(19, (vB r24))] ?_
       exact o_end (w20 _ _ (wkm [0, 1, 5, 19] wh_nil) h)
     · refine o_r7 [(13, (.val undef)), (14, (.val undef)), (15, (.val undef)), (16, (.val undef)), (17, (.val undef)), (18, (.val undef)), (19, (vB false))] ?_
       exact o_end (w20 _ _ (wkm [0, 1, 5, 19] wh_nil) h)
theorem ic133 : fnIC Try.prog H0 133 = some ([.cell 2 186], 46, (.seq (.ops [⟨(some 2), none, .alloc 0 186 [] [(.int .i64 0), (.int .i64 0)]⟩]) (.seq (.seq (.ops [⟨(some 3), none, .mov (.c (.int .i64 0))⟩]) (.block 0 (.loop (.seq (.seq (.ops [⟨(some 6), none, .mov (.t 3)⟩, ⟨(some 7), none, .mov (.t 0)⟩, ⟨(some 8), none, .len true (.t 7)⟩, ⟨(some 9), none, .sc (.bin .lss 3) [(.t 6), (.t 8)]⟩]) (.cond (.t 9)
  .skip
  (.exit 0))) (.seq (.block 1 (.seq (.ops [⟨(some 12), none, .mov (.t 0)⟩, ⟨(some 13), none, .mov (.t 3)⟩, ⟨(some 14), none, .sc (.idx 9) [(.t 12), (.t 13)]⟩, ⟨(some 15), none, .call 132 [(.t 14)]⟩, ⟨(some 16), none, .sc (.un .not) [(.t 15)]⟩]) (.cond (.t 16)
  (.seq (.ops [⟨(some 17), none, .bld [(.int .i64 0), (.int .i64 0)] [(1, 1, (.c (.int .i64 2)))]⟩, ⟨none, none, .st true 2 [] (.t 2) (.t 17)⟩]) .ret)
  .skip))) (.ops [⟨(some 10), none, .mov (.t 3)⟩, ⟨(some 11), none, .sc (.bin .add 3) [(.t 10), (.c (.int .i64 1))]⟩, ⟨(some 3), none, .mov (.t 11)⟩])))))) (.seq (.seq (.ops [⟨(some 18), none, .mov (.t 0)⟩, ⟨(some 19), none, .sc (.idx 9) [(.t 18), (.c (.int .i64 0))]⟩, ⟨(some 20), none, .sc (.bin .eql 5) [(.t 19), (.c (.int .u8 48))]⟩, ⟨(some 21), none, .mov (.t 20)⟩, ⟨(some 22), (some (21, true)), .mov (.t 0)⟩, ⟨(some 23), (some (21, true)), .len true (.t 22)⟩, ⟨(some 24), (some (21, true)), .sc (.bin .gtr 3) [(.t 23), (.c (.int .i64 1))]⟩, ⟨(some 25), none, .pick (.t 21) (.t 24) (.c (.bool false))⟩]) (.cond (.t 25)
  (.seq (.ops [⟨(some 26), none, .bld [(.int .i64 0), (.int .i64 0)] [(1, 1, (.c (.int .i64 2)))]⟩, ⟨none, none, .st true 2 [] (.t 2) (.t 26)⟩]) .ret)
  .skip)) (.seq (.ops [⟨(some 4), none, .mov (.c (.int .i64 0))⟩]) (.seq (.seq (.ops [⟨(some 5), none, .mov (.c (.int .i64 0))⟩]) (.block 2 (.loop (.seq (.seq (.ops [⟨(some 27), none, .mov (.t 5)⟩, ⟨(some 28), none, .mov (.t 0)⟩, ⟨(some 29), none, .len true (.t 28)⟩, ⟨(some 30), none, .sc (.bin .lss 3) [(.t 27), (.t 29)]⟩]) (.cond (.t 30)
  .skip
  (.exit 2))) (.seq (.block 3 (.seq (.ops [⟨(some 33), none, .mov (.t 4)⟩, ⟨(some 34), none, .sc (.bin .mul 3) [(.c (.int .i64 10)), (.t 33)]⟩, ⟨(some 35), none, .mov (.t 0)⟩, ⟨(some 36), none, .mov (.t 5)⟩, ⟨(some 37), none, .sc (.idx 9) [(.t 35), (.t 36)]⟩, ⟨(some 38), none, .sc (.conv 5 3) [(.t 37)]⟩, ⟨(some 39), none, .sc (.bin .add 3) [(.t 34), (.t 38)]⟩, ⟨(some 40), none, .sc (.bin .sub 3) [(.t 39), (.c (.int .i64 48))]⟩, ⟨(some 4), none, .mov (.t 40)⟩]) (.seq (.ops [⟨(some 41), none, .mov (.t 4)⟩, ⟨(some 42), none, .sc (.bin .gtr 3) [(.t 41), (.c (.int .i64 1099511627776))]⟩]) (.cond (.t 42)
  (.seq (.ops [⟨(some 43), none, .bld [(.int .i64 0), (.int .i64 0)] [(1, 1, (.c (.int .i64 3)))]⟩, ⟨none, none, .st true 2 [] (.t 2) (.t 43)⟩]) .ret)
  .skip)))) (.ops [⟨(some 31), none, .mov (.t 5)⟩, ⟨(some 32), none, .sc (.bin .add 3) [(.t 31), (.c (.int .i64 1))]⟩, ⟨(some 5), none, .mov (.t 32)⟩])))))) (.seq (.ops [⟨(some 44), none, .mov (.t 4)⟩, ⟨(some 45), none, .bld [(.int .i64 0), (.int .i64 0)] [(0, 1, (.t 44))]⟩, ⟨none, none, .st true 2 [] (.t 2) (.t 45)⟩]) .ret))))))) := by kernel_rfl
def f133_k41 (x69 : Int) : Option NE := some (NE.mk x69 0)
def f133_l44 (a1 : ByteArray) (k41k : Int → Option NE) : Nat → Int → Int → Option NE
  | 0, _, _ => none
  | m44 + 1, x56, x57 => (bif (decide (x57 < (bsz a1))) then ((si a1 x57).bind fun c64 => (bif (decide ((wr .i64 ((wr .i64 ((wr .i64 (10 * x56)) + (wr .i64 c64))) - 48)) > 1099511627776)) then some (NE.mk 0 3) else (f133_l44 a1 (k41k) m44 (wr .i64 ((wr .i64 ((wr .i64 (10 * x56)) + (wr .i64 c64))) - 48)) (wr .i64 (x57 + 1))))) else (k41k x56))
def f133_k33 (n : Nat) (a1 : ByteArray) (x37 : Bool) : Option NE := (bif x37 then some (NE.mk 0 2) else (f133_l44 a1 (f133_k41) n 0 0))
def f133_k3 (a1 : ByteArray) (n : Nat) : Option NE := ((si a1 0).bind fun c34 => (bif (c34 == 48) then (f133_k33 n a1 (decide ((bsz a1) > 1))) else (f133_k33 n a1 false)))
def f133_l6 (a1 : ByteArray) (n : Nat) (k3k : Option NE) : Nat → Int → Option NE
  | 0, _ => none
  | m6 + 1, x19 => (bif (decide (x19 < (bsz a1))) then ((si a1 x19).bind fun c26 => ((f132 n c26).bind fun r28 => (bif (!r28) then some (NE.mk 0 2) else (f133_l6 a1 n (k3k) m6 (wr .i64 (x19 + 1)))))) else (k3k))
def f133 (n : Nat) (a1 : ByteArray) : Option NE := (f133_l6 a1 n (f133_k3 a1 n) n 0)
def f133_r (r : NE) : AV := (.agg [(vI r.fN), (vI r.fE)])
theorem p_f133 {n : Nat} {a1 : ByteArray} {r : NE} (h : f133 n a1 = some r) : PureSpec Try.prog 133 [(vS a1)] (f133_r r) := by
 rw [f133.eq_1] at h
 refine pure_of hmix ic133 ?_
 refine go_to (mkd (.val undef) 46 0 [(0, (vS a1))]) ?_
 refine s_so fun N2 k2 w2 => ?_
 refine o_h1 [(2, (.ptr 0 0))] [(some (.box 186 [(vI 0), (vI 0)]))] ?_
 refine o_end (k2 _ ?_)
 refine J0 (r := r) ⟨(mkd .any 46 0 [(0, (vS a1)), (2, (.ptr 0 0))]), [(some (.box 186 [(vI 0), (vI 0)]))]⟩ (f133_k3 a1 n) ?_ ?_
 · intro h
   rw [f133_k3.eq_1] at h
   refine s_seq fun N32 k32 w32 => ?_
   refine J1 (r := r) (fun (x37 : Bool) => ⟨(mkd .any 46 0 [(0, (vS a1)), (2, (.ptr 0 0)), (25, (vB x37))]), [(some (.box 186 [(vI 0), (vI 0)]))]⟩) (f133_k33 n a1) ?_ ?_
   · intro x37 h
     rw [f133_k33.eq_1] at h
     refine i_c [25] h (fun h => ?_) (fun h => ?_)
     · refine s_so fun N39 k39 w39 => ?_
       refine o_h2 [(26, (.agg [(vI 0), (vI 2)]))] [(some (.box 186 [(vI 0), (vI 2)]))] ?_
       refine o_end (k39 _ ?_)
       exact c_ret (rets [] [(.agg [(vI 0), (vI 2)])] [(.agg [(vI 0), (vI 2)])] h)
     · refine c_skip (k32 _ ?_)
       refine s_so fun N40 k40 w40 => ?_
       refine o_r1 [(4, (vI 0))] ?_
       refine o_end (k40 _ ?_)
       refine J1 (r := r) (fun (x69 : Int) => ⟨(mkd .any 46 0 [(2, (.ptr 0 0)), (4, (vI x69))]), [(some (.box 186 [(vI 0), (vI 0)]))]⟩) (f133_k41) ?_ ?_
       · intro x69 h
         rw [f133_k41.eq_1] at h
         refine s_so fun N70 k70 w70 => ?_
         refine o_h3 [(44, (vI x69)), (45, (.agg [(vI x69), (vI 0)]))] [(some (.box 186 [(vI x69), (vI 0)]))] ?_
         refine o_end (k70 _ ?_)
         exact c_ret (rets [] [(.agg [(vI x69), (vI 0)])] [(.agg [(vI x69), (vI 0)])] h)
       · intro N41 w41
         refine s_so fun N42 k42 w42 => ?_
         refine o_r1 [(5, (vI 0))] ?_
         refine o_end (k42 _ ?_)
         refine c_block fun E43 hE43 hO43 => ?_
         refine W2 (fun (x56 : Int) (x57 : Int) => ⟨(mkd .any 46 0 [(0, (vS a1)), (2, (.ptr 0 0)), (4, (vI x56)), (5, (vI x57))]), [(some (.box 186 [(vI 0), (vI 0)]))]⟩) (f133_l44 a1 (f133_k41)) h (wkm [0, 2, 4, 5] (whk wh_nil)) (by intros; rw [f133_l44.eq_1]) ?_
         intro m44 x56 x57 h N44 w44
         rw [f133_l44.eq_2] at h
         refine s_seq fun N58 k58 w58 => ?_
         refine s_so fun N59 k59 w59 => ?_
         refine o_r4 [(27, (vI x57)), (28, (vS a1)), (29, (vI (bsz a1))), (30, (vB (decide (x57 < (bsz a1)))))] ?_
         refine o_end (k59 _ ?_)
         refine i_c [30] h (fun h => ?_) (fun h => ?_)
         · refine c_skip (k58 _ ?_)
           refine s_seq fun N61 k61 w61 => ?_
           refine c_block fun E62 hE62 hO62 => ?_
           refine s_so fun N63 k63 w63 => ?_
           refine o_r4 [(33, (vI x56)), (34, (vI (wr .i64 (10 * x56)))), (35, (vS a1)), (36, (vI x57))] ?_
           refine bnd h fun c64 g65 h => ?_
           refine o_o (one_idx (ki := .i64) g65) ?_
           refine o_r4 [(4, (vI (wr .i64 ((wr .i64 ((wr .i64 (10 * x56)) + (wr .i64 c64))) - 48)))), (38, (vI (wr .i64 c64))), (39, (vI (wr .i64 ((wr .i64 (10 * x56)) + (wr .i64 c64))))), (40, (vI (wr .i64 ((wr .i64 ((wr .i64 (10 * x56)) + (wr .i64 c64))) - 48))))] ?_
           refine o_end (k63 _ ?_)
           refine s_so fun N66 k66 w66 => ?_
           refine o_r2 [(41, (vI (wr .i64 ((wr .i64 ((wr .i64 (10 * x56)) + (wr .i64 c64))) - 48)))), (42, (vB (decide ((wr .i64 ((wr .i64 ((wr .i64 (10 * x56)) + (wr .i64 c64))) - 48)) > 1099511627776))))] ?_
           refine o_end (k66 _ ?_)
           refine i_c [42] h (fun h => ?_) (fun h => ?_)
           · refine s_so fun N68 k68 w68 => ?_
             refine o_h2 [(43, (.agg [(vI 0), (vI 3)]))] [(some (.box 186 [(vI 0), (vI 3)]))] ?_
             refine o_end (w68 _ ⟨(mkd .any 46 0 [(2, (.ptr 0 0))]), [(some (.box 186 [(vI 0), (vI 3)]))]⟩ (wkm [2] (whk wh_nil)) ?_)
             exact c_ret (rets [] [(.agg [(vI 0), (vI 3)])] [(.agg [(vI 0), (vI 3)])] h)
           · refine c_skip (k61 _ ?_)
             refine c_ops ?_
             refine o_r3 [(5, (vI (wr .i64 (x57 + 1)))), (31, (vI x57)), (32, (vI (wr .i64 (x57 + 1))))] ?_
             exact o_end (w44 _ _ _ (wkm [0, 2, 4, 5] (whk wh_nil)) h)
         · refine c_exit (hE43 _ ?_)
           exact w41 _ _ (wkm [2, 4] (whk wh_nil)) h
   · intro N33 w33
     refine c_ops ?_
     refine o_r1 [(18, (vS a1))] ?_
     refine bnd h fun c34 g35 h => ?_
     refine o_o (one_idx (ki := .i64) g35) ?_
     refine o_r2 [(20, (vB (c34 == 48))), (21, (vB (c34 == 48)))] ?_
     refine i_o [20, 21] h (fun h => ?_) (fun h => ?_)
     · refine o_r4 [(22, (vS a1)), (23, (vI (bsz a1))), (24, (vB (decide ((bsz a1) > 1)))), (25, (vB (decide ((bsz a1) > 1))))] ?_
       exact o_end (w33 _ _ (wkm [0, 2, 25] (whk wh_nil)) h)
     · refine o_r4 [(22, (.val undef)), (23, (.val undef)), (24, (.val undef)), (25, (vB false))] ?_
       exact o_end (w33 _ _ (wkm [0, 2, 25] (whk wh_nil)) h)
 · intro N3 w3
   refine s_so fun N4 k4 w4 => ?_
   refine o_r1 [(3, (vI 0))] ?_
   refine o_end (k4 _ ?_)
   refine c_block fun E5 hE5 hO5 => ?_
   refine W1 (fun (x19 : Int) => ⟨(mkd .any 46 0 [(0, (vS a1)), (2, (.ptr 0 0)), (3, (vI x19))]), [(some (.box 186 [(vI 0), (vI 0)]))]⟩) (f133_l6 a1 n (f133_k3 a1 n)) h (wkm [0, 2, 3] (whk wh_nil)) (by intros; rw [f133_l6.eq_1]) ?_
   intro m6 x19 h N6 w6
   rw [f133_l6.eq_2] at h
   refine s_seq fun N20 k20 w20 => ?_
   refine s_so fun N21 k21 w21 => ?_
   refine o_r4 [(6, (vI x19)), (7, (vS a1)), (8, (vI (bsz a1))), (9, (vB (decide (x19 < (bsz a1)))))] ?_
   refine o_end (k21 _ ?_)
   refine i_c [9] h (fun h => ?_) (fun h => ?_)
   · refine c_skip (k20 _ ?_)
     refine s_seq fun N23 k23 w23 => ?_
     refine c_block fun E24 hE24 hO24 => ?_
     refine s_so fun N25 k25 w25 => ?_
     refine o_r2 [(12, (vS a1)), (13, (vI x19))] ?_
     refine bnd h fun c26 g27 h => ?_
     refine o_o (one_idx (ki := .i64) g27) ?_
     refine bnd h fun r28 g29 h => ?_
     refine o_o (one_call (p_f132 g29)) ?_
     refine o_r1 [(16, (vB (!r28)))] ?_
     refine o_end (k25 _ ?_)
     refine i_c [16] h (fun h => ?_) (fun h => ?_)
     · refine s_so fun N31 k31 w31 => ?_
       refine o_h2 [(17, (.agg [(vI 0), (vI 2)]))] [(some (.box 186 [(vI 0), (vI 2)]))] ?_
       refine o_end (k31 _ ?_)
       exact c_ret (rets [] [(.agg [(vI 0), (vI 2)])] [(.agg [(vI 0), (vI 2)])] h)
     · refine c_skip (k23 _ ?_)
       refine c_ops ?_
       refine o_r3 [(3, (vI (wr .i64 (x19 + 1)))), (10, (vI x19)), (11, (vI (wr .i64 (x19 + 1))))] ?_
       exact o_end (w6 _ _ (wkm [0, 2, 3] (whk wh_nil)) h)
   · refine c_exit (hE5 _ ?_)
     exact w3 _ (wkm [0, 2] (whk wh_nil)) h
theorem ic147 : fnIC Try.prog H0 147 = some ([.tmp 0], 2, (.seq (.ops [⟨(some 0), none, .nil 0 9 1⟩]) (.seq (.ops [⟨(some 1), none, .isl 1 [(.c (.string ⟨#[97, 110, 100]⟩)), (.c (.string ⟨#[97, 115]⟩)), (.c (.string ⟨#[97, 116, 116, 97, 99, 104, 101, 100]⟩)), (.c (.string ⟨#[99, 104, 101, 99, 107]⟩)), (.c (.string ⟨#[99, 108, 97, 115, 115]⟩)), (.c (.string ⟨#[99, 114, 101, 97, 116, 101]⟩)), (.c (.string ⟨#[100, 101, 102, 101, 114, 114, 101, 100]⟩)), (.c (.string ⟨#[100, 101, 116, 97, 99, 104, 97, 98, 108, 101]⟩)), (.c (.string ⟨#[100, 111]⟩)), (.c (.string ⟨#[101, 108, 115, 101]⟩)), (.c (.string ⟨#[101, 110, 100]⟩)), (.c (.string ⟨#[101, 110, 115, 117, 114, 101]⟩)), (.c (.string ⟨#[102, 101, 97, 116, 117, 114, 101]⟩)), (.c (.string ⟨#[102, 114, 111, 109]⟩)), (.c (.string ⟨#[105, 102]⟩)), (.c (.string ⟨#[105, 109, 112, 108, 105, 101, 115]⟩)), (.c (.string ⟨#[105, 110, 104, 101, 114, 105, 116]⟩)), (.c (.string ⟨#[105, 110, 118, 97, 114, 105, 97, 110, 116]⟩)), (.c (.string ⟨#[108, 111, 99, 97, 108]⟩)), (.c (.string ⟨#[108, 111, 111, 112]⟩)), (.c (.string ⟨#[110, 111, 116]⟩)), (.c (.string ⟨#[111, 108, 100]⟩)), (.c (.string ⟨#[111, 114]⟩)), (.c (.string ⟨#[112, 117, 116]⟩)), (.c (.string ⟨#[114, 97, 105, 115, 101]⟩)), (.c (.string ⟨#[114, 101, 100, 101, 102, 105, 110, 101]⟩)), (.c (.string ⟨#[114, 101, 110, 97, 109, 101]⟩)), (.c (.string ⟨#[114, 101, 113, 117, 105, 114, 101]⟩)), (.c (.string ⟨#[114, 101, 115, 99, 117, 101]⟩)), (.c (.string ⟨#[114, 101, 116, 114, 121]⟩)), (.c (.string ⟨#[115, 101, 108, 101, 99, 116]⟩)), (.c (.string ⟨#[115, 101, 112, 97, 114, 97, 116, 101]⟩)), (.c (.string ⟨#[116, 104, 101, 110]⟩)), (.c (.string ⟨#[117, 110, 100, 101, 102, 105, 110, 101]⟩)), (.c (.string ⟨#[117, 110, 116, 105, 108]⟩)), (.c (.string ⟨#[118, 97, 114, 105, 97, 110, 116]⟩)), (.c (.string ⟨#[119, 104, 101, 110]⟩))]⟩, ⟨(some 0), none, .mov (.t 1)⟩]) .ret))) := by kernel_rfl
def f147 (n : Nat) : Option (List ByteArray) := some [(ByteArray.mk #[97, 110, 100]), (ByteArray.mk #[97, 115]), (ByteArray.mk #[97, 116, 116, 97, 99, 104, 101, 100]), (ByteArray.mk #[99, 104, 101, 99, 107]), (ByteArray.mk #[99, 108, 97, 115, 115]), (ByteArray.mk #[99, 114, 101, 97, 116, 101]), (ByteArray.mk #[100, 101, 102, 101, 114, 114, 101, 100]), (ByteArray.mk #[100, 101, 116, 97, 99, 104, 97, 98, 108, 101]), (ByteArray.mk #[100, 111]), (ByteArray.mk #[101, 108, 115, 101]), (ByteArray.mk #[101, 110, 100]), (ByteArray.mk #[101, 110, 115, 117, 114, 101]), (ByteArray.mk #[102, 101, 97, 116, 117, 114, 101]), (ByteArray.mk #[102, 114, 111, 109]), (ByteArray.mk #[105, 102]), (ByteArray.mk #[105, 109, 112, 108, 105, 101, 115]), (ByteArray.mk #[105, 110, 104, 101, 114, 105, 116]), (ByteArray.mk #[105, 110, 118, 97, 114, 105, 97, 110, 116]), (ByteArray.mk #[108, 111, 99, 97, 108]), (ByteArray.mk #[108, 111, 111, 112]), (ByteArray.mk #[110, 111, 116]), (ByteArray.mk #[111, 108, 100]), (ByteArray.mk #[111, 114]), (ByteArray.mk #[112, 117, 116]), (ByteArray.mk #[114, 97, 105, 115, 101]), (ByteArray.mk #[114, 101, 100, 101, 102, 105, 110, 101]), (ByteArray.mk #[114, 101, 110, 97, 109, 101]), (ByteArray.mk #[114, 101, 113, 117, 105, 114, 101]), (ByteArray.mk #[114, 101, 115, 99, 117, 101]), (ByteArray.mk #[114, 101, 116, 114, 121]), (ByteArray.mk #[115, 101, 108, 101, 99, 116]), (ByteArray.mk #[115, 101, 112, 97, 114, 97, 116, 101]), (ByteArray.mk #[116, 104, 101, 110]), (ByteArray.mk #[117, 110, 100, 101, 102, 105, 110, 101]), (ByteArray.mk #[117, 110, 116, 105, 108]), (ByteArray.mk #[118, 97, 114, 105, 97, 110, 116]), (ByteArray.mk #[119, 104, 101, 110])]
def f147_r (r : (List ByteArray)) : AV := (vL cS r)
theorem p_f147 {n : Nat} {r : (List ByteArray)} (h : f147 n = some r) : PureSpec Try.prog 147 [] (f147_r r) := by
 rw [f147.eq_1] at h
 refine pure_of hmix ic147 ?_
 refine go_to (mkd (.val undef) 2 0 []) ?_
 refine s_so fun N1 k1 w1 => ?_
 refine o_h1 [(0, (.own 0 0))] [(some (.row 9 1 (List.map cS [])))] ?_
 refine o_end (k1 _ ?_)
 refine s_so fun N2 k2 w2 => ?_
 refine o_r2 [(0, (vL cS [(ByteArray.mk #[97, 110, 100]), (ByteArray.mk #[97, 115]), (ByteArray.mk #[97, 116, 116, 97, 99, 104, 101, 100]), (ByteArray.mk #[99, 104, 101, 99, 107]), (ByteArray.mk #[99, 108, 97, 115, 115]), (ByteArray.mk #[99, 114, 101, 97, 116, 101]), (ByteArray.mk #[100, 101, 102, 101, 114, 114, 101, 100]), (ByteArray.mk #[100, 101, 116, 97, 99, 104, 97, 98, 108, 101]), (ByteArray.mk #[100, 111]), (ByteArray.mk #[101, 108, 115, 101]), (ByteArray.mk #[101, 110, 100]), (ByteArray.mk #[101, 110, 115, 117, 114, 101]), (ByteArray.mk #[102, 101, 97, 116, 117, 114, 101]), (ByteArray.mk #[102, 114, 111, 109]), (ByteArray.mk #[105, 102]), (ByteArray.mk #[105, 109, 112, 108, 105, 101, 115]), (ByteArray.mk #[105, 110, 104, 101, 114, 105, 116]), (ByteArray.mk #[105, 110, 118, 97, 114, 105, 97, 110, 116]), (ByteArray.mk #[108, 111, 99, 97, 108]), (ByteArray.mk #[108, 111, 111, 112]), (ByteArray.mk #[110, 111, 116]), (ByteArray.mk #[111, 108, 100]), (ByteArray.mk #[111, 114]), (ByteArray.mk #[112, 117, 116]), (ByteArray.mk #[114, 97, 105, 115, 101]), (ByteArray.mk #[114, 101, 100, 101, 102, 105, 110, 101]), (ByteArray.mk #[114, 101, 110, 97, 109, 101]), (ByteArray.mk #[114, 101, 113, 117, 105, 114, 101]), (ByteArray.mk #[114, 101, 115, 99, 117, 101]), (ByteArray.mk #[114, 101, 116, 114, 121]), (ByteArray.mk #[115, 101, 108, 101, 99, 116]), (ByteArray.mk #[115, 101, 112, 97, 114, 97, 116, 101]), (ByteArray.mk #[116, 104, 101, 110]), (ByteArray.mk #[117, 110, 100, 101, 102, 105, 110, 101]), (ByteArray.mk #[117, 110, 116, 105, 108]), (ByteArray.mk #[118, 97, 114, 105, 97, 110, 116]), (ByteArray.mk #[119, 104, 101, 110])])), (1, (vL cS [(ByteArray.mk #[97, 110, 100]), (ByteArray.mk #[97, 115]), (ByteArray.mk #[97, 116, 116, 97, 99, 104, 101, 100]), (ByteArray.mk #[99, 104, 101, 99, 107]), (ByteArray.mk #[99, 108, 97, 115, 115]), (ByteArray.mk #[99, 114, 101, 97, 116, 101]), (ByteArray.mk #[100, 101, 102, 101, 114, 114, 101, 100]), (ByteArray.mk #[100, 101, 116, 97, 99, 104, 97, 98, 108, 101]), (ByteArray.mk #[100, 111]), (ByteArray.mk #[101, 108, 115, 101]), (ByteArray.mk #[101, 110, 100]), (ByteArray.mk #[101, 110, 115, 117, 114, 101]), (ByteArray.mk #[102, 101, 97, 116, 117, 114, 101]), (ByteArray.mk #[102, 114, 111, 109]), (ByteArray.mk #[105, 102]), (ByteArray.mk #[105, 109, 112, 108, 105, 101, 115]), (ByteArray.mk #[105, 110, 104, 101, 114, 105, 116]), (ByteArray.mk #[105, 110, 118, 97, 114, 105, 97, 110, 116]), (ByteArray.mk #[108, 111, 99, 97, 108]), (ByteArray.mk #[108, 111, 111, 112]), (ByteArray.mk #[110, 111, 116]), (ByteArray.mk #[111, 108, 100]), (ByteArray.mk #[111, 114]), (ByteArray.mk #[112, 117, 116]), (ByteArray.mk #[114, 97, 105, 115, 101]), (ByteArray.mk #[114, 101, 100, 101, 102, 105, 110, 101]), (ByteArray.mk #[114, 101, 110, 97, 109, 101]), (ByteArray.mk #[114, 101, 113, 117, 105, 114, 101]), (ByteArray.mk #[114, 101, 115, 99, 117, 101]), (ByteArray.mk #[114, 101, 116, 114, 121]), (ByteArray.mk #[115, 101, 108, 101, 99, 116]), (ByteArray.mk #[115, 101, 112, 97, 114, 97, 116, 101]), (ByteArray.mk #[116, 104, 101, 110]), (ByteArray.mk #[117, 110, 100, 101, 102, 105, 110, 101]), (ByteArray.mk #[117, 110, 116, 105, 108]), (ByteArray.mk #[118, 97, 114, 105, 97, 110, 116]), (ByteArray.mk #[119, 104, 101, 110])]))] ?_
 refine o_end (k2 _ ?_)
 exact c_ret (rets [] [(vL cS [(ByteArray.mk #[97, 110, 100]), (ByteArray.mk #[97, 115]), (ByteArray.mk #[97, 116, 116, 97, 99, 104, 101, 100]), (ByteArray.mk #[99, 104, 101, 99, 107]), (ByteArray.mk #[99, 108, 97, 115, 115]), (ByteArray.mk #[99, 114, 101, 97, 116, 101]), (ByteArray.mk #[100, 101, 102, 101, 114, 114, 101, 100]), (ByteArray.mk #[100, 101, 116, 97, 99, 104, 97, 98, 108, 101]), (ByteArray.mk #[100, 111]), (ByteArray.mk #[101, 108, 115, 101]), (ByteArray.mk #[101, 110, 100]), (ByteArray.mk #[101, 110, 115, 117, 114, 101]), (ByteArray.mk #[102, 101, 97, 116, 117, 114, 101]), (ByteArray.mk #[102, 114, 111, 109]), (ByteArray.mk #[105, 102]), (ByteArray.mk #[105, 109, 112, 108, 105, 101, 115]), (ByteArray.mk #[105, 110, 104, 101, 114, 105, 116]), (ByteArray.mk #[105, 110, 118, 97, 114, 105, 97, 110, 116]), (ByteArray.mk #[108, 111, 99, 97, 108]), (ByteArray.mk #[108, 111, 111, 112]), (ByteArray.mk #[110, 111, 116]), (ByteArray.mk #[111, 108, 100]), (ByteArray.mk #[111, 114]), (ByteArray.mk #[112, 117, 116]), (ByteArray.mk #[114, 97, 105, 115, 101]), (ByteArray.mk #[114, 101, 100, 101, 102, 105, 110, 101]), (ByteArray.mk #[114, 101, 110, 97, 109, 101]), (ByteArray.mk #[114, 101, 113, 117, 105, 114, 101]), (ByteArray.mk #[114, 101, 115, 99, 117, 101]), (ByteArray.mk #[114, 101, 116, 114, 121]), (ByteArray.mk #[115, 101, 108, 101, 99, 116]), (ByteArray.mk #[115, 101, 112, 97, 114, 97, 116, 101]), (ByteArray.mk #[116, 104, 101, 110]), (ByteArray.mk #[117, 110, 100, 101, 102, 105, 110, 101]), (ByteArray.mk #[117, 110, 116, 105, 108]), (ByteArray.mk #[118, 97, 114, 105, 97, 110, 116]), (ByteArray.mk #[119, 104, 101, 110])])] [(vL cS [(ByteArray.mk #[97, 110, 100]), (ByteArray.mk #[97, 115]), (ByteArray.mk #[97, 116, 116, 97, 99, 104, 101, 100]), (ByteArray.mk #[99, 104, 101, 99, 107]), (ByteArray.mk #[99, 108, 97, 115, 115]), (ByteArray.mk #[99, 114, 101, 97, 116, 101]), (ByteArray.mk #[100, 101, 102, 101, 114, 114, 101, 100]), (ByteArray.mk #[100, 101, 116, 97, 99, 104, 97, 98, 108, 101]), (ByteArray.mk #[100, 111]), (ByteArray.mk #[101, 108, 115, 101]), (ByteArray.mk #[101, 110, 100]), (ByteArray.mk #[101, 110, 115, 117, 114, 101]), (ByteArray.mk #[102, 101, 97, 116, 117, 114, 101]), (ByteArray.mk #[102, 114, 111, 109]), (ByteArray.mk #[105, 102]), (ByteArray.mk #[105, 109, 112, 108, 105, 101, 115]), (ByteArray.mk #[105, 110, 104, 101, 114, 105, 116]), (ByteArray.mk #[105, 110, 118, 97, 114, 105, 97, 110, 116]), (ByteArray.mk #[108, 111, 99, 97, 108]), (ByteArray.mk #[108, 111, 111, 112]), (ByteArray.mk #[110, 111, 116]), (ByteArray.mk #[111, 108, 100]), (ByteArray.mk #[111, 114]), (ByteArray.mk #[112, 117, 116]), (ByteArray.mk #[114, 97, 105, 115, 101]), (ByteArray.mk #[114, 101, 100, 101, 102, 105, 110, 101]), (ByteArray.mk #[114, 101, 110, 97, 109, 101]), (ByteArray.mk #[114, 101, 113, 117, 105, 114, 101]), (ByteArray.mk #[114, 101, 115, 99, 117, 101]), (ByteArray.mk #[114, 101, 116, 114, 121]), (ByteArray.mk #[115, 101, 108, 101, 99, 116]), (ByteArray.mk #[115, 101, 112, 97, 114, 97, 116, 101]), (ByteArray.mk #[116, 104, 101, 110]), (ByteArray.mk #[117, 110, 100, 101, 102, 105, 110, 101]), (ByteArray.mk #[117, 110, 116, 105, 108]), (ByteArray.mk #[118, 97, 114, 105, 97, 110, 116]), (ByteArray.mk #[119, 104, 101, 110])])] h)
theorem ic134 : fnIC Try.prog H0 134 = some ([.cell 2 143], 51, (.seq (.ops [⟨(some 2), none, .alloc 0 143 [] [(.int .i64 0), (.int .i64 0)]⟩]) (.seq (.seq (.ops [⟨(some 6), none, .call 147 []⟩, ⟨(some 7), none, .mov (.t 0)⟩, ⟨(some 8), none, .call 129 [(.t 6), (.t 7)]⟩, ⟨(some 9), none, .mov (.t 8)⟩, ⟨(some 10), (some (9, false)), .isl 1 [(.c (.string ⟨#[84, 114, 117, 101]⟩)), (.c (.string ⟨#[70, 97, 108, 115, 101]⟩)), (.c (.string ⟨#[86, 111, 105, 100]⟩)), (.c (.string ⟨#[67, 117, 114, 114, 101, 110, 116]⟩)), (.c (.string ⟨#[82, 101, 115, 117, 108, 116]⟩))]⟩, ⟨(some 11), (some (9, false)), .mov (.t 0)⟩, ⟨(some 12), (some (9, false)), .call 129 [(.t 10), (.t 11)]⟩, ⟨(some 13), none, .pick (.t 9) (.c (.bool true)) (.t 12)⟩]) (.cond (.t 13)
  (.seq (.ops [⟨(some 14), none, .bld [(.int .i64 0), (.int .i64 0)] [(0, 1, (.c (.int .i64 3)))]⟩, ⟨none, none, .st true 2 [] (.t 2) (.t 14)⟩]) .ret)
  .skip)) (.seq (.seq (.ops [⟨(some 15), none, .isl 1 [(.c (.string ⟨#[116, 114, 117, 101]⟩)), (.c (.string ⟨#[102, 97, 108, 115, 101]⟩)), (.c (.string ⟨#[118, 111, 105, 100]⟩)), (.c (.string ⟨#[99, 117, 114, 114, 101, 110, 116]⟩)), (.c (.string ⟨#[114, 101, 115, 117, 108, 116]⟩))]⟩, ⟨(some 16), none, .mov (.t 0)⟩, ⟨(some 17), none, .call 129 [(.t 15), (.t 16)]⟩]) (.cond (.t 17)
  (.seq (.ops [⟨(some 18), none, .bld [(.int .i64 0), (.int .i64 0)] [(1, 1, (.c (.int .i64 4)))]⟩, ⟨none, none, .st true 2 [] (.t 2) (.t 18)⟩]) .ret)
  .skip)) (.seq (.ops [⟨(some 3), none, .mov (.c (.bool false))⟩]) (.seq (.ops [⟨(some 4), none, .mov (.c (.bool false))⟩]) (.seq (.seq (.ops [⟨(some 5), none, .mov (.c (.int .i64 0))⟩]) (.block 0 (.loop (.seq (.seq (.ops [⟨(some 19), none, .mov (.t 5)⟩, ⟨(some 20), none, .mov (.t 0)⟩, ⟨(some 21), none, .len true (.t 20)⟩, ⟨(some 22), none, .sc (.bin .lss 3) [(.t 19), (.t 21)]⟩]) (.cond (.t 22)
  .skip
  (.exit 0))) (.seq (.block 1 (.seq (.ops [⟨(some 25), none, .mov (.t 3)⟩, ⟨(some 26), none, .mov (.t 25)⟩, ⟨(some 27), (some (26, false)), .mov (.t 0)⟩, ⟨(some 28), (some (26, false)), .mov (.t 5)⟩, ⟨(some 29), (some (26, false)), .sc (.idx 9) [(.t 27), (.t 28)]⟩, ⟨(some 30), (some (26, false)), .call 148 [(.t 29)]⟩, ⟨(some 31), none, .pick (.t 26) (.c (.bool true)) (.t 30)⟩, ⟨(some 3), none, .mov (.t 31)⟩]) (.ops [⟨(some 32), none, .mov (.t 4)⟩, ⟨(some 33), none, .mov (.t 32)⟩, ⟨(some 34), (some (33, false)), .mov (.t 0)⟩, ⟨(some 35), (some (33, false)), .mov (.t 5)⟩, ⟨(some 36), (some (33, false)), .sc (.idx 9) [(.t 34), (.t 35)]⟩, ⟨(some 37), (some (33, false)), .call 149 [(.t 36)]⟩, ⟨(some 38), none, .pick (.t 33) (.c (.bool true)) (.t 37)⟩, ⟨(some 4), none, .mov (.t 38)⟩]))) (.ops [⟨(some 23), none, .mov (.t 5)⟩, ⟨(some 24), none, .sc (.bin .add 3) [(.t 23), (.c (.int .i64 1))]⟩, ⟨(some 5), none, .mov (.t 24)⟩])))))) (.seq (.seq (.ops [⟨(some 39), none, .mov (.t 3)⟩, ⟨(some 40), none, .mov (.t 39)⟩, ⟨(some 41), (some (40, true)), .mov (.t 4)⟩, ⟨(some 42), none, .pick (.t 40) (.t 41) (.c (.bool false))⟩]) (.cond (.t 42)
  (.seq (.ops [⟨(some 43), none, .bld [(.int .i64 0), (.int .i64 0)] [(1, 1, (.c (.int .i64 2)))]⟩, ⟨none, none, .st true 2 [] (.t 2) (.t 43)⟩]) .ret)
  .skip)) (.seq (.seq (.ops [⟨(some 44), none, .mov (.t 0)⟩, ⟨(some 45), none, .len true (.t 44)⟩, ⟨(some 46), none, .sc (.bin .gtr 3) [(.t 45), (.c (.int .i64 20))]⟩]) (.cond (.t 46)
  (.seq (.ops [⟨(some 47), none, .bld [(.int .i64 0), (.int .i64 0)] [(1, 1, (.c (.int .i64 3)))]⟩, ⟨none, none, .st true 2 [] (.t 2) (.t 47)⟩]) .ret)
  .skip)) (.seq (.seq (.ops [⟨(some 48), none, .mov (.t 3)⟩]) (.cond (.t 48)
  (.seq (.ops [⟨(some 49), none, .bld [(.int .i64 0), (.int .i64 0)] [(0, 1, (.c (.int .i64 1)))]⟩, ⟨none, none, .st true 2 [] (.t 2) (.t 49)⟩]) .ret)
  .skip)) (.seq (.ops [⟨(some 50), none, .bld [(.int .i64 0), (.int .i64 0)] [(0, 1, (.c (.int .i64 2)))]⟩, ⟨none, none, .st true 2 [] (.t 2) (.t 50)⟩]) .ret))))))))))) := by kernel_rfl
def f134_k47 (x43 : Int) (c26k : Bool → Bool → Int → Option KE) (x61 : Bool) (x62 : Bool) : Option KE := (c26k x62 x61 (wr .i64 (x43 + 1)))
def f134_k49 (x42 : Bool) (a1 : ByteArray) (x43 : Int) (n : Nat) (c26k : Bool → Bool → Int → Option KE) (x55 : Bool) : Option KE := (bif x42 then (f134_k47 x43 (c26k) true x55) else ((si a1 x43).bind fun c57 => ((f149 n c57).bind fun r59 => (f134_k47 x43 (c26k) r59 x55))))
def f134_k66 (a1 : ByteArray) (x68 : Bool) (x69 : Bool) : Option KE := (bif x69 then some (KE.mk 0 2) else (bif (decide ((bsz a1) > 20)) then some (KE.mk 0 3) else (bif x68 then some (KE.mk 1 0) else some (KE.mk 2 0))))
def f134_k23 (a1 : ByteArray) (x63 : Bool) (x64 : Bool) : Option KE := (bif x63 then (f134_k66 a1 true x64) else (f134_k66 a1 false false))
def f134_l26 (a1 : ByteArray) (n : Nat) (k23k : Bool → Bool → Option KE) : Nat → Bool → Bool → Int → Option KE
  | 0, _, _, _ => none
  | m26 + 1, x41, x42, x43 => (bif (decide (x43 < (bsz a1))) then (bif x41 then (f134_k49 x42 a1 x43 n (f134_l26 a1 n (k23k) m26) true) else ((si a1 x43).bind fun c51 => ((f148 n c51).bind fun r53 => (f134_k49 x42 a1 x43 n (f134_l26 a1 n (k23k) m26) r53)))) else (k23k x41 x42))
def f134_k4 (n : Nat) (a1 : ByteArray) (x12 : Bool) : Option KE := (bif x12 then some (KE.mk 3 0) else ((f129 n [(ByteArray.mk #[116, 114, 117, 101]), (ByteArray.mk #[102, 97, 108, 115, 101]), (ByteArray.mk #[118, 111, 105, 100]), (ByteArray.mk #[99, 117, 114, 114, 101, 110, 116]), (ByteArray.mk #[114, 101, 115, 117, 108, 116])] a1).bind fun r17 => (bif r17 then some (KE.mk 0 4) else (f134_l26 a1 n (f134_k23 a1) n false false 0))))
def f134 (n : Nat) (a1 : ByteArray) : Option KE := ((f147 n).bind fun r5 => ((f129 n r5 a1).bind fun r7 => (bif r7 then (f134_k4 n a1 true) else ((f129 n [(ByteArray.mk #[84, 114, 117, 101]), (ByteArray.mk #[70, 97, 108, 115, 101]), (ByteArray.mk #[86, 111, 105, 100]), (ByteArray.mk #[67, 117, 114, 114, 101, 110, 116]), (ByteArray.mk #[82, 101, 115, 117, 108, 116])] a1).bind fun r10 => (f134_k4 n a1 r10)))))
def f134_r (r : KE) : AV := (.agg [(vI r.fK), (vI r.fE)])
theorem p_f134 {n : Nat} {a1 : ByteArray} {r : KE} (h : f134 n a1 = some r) : PureSpec Try.prog 134 [(vS a1)] (f134_r r) := by
 rw [f134.eq_1] at h
 refine pure_of hmix ic134 ?_
 refine go_to (mkd (.val undef) 51 0 [(0, (vS a1))]) ?_
 refine s_so fun N2 k2 w2 => ?_
 refine o_h1 [(2, (.ptr 0 0))] [(some (.box 143 [(vI 0), (vI 0)]))] ?_
 refine o_end (k2 _ ?_)
 refine s_seq fun N3 k3 w3 => ?_
 refine J1 (r := r) (fun (x12 : Bool) => ⟨(mkd .any 51 0 [(0, (vS a1)), (2, (.ptr 0 0)), (13, (vB x12))]), [(some (.box 143 [(vI 0), (vI 0)]))]⟩) (f134_k4 n a1) ?_ ?_
 · intro x12 h
   rw [f134_k4.eq_1] at h
   refine i_c [13] h (fun h => ?_) (fun h => ?_)
   · refine s_so fun N14 k14 w14 => ?_
     refine o_h2 [(14, (.agg [(vI 3), (vI 0)]))] [(some (.box 143 [(vI 3), (vI 0)]))] ?_
     refine o_end (k14 _ ?_)
     exact c_ret (rets [] [(.agg [(vI 3), (vI 0)])] [(.agg [(vI 3), (vI 0)])] h)
   · refine c_skip (k3 _ ?_)
     refine s_seq fun N15 k15 w15 => ?_
     refine s_so fun N16 k16 w16 => ?_
     refine o_r2 [(15, (vL cS [(ByteArray.mk #[116, 114, 117, 101]), (ByteArray.mk #[102, 97, 108, 115, 101]), (ByteArray.mk #[118, 111, 105, 100]), (ByteArray.mk #[99, 117, 114, 114, 101, 110, 116]), (ByteArray.mk #[114, 101, 115, 117, 108, 116])])), (16, (vS a1))] ?_
     refine bnd h fun r17 g18 h => ?_
     refine o_o (one_call (p_f129 g18)) ?_
     refine o_end (k16 _ ?_)
     refine i_c [17] h (fun h => ?_) (fun h => ?_)
     · refine s_so fun N20 k20 w20 => ?_
       refine o_h2 [(18, (.agg [(vI 0), (vI 4)]))] [(some (.box 143 [(vI 0), (vI 4)]))] ?_
       refine o_end (k20 _ ?_)
       exact c_ret (rets [] [(.agg [(vI 0), (vI 4)])] [(.agg [(vI 0), (vI 4)])] h)
     · refine c_skip (k15 _ ?_)
       refine s_so fun N21 k21 w21 => ?_
       refine o_r1 [(3, (vB false))] ?_
       refine o_end (k21 _ ?_)
       refine s_so fun N22 k22 w22 => ?_
       refine o_r1 [(4, (vB false))] ?_
       refine o_end (k22 _ ?_)
       refine J2 (r := r) (fun (x63 : Bool) (x64 : Bool) => ⟨(mkd .any 51 0 [(0, (vS a1)), (2, (.ptr 0 0)), (3, (vB x63)), (4, (vB x64))]), [(some (.box 143 [(vI 0), (vI 0)]))]⟩) (f134_k23 a1) ?_ ?_
       · intro x63 x64 h
         rw [f134_k23.eq_1] at h
         refine s_seq fun N65 k65 w65 => ?_
         refine J2 (r := r) (fun (x68 : Bool) (x69 : Bool) => ⟨(mkd .any 51 0 [(0, (vS a1)), (2, (.ptr 0 0)), (3, (vB x68)), (42, (vB x69))]), [(some (.box 143 [(vI 0), (vI 0)]))]⟩) (f134_k66 a1) ?_ ?_
         · intro x68 x69 h
           rw [f134_k66.eq_1] at h
           refine i_c [42] h (fun h => ?_) (fun h => ?_)
           · refine s_so fun N71 k71 w71 => ?_
             refine o_h2 [(43, (.agg [(vI 0), (vI 2)]))] [(some (.box 143 [(vI 0), (vI 2)]))] ?_
             refine o_end (k71 _ ?_)
             exact c_ret (rets [] [(.agg [(vI 0), (vI 2)])] [(.agg [(vI 0), (vI 2)])] h)
           · refine c_skip (k65 _ ?_)
             refine s_seq fun N72 k72 w72 => ?_
             refine s_so fun N73 k73 w73 => ?_
             refine o_r3 [(44, (vS a1)), (45, (vI (bsz a1))), (46, (vB (decide ((bsz a1) > 20))))] ?_
             refine o_end (k73 _ ?_)
             refine i_c [46] h (fun h => ?_) (fun h => ?_)
             · refine s_so fun N75 k75 w75 => ?_
               refine o_h2 [(47, (.agg [(vI 0), (vI 3)]))] [(some (.box 143 [(vI 0), (vI 3)]))] ?_
               refine o_end (k75 _ ?_)
               exact c_ret (rets [] [(.agg [(vI 0), (vI 3)])] [(.agg [(vI 0), (vI 3)])] h)
             · refine c_skip (k72 _ ?_)
               refine s_seq fun N76 k76 w76 => ?_
               refine s_so fun N77 k77 w77 => ?_
               refine o_r1 [(48, (vB x68))] ?_
               refine o_end (k77 _ ?_)
               refine i_c [3, 48] h (fun h => ?_) (fun h => ?_)
               · refine s_so fun N79 k79 w79 => ?_
                 refine o_h2 [(49, (.agg [(vI 1), (vI 0)]))] [(some (.box 143 [(vI 1), (vI 0)]))] ?_
                 refine o_end (k79 _ ?_)
                 exact c_ret (rets [] [(.agg [(vI 1), (vI 0)])] [(.agg [(vI 1), (vI 0)])] h)
               · refine c_skip (k76 _ ?_)
                 refine s_so fun N80 k80 w80 => ?_
                 refine o_h2 [(50, (.agg [(vI 2), (vI 0)]))] [(some (.box 143 [(vI 2), (vI 0)]))] ?_
                 refine o_end (k80 _ ?_)
                 exact c_ret (rets [] [(.agg [(vI 2), (vI 0)])] [(.agg [(vI 2), (vI 0)])] h)
         · intro N66 w66
           refine c_ops ?_
           refine o_r2 [(39, (vB x63)), (40, (vB x63))] ?_
           refine i_o [3, 39, 40] h (fun h => ?_) (fun h => ?_)
           · refine o_r2 [(41, (vB x64)), (42, (vB x64))] ?_
             exact o_end (w66 _ _ _ (wkm [0, 2, 3, 42] (whk wh_nil)) h)
           · refine o_r2 [(41, (.val undef)), (42, (vB false))] ?_
             exact o_end (w66 _ _ _ (wkm [0, 2, 3, 42] (whk wh_nil)) h)
       · intro N23 w23
         refine s_so fun N24 k24 w24 => ?_
         refine o_r1 [(5, (vI 0))] ?_
         refine o_end (k24 _ ?_)
         refine c_block fun E25 hE25 hO25 => ?_
         refine W3 (fun (x41 : Bool) (x42 : Bool) (x43 : Int) => ⟨(mkd .any 51 0 [(0, (vS a1)), (2, (.ptr 0 0)), (3, (vB x41)), (4, (vB x42)), (5, (vI x43))]), [(some (.box 143 [(vI 0), (vI 0)]))]⟩) (f134_l26 a1 n (f134_k23 a1)) h (wkm [0, 2, 3, 4, 5] (whk wh_nil)) (by intros; rw [f134_l26.eq_1]) ?_
         intro m26 x41 x42 x43 h N26 w26
         rw [f134_l26.eq_2] at h
         refine s_seq fun N44 k44 w44 => ?_
         refine s_so fun N45 k45 w45 => ?_
         refine o_r4 [(19, (vI x43)), (20, (vS a1)), (21, (vI (bsz a1))), (22, (vB (decide (x43 < (bsz a1)))))] ?_
         refine o_end (k45 _ ?_)
         refine i_c [22] h (fun h => ?_) (fun h => ?_)
         · refine c_skip (k44 _ ?_)
           refine J2 (r := r) (fun (x61 : Bool) (x62 : Bool) => ⟨(mkd .any 51 0 [(0, (vS a1)), (2, (.ptr 0 0)), (3, (vB x62)), (4, (vB x61)), (5, (vI x43))]), [(some (.box 143 [(vI 0), (vI 0)]))]⟩) (f134_k47 x43 (f134_l26 a1 n (f134_k23 a1) m26)) ?_ ?_
           · intro x61 x62 h
             rw [f134_k47.eq_1] at h
             refine c_ops ?_
             refine o_r3 [(5, (vI (wr .i64 (x43 + 1)))), (23, (vI x43)), (24, (vI (wr .i64 (x43 + 1))))] ?_
             exact o_end (w26 _ _ _ _ (wkm [0, 2, 3, 4, 5] (whk wh_nil)) h)
           · intro N47 w47
             refine c_block fun E48 hE48 hO48 => ?_
             refine J1 (r := r) (fun (x55 : Bool) => ⟨(mkd .any 51 0 [(0, (vS a1)), (2, (.ptr 0 0)), (3, (vB x55)), (4, (vB x42)), (5, (vI x43))]), [(some (.box 143 [(vI 0), (vI 0)]))]⟩) (f134_k49 x42 a1 x43 n (f134_l26 a1 n (f134_k23 a1) m26)) ?_ ?_
             · intro x55 h
               rw [f134_k49.eq_1] at h
               refine c_ops ?_
               refine o_r2 [(32, (vB x42)), (33, (vB x42))] ?_
               refine i_o [4, 32, 33] h (fun h => ?_) (fun h => ?_)
               · refine o_r6 [(34, (.val undef)), (35, (.val undef)), (36, (.val undef)), (37, (.val undef)), (38, (vB true))] ?_
                 exact o_end (w47 _ _ _ (wkm [0, 2, 3, 4, 5] (whk wh_nil)) h)
               · refine o_r2 [(34, (vS a1)), (35, (vI x43))] ?_
                 refine bnd h fun c57 g58 h => ?_
                 refine o_g ?_
                 refine o_o (one_idx (ki := .i64) g58) ?_
                 refine bnd h fun r59 g60 h => ?_
                 refine o_g ?_
                 refine o_o (one_call (p_f149 g60)) ?_
                 refine o_r2 [(4, (vB r59)), (38, (vB r59))] ?_
                 exact o_end (w47 _ _ _ (wkm [0, 2, 3, 4, 5] (whk wh_nil)) h)
             · intro N49 w49
               refine c_ops ?_
               refine o_r2 [(25, (vB x41)), (26, (vB x41))] ?_
               refine i_o [3, 25, 26] h (fun h => ?_) (fun h => ?_)
               · refine o_r6 [(27, (.val undef)), (28, (.val undef)), (29, (.val undef)), (30, (.val undef)), (31, (vB true))] ?_
                 exact o_end (w49 _ _ (wkm [0, 2, 3, 4, 5] (whk wh_nil)) h)
               · refine o_r2 [(27, (vS a1)), (28, (vI x43))] ?_
                 refine bnd h fun c51 g52 h => ?_
                 refine o_g ?_
                 refine o_o (one_idx (ki := .i64) g52) ?_
                 refine bnd h fun r53 g54 h => ?_
                 refine o_g ?_
                 refine o_o (one_call (p_f148 g54)) ?_
                 refine o_r2 [(3, (vB r53)), (31, (vB r53))] ?_
                 exact o_end (w49 _ _ (wkm [0, 2, 3, 4, 5] (whk wh_nil)) h)
         · refine c_exit (hE25 _ ?_)
           exact w23 _ _ _ (wkm [0, 2, 3, 4] (whk wh_nil)) h
 · intro N4 w4
   refine c_ops ?_
   refine bnd h fun r5 g6 h => ?_
   refine o_o (one_call (p_f147 g6)) ?_
   refine o_r1 [(7, (vS a1))] ?_
   refine bnd h fun r7 g8 h => ?_
   refine o_o (one_call (p_f129 g8)) ?_
   refine o_r1 [(9, (vB r7))] ?_
   refine i_o [8, 9] h (fun h => ?_) (fun h => ?_)
   · refine o_r4 [(10, (.val undef)), (11, (.val undef)), (12, (.val undef)), (13, (vB true))] ?_
     exact o_end (w4 _ _ (wkm [0, 2, 13] (whk wh_nil)) h)
   · refine o_r2 [(10, (vL cS [(ByteArray.mk #[84, 114, 117, 101]), (ByteArray.mk #[70, 97, 108, 115, 101]), (ByteArray.mk #[86, 111, 105, 100]), (ByteArray.mk #[67, 117, 114, 114, 101, 110, 116]), (ByteArray.mk #[82, 101, 115, 117, 108, 116])])), (11, (vS a1))] ?_
     refine bnd h fun r10 g11 h => ?_
     refine o_g ?_
     refine o_o (one_call (p_f129 g11)) ?_
     refine o_r1 [(13, (vB r10))] ?_
     exact o_end (w4 _ _ (wkm [0, 2, 13] (whk wh_nil)) h)
theorem ic96 : fnIC Try.prog H0 96 = some ([.cell 2 143], 38, (.seq (.ops [⟨(some 2), none, .alloc 0 143 [] [(.int .i64 0), (.int .i64 0)]⟩]) (.seq (.seq (.ops [⟨(some 4), none, .call 130 []⟩, ⟨(some 5), none, .mov (.t 0)⟩, ⟨(some 6), none, .call 129 [(.t 4), (.t 5)]⟩]) (.cond (.t 6)
  (.seq (.ops [⟨(some 7), none, .bld [(.int .i64 0), (.int .i64 0)] [(0, 1, (.c (.int .i64 5)))]⟩, ⟨none, none, .st true 2 [] (.t 2) (.t 7)⟩]) .ret)
  .skip)) (.seq (.seq (.ops [⟨(some 8), none, .mov (.t 0)⟩, ⟨(some 9), none, .len true (.t 8)⟩, ⟨(some 10), none, .sc (.bin .eql 3) [(.t 9), (.c (.int .i64 0))]⟩, ⟨(some 11), none, .mov (.t 10)⟩, ⟨(some 12), (some (11, false)), .mov (.t 0)⟩, ⟨(some 13), (some (11, false)), .call 131 [(.t 12), (.c (.int .i64 0))]⟩, ⟨(some 14), (some (11, false)), .mov (.t 0)⟩, ⟨(some 15), (some (11, false)), .len true (.t 14)⟩, ⟨(some 16), (some (11, false)), .sc (.bin .lss 3) [(.t 13), (.t 15)]⟩, ⟨(some 17), none, .pick (.t 11) (.c (.bool true)) (.t 16)⟩, ⟨(some 18), none, .mov (.t 17)⟩, ⟨(some 19), (some (18, false)), .mov (.t 0)⟩, ⟨(some 20), (some (18, false)), .sc (.idx 9) [(.t 19), (.c (.int .i64 0))]⟩, ⟨(some 21), (some (18, false)), .sc (.bin .eql 5) [(.t 20), (.c (.int .u8 95))]⟩, ⟨(some 22), none, .pick (.t 18) (.c (.bool true)) (.t 21)⟩]) (.cond (.t 22)
  (.seq (.ops [⟨(some 23), none, .bld [(.int .i64 0), (.int .i64 0)] [(1, 1, (.c (.int .i64 2)))]⟩, ⟨none, none, .st true 2 [] (.t 2) (.t 23)⟩]) .ret)
  .skip)) (.seq (.seq (.ops [⟨(some 24), none, .mov (.t 0)⟩, ⟨(some 25), none, .sc (.idx 9) [(.t 24), (.c (.int .i64 0))]⟩, ⟨(some 26), none, .call 132 [(.t 25)]⟩]) (.cond (.t 26)
  (.seq (.ops [⟨(some 27), none, .mov (.t 0)⟩, ⟨(some 28), none, .call 133 [(.t 27)]⟩, ⟨(some 3), none, .alloc 0 186 [] [(.int .i64 0), (.int .i64 0)]⟩, ⟨none, none, .st true 2 [] (.t 3) (.t 28)⟩]) (.seq (.seq (.ops [⟨(some 29), none, .faddr (.t 3) 1⟩, ⟨(some 30), none, .ld (.t 29) 1 false⟩, ⟨(some 31), none, .sc (.bin .neq 30) [(.t 30), (.c (.int .i64 0))]⟩]) (.cond (.t 31)
  (.seq (.ops [⟨(some 32), none, .faddr (.t 3) 1⟩, ⟨(some 33), none, .ld (.t 32) 1 false⟩, ⟨(some 34), none, .bld [(.int .i64 0), (.int .i64 0)] [(1, 1, (.t 33))]⟩, ⟨none, none, .st true 2 [] (.t 2) (.t 34)⟩]) .ret)
  .skip)) (.seq (.ops [⟨(some 35), none, .bld [(.int .i64 0), (.int .i64 0)] [(0, 1, (.c (.int .i64 4)))]⟩, ⟨none, none, .st true 2 [] (.t 2) (.t 35)⟩]) .ret)))
  .skip)) (.seq (.ops [⟨(some 36), none, .mov (.t 0)⟩, ⟨(some 37), none, .call 134 [(.t 36)]⟩, ⟨none, none, .st true 2 [] (.t 2) (.t 37)⟩]) .ret)))))) := by kernel_rfl
def f96_k12 (a1 : ByteArray) (n : Nat) (x19 : Bool) : Option KE := (bif x19 then some (KE.mk 0 2) else ((si a1 0).bind fun c24 => ((f132 n c24).bind fun r26 => (bif r26 then ((f133 n a1).bind fun r30 => (bif (r30.fE != 0) then some (KE.mk 0 r30.fE) else some (KE.mk 4 0))) else ((f134 n a1).bind fun r38 => some (KE.mk r38.fK r38.fE))))))
def f96 (n : Nat) (a1 : ByteArray) : Option KE := ((f130 n).bind fun r5 => ((f129 n r5 a1).bind fun r7 => (bif r7 then some (KE.mk 5 0) else (bif ((bsz a1) == 0) then (f96_k12 a1 n true) else ((f131 n a1 0).bind fun r14 => (bif (decide (r14 < (bsz a1))) then (f96_k12 a1 n true) else ((si a1 0).bind fun c17 => (f96_k12 a1 n (c17 == 95)))))))))
def f96_r (r : KE) : AV := (.agg [(vI r.fK), (vI r.fE)])
theorem p_f96 {n : Nat} {a1 : ByteArray} {r : KE} (h : f96 n a1 = some r) : PureSpec Try.prog 96 [(vS a1)] (f96_r r) := by
 rw [f96.eq_1] at h
 refine pure_of hmix ic96 ?_
 refine go_to (mkd (.val undef) 38 0 [(0, (vS a1))]) ?_
 refine s_so fun N2 k2 w2 => ?_
 refine o_h1 [(2, (.ptr 0 0))] [(some (.box 143 [(vI 0), (vI 0)]))] ?_
 refine o_end (k2 _ ?_)
 refine s_seq fun N3 k3 w3 => ?_
 refine s_so fun N4 k4 w4 => ?_
 refine bnd h fun r5 g6 h => ?_
 refine o_o (one_call (p_f130 g6)) ?_
 refine o_r1 [(5, (vS a1))] ?_
 refine bnd h fun r7 g8 h => ?_
 refine o_o (one_call (p_f129 g8)) ?_
 refine o_end (k4 _ ?_)
 refine i_c [6] h (fun h => ?_) (fun h => ?_)
 · refine s_so fun N10 k10 w10 => ?_
   refine o_h2 [(7, (.agg [(vI 5), (vI 0)]))] [(some (.box 143 [(vI 5), (vI 0)]))] ?_
   refine o_end (k10 _ ?_)
   exact c_ret (rets [] [(.agg [(vI 5), (vI 0)])] [(.agg [(vI 5), (vI 0)])] h)
 · refine c_skip (k3 _ ?_)
   refine s_seq fun N11 k11 w11 => ?_
   refine J1 (r := r) (fun (x19 : Bool) => ⟨(mkd .any 38 0 [(0, (vS a1)), (2, (.ptr 0 0)), (22, (vB x19))]), [(some (.box 143 [(vI 0), (vI 0)]))]⟩) (f96_k12 a1 n) ?_ ?_
   · intro x19 h
     rw [f96_k12.eq_1] at h
     refine i_c [22] h (fun h => ?_) (fun h => ?_)
     · refine s_so fun N21 k21 w21 => ?_
       refine o_h2 [(23, (.agg [(vI 0), (vI 2)]))] [(some (.box 143 [(vI 0), (vI 2)]))] ?_
       refine o_end (k21 _ ?_)
       exact c_ret (rets [] [(.agg [(vI 0), (vI 2)])] [(.agg [(vI 0), (vI 2)])] h)
     · refine c_skip (k11 _ ?_)
       refine s_seq fun N22 k22 w22 => ?_
       refine s_so fun N23 k23 w23 => ?_
       refine o_r1 [(24, (vS a1))] ?_
       refine bnd h fun c24 g25 h => ?_
       refine o_o (one_idx (ki := .i64) g25) ?_
       refine bnd h fun r26 g27 h => ?_
       refine o_o (one_call (p_f132 g27)) ?_
       refine o_end (k23 _ ?_)
       refine i_c [26] h (fun h => ?_) (fun h => ?_)
       · refine s_so fun N29 k29 w29 => ?_
         refine o_r1 [(27, (vS a1))] ?_
         refine bnd h fun r30 g31 h => ?_
         refine o_o (one_call (p_f133 g31)) ?_
         refine o_h2 [(3, (.ptr 1 0))] [(some (.box 143 [(vI 0), (vI 0)])), (some (.box 186 [(vI r30.fN), (vI r30.fE)]))] ?_
         refine o_end (k29 _ ?_)
         refine s_seq fun N32 k32 w32 => ?_
         refine s_so fun N33 k33 w33 => ?_
         refine o_r3 [(29, (.ptr 1 1)), (30, (vI r30.fE)), (31, (vB (r30.fE != 0)))] ?_
         refine o_end (k33 _ ?_)
         refine i_c [31] h (fun h => ?_) (fun h => ?_)
         · refine s_so fun N35 k35 w35 => ?_
           refine o_h4 [(32, (.ptr 1 1)), (33, (vI r30.fE)), (34, (.agg [(vI 0), (vI r30.fE)]))] [(some (.box 143 [(vI 0), (vI r30.fE)])), (some (.box 186 [(vI r30.fN), (vI r30.fE)]))] ?_
           refine o_end (k35 _ ?_)
           exact c_ret (rets [] [(.agg [(vI 0), (vI r30.fE)])] [(.agg [(vI 0), (vI r30.fE)])] h)
         · refine c_skip (k32 _ ?_)
           refine s_so fun N36 k36 w36 => ?_
           refine o_h2 [(35, (.agg [(vI 4), (vI 0)]))] [(some (.box 143 [(vI 4), (vI 0)])), (some (.box 186 [(vI r30.fN), (vI r30.fE)]))] ?_
           refine o_end (k36 _ ?_)
           exact c_ret (rets [] [(.agg [(vI 4), (vI 0)])] [(.agg [(vI 4), (vI 0)])] h)
       · refine c_skip (k22 _ ?_)
         refine s_so fun N37 k37 w37 => ?_
         refine o_r1 [(36, (vS a1))] ?_
         refine bnd h fun r38 g39 h => ?_
         refine o_o (one_call (p_f134 g39)) ?_
         refine o_h1 [] [(some (.box 143 [(vI r38.fK), (vI r38.fE)]))] ?_
         refine o_end (k37 _ ?_)
         exact c_ret (rets [] [(.agg [(vI r38.fK), (vI r38.fE)])] [(.agg [(vI r38.fK), (vI r38.fE)])] h)
   · intro N12 w12
     refine c_ops ?_
     refine o_r4 [(8, (vS a1)), (9, (vI (bsz a1))), (10, (vB ((bsz a1) == 0))), (11, (vB ((bsz a1) == 0)))] ?_
     refine i_o [10, 11] h (fun h => ?_) (fun h => ?_)
     · refine o_r11 [(12, (.val undef)), (13, (.val undef)), (14, (.val undef)), (15, (.val undef)), (16, (.val undef)), (17, (vB true)), (18, (vB true)), (19, (.val undef)), (20, (.val undef)), (21, (.val undef)), (22, (vB true))] ?_
       exact o_end (w12 _ _ (wkm [0, 2, 22] (whk wh_nil)) h)
     · refine o_r1 [(12, (vS a1))] ?_
       refine bnd h fun r14 g15 h => ?_
       refine o_g ?_
       refine o_o (one_call (p_f131 g15)) ?_
       refine o_r5 [(14, (vS a1)), (15, (vI (bsz a1))), (16, (vB (decide (r14 < (bsz a1))))), (17, (vB (decide (r14 < (bsz a1))))), (18, (vB (decide (r14 < (bsz a1)))))] ?_
       refine i_o [16, 17, 18] h (fun h => ?_) (fun h => ?_)
       · refine o_r4 [(19, (.val undef)), (20, (.val undef)), (21, (.val undef)), (22, (vB true))] ?_
         refine s_tm (mkd (.val undef) 38 0 [(0, (vS a1)), (2, (.ptr 0 0)), (4, (vL cS r5)), (5, (vS a1)), (6, (vB false)), (8, (vS a1)), (9, (vI (bsz a1))), (10, (vB false)), (11, (vB false)), (12, (vS a1)), (13, (vI r14)), (14, (vS a1)), (15, (vI (bsz a1))), (16, (vB true)), (17, (vB true)), (18, (vB true)), (19, (.val undef)), (20, (.val undef)), (21, (.val undef)), (22, (vB true))]) ?_
         exact o_end (w12 _ _ (wkm [0, 2, 22] (whk wh_nil)) h)
       · refine o_r1 [(19, (vS a1))] ?_
         refine s_tm (mkd (.val undef) 38 0 [(0, (vS a1)), (2, (.ptr 0 0)), (4, (vL cS r5)), (5, (vS a1)), (6, (vB false)), (8, (vS a1)), (9, (vI (bsz a1))), (10, (vB false)), (11, (vB false)), (12, (vS a1)), (13, (vI r14)), (14, (vS a1)), (15, (vI (bsz a1))), (16, (vB false)), (17, (vB false)), (18, (vB false)), (19, (vS a1))]) ?_
         refine bnd h fun c17 g18 h => ?_
         refine o_g ?_
         refine o_o (one_idx (ki := .i64) g18) ?_
         refine o_r2 [(21, (vB (c17 == 95))), (22, (vB (c17 == 95)))] ?_
         exact o_end (w12 _ _ (wkm [0, 2, 22] (whk wh_nil)) h)
theorem ic54 : fnIC Try.prog H0 54 = some ([.tmp 2], 30, (.seq (.ops [⟨(some 2), none, .mov (.c (.bool false))⟩]) (.seq (.ops [⟨(some 4), none, .mov (.t 0)⟩, ⟨(some 5), none, .call 96 [(.t 4)]⟩, ⟨(some 3), none, .alloc 0 143 [] [(.int .i64 0), (.int .i64 0)]⟩, ⟨none, none, .st true 2 [] (.t 3) (.t 5)⟩]) (.seq (.ops [⟨(some 6), none, .faddr (.t 3) 1⟩, ⟨(some 7), none, .ld (.t 6) 1 false⟩, ⟨(some 8), none, .sc (.bin .eql 30) [(.t 7), (.c (.int .i64 0))]⟩, ⟨(some 9), none, .mov (.t 8)⟩, ⟨(some 10), (some (9, true)), .faddr (.t 3) 0⟩, ⟨(some 11), (some (9, true)), .ld (.t 10) 1 false⟩, ⟨(some 12), (some (9, true)), .sc (.bin .eql 3) [(.t 11), (.c (.int .i64 2))]⟩, ⟨(some 13), none, .pick (.t 9) (.t 12) (.c (.bool false))⟩, ⟨(some 14), none, .mov (.t 13)⟩, ⟨(some 15), (some (14, true)), .mov (.t 0)⟩, ⟨(some 16), (some (14, true)), .sc (.bin .neq 9) [(.t 15), (.c (.string ⟨#[73, 78, 84, 69, 71, 69, 82]⟩))]⟩, ⟨(some 17), none, .pick (.t 14) (.t 16) (.c (.bool false))⟩, ⟨(some 18), none, .mov (.t 17)⟩, ⟨(some 19), (some (18, true)), .mov (.t 0)⟩, ⟨(some 20), (some (18, true)), .sc (.bin .neq 9) [(.t 19), (.c (.string ⟨#[66, 79, 79, 76, 69, 65, 78]⟩))]⟩, ⟨(some 21), none, .pick (.t 18) (.t 20) (.c (.bool false))⟩, ⟨(some 22), none, .mov (.t 21)⟩, ⟨(some 23), (some (22, true)), .mov (.t 0)⟩, ⟨(some 24), (some (22, true)), .sc (.bin .neq 9) [(.t 23), (.c (.string ⟨#[65, 78, 89]⟩))]⟩, ⟨(some 25), none, .pick (.t 22) (.t 24) (.c (.bool false))⟩, ⟨(some 26), none, .mov (.t 25)⟩, ⟨(some 27), (some (26, true)), .mov (.t 0)⟩, ⟨(some 28), (some (26, true)), .sc (.bin .neq 9) [(.t 27), (.c (.string ⟨#[78, 79, 78, 69]⟩))]⟩, ⟨(some 29), none, .pick (.t 26) (.t 28) (.c (.bool false))⟩, ⟨(some 2), none, .mov (.t 29)⟩]) .ret)))) := by kernel_rfl
def f54_k6 (x16 : Bool) : Option Bool := some x16
def f54 (n : Nat) (a1 : ByteArray) : Option Bool := ((f96 n a1).bind fun r4 => (bif (r4.fE == 0) then (bif (r4.fK == 2) then (bif (!(sEqF a1 (ByteArray.mk #[73, 78, 84, 69, 71, 69, 82]))) then (bif (!(sEqF a1 (ByteArray.mk #[66, 79, 79, 76, 69, 65, 78]))) then (bif (!(sEqF a1 (ByteArray.mk #[65, 78, 89]))) then (f54_k6 (!(sEqF a1 (ByteArray.mk #[78, 79, 78, 69])))) else (f54_k6 false)) else (f54_k6 false)) else (f54_k6 false)) else (f54_k6 false)) else (f54_k6 false)))
def f54_r (r : Bool) : AV := (vB r)
theorem p_f54 {n : Nat} {a1 : ByteArray} {r : Bool} (h : f54 n a1 = some r) : PureSpec Try.prog 54 [(vS a1)] (f54_r r) := by
 rw [f54.eq_1] at h
 refine pure_of hmix ic54 ?_
 refine go_to (mkd (.val undef) 30 0 [(0, (vS a1))]) ?_
 refine s_so fun N2 k2 w2 => ?_
 refine o_r1 [(2, (vB false))] ?_
 refine o_end (k2 _ ?_)
 refine s_so fun N3 k3 w3 => ?_
 refine o_r1 [(4, (vS a1))] ?_
 refine bnd h fun r4 g5 h => ?_
 refine o_o (one_call (p_f96 g5)) ?_
 refine o_h2 [(3, (.ptr 0 0))] [(some (.box 143 [(vI r4.fK), (vI r4.fE)]))] ?_
 refine o_end (k3 _ ?_)
 refine J1 (r := r) (fun (x16 : Bool) => ⟨(mkd .any 30 0 [(2, (vB x16))]), []⟩) (f54_k6) ?_ ?_
 · intro x16 h
   rw [f54_k6.eq_1] at h
   exact c_ret (rets [] [(vB x16)] [(vB x16)] h)
 · intro N6 w6
   refine c_ops ?_
   refine o_r4 [(6, (.ptr 0 1)), (7, (vI r4.fE)), (8, (vB (r4.fE == 0))), (9, (vB (r4.fE == 0)))] ?_
   refine i_o [8, 9] h (fun h => ?_) (fun h => ?_)
   · refine o_r5 [(10, (.ptr 0 0)), (11, (vI r4.fK)), (12, (vB (r4.fK == 2))), (13, (vB (r4.fK == 2))), (14, (vB (r4.fK == 2)))] ?_
     refine i_o [12, 13, 14] h (fun h => ?_) (fun h => ?_)
     · refine o_r1 [(15, (vS a1))] ?_
       refine o_g ?_
       refine o_o (one_sc (vs := [.string a1, .string (ByteArray.mk #[73, 78, 84, 69, 71, 69, 82])]) (str_neq a1 (ByteArray.mk #[73, 78, 84, 69, 71, 69, 82]))) ?_
       refine o_r2 [(17, (vB (!(sEqF a1 (ByteArray.mk #[73, 78, 84, 69, 71, 69, 82]))))), (18, (vB (!(sEqF a1 (ByteArray.mk #[73, 78, 84, 69, 71, 69, 82])))))] ?_
       refine i_o [16, 17, 18] h (fun h => ?_) (fun h => ?_)
       · refine o_r1 [(19, (vS a1))] ?_
         refine s_tm (mkd (.val undef) 30 0 [(0, (vS a1)), (2, (vB false)), (3, (.ptr 0 0)), (4, (vS a1)), (5, (.agg [(vI r4.fK), (vI r4.fE)])), (6, (.ptr 0 1)), (7, (vI r4.fE)), (8, (vB true)), (9, (vB true)), (10, (.ptr 0 0)), (11, (vI r4.fK)), (12, (vB true)), (13, (vB true)), (14, (vB true)), (15, (vS a1)), (16, (vB true)), (17, (vB true)), (18, (vB true)), (19, (vS a1))]) ?_
         refine o_g ?_
         refine o_o (one_sc (vs := [.string a1, .string (ByteArray.mk #[66, 79, 79, 76, 69, 65, 78])]) (str_neq a1 (ByteArray.mk #[66, 79, 79, 76, 69, 65, 78]))) ?_
         refine o_r2 [(21, (vB (!(sEqF a1 (ByteArray.mk #[66, 79, 79, 76, 69, 65, 78]))))), (22, (vB (!(sEqF a1 (ByteArray.mk #[66, 79, 79, 76, 69, 65, 78])))))] ?_
         refine i_o [20, 21, 22] h (fun h => ?_) (fun h => ?_)
         · refine o_r1 [(23, (vS a1))] ?_
           refine o_g ?_
           refine o_o (one_sc (vs := [.string a1, .string (ByteArray.mk #[65, 78, 89])]) (str_neq a1 (ByteArray.mk #[65, 78, 89]))) ?_
           refine o_r2 [(25, (vB (!(sEqF a1 (ByteArray.mk #[65, 78, 89]))))), (26, (vB (!(sEqF a1 (ByteArray.mk #[65, 78, 89])))))] ?_
           refine i_o [24, 25, 26] h (fun h => ?_) (fun h => ?_)
           · refine o_r1 [(27, (vS a1))] ?_
             refine o_g ?_
             refine o_o (one_sc (vs := [.string a1, .string (ByteArray.mk #[78, 79, 78, 69])]) (str_neq a1 (ByteArray.mk #[78, 79, 78, 69]))) ?_
             refine o_r2 [(2, (vB (!(sEqF a1 (ByteArray.mk #[78, 79, 78, 69]))))), (29, (vB (!(sEqF a1 (ByteArray.mk #[78, 79, 78, 69])))))] ?_
             exact o_end (w6 _ _ (wkm [2] wh_nil) h)
           · refine o_r4 [(27, (.val undef)), (28, (.val undef)), (29, (vB false))] ?_
             exact o_end (w6 _ _ (wkm [2] wh_nil) h)
         · refine o_r8 [(23, (.val undef)), (24, (.val undef)), (25, (vB false)), (26, (vB false)), (27, (.val undef)), (28, (.val undef)), (29, (vB false))] ?_
           exact o_end (w6 _ _ (wkm [2] wh_nil) h)
       · refine o_r12 [(19, (.val undef)), (20, (.val undef)), (21, (vB false)), (22, (vB false)), (23, (.val undef)), (24, (.val undef)), (25, (vB false)), (26, (vB false)), (27, (.val undef)), (28, (.val undef)), (29, (vB false))] ?_
         refine s_tm (mkd (.val undef) 30 0 [(0, (vS a1)), (2, (vB false)), (3, (.ptr 0 0)), (4, (vS a1)), (5, (.agg [(vI r4.fK), (vI r4.fE)])), (6, (.ptr 0 1)), (7, (vI r4.fE)), (8, (vB true)), (9, (vB true)), (10, (.ptr 0 0)), (11, (vI r4.fK)), (12, (vB true)), (13, (vB true)), (14, (vB true)), (15, (vS a1)), (16, (vB false)), (17, (vB false)), (18, (vB false)), (19, (.val undef)), (20, (.val undef)), (21, (vB false)), (22, (vB false)), (23, (.val undef)), (24, (.val undef)), (25, (vB false)), (26, (vB false)), (27, (.val undef)), (28, (.val undef)), (29, (vB false))]) ?_
         exact o_end (w6 _ _ (wkm [2] wh_nil) h)
     · refine o_r16 [(15, (.val undef)), (16, (.val undef)), (17, (vB false)), (18, (vB false)), (19, (.val undef)), (20, (.val undef)), (21, (vB false)), (22, (vB false)), (23, (.val undef)), (24, (.val undef)), (25, (vB false)), (26, (vB false)), (27, (.val undef)), (28, (.val undef)), (29, (vB false))] ?_
       exact o_end (w6 _ _ (wkm [2] wh_nil) h)
   · refine o_r16 [(10, (.val undef)), (11, (.val undef)), (12, (.val undef)), (13, (vB false)), (14, (vB false)), (15, (.val undef)), (16, (.val undef)), (17, (vB false)), (18, (vB false)), (19, (.val undef)), (20, (.val undef)), (21, (vB false)), (22, (vB false)), (23, (.val undef)), (24, (.val undef)), (25, (vB false))] ?_
     refine o_r5 [(26, (vB false)), (27, (.val undef)), (28, (.val undef)), (29, (vB false))] ?_
     exact o_end (w6 _ _ (wkm [2] wh_nil) h)
theorem ic55 : fnIC Try.prog H0 55 = some ([.tmp 4], 20, (.seq (.ops [⟨(some 4), none, .mov (.c (.int .i64 0))⟩]) (.seq (.seq (.ops [⟨(some 5), none, .mov (.c (.int .i64 0))⟩]) (.block 0 (.loop (.seq (.seq (.ops [⟨(some 6), none, .mov (.t 5)⟩, ⟨(some 7), none, .mov (.t 0)⟩, ⟨(some 8), none, .len false (.t 7)⟩, ⟨(some 9), none, .sc (.bin .lss 3) [(.t 6), (.t 8)]⟩]) (.cond (.t 9)
  .skip
  (.exit 0))) (.seq (.block 1 (.seq (.ops [⟨(some 12), none, .mov (.t 0)⟩, ⟨(some 13), none, .mov (.t 5)⟩, ⟨(some 14), none, .iaddr 2 (.t 12) (.t 13)⟩, ⟨(some 15), none, .faddr (.t 14) 0⟩, ⟨(some 16), none, .ld (.t 15) 1 false⟩, ⟨(some 17), none, .mov (.t 1)⟩, ⟨(some 18), none, .sc (.bin .eql 9) [(.t 16), (.t 17)]⟩]) (.cond (.t 18)
  (.seq (.ops [⟨(some 19), none, .mov (.t 5)⟩, ⟨(some 4), none, .mov (.t 19)⟩]) .ret)
  .skip))) (.ops [⟨(some 10), none, .mov (.t 5)⟩, ⟨(some 11), none, .sc (.bin .add 3) [(.t 10), (.c (.int .i64 1))]⟩, ⟨(some 5), none, .mov (.t 11)⟩])))))) (.seq (.ops [⟨(some 4), none, .mov (.c (.int .i64 (-1)))⟩]) .ret)))) := by kernel_rfl
def f55_k4 : Option Int := some (-1)
def f55_l7 (a1 : (List Form)) (a2 : ByteArray) (k4k : Option Int) : Nat → Int → Option Int
  | 0, _ => none
  | m7 + 1, x20 => (bif (decide (x20 < (len a1))) then ((gi a1 x20).bind fun x28 => (bif (sEqF x28.fName a2) then some x20 else (f55_l7 a1 a2 (k4k) m7 (wr .i64 (x20 + 1))))) else (k4k))
def f55 (n : Nat) (a1 : (List Form)) (a2 : ByteArray) : Option Int := (f55_l7 a1 a2 (f55_k4) n 0)
def f55_r (r : Int) : AV := (vI r)
theorem p_f55 {n : Nat} {a1 : (List Form)} {a2 : ByteArray} {r : Int} (h : f55 n a1 a2 = some r) : PureSpec Try.prog 55 [(vL Form.c a1), (vS a2)] (f55_r r) := by
 rw [f55.eq_1] at h
 refine pure_of hmix ic55 ?_
 refine go_to (mkd (.val undef) 20 0 [(0, (vL Form.c a1)), (1, (vS a2))]) ?_
 refine s_so fun N3 k3 w3 => ?_
 refine o_r1 [(4, (vI 0))] ?_
 refine o_end (k3 _ ?_)
 refine J0 (r := r) ⟨(mkd .any 20 0 []), []⟩ (f55_k4) ?_ ?_
 · intro h
   rw [f55_k4.eq_1] at h
   refine s_so fun N33 k33 w33 => ?_
   refine o_r1 [(4, (vI (-1)))] ?_
   refine o_end (k33 _ ?_)
   exact c_ret (rets [] [(vI (-1))] [(vI (-1))] h)
 · intro N4 w4
   refine s_so fun N5 k5 w5 => ?_
   refine o_r1 [(5, (vI 0))] ?_
   refine o_end (k5 _ ?_)
   refine c_block fun E6 hE6 hO6 => ?_
   refine W1 (fun (x20 : Int) => ⟨(mkd .any 20 0 [(0, (vL Form.c a1)), (1, (vS a2)), (5, (vI x20))]), []⟩) (f55_l7 a1 a2 (f55_k4)) h (wkm [0, 1, 5] wh_nil) (by intros; rw [f55_l7.eq_1]) ?_
   intro m7 x20 h N7 w7
   rw [f55_l7.eq_2] at h
   refine s_seq fun N21 k21 w21 => ?_
   refine s_so fun N22 k22 w22 => ?_
   refine o_r2 [(6, (vI x20)), (7, (vL Form.c a1))] ?_
   refine o_o (one_len (f := Form.c) (l := a1)) ?_
   refine o_r1 [(9, (vB (decide (x20 < (len a1)))))] ?_
   refine o_end (k22 _ ?_)
   refine i_c [9] h (fun h => ?_) (fun h => ?_)
   · refine c_skip (k21 _ ?_)
     refine s_seq fun N25 k25 w25 => ?_
     refine c_block fun E26 hE26 hO26 => ?_
     refine s_so fun N27 k27 w27 => ?_
     refine o_r2 [(12, (vL Form.c a1)), (13, (vI x20))] ?_
     refine bnd h fun x28 g29 h => ?_
     refine o_o (one_ia (f := Form.c) (ki := .i64) g29) ?_
     refine o_r3 [(15, (.iptr [(vS x28.fName), (vL Col.c x28.fCols)])), (16, (vS x28.fName)), (17, (vS a2))] ?_
     refine o_o (one_sc (vs := [.string x28.fName, .string a2]) (str_eql x28.fName a2)) ?_
     refine o_end (k27 _ ?_)
     refine i_c [18] h (fun h => ?_) (fun h => ?_)
     · refine s_so fun N32 k32 w32 => ?_
       refine o_r2 [(4, (vI x20)), (19, (vI x20))] ?_
       refine o_end (k32 _ ?_)
       exact c_ret (rets [] [(vI x20)] [(vI x20)] h)
     · refine c_skip (k25 _ ?_)
       refine c_ops ?_
       refine o_r3 [(5, (vI (wr .i64 (x20 + 1)))), (10, (vI x20)), (11, (vI (wr .i64 (x20 + 1))))] ?_
       exact o_end (w7 _ _ (wkm [0, 1, 5] wh_nil) h)
   · refine c_exit (hE6 _ ?_)
     exact w4 _ (wkm [] wh_nil) h
theorem ic56 : fnIC Try.prog H0 56 = some ([.tmp 2], 77, (.seq (.ops [⟨(some 2), none, .mov (.c (.bool false))⟩]) (.seq (.seq (.ops [⟨(some 5), none, .mov (.t 0)⟩, ⟨(some 6), none, .len true (.t 5)⟩, ⟨(some 7), none, .sc (.bin .lss 3) [(.t 6), (.c (.int .i64 1))]⟩, ⟨(some 8), none, .mov (.t 7)⟩, ⟨(some 9), (some (8, false)), .mov (.t 0)⟩, ⟨(some 10), (some (8, false)), .len true (.t 9)⟩, ⟨(some 11), (some (8, false)), .sc (.bin .gtr 3) [(.t 10), (.c (.int .i64 20))]⟩, ⟨(some 12), none, .pick (.t 8) (.c (.bool true)) (.t 11)⟩, ⟨(some 13), none, .mov (.t 12)⟩, ⟨(some 14), (some (13, false)), .mov (.t 0)⟩, ⟨(some 15), (some (13, false)), .sc (.idx 9) [(.t 14), (.c (.int .i64 0))]⟩, ⟨(some 16), (some (13, false)), .sc (.bin .lss 5) [(.t 15), (.c (.int .u8 97))]⟩, ⟨(some 17), none, .pick (.t 13) (.c (.bool true)) (.t 16)⟩, ⟨(some 18), none, .mov (.t 17)⟩, ⟨(some 19), (some (18, false)), .mov (.t 0)⟩, ⟨(some 20), (some (18, false)), .sc (.idx 9) [(.t 19), (.c (.int .i64 0))]⟩, ⟨(some 21), (some (18, false)), .sc (.bin .gtr 5) [(.t 20), (.c (.int .u8 122))]⟩, ⟨(some 22), none, .pick (.t 18) (.c (.bool true)) (.t 21)⟩]) (.cond (.t 22)
  (.seq (.ops [⟨(some 2), none, .mov (.c (.bool false))⟩]) .ret)
  .skip)) (.seq (.seq (.ops [⟨(some 3), none, .mov (.c (.int .i64 0))⟩]) (.block 0 (.loop (.seq (.seq (.ops [⟨(some 23), none, .mov (.t 3)⟩, ⟨(some 24), none, .mov (.t 0)⟩, ⟨(some 25), none, .len true (.t 24)⟩, ⟨(some 26), none, .sc (.bin .lss 3) [(.t 23), (.t 25)]⟩]) (.cond (.t 26)
  .skip
  (.exit 0))) (.seq (.block 1 (.seq (.ops [⟨(some 29), none, .mov (.t 0)⟩, ⟨(some 30), none, .mov (.t 3)⟩, ⟨(some 31), none, .sc (.idx 9) [(.t 29), (.t 30)]⟩, ⟨(some 32), none, .sc (.bin .geq 5) [(.t 31), (.c (.int .u8 97))]⟩, ⟨(some 33), none, .mov (.t 32)⟩, ⟨(some 34), (some (33, true)), .mov (.t 0)⟩, ⟨(some 35), (some (33, true)), .mov (.t 3)⟩, ⟨(some 36), (some (33, true)), .sc (.idx 9) [(.t 34), (.t 35)]⟩, ⟨(some 37), (some (33, true)), .sc (.bin .leq 5) [(.t 36), (.c (.int .u8 122))]⟩, ⟨(some 38), none, .pick (.t 33) (.t 37) (.c (.bool false))⟩, ⟨(some 39), none, .mov (.t 38)⟩, ⟨(some 40), (some (39, false)), .mov (.t 0)⟩, ⟨(some 41), (some (39, false)), .mov (.t 3)⟩, ⟨(some 42), (some (39, false)), .sc (.idx 9) [(.t 40), (.t 41)]⟩, ⟨(some 43), (some (39, false)), .sc (.bin .geq 5) [(.t 42), (.c (.int .u8 48))]⟩, ⟨(some 44), (some (39, false)), .mov (.t 43)⟩, ⟨(some 45), (some (44, true)), .mov (.t 0)⟩, ⟨(some 46), (some (44, true)), .mov (.t 3)⟩, ⟨(some 47), (some (44, true)), .sc (.idx 9) [(.t 45), (.t 46)]⟩, ⟨(some 48), (some (44, true)), .sc (.bin .leq 5) [(.t 47), (.c (.int .u8 57))]⟩, ⟨(some 49), (some (39, false)), .pick (.t 44) (.t 48) (.c (.bool false))⟩, ⟨(some 50), none, .pick (.t 39) (.c (.bool true)) (.t 49)⟩, ⟨(some 51), none, .mov (.t 50)⟩, ⟨(some 52), (some (51, false)), .mov (.t 0)⟩, ⟨(some 53), (some (51, false)), .mov (.t 3)⟩, ⟨(some 54), (some (51, false)), .sc (.idx 9) [(.t 52), (.t 53)]⟩, ⟨(some 55), (some (51, false)), .sc (.bin .eql 5) [(.t 54), (.c (.int .u8 95))]⟩, ⟨(some 56), none, .pick (.t 51) (.c (.bool true)) (.t 55)⟩, ⟨(some 4), none, .mov (.t 56)⟩]) (.seq (.ops [⟨(some 57), none, .mov (.t 4)⟩, ⟨(some 58), none, .sc (.un .not) [(.t 57)]⟩]) (.cond (.t 58)
  (.seq (.ops [⟨(some 2), none, .mov (.c (.bool false))⟩]) .ret)
  .skip)))) (.ops [⟨(some 27), none, .mov (.t 3)⟩, ⟨(some 28), none, .sc (.bin .add 3) [(.t 27), (.c (.int .i64 1))]⟩, ⟨(some 3), none, .mov (.t 28)⟩])))))) (.seq (.ops [⟨(some 59), none, .mov (.t 0)⟩, ⟨(some 60), none, .sc (.bin .neq 9) [(.t 59), (.c (.string ⟨#[116, 114, 117, 101]⟩))]⟩, ⟨(some 61), none, .mov (.t 60)⟩, ⟨(some 62), (some (61, true)), .mov (.t 0)⟩, ⟨(some 63), (some (61, true)), .sc (.bin .neq 9) [(.t 62), (.c (.string ⟨#[102, 97, 108, 115, 101]⟩))]⟩, ⟨(some 64), none, .pick (.t 61) (.t 63) (.c (.bool false))⟩, ⟨(some 65), none, .mov (.t 64)⟩, ⟨(some 66), (some (65, true)), .mov (.t 0)⟩, ⟨(some 67), (some (65, true)), .sc (.bin .neq 9) [(.t 66), (.c (.string ⟨#[118, 111, 105, 100]⟩))]⟩, ⟨(some 68), none, .pick (.t 65) (.t 67) (.c (.bool false))⟩, ⟨(some 69), none, .mov (.t 68)⟩, ⟨(some 70), (some (69, true)), .mov (.t 0)⟩, ⟨(some 71), (some (69, true)), .sc (.bin .neq 9) [(.t 70), (.c (.string ⟨#[99, 117, 114, 114, 101, 110, 116]⟩))]⟩, ⟨(some 72), none, .pick (.t 69) (.t 71) (.c (.bool false))⟩, ⟨(some 73), none, .mov (.t 72)⟩, ⟨(some 74), (some (73, true)), .mov (.t 0)⟩, ⟨(some 75), (some (73, true)), .sc (.bin .neq 9) [(.t 74), (.c (.string ⟨#[114, 101, 115, 117, 108, 116]⟩))]⟩, ⟨(some 76), none, .pick (.t 73) (.t 75) (.c (.bool false))⟩, ⟨(some 2), none, .mov (.t 76)⟩]) .ret))))) := by kernel_rfl
def f56_k61 (x55 : Int) (c18k : Int → Option Bool) (x88 : Bool) : Option Bool := (bif (!x88) then some false else (c18k (wr .i64 (x55 + 1))))
def f56_k92 (x102 : Bool) : Option Bool := some x102
def f56_k15 (a1 : ByteArray) : Option Bool := (bif (!(sEqF a1 (ByteArray.mk #[116, 114, 117, 101]))) then (bif (!(sEqF a1 (ByteArray.mk #[102, 97, 108, 115, 101]))) then (bif (!(sEqF a1 (ByteArray.mk #[118, 111, 105, 100]))) then (bif (!(sEqF a1 (ByteArray.mk #[99, 117, 114, 114, 101, 110, 116]))) then (f56_k92 (!(sEqF a1 (ByteArray.mk #[114, 101, 115, 117, 108, 116])))) else (f56_k92 false)) else (f56_k92 false)) else (f56_k92 false)) else (f56_k92 false))
def f56_l18 (a1 : ByteArray) (k15k : Option Bool) : Nat → Int → Option Bool
  | 0, _ => none
  | m18 + 1, x55 => (bif (decide (x55 < (bsz a1))) then ((si a1 x55).bind fun c62 => (bif (decide (c62 ≥ 97)) then ((si a1 x55).bind fun c65 => (bif (decide (c65 ≤ 122)) then (f56_k61 x55 (f56_l18 a1 (k15k) m18) true) else ((si a1 x55).bind fun c68 => (bif (decide (c68 ≥ 48)) then ((si a1 x55).bind fun c71 => (bif (decide (c71 ≤ 57)) then (f56_k61 x55 (f56_l18 a1 (k15k) m18) true) else ((si a1 x55).bind fun c74 => (f56_k61 x55 (f56_l18 a1 (k15k) m18) (c74 == 95))))) else ((si a1 x55).bind fun c76 => (f56_k61 x55 (f56_l18 a1 (k15k) m18) (c76 == 95))))))) else ((si a1 x55).bind fun c78 => (bif (decide (c78 ≥ 48)) then ((si a1 x55).bind fun c81 => (bif (decide (c81 ≤ 57)) then (f56_k61 x55 (f56_l18 a1 (k15k) m18) true) else ((si a1 x55).bind fun c84 => (f56_k61 x55 (f56_l18 a1 (k15k) m18) (c84 == 95))))) else ((si a1 x55).bind fun c86 => (f56_k61 x55 (f56_l18 a1 (k15k) m18) (c86 == 95))))))) else (k15k))
def f56_k4 (n : Nat) (a1 : ByteArray) (x12 : Bool) : Option Bool := (bif x12 then some false else (f56_l18 a1 (f56_k15 a1) n 0))
def f56 (n : Nat) (a1 : ByteArray) : Option Bool := (bif (decide ((bsz a1) < 1)) then (f56_k4 n a1 true) else (bif (decide ((bsz a1) > 20)) then (f56_k4 n a1 true) else ((si a1 0).bind fun c7 => (bif (decide (c7 < 97)) then (f56_k4 n a1 true) else ((si a1 0).bind fun c10 => (f56_k4 n a1 (decide (c10 > 122))))))))
def f56_r (r : Bool) : AV := (vB r)
theorem p_f56 {n : Nat} {a1 : ByteArray} {r : Bool} (h : f56 n a1 = some r) : PureSpec Try.prog 56 [(vS a1)] (f56_r r) := by
 rw [f56.eq_1] at h
 refine pure_of hmix ic56 ?_
 refine go_to (mkd (.val undef) 77 0 [(0, (vS a1))]) ?_
 refine s_so fun N2 k2 w2 => ?_
 refine o_r1 [(2, (vB false))] ?_
 refine o_end (k2 _ ?_)
 refine s_seq fun N3 k3 w3 => ?_
 refine J1 (r := r) (fun (x12 : Bool) => ⟨(mkd .any 77 0 [(0, (vS a1)), (22, (vB x12))]), []⟩) (f56_k4 n a1) ?_ ?_
 · intro x12 h
   rw [f56_k4.eq_1] at h
   refine i_c [22] h (fun h => ?_) (fun h => ?_)
   · refine s_so fun N14 k14 w14 => ?_
     refine o_r1 [(2, (vB false))] ?_
     refine o_end (k14 _ ?_)
     exact c_ret (rets [] [(vB false)] [(vB false)] h)
   · refine c_skip (k3 _ ?_)
     refine J0 (r := r) ⟨(mkd .any 77 0 [(0, (vS a1))]), []⟩ (f56_k15 a1) ?_ ?_
     · intro h
       rw [f56_k15.eq_1] at h
       refine J1 (r := r) (fun (x102 : Bool) => ⟨(mkd .any 77 0 [(2, (vB x102))]), []⟩) (f56_k92) ?_ ?_
       · intro x102 h
         rw [f56_k92.eq_1] at h
         exact c_ret (rets [] [(vB x102)] [(vB x102)] h)
       · intro N92 w92
         refine c_ops ?_
         refine o_r1 [(59, (vS a1))] ?_
         refine o_o (one_sc (vs := [.string a1, .string (ByteArray.mk #[116, 114, 117, 101])]) (str_neq a1 (ByteArray.mk #[116, 114, 117, 101]))) ?_
         refine o_r1 [(61, (vB (!(sEqF a1 (ByteArray.mk #[116, 114, 117, 101])))))] ?_
         refine i_o [60, 61] h (fun h => ?_) (fun h => ?_)
         · refine o_r1 [(62, (vS a1))] ?_
           refine o_g ?_
           refine o_o (one_sc (vs := [.string a1, .string (ByteArray.mk #[102, 97, 108, 115, 101])]) (str_neq a1 (ByteArray.mk #[102, 97, 108, 115, 101]))) ?_
           refine o_r2 [(64, (vB (!(sEqF a1 (ByteArray.mk #[102, 97, 108, 115, 101]))))), (65, (vB (!(sEqF a1 (ByteArray.mk #[102, 97, 108, 115, 101])))))] ?_
           refine i_o [63, 64, 65] h (fun h => ?_) (fun h => ?_)
           · refine o_r1 [(66, (vS a1))] ?_
             refine o_g ?_
             refine o_o (one_sc (vs := [.string a1, .string (ByteArray.mk #[118, 111, 105, 100])]) (str_neq a1 (ByteArray.mk #[118, 111, 105, 100]))) ?_
             refine o_r2 [(68, (vB (!(sEqF a1 (ByteArray.mk #[118, 111, 105, 100]))))), (69, (vB (!(sEqF a1 (ByteArray.mk #[118, 111, 105, 100])))))] ?_
             refine i_o [67, 68, 69] h (fun h => ?_) (fun h => ?_)
             · refine o_r1 [(70, (vS a1))] ?_
               refine s_tm (mkd .any 77 0 [(0, (vS a1)), (59, (vS a1)), (60, (vB true)), (61, (vB true)), (62, (vS a1)), (63, (vB true)), (64, (vB true)), (65, (vB true)), (66, (vS a1)), (67, (vB true)), (68, (vB true)), (69, (vB true)), (70, (vS a1))]) ?_
               refine o_g ?_
               refine o_o (one_sc (vs := [.string a1, .string (ByteArray.mk #[99, 117, 114, 114, 101, 110, 116])]) (str_neq a1 (ByteArray.mk #[99, 117, 114, 114, 101, 110, 116]))) ?_
               refine o_r2 [(72, (vB (!(sEqF a1 (ByteArray.mk #[99, 117, 114, 114, 101, 110, 116]))))), (73, (vB (!(sEqF a1 (ByteArray.mk #[99, 117, 114, 114, 101, 110, 116])))))] ?_
               refine i_o [71, 72, 73] h (fun h => ?_) (fun h => ?_)
               · refine o_r1 [(74, (vS a1))] ?_
                 refine o_g ?_
                 refine o_o (one_sc (vs := [.string a1, .string (ByteArray.mk #[114, 101, 115, 117, 108, 116])]) (str_neq a1 (ByteArray.mk #[114, 101, 115, 117, 108, 116]))) ?_
                 refine o_r2 [(2, (vB (!(sEqF a1 (ByteArray.mk #[114, 101, 115, 117, 108, 116]))))), (76, (vB (!(sEqF a1 (ByteArray.mk #[114, 101, 115, 117, 108, 116])))))] ?_
                 exact o_end (w92 _ _ (wkm [2] wh_nil) h)
               · refine o_r4 [(2, (vB false)), (74, (.val undef)), (75, (.val undef)), (76, (vB false))] ?_
                 exact o_end (w92 _ _ (wkm [2] wh_nil) h)
             · refine o_r8 [(2, (vB false)), (70, (.val undef)), (71, (.val undef)), (72, (vB false)), (73, (vB false)), (74, (.val undef)), (75, (.val undef)), (76, (vB false))] ?_
               refine s_tm (mkd .any 77 0 [(0, (vS a1)), (2, (vB false)), (59, (vS a1)), (60, (vB true)), (61, (vB true)), (62, (vS a1)), (63, (vB true)), (64, (vB true)), (65, (vB true)), (66, (vS a1)), (67, (vB false)), (68, (vB false)), (69, (vB false)), (70, (.val undef)), (71, (.val undef)), (72, (vB false)), (73, (vB false)), (74, (.val undef)), (75, (.val undef)), (76, (vB false))]) ?_
               exact o_end (w92 _ _ (wkm [2] wh_nil) h)
           · refine o_r12 [(2, (vB false)), (66, (.val undef)), (67, (.val undef)), (68, (vB false)), (69, (vB false)), (70, (.val undef)), (71, (.val undef)), (72, (vB false)), (73, (vB false)), (74, (.val undef)), (75, (.val undef)), (76, (vB false))] ?_
             exact o_end (w92 _ _ (wkm [2] wh_nil) h)
         · refine o_r16 [(2, (vB false)), (62, (.val undef)), (63, (.val undef)), (64, (vB false)), (65, (vB false)), (66, (.val undef)), (67, (.val undef)), (68, (vB false)), (69, (vB false)), (70, (.val undef)), (71, (.val undef)), (72, (vB false)), (73, (vB false)), (74, (.val undef)), (75, (.val undef)), (76, (vB false))] ?_
           exact o_end (w92 _ _ (wkm [2] wh_nil) h)
     · intro N15 w15
       refine s_so fun N16 k16 w16 => ?_
       refine o_r1 [(3, (vI 0))] ?_
       refine o_end (k16 _ ?_)
       refine c_block fun E17 hE17 hO17 => ?_
       refine W1 (fun (x55 : Int) => ⟨(mkd .any 77 0 [(0, (vS a1)), (3, (vI x55))]), []⟩) (f56_l18 a1 (f56_k15 a1)) h (wkm [0, 3] wh_nil) (by intros; rw [f56_l18.eq_1]) ?_
       intro m18 x55 h N18 w18
       rw [f56_l18.eq_2] at h
       refine s_seq fun N56 k56 w56 => ?_
       refine s_so fun N57 k57 w57 => ?_
       refine o_r4 [(23, (vI x55)), (24, (vS a1)), (25, (vI (bsz a1))), (26, (vB (decide (x55 < (bsz a1)))))] ?_
       refine o_end (k57 _ ?_)
       refine i_c [26] h (fun h => ?_) (fun h => ?_)
       · refine c_skip (k56 _ ?_)
         refine s_seq fun N59 k59 w59 => ?_
         refine c_block fun E60 hE60 hO60 => ?_
         refine J1 (r := r) (fun (x88 : Bool) => ⟨(mkd .any 77 0 [(0, (vS a1)), (3, (vI x55)), (4, (vB x88))]), []⟩) (f56_k61 x55 (f56_l18 a1 (f56_k15 a1) m18)) ?_ ?_
         · intro x88 h
           rw [f56_k61.eq_1] at h
           refine s_so fun N89 k89 w89 => ?_
           refine o_r2 [(57, (vB x88)), (58, (vB (!x88)))] ?_
           refine o_end (k89 _ ?_)
           refine i_c [58] h (fun h => ?_) (fun h => ?_)
           · refine s_so fun N91 k91 w91 => ?_
             refine o_r1 [(2, (vB false))] ?_
             refine o_end (k91 _ ?_)
             exact c_ret (rets [] [(vB false)] [(vB false)] h)
           · refine c_skip (k59 _ ?_)
             refine c_ops ?_
             refine o_r3 [(3, (vI (wr .i64 (x55 + 1)))), (27, (vI x55)), (28, (vI (wr .i64 (x55 + 1))))] ?_
             exact o_end (w18 _ _ (wkm [0, 3] wh_nil) h)
         · intro N61 w61
           refine c_ops ?_
           refine o_r2 [(29, (vS a1)), (30, (vI x55))] ?_
           refine bnd h fun c62 g63 h => ?_
           refine o_o (one_idx (ki := .i64) g63) ?_
           refine o_r2 [(32, (vB (decide (c62 ≥ 97)))), (33, (vB (decide (c62 ≥ 97))))] ?_
           refine i_o [32, 33] h (fun h => ?_) (fun h => ?_)
           · refine o_r2 [(34, (vS a1)), (35, (vI x55))] ?_
             refine bnd h fun c65 g66 h => ?_
             refine o_g ?_
             refine o_o (one_idx (ki := .i64) g66) ?_
             refine o_r3 [(37, (vB (decide (c65 ≤ 122)))), (38, (vB (decide (c65 ≤ 122)))), (39, (vB (decide (c65 ≤ 122))))] ?_
             refine i_o [37, 38, 39] h (fun h => ?_) (fun h => ?_)
             · refine o_r16 [(40, (.val undef)), (41, (.val undef)), (42, (.val undef)), (43, (.val undef)), (44, (.val undef)), (45, (.val undef)), (46, (.val undef)), (47, (.val undef)), (48, (.val undef)), (49, (.val undef)), (50, (vB true)), (51, (vB true)), (52, (.val undef)), (53, (.val undef)), (54, (.val undef)), (55, (.val undef))] ?_
               refine o_r2 [(4, (vB true)), (56, (vB true))] ?_
               exact o_end (w61 _ _ (wkm [0, 3, 4] wh_nil) h)
             · refine o_r2 [(40, (vS a1)), (41, (vI x55))] ?_
               refine bnd h fun c68 g69 h => ?_
               refine o_g ?_
               refine o_o (one_idx (ki := .i64) g69) ?_
               refine o_r2 [(43, (vB (decide (c68 ≥ 48)))), (44, (vB (decide (c68 ≥ 48))))] ?_
               refine s_tm (mkd .any 77 0 [(0, (vS a1)), (3, (vI x55)), (23, (vI x55)), (24, (vS a1)), (25, (vI (bsz a1))), (26, (vB true)), (29, (vS a1)), (30, (vI x55)), (31, (vKi .u8 c62)), (32, (vB true)), (33, (vB true)), (34, (vS a1)), (35, (vI x55)), (36, (vKi .u8 c65)), (37, (vB false)), (38, (vB false)), (39, (vB false)), (40, (vS a1)), (41, (vI x55)), (42, (vKi .u8 c68)), (43, (vB (decide (c68 ≥ 48)))), (44, (vB (decide (c68 ≥ 48))))]) ?_
               refine i_o [43, 44] h (fun h => ?_) (fun h => ?_)
               · refine o_r2 [(45, (vS a1)), (46, (vI x55))] ?_
                 refine bnd h fun c71 g72 h => ?_
                 refine o_g ?_
                 refine o_o (one_idx (ki := .i64) g72) ?_
                 refine o_r4 [(48, (vB (decide (c71 ≤ 57)))), (49, (vB (decide (c71 ≤ 57)))), (50, (vB (decide (c71 ≤ 57)))), (51, (vB (decide (c71 ≤ 57))))] ?_
                 refine i_o [48, 49, 50, 51] h (fun h => ?_) (fun h => ?_)
                 · refine o_r6 [(4, (vB true)), (52, (.val undef)), (53, (.val undef)), (54, (.val undef)), (55, (.val undef)), (56, (vB true))] ?_
                   exact o_end (w61 _ _ (wkm [0, 3, 4] wh_nil) h)
                 · refine o_r2 [(52, (vS a1)), (53, (vI x55))] ?_
                   refine bnd h fun c74 g75 h => ?_
                   refine o_g ?_
                   refine o_o (one_idx (ki := .i64) g75) ?_
                   refine o_r3 [(4, (vB (c74 == 95))), (55, (vB (c74 == 95))), (56, (vB (c74 == 95)))] ?_
                   exact o_end (w61 _ _ (wkm [0, 3, 4] wh_nil) h)
               · refine o_r9 [(45, (.val undef)), (46, (.val undef)), (47, (.val undef)), (48, (.val undef)), (49, (vB false)), (50, (vB false)), (51, (vB false)), (52, (vS a1)), (53, (vI x55))] ?_
                 refine bnd h fun c76 g77 h => ?_
                 refine o_g ?_
                 refine o_o (one_idx (ki := .i64) g77) ?_
                 refine o_r3 [(4, (vB (c76 == 95))), (55, (vB (c76 == 95))), (56, (vB (c76 == 95)))] ?_
                 exact o_end (w61 _ _ (wkm [0, 3, 4] wh_nil) h)
           · refine o_r8 [(34, (.val undef)), (35, (.val undef)), (36, (.val undef)), (37, (.val undef)), (38, (vB false)), (39, (vB false)), (40, (vS a1)), (41, (vI x55))] ?_
             refine bnd h fun c78 g79 h => ?_
             refine o_g ?_
             refine o_o (one_idx (ki := .i64) g79) ?_
             refine o_r2 [(43, (vB (decide (c78 ≥ 48)))), (44, (vB (decide (c78 ≥ 48))))] ?_
             refine i_o [43, 44] h (fun h => ?_) (fun h => ?_)
             · refine o_r2 [(45, (vS a1)), (46, (vI x55))] ?_
               refine bnd h fun c81 g82 h => ?_
               refine o_g ?_
               refine o_o (one_idx (ki := .i64) g82) ?_
               refine o_r4 [(48, (vB (decide (c81 ≤ 57)))), (49, (vB (decide (c81 ≤ 57)))), (50, (vB (decide (c81 ≤ 57)))), (51, (vB (decide (c81 ≤ 57))))] ?_
               refine s_tm (mkd .any 77 0 [(0, (vS a1)), (3, (vI x55)), (23, (vI x55)), (24, (vS a1)), (25, (vI (bsz a1))), (26, (vB true)), (29, (vS a1)), (30, (vI x55)), (31, (vKi .u8 c62)), (32, (vB false)), (33, (vB false)), (34, (.val undef)), (35, (.val undef)), (36, (.val undef)), (37, (.val undef)), (38, (vB false)), (39, (vB false)), (40, (vS a1)), (41, (vI x55)), (42, (vKi .u8 c78)), (43, (vB true)), (44, (vB true)), (45, (vS a1)), (46, (vI x55)), (47, (vKi .u8 c81)), (48, (vB (decide (c81 ≤ 57)))), (49, (vB (decide (c81 ≤ 57)))), (50, (vB (decide (c81 ≤ 57)))), (51, (vB (decide (c81 ≤ 57))))]) ?_
               refine i_o [48, 49, 50, 51] h (fun h => ?_) (fun h => ?_)
               · refine o_r6 [(4, (vB true)), (52, (.val undef)), (53, (.val undef)), (54, (.val undef)), (55, (.val undef)), (56, (vB true))] ?_
                 exact o_end (w61 _ _ (wkm [0, 3, 4] wh_nil) h)
               · refine o_r2 [(52, (vS a1)), (53, (vI x55))] ?_
                 refine bnd h fun c84 g85 h => ?_
                 refine o_g ?_
                 refine o_o (one_idx (ki := .i64) g85) ?_
                 refine o_r3 [(4, (vB (c84 == 95))), (55, (vB (c84 == 95))), (56, (vB (c84 == 95)))] ?_
                 exact o_end (w61 _ _ (wkm [0, 3, 4] wh_nil) h)
             · refine o_r9 [(45, (.val undef)), (46, (.val undef)), (47, (.val undef)), (48, (.val undef)), (49, (vB false)), (50, (vB false)), (51, (vB false)), (52, (vS a1)), (53, (vI x55))] ?_
               refine bnd h fun c86 g87 h => ?_
               refine o_g ?_
               refine o_o (one_idx (ki := .i64) g87) ?_
               refine o_r3 [(4, (vB (c86 == 95))), (55, (vB (c86 == 95))), (56, (vB (c86 == 95)))] ?_
               refine s_tm (mkd .any 77 0 [(0, (vS a1)), (3, (vI x55)), (4, (vB (c86 == 95))), (23, (vI x55)), (24, (vS a1)), (25, (vI (bsz a1))), (26, (vB true)), (29, (vS a1)), (30, (vI x55)), (31, (vKi .u8 c62)), (32, (vB false)), (33, (vB false)), (34, (.val undef)), (35, (.val undef)), (36, (.val undef)), (37, (.val undef)), (38, (vB false)), (39, (vB false)), (40, (vS a1)), (41, (vI x55)), (42, (vKi .u8 c78)), (43, (vB false)), (44, (vB false)), (45, (.val undef)), (46, (.val undef)), (47, (.val undef)), (48, (.val undef)), (49, (vB false)), (50, (vB false)), (51, (vB false)), (52, (vS a1)), (53, (vI x55)), (54, (vKi .u8 c86)), (55, (vB (c86 == 95))), (56, (vB (c86 == 95)))]) ?_
               exact o_end (w61 _ _ (wkm [0, 3, 4] wh_nil) h)
       · refine c_exit (hE17 _ ?_)
         exact w15 _ (wkm [0] wh_nil) h
 · intro N4 w4
   refine c_ops ?_
   refine o_r4 [(5, (vS a1)), (6, (vI (bsz a1))), (7, (vB (decide ((bsz a1) < 1)))), (8, (vB (decide ((bsz a1) < 1))))] ?_
   refine i_o [7, 8] h (fun h => ?_) (fun h => ?_)
   · refine o_r14 [(9, (.val undef)), (10, (.val undef)), (11, (.val undef)), (12, (vB true)), (13, (vB true)), (14, (.val undef)), (15, (.val undef)), (16, (.val undef)), (17, (vB true)), (18, (vB true)), (19, (.val undef)), (20, (.val undef)), (21, (.val undef)), (22, (vB true))] ?_
     exact o_end (w4 _ _ (wkm [0, 22] wh_nil) h)
   · refine o_r5 [(9, (vS a1)), (10, (vI (bsz a1))), (11, (vB (decide ((bsz a1) > 20)))), (12, (vB (decide ((bsz a1) > 20)))), (13, (vB (decide ((bsz a1) > 20))))] ?_
     refine i_o [11, 12, 13] h (fun h => ?_) (fun h => ?_)
     · refine o_r9 [(14, (.val undef)), (15, (.val undef)), (16, (.val undef)), (17, (vB true)), (18, (vB true)), (19, (.val undef)), (20, (.val undef)), (21, (.val undef)), (22, (vB true))] ?_
       exact o_end (w4 _ _ (wkm [0, 22] wh_nil) h)
     · refine o_r1 [(14, (vS a1))] ?_
       refine bnd h fun c7 g8 h => ?_
       refine o_g ?_
       refine o_o (one_idx (ki := .i64) g8) ?_
       refine o_r3 [(16, (vB (decide (c7 < 97)))), (17, (vB (decide (c7 < 97)))), (18, (vB (decide (c7 < 97))))] ?_
       refine i_o [16, 17, 18] h (fun h => ?_) (fun h => ?_)
       · refine o_r4 [(19, (.val undef)), (20, (.val undef)), (21, (.val undef)), (22, (vB true))] ?_
         exact o_end (w4 _ _ (wkm [0, 22] wh_nil) h)
       · refine o_r1 [(19, (vS a1))] ?_
         refine bnd h fun c10 g11 h => ?_
         refine o_g ?_
         refine o_o (one_idx (ki := .i64) g11) ?_
         refine o_r2 [(21, (vB (decide (c10 > 122)))), (22, (vB (decide (c10 > 122))))] ?_
         refine s_tm (mkd (.val undef) 77 0 [(0, (vS a1)), (2, (vB false)), (5, (vS a1)), (6, (vI (bsz a1))), (7, (vB false)), (8, (vB false)), (9, (vS a1)), (10, (vI (bsz a1))), (11, (vB false)), (12, (vB false)), (13, (vB false)), (14, (vS a1)), (15, (vKi .u8 c7)), (16, (vB false)), (17, (vB false)), (18, (vB false)), (19, (vS a1)), (20, (vKi .u8 c10)), (21, (vB (decide (c10 > 122)))), (22, (vB (decide (c10 > 122))))]) ?_
         exact o_end (w4 _ _ (wkm [0, 22] wh_nil) h)
theorem ic57 : fnIC Try.prog H0 57 = some ([.tmp 4], 22, (.seq (.ops [⟨(some 2), none, .box 0 91 [(1, 93, 3, 0)] (.t 0)⟩, ⟨(some 4), none, .mov (.c (.int .i64 0))⟩]) (.seq (.seq (.ops [⟨(some 5), none, .mov (.c (.int .i64 0))⟩]) (.block 0 (.loop (.seq (.seq (.ops [⟨(some 6), none, .mov (.t 5)⟩, ⟨(some 7), none, .faddr (.t 2) 1⟩, ⟨(some 8), none, .ld (.t 7) 1 false⟩, ⟨(some 9), none, .len false (.t 8)⟩, ⟨(some 10), none, .sc (.bin .lss 3) [(.t 6), (.t 9)]⟩]) (.cond (.t 10)
  .skip
  (.exit 0))) (.seq (.block 1 (.seq (.ops [⟨(some 13), none, .faddr (.t 2) 1⟩, ⟨(some 14), none, .ld (.t 13) 1 false⟩, ⟨(some 15), none, .mov (.t 5)⟩, ⟨(some 16), none, .iaddr 3 (.t 14) (.t 15)⟩, ⟨(some 17), none, .faddr (.t 16) 0⟩, ⟨(some 18), none, .ld (.t 17) 1 false⟩, ⟨(some 19), none, .mov (.t 1)⟩, ⟨(some 20), none, .sc (.bin .eql 9) [(.t 18), (.t 19)]⟩]) (.cond (.t 20)
  (.seq (.ops [⟨(some 21), none, .mov (.t 5)⟩, ⟨(some 4), none, .mov (.t 21)⟩]) .ret)
  .skip))) (.ops [⟨(some 11), none, .mov (.t 5)⟩, ⟨(some 12), none, .sc (.bin .add 3) [(.t 11), (.c (.int .i64 1))]⟩, ⟨(some 5), none, .mov (.t 12)⟩])))))) (.seq (.ops [⟨(some 4), none, .mov (.c (.int .i64 (-1)))⟩]) .ret)))) := by kernel_rfl
def f57_k4 : Option Int := some (-1)
def f57_l7 (a1 : Form) (a2 : ByteArray) (k4k : Option Int) : Nat → Int → Option Int
  | 0, _ => none
  | m7 + 1, x20 => (bif (decide (x20 < (len a1.fCols))) then ((gi a1.fCols x20).bind fun x28 => (bif (sEqF x28.fName a2) then some x20 else (f57_l7 a1 a2 (k4k) m7 (wr .i64 (x20 + 1))))) else (k4k))
def f57 (n : Nat) (a1 : Form) (a2 : ByteArray) : Option Int := (f57_l7 a1 a2 (f57_k4) n 0)
def f57_r (r : Int) : AV := (vI r)
theorem p_f57 {n : Nat} {a1 : Form} {a2 : ByteArray} {r : Int} (h : f57 n a1 a2 = some r) : PureSpec Try.prog 57 [(.agg [(vS a1.fName), (vL Col.c a1.fCols)]), (vS a2)] (f57_r r) := by
 rw [f57.eq_1] at h
 refine pure_of hmix ic57 ?_
 refine go_to (mkd (.val undef) 22 0 [(0, (.agg [(vS a1.fName), (vL Col.c a1.fCols)])), (1, (vS a2))]) ?_
 refine s_so fun N3 k3 w3 => ?_
 refine o_h2 [(2, (.ptr 0 0)), (4, (vI 0))] [(some (.box 91 [(vS a1.fName), (vL Col.c a1.fCols)]))] ?_
 refine o_end (k3 _ ?_)
 refine J0 (r := r) ⟨(mkd .any 22 0 []), []⟩ (f57_k4) ?_ ?_
 · intro h
   rw [f57_k4.eq_1] at h
   refine s_so fun N33 k33 w33 => ?_
   refine o_r1 [(4, (vI (-1)))] ?_
   refine o_end (k33 _ ?_)
   exact c_ret (rets [] [(vI (-1))] [(vI (-1))] h)
 · intro N4 w4
   refine s_so fun N5 k5 w5 => ?_
   refine o_r1 [(5, (vI 0))] ?_
   refine o_end (k5 _ ?_)
   refine c_block fun E6 hE6 hO6 => ?_
   refine W1 (fun (x20 : Int) => ⟨(mkd .any 22 0 [(1, (vS a2)), (2, (.ptr 0 0)), (5, (vI x20))]), [(some (.box 91 [(vS a1.fName), (vL Col.c a1.fCols)]))]⟩) (f57_l7 a1 a2 (f57_k4)) h (wkm [1, 2, 5] (whk wh_nil)) (by intros; rw [f57_l7.eq_1]) ?_
   intro m7 x20 h N7 w7
   rw [f57_l7.eq_2] at h
   refine s_seq fun N21 k21 w21 => ?_
   refine s_so fun N22 k22 w22 => ?_
   refine o_r3 [(6, (vI x20)), (7, (.ptr 0 1)), (8, (vL Col.c a1.fCols))] ?_
   refine o_o (one_len (f := Col.c) (l := a1.fCols)) ?_
   refine o_r1 [(10, (vB (decide (x20 < (len a1.fCols)))))] ?_
   refine o_end (k22 _ ?_)
   refine i_c [10] h (fun h => ?_) (fun h => ?_)
   · refine c_skip (k21 _ ?_)
     refine s_seq fun N25 k25 w25 => ?_
     refine c_block fun E26 hE26 hO26 => ?_
     refine s_so fun N27 k27 w27 => ?_
     refine o_r3 [(13, (.ptr 0 1)), (14, (vL Col.c a1.fCols)), (15, (vI x20))] ?_
     refine bnd h fun x28 g29 h => ?_
     refine o_o (one_ia (f := Col.c) (ki := .i64) g29) ?_
     refine o_r3 [(17, (.iptr [(vS x28.fName), (vI x28.fKind), (vS x28.fClass)])), (18, (vS x28.fName)), (19, (vS a2))] ?_
     refine o_o (one_sc (vs := [.string x28.fName, .string a2]) (str_eql x28.fName a2)) ?_
     refine o_end (k27 _ ?_)
     refine i_c [20] h (fun h => ?_) (fun h => ?_)
     · refine s_so fun N32 k32 w32 => ?_
       refine o_r2 [(4, (vI x20)), (21, (vI x20))] ?_
       refine o_end (w32 _ ⟨(mkd .any 22 0 [(4, (vI x20))]), []⟩ (wkm [4] wh_nil) ?_)
       exact c_ret (rets [] [(vI x20)] [(vI x20)] h)
     · refine c_skip (k25 _ ?_)
       refine c_ops ?_
       refine o_r3 [(5, (vI (wr .i64 (x20 + 1)))), (11, (vI x20)), (12, (vI (wr .i64 (x20 + 1))))] ?_
       exact o_end (w7 _ _ (wkm [1, 2, 5] (whk wh_nil)) h)
   · refine c_exit (hE6 _ ?_)
     exact w4 _ (wkm [] wh_nil) h
theorem ic58 : fnIC Try.prog H0 58 = some ([.tmp 6], 15, (.seq (.ops [⟨(some 6), none, .mov (.c (.bool false))⟩]) (.seq (.ops [⟨(some 7), none, .mov (.t 0)⟩, ⟨(some 8), none, .mov (.t 1)⟩, ⟨(some 9), none, .sc (.bin .geq 3) [(.t 7), (.t 8)]⟩, ⟨(some 10), none, .mov (.t 9)⟩, ⟨(some 11), (some (10, true)), .mov (.t 0)⟩, ⟨(some 12), (some (10, true)), .mov (.t 2)⟩, ⟨(some 13), (some (10, true)), .sc (.bin .leq 3) [(.t 11), (.t 12)]⟩, ⟨(some 14), none, .pick (.t 10) (.t 13) (.c (.bool false))⟩, ⟨(some 6), none, .mov (.t 14)⟩]) .ret))) := by kernel_rfl
def f58_k5 (x7 : Bool) : Option Bool := some x7
def f58 (n : Nat) (a1 : Int) (a2 : Int) (a3 : Int) : Option Bool := (bif (decide (a1 ≥ a2)) then (f58_k5 (decide (a1 ≤ a3))) else (f58_k5 false))
def f58_r (r : Bool) : AV := (vB r)
theorem p_f58 {n : Nat} {a1 : Int} {a2 : Int} {a3 : Int} {r : Bool} (h : f58 n a1 a2 a3 = some r) : PureSpec Try.prog 58 [(vI a1), (vI a2), (vI a3)] (f58_r r) := by
 rw [f58.eq_1] at h
 refine pure_of hmix ic58 ?_
 refine go_to (mkd (.val undef) 15 0 [(0, (vI a1)), (1, (vI a2)), (2, (vI a3))]) ?_
 refine s_so fun N4 k4 w4 => ?_
 refine o_r1 [(6, (vB false))] ?_
 refine o_end (k4 _ ?_)
 refine J1 (r := r) (fun (x7 : Bool) => ⟨(mkd .any 15 0 [(6, (vB x7))]), []⟩) (f58_k5) ?_ ?_
 · intro x7 h
   rw [f58_k5.eq_1] at h
   exact c_ret (rets [] [(vB x7)] [(vB x7)] h)
 · intro N5 w5
   refine c_ops ?_
   refine o_r4 [(7, (vI a1)), (8, (vI a2)), (9, (vB (decide (a1 ≥ a2)))), (10, (vB (decide (a1 ≥ a2))))] ?_
   refine i_o [9, 10] h (fun h => ?_) (fun h => ?_)
   · refine o_r5 [(6, (vB (decide (a1 ≤ a3)))), (11, (vI a1)), (12, (vI a3)), (13, (vB (decide (a1 ≤ a3)))), (14, (vB (decide (a1 ≤ a3))))] ?_
     exact o_end (w5 _ _ (wkm [6] wh_nil) h)
   · refine o_r5 [(11, (.val undef)), (12, (.val undef)), (13, (.val undef)), (14, (vB false))] ?_
     exact o_end (w5 _ _ (wkm [6] wh_nil) h)
theorem ic17 : fnIC Try.prog H0 17 = some ([.tmp 2], 129, (.seq (.ops [⟨(some 2), none, .mov (.c (.int .i64 0))⟩]) (.seq (.seq (.ops [⟨(some 11), none, .mov (.t 0)⟩, ⟨(some 12), none, .len false (.t 11)⟩, ⟨(some 13), none, .sc (.bin .gtr 3) [(.t 12), (.c (.int .i64 24))]⟩]) (.cond (.t 13)
  (.seq (.ops [⟨(some 2), none, .mov (.c (.int .i64 3))⟩]) .ret)
  .skip)) (.seq (.seq (.ops [⟨(some 3), none, .mov (.c (.int .i64 0))⟩]) (.block 0 (.loop (.seq (.seq (.ops [⟨(some 14), none, .mov (.t 3)⟩, ⟨(some 15), none, .mov (.t 0)⟩, ⟨(some 16), none, .len false (.t 15)⟩, ⟨(some 17), none, .sc (.bin .lss 3) [(.t 14), (.t 16)]⟩]) (.cond (.t 17)
  .skip
  (.exit 0))) (.seq (.block 1 (.seq (.ops [⟨(some 20), none, .mov (.t 0)⟩, ⟨(some 21), none, .mov (.t 3)⟩, ⟨(some 22), none, .iaddr 2 (.t 20) (.t 21)⟩, ⟨(some 23), none, .faddr (.t 22) 0⟩, ⟨(some 24), none, .ld (.t 23) 1 false⟩, ⟨(some 25), none, .call 54 [(.t 24)]⟩, ⟨(some 4), none, .mov (.t 25)⟩]) (.seq (.seq (.ops [⟨(some 26), none, .mov (.t 4)⟩, ⟨(some 27), none, .sc (.un .not) [(.t 26)]⟩]) (.cond (.t 27)
  (.seq (.ops [⟨(some 2), none, .mov (.c (.int .i64 4))⟩]) .ret)
  .skip)) (.seq (.seq (.ops [⟨(some 28), none, .mov (.t 0)⟩, ⟨(some 29), none, .mov (.t 0)⟩, ⟨(some 30), none, .mov (.t 3)⟩, ⟨(some 31), none, .iaddr 2 (.t 29) (.t 30)⟩, ⟨(some 32), none, .faddr (.t 31) 0⟩, ⟨(some 33), none, .ld (.t 32) 1 false⟩, ⟨(some 34), none, .call 55 [(.t 28), (.t 33)]⟩, ⟨(some 35), none, .mov (.t 3)⟩, ⟨(some 36), none, .sc (.bin .lss 3) [(.t 34), (.t 35)]⟩]) (.cond (.t 36)
  (.seq (.ops [⟨(some 2), none, .mov (.c (.int .i64 6))⟩]) .ret)
  .skip)) (.seq (.seq (.ops [⟨(some 37), none, .mov (.t 0)⟩, ⟨(some 38), none, .mov (.t 3)⟩, ⟨(some 39), none, .iaddr 2 (.t 37) (.t 38)⟩, ⟨(some 40), none, .faddr (.t 39) 1⟩, ⟨(some 41), none, .ld (.t 40) 1 false⟩, ⟨(some 42), none, .len false (.t 41)⟩, ⟨(some 43), none, .sc (.bin .gtr 3) [(.t 42), (.c (.int .i64 30))]⟩]) (.cond (.t 43)
  (.seq (.ops [⟨(some 2), none, .mov (.c (.int .i64 3))⟩]) .ret)
  .skip)) (.seq (.ops [⟨(some 5), none, .mov (.c (.int .i64 0))⟩]) (.block 2 (.loop (.seq (.seq (.ops [⟨(some 44), none, .mov (.t 5)⟩, ⟨(some 45), none, .mov (.t 0)⟩, ⟨(some 46), none, .mov (.t 3)⟩, ⟨(some 47), none, .iaddr 2 (.t 45) (.t 46)⟩, ⟨(some 48), none, .faddr (.t 47) 1⟩, ⟨(some 49), none, .ld (.t 48) 1 false⟩, ⟨(some 50), none, .len false (.t 49)⟩, ⟨(some 51), none, .sc (.bin .lss 3) [(.t 44), (.t 50)]⟩]) (.cond (.t 51)
  .skip
  (.exit 2))) (.seq (.block 3 (.seq (.ops [⟨(some 54), none, .mov (.t 0)⟩, ⟨(some 55), none, .mov (.t 3)⟩, ⟨(some 56), none, .iaddr 2 (.t 54) (.t 55)⟩, ⟨(some 57), none, .faddr (.t 56) 1⟩, ⟨(some 58), none, .ld (.t 57) 1 false⟩, ⟨(some 59), none, .mov (.t 5)⟩, ⟨(some 60), none, .iaddr 3 (.t 58) (.t 59)⟩, ⟨(some 61), none, .ld (.t 60) 3 true⟩, ⟨(some 6), none, .alloc 0 93 [] [(.string ⟨#[]⟩), (.int .i64 0), (.string ⟨#[]⟩)]⟩, ⟨none, none, .st true 3 [] (.t 6) (.t 61)⟩]) (.seq (.ops [⟨(some 62), none, .faddr (.t 6) 0⟩, ⟨(some 63), none, .ld (.t 62) 1 false⟩, ⟨(some 64), none, .call 56 [(.t 63)]⟩, ⟨(some 7), none, .mov (.t 64)⟩]) (.seq (.seq (.ops [⟨(some 65), none, .mov (.t 7)⟩, ⟨(some 66), none, .sc (.un .not) [(.t 65)]⟩]) (.cond (.t 66)
  (.seq (.ops [⟨(some 2), none, .mov (.c (.int .i64 4))⟩]) .ret)
  .skip)) (.seq (.seq (.draw [] [⟨⟨(some 67), none, .mov (.t 0)⟩, false, 0, 0⟩, ⟨⟨(some 68), none, .mov (.t 3)⟩, false, 0, 0⟩, ⟨⟨(some 69), none, .iaddr 2 (.t 67) (.t 68)⟩, false, 0, 0⟩, ⟨⟨(some 70), none, .ld (.t 69) 2 true⟩, false, 0, 0⟩, ⟨⟨(some 71), none, .faddr (.t 6) 0⟩, false, 0, 0⟩, ⟨⟨(some 72), none, .ld (.t 71) 1 false⟩, false, 0, 0⟩, ⟨⟨(some 73), none, .call 57 [(.t 70), (.t 72)]⟩, false, 0, 0⟩, ⟨⟨(some 74), none, .mov (.t 5)⟩, false, 0, 0⟩, ⟨⟨(some 75), none, .sc (.bin .lss 3) [(.t 73), (.t 74)]⟩, false, 0, 0⟩]) (.cond (.t 75)
  (.seq (.ops [⟨(some 2), none, .mov (.c (.int .i64 6))⟩]) .ret)
  .skip)) (.seq (.ops [⟨(some 76), none, .faddr (.t 6) 1⟩, ⟨(some 77), none, .ld (.t 76) 1 false⟩, ⟨(some 78), none, .call 58 [(.t 77), (.c (.int .i64 1)), (.c (.int .i64 3))]⟩, ⟨(some 79), none, .sc (.un .not) [(.t 78)]⟩, ⟨(some 80), none, .mov (.t 79)⟩, ⟨(some 81), (some (80, false)), .faddr (.t 6) 1⟩, ⟨(some 82), (some (80, false)), .ld (.t 81) 1 false⟩, ⟨(some 83), (some (80, false)), .sc (.bin .neq 3) [(.t 82), (.c (.int .i64 3))]⟩, ⟨(some 84), (some (80, false)), .mov (.t 83)⟩, ⟨(some 85), (some (84, true)), .faddr (.t 6) 2⟩, ⟨(some 86), (some (84, true)), .ld (.t 85) 1 false⟩, ⟨(some 87), (some (84, true)), .sc (.bin .neq 9) [(.t 86), (.c (.string ⟨#[]⟩))]⟩, ⟨(some 88), (some (80, false)), .pick (.t 84) (.t 87) (.c (.bool false))⟩, ⟨(some 89), none, .pick (.t 80) (.c (.bool true)) (.t 88)⟩]) (.cond (.t 89)
  (.seq (.ops [⟨(some 2), none, .mov (.c (.int .i64 1))⟩]) .ret)
  .skip))))))) (.ops [⟨(some 52), none, .mov (.t 5)⟩, ⟨(some 53), none, .sc (.bin .add 3) [(.t 52), (.c (.int .i64 1))]⟩, ⟨(some 5), none, .mov (.t 53)⟩]))))))))))) (.ops [⟨(some 18), none, .mov (.t 3)⟩, ⟨(some 19), none, .sc (.bin .add 3) [(.t 18), (.c (.int .i64 1))]⟩, ⟨(some 3), none, .mov (.t 19)⟩])))))) (.seq (.seq (.ops [⟨(some 8), none, .mov (.c (.int .i64 0))⟩]) (.block 4 (.loop (.seq (.seq (.ops [⟨(some 90), none, .mov (.t 8)⟩, ⟨(some 91), none, .mov (.t 0)⟩, ⟨(some 92), none, .len false (.t 91)⟩, ⟨(some 93), none, .sc (.bin .lss 3) [(.t 90), (.t 92)]⟩]) (.cond (.t 93)
  .skip
  (.exit 4))) (.seq (.block 5 (.seq (.ops [⟨(some 9), none, .mov (.c (.int .i64 0))⟩]) (.block 6 (.loop (.seq (.seq (.ops [⟨(some 96), none, .mov (.t 9)⟩, ⟨(some 97), none, .mov (.t 0)⟩, ⟨(some 98), none, .mov (.t 8)⟩, ⟨(some 99), none, .iaddr 2 (.t 97) (.t 98)⟩, ⟨(some 100), none, .faddr (.t 99) 1⟩, ⟨(some 101), none, .ld (.t 100) 1 false⟩, ⟨(some 102), none, .len false (.t 101)⟩, ⟨(some 103), none, .sc (.bin .lss 3) [(.t 96), (.t 102)]⟩]) (.cond (.t 103)
  .skip
  (.exit 6))) (.seq (.block 7 (.seq (.ops [⟨(some 106), none, .mov (.t 0)⟩, ⟨(some 107), none, .mov (.t 8)⟩, ⟨(some 108), none, .iaddr 2 (.t 106) (.t 107)⟩, ⟨(some 109), none, .faddr (.t 108) 1⟩, ⟨(some 110), none, .ld (.t 109) 1 false⟩, ⟨(some 111), none, .mov (.t 9)⟩, ⟨(some 112), none, .iaddr 3 (.t 110) (.t 111)⟩, ⟨(some 113), none, .ld (.t 112) 3 true⟩, ⟨(some 10), none, .alloc 0 93 [] [(.string ⟨#[]⟩), (.int .i64 0), (.string ⟨#[]⟩)]⟩, ⟨none, none, .st true 3 [] (.t 10) (.t 113)⟩]) (.seq (.ops [⟨(some 114), none, .faddr (.t 10) 1⟩, ⟨(some 115), none, .ld (.t 114) 1 false⟩, ⟨(some 116), none, .sc (.bin .eql 3) [(.t 115), (.c (.int .i64 3))]⟩, ⟨(some 117), none, .mov (.t 116)⟩, ⟨(some 118), (some (117, true)), .faddr (.t 10) 2⟩, ⟨(some 119), (some (117, true)), .ld (.t 118) 1 false⟩, ⟨(some 120), (some (117, true)), .sc (.bin .neq 9) [(.t 119), (.c (.string ⟨#[65, 78, 89]⟩))]⟩, ⟨(some 121), none, .pick (.t 117) (.t 120) (.c (.bool false))⟩, ⟨(some 122), none, .mov (.t 121)⟩, ⟨(some 123), (some (122, true)), .mov (.t 0)⟩, ⟨(some 124), (some (122, true)), .faddr (.t 10) 2⟩, ⟨(some 125), (some (122, true)), .ld (.t 124) 1 false⟩, ⟨(some 126), (some (122, true)), .call 55 [(.t 123), (.t 125)]⟩, ⟨(some 127), (some (122, true)), .sc (.bin .lss 3) [(.t 126), (.c (.int .i64 0))]⟩, ⟨(some 128), none, .pick (.t 122) (.t 127) (.c (.bool false))⟩]) (.cond (.t 128)
  (.seq (.ops [⟨(some 2), none, .mov (.c (.int .i64 5))⟩]) .ret)
  .skip)))) (.ops [⟨(some 104), none, .mov (.t 9)⟩, ⟨(some 105), none, .sc (.bin .add 3) [(.t 104), (.c (.int .i64 1))]⟩, ⟨(some 9), none, .mov (.t 105)⟩]))))))) (.ops [⟨(some 94), none, .mov (.t 8)⟩, ⟨(some 95), none, .sc (.bin .add 3) [(.t 94), (.c (.int .i64 1))]⟩, ⟨(some 8), none, .mov (.t 95)⟩])))))) (.seq (.ops [⟨(some 2), none, .mov (.c (.int .i64 0))⟩]) .ret)))))) := by kernel_rfl
def f17_k220 (x191 : Int) (c153k : Int → Option Int) (x226 : Bool) : Option Int := (bif x226 then some 1 else (c153k (wr .i64 (x191 + 1))))
def f17_k125 (x120 : Int) (c11k : Int → Option Int) : Option Int := (c11k (wr .i64 (x120 + 1)))
def f17_l153 (a1 : (List Form)) (x120 : Int) (n : Nat) (k125k : Option Int) : Nat → Int → Option Int
  | 0, _ => none
  | m153 + 1, x191 => ((gi a1 x120).bind fun x194 => (bif (decide (x191 < (len x194.fCols))) then ((gi a1 x120).bind fun x201 => ((gi x201.fCols x191).bind fun x203 => ((f56 n x203.fName).bind fun r206 => (bif (!r206) then some 4 else ((gi a1 x120).bind fun x214 => ((f57 n x214 x203.fName).bind fun r216 => (bif (decide (r216 < x191)) then some 6 else ((f58 n x203.fKind 1 3).bind fun r221 => (bif (!r221) then (f17_k220 x191 (f17_l153 a1 x120 n (k125k) m153) true) else (bif (x203.fKind != 3) then (f17_k220 x191 (f17_l153 a1 x120 n (k125k) m153) (!(sEqF x203.fClass (ByteArray.mk #[])))) else (f17_k220 x191 (f17_l153 a1 x120 n (k125k) m153) false))))))))))) else (k125k)))
def f17_k333 (x319 : Int) (c296k : Int → Option Int) (x339 : Bool) : Option Int := (bif x339 then some 5 else (c296k (wr .i64 (x319 + 1))))
def f17_k292 (x287 : Int) (c232k : Int → Option Int) : Option Int := (c232k (wr .i64 (x287 + 1)))
def f17_l296 (a1 : (List Form)) (x287 : Int) (n : Nat) (k292k : Option Int) : Nat → Int → Option Int
  | 0, _ => none
  | m296 + 1, x319 => ((gi a1 x287).bind fun x322 => (bif (decide (x319 < (len x322.fCols))) then ((gi a1 x287).bind fun x329 => ((gi x329.fCols x319).bind fun x331 => (bif (x331.fKind == 3) then (bif (!(sEqF x331.fClass (ByteArray.mk #[65, 78, 89]))) then ((f55 n a1 x331.fClass).bind fun r337 => (f17_k333 x319 (f17_l296 a1 x287 n (k292k) m296) (decide (r337 < 0)))) else (f17_k333 x319 (f17_l296 a1 x287 n (k292k) m296) false)) else (f17_k333 x319 (f17_l296 a1 x287 n (k292k) m296) false)))) else (k292k)))
def f17_k229 : Option Int := some 0
def f17_l232 (a1 : (List Form)) (n : Nat) (k229k : Option Int) : Nat → Int → Option Int
  | 0, _ => none
  | m232 + 1, x287 => (bif (decide (x287 < (len a1))) then (f17_l296 a1 x287 n (f17_k292 x287 (f17_l232 a1 n (k229k) m232)) n 0) else (k229k))
def f17_k8 (n : Nat) (a1 : (List Form)) : Option Int := (f17_l232 a1 n (f17_k229) n 0)
def f17_l11 (a1 : (List Form)) (n : Nat) (k8k : Option Int) : Nat → Int → Option Int
  | 0, _ => none
  | m11 + 1, x120 => (bif (decide (x120 < (len a1))) then ((gi a1 x120).bind fun x128 => ((f54 n x128.fName).bind fun r130 => (bif (!r130) then some 4 else ((gi a1 x120).bind fun x138 => ((f55 n a1 x138.fName).bind fun r140 => (bif (decide (r140 < x120)) then some 6 else ((gi a1 x120).bind fun x146 => (bif (decide ((len x146.fCols) > 30)) then some 3 else (f17_l153 a1 x120 n (f17_k125 x120 (f17_l11 a1 n (k8k) m11)) n 0))))))))) else (k8k))
def f17 (n : Nat) (a1 : (List Form)) : Option Int := (bif (decide ((len a1) > 24)) then some 3 else (f17_l11 a1 n (f17_k8 n a1) n 0))
def f17_r (r : Int) : AV := (vI r)
theorem p_f17 {n : Nat} {a1 : (List Form)} {r : Int} (h : f17 n a1 = some r) : PureSpec Try.prog 17 [(vL Form.c a1)] (f17_r r) := by
 rw [f17.eq_1] at h
 refine pure_of hmix ic17 ?_
 refine go_to (mkd (.val undef) 129 0 [(0, (vL Form.c a1))]) ?_
 refine s_so fun N2 k2 w2 => ?_
 refine o_r1 [(2, (vI 0))] ?_
 refine o_end (k2 _ ?_)
 refine s_seq fun N3 k3 w3 => ?_
 refine s_so fun N4 k4 w4 => ?_
 refine o_r1 [(11, (vL Form.c a1))] ?_
 refine o_o (one_len (f := Form.c) (l := a1)) ?_
 refine o_r1 [(13, (vB (decide ((len a1) > 24))))] ?_
 refine o_end (k4 _ ?_)
 refine i_c [13] h (fun h => ?_) (fun h => ?_)
 · refine s_so fun N7 k7 w7 => ?_
   refine o_r1 [(2, (vI 3))] ?_
   refine o_end (k7 _ ?_)
   exact c_ret (rets [] [(vI 3)] [(vI 3)] h)
 · refine c_skip (k3 _ ?_)
   refine J0 (r := r) ⟨(mkd .any 129 0 [(0, (vL Form.c a1))]), []⟩ (f17_k8 n a1) ?_ ?_
   · intro h
     rw [f17_k8.eq_1] at h
     refine J0 (r := r) ⟨(mkd .any 129 0 []), []⟩ (f17_k229) ?_ ?_
     · intro h
       rw [f17_k229.eq_1] at h
       refine s_so fun N342 k342 w342 => ?_
       refine o_r1 [(2, (vI 0))] ?_
       refine o_end (k342 _ ?_)
       exact c_ret (rets [] [(vI 0)] [(vI 0)] h)
     · intro N229 w229
       refine s_so fun N230 k230 w230 => ?_
       refine o_r1 [(8, (vI 0))] ?_
       refine o_end (k230 _ ?_)
       refine c_block fun E231 hE231 hO231 => ?_
       refine W1 (fun (x287 : Int) => ⟨(mkd .any 129 0 [(0, (vL Form.c a1)), (8, (vI x287))]), []⟩) (f17_l232 a1 n (f17_k229)) h (wkm [0, 8] wh_nil) (by intros; rw [f17_l232.eq_1]) ?_
       intro m232 x287 h N232 w232
       rw [f17_l232.eq_2] at h
       refine s_seq fun N288 k288 w288 => ?_
       refine s_so fun N289 k289 w289 => ?_
       refine o_r2 [(90, (vI x287)), (91, (vL Form.c a1))] ?_
       refine o_o (one_len (f := Form.c) (l := a1)) ?_
       refine o_r1 [(93, (vB (decide (x287 < (len a1)))))] ?_
       refine o_end (k289 _ ?_)
       refine i_c [93] h (fun h => ?_) (fun h => ?_)
       · refine c_skip (k288 _ ?_)
         refine J0 (r := r) ⟨(mkd .any 129 0 [(0, (vL Form.c a1)), (8, (vI x287))]), []⟩ (f17_k292 x287 (f17_l232 a1 n (f17_k229) m232)) ?_ ?_
         · intro h
           rw [f17_k292.eq_1] at h
           refine c_ops ?_
           refine o_r3 [(8, (vI (wr .i64 (x287 + 1)))), (94, (vI x287)), (95, (vI (wr .i64 (x287 + 1))))] ?_
           exact o_end (w232 _ _ (wkm [0, 8] wh_nil) h)
         · intro N292 w292
           refine c_block fun E293 hE293 hO293 => ?_
           refine s_so fun N294 k294 w294 => ?_
           refine o_r1 [(9, (vI 0))] ?_
           refine o_end (k294 _ ?_)
           refine c_block fun E295 hE295 hO295 => ?_
           refine W1 (fun (x319 : Int) => ⟨(mkd .any 129 0 [(0, (vL Form.c a1)), (8, (vI x287)), (9, (vI x319))]), []⟩) (f17_l296 a1 x287 n (f17_k292 x287 (f17_l232 a1 n (f17_k229) m232))) h (wkm [0, 8, 9] wh_nil) (by intros; rw [f17_l296.eq_1]) ?_
           intro m296 x319 h N296 w296
           rw [f17_l296.eq_2] at h
           refine s_seq fun N320 k320 w320 => ?_
           refine s_so fun N321 k321 w321 => ?_
           refine o_r3 [(96, (vI x319)), (97, (vL Form.c a1)), (98, (vI x287))] ?_
           refine bnd h fun x322 g323 h => ?_
           refine o_o (one_ia (f := Form.c) (ki := .i64) g323) ?_
           refine o_r2 [(100, (.iptr [(vL Col.c x322.fCols)])), (101, (vL Col.c x322.fCols))] ?_
           refine o_o (one_len (f := Col.c) (l := x322.fCols)) ?_
           refine o_r1 [(103, (vB (decide (x319 < (len x322.fCols)))))] ?_
           refine o_end (k321 _ ?_)
           refine i_c [103] h (fun h => ?_) (fun h => ?_)
           · refine c_skip (k320 _ ?_)
             refine s_seq fun N326 k326 w326 => ?_
             refine c_block fun E327 hE327 hO327 => ?_
             refine s_so fun N328 k328 w328 => ?_
             refine o_r2 [(106, (vL Form.c a1)), (107, (vI x287))] ?_
             refine bnd h fun x329 g330 h => ?_
             refine o_o (one_ia (f := Form.c) (ki := .i64) g330) ?_
             refine o_r3 [(109, (.iptr [(vL Col.c x329.fCols)])), (110, (vL Col.c x329.fCols)), (111, (vI x319))] ?_
             refine bnd h fun x331 g332 h => ?_
             refine o_o (one_ia (f := Col.c) (ki := .i64) g332) ?_
             refine o_h3 [(10, (.ptr 0 0)), (113, (.agg [(vS x331.fName), (vI x331.fKind), (vS x331.fClass)]))] [(some (.box 93 [(vS x331.fName), (vI x331.fKind), (vS x331.fClass)]))] ?_
             refine o_end (w328 _ ⟨(mkd .any 129 0 [(0, (vL Form.c a1)), (8, (vI x287)), (9, (vI x319)), (10, (.ptr 0 0))]), [(some (.box 93 [(vS x331.fName), (vI x331.fKind), (vS x331.fClass)]))]⟩ (wkm [0, 8, 9, 10] (whk wh_nil)) ?_)
             refine J1 (r := r) (fun (x339 : Bool) => ⟨(mkd .any 129 0 [(0, (vL Form.c a1)), (8, (vI x287)), (9, (vI x319)), (128, (vB x339))]), []⟩) (f17_k333 x319 (f17_l296 a1 x287 n (f17_k292 x287 (f17_l232 a1 n (f17_k229) m232)) m296)) ?_ ?_
             · intro x339 h
               rw [f17_k333.eq_1] at h
               refine i_c [128] h (fun h => ?_) (fun h => ?_)
               · refine s_so fun N341 k341 w341 => ?_
                 refine o_r1 [(2, (vI 5))] ?_
                 refine o_end (k341 _ ?_)
                 exact c_ret (rets [] [(vI 5)] [(vI 5)] h)
               · refine c_skip (k326 _ ?_)
                 refine c_ops ?_
                 refine o_r3 [(9, (vI (wr .i64 (x319 + 1)))), (104, (vI x319)), (105, (vI (wr .i64 (x319 + 1))))] ?_
                 exact o_end (w296 _ _ (wkm [0, 8, 9] wh_nil) h)
             · intro N333 w333
               refine c_ops ?_
               refine o_r4 [(114, (.ptr 0 1)), (115, (vI x331.fKind)), (116, (vB (x331.fKind == 3))), (117, (vB (x331.fKind == 3)))] ?_
               refine i_o [116, 117] h (fun h => ?_) (fun h => ?_)
               · refine o_r2 [(118, (.ptr 0 2)), (119, (vS x331.fClass))] ?_
                 refine o_g ?_
                 refine o_o (one_sc (vs := [.string x331.fClass, .string (ByteArray.mk #[65, 78, 89])]) (str_neq x331.fClass (ByteArray.mk #[65, 78, 89]))) ?_
                 refine o_r2 [(121, (vB (!(sEqF x331.fClass (ByteArray.mk #[65, 78, 89]))))), (122, (vB (!(sEqF x331.fClass (ByteArray.mk #[65, 78, 89])))))] ?_
                 refine i_o [120, 121, 122] h (fun h => ?_) (fun h => ?_)
                 · refine o_r3 [(123, (vL Form.c a1)), (124, (.ptr 0 2)), (125, (vS x331.fClass))] ?_
                   refine bnd h fun r337 g338 h => ?_
                   refine o_g ?_
                   refine o_o (one_call (p_f55 g338)) ?_
                   refine o_r2 [(127, (vB (decide (r337 < 0)))), (128, (vB (decide (r337 < 0))))] ?_
                   exact o_end (w333 _ _ (wkm [0, 8, 9, 128] wh_nil) h)
                 · refine o_r6 [(123, (.val undef)), (124, (.val undef)), (125, (.val undef)), (126, (.val undef)), (127, (.val undef)), (128, (vB false))] ?_
                   exact o_end (w333 _ _ (wkm [0, 8, 9, 128] wh_nil) h)
               · refine o_r11 [(118, (.val undef)), (119, (.val undef)), (120, (.val undef)), (121, (vB false)), (122, (vB false)), (123, (.val undef)), (124, (.val undef)), (125, (.val undef)), (126, (.val undef)), (127, (.val undef)), (128, (vB false))] ?_
                 exact o_end (w333 _ _ (wkm [0, 8, 9, 128] wh_nil) h)
           · refine c_exit (hE295 _ ?_)
             exact w292 _ (wkm [0, 8] wh_nil) h
       · refine c_exit (hE231 _ ?_)
         exact w229 _ (wkm [] wh_nil) h
   · intro N8 w8
     refine s_so fun N9 k9 w9 => ?_
     refine o_r1 [(3, (vI 0))] ?_
     refine o_end (k9 _ ?_)
     refine c_block fun E10 hE10 hO10 => ?_
     refine W1 (fun (x120 : Int) => ⟨(mkd .any 129 0 [(0, (vL Form.c a1)), (3, (vI x120))]), []⟩) (f17_l11 a1 n (f17_k8 n a1)) h (wkm [0, 3] wh_nil) (by intros; rw [f17_l11.eq_1]) ?_
     intro m11 x120 h N11 w11
     rw [f17_l11.eq_2] at h
     refine s_seq fun N121 k121 w121 => ?_
     refine s_so fun N122 k122 w122 => ?_
     refine o_r2 [(14, (vI x120)), (15, (vL Form.c a1))] ?_
     refine o_o (one_len (f := Form.c) (l := a1)) ?_
     refine o_r1 [(17, (vB (decide (x120 < (len a1)))))] ?_
     refine o_end (k122 _ ?_)
     refine i_c [17] h (fun h => ?_) (fun h => ?_)
     · refine c_skip (k121 _ ?_)
       refine J0 (r := r) ⟨(mkd .any 129 0 [(0, (vL Form.c a1)), (3, (vI x120))]), []⟩ (f17_k125 x120 (f17_l11 a1 n (f17_k8 n a1) m11)) ?_ ?_
       · intro h
         rw [f17_k125.eq_1] at h
         refine c_ops ?_
         refine o_r3 [(3, (vI (wr .i64 (x120 + 1)))), (18, (vI x120)), (19, (vI (wr .i64 (x120 + 1))))] ?_
         exact o_end (w11 _ _ (wkm [0, 3] wh_nil) h)
       · intro N125 w125
         refine c_block fun E126 hE126 hO126 => ?_
         refine s_so fun N127 k127 w127 => ?_
         refine o_r2 [(20, (vL Form.c a1)), (21, (vI x120))] ?_
         refine bnd h fun x128 g129 h => ?_
         refine o_o (one_ia (f := Form.c) (ki := .i64) g129) ?_
         refine o_r2 [(23, (.iptr [(vS x128.fName), (vL Col.c x128.fCols)])), (24, (vS x128.fName))] ?_
         refine bnd h fun r130 g131 h => ?_
         refine o_o (one_call (p_f54 g131)) ?_
         refine o_r1 [(4, (vB r130))] ?_
         refine o_end (k127 _ ?_)
         refine s_seq fun N132 k132 w132 => ?_
         refine s_so fun N133 k133 w133 => ?_
         refine o_r2 [(26, (vB r130)), (27, (vB (!r130)))] ?_
         refine o_end (k133 _ ?_)
         refine i_c [27] h (fun h => ?_) (fun h => ?_)
         · refine s_so fun N135 k135 w135 => ?_
           refine o_r1 [(2, (vI 4))] ?_
           refine s_tm (mkd .any 129 0 [(0, (vL Form.c a1)), (2, (vI 4)), (3, (vI x120)), (4, (vB r130)), (14, (vI x120)), (15, (vL Form.c a1)), (16, (vI (len a1))), (17, (vB true)), (20, (vL Form.c a1)), (21, (vI x120)), (22, (.iptr [(vS x128.fName), (vL Col.c x128.fCols)])), (23, (.iptr [(vS x128.fName), (vL Col.c x128.fCols)])), (24, (vS x128.fName)), (25, (vB r130)), (26, (vB r130)), (27, (vB true))]) ?_
           refine o_end (k135 _ ?_)
           exact c_ret (rets [] [(vI 4)] [(vI 4)] h)
         · refine c_skip (k132 _ ?_)
           refine s_seq fun N136 k136 w136 => ?_
           refine s_so fun N137 k137 w137 => ?_
           refine o_r3 [(28, (vL Form.c a1)), (29, (vL Form.c a1)), (30, (vI x120))] ?_
           refine s_tm (mkd .any 129 0 [(0, (vL Form.c a1)), (3, (vI x120)), (4, (vB r130)), (14, (vI x120)), (15, (vL Form.c a1)), (16, (vI (len a1))), (17, (vB true)), (20, (vL Form.c a1)), (21, (vI x120)), (22, (.iptr [(vS x128.fName), (vL Col.c x128.fCols)])), (23, (.iptr [(vS x128.fName), (vL Col.c x128.fCols)])), (24, (vS x128.fName)), (25, (vB r130)), (26, (vB r130)), (27, (vB false)), (28, (vL Form.c a1)), (29, (vL Form.c a1)), (30, (vI x120))]) ?_
           refine bnd h fun x138 g139 h => ?_
           refine o_o (one_ia (f := Form.c) (ki := .i64) g139) ?_
           refine o_r2 [(32, (.iptr [(vS x138.fName), (vL Col.c x138.fCols)])), (33, (vS x138.fName))] ?_
           refine bnd h fun r140 g141 h => ?_
           refine o_o (one_call (p_f55 g141)) ?_
           refine o_r2 [(35, (vI x120)), (36, (vB (decide (r140 < x120))))] ?_
           refine o_end (w137 _ ⟨(mkd .any 129 0 [(0, (vL Form.c a1)), (3, (vI x120)), (36, (vB (decide (r140 < x120))))]), []⟩ (wkm [0, 3, 36] wh_nil) ?_)
           refine i_c [36] h (fun h => ?_) (fun h => ?_)
           · refine s_so fun N143 k143 w143 => ?_
             refine o_r1 [(2, (vI 6))] ?_
             refine o_end (k143 _ ?_)
             exact c_ret (rets [] [(vI 6)] [(vI 6)] h)
           · refine c_skip (k136 _ ?_)
             refine s_seq fun N144 k144 w144 => ?_
             refine s_so fun N145 k145 w145 => ?_
             refine o_r2 [(37, (vL Form.c a1)), (38, (vI x120))] ?_
             refine bnd h fun x146 g147 h => ?_
             refine o_o (one_ia (f := Form.c) (ki := .i64) g147) ?_
             refine o_r2 [(40, (.iptr [(vL Col.c x146.fCols)])), (41, (vL Col.c x146.fCols))] ?_
             refine o_o (one_len (f := Col.c) (l := x146.fCols)) ?_
             refine o_r1 [(43, (vB (decide ((len x146.fCols) > 30))))] ?_
             refine o_end (k145 _ ?_)
             refine i_c [43] h (fun h => ?_) (fun h => ?_)
             · refine s_so fun N150 k150 w150 => ?_
               refine o_r1 [(2, (vI 3))] ?_
               refine o_end (k150 _ ?_)
               exact c_ret (rets [] [(vI 3)] [(vI 3)] h)
             · refine c_skip (k144 _ ?_)
               refine s_so fun N151 k151 w151 => ?_
               refine o_r1 [(5, (vI 0))] ?_
               refine o_end (k151 _ ?_)
               refine c_block fun E152 hE152 hO152 => ?_
               refine W1 (fun (x191 : Int) => ⟨(mkd .any 129 0 [(0, (vL Form.c a1)), (3, (vI x120)), (5, (vI x191))]), []⟩) (f17_l153 a1 x120 n (f17_k125 x120 (f17_l11 a1 n (f17_k8 n a1) m11))) h (wkm [0, 3, 5] wh_nil) (by intros; rw [f17_l153.eq_1]) ?_
               intro m153 x191 h N153 w153
               rw [f17_l153.eq_2] at h
               refine s_seq fun N192 k192 w192 => ?_
               refine s_so fun N193 k193 w193 => ?_
               refine o_r3 [(44, (vI x191)), (45, (vL Form.c a1)), (46, (vI x120))] ?_
               refine bnd h fun x194 g195 h => ?_
               refine o_o (one_ia (f := Form.c) (ki := .i64) g195) ?_
               refine o_r2 [(48, (.iptr [(vL Col.c x194.fCols)])), (49, (vL Col.c x194.fCols))] ?_
               refine o_o (one_len (f := Col.c) (l := x194.fCols)) ?_
               refine o_r1 [(51, (vB (decide (x191 < (len x194.fCols)))))] ?_
               refine o_end (k193 _ ?_)
               refine i_c [51] h (fun h => ?_) (fun h => ?_)
               · refine c_skip (k192 _ ?_)
                 refine s_seq fun N198 k198 w198 => ?_
                 refine c_block fun E199 hE199 hO199 => ?_
                 refine s_so fun N200 k200 w200 => ?_
                 refine o_r2 [(54, (vL Form.c a1)), (55, (vI x120))] ?_
                 refine bnd h fun x201 g202 h => ?_
                 refine o_o (one_ia (f := Form.c) (ki := .i64) g202) ?_
                 refine o_r3 [(57, (.iptr [(vL Col.c x201.fCols)])), (58, (vL Col.c x201.fCols)), (59, (vI x191))] ?_
                 refine bnd h fun x203 g204 h => ?_
                 refine o_o (one_ia (f := Col.c) (ki := .i64) g204) ?_
                 refine o_h3 [(6, (.ptr 0 0)), (61, (.agg [(vS x203.fName), (vI x203.fKind), (vS x203.fClass)]))] [(some (.box 93 [(vS x203.fName), (vI x203.fKind), (vS x203.fClass)]))] ?_
                 refine o_end (w200 _ ⟨(mkd .any 129 0 [(0, (vL Form.c a1)), (3, (vI x120)), (5, (vI x191)), (6, (.ptr 0 0))]), [(some (.box 93 [(vS x203.fName), (vI x203.fKind), (vS x203.fClass)]))]⟩ (wkm [0, 3, 5, 6] (whk wh_nil)) ?_)
                 refine s_so fun N205 k205 w205 => ?_
                 refine o_r2 [(62, (.ptr 0 0)), (63, (vS x203.fName))] ?_
                 refine bnd h fun r206 g207 h => ?_
                 refine o_o (one_call (p_f56 g207)) ?_
                 refine o_r1 [(7, (vB r206))] ?_
                 refine o_end (k205 _ ?_)
                 refine s_seq fun N208 k208 w208 => ?_
                 refine s_so fun N209 k209 w209 => ?_
                 refine o_r2 [(65, (vB r206)), (66, (vB (!r206)))] ?_
                 refine o_end (k209 _ ?_)
                 refine i_c [66] h (fun h => ?_) (fun h => ?_)
                 · refine s_so fun N211 k211 w211 => ?_
                   refine o_r1 [(2, (vI 4))] ?_
                   refine o_end (k211 _ ?_)
                   exact c_ret (rets [] [(vI 4)] [(vI 4)] h)
                 · refine c_skip (k208 _ ?_)
                   refine s_seq fun N212 k212 w212 => ?_
                   refine s_seq fun N213 k213 w213 => ?_
                   refine c_draw0 ?_
                   refine d_r2 [(67, (vL Form.c a1)), (68, (vI x120))] ?_
                   refine bnd h fun x214 g215 h => ?_
                   refine d_o (one_ia (f := Form.c) (ki := .i64) g215) ?_
                   refine d_r3 [(70, (.agg [(vS x214.fName), (vL Col.c x214.fCols)])), (71, (.ptr 0 0)), (72, (vS x203.fName))] ?_
                   refine bnd h fun r216 g217 h => ?_
                   refine d_o (one_call (p_f57 g217)) ?_
                   refine d_r2 [(74, (vI x191)), (75, (vB (decide (r216 < x191))))] ?_
                   refine d_end (k213 _ ?_)
                   refine i_c [75] h (fun h => ?_) (fun h => ?_)
                   · refine s_so fun N219 k219 w219 => ?_
                     refine o_r1 [(2, (vI 6))] ?_
                     refine s_tm (mkd .any 129 0 [(0, (vL Form.c a1)), (2, (vI 6)), (3, (vI x120)), (5, (vI x191)), (6, (.ptr 0 0)), (7, (vB r206)), (62, (.ptr 0 0)), (63, (vS x203.fName)), (64, (vB r206)), (65, (vB r206)), (66, (vB false)), (67, (vL Form.c a1)), (68, (vI x120)), (69, (.iptr [(vS x214.fName), (vL Col.c x214.fCols)])), (70, (.agg [(vS x214.fName), (vL Col.c x214.fCols)])), (71, (.ptr 0 0)), (72, (vS x203.fName)), (73, (vI r216)), (74, (vI x191)), (75, (vB true))]) ?_
                     refine o_end (w219 _ ⟨(mkd .any 129 0 [(2, (vI 6))]), []⟩ (wkm [2] wh_nil) ?_)
                     exact c_ret (rets [] [(vI 6)] [(vI 6)] h)
                   · refine c_skip (k212 _ ?_)
                     refine J1 (r := r) (fun (x226 : Bool) => ⟨(mkd .any 129 0 [(0, (vL Form.c a1)), (3, (vI x120)), (5, (vI x191)), (89, (vB x226))]), []⟩) (f17_k220 x191 (f17_l153 a1 x120 n (f17_k125 x120 (f17_l11 a1 n (f17_k8 n a1) m11)) m153)) ?_ ?_
                     · intro x226 h
                       rw [f17_k220.eq_1] at h
                       refine i_c [89] h (fun h => ?_) (fun h => ?_)
                       · refine s_so fun N228 k228 w228 => ?_
                         refine o_r1 [(2, (vI 1))] ?_
                         refine o_end (k228 _ ?_)
                         exact c_ret (rets [] [(vI 1)] [(vI 1)] h)
                       · refine c_skip (k198 _ ?_)
                         refine c_ops ?_
                         refine o_r3 [(5, (vI (wr .i64 (x191 + 1)))), (52, (vI x191)), (53, (vI (wr .i64 (x191 + 1))))] ?_
                         exact o_end (w153 _ _ (wkm [0, 3, 5] wh_nil) h)
                     · intro N220 w220
                       refine c_ops ?_
                       refine o_r2 [(76, (.ptr 0 1)), (77, (vI x203.fKind))] ?_
                       refine s_tm (mkd .any 129 0 [(0, (vL Form.c a1)), (3, (vI x120)), (5, (vI x191)), (6, (.ptr 0 0)), (7, (vB r206)), (62, (.ptr 0 0)), (63, (vS x203.fName)), (64, (vB r206)), (65, (vB r206)), (66, (vB false)), (67, (vL Form.c a1)), (68, (vI x120)), (69, (.iptr [(vS x214.fName), (vL Col.c x214.fCols)])), (70, (.agg [(vS x214.fName), (vL Col.c x214.fCols)])), (71, (.ptr 0 0)), (72, (vS x203.fName)), (73, (vI r216)), (74, (vI x191)), (75, (vB false)), (76, (.ptr 0 1)), (77, (vI x203.fKind))]) ?_
                       refine bnd h fun r221 g222 h => ?_
                       refine o_o (one_call (p_f58 g222)) ?_
                       refine o_r2 [(79, (vB (!r221))), (80, (vB (!r221)))] ?_
                       refine i_o [79, 80] h (fun h => ?_) (fun h => ?_)
                       · refine o_r9 [(81, (.val undef)), (82, (.val undef)), (83, (.val undef)), (84, (.val undef)), (85, (.val undef)), (86, (.val undef)), (87, (.val undef)), (88, (.val undef)), (89, (vB true))] ?_
                         exact o_end (w220 _ _ (wkm [0, 3, 5, 89] wh_nil) h)
                       · refine o_r4 [(81, (.ptr 0 1)), (82, (vI x203.fKind)), (83, (vB (x203.fKind != 3))), (84, (vB (x203.fKind != 3)))] ?_
                         refine i_o [83, 84] h (fun h => ?_) (fun h => ?_)
                         · refine o_r2 [(85, (.ptr 0 2)), (86, (vS x203.fClass))] ?_
                           refine o_g ?_
                           refine o_o (one_sc (vs := [.string x203.fClass, .string (ByteArray.mk #[])]) (str_neq x203.fClass (ByteArray.mk #[]))) ?_
                           refine o_r2 [(88, (vB (!(sEqF x203.fClass (ByteArray.mk #[]))))), (89, (vB (!(sEqF x203.fClass (ByteArray.mk #[])))))] ?_
                           exact o_end (w220 _ _ (wkm [0, 3, 5, 89] wh_nil) h)
                         · refine o_r5 [(85, (.val undef)), (86, (.val undef)), (87, (.val undef)), (88, (vB false)), (89, (vB false))] ?_
                           exact o_end (w220 _ _ (wkm [0, 3, 5, 89] wh_nil) h)
               · refine c_exit (hE152 _ ?_)
                 exact w125 _ (wkm [0, 3] wh_nil) h
     · refine c_exit (hE10 _ ?_)
       exact w8 _ (wkm [0] wh_nil) h
theorem ic111 : fnIC Try.prog H0 111 = some ([.tmp 4], 29, (.seq (.ops [⟨(some 2), none, .box 0 59 [] (.t 0)⟩, ⟨(some 4), none, .mov (.c (.bool false))⟩]) (.seq (.seq (.ops [⟨(some 5), none, .faddr (.t 2) 0⟩, ⟨(some 6), none, .ld (.t 5) 1 false⟩]) (.block 0 (.seq (.ops [⟨(some 8), none, .sc (.bin .eql 3) [(.t 6), (.c (.int .i64 1))]⟩, ⟨(some 7), none, .mov (.t 8)⟩]) (.cond (.t 7)
  (.seq (.ops [⟨(some 9), none, .faddr (.t 2) 1⟩, ⟨(some 10), none, .ld (.t 9) 1 false⟩, ⟨(some 11), none, .call 86 [(.t 10), (.c (.int .i64 (-1099511627776))), (.c (.int .i64 1099511627776))]⟩, ⟨(some 4), none, .mov (.t 11)⟩]) .ret)
  (.seq (.ops [⟨(some 13), none, .sc (.bin .eql 3) [(.t 6), (.c (.int .i64 2))]⟩, ⟨(some 12), none, .mov (.t 13)⟩]) (.cond (.t 12)
  (.seq (.ops [⟨(some 14), none, .faddr (.t 2) 1⟩, ⟨(some 15), none, .ld (.t 14) 1 false⟩, ⟨(some 16), none, .call 86 [(.t 15), (.c (.int .i64 0)), (.c (.int .i64 1))]⟩, ⟨(some 4), none, .mov (.t 16)⟩]) .ret)
  (.seq (.ops [⟨(some 18), none, .sc (.bin .eql 3) [(.t 6), (.c (.int .i64 3))]⟩, ⟨(some 17), none, .mov (.t 18)⟩]) (.cond (.t 17)
  (.seq (.ops [⟨(some 19), none, .faddr (.t 2) 1⟩, ⟨(some 20), none, .ld (.t 19) 1 false⟩, ⟨(some 21), none, .sc (.bin .eql 3) [(.t 20), (.c (.int .i64 0))]⟩, ⟨(some 4), none, .mov (.t 21)⟩]) .ret)
  (.seq (.ops [⟨(some 23), none, .sc (.bin .eql 3) [(.t 6), (.c (.int .i64 4))]⟩, ⟨(some 22), none, .mov (.t 23)⟩]) (.cond (.t 22)
  (.seq (.ops [⟨(some 24), none, .faddr (.t 2) 1⟩, ⟨(some 25), none, .ld (.t 24) 1 false⟩, ⟨(some 26), none, .mov (.t 1)⟩, ⟨(some 27), none, .sc (.bin .sub 3) [(.t 26), (.c (.int .i64 1))]⟩, ⟨(some 28), none, .call 86 [(.t 25), (.c (.int .i64 0)), (.t 27)]⟩, ⟨(some 4), none, .mov (.t 28)⟩]) .ret)
  .skip)))))))))) (.seq (.ops [⟨(some 4), none, .mov (.c (.bool false))⟩]) .ret)))) := by kernel_rfl
def f111 (n : Nat) (a1 : Val) (a2 : Int) : Option Bool := (bif (a1.fKind == 1) then ((f86 n a1.fN (-1099511627776) 1099511627776).bind fun r10 => some r10) else (bif (a1.fKind == 2) then ((f86 n a1.fN 0 1).bind fun r15 => some r15) else (bif (a1.fKind == 3) then some (a1.fN == 0) else (bif (a1.fKind == 4) then ((f86 n a1.fN 0 (wr .i64 (a2 - 1))).bind fun r23 => some r23) else some false))))
def f111_r (r : Bool) : AV := (vB r)
theorem p_f111 {n : Nat} {a1 : Val} {a2 : Int} {r : Bool} (h : f111 n a1 a2 = some r) : PureSpec Try.prog 111 [(.agg [(vI a1.fKind), (vI a1.fN)]), (vI a2)] (f111_r r) := by
 rw [f111.eq_1] at h
 refine pure_of hmix ic111 ?_
 refine go_to (mkd (.val undef) 29 0 [(0, (.agg [(vI a1.fKind), (vI a1.fN)])), (1, (vI a2))]) ?_
 refine s_so fun N3 k3 w3 => ?_
 refine o_h2 [(2, (.ptr 0 0)), (4, (vB false))] [(some (.box 59 [(vI a1.fKind), (vI a1.fN)]))] ?_
 refine o_end (k3 _ ?_)
 refine s_seq fun N4 k4 w4 => ?_
 refine s_so fun N5 k5 w5 => ?_
 refine o_r2 [(5, (.ptr 0 0)), (6, (vI a1.fKind))] ?_
 refine o_end (k5 _ ?_)
 refine c_block fun E6 hE6 hO6 => ?_
 refine s_so fun N7 k7 w7 => ?_
 refine o_r2 [(7, (vB (a1.fKind == 1))), (8, (vB (a1.fKind == 1)))] ?_
 refine o_end (k7 _ ?_)
 refine i_c [7, 8] h (fun h => ?_) (fun h => ?_)
 · refine s_so fun N9 k9 w9 => ?_
   refine o_r2 [(9, (.ptr 0 1)), (10, (vI a1.fN))] ?_
   refine bnd h fun r10 g11 h => ?_
   refine o_o (one_call (p_f86 g11)) ?_
   refine o_r1 [(4, (vB r10))] ?_
   refine o_end (k9 _ ?_)
   exact c_ret (rets [] [(vB r10)] [(vB r10)] h)
 · refine s_so fun N12 k12 w12 => ?_
   refine o_r2 [(12, (vB (a1.fKind == 2))), (13, (vB (a1.fKind == 2)))] ?_
   refine o_end (k12 _ ?_)
   refine i_c [12, 13] h (fun h => ?_) (fun h => ?_)
   · refine s_so fun N14 k14 w14 => ?_
     refine o_r2 [(14, (.ptr 0 1)), (15, (vI a1.fN))] ?_
     refine bnd h fun r15 g16 h => ?_
     refine o_o (one_call (p_f86 g16)) ?_
     refine o_r1 [(4, (vB r15))] ?_
     refine o_end (k14 _ ?_)
     exact c_ret (rets [] [(vB r15)] [(vB r15)] h)
   · refine s_so fun N17 k17 w17 => ?_
     refine o_r2 [(17, (vB (a1.fKind == 3))), (18, (vB (a1.fKind == 3)))] ?_
     refine o_end (k17 _ ?_)
     refine i_c [17, 18] h (fun h => ?_) (fun h => ?_)
     · refine s_so fun N19 k19 w19 => ?_
       refine o_r4 [(4, (vB (a1.fN == 0))), (19, (.ptr 0 1)), (20, (vI a1.fN)), (21, (vB (a1.fN == 0)))] ?_
       refine o_end (k19 _ ?_)
       exact c_ret (rets [] [(vB (a1.fN == 0))] [(vB (a1.fN == 0))] h)
     · refine s_so fun N20 k20 w20 => ?_
       refine o_r2 [(22, (vB (a1.fKind == 4))), (23, (vB (a1.fKind == 4)))] ?_
       refine o_end (k20 _ ?_)
       refine i_c [22, 23] h (fun h => ?_) (fun h => ?_)
       · refine s_so fun N22 k22 w22 => ?_
         refine o_r4 [(24, (.ptr 0 1)), (25, (vI a1.fN)), (26, (vI a2)), (27, (vI (wr .i64 (a2 - 1))))] ?_
         refine bnd h fun r23 g24 h => ?_
         refine o_o (one_call (p_f86 g24)) ?_
         refine o_r1 [(4, (vB r23))] ?_
         refine s_tm (mkd (.val undef) 29 0 [(0, (.agg [(vI a1.fKind), (vI a1.fN)])), (1, (vI a2)), (2, (.ptr 0 0)), (4, (vB r23)), (5, (.ptr 0 0)), (6, (vI a1.fKind)), (7, (vB false)), (8, (vB false)), (12, (vB false)), (13, (vB false)), (17, (vB false)), (18, (vB false)), (22, (vB true)), (23, (vB true)), (24, (.ptr 0 1)), (25, (vI a1.fN)), (26, (vI a2)), (27, (vI (wr .i64 (a2 - 1)))), (28, (vB r23))]) ?_
         refine o_end (w22 _ ⟨(mkd .any 29 0 [(4, (vB r23))]), []⟩ (wkm [4] wh_nil) ?_)
         exact c_ret (rets [] [(vB r23)] [(vB r23)] h)
       · refine c_skip (k4 _ ?_)
         refine s_so fun N25 k25 w25 => ?_
         refine o_r1 [] ?_
         refine o_end (k25 _ ?_)
         exact c_ret (rets [] [(vB false)] [(vB false)] h)
theorem ic110 : fnIC Try.prog H0 110 = some ([.tmp 3], 10, (.seq (.ops [⟨(some 2), none, .box 0 59 [] (.t 0)⟩, ⟨(some 3), none, .mov (.c (.bool false))⟩]) (.seq (.ops [⟨(some 4), none, .ld (.t 2) 2 true⟩, ⟨(some 5), none, .faddr (.t 1) 0⟩, ⟨(some 6), none, .ld (.t 5) 1 false⟩, ⟨(some 7), none, .len false (.t 6)⟩, ⟨(some 8), none, .call 111 [(.t 4), (.t 7)]⟩, ⟨(some 9), none, .sc (.un .not) [(.t 8)]⟩, ⟨(some 3), none, .mov (.t 9)⟩]) .ret))) := by kernel_rfl
def f110 (n : Nat) (a1 : Val) (a2 : (List Node)) (a3 : (List Val)) : Option Bool := ((f111 n a1 (len a2)).bind fun r7 => some (!r7))
def f110_r (r : Bool) : AV := (vB r)
theorem p_f110 {n : Nat} {a1 : Val} {a2 : (List Node)} {a3 : (List Val)} {r : Bool} (h : f110 n a1 a2 a3 = some r) : PureSpec Try.prog 110 [(.agg [(vI a1.fKind), (vI a1.fN)]), (.iptr [(vL Node.c a2), (vL Val.c a3)])] (f110_r r) := by
 rw [f110.eq_1] at h
 refine pure_of hmix ic110 ?_
 refine go_to (mkd (.val undef) 10 0 [(0, (.agg [(vI a1.fKind), (vI a1.fN)])), (1, (.iptr [(vL Node.c a2), (vL Val.c a3)]))]) ?_
 refine s_so fun N4 k4 w4 => ?_
 refine o_h2 [(2, (.ptr 0 0)), (3, (vB false))] [(some (.box 59 [(vI a1.fKind), (vI a1.fN)]))] ?_
 refine o_end (k4 _ ?_)
 refine s_so fun N5 k5 w5 => ?_
 refine o_r3 [(4, (.agg [(vI a1.fKind), (vI a1.fN)])), (5, (.iptr [(vL Node.c a2), (vL Val.c a3)])), (6, (vL Node.c a2))] ?_
 refine o_o (one_len (f := Node.c) (l := a2)) ?_
 refine bnd h fun r7 g8 h => ?_
 refine o_o (one_call (p_f111 g8)) ?_
 refine o_r2 [(3, (vB (!r7))), (9, (vB (!r7)))] ?_
 refine o_end (k5 _ ?_)
 exact c_ret (rets [] [(vB (!r7))] [(vB (!r7))] h)
theorem ic140 : fnIC Try.prog H0 140 = some ([.tmp 4], 19, (.seq (.ops [⟨(some 4), none, .mov (.c (.int .i64 0))⟩]) (.seq (.seq (.ops [⟨(some 6), none, .mov (.t 0)⟩, ⟨(some 7), none, .len false (.t 6)⟩, ⟨(some 8), none, .mov (.c (.int .i64 0))⟩]) (.block 0 (.loop (.seq (.ops [⟨(some 9), none, .sc (.bin .lss 3) [(.t 8), (.t 7)]⟩]) (.seq (.cond (.t 9)
  .skip
  (.exit 0)) (.seq (.block 1 (.seq (.ops [⟨(some 10), none, .mov (.t 8)⟩, ⟨(some 5), none, .mov (.t 10)⟩]) (.seq (.ops [⟨(some 11), none, .mov (.t 1)⟩, ⟨(some 12), none, .mov (.t 0)⟩, ⟨(some 13), none, .mov (.t 5)⟩, ⟨(some 14), none, .iaddr 2 (.t 12) (.t 13)⟩, ⟨(some 15), none, .ld (.t 14) 2 true⟩, ⟨(some 16), none, .callv (.t 11) [(.t 15)]⟩]) (.cond (.t 16)
  (.seq (.ops [⟨(some 17), none, .mov (.t 5)⟩, ⟨(some 4), none, .mov (.t 17)⟩]) .ret)
  .skip)))) (.ops [⟨(some 18), none, .sc (.bin .add 3) [(.t 8), (.c (.int .i64 1))]⟩, ⟨(some 8), none, .mov (.t 18)⟩]))))))) (.seq (.ops [⟨(some 4), none, .mov (.c (.int .i64 (-1)))⟩]) .ret)))) := by kernel_rfl
def f140_k5 : Option Int := some (-1)
def f140_l9 (a1 : (List Val)) (n : Nat) (a2 : (List Node)) (a3 : (List Val)) (k5k : Option Int) : Nat → Int → Option Int
  | 0, _ => none
  | m9 + 1, x23 => (bif (decide (x23 < (len a1))) then ((gi a1 x23).bind fun x31 => ((f110 n x31 a2 a3).bind fun r33 => (bif r33 then some x23 else (f140_l9 a1 n a2 a3 (k5k) m9 (wr .i64 (x23 + 1)))))) else (k5k))
def f140 (n : Nat) (a1 : (List Val)) (a2 : (List Node)) (a3 : (List Val)) : Option Int := (f140_l9 a1 n a2 a3 (f140_k5) n 0)
def f140_r (r : Int) : AV := (vI r)
theorem p_f140 {n : Nat} {a1 : (List Val)} {a2 : (List Node)} {a3 : (List Val)} {r : Int} (h : f140 n a1 a2 a3 = some r) : PureSpec Try.prog 140 [(vL Val.c a1), (.fn 110 [(.iptr [(vL Node.c a2), (vL Val.c a3)])])] (f140_r r) := by
 rw [f140.eq_1] at h
 refine pure_of hmix ic140 ?_
 refine go_to (mkd (.val undef) 19 0 [(0, (vL Val.c a1)), (1, (.fn 110 [(.iptr [(vL Node.c a2), (vL Val.c a3)])]))]) ?_
 refine s_so fun N4 k4 w4 => ?_
 refine o_r1 [(4, (vI 0))] ?_
 refine o_end (k4 _ ?_)
 refine J0 (r := r) ⟨(mkd .any 19 0 []), []⟩ (f140_k5) ?_ ?_
 · intro h
   rw [f140_k5.eq_1] at h
   refine s_so fun N37 k37 w37 => ?_
   refine o_r1 [(4, (vI (-1)))] ?_
   refine o_end (k37 _ ?_)
   exact c_ret (rets [] [(vI (-1))] [(vI (-1))] h)
 · intro N5 w5
   refine s_so fun N6 k6 w6 => ?_
   refine o_r1 [(6, (vL Val.c a1))] ?_
   refine o_o (one_len (f := Val.c) (l := a1)) ?_
   refine o_r1 [(8, (vI 0))] ?_
   refine o_end (k6 _ ?_)
   refine c_block fun E8 hE8 hO8 => ?_
   refine W1 (fun (x23 : Int) => ⟨(mkd .any 19 0 [(0, (vL Val.c a1)), (1, (.fn 110 [(.iptr [(vL Node.c a2), (vL Val.c a3)])])), (7, (vI (len a1))), (8, (vI x23))]), []⟩) (f140_l9 a1 n a2 a3 (f140_k5)) h (wkm [0, 1, 7, 8] wh_nil) (by intros; rw [f140_l9.eq_1]) ?_
   intro m9 x23 h N9 w9
   rw [f140_l9.eq_2] at h
   refine s_so fun N24 k24 w24 => ?_
   refine o_r1 [(9, (vB (decide (x23 < (len a1)))))] ?_
   refine o_end (k24 _ ?_)
   refine s_seq fun N25 k25 w25 => ?_
   refine i_c [9] h (fun h => ?_) (fun h => ?_)
   · refine c_skip (k25 _ ?_)
     refine s_seq fun N27 k27 w27 => ?_
     refine c_block fun E28 hE28 hO28 => ?_
     refine s_so fun N29 k29 w29 => ?_
     refine o_r2 [(5, (vI x23)), (10, (vI x23))] ?_
     refine o_end (k29 _ ?_)
     refine s_so fun N30 k30 w30 => ?_
     refine o_r3 [(11, (.fn 110 [(.iptr [(vL Node.c a2), (vL Val.c a3)])])), (12, (vL Val.c a1)), (13, (vI x23))] ?_
     refine bnd h fun x31 g32 h => ?_
     refine o_o (one_ia (f := Val.c) (ki := .i64) g32) ?_
     refine o_r1 [(15, (.agg [(vI x31.fKind), (vI x31.fN)]))] ?_
     refine bnd h fun r33 g34 h => ?_
     refine o_o (one_callv (caps := [(.iptr [(vL Node.c a2), (vL Val.c a3)])]) (p_f110 g34)) ?_
     refine o_end (k30 _ ?_)
     refine i_c [16] h (fun h => ?_) (fun h => ?_)
     · refine s_so fun N36 k36 w36 => ?_
       refine o_r2 [(4, (vI x23)), (17, (vI x23))] ?_
       refine o_end (k36 _ ?_)
       exact c_ret (rets [] [(vI x23)] [(vI x23)] h)
     · refine c_skip (k27 _ ?_)
       refine c_ops ?_
       refine o_r2 [(8, (vI (wr .i64 (x23 + 1)))), (18, (vI (wr .i64 (x23 + 1))))] ?_
       exact o_end (w9 _ _ (wkm [0, 1, 7, 8] wh_nil) h)
   · refine c_exit (hE8 _ ?_)
     exact w5 _ (wkm [] wh_nil) h
theorem ic112 : fnIC Try.prog H0 112 = some ([.tmp 4], 9, (.seq (.ops [⟨(some 4), none, .mov (.c (.bool false))⟩]) (.seq (.ops [⟨(some 5), none, .mov (.t 0)⟩, ⟨(some 6), none, .mov (.t 1)⟩, ⟨(some 7), none, .call 140 [(.t 5), (.t 6)]⟩, ⟨(some 8), none, .sc (.bin .geq 3) [(.t 7), (.c (.int .i64 0))]⟩, ⟨(some 4), none, .mov (.t 8)⟩]) .ret))) := by kernel_rfl
def f112 (n : Nat) (a1 : (List Val)) (a2 : (List Node)) (a3 : (List Val)) : Option Bool := ((f140 n a1 a2 a3).bind fun r6 => some (decide (r6 ≥ 0)))
def f112_r (r : Bool) : AV := (vB r)
theorem p_f112 {n : Nat} {a1 : (List Val)} {a2 : (List Node)} {a3 : (List Val)} {r : Bool} (h : f112 n a1 a2 a3 = some r) : PureSpec Try.prog 112 [(vL Val.c a1), (.fn 110 [(.iptr [(vL Node.c a2), (vL Val.c a3)])])] (f112_r r) := by
 rw [f112.eq_1] at h
 refine pure_of hmix ic112 ?_
 refine go_to (mkd (.val undef) 9 0 [(0, (vL Val.c a1)), (1, (.fn 110 [(.iptr [(vL Node.c a2), (vL Val.c a3)])]))]) ?_
 refine s_so fun N4 k4 w4 => ?_
 refine o_r1 [(4, (vB false))] ?_
 refine o_end (k4 _ ?_)
 refine s_so fun N5 k5 w5 => ?_
 refine o_r2 [(5, (vL Val.c a1)), (6, (.fn 110 [(.iptr [(vL Node.c a2), (vL Val.c a3)])]))] ?_
 refine bnd h fun r6 g7 h => ?_
 refine o_o (one_call (p_f140 g7)) ?_
 refine o_r2 [(4, (vB (decide (r6 ≥ 0)))), (8, (vB (decide (r6 ≥ 0))))] ?_
 refine o_end (k5 _ ?_)
 exact c_ret (rets [] [(vB (decide (r6 ≥ 0)))] [(vB (decide (r6 ≥ 0)))] h)
theorem ic114 : fnIC Try.prog H0 114 = some ([.tmp 2], 11, (.seq (.ops [⟨(some 1), none, .box 0 59 [] (.t 0)⟩, ⟨(some 2), none, .mov (.c (.bool false))⟩]) (.seq (.ops [⟨(some 3), none, .faddr (.t 1) 0⟩, ⟨(some 4), none, .ld (.t 3) 1 false⟩, ⟨(some 5), none, .sc (.bin .eql 3) [(.t 4), (.c (.int .i64 3))]⟩, ⟨(some 6), none, .mov (.t 5)⟩, ⟨(some 7), (some (6, false)), .faddr (.t 1) 0⟩, ⟨(some 8), (some (6, false)), .ld (.t 7) 1 false⟩, ⟨(some 9), (some (6, false)), .sc (.bin .eql 3) [(.t 8), (.c (.int .i64 4))]⟩, ⟨(some 10), none, .pick (.t 6) (.c (.bool true)) (.t 9)⟩, ⟨(some 2), none, .mov (.t 10)⟩]) .ret))) := by kernel_rfl
def f114_k3 (x5 : Bool) : Option Bool := some x5
def f114 (n : Nat) (a1 : Val) : Option Bool := (bif (a1.fKind == 3) then (f114_k3 true) else (f114_k3 (a1.fKind == 4)))
def f114_r (r : Bool) : AV := (vB r)
theorem p_f114 {n : Nat} {a1 : Val} {r : Bool} (h : f114 n a1 = some r) : PureSpec Try.prog 114 [(.agg [(vI a1.fKind), (vI a1.fN)])] (f114_r r) := by
 rw [f114.eq_1] at h
 refine pure_of hmix ic114 ?_
 refine go_to (mkd (.val undef) 11 0 [(0, (.agg [(vI a1.fKind), (vI a1.fN)]))]) ?_
 refine s_so fun N2 k2 w2 => ?_
 refine o_h2 [(1, (.ptr 0 0)), (2, (vB false))] [(some (.box 59 [(vI a1.fKind), (vI a1.fN)]))] ?_
 refine o_end (k2 _ ?_)
 refine J1 (r := r) (fun (x5 : Bool) => ⟨(mkd .any 11 0 [(2, (vB x5))]), []⟩) (f114_k3) ?_ ?_
 · intro x5 h
   rw [f114_k3.eq_1] at h
   exact c_ret (rets [] [(vB x5)] [(vB x5)] h)
 · intro N3 w3
   refine c_ops ?_
   refine o_r4 [(3, (.ptr 0 0)), (4, (vI a1.fKind)), (5, (vB (a1.fKind == 3))), (6, (vB (a1.fKind == 3)))] ?_
   refine i_o [5, 6] h (fun h => ?_) (fun h => ?_)
   · refine o_r5 [(2, (vB true)), (7, (.val undef)), (8, (.val undef)), (9, (.val undef)), (10, (vB true))] ?_
     exact o_end (w3 _ _ (wkm [2] wh_nil) h)
   · refine o_r5 [(2, (vB (a1.fKind == 4))), (7, (.ptr 0 0)), (8, (vI a1.fKind)), (9, (vB (a1.fKind == 4))), (10, (vB (a1.fKind == 4)))] ?_
     exact o_end (w3 _ _ (wkm [2] wh_nil) h)
theorem ic113 : fnIC Try.prog H0 113 = some ([.tmp 3], 12, (.seq (.ops [⟨(some 2), none, .box 0 59 [] (.t 0)⟩, ⟨(some 3), none, .mov (.c (.bool false))⟩]) (.seq (.ops [⟨(some 4), none, .ld (.t 1) 1 false⟩, ⟨(some 5), none, .ld (.t 2) 2 true⟩, ⟨(some 6), none, .callv (.t 4) [(.t 5)]⟩, ⟨(some 7), none, .mov (.t 6)⟩, ⟨(some 8), (some (7, false)), .ld (.t 2) 2 true⟩, ⟨(some 9), (some (7, false)), .call 114 [(.t 8)]⟩, ⟨(some 10), (some (7, false)), .sc (.un .not) [(.t 9)]⟩, ⟨(some 11), none, .pick (.t 7) (.c (.bool true)) (.t 10)⟩, ⟨(some 3), none, .mov (.t 11)⟩]) .ret))) := by kernel_rfl
end Go.Proofs
end
