/- Texts of this claim, one behind the other. -/
import Derived.Test.YtbdgamoicleieaaPfc
import Derived.Laws.RangeAny
import Derived.Laws.RangeString
import Derived.KernelRfl
import Derived.ChangeFn
import Derived.Carry
import Derived.ChangeSame
import Derived.RowKit
import Derived.OpenShut
import Derived.ChangeShapes
set_option linter.unusedVariables false
set_option linter.unusedSimpArgs false
section
set_option linter.unusedVariables false
set_option maxRecDepth 100000
set_option maxHeartbeats 4000000
namespace Go.Proofs
open Go.Vm
attribute [local irreducible] vOps vDraw vC vK retP retH PureSpec HSpec
def f113_k5 (x11 : Bool) : Option Bool := some x11
def f113 (n : Nat) (a1 : Val) (a2 : (List Node)) (a3 : (List Val)) : Option Bool := ((f110 n a1 a2 a3).bind fun r6 => (bif r6 then (f113_k5 true) else ((f114 n a1).bind fun r9 => (f113_k5 (!r9)))))
def f113_r (r : Bool) : AV := (vB r)
theorem p_f113 {n : Nat} {a1 : Val} {a2 : (List Node)} {a3 : (List Val)} {r : Bool} (h : f113 n a1 a2 a3 = some r) : PureSpec Try.prog 113 [(.agg [(vI a1.fKind), (vI a1.fN)]), (.iptr [(.fn 110 [(.iptr [(vL Node.c a2), (vL Val.c a3)])])])] (f113_r r) := by
 rw [f113.eq_1] at h
 refine pure_of hmix ic113 ?_
 refine go_to (mkd (.val undef) 12 0 [(0, (.agg [(vI a1.fKind), (vI a1.fN)])), (1, (.iptr [(.fn 110 [(.iptr [(vL Node.c a2), (vL Val.c a3)])])]))]) ?_
 refine s_so fun N4 k4 w4 => ?_
 refine o_h2 [(2, (.ptr 0 0)), (3, (vB false))] [(some (.box 59 [(vI a1.fKind), (vI a1.fN)]))] ?_
 refine o_end (k4 _ ?_)
 refine J1 (r := r) (fun (x11 : Bool) => ⟨(mkd .any 12 0 [(3, (vB x11))]), []⟩) (f113_k5) ?_ ?_
 · intro x11 h
   rw [f113_k5.eq_1] at h
   exact c_ret (rets [] [(vB x11)] [(vB x11)] h)
 · intro N5 w5
   refine c_ops ?_
   refine o_r2 [(4, (.fn 110 [(.iptr [(vL Node.c a2), (vL Val.c a3)])])), (5, (.agg [(vI a1.fKind), (vI a1.fN)]))] ?_
   refine bnd h fun r6 g7 h => ?_
   refine o_o (one_callv (caps := [(.iptr [(vL Node.c a2), (vL Val.c a3)])]) (p_f110 g7)) ?_
   refine o_r1 [(7, (vB r6))] ?_
   refine i_o [6, 7] h (fun h => ?_) (fun h => ?_)
   · refine o_r5 [(3, (vB true)), (8, (.val undef)), (9, (.val undef)), (10, (.val undef)), (11, (vB true))] ?_
     exact o_end (w5 _ _ (wkm [3] wh_nil) h)
   · refine o_r1 [(8, (.agg [(vI a1.fKind), (vI a1.fN)]))] ?_
     refine bnd h fun r9 g10 h => ?_
     refine o_g ?_
     refine o_o (one_call (p_f114 g10)) ?_
     refine o_r3 [(3, (vB (!r9))), (10, (vB (!r9))), (11, (vB (!r9)))] ?_
     exact o_end (w5 _ _ (wkm [3] wh_nil) h)
def f140_b_k5 : Option Int := some (-1)
def f140_b_l9 (a1 : (List Val)) (n : Nat) (a2 : (List Node)) (a3 : (List Val)) (k5k : Option Int) : Nat → Int → Option Int
  | 0, _ => none
  | m9 + 1, x23 => (bif (decide (x23 < (len a1))) then ((gi a1 x23).bind fun x31 => ((f113 n x31 a2 a3).bind fun r33 => (bif r33 then some x23 else (f140_b_l9 a1 n a2 a3 (k5k) m9 (wr .i64 (x23 + 1)))))) else (k5k))
def f140_b (n : Nat) (a1 : (List Val)) (a2 : (List Node)) (a3 : (List Val)) : Option Int := (f140_b_l9 a1 n a2 a3 (f140_b_k5) n 0)
def f140_b_r (r : Int) : AV := (vI r)
theorem p_f140_b {n : Nat} {a1 : (List Val)} {a2 : (List Node)} {a3 : (List Val)} {r : Int} (h : f140_b n a1 a2 a3 = some r) : PureSpec Try.prog 140 [(vL Val.c a1), (.fn 113 [(.iptr [(.fn 110 [(.iptr [(vL Node.c a2), (vL Val.c a3)])])])])] (f140_b_r r) := by
 rw [f140_b.eq_1] at h
 refine pure_of hmix ic140 ?_
 refine go_to (mkd (.val undef) 19 0 [(0, (vL Val.c a1)), (1, (.fn 113 [(.iptr [(.fn 110 [(.iptr [(vL Node.c a2), (vL Val.c a3)])])])]))]) ?_
 refine s_so fun N4 k4 w4 => ?_
 refine o_r1 [(4, (vI 0))] ?_
 refine o_end (k4 _ ?_)
 refine J0 (r := r) ⟨(mkd .any 19 0 []), []⟩ (f140_b_k5) ?_ ?_
 · intro h
   rw [f140_b_k5.eq_1] at h
   refine s_so fun N37 k37 w37 => ?_
   refine o_r1 [(4, (vI (-1)))] ?_
   refine o_end (k37 _ ?_)
   exact c_ret (rets [] [(vI (-1))] [(vI (-1))] h)
 · intro N5 w5
   refine s_so fun N6 k6 w6 => ?_
   refine o_r1 [(6, (vL Val.c a1))] ?_
   refine o_o (one_len (f := Val.c) (l := a1)) ?_
   refine o_r1 [(8, (vI 0))] ?_
   refine o_end (k6 _ ?_)
   refine c_block fun E8 hE8 hO8 => ?_
   refine W1 (fun (x23 : Int) => ⟨(mkd .any 19 0 [(0, (vL Val.c a1)), (1, (.fn 113 [(.iptr [(.fn 110 [(.iptr [(vL Node.c a2), (vL Val.c a3)])])])])), (7, (vI (len a1))), (8, (vI x23))]), []⟩) (f140_b_l9 a1 n a2 a3 (f140_b_k5)) h (wkm [0, 1, 7, 8] wh_nil) (by intros; rw [f140_b_l9.eq_1]) ?_
   intro m9 x23 h N9 w9
   rw [f140_b_l9.eq_2] at h
   refine s_so fun N24 k24 w24 => ?_
   refine o_r1 [(9, (vB (decide (x23 < (len a1)))))] ?_
   refine o_end (k24 _ ?_)
   refine s_seq fun N25 k25 w25 => ?_
   refine i_c [9] h (fun h => ?_) (fun h => ?_)
   · refine c_skip (k25 _ ?_)
     refine s_seq fun N27 k27 w27 => ?_
     refine c_block fun E28 hE28 hO28 => ?_
     refine s_so fun N29 k29 w29 => ?_
     refine o_r2 [(5, (vI x23)), (10, (vI x23))] ?_
     refine o_end (k29 _ ?_)
     refine s_so fun N30 k30 w30 => ?_
     refine o_r3 [(11, (.fn 113 [(.iptr [(.fn 110 [(.iptr [(vL Node.c a2), (vL Val.c a3)])])])])), (12, (vL Val.c a1)), (13, (vI x23))] ?_
     refine bnd h fun x31 g32 h => ?_
     refine o_o (one_ia (f := Val.c) (ki := .i64) g32) ?_
     refine o_r1 [(15, (.agg [(vI x31.fKind), (vI x31.fN)]))] ?_
     refine bnd h fun r33 g34 h => ?_
     refine o_o (one_callv (caps := [(.iptr [(.fn 110 [(.iptr [(vL Node.c a2), (vL Val.c a3)])])])]) (p_f113 g34)) ?_
     refine o_end (k30 _ ?_)
     refine i_c [16] h (fun h => ?_) (fun h => ?_)
     · refine s_so fun N36 k36 w36 => ?_
       refine o_r2 [(4, (vI x23)), (17, (vI x23))] ?_
       refine o_end (k36 _ ?_)
       exact c_ret (rets [] [(vI x23)] [(vI x23)] h)
     · refine c_skip (k27 _ ?_)
       refine c_ops ?_
       refine o_r2 [(8, (vI (wr .i64 (x23 + 1)))), (18, (vI (wr .i64 (x23 + 1))))] ?_
       exact o_end (w9 _ _ (wkm [0, 1, 7, 8] wh_nil) h)
   · refine c_exit (hE8 _ ?_)
     exact w5 _ (wkm [] wh_nil) h
def f112_b (n : Nat) (a1 : (List Val)) (a2 : (List Node)) (a3 : (List Val)) : Option Bool := ((f140_b n a1 a2 a3).bind fun r6 => some (decide (r6 ≥ 0)))
def f112_b_r (r : Bool) : AV := (vB r)
theorem p_f112_b {n : Nat} {a1 : (List Val)} {a2 : (List Node)} {a3 : (List Val)} {r : Bool} (h : f112_b n a1 a2 a3 = some r) : PureSpec Try.prog 112 [(vL Val.c a1), (.fn 113 [(.iptr [(.fn 110 [(.iptr [(vL Node.c a2), (vL Val.c a3)])])])])] (f112_b_r r) := by
 rw [f112_b.eq_1] at h
 refine pure_of hmix ic112 ?_
 refine go_to (mkd (.val undef) 9 0 [(0, (vL Val.c a1)), (1, (.fn 113 [(.iptr [(.fn 110 [(.iptr [(vL Node.c a2), (vL Val.c a3)])])])]))]) ?_
 refine s_so fun N4 k4 w4 => ?_
 refine o_r1 [(4, (vB false))] ?_
 refine o_end (k4 _ ?_)
 refine s_so fun N5 k5 w5 => ?_
 refine o_r2 [(5, (vL Val.c a1)), (6, (.fn 113 [(.iptr [(.fn 110 [(.iptr [(vL Node.c a2), (vL Val.c a3)])])])]))] ?_
 refine bnd h fun r6 g7 h => ?_
 refine o_o (one_call (p_f140_b g7)) ?_
 refine o_r2 [(4, (vB (decide (r6 ≥ 0)))), (8, (vB (decide (r6 ≥ 0))))] ?_
 refine o_end (k5 _ ?_)
 exact c_ret (rets [] [(vB (decide (r6 ≥ 0)))] [(vB (decide (r6 ≥ 0)))] h)
theorem ic74 : fnIC Try.prog H0 74 = some ([.tmp 2], 49, (.seq (.ops [⟨(some 1), none, .box 0 26 [(0, 57, 2, 0), (1, 59, 2, 0)] (.t 0)⟩, ⟨(some 2), none, .mov (.c (.int .i64 0))⟩]) (.seq (.seq (.ops [⟨(some 8), none, .faddr (.t 1) 0⟩, ⟨(some 9), none, .ld (.t 8) 1 false⟩, ⟨(some 10), none, .len false (.t 9)⟩, ⟨(some 11), none, .sc (.bin .gtr 3) [(.t 10), (.c (.int .i64 400))]⟩, ⟨(some 12), none, .mov (.t 11)⟩, ⟨(some 13), (some (12, false)), .faddr (.t 1) 1⟩, ⟨(some 14), (some (12, false)), .ld (.t 13) 1 false⟩, ⟨(some 15), (some (12, false)), .len false (.t 14)⟩, ⟨(some 16), (some (12, false)), .sc (.bin .gtr 3) [(.t 15), (.c (.int .i64 60))]⟩, ⟨(some 17), none, .pick (.t 12) (.c (.bool true)) (.t 16)⟩]) (.cond (.t 17)
  (.seq (.ops [⟨(some 2), none, .mov (.c (.int .i64 3))⟩]) .ret)
  .skip)) (.seq (.seq (.ops [⟨(some 18), none, .faddr (.t 1) 0⟩, ⟨(some 19), none, .ld (.t 18) 1 false⟩, ⟨(some 20), none, .len false (.t 19)⟩, ⟨(some 21), none, .mov (.c (.int .i64 0))⟩]) (.block 0 (.loop (.seq (.ops [⟨(some 22), none, .sc (.bin .lss 3) [(.t 21), (.t 20)]⟩]) (.seq (.cond (.t 22)
  .skip
  (.exit 0)) (.seq (.block 1 (.seq (.ops [⟨(some 23), none, .iaddr 2 (.t 19) (.t 21)⟩, ⟨(some 24), none, .ld (.t 23) 2 true⟩, ⟨(some 4), none, .alloc 0 57 [(1, 59, 2, 0)] [(.string ⟨#[]⟩), (.slice none 0 0)]⟩, ⟨none, none, .st true 2 [(1, 59, 2, 0)] (.t 4) (.t 24)⟩]) (.seq (.ops [⟨(some 25), none, .faddr (.t 4) 1⟩, ⟨(some 26), none, .ld (.t 25) 1 false⟩, ⟨(some 27), none, .len false (.t 26)⟩, ⟨(some 28), none, .sc (.bin .gtr 3) [(.t 27), (.c (.int .i64 30))]⟩]) (.cond (.t 28)
  (.seq (.ops [⟨(some 2), none, .mov (.c (.int .i64 3))⟩]) .ret)
  .skip)))) (.ops [⟨(some 29), none, .sc (.bin .add 3) [(.t 21), (.c (.int .i64 1))]⟩, ⟨(some 21), none, .mov (.t 29)⟩]))))))) (.seq (.ops [⟨(some 30), none, .mkf 110 [(.t 1)]⟩, ⟨(some 5), none, .alloc 0 165 [] [.nilFunc]⟩, ⟨none, none, .st true 1 [] (.t 5) (.t 30)⟩]) (.seq (.seq (.ops [⟨(some 31), none, .faddr (.t 1) 0⟩, ⟨(some 32), none, .ld (.t 31) 1 false⟩, ⟨(some 33), none, .len false (.t 32)⟩, ⟨(some 34), none, .mov (.c (.int .i64 0))⟩]) (.block 2 (.loop (.seq (.ops [⟨(some 35), none, .sc (.bin .lss 3) [(.t 34), (.t 33)]⟩]) (.seq (.cond (.t 35)
  .skip
  (.exit 2)) (.seq (.block 3 (.seq (.ops [⟨(some 36), none, .iaddr 2 (.t 32) (.t 34)⟩, ⟨(some 37), none, .ld (.t 36) 2 true⟩, ⟨(some 7), none, .alloc 0 57 [(1, 59, 2, 0)] [(.string ⟨#[]⟩), (.slice none 0 0)]⟩, ⟨none, none, .st true 2 [(1, 59, 2, 0)] (.t 7) (.t 37)⟩]) (.seq (.ops [⟨(some 38), none, .faddr (.t 7) 1⟩, ⟨(some 39), none, .ld (.t 38) 1 false⟩, ⟨(some 40), none, .ld (.t 5) 1 false⟩, ⟨(some 41), none, .call 112 [(.t 39), (.t 40)]⟩]) (.cond (.t 41)
  (.seq (.ops [⟨(some 2), none, .mov (.c (.int .i64 2))⟩]) .ret)
  .skip)))) (.ops [⟨(some 42), none, .sc (.bin .add 3) [(.t 34), (.c (.int .i64 1))]⟩, ⟨(some 34), none, .mov (.t 42)⟩]))))))) (.seq (.ops [⟨(some 43), none, .faddr (.t 1) 1⟩, ⟨(some 44), none, .ld (.t 43) 1 false⟩, ⟨(some 45), none, .mkf 113 [(.t 5)]⟩, ⟨(some 46), none, .call 112 [(.t 44), (.t 45)]⟩, ⟨(some 47), none, .sc (.un .not) [(.t 46)]⟩, ⟨(some 48), none, .call 50 [(.t 47), (.c (.int .i64 2))]⟩, ⟨(some 2), none, .mov (.t 48)⟩]) .ret))))))) := by kernel_rfl
def f74_k42 (n : Nat) (a1 : Graph) : Option Int := ((f112_b n a1.fRoots a1.fNodes a1.fRoots).bind fun r75 => ((f50 n (!r75) 2).bind fun r77 => some r77))
def f74_l46 (a1 : Graph) (n : Nat) (k42k : Option Int) : Nat → Int → Option Int
  | 0, _ => none
  | m46 + 1, x60 => (bif (decide (x60 < (len a1.fNodes))) then ((gi a1.fNodes x60).bind fun x67 => ((f112 n x67.fVals a1.fNodes a1.fRoots).bind fun r70 => (bif r70 then some 2 else (f74_l46 a1 n (k42k) m46 (wr .i64 (x60 + 1)))))) else (k42k))
def f74_k11 (n : Nat) (a1 : Graph) : Option Int := (f74_l46 a1 n (f74_k42 n a1) n 0)
def f74_l15 (a1 : Graph) (k11k : Option Int) : Nat → Int → Option Int
  | 0, _ => none
  | m15 + 1, x28 => (bif (decide (x28 < (len a1.fNodes))) then ((gi a1.fNodes x28).bind fun x35 => (bif (decide ((len x35.fVals) > 30)) then some 3 else (f74_l15 a1 (k11k) m15 (wr .i64 (x28 + 1))))) else (k11k))
def f74_k4 (n : Nat) (a1 : Graph) (x8 : Bool) : Option Int := (bif x8 then some 3 else (f74_l15 a1 (f74_k11 n a1) n 0))
def f74 (n : Nat) (a1 : Graph) : Option Int := (bif (decide ((len a1.fNodes) > 400)) then (f74_k4 n a1 true) else (f74_k4 n a1 (decide ((len a1.fRoots) > 60))))
def f74_r (r : Int) : AV := (vI r)
theorem p_f74 {n : Nat} {a1 : Graph} {r : Int} (h : f74 n a1 = some r) : PureSpec Try.prog 74 [(.agg [(vL Node.c a1.fNodes), (vL Val.c a1.fRoots)])] (f74_r r) := by
 rw [f74.eq_1] at h
 refine pure_of hmix ic74 ?_
 refine go_to (mkd (.val undef) 49 0 [(0, (.agg [(vL Node.c a1.fNodes), (vL Val.c a1.fRoots)]))]) ?_
 refine s_so fun N2 k2 w2 => ?_
 refine o_h2 [(1, (.ptr 0 0)), (2, (vI 0))] [(some (.box 26 [(vL Node.c a1.fNodes), (vL Val.c a1.fRoots)]))] ?_
 refine o_end (k2 _ ?_)
 refine s_seq fun N3 k3 w3 => ?_
 refine J1 (r := r) (fun (x8 : Bool) => ⟨(mkd .any 49 0 [(1, (.ptr 0 0)), (17, (vB x8))]), [(some (.box 26 [(vL Node.c a1.fNodes), (vL Val.c a1.fRoots)]))]⟩) (f74_k4 n a1) ?_ ?_
 · intro x8 h
   rw [f74_k4.eq_1] at h
   refine i_c [17] h (fun h => ?_) (fun h => ?_)
   · refine s_so fun N10 k10 w10 => ?_
     refine o_r1 [(2, (vI 3))] ?_
     refine o_end (k10 _ ?_)
     exact c_ret (rets [] [(vI 3)] [(vI 3)] h)
   · refine c_skip (k3 _ ?_)
     refine J0 (r := r) ⟨(mkd .any 49 0 [(1, (.ptr 0 0))]), [(some (.box 26 [(vL Node.c a1.fNodes), (vL Val.c a1.fRoots)]))]⟩ (f74_k11 n a1) ?_ ?_
     · intro h
       rw [f74_k11.eq_1] at h
       refine s_so fun N41 k41 w41 => ?_
       refine o_h3 [(5, (.ptr 1 0)), (30, (.fn 110 [(.ptr 0 0)]))] [(some (.box 26 [(vL Node.c a1.fNodes), (vL Val.c a1.fRoots)])), (some (.box 165 [(.fn 110 [(.ptr 0 0)])]))] ?_
       refine o_end (k41 _ ?_)
       refine J0 (r := r) ⟨(mkd .any 49 0 [(1, (.ptr 0 0)), (5, (.ptr 1 0))]), [(some (.box 26 [(vL Node.c a1.fNodes), (vL Val.c a1.fRoots)])), (some (.box 165 [(.fn 110 [(.ptr 0 0)])]))]⟩ (f74_k42 n a1) ?_ ?_
       · intro h
         rw [f74_k42.eq_1] at h
         refine s_so fun N74 k74 w74 => ?_
         refine o_r3 [(43, (.ptr 0 1)), (44, (vL Val.c a1.fRoots)), (45, (.fn 113 [(.ptr 1 0)]))] ?_
         refine bnd h fun r75 g76 h => ?_
         refine o_o (one_callT [1, 0] (p_f112_b g76) (ns_v _)) ?_
         refine o_r1 [(47, (vB (!r75)))] ?_
         refine bnd h fun r77 g78 h => ?_
         refine o_o (one_call (p_f50 g78)) ?_
         refine o_r1 [(2, (vI r77))] ?_
         refine o_end (k74 _ ?_)
         exact c_ret (rets [] [(vI r77)] [(vI r77)] h)
       · intro N42 w42
         refine s_so fun N43 k43 w43 => ?_
         refine o_r2 [(31, (.ptr 0 0)), (32, (vL Node.c a1.fNodes))] ?_
         refine o_o (one_len (f := Node.c) (l := a1.fNodes)) ?_
         refine o_r1 [(34, (vI 0))] ?_
         refine o_end (k43 _ ?_)
         refine c_block fun E45 hE45 hO45 => ?_
         refine W1 (fun (x60 : Int) => ⟨(mkd .any 49 0 [(1, (.ptr 0 0)), (5, (.ptr 1 0)), (32, (vL Node.c a1.fNodes)), (33, (vI (len a1.fNodes))), (34, (vI x60))]), [(some (.box 26 [(vL Node.c a1.fNodes), (vL Val.c a1.fRoots)])), (some (.box 165 [(.fn 110 [(.ptr 0 0)])]))]⟩) (f74_l46 a1 n (f74_k42 n a1)) h (wkm [1, 5, 32, 33, 34] (whk (whk wh_nil))) (by intros; rw [f74_l46.eq_1]) ?_
         intro m46 x60 h N46 w46
         rw [f74_l46.eq_2] at h
         refine s_so fun N61 k61 w61 => ?_
         refine o_r1 [(35, (vB (decide (x60 < (len a1.fNodes)))))] ?_
         refine o_end (k61 _ ?_)
         refine s_seq fun N62 k62 w62 => ?_
         refine i_c [35] h (fun h => ?_) (fun h => ?_)
         · refine c_skip (k62 _ ?_)
           refine s_seq fun N64 k64 w64 => ?_
           refine c_block fun E65 hE65 hO65 => ?_
           refine s_so fun N66 k66 w66 => ?_
           refine bnd h fun x67 g68 h => ?_
           refine o_o (one_ia (f := Node.c) (ki := .i64) g68) ?_
           refine o_h3 [(7, (.ptr 3 0)), (37, (.agg [(vS x67.fClass), (vL Val.c x67.fVals)]))] [(some (.box 26 [(vL Node.c a1.fNodes), (vL Val.c a1.fRoots)])), (some (.box 165 [(.fn 110 [(.ptr 0 0)])])), (some (.row 59 2 (List.map Val.c []))), (some (.box 57 [(vS x67.fClass), (vL Val.c x67.fVals)]))] ?_
           refine o_end (k66 _ ?_)
           refine s_so fun N69 k69 w69 => ?_
           refine o_r3 [(38, (.ptr 3 1)), (39, (vL Val.c x67.fVals)), (40, (.fn 110 [(.ptr 0 0)]))] ?_
           refine bnd h fun r70 g71 h => ?_
           refine o_o (one_callT [0] (p_f112 g71) (ns_v _)) ?_
           refine o_end (k69 _ ?_)
           refine i_c [41] h (fun h => ?_) (fun h => ?_)
           · refine s_so fun N73 k73 w73 => ?_
             refine o_r1 [(2, (vI 2))] ?_
             refine o_end (k73 _ ?_)
             exact c_ret (rets [] [(vI 2)] [(vI 2)] h)
           · refine c_skip (k64 _ ?_)
             refine c_ops ?_
             refine o_r2 [(34, (vI (wr .i64 (x60 + 1)))), (42, (vI (wr .i64 (x60 + 1))))] ?_
             exact o_end (w46 _ _ (wkm [1, 5, 32, 33, 34] (whk (whk wh_nil))) h)
         · refine c_exit (hE45 _ ?_)
           exact w42 _ (wkm [1, 5] (whk (whk wh_nil))) h
     · intro N11 w11
       refine s_so fun N12 k12 w12 => ?_
       refine o_r2 [(18, (.ptr 0 0)), (19, (vL Node.c a1.fNodes))] ?_
       refine o_o (one_len (f := Node.c) (l := a1.fNodes)) ?_
       refine o_r1 [(21, (vI 0))] ?_
       refine o_end (k12 _ ?_)
       refine c_block fun E14 hE14 hO14 => ?_
       refine W1 (fun (x28 : Int) => ⟨(mkd .any 49 0 [(1, (.ptr 0 0)), (19, (vL Node.c a1.fNodes)), (20, (vI (len a1.fNodes))), (21, (vI x28))]), [(some (.box 26 [(vL Node.c a1.fNodes), (vL Val.c a1.fRoots)]))]⟩) (f74_l15 a1 (f74_k11 n a1)) h (wkm [1, 19, 20, 21] (whk wh_nil)) (by intros; rw [f74_l15.eq_1]) ?_
       intro m15 x28 h N15 w15
       rw [f74_l15.eq_2] at h
       refine s_so fun N29 k29 w29 => ?_
       refine o_r1 [(22, (vB (decide (x28 < (len a1.fNodes)))))] ?_
       refine o_end (k29 _ ?_)
       refine s_seq fun N30 k30 w30 => ?_
       refine i_c [22] h (fun h => ?_) (fun h => ?_)
       · refine c_skip (k30 _ ?_)
         refine s_seq fun N32 k32 w32 => ?_
         refine c_block fun E33 hE33 hO33 => ?_
         refine s_so fun N34 k34 w34 => ?_
         refine bnd h fun x35 g36 h => ?_
         refine o_o (one_ia (f := Node.c) (ki := .i64) g36) ?_
         refine o_h3 [(4, (.ptr 2 0)), (24, (.agg [(vS x35.fClass), (vL Val.c x35.fVals)]))] [(some (.box 26 [(vL Node.c a1.fNodes), (vL Val.c a1.fRoots)])), (some (.row 59 2 (List.map Val.c []))), (some (.box 57 [(vS x35.fClass), (vL Val.c x35.fVals)]))] ?_
         refine o_end (k34 _ ?_)
         refine s_so fun N37 k37 w37 => ?_
         refine o_r2 [(25, (.ptr 2 1)), (26, (vL Val.c x35.fVals))] ?_
         refine o_o (one_len (f := Val.c) (l := x35.fVals)) ?_
         refine o_r1 [(28, (vB (decide ((len x35.fVals) > 30))))] ?_
         refine o_end (k37 _ ?_)
         refine i_c [28] h (fun h => ?_) (fun h => ?_)
         · refine s_so fun N40 k40 w40 => ?_
           refine o_r1 [(2, (vI 3))] ?_
           refine o_end (k40 _ ?_)
           exact c_ret (rets [] [(vI 3)] [(vI 3)] h)
         · refine c_skip (k32 _ ?_)
           refine c_ops ?_
           refine o_r2 [(21, (vI (wr .i64 (x28 + 1)))), (29, (vI (wr .i64 (x28 + 1))))] ?_
           exact o_end (w15 _ _ (wkm [1, 19, 20, 21] (whk wh_nil)) h)
       · refine c_exit (hE14 _ ?_)
         exact w11 _ (wkm [1] (whk wh_nil)) h
 · intro N4 w4
   refine c_ops ?_
   refine o_r2 [(8, (.ptr 0 0)), (9, (vL Node.c a1.fNodes))] ?_
   refine o_o (one_len (f := Node.c) (l := a1.fNodes)) ?_
   refine o_r2 [(11, (vB (decide ((len a1.fNodes) > 400)))), (12, (vB (decide ((len a1.fNodes) > 400))))] ?_
   refine i_o [11, 12] h (fun h => ?_) (fun h => ?_)
   · refine o_r5 [(13, (.val undef)), (14, (.val undef)), (15, (.val undef)), (16, (.val undef)), (17, (vB true))] ?_
     exact o_end (w4 _ _ (wkm [1, 17] (whk wh_nil)) h)
   · refine o_r2 [(13, (.ptr 0 1)), (14, (vL Val.c a1.fRoots))] ?_
     refine o_g ?_
     refine o_o (one_len (f := Val.c) (l := a1.fRoots)) ?_
     refine o_r2 [(16, (vB (decide ((len a1.fRoots) > 60)))), (17, (vB (decide ((len a1.fRoots) > 60))))] ?_
     exact o_end (w4 _ _ (wkm [1, 17] (whk wh_nil)) h)
theorem ic98 : fnIC Try.prog H0 98 = some ([.tmp 3], 9, (.seq (.ops [⟨(some 2), none, .box 0 57 [(1, 59, 2, 0)] (.t 0)⟩, ⟨(some 3), none, .mov (.c (.bool false))⟩]) (.seq (.ops [⟨(some 4), none, .ld (.t 1) 1 false⟩, ⟨(some 5), none, .faddr (.t 2) 0⟩, ⟨(some 6), none, .ld (.t 5) 1 false⟩, ⟨(some 7), none, .call 52 [(.t 4), (.t 6)]⟩, ⟨(some 8), none, .sc (.bin .lss 3) [(.t 7), (.c (.int .i64 0))]⟩, ⟨(some 3), none, .mov (.t 8)⟩]) .ret))) := by kernel_rfl
def f98 (n : Nat) (a1 : Node) (a2 : (List Form)) : Option Bool := ((f52 n a2 a1.fClass).bind fun r5 => some (decide (r5 < 0)))
def f98_r (r : Bool) : AV := (vB r)
theorem p_f98 {n : Nat} {a1 : Node} {a2 : (List Form)} {r : Bool} (h : f98 n a1 a2 = some r) : PureSpec Try.prog 98 [(.agg [(vS a1.fClass), (vL Val.c a1.fVals)]), (.iptr [(vL Form.c a2)])] (f98_r r) := by
 rw [f98.eq_1] at h
 refine pure_of hmix ic98 ?_
 refine go_to (mkd (.val undef) 9 0 [(0, (.agg [(vS a1.fClass), (vL Val.c a1.fVals)])), (1, (.iptr [(vL Form.c a2)]))]) ?_
 refine s_so fun N3 k3 w3 => ?_
 refine o_h2 [(2, (.ptr 0 0)), (3, (vB false))] [(some (.box 57 [(vS a1.fClass), (vL Val.c a1.fVals)]))] ?_
 refine o_end (k3 _ ?_)
 refine s_so fun N4 k4 w4 => ?_
 refine o_r3 [(4, (vL Form.c a2)), (5, (.ptr 0 0)), (6, (vS a1.fClass))] ?_
 refine bnd h fun r5 g6 h => ?_
 refine o_o (one_call (p_f52 g6)) ?_
 refine o_r2 [(3, (vB (decide (r5 < 0)))), (8, (vB (decide (r5 < 0))))] ?_
 refine o_end (k4 _ ?_)
 exact c_ret (rets [] [(vB (decide (r5 < 0)))] [(vB (decide (r5 < 0)))] h)
theorem ic135 : fnIC Try.prog H0 135 = some ([.tmp 4], 19, (.seq (.ops [⟨(some 4), none, .mov (.c (.int .i64 0))⟩]) (.seq (.seq (.ops [⟨(some 6), none, .mov (.t 0)⟩, ⟨(some 7), none, .len false (.t 6)⟩, ⟨(some 8), none, .mov (.c (.int .i64 0))⟩]) (.block 0 (.loop (.seq (.ops [⟨(some 9), none, .sc (.bin .lss 3) [(.t 8), (.t 7)]⟩]) (.seq (.cond (.t 9)
  .skip
  (.exit 0)) (.seq (.block 1 (.seq (.ops [⟨(some 10), none, .mov (.t 8)⟩, ⟨(some 5), none, .mov (.t 10)⟩]) (.seq (.ops [⟨(some 11), none, .mov (.t 1)⟩, ⟨(some 12), none, .mov (.t 0)⟩, ⟨(some 13), none, .mov (.t 5)⟩, ⟨(some 14), none, .iaddr 2 (.t 12) (.t 13)⟩, ⟨(some 15), none, .ld (.t 14) 2 true⟩, ⟨(some 16), none, .callv (.t 11) [(.t 15)]⟩]) (.cond (.t 16)
  (.seq (.ops [⟨(some 17), none, .mov (.t 5)⟩, ⟨(some 4), none, .mov (.t 17)⟩]) .ret)
  .skip)))) (.ops [⟨(some 18), none, .sc (.bin .add 3) [(.t 8), (.c (.int .i64 1))]⟩, ⟨(some 8), none, .mov (.t 18)⟩]))))))) (.seq (.ops [⟨(some 4), none, .mov (.c (.int .i64 (-1)))⟩]) .ret)))) := by kernel_rfl
def f135_k4 : Option Int := some (-1)
def f135_l8 (a1 : (List Node)) (n : Nat) (a2 : (List Form)) (k4k : Option Int) : Nat → Int → Option Int
  | 0, _ => none
  | m8 + 1, x22 => (bif (decide (x22 < (len a1))) then ((gi a1 x22).bind fun x30 => ((f98 n x30 a2).bind fun r32 => (bif r32 then some x22 else (f135_l8 a1 n a2 (k4k) m8 (wr .i64 (x22 + 1)))))) else (k4k))
def f135 (n : Nat) (a1 : (List Node)) (a2 : (List Form)) : Option Int := (f135_l8 a1 n a2 (f135_k4) n 0)
def f135_r (r : Int) : AV := (vI r)
theorem p_f135 {n : Nat} {a1 : (List Node)} {a2 : (List Form)} {r : Int} (h : f135 n a1 a2 = some r) : PureSpec Try.prog 135 [(vL Node.c a1), (.fn 98 [(.iptr [(vL Form.c a2)])])] (f135_r r) := by
 rw [f135.eq_1] at h
 refine pure_of hmix ic135 ?_
 refine go_to (mkd (.val undef) 19 0 [(0, (vL Node.c a1)), (1, (.fn 98 [(.iptr [(vL Form.c a2)])]))]) ?_
 refine s_so fun N3 k3 w3 => ?_
 refine o_r1 [(4, (vI 0))] ?_
 refine o_end (k3 _ ?_)
 refine J0 (r := r) ⟨(mkd .any 19 0 []), []⟩ (f135_k4) ?_ ?_
 · intro h
   rw [f135_k4.eq_1] at h
   refine s_so fun N36 k36 w36 => ?_
   refine o_r1 [(4, (vI (-1)))] ?_
   refine o_end (k36 _ ?_)
   exact c_ret (rets [] [(vI (-1))] [(vI (-1))] h)
 · intro N4 w4
   refine s_so fun N5 k5 w5 => ?_
   refine o_r1 [(6, (vL Node.c a1))] ?_
   refine o_o (one_len (f := Node.c) (l := a1)) ?_
   refine o_r1 [(8, (vI 0))] ?_
   refine o_end (k5 _ ?_)
   refine c_block fun E7 hE7 hO7 => ?_
   refine W1 (fun (x22 : Int) => ⟨(mkd .any 19 0 [(0, (vL Node.c a1)), (1, (.fn 98 [(.iptr [(vL Form.c a2)])])), (7, (vI (len a1))), (8, (vI x22))]), []⟩) (f135_l8 a1 n a2 (f135_k4)) h (wkm [0, 1, 7, 8] wh_nil) (by intros; rw [f135_l8.eq_1]) ?_
   intro m8 x22 h N8 w8
   rw [f135_l8.eq_2] at h
   refine s_so fun N23 k23 w23 => ?_
   refine o_r1 [(9, (vB (decide (x22 < (len a1)))))] ?_
   refine o_end (k23 _ ?_)
   refine s_seq fun N24 k24 w24 => ?_
   refine i_c [9] h (fun h => ?_) (fun h => ?_)
   · refine c_skip (k24 _ ?_)
     refine s_seq fun N26 k26 w26 => ?_
     refine c_block fun E27 hE27 hO27 => ?_
     refine s_so fun N28 k28 w28 => ?_
     refine o_r2 [(5, (vI x22)), (10, (vI x22))] ?_
     refine o_end (k28 _ ?_)
     refine s_so fun N29 k29 w29 => ?_
     refine o_r3 [(11, (.fn 98 [(.iptr [(vL Form.c a2)])])), (12, (vL Node.c a1)), (13, (vI x22))] ?_
     refine bnd h fun x30 g31 h => ?_
     refine o_o (one_ia (f := Node.c) (ki := .i64) g31) ?_
     refine o_r1 [(15, (.agg [(vS x30.fClass), (vL Val.c x30.fVals)]))] ?_
     refine bnd h fun r32 g33 h => ?_
     refine o_o (one_callv (caps := [(.iptr [(vL Form.c a2)])]) (p_f98 g33)) ?_
     refine o_end (k29 _ ?_)
     refine i_c [16] h (fun h => ?_) (fun h => ?_)
     · refine s_so fun N35 k35 w35 => ?_
       refine o_r2 [(4, (vI x22)), (17, (vI x22))] ?_
       refine o_end (k35 _ ?_)
       exact c_ret (rets [] [(vI x22)] [(vI x22)] h)
     · refine c_skip (k26 _ ?_)
       refine c_ops ?_
       refine o_r2 [(8, (vI (wr .i64 (x22 + 1)))), (18, (vI (wr .i64 (x22 + 1))))] ?_
       exact o_end (w8 _ _ (wkm [0, 1, 7, 8] wh_nil) h)
   · refine c_exit (hE7 _ ?_)
     exact w4 _ (wkm [] wh_nil) h
theorem ic97 : fnIC Try.prog H0 97 = some ([.tmp 4], 9, (.seq (.ops [⟨(some 4), none, .mov (.c (.bool false))⟩]) (.seq (.ops [⟨(some 5), none, .mov (.t 0)⟩, ⟨(some 6), none, .mov (.t 1)⟩, ⟨(some 7), none, .call 135 [(.t 5), (.t 6)]⟩, ⟨(some 8), none, .sc (.bin .geq 3) [(.t 7), (.c (.int .i64 0))]⟩, ⟨(some 4), none, .mov (.t 8)⟩]) .ret))) := by kernel_rfl
def f97 (n : Nat) (a1 : (List Node)) (a2 : (List Form)) : Option Bool := ((f135 n a1 a2).bind fun r5 => some (decide (r5 ≥ 0)))
def f97_r (r : Bool) : AV := (vB r)
theorem p_f97 {n : Nat} {a1 : (List Node)} {a2 : (List Form)} {r : Bool} (h : f97 n a1 a2 = some r) : PureSpec Try.prog 97 [(vL Node.c a1), (.fn 98 [(.iptr [(vL Form.c a2)])])] (f97_r r) := by
 rw [f97.eq_1] at h
 refine pure_of hmix ic97 ?_
 refine go_to (mkd (.val undef) 9 0 [(0, (vL Node.c a1)), (1, (.fn 98 [(.iptr [(vL Form.c a2)])]))]) ?_
 refine s_so fun N3 k3 w3 => ?_
 refine o_r1 [(4, (vB false))] ?_
 refine o_end (k3 _ ?_)
 refine s_so fun N4 k4 w4 => ?_
 refine o_r2 [(5, (vL Node.c a1)), (6, (.fn 98 [(.iptr [(vL Form.c a2)])]))] ?_
 refine bnd h fun r5 g6 h => ?_
 refine o_o (one_call (p_f135 g6)) ?_
 refine o_r2 [(4, (vB (decide (r5 ≥ 0)))), (8, (vB (decide (r5 ≥ 0))))] ?_
 refine o_end (k4 _ ?_)
 exact c_ret (rets [] [(vB (decide (r5 ≥ 0)))] [(vB (decide (r5 ≥ 0)))] h)
theorem ic107 : fnIC Try.prog H0 107 = some ([.tmp 6], 44, (.seq (.ops [⟨(some 3), none, .box 0 26 [(0, 57, 2, 0), (1, 59, 2, 0)] (.t 0)⟩, ⟨(some 4), none, .box 0 93 [] (.t 1)⟩, ⟨(some 5), none, .box 0 59 [] (.t 2)⟩, ⟨(some 6), none, .mov (.c (.bool false))⟩]) (.seq (.seq (.ops [⟨(some 7), none, .faddr (.t 4) 1⟩, ⟨(some 8), none, .ld (.t 7) 1 false⟩]) (.block 0 (.seq (.ops [⟨(some 10), none, .sc (.bin .eql 3) [(.t 8), (.c (.int .i64 1))]⟩, ⟨(some 9), none, .mov (.t 10)⟩]) (.cond (.t 9)
  (.seq (.ops [⟨(some 11), none, .faddr (.t 5) 0⟩, ⟨(some 12), none, .ld (.t 11) 1 false⟩, ⟨(some 13), none, .sc (.bin .eql 3) [(.t 12), (.c (.int .i64 1))]⟩, ⟨(some 6), none, .mov (.t 13)⟩]) .ret)
  (.seq (.ops [⟨(some 15), none, .sc (.bin .eql 3) [(.t 8), (.c (.int .i64 2))]⟩, ⟨(some 14), none, .mov (.t 15)⟩]) (.cond (.t 14)
  (.seq (.ops [⟨(some 16), none, .faddr (.t 5) 0⟩, ⟨(some 17), none, .ld (.t 16) 1 false⟩, ⟨(some 18), none, .sc (.bin .eql 3) [(.t 17), (.c (.int .i64 2))]⟩, ⟨(some 6), none, .mov (.t 18)⟩]) .ret)
  .skip)))))) (.seq (.draw [] [⟨⟨(some 19), none, .faddr (.t 5) 0⟩, false, 0, 0⟩, ⟨⟨(some 20), none, .ld (.t 19) 1 false⟩, false, 0, 0⟩, ⟨⟨(some 21), none, .sc (.bin .eql 3) [(.t 20), (.c (.int .i64 3))]⟩, false, 0, 0⟩, ⟨⟨(some 22), none, .mov (.t 21)⟩, false, 0, 0⟩, ⟨⟨(some 23), (some (22, false)), .faddr (.t 5) 0⟩, false, 0, 0⟩, ⟨⟨(some 24), (some (22, false)), .ld (.t 23) 1 false⟩, false, 0, 0⟩, ⟨⟨(some 25), (some (22, false)), .sc (.bin .eql 3) [(.t 24), (.c (.int .i64 4))]⟩, false, 0, 0⟩, ⟨⟨(some 26), (some (22, false)), .mov (.t 25)⟩, false, 0, 0⟩, ⟨⟨(some 27), (some (26, true)), .faddr (.t 4) 2⟩, false, 0, 0⟩, ⟨⟨(some 28), (some (26, true)), .ld (.t 27) 1 false⟩, false, 0, 0⟩, ⟨⟨(some 29), (some (26, true)), .sc (.bin .eql 9) [(.t 28), (.c (.string ⟨#[65, 78, 89]⟩))]⟩, false, 0, 0⟩, ⟨⟨(some 30), (some (26, true)), .mov (.t 29)⟩, false, 0, 0⟩, ⟨⟨(some 31), (some (30, false)), .faddr (.t 3) 0⟩, false, 0, 0⟩, ⟨⟨(some 32), (some (30, false)), .ld (.t 31) 1 false⟩, false, 0, 0⟩, ⟨⟨(some 33), (some (30, false)), .faddr (.t 5) 1⟩, false, 0, 0⟩, ⟨⟨(some 34), (some (30, false)), .ld (.t 33) 1 false⟩, false, 0, 0⟩, ⟨⟨(some 35), (some (30, false)), .iaddr 2 (.t 32) (.t 34)⟩, false, 0, 0⟩, ⟨⟨(some 36), (some (30, false)), .faddr (.t 35) 0⟩, false, 0, 0⟩, ⟨⟨(some 37), (some (30, false)), .ld (.t 36) 1 false⟩, false, 0, 0⟩, ⟨⟨(some 38), (some (30, false)), .faddr (.t 4) 2⟩, false, 0, 0⟩, ⟨⟨(some 39), (some (30, false)), .ld (.t 38) 1 false⟩, false, 0, 0⟩, ⟨⟨(some 40), (some (30, false)), .sc (.bin .eql 9) [(.t 37), (.t 39)]⟩, false, 0, 0⟩, ⟨⟨(some 41), (some (26, true)), .pick (.t 30) (.c (.bool true)) (.t 40)⟩, false, 0, 0⟩, ⟨⟨(some 42), (some (22, false)), .pick (.t 26) (.t 41) (.c (.bool false))⟩, false, 0, 0⟩, ⟨⟨(some 43), none, .pick (.t 22) (.c (.bool true)) (.t 42)⟩, false, 0, 0⟩, ⟨⟨(some 6), none, .mov (.t 43)⟩, false, 0, 0⟩]) .ret)))) := by kernel_rfl
def f107_k14 (x22 : Bool) : Option Bool := some x22
def f107 (n : Nat) (a1 : Graph) (a2 : Col) (a3 : Val) : Option Bool := (bif (a2.fKind == 1) then some (a3.fKind == 1) else (bif (a2.fKind == 2) then some (a3.fKind == 2) else (bif (a3.fKind == 3) then (f107_k14 true) else (bif (a3.fKind == 4) then (bif (sEqF a2.fClass (ByteArray.mk #[65, 78, 89])) then (f107_k14 true) else ((gi a1.fNodes a3.fN).bind fun x19 => (f107_k14 (sEqF x19.fClass a2.fClass)))) else (f107_k14 false)))))
def f107_r (r : Bool) : AV := (vB r)
theorem p_f107 {n : Nat} {a1 : Graph} {a2 : Col} {a3 : Val} {r : Bool} (h : f107 n a1 a2 a3 = some r) : PureSpec Try.prog 107 [(.agg [(vL Node.c a1.fNodes), (vL Val.c a1.fRoots)]), (.agg [(vS a2.fName), (vI a2.fKind), (vS a2.fClass)]), (.agg [(vI a3.fKind), (vI a3.fN)])] (f107_r r) := by
 rw [f107.eq_1] at h
 refine pure_of hmix ic107 ?_
 refine go_to (mkd (.val undef) 44 0 [(0, (.agg [(vL Node.c a1.fNodes), (vL Val.c a1.fRoots)])), (1, (.agg [(vS a2.fName), (vI a2.fKind), (vS a2.fClass)])), (2, (.agg [(vI a3.fKind), (vI a3.fN)]))]) ?_
 refine s_so fun N4 k4 w4 => ?_
 refine o_h4 [(3, (.ptr 0 0)), (4, (.ptr 1 0)), (5, (.ptr 2 0)), (6, (vB false))] [(some (.box 26 [(vL Node.c a1.fNodes), (vL Val.c a1.fRoots)])), (some (.box 93 [(vS a2.fName), (vI a2.fKind), (vS a2.fClass)])), (some (.box 59 [(vI a3.fKind), (vI a3.fN)]))] ?_
 refine o_end (k4 _ ?_)
 refine s_seq fun N5 k5 w5 => ?_
 refine s_so fun N6 k6 w6 => ?_
 refine o_r2 [(7, (.ptr 1 1)), (8, (vI a2.fKind))] ?_
 refine o_end (k6 _ ?_)
 refine c_block fun E7 hE7 hO7 => ?_
 refine s_so fun N8 k8 w8 => ?_
 refine o_r2 [(9, (vB (a2.fKind == 1))), (10, (vB (a2.fKind == 1)))] ?_
 refine o_end (k8 _ ?_)
 refine i_c [9, 10] h (fun h => ?_) (fun h => ?_)
 · refine s_so fun N10 k10 w10 => ?_
   refine o_r4 [(6, (vB (a3.fKind == 1))), (11, (.ptr 2 0)), (12, (vI a3.fKind)), (13, (vB (a3.fKind == 1)))] ?_
   refine o_end (k10 _ ?_)
   exact c_ret (rets [] [(vB (a3.fKind == 1))] [(vB (a3.fKind == 1))] h)
 · refine s_so fun N11 k11 w11 => ?_
   refine o_r2 [(14, (vB (a2.fKind == 2))), (15, (vB (a2.fKind == 2)))] ?_
   refine o_end (k11 _ ?_)
   refine i_c [14, 15] h (fun h => ?_) (fun h => ?_)
   · refine s_so fun N13 k13 w13 => ?_
     refine o_r4 [(6, (vB (a3.fKind == 2))), (16, (.ptr 2 0)), (17, (vI a3.fKind)), (18, (vB (a3.fKind == 2)))] ?_
     refine o_end (k13 _ ?_)
     exact c_ret (rets [] [(vB (a3.fKind == 2))] [(vB (a3.fKind == 2))] h)
   · refine c_skip (k5 _ ?_)
     refine J1 (r := r) (fun (x22 : Bool) => ⟨(mkd .any 44 0 [(6, (vB x22))]), []⟩) (f107_k14) ?_ ?_
     · intro x22 h
       rw [f107_k14.eq_1] at h
       exact c_ret (rets [] [(vB x22)] [(vB x22)] h)
     · intro N14 w14
       refine c_draw0 ?_
       refine d_r4 [(19, (.ptr 2 0)), (20, (vI a3.fKind)), (21, (vB (a3.fKind == 3))), (22, (vB (a3.fKind == 3)))] ?_
       refine i_d [21, 22] h (fun h => ?_) (fun h => ?_)
       · refine d_r16 [(23, (.val undef)), (24, (.val undef)), (25, (.val undef)), (26, (.val undef)), (27, (.val undef)), (28, (.val undef)), (29, (.val undef)), (30, (.val undef)), (31, (.val undef)), (32, (.val undef)), (33, (.val undef)), (34, (.val undef)), (35, (.val undef)), (36, (.val undef)), (37, (.val undef)), (38, (.val undef))] ?_
         refine d_r6 [(6, (vB true)), (39, (.val undef)), (40, (.val undef)), (41, (.val undef)), (42, (.val undef)), (43, (vB true))] ?_
         exact d_end (w14 _ _ (wkm [6] wh_nil) h)
       · refine d_r4 [(23, (.ptr 2 0)), (24, (vI a3.fKind)), (25, (vB (a3.fKind == 4))), (26, (vB (a3.fKind == 4)))] ?_
         refine i_d [25, 26] h (fun h => ?_) (fun h => ?_)
         · refine d_r2 [(27, (.ptr 1 2)), (28, (vS a2.fClass))] ?_
           refine d_g (one_sc (vs := [.string a2.fClass, .string (ByteArray.mk #[65, 78, 89])]) (str_eql a2.fClass (ByteArray.mk #[65, 78, 89]))) ?_
           refine d_r1 [(30, (vB (sEqF a2.fClass (ByteArray.mk #[65, 78, 89]))))] ?_
           refine t_tm (mkd (.val undef) 44 0 [(0, (.agg [(vL Node.c a1.fNodes), (vL Val.c a1.fRoots)])), (1, (.agg [(vS a2.fName), (vI a2.fKind), (vS a2.fClass)])), (2, (.agg [(vI a3.fKind), (vI a3.fN)])), (3, (.ptr 0 0)), (4, (.ptr 1 0)), (5, (.ptr 2 0)), (6, (vB false)), (7, (.ptr 1 1)), (8, (vI a2.fKind)), (9, (vB false)), (10, (vB false)), (14, (vB false)), (15, (vB false)), (19, (.ptr 2 0)), (20, (vI a3.fKind)), (21, (vB false)), (22, (vB false)), (23, (.ptr 2 0)), (24, (vI a3.fKind)), (25, (vB true)), (26, (vB true)), (27, (.ptr 1 2)), (28, (vS a2.fClass)), (29, (vB (sEqF a2.fClass (ByteArray.mk #[65, 78, 89])))), (30, (vB (sEqF a2.fClass (ByteArray.mk #[65, 78, 89]))))]) ?_
           refine i_d [29, 30] h (fun h => ?_) (fun h => ?_)
           · refine d_r14 [(6, (vB true)), (31, (.val undef)), (32, (.val undef)), (33, (.val undef)), (34, (.val undef)), (35, (.val undef)), (36, (.val undef)), (37, (.val undef)), (38, (.val undef)), (39, (.val undef)), (40, (.val undef)), (41, (vB true)), (42, (vB true)), (43, (vB true))] ?_
             exact d_end (w14 _ _ (wkm [6] wh_nil) h)
           · refine d_r4 [(31, (.ptr 0 0)), (32, (vL Node.c a1.fNodes)), (33, (.ptr 2 1)), (34, (vI a3.fN))] ?_
             refine bnd h fun x19 g20 h => ?_
             refine d_g (one_ia (f := Node.c) (ki := .i64) g20) ?_
             refine d_r4 [(36, (.iptr [(vS x19.fClass), (vL Val.c x19.fVals)])), (37, (vS x19.fClass)), (38, (.ptr 1 2)), (39, (vS a2.fClass))] ?_
             refine d_g (one_sc (vs := [.string x19.fClass, .string a2.fClass]) (str_eql x19.fClass a2.fClass)) ?_
             refine d_r4 [(6, (vB (sEqF x19.fClass a2.fClass))), (41, (vB (sEqF x19.fClass a2.fClass))), (42, (vB (sEqF x19.fClass a2.fClass))), (43, (vB (sEqF x19.fClass a2.fClass)))] ?_
             exact d_end (w14 _ _ (wkm [6] wh_nil) h)
         · refine d_r16 [(27, (.val undef)), (28, (.val undef)), (29, (.val undef)), (30, (.val undef)), (31, (.val undef)), (32, (.val undef)), (33, (.val undef)), (34, (.val undef)), (35, (.val undef)), (36, (.val undef)), (37, (.val undef)), (38, (.val undef)), (39, (.val undef)), (40, (.val undef)), (41, (.val undef)), (42, (vB false))] ?_
           refine d_r2 [(43, (vB false))] ?_
           exact d_end (w14 _ _ (wkm [6] wh_nil) h)
theorem ic71 : fnIC Try.prog H0 71 = some ([.tmp 4], 49, (.seq (.ops [⟨(some 3), none, .box 0 26 [(0, 57, 2, 0), (1, 59, 2, 0)] (.t 1)⟩, ⟨(some 4), none, .mov (.c (.bool false))⟩]) (.seq (.seq (.ops [⟨(some 10), none, .faddr (.t 3) 0⟩, ⟨(some 11), none, .ld (.t 10) 1 false⟩, ⟨(some 12), none, .len false (.t 11)⟩, ⟨(some 13), none, .mov (.c (.int .i64 0))⟩]) (.block 0 (.loop (.seq (.ops [⟨(some 14), none, .sc (.bin .lss 3) [(.t 13), (.t 12)]⟩]) (.seq (.cond (.t 14)
  .skip
  (.exit 0)) (.seq (.block 1 (.seq (.ops [⟨(some 15), none, .iaddr 2 (.t 11) (.t 13)⟩, ⟨(some 16), none, .ld (.t 15) 2 true⟩, ⟨(some 6), none, .alloc 0 57 [(1, 59, 2, 0)] [(.string ⟨#[]⟩), (.slice none 0 0)]⟩, ⟨none, none, .st true 2 [(1, 59, 2, 0)] (.t 6) (.t 16)⟩]) (.seq (.ops [⟨(some 17), none, .mov (.t 0)⟩, ⟨(some 18), none, .mov (.t 0)⟩, ⟨(some 19), none, .faddr (.t 6) 0⟩, ⟨(some 20), none, .ld (.t 19) 1 false⟩, ⟨(some 21), none, .call 52 [(.t 18), (.t 20)]⟩, ⟨(some 22), none, .iaddr 2 (.t 17) (.t 21)⟩, ⟨(some 23), none, .faddr (.t 22) 1⟩, ⟨(some 24), none, .ld (.t 23) 1 false⟩, ⟨(some 7), none, .mov (.t 24)⟩]) (.seq (.seq (.ops [⟨(some 25), none, .faddr (.t 6) 1⟩, ⟨(some 26), none, .ld (.t 25) 1 false⟩, ⟨(some 27), none, .len false (.t 26)⟩, ⟨(some 28), none, .mov (.t 7)⟩, ⟨(some 29), none, .len false (.t 28)⟩, ⟨(some 30), none, .sc (.bin .neq 3) [(.t 27), (.t 29)]⟩]) (.cond (.t 30)
  (.seq (.ops [⟨(some 4), none, .mov (.c (.bool false))⟩]) .ret)
  .skip)) (.seq (.ops [⟨(some 31), none, .mov (.t 7)⟩, ⟨(some 32), none, .len false (.t 31)⟩, ⟨(some 33), none, .mov (.c (.int .i64 0))⟩]) (.block 2 (.loop (.seq (.ops [⟨(some 34), none, .sc (.bin .lss 3) [(.t 33), (.t 32)]⟩]) (.seq (.cond (.t 34)
  .skip
  (.exit 2)) (.seq (.block 3 (.seq (.ops [⟨(some 35), none, .mov (.t 33)⟩, ⟨(some 36), none, .iaddr 3 (.t 31) (.t 33)⟩, ⟨(some 37), none, .ld (.t 36) 3 true⟩, ⟨(some 9), none, .alloc 0 93 [] [(.string ⟨#[]⟩), (.int .i64 0), (.string ⟨#[]⟩)]⟩, ⟨(some 8), none, .mov (.t 35)⟩, ⟨none, none, .st true 3 [] (.t 9) (.t 37)⟩]) (.seq (.draw [] [⟨⟨(some 38), none, .ld (.t 3) 2 true⟩, false, 0, 0⟩, ⟨⟨(some 39), none, .ld (.t 9) 3 true⟩, false, 0, 0⟩, ⟨⟨(some 40), none, .faddr (.t 6) 1⟩, false, 0, 0⟩, ⟨⟨(some 41), none, .ld (.t 40) 1 false⟩, false, 0, 0⟩, ⟨⟨(some 42), none, .mov (.t 8)⟩, false, 0, 0⟩, ⟨⟨(some 43), none, .iaddr 2 (.t 41) (.t 42)⟩, false, 0, 0⟩, ⟨⟨(some 44), none, .ld (.t 43) 2 true⟩, false, 0, 0⟩, ⟨⟨(some 45), none, .call 107 [(.t 38), (.t 39), (.t 44)]⟩, false, 0, 0⟩, ⟨⟨(some 46), none, .sc (.un .not) [(.t 45)]⟩, false, 0, 0⟩]) (.cond (.t 46)
  (.seq (.ops [⟨(some 4), none, .mov (.c (.bool false))⟩]) .ret)
  .skip)))) (.ops [⟨(some 47), none, .sc (.bin .add 3) [(.t 33), (.c (.int .i64 1))]⟩, ⟨(some 33), none, .mov (.t 47)⟩]))))))))))) (.ops [⟨(some 48), none, .sc (.bin .add 3) [(.t 13), (.c (.int .i64 1))]⟩, ⟨(some 13), none, .mov (.t 48)⟩]))))))) (.seq (.ops [⟨(some 4), none, .mov (.c (.bool true))⟩]) .ret)))) := by kernel_rfl
def f71_k67 (x63 : Int) (c8k : Int → Option Bool) : Option Bool := (c8k (wr .i64 (x63 + 1)))
def f71_l86 (x75 : Form) (x70 : Node) (n : Nat) (a2 : Graph) (k67k : Option Bool) : Nat → Int → Option Bool
  | 0, _ => none
  | m86 + 1, x102 => (bif (decide (x102 < (len x75.fCols))) then ((gi x75.fCols x102).bind fun x109 => ((gi x70.fVals x102).bind fun x112 => ((f107 n a2 x109 x112).bind fun r114 => (bif (!r114) then some false else (f71_l86 x75 x70 n a2 (k67k) m86 (wr .i64 (x102 + 1))))))) else (k67k))
def f71_k4 : Option Bool := some true
def f71_l8 (a2 : Graph) (n : Nat) (a1 : (List Form)) (k4k : Option Bool) : Nat → Int → Option Bool
  | 0, _ => none
  | m8 + 1, x63 => (bif (decide (x63 < (len a2.fNodes))) then ((gi a2.fNodes x63).bind fun x70 => ((f52 n a1 x70.fClass).bind fun r73 => ((gi a1 r73).bind fun x75 => (bif ((len x70.fVals) != (len x75.fCols)) then some false else (f71_l86 x75 x70 n a2 (f71_k67 x63 (f71_l8 a2 n a1 (k4k) m8)) n 0))))) else (k4k))
def f71 (n : Nat) (a1 : (List Form)) (a2 : Graph) : Option Bool := (f71_l8 a2 n a1 (f71_k4) n 0)
def f71_r (r : Bool) : AV := (vB r)
theorem p_f71 {n : Nat} {a1 : (List Form)} {a2 : Graph} {r : Bool} (h : f71 n a1 a2 = some r) : PureSpec Try.prog 71 [(vL Form.c a1), (.agg [(vL Node.c a2.fNodes), (vL Val.c a2.fRoots)])] (f71_r r) := by
 rw [f71.eq_1] at h
 refine pure_of hmix ic71 ?_
 refine go_to (mkd (.val undef) 49 0 [(0, (vL Form.c a1)), (1, (.agg [(vL Node.c a2.fNodes), (vL Val.c a2.fRoots)]))]) ?_
 refine s_so fun N3 k3 w3 => ?_
 refine o_h2 [(3, (.ptr 0 0)), (4, (vB false))] [(some (.box 26 [(vL Node.c a2.fNodes), (vL Val.c a2.fRoots)]))] ?_
 refine o_end (k3 _ ?_)
 refine J0 (r := r) ⟨(mkd .any 49 0 []), []⟩ (f71_k4) ?_ ?_
 · intro h
   rw [f71_k4.eq_1] at h
   refine s_so fun N118 k118 w118 => ?_
   refine o_r1 [(4, (vB true))] ?_
   refine o_end (k118 _ ?_)
   exact c_ret (rets [] [(vB true)] [(vB true)] h)
 · intro N4 w4
   refine s_so fun N5 k5 w5 => ?_
   refine o_r2 [(10, (.ptr 0 0)), (11, (vL Node.c a2.fNodes))] ?_
   refine o_o (one_len (f := Node.c) (l := a2.fNodes)) ?_
   refine o_r1 [(13, (vI 0))] ?_
   refine o_end (k5 _ ?_)
   refine c_block fun E7 hE7 hO7 => ?_
   refine W1 (fun (x63 : Int) => ⟨(mkd .any 49 0 [(0, (vL Form.c a1)), (3, (.ptr 0 0)), (11, (vL Node.c a2.fNodes)), (12, (vI (len a2.fNodes))), (13, (vI x63))]), [(some (.box 26 [(vL Node.c a2.fNodes), (vL Val.c a2.fRoots)]))]⟩) (f71_l8 a2 n a1 (f71_k4)) h (wkm [0, 3, 11, 12, 13] (whk wh_nil)) (by intros; rw [f71_l8.eq_1]) ?_
   intro m8 x63 h N8 w8
   rw [f71_l8.eq_2] at h
   refine s_so fun N64 k64 w64 => ?_
   refine o_r1 [(14, (vB (decide (x63 < (len a2.fNodes)))))] ?_
   refine o_end (k64 _ ?_)
   refine s_seq fun N65 k65 w65 => ?_
   refine i_c [14] h (fun h => ?_) (fun h => ?_)
   · refine c_skip (k65 _ ?_)
     refine J0 (r := r) ⟨(mkd .any 49 0 [(0, (vL Form.c a1)), (3, (.ptr 0 0)), (11, (vL Node.c a2.fNodes)), (12, (vI (len a2.fNodes))), (13, (vI x63))]), [(some (.box 26 [(vL Node.c a2.fNodes), (vL Val.c a2.fRoots)]))]⟩ (f71_k67 x63 (f71_l8 a2 n a1 (f71_k4) m8)) ?_ ?_
     · intro h
       rw [f71_k67.eq_1] at h
       refine c_ops ?_
       refine o_r2 [(13, (vI (wr .i64 (x63 + 1)))), (48, (vI (wr .i64 (x63 + 1))))] ?_
       exact o_end (w8 _ _ (wkm [0, 3, 11, 12, 13] (whk wh_nil)) h)
     · intro N67 w67
       refine c_block fun E68 hE68 hO68 => ?_
       refine s_so fun N69 k69 w69 => ?_
       refine bnd h fun x70 g71 h => ?_
       refine o_o (one_ia (f := Node.c) (ki := .i64) g71) ?_
       refine o_h3 [(6, (.ptr 2 0)), (16, (.agg [(vS x70.fClass), (vL Val.c x70.fVals)]))] [(some (.box 26 [(vL Node.c a2.fNodes), (vL Val.c a2.fRoots)])), (some (.row 59 2 (List.map Val.c []))), (some (.box 57 [(vS x70.fClass), (vL Val.c x70.fVals)]))] ?_
       refine o_end (k69 _ ?_)
       refine s_so fun N72 k72 w72 => ?_
       refine o_r4 [(17, (vL Form.c a1)), (18, (vL Form.c a1)), (19, (.ptr 2 0)), (20, (vS x70.fClass))] ?_
       refine bnd h fun r73 g74 h => ?_
       refine o_o (one_call (p_f52 g74)) ?_
       refine bnd h fun x75 g76 h => ?_
       refine o_o (one_ia (f := Form.c) (ki := .i64) g76) ?_
       refine o_r3 [(7, (vL Col.c x75.fCols)), (23, (.iptr [(vL Col.c x75.fCols)])), (24, (vL Col.c x75.fCols))] ?_
       refine o_end (k72 _ ?_)
       refine s_seq fun N77 k77 w77 => ?_
       refine s_so fun N78 k78 w78 => ?_
       refine o_r2 [(25, (.ptr 2 1)), (26, (vL Val.c x70.fVals))] ?_
       refine o_o (one_len (f := Val.c) (l := x70.fVals)) ?_
       refine o_r1 [(28, (vL Col.c x75.fCols))] ?_
       refine o_o (one_len (f := Col.c) (l := x75.fCols)) ?_
       refine o_r1 [(30, (vB ((len x70.fVals) != (len x75.fCols))))] ?_
       refine s_tm (mkd .any 49 0 [(0, (vL Form.c a1)), (3, (.ptr 0 0)), (6, (.ptr 2 0)), (7, (vL Col.c x75.fCols)), (11, (vL Node.c a2.fNodes)), (12, (vI (len a2.fNodes))), (13, (vI x63)), (14, (vB true)), (15, (.iptr [(vS x70.fClass), (vL Val.c x70.fVals)])), (16, (.agg [(vS x70.fClass), (vL Val.c x70.fVals)])), (17, (vL Form.c a1)), (18, (vL Form.c a1)), (19, (.ptr 2 0)), (20, (vS x70.fClass)), (21, (vI r73)), (22, (.iptr [(vS x75.fName), (vL Col.c x75.fCols)])), (23, (.iptr [(vL Col.c x75.fCols)])), (24, (vL Col.c x75.fCols)), (25, (.ptr 2 1)), (26, (vL Val.c x70.fVals)), (27, (vI (len x70.fVals))), (28, (vL Col.c x75.fCols)), (29, (vI (len x75.fCols))), (30, (vB ((len x70.fVals) != (len x75.fCols))))]) ?_
       refine o_end (w78 _ ⟨(mkd .any 49 0 [(0, (vL Form.c a1)), (3, (.ptr 0 0)), (6, (.ptr 2 0)), (7, (vL Col.c x75.fCols)), (11, (vL Node.c a2.fNodes)), (12, (vI (len a2.fNodes))), (13, (vI x63)), (30, (vB ((len x70.fVals) != (len x75.fCols))))]), [(some (.box 26 [(vL Node.c a2.fNodes), (vL Val.c a2.fRoots)])), none, (some (.box 57 [(vS x70.fClass), (vL Val.c x70.fVals)]))]⟩ (wkm [0, 3, 6, 7, 11, 12, 13, 30] (whk (wh_drop (whk wh_nil)))) ?_)
       refine i_c [30] h (fun h => ?_) (fun h => ?_)
       · refine s_so fun N82 k82 w82 => ?_
         refine o_r1 [(4, (vB false))] ?_
         refine o_end (k82 _ ?_)
         exact c_ret (rets [] [(vB false)] [(vB false)] h)
       · refine c_skip (k77 _ ?_)
         refine s_so fun N83 k83 w83 => ?_
         refine o_r1 [(31, (vL Col.c x75.fCols))] ?_
         refine o_o (one_len (f := Col.c) (l := x75.fCols)) ?_
         refine o_r1 [(33, (vI 0))] ?_
         refine o_end (k83 _ ?_)
         refine c_block fun E85 hE85 hO85 => ?_
         refine W1 (fun (x102 : Int) => ⟨(mkd .any 49 0 [(0, (vL Form.c a1)), (3, (.ptr 0 0)), (6, (.ptr 2 0)), (11, (vL Node.c a2.fNodes)), (12, (vI (len a2.fNodes))), (13, (vI x63)), (31, (vL Col.c x75.fCols)), (32, (vI (len x75.fCols))), (33, (vI x102))]), [(some (.box 26 [(vL Node.c a2.fNodes), (vL Val.c a2.fRoots)])), none, (some (.box 57 [(vS x70.fClass), (vL Val.c x70.fVals)]))]⟩) (f71_l86 x75 x70 n a2 (f71_k67 x63 (f71_l8 a2 n a1 (f71_k4) m8))) h (wkm [0, 3, 6, 11, 12, 13, 31, 32, 33] (whk (wh_none (whk wh_nil)))) (by intros; rw [f71_l86.eq_1]) ?_
         intro m86 x102 h N86 w86
         rw [f71_l86.eq_2] at h
         refine s_so fun N103 k103 w103 => ?_
         refine o_r1 [(34, (vB (decide (x102 < (len x75.fCols)))))] ?_
         refine o_end (k103 _ ?_)
         refine s_seq fun N104 k104 w104 => ?_
         refine i_c [34] h (fun h => ?_) (fun h => ?_)
         · refine c_skip (k104 _ ?_)
           refine s_seq fun N106 k106 w106 => ?_
           refine c_block fun E107 hE107 hO107 => ?_
           refine s_so fun N108 k108 w108 => ?_
           refine o_r1 [(35, (vI x102))] ?_
           refine bnd h fun x109 g110 h => ?_
           refine o_o (one_ia (f := Col.c) (ki := .i64) g110) ?_
           refine o_h4 [(8, (vI x102)), (9, (.ptr 3 0)), (37, (.agg [(vS x109.fName), (vI x109.fKind), (vS x109.fClass)]))] [(some (.box 26 [(vL Node.c a2.fNodes), (vL Val.c a2.fRoots)])), none, (some (.box 57 [(vS x70.fClass), (vL Val.c x70.fVals)])), (some (.box 93 [(vS x109.fName), (vI x109.fKind), (vS x109.fClass)]))] ?_
           refine o_end (k108 _ ?_)
           refine s_seq fun N111 k111 w111 => ?_
           refine c_draw0 ?_
           refine d_r5 [(38, (.agg [(vL Node.c a2.fNodes), (vL Val.c a2.fRoots)])), (39, (.agg [(vS x109.fName), (vI x109.fKind), (vS x109.fClass)])), (40, (.ptr 2 1)), (41, (vL Val.c x70.fVals)), (42, (vI x102))] ?_
           refine bnd h fun x112 g113 h => ?_
           refine d_o (one_ia (f := Val.c) (ki := .i64) g113) ?_
           refine d_r1 [(44, (.agg [(vI x112.fKind), (vI x112.fN)]))] ?_
           refine bnd h fun r114 g115 h => ?_
           refine d_o (one_call (p_f107 g115)) ?_
           refine d_r1 [(46, (vB (!r114)))] ?_
           refine d_end (k111 _ ?_)
           refine i_c [46] h (fun h => ?_) (fun h => ?_)
           · refine s_so fun N117 k117 w117 => ?_
             refine o_r1 [(4, (vB false))] ?_
             refine s_tm (mkd .any 49 0 [(0, (vL Form.c a1)), (3, (.ptr 0 0)), (4, (vB false)), (6, (.ptr 2 0)), (8, (vI x102)), (9, (.ptr 3 0)), (11, (vL Node.c a2.fNodes)), (12, (vI (len a2.fNodes))), (13, (vI x63)), (31, (vL Col.c x75.fCols)), (32, (vI (len x75.fCols))), (33, (vI x102)), (34, (vB true)), (35, (vI x102)), (36, (.iptr [(vS x109.fName), (vI x109.fKind), (vS x109.fClass)])), (37, (.agg [(vS x109.fName), (vI x109.fKind), (vS x109.fClass)])), (38, (.agg [(vL Node.c a2.fNodes), (vL Val.c a2.fRoots)])), (39, (.agg [(vS x109.fName), (vI x109.fKind), (vS x109.fClass)])), (40, (.ptr 2 1)), (41, (vL Val.c x70.fVals)), (42, (vI x102)), (43, (.iptr [(vI x112.fKind), (vI x112.fN)])), (44, (.agg [(vI x112.fKind), (vI x112.fN)])), (45, (vB r114)), (46, (vB true))]) ?_
             refine o_end (w117 _ ⟨(mkd .any 49 0 [(4, (vB false))]), []⟩ (wkm [4] wh_nil) ?_)
             exact c_ret (rets [] [(vB false)] [(vB false)] h)
           · refine c_skip (k106 _ ?_)
             refine c_ops ?_
             refine o_r2 [(33, (vI (wr .i64 (x102 + 1)))), (47, (vI (wr .i64 (x102 + 1))))] ?_
             refine s_tm (mkd .any 49 0 [(0, (vL Form.c a1)), (3, (.ptr 0 0)), (6, (.ptr 2 0)), (8, (vI x102)), (9, (.ptr 3 0)), (11, (vL Node.c a2.fNodes)), (12, (vI (len a2.fNodes))), (13, (vI x63)), (31, (vL Col.c x75.fCols)), (32, (vI (len x75.fCols))), (33, (vI (wr .i64 (x102 + 1)))), (34, (vB true)), (35, (vI x102)), (36, (.iptr [(vS x109.fName), (vI x109.fKind), (vS x109.fClass)])), (37, (.agg [(vS x109.fName), (vI x109.fKind), (vS x109.fClass)])), (38, (.agg [(vL Node.c a2.fNodes), (vL Val.c a2.fRoots)])), (39, (.agg [(vS x109.fName), (vI x109.fKind), (vS x109.fClass)])), (40, (.ptr 2 1)), (41, (vL Val.c x70.fVals)), (42, (vI x102)), (43, (.iptr [(vI x112.fKind), (vI x112.fN)])), (44, (.agg [(vI x112.fKind), (vI x112.fN)])), (45, (vB r114)), (46, (vB false)), (47, (vI (wr .i64 (x102 + 1))))]) ?_
             exact o_end (w86 _ _ (wkm [0, 3, 6, 11, 12, 13, 31, 32, 33] (whk (wh_none (whk wh_nil)))) h)
         · refine c_exit (hE85 _ ?_)
           exact w67 _ (wkm [0, 3, 11, 12, 13] (whk wh_nil)) h
   · refine c_exit (hE7 _ ?_)
     exact w4 _ (wkm [] wh_nil) h
theorem ic59 : fnIC Try.prog H0 59 = some ([.tmp 4], 19, (.seq (.ops [⟨(some 2), none, .box 0 22 [(0, 91, 2, 0)] (.t 0)⟩, ⟨(some 3), none, .box 0 26 [(0, 57, 2, 0), (1, 59, 2, 0)] (.t 1)⟩, ⟨(some 4), none, .mov (.c (.int .i64 0))⟩]) (.seq (.seq (.ops [⟨(some 6), none, .ld (.t 3) 2 true⟩, ⟨(some 7), none, .call 74 [(.t 6)]⟩, ⟨(some 5), none, .mov (.t 7)⟩]) (.seq (.ops [⟨(some 8), none, .mov (.t 5)⟩, ⟨(some 9), none, .sc (.bin .neq 30) [(.t 8), (.c (.int .i64 0))]⟩]) (.cond (.t 9)
  (.seq (.ops [⟨(some 10), none, .mov (.t 5)⟩, ⟨(some 4), none, .mov (.t 10)⟩]) .ret)
  .skip))) (.seq (.seq (.ops [⟨(some 11), none, .faddr (.t 3) 0⟩, ⟨(some 12), none, .ld (.t 11) 1 false⟩, ⟨(some 13), none, .mkf 98 [(.t 2)]⟩, ⟨(some 14), none, .call 97 [(.t 12), (.t 13)]⟩]) (.cond (.t 14)
  (.seq (.ops [⟨(some 4), none, .mov (.c (.int .i64 4))⟩]) .ret)
  .skip)) (.seq (.ops [⟨(some 15), none, .ld (.t 2) 1 false⟩, ⟨(some 16), none, .ld (.t 3) 2 true⟩, ⟨(some 17), none, .call 71 [(.t 15), (.t 16)]⟩, ⟨(some 18), none, .call 50 [(.t 17), (.c (.int .i64 8))]⟩, ⟨(some 4), none, .mov (.t 18)⟩]) .ret))))) := by kernel_rfl
def f59 (n : Nat) (a1 : (List Form)) (a2 : Graph) : Option Int := ((f74 n a2).bind fun r6 => (bif (r6 != 0) then some r6 else ((f97 n a2.fNodes a1).bind fun r13 => (bif r13 then some 4 else ((f71 n a1 a2).bind fun r18 => ((f50 n r18 8).bind fun r20 => some r20))))))
def f59_r (r : Int) : AV := (vI r)
theorem p_f59 {n : Nat} {a1 : (List Form)} {a2 : Graph} {r : Int} (h : f59 n a1 a2 = some r) : PureSpec Try.prog 59 [(vL Form.c a1), (.agg [(vL Node.c a2.fNodes), (vL Val.c a2.fRoots)])] (f59_r r) := by
 rw [f59.eq_1] at h
 refine pure_of hmix ic59 ?_
 refine go_to (mkd (.val undef) 19 0 [(0, (vL Form.c a1)), (1, (.agg [(vL Node.c a2.fNodes), (vL Val.c a2.fRoots)]))]) ?_
 refine s_so fun N3 k3 w3 => ?_
 refine o_h3 [(2, (.ptr 0 0)), (3, (.ptr 1 0)), (4, (vI 0))] [(some (.box 22 [(vL Form.c a1)])), (some (.box 26 [(vL Node.c a2.fNodes), (vL Val.c a2.fRoots)]))] ?_
 refine o_end (k3 _ ?_)
 refine s_seq fun N4 k4 w4 => ?_
 refine s_so fun N5 k5 w5 => ?_
 refine o_r1 [(6, (.agg [(vL Node.c a2.fNodes), (vL Val.c a2.fRoots)]))] ?_
 refine bnd h fun r6 g7 h => ?_
 refine o_o (one_call (p_f74 g7)) ?_
 refine o_r1 [(5, (vI r6))] ?_
 refine o_end (k5 _ ?_)
 refine s_so fun N8 k8 w8 => ?_
 refine o_r2 [(8, (vI r6)), (9, (vB (r6 != 0)))] ?_
 refine o_end (k8 _ ?_)
 refine i_c [9] h (fun h => ?_) (fun h => ?_)
 · refine s_so fun N10 k10 w10 => ?_
   refine o_r2 [(4, (vI r6)), (10, (vI r6))] ?_
   refine o_end (k10 _ ?_)
   exact c_ret (rets [] [(vI r6)] [(vI r6)] h)
 · refine c_skip (k4 _ ?_)
   refine s_seq fun N11 k11 w11 => ?_
   refine s_so fun N12 k12 w12 => ?_
   refine o_r3 [(11, (.ptr 1 0)), (12, (vL Node.c a2.fNodes)), (13, (.fn 98 [(.ptr 0 0)]))] ?_
   refine bnd h fun r13 g14 h => ?_
   refine o_o (one_callT [0] (p_f97 g14) (ns_v _)) ?_
   refine o_end (k12 _ ?_)
   refine i_c [14] h (fun h => ?_) (fun h => ?_)
   · refine s_so fun N16 k16 w16 => ?_
     refine o_r1 [(4, (vI 4))] ?_
     refine o_end (k16 _ ?_)
     exact c_ret (rets [] [(vI 4)] [(vI 4)] h)
   · refine c_skip (k11 _ ?_)
     refine s_so fun N17 k17 w17 => ?_
     refine o_r2 [(15, (vL Form.c a1)), (16, (.agg [(vL Node.c a2.fNodes), (vL Val.c a2.fRoots)]))] ?_
     refine bnd h fun r18 g19 h => ?_
     refine o_o (one_call (p_f71 g19)) ?_
     refine bnd h fun r20 g21 h => ?_
     refine o_o (one_call (p_f50 g21)) ?_
     refine o_r1 [(4, (vI r20))] ?_
     refine s_tm (mkd (.val undef) 19 0 [(0, (vL Form.c a1)), (1, (.agg [(vL Node.c a2.fNodes), (vL Val.c a2.fRoots)])), (2, (.ptr 0 0)), (3, (.ptr 1 0)), (4, (vI r20)), (5, (vI r6)), (6, (.agg [(vL Node.c a2.fNodes), (vL Val.c a2.fRoots)])), (7, (vI r6)), (8, (vI r6)), (9, (vB false)), (11, (.ptr 1 0)), (12, (vL Node.c a2.fNodes)), (13, (.fn 98 [(.ptr 0 0)])), (14, (vB false)), (15, (vL Form.c a1)), (16, (.agg [(vL Node.c a2.fNodes), (vL Val.c a2.fRoots)])), (17, (vB r18)), (18, (vI r20))]) ?_
     refine o_end (w17 _ ⟨(mkd .any 19 0 [(4, (vI r20))]), []⟩ (wkm [4] wh_nil) ?_)
     exact c_ret (rets [] [(vI r20)] [(vI r20)] h)
theorem ic18 : fnIC Try.prog H0 18 = some ([.tmp 4], 14, (.seq (.ops [⟨(some 3), none, .box 0 26 [(0, 57, 2, 0), (1, 59, 2, 0)] (.t 1)⟩, ⟨(some 4), none, .mov (.c (.int .i64 0))⟩]) (.seq (.seq (.ops [⟨(some 6), none, .mov (.t 0)⟩, ⟨(some 7), none, .call 16 [(.t 6)]⟩, ⟨(some 5), none, .mov (.t 7)⟩]) (.seq (.ops [⟨(some 8), none, .mov (.t 5)⟩, ⟨(some 9), none, .sc (.bin .neq 30) [(.t 8), (.c (.int .i64 0))]⟩]) (.cond (.t 9)
  (.seq (.ops [⟨(some 10), none, .mov (.t 5)⟩, ⟨(some 4), none, .mov (.t 10)⟩]) .ret)
  .skip))) (.seq (.ops [⟨(some 11), none, .mov (.t 0)⟩, ⟨(some 12), none, .ld (.t 3) 2 true⟩, ⟨(some 13), none, .call 59 [(.t 11), (.t 12)]⟩, ⟨(some 4), none, .mov (.t 13)⟩]) .ret)))) := by kernel_rfl
def f18 (n : Nat) (a1 : (List Form)) (a2 : Graph) : Option Int := ((f16 n a1).bind fun r6 => (bif (r6 != 0) then some r6 else ((f59 n a1 a2).bind fun r12 => some r12)))
def f18_r (r : Int) : AV := (vI r)
theorem p_f18 {n : Nat} {a1 : (List Form)} {a2 : Graph} {r : Int} (h : f18 n a1 a2 = some r) : PureSpec Try.prog 18 [(vL Form.c a1), (.agg [(vL Node.c a2.fNodes), (vL Val.c a2.fRoots)])] (f18_r r) := by
 rw [f18.eq_1] at h
 refine pure_of hmix ic18 ?_
 refine go_to (mkd (.val undef) 14 0 [(0, (vL Form.c a1)), (1, (.agg [(vL Node.c a2.fNodes), (vL Val.c a2.fRoots)]))]) ?_
 refine s_so fun N3 k3 w3 => ?_
 refine o_h2 [(3, (.ptr 0 0)), (4, (vI 0))] [(some (.box 26 [(vL Node.c a2.fNodes), (vL Val.c a2.fRoots)]))] ?_
 refine o_end (k3 _ ?_)
 refine s_seq fun N4 k4 w4 => ?_
 refine s_so fun N5 k5 w5 => ?_
 refine o_r1 [(6, (vL Form.c a1))] ?_
 refine bnd h fun r6 g7 h => ?_
 refine o_o (one_call (p_f16 g7)) ?_
 refine o_r1 [(5, (vI r6))] ?_
 refine o_end (k5 _ ?_)
 refine s_so fun N8 k8 w8 => ?_
 refine o_r2 [(8, (vI r6)), (9, (vB (r6 != 0)))] ?_
 refine o_end (k8 _ ?_)
 refine i_c [9] h (fun h => ?_) (fun h => ?_)
 · refine s_so fun N10 k10 w10 => ?_
   refine o_r2 [(4, (vI r6)), (10, (vI r6))] ?_
   refine o_end (k10 _ ?_)
   exact c_ret (rets [] [(vI r6)] [(vI r6)] h)
 · refine c_skip (k4 _ ?_)
   refine s_so fun N11 k11 w11 => ?_
   refine o_r2 [(11, (vL Form.c a1)), (12, (.agg [(vL Node.c a2.fNodes), (vL Val.c a2.fRoots)]))] ?_
   refine bnd h fun r12 g13 h => ?_
   refine o_o (one_call (p_f59 g13)) ?_
   refine o_r1 [(4, (vI r12))] ?_
   refine o_end (k11 _ ?_)
   exact c_ret (rets [] [(vI r12)] [(vI r12)] h)
theorem ic99 : fnIC Try.prog H0 99 = some ([.tmp 4], 29, (.seq (.ops [⟨(some 2), none, .box 0 59 [] (.t 0)⟩, ⟨(some 4), none, .mov (.c (.bool false))⟩]) (.seq (.seq (.ops [⟨(some 5), none, .faddr (.t 2) 0⟩, ⟨(some 6), none, .ld (.t 5) 1 false⟩]) (.block 0 (.seq (.ops [⟨(some 8), none, .sc (.bin .eql 3) [(.t 6), (.c (.int .i64 1))]⟩, ⟨(some 7), none, .mov (.t 8)⟩]) (.cond (.t 7)
  (.seq (.ops [⟨(some 9), none, .faddr (.t 2) 1⟩, ⟨(some 10), none, .ld (.t 9) 1 false⟩, ⟨(some 11), none, .call 58 [(.t 10), (.c (.int .i64 (-1099511627776))), (.c (.int .i64 1099511627776))]⟩, ⟨(some 4), none, .mov (.t 11)⟩]) .ret)
  (.seq (.ops [⟨(some 13), none, .sc (.bin .eql 3) [(.t 6), (.c (.int .i64 2))]⟩, ⟨(some 12), none, .mov (.t 13)⟩]) (.cond (.t 12)
  (.seq (.ops [⟨(some 14), none, .faddr (.t 2) 1⟩, ⟨(some 15), none, .ld (.t 14) 1 false⟩, ⟨(some 16), none, .call 58 [(.t 15), (.c (.int .i64 0)), (.c (.int .i64 1))]⟩, ⟨(some 4), none, .mov (.t 16)⟩]) .ret)
  (.seq (.ops [⟨(some 18), none, .sc (.bin .eql 3) [(.t 6), (.c (.int .i64 3))]⟩, ⟨(some 17), none, .mov (.t 18)⟩]) (.cond (.t 17)
  (.seq (.ops [⟨(some 19), none, .faddr (.t 2) 1⟩, ⟨(some 20), none, .ld (.t 19) 1 false⟩, ⟨(some 21), none, .sc (.bin .eql 3) [(.t 20), (.c (.int .i64 0))]⟩, ⟨(some 4), none, .mov (.t 21)⟩]) .ret)
  (.seq (.ops [⟨(some 23), none, .sc (.bin .eql 3) [(.t 6), (.c (.int .i64 4))]⟩, ⟨(some 22), none, .mov (.t 23)⟩]) (.cond (.t 22)
  (.seq (.ops [⟨(some 24), none, .faddr (.t 2) 1⟩, ⟨(some 25), none, .ld (.t 24) 1 false⟩, ⟨(some 26), none, .mov (.t 1)⟩, ⟨(some 27), none, .sc (.bin .sub 3) [(.t 26), (.c (.int .i64 1))]⟩, ⟨(some 28), none, .call 58 [(.t 25), (.c (.int .i64 0)), (.t 27)]⟩, ⟨(some 4), none, .mov (.t 28)⟩]) .ret)
  .skip)))))))))) (.seq (.ops [⟨(some 4), none, .mov (.c (.bool false))⟩]) .ret)))) := by kernel_rfl
def f99 (n : Nat) (a1 : Val) (a2 : Int) : Option Bool := (bif (a1.fKind == 1) then ((f58 n a1.fN (-1099511627776) 1099511627776).bind fun r10 => some r10) else (bif (a1.fKind == 2) then ((f58 n a1.fN 0 1).bind fun r15 => some r15) else (bif (a1.fKind == 3) then some (a1.fN == 0) else (bif (a1.fKind == 4) then ((f58 n a1.fN 0 (wr .i64 (a2 - 1))).bind fun r23 => some r23) else some false))))
def f99_r (r : Bool) : AV := (vB r)
theorem p_f99 {n : Nat} {a1 : Val} {a2 : Int} {r : Bool} (h : f99 n a1 a2 = some r) : PureSpec Try.prog 99 [(.agg [(vI a1.fKind), (vI a1.fN)]), (vI a2)] (f99_r r) := by
 rw [f99.eq_1] at h
 refine pure_of hmix ic99 ?_
 refine go_to (mkd (.val undef) 29 0 [(0, (.agg [(vI a1.fKind), (vI a1.fN)])), (1, (vI a2))]) ?_
 refine s_so fun N3 k3 w3 => ?_
 refine o_h2 [(2, (.ptr 0 0)), (4, (vB false))] [(some (.box 59 [(vI a1.fKind), (vI a1.fN)]))] ?_
 refine o_end (k3 _ ?_)
 refine s_seq fun N4 k4 w4 => ?_
 refine s_so fun N5 k5 w5 => ?_
 refine o_r2 [(5, (.ptr 0 0)), (6, (vI a1.fKind))] ?_
 refine o_end (k5 _ ?_)
 refine c_block fun E6 hE6 hO6 => ?_
 refine s_so fun N7 k7 w7 => ?_
 refine o_r2 [(7, (vB (a1.fKind == 1))), (8, (vB (a1.fKind == 1)))] ?_
 refine o_end (k7 _ ?_)
 refine i_c [7, 8] h (fun h => ?_) (fun h => ?_)
 · refine s_so fun N9 k9 w9 => ?_
   refine o_r2 [(9, (.ptr 0 1)), (10, (vI a1.fN))] ?_
   refine bnd h fun r10 g11 h => ?_
   refine o_o (one_call (p_f58 g11)) ?_
   refine o_r1 [(4, (vB r10))] ?_
   refine o_end (k9 _ ?_)
   exact c_ret (rets [] [(vB r10)] [(vB r10)] h)
 · refine s_so fun N12 k12 w12 => ?_
   refine o_r2 [(12, (vB (a1.fKind == 2))), (13, (vB (a1.fKind == 2)))] ?_
   refine o_end (k12 _ ?_)
   refine i_c [12, 13] h (fun h => ?_) (fun h => ?_)
   · refine s_so fun N14 k14 w14 => ?_
     refine o_r2 [(14, (.ptr 0 1)), (15, (vI a1.fN))] ?_
     refine bnd h fun r15 g16 h => ?_
     refine o_o (one_call (p_f58 g16)) ?_
     refine o_r1 [(4, (vB r15))] ?_
     refine o_end (k14 _ ?_)
     exact c_ret (rets [] [(vB r15)] [(vB r15)] h)
   · refine s_so fun N17 k17 w17 => ?_
     refine o_r2 [(17, (vB (a1.fKind == 3))), (18, (vB (a1.fKind == 3)))] ?_
     refine o_end (k17 _ ?_)
     refine i_c [17, 18] h (fun h => ?_) (fun h => ?_)
     · refine s_so fun N19 k19 w19 => ?_
       refine o_r4 [(4, (vB (a1.fN == 0))), (19, (.ptr 0 1)), (20, (vI a1.fN)), (21, (vB (a1.fN == 0)))] ?_
       refine o_end (k19 _ ?_)
       exact c_ret (rets [] [(vB (a1.fN == 0))] [(vB (a1.fN == 0))] h)
     · refine s_so fun N20 k20 w20 => ?_
       refine o_r2 [(22, (vB (a1.fKind == 4))), (23, (vB (a1.fKind == 4)))] ?_
       refine o_end (k20 _ ?_)
       refine i_c [22, 23] h (fun h => ?_) (fun h => ?_)
       · refine s_so fun N22 k22 w22 => ?_
         refine o_r4 [(24, (.ptr 0 1)), (25, (vI a1.fN)), (26, (vI a2)), (27, (vI (wr .i64 (a2 - 1))))] ?_
         refine bnd h fun r23 g24 h => ?_
         refine o_o (one_call (p_f58 g24)) ?_
         refine o_r1 [(4, (vB r23))] ?_
         refine s_tm (mkd (.val undef) 29 0 [(0, (.agg [(vI a1.fKind), (vI a1.fN)])), (1, (vI a2)), (2, (.ptr 0 0)), (4, (vB r23)), (5, (.ptr 0 0)), (6, (vI a1.fKind)), (7, (vB false)), (8, (vB false)), (12, (vB false)), (13, (vB false)), (17, (vB false)), (18, (vB false)), (22, (vB true)), (23, (vB true)), (24, (.ptr 0 1)), (25, (vI a1.fN)), (26, (vI a2)), (27, (vI (wr .i64 (a2 - 1)))), (28, (vB r23))]) ?_
         refine o_end (w22 _ ⟨(mkd .any 29 0 [(4, (vB r23))]), []⟩ (wkm [4] wh_nil) ?_)
         exact c_ret (rets [] [(vB r23)] [(vB r23)] h)
       · refine c_skip (k4 _ ?_)
         refine s_so fun N25 k25 w25 => ?_
         refine o_r1 [] ?_
         refine o_end (k25 _ ?_)
         exact c_ret (rets [] [(vB false)] [(vB false)] h)
theorem ic60 : fnIC Try.prog H0 60 = some ([.tmp 2], 97, (.seq (.ops [⟨(some 1), none, .box 0 26 [(0, 57, 2, 0), (1, 59, 2, 0)] (.t 0)⟩, ⟨(some 2), none, .mov (.c (.int .i64 0))⟩]) (.seq (.ops [⟨(some 10), none, .faddr (.t 1) 0⟩, ⟨(some 11), none, .ld (.t 10) 1 false⟩, ⟨(some 12), none, .len false (.t 11)⟩, ⟨(some 3), none, .mov (.t 12)⟩]) (.seq (.seq (.ops [⟨(some 13), none, .mov (.t 3)⟩, ⟨(some 14), none, .sc (.bin .gtr 3) [(.t 13), (.c (.int .i64 400))]⟩, ⟨(some 15), none, .mov (.t 14)⟩, ⟨(some 16), (some (15, false)), .faddr (.t 1) 1⟩, ⟨(some 17), (some (15, false)), .ld (.t 16) 1 false⟩, ⟨(some 18), (some (15, false)), .len false (.t 17)⟩, ⟨(some 19), (some (15, false)), .sc (.bin .gtr 3) [(.t 18), (.c (.int .i64 60))]⟩, ⟨(some 20), none, .pick (.t 15) (.c (.bool true)) (.t 19)⟩]) (.cond (.t 20)
  (.seq (.ops [⟨(some 2), none, .mov (.c (.int .i64 3))⟩]) .ret)
  .skip)) (.seq (.seq (.ops [⟨(some 4), none, .mov (.c (.int .i64 0))⟩]) (.block 0 (.loop (.seq (.seq (.ops [⟨(some 21), none, .mov (.t 4)⟩, ⟨(some 22), none, .mov (.t 3)⟩, ⟨(some 23), none, .sc (.bin .lss 3) [(.t 21), (.t 22)]⟩]) (.cond (.t 23)
  .skip
  (.exit 0))) (.seq (.block 1 (.seq (.ops [⟨(some 26), none, .faddr (.t 1) 0⟩, ⟨(some 27), none, .ld (.t 26) 1 false⟩, ⟨(some 28), none, .mov (.t 4)⟩, ⟨(some 29), none, .iaddr 2 (.t 27) (.t 28)⟩, ⟨(some 30), none, .faddr (.t 29) 1⟩, ⟨(some 31), none, .ld (.t 30) 1 false⟩, ⟨(some 32), none, .len false (.t 31)⟩, ⟨(some 33), none, .sc (.bin .gtr 3) [(.t 32), (.c (.int .i64 30))]⟩]) (.cond (.t 33)
  (.seq (.ops [⟨(some 2), none, .mov (.c (.int .i64 3))⟩]) .ret)
  .skip))) (.ops [⟨(some 24), none, .mov (.t 4)⟩, ⟨(some 25), none, .sc (.bin .add 3) [(.t 24), (.c (.int .i64 1))]⟩, ⟨(some 4), none, .mov (.t 25)⟩])))))) (.seq (.seq (.ops [⟨(some 5), none, .mov (.c (.int .i64 0))⟩]) (.block 2 (.loop (.seq (.seq (.ops [⟨(some 34), none, .mov (.t 5)⟩, ⟨(some 35), none, .mov (.t 3)⟩, ⟨(some 36), none, .sc (.bin .lss 3) [(.t 34), (.t 35)]⟩]) (.cond (.t 36)
  .skip
  (.exit 2))) (.seq (.block 3 (.seq (.ops [⟨(some 6), none, .mov (.c (.int .i64 0))⟩]) (.block 4 (.loop (.seq (.seq (.ops [⟨(some 39), none, .mov (.t 6)⟩, ⟨(some 40), none, .faddr (.t 1) 0⟩, ⟨(some 41), none, .ld (.t 40) 1 false⟩, ⟨(some 42), none, .mov (.t 5)⟩, ⟨(some 43), none, .iaddr 2 (.t 41) (.t 42)⟩, ⟨(some 44), none, .faddr (.t 43) 1⟩, ⟨(some 45), none, .ld (.t 44) 1 false⟩, ⟨(some 46), none, .len false (.t 45)⟩, ⟨(some 47), none, .sc (.bin .lss 3) [(.t 39), (.t 46)]⟩]) (.cond (.t 47)
  .skip
  (.exit 4))) (.seq (.block 5 (.seq (.ops [⟨(some 50), none, .faddr (.t 1) 0⟩, ⟨(some 51), none, .ld (.t 50) 1 false⟩, ⟨(some 52), none, .mov (.t 5)⟩, ⟨(some 53), none, .iaddr 2 (.t 51) (.t 52)⟩, ⟨(some 54), none, .faddr (.t 53) 1⟩, ⟨(some 55), none, .ld (.t 54) 1 false⟩, ⟨(some 56), none, .mov (.t 6)⟩, ⟨(some 57), none, .iaddr 2 (.t 55) (.t 56)⟩, ⟨(some 58), none, .ld (.t 57) 2 true⟩, ⟨(some 59), none, .mov (.t 3)⟩, ⟨(some 60), none, .call 99 [(.t 58), (.t 59)]⟩, ⟨(some 7), none, .mov (.t 60)⟩]) (.seq (.ops [⟨(some 61), none, .mov (.t 7)⟩, ⟨(some 62), none, .sc (.un .not) [(.t 61)]⟩]) (.cond (.t 62)
  (.seq (.ops [⟨(some 2), none, .mov (.c (.int .i64 2))⟩]) .ret)
  .skip)))) (.ops [⟨(some 48), none, .mov (.t 6)⟩, ⟨(some 49), none, .sc (.bin .add 3) [(.t 48), (.c (.int .i64 1))]⟩, ⟨(some 6), none, .mov (.t 49)⟩]))))))) (.ops [⟨(some 37), none, .mov (.t 5)⟩, ⟨(some 38), none, .sc (.bin .add 3) [(.t 37), (.c (.int .i64 1))]⟩, ⟨(some 5), none, .mov (.t 38)⟩])))))) (.seq (.seq (.ops [⟨(some 8), none, .mov (.c (.int .i64 0))⟩]) (.block 6 (.loop (.seq (.seq (.ops [⟨(some 63), none, .mov (.t 8)⟩, ⟨(some 64), none, .faddr (.t 1) 1⟩, ⟨(some 65), none, .ld (.t 64) 1 false⟩, ⟨(some 66), none, .len false (.t 65)⟩, ⟨(some 67), none, .sc (.bin .lss 3) [(.t 63), (.t 66)]⟩]) (.cond (.t 67)
  .skip
  (.exit 6))) (.seq (.block 7 (.seq (.ops [⟨(some 70), none, .faddr (.t 1) 1⟩, ⟨(some 71), none, .ld (.t 70) 1 false⟩, ⟨(some 72), none, .mov (.t 8)⟩, ⟨(some 73), none, .iaddr 2 (.t 71) (.t 72)⟩, ⟨(some 74), none, .ld (.t 73) 2 true⟩, ⟨(some 75), none, .mov (.t 3)⟩, ⟨(some 76), none, .call 99 [(.t 74), (.t 75)]⟩, ⟨(some 9), none, .mov (.t 76)⟩]) (.seq (.ops [⟨(some 77), none, .mov (.t 9)⟩, ⟨(some 78), none, .sc (.un .not) [(.t 77)]⟩, ⟨(some 79), none, .mov (.t 78)⟩, ⟨(some 80), (some (79, false)), .faddr (.t 1) 1⟩, ⟨(some 81), (some (79, false)), .ld (.t 80) 1 false⟩, ⟨(some 82), (some (79, false)), .mov (.t 8)⟩, ⟨(some 83), (some (79, false)), .iaddr 2 (.t 81) (.t 82)⟩, ⟨(some 84), (some (79, false)), .faddr (.t 83) 0⟩, ⟨(some 85), (some (79, false)), .ld (.t 84) 1 false⟩, ⟨(some 86), (some (79, false)), .sc (.bin .neq 3) [(.t 85), (.c (.int .i64 3))]⟩, ⟨(some 87), (some (79, false)), .mov (.t 86)⟩, ⟨(some 88), (some (87, true)), .faddr (.t 1) 1⟩, ⟨(some 89), (some (87, true)), .ld (.t 88) 1 false⟩, ⟨(some 90), (some (87, true)), .mov (.t 8)⟩, ⟨(some 91), (some (87, true)), .iaddr 2 (.t 89) (.t 90)⟩, ⟨(some 92), (some (87, true)), .faddr (.t 91) 0⟩, ⟨(some 93), (some (87, true)), .ld (.t 92) 1 false⟩, ⟨(some 94), (some (87, true)), .sc (.bin .neq 3) [(.t 93), (.c (.int .i64 4))]⟩, ⟨(some 95), (some (79, false)), .pick (.t 87) (.t 94) (.c (.bool false))⟩, ⟨(some 96), none, .pick (.t 79) (.c (.bool true)) (.t 95)⟩]) (.cond (.t 96)
  (.seq (.ops [⟨(some 2), none, .mov (.c (.int .i64 2))⟩]) .ret)
  .skip)))) (.ops [⟨(some 68), none, .mov (.t 8)⟩, ⟨(some 69), none, .sc (.bin .add 3) [(.t 68), (.c (.int .i64 1))]⟩, ⟨(some 8), none, .mov (.t 69)⟩])))))) (.seq (.ops [⟨(some 2), none, .mov (.c (.int .i64 0))⟩]) .ret)))))))) := by kernel_rfl
def f60_k92 (x88 : Int) (c42k : Int → Option Int) : Option Int := (c42k (wr .i64 (x88 + 1)))
def f60_l96 (a1 : Graph) (x88 : Int) (n : Nat) (k92k : Option Int) : Nat → Int → Option Int
  | 0, _ => none
  | m96 + 1, x115 => ((gi a1.fNodes x88).bind fun x118 => (bif (decide (x115 < (len x118.fVals))) then ((gi a1.fNodes x88).bind fun x125 => ((gi x125.fVals x115).bind fun x127 => ((f99 n x127 (len a1.fNodes)).bind fun r129 => (bif (!r129) then some 2 else (f60_l96 a1 x88 n (k92k) m96 (wr .i64 (x115 + 1))))))) else (k92k)))
def f60_k171 (x159 : Int) (c137k : Int → Option Int) (x178 : Bool) : Option Int := (bif x178 then some 2 else (c137k (wr .i64 (x159 + 1))))
def f60_k134 : Option Int := some 0
def f60_l137 (a1 : Graph) (n : Nat) (k134k : Option Int) : Nat → Int → Option Int
  | 0, _ => none
  | m137 + 1, x159 => (bif (decide (x159 < (len a1.fRoots))) then ((gi a1.fRoots x159).bind fun x167 => ((f99 n x167 (len a1.fNodes)).bind fun r169 => (bif (!r169) then (f60_k171 x159 (f60_l137 a1 n (k134k) m137) true) else ((gi a1.fRoots x159).bind fun x173 => (bif (x173.fKind != 3) then ((gi a1.fRoots x159).bind fun x176 => (f60_k171 x159 (f60_l137 a1 n (k134k) m137) (x176.fKind != 4))) else (f60_k171 x159 (f60_l137 a1 n (k134k) m137) false)))))) else (k134k))
def f60_k39 (n : Nat) (a1 : Graph) : Option Int := (f60_l137 a1 n (f60_k134) n 0)
def f60_l42 (a1 : Graph) (n : Nat) (k39k : Option Int) : Nat → Int → Option Int
  | 0, _ => none
  | m42 + 1, x88 => (bif (decide (x88 < (len a1.fNodes))) then (f60_l96 a1 x88 n (f60_k92 x88 (f60_l42 a1 n (k39k) m42)) n 0) else (k39k))
def f60_k12 (n : Nat) (a1 : Graph) : Option Int := (f60_l42 a1 n (f60_k39 n a1) n 0)
def f60_l15 (a1 : Graph) (k12k : Option Int) : Nat → Int → Option Int
  | 0, _ => none
  | m15 + 1, x27 => (bif (decide (x27 < (len a1.fNodes))) then ((gi a1.fNodes x27).bind fun x34 => (bif (decide ((len x34.fVals) > 30)) then some 3 else (f60_l15 a1 (k12k) m15 (wr .i64 (x27 + 1))))) else (k12k))
def f60_k6 (n : Nat) (a1 : Graph) (x9 : Bool) : Option Int := (bif x9 then some 3 else (f60_l15 a1 (f60_k12 n a1) n 0))
def f60 (n : Nat) (a1 : Graph) : Option Int := (bif (decide ((len a1.fNodes) > 400)) then (f60_k6 n a1 true) else (f60_k6 n a1 (decide ((len a1.fRoots) > 60))))
def f60_r (r : Int) : AV := (vI r)
theorem p_f60 {n : Nat} {a1 : Graph} {r : Int} (h : f60 n a1 = some r) : PureSpec Try.prog 60 [(.agg [(vL Node.c a1.fNodes), (vL Val.c a1.fRoots)])] (f60_r r) := by
 rw [f60.eq_1] at h
 refine pure_of hmix ic60 ?_
 refine go_to (mkd (.val undef) 97 0 [(0, (.agg [(vL Node.c a1.fNodes), (vL Val.c a1.fRoots)]))]) ?_
 refine s_so fun N2 k2 w2 => ?_
 refine o_h2 [(1, (.ptr 0 0)), (2, (vI 0))] [(some (.box 26 [(vL Node.c a1.fNodes), (vL Val.c a1.fRoots)]))] ?_
 refine o_end (k2 _ ?_)
 refine s_so fun N3 k3 w3 => ?_
 refine o_r2 [(10, (.ptr 0 0)), (11, (vL Node.c a1.fNodes))] ?_
 refine o_o (one_len (f := Node.c) (l := a1.fNodes)) ?_
 refine o_r1 [(3, (vI (len a1.fNodes)))] ?_
 refine o_end (k3 _ ?_)
 refine s_seq fun N5 k5 w5 => ?_
 refine J1 (r := r) (fun (x9 : Bool) => ⟨(mkd .any 97 0 [(1, (.ptr 0 0)), (3, (vI (len a1.fNodes))), (20, (vB x9))]), [(some (.box 26 [(vL Node.c a1.fNodes), (vL Val.c a1.fRoots)]))]⟩) (f60_k6 n a1) ?_ ?_
 · intro x9 h
   rw [f60_k6.eq_1] at h
   refine i_c [20] h (fun h => ?_) (fun h => ?_)
   · refine s_so fun N11 k11 w11 => ?_
     refine o_r1 [(2, (vI 3))] ?_
     refine o_end (k11 _ ?_)
     exact c_ret (rets [] [(vI 3)] [(vI 3)] h)
   · refine c_skip (k5 _ ?_)
     refine J0 (r := r) ⟨(mkd .any 97 0 [(1, (.ptr 0 0)), (3, (vI (len a1.fNodes)))]), [(some (.box 26 [(vL Node.c a1.fNodes), (vL Val.c a1.fRoots)]))]⟩ (f60_k12 n a1) ?_ ?_
     · intro h
       rw [f60_k12.eq_1] at h
       refine J0 (r := r) ⟨(mkd .any 97 0 [(1, (.ptr 0 0)), (3, (vI (len a1.fNodes)))]), [(some (.box 26 [(vL Node.c a1.fNodes), (vL Val.c a1.fRoots)]))]⟩ (f60_k39 n a1) ?_ ?_
       · intro h
         rw [f60_k39.eq_1] at h
         refine J0 (r := r) ⟨(mkd .any 97 0 []), []⟩ (f60_k134) ?_ ?_
         · intro h
           rw [f60_k134.eq_1] at h
           refine s_so fun N181 k181 w181 => ?_
           refine o_r1 [(2, (vI 0))] ?_
           refine o_end (k181 _ ?_)
           exact c_ret (rets [] [(vI 0)] [(vI 0)] h)
         · intro N134 w134
           refine s_so fun N135 k135 w135 => ?_
           refine o_r1 [(8, (vI 0))] ?_
           refine o_end (k135 _ ?_)
           refine c_block fun E136 hE136 hO136 => ?_
           refine W1 (fun (x159 : Int) => ⟨(mkd .any 97 0 [(1, (.ptr 0 0)), (3, (vI (len a1.fNodes))), (8, (vI x159))]), [(some (.box 26 [(vL Node.c a1.fNodes), (vL Val.c a1.fRoots)]))]⟩) (f60_l137 a1 n (f60_k134)) h (wkm [1, 3, 8] (whk wh_nil)) (by intros; rw [f60_l137.eq_1]) ?_
           intro m137 x159 h N137 w137
           rw [f60_l137.eq_2] at h
           refine s_seq fun N160 k160 w160 => ?_
           refine s_so fun N161 k161 w161 => ?_
           refine o_r3 [(63, (vI x159)), (64, (.ptr 0 1)), (65, (vL Val.c a1.fRoots))] ?_
           refine o_o (one_len (f := Val.c) (l := a1.fRoots)) ?_
           refine o_r1 [(67, (vB (decide (x159 < (len a1.fRoots)))))] ?_
           refine o_end (k161 _ ?_)
           refine i_c [67] h (fun h => ?_) (fun h => ?_)
           · refine c_skip (k160 _ ?_)
             refine s_seq fun N164 k164 w164 => ?_
             refine c_block fun E165 hE165 hO165 => ?_
             refine s_so fun N166 k166 w166 => ?_
             refine o_r3 [(70, (.ptr 0 1)), (71, (vL Val.c a1.fRoots)), (72, (vI x159))] ?_
             refine bnd h fun x167 g168 h => ?_
             refine o_o (one_ia (f := Val.c) (ki := .i64) g168) ?_
             refine o_r2 [(74, (.agg [(vI x167.fKind), (vI x167.fN)])), (75, (vI (len a1.fNodes)))] ?_
             refine bnd h fun r169 g170 h => ?_
             refine o_o (one_call (p_f99 g170)) ?_
             refine o_r1 [(9, (vB r169))] ?_
             refine o_end (k166 _ ?_)
             refine J1 (r := r) (fun (x178 : Bool) => ⟨(mkd .any 97 0 [(1, (.ptr 0 0)), (3, (vI (len a1.fNodes))), (8, (vI x159)), (96, (vB x178))]), [(some (.box 26 [(vL Node.c a1.fNodes), (vL Val.c a1.fRoots)]))]⟩) (f60_k171 x159 (f60_l137 a1 n (f60_k134) m137)) ?_ ?_
             · intro x178 h
               rw [f60_k171.eq_1] at h
               refine i_c [96] h (fun h => ?_) (fun h => ?_)
               · refine s_so fun N180 k180 w180 => ?_
                 refine o_r1 [(2, (vI 2))] ?_
                 refine o_end (k180 _ ?_)
                 exact c_ret (rets [] [(vI 2)] [(vI 2)] h)
               · refine c_skip (k164 _ ?_)
                 refine c_ops ?_
                 refine o_r3 [(8, (vI (wr .i64 (x159 + 1)))), (68, (vI x159)), (69, (vI (wr .i64 (x159 + 1))))] ?_
                 exact o_end (w137 _ _ (wkm [1, 3, 8] (whk wh_nil)) h)
             · intro N171 w171
               refine c_ops ?_
               refine o_r3 [(77, (vB r169)), (78, (vB (!r169))), (79, (vB (!r169)))] ?_
               refine i_o [78, 79] h (fun h => ?_) (fun h => ?_)
               · refine o_r16 [(80, (.val undef)), (81, (.val undef)), (82, (.val undef)), (83, (.val undef)), (84, (.val undef)), (85, (.val undef)), (86, (.val undef)), (87, (.val undef)), (88, (.val undef)), (89, (.val undef)), (90, (.val undef)), (91, (.val undef)), (92, (.val undef)), (93, (.val undef)), (94, (.val undef)), (95, (.val undef))] ?_
                 refine s_tm (mkd .any 97 0 [(1, (.ptr 0 0)), (3, (vI (len a1.fNodes))), (8, (vI x159)), (9, (vB r169)), (63, (vI x159)), (64, (.ptr 0 1)), (65, (vL Val.c a1.fRoots)), (66, (vI (len a1.fRoots))), (67, (vB true)), (70, (.ptr 0 1)), (71, (vL Val.c a1.fRoots)), (72, (vI x159)), (73, (.iptr [(vI x167.fKind), (vI x167.fN)])), (74, (.agg [(vI x167.fKind), (vI x167.fN)])), (75, (vI (len a1.fNodes))), (76, (vB r169)), (77, (vB r169)), (78, (vB true)), (79, (vB true)), (80, (.val undef)), (81, (.val undef)), (82, (.val undef)), (83, (.val undef)), (84, (.val undef)), (85, (.val undef)), (86, (.val undef)), (87, (.val undef)), (88, (.val undef)), (89, (.val undef)), (90, (.val undef)), (91, (.val undef)), (92, (.val undef)), (93, (.val undef)), (94, (.val undef)), (95, (.val undef))]) ?_
                 refine o_r1 [(96, (vB true))] ?_
                 refine s_tm (mkd .any 97 0 [(1, (.ptr 0 0)), (3, (vI (len a1.fNodes))), (8, (vI x159)), (9, (vB r169)), (63, (vI x159)), (64, (.ptr 0 1)), (65, (vL Val.c a1.fRoots)), (66, (vI (len a1.fRoots))), (67, (vB true)), (70, (.ptr 0 1)), (71, (vL Val.c a1.fRoots)), (72, (vI x159)), (73, (.iptr [(vI x167.fKind), (vI x167.fN)])), (74, (.agg [(vI x167.fKind), (vI x167.fN)])), (75, (vI (len a1.fNodes))), (76, (vB r169)), (77, (vB r169)), (78, (vB true)), (79, (vB true)), (80, (.val undef)), (81, (.val undef)), (82, (.val undef)), (83, (.val undef)), (84, (.val undef)), (85, (.val undef)), (86, (.val undef)), (87, (.val undef)), (88, (.val undef)), (89, (.val undef)), (90, (.val undef)), (91, (.val undef)), (92, (.val undef)), (93, (.val undef)), (94, (.val undef)), (95, (.val undef)), (96, (vB true))]) ?_
                 exact o_end (w171 _ _ (wkm [1, 3, 8, 96] (whk wh_nil)) h)
               · refine o_r3 [(80, (.ptr 0 1)), (81, (vL Val.c a1.fRoots)), (82, (vI x159))] ?_
                 refine s_tm (mkd .any 97 0 [(1, (.ptr 0 0)), (3, (vI (len a1.fNodes))), (8, (vI x159)), (9, (vB r169)), (63, (vI x159)), (64, (.ptr 0 1)), (65, (vL Val.c a1.fRoots)), (66, (vI (len a1.fRoots))), (67, (vB true)), (70, (.ptr 0 1)), (71, (vL Val.c a1.fRoots)), (72, (vI x159)), (73, (.iptr [(vI x167.fKind), (vI x167.fN)])), (74, (.agg [(vI x167.fKind), (vI x167.fN)])), (75, (vI (len a1.fNodes))), (76, (vB r169)), (77, (vB r169)), (78, (vB false)), (79, (vB false)), (80, (.ptr 0 1)), (81, (vL Val.c a1.fRoots)), (82, (vI x159))]) ?_
                 refine bnd h fun x173 g174 h => ?_
                 refine o_g ?_
                 refine o_o (one_ia (f := Val.c) (ki := .i64) g174) ?_
                 refine o_r4 [(84, (.iptr [(vI x173.fKind), (vI x173.fN)])), (85, (vI x173.fKind)), (86, (vB (x173.fKind != 3))), (87, (vB (x173.fKind != 3)))] ?_
                 refine i_o [86, 87] h (fun h => ?_) (fun h => ?_)
                 · refine o_r3 [(88, (.ptr 0 1)), (89, (vL Val.c a1.fRoots)), (90, (vI x159))] ?_
                   refine bnd h fun x176 g177 h => ?_
                   refine o_g ?_
                   refine o_o (one_ia (f := Val.c) (ki := .i64) g177) ?_
                   refine o_r5 [(92, (.iptr [(vI x176.fKind), (vI x176.fN)])), (93, (vI x176.fKind)), (94, (vB (x176.fKind != 4))), (95, (vB (x176.fKind != 4))), (96, (vB (x176.fKind != 4)))] ?_
                   exact o_end (w171 _ _ (wkm [1, 3, 8, 96] (whk wh_nil)) h)
                 · refine o_r9 [(88, (.val undef)), (89, (.val undef)), (90, (.val undef)), (91, (.val undef)), (92, (.val undef)), (93, (.val undef)), (94, (.val undef)), (95, (vB false)), (96, (vB false))] ?_
                   exact o_end (w171 _ _ (wkm [1, 3, 8, 96] (whk wh_nil)) h)
           · refine c_exit (hE136 _ ?_)
             exact w134 _ (wkm [] wh_nil) h
       · intro N39 w39
         refine s_so fun N40 k40 w40 => ?_
         refine o_r1 [(5, (vI 0))] ?_
         refine o_end (k40 _ ?_)
         refine c_block fun E41 hE41 hO41 => ?_
         refine W1 (fun (x88 : Int) => ⟨(mkd .any 97 0 [(1, (.ptr 0 0)), (3, (vI (len a1.fNodes))), (5, (vI x88))]), [(some (.box 26 [(vL Node.c a1.fNodes), (vL Val.c a1.fRoots)]))]⟩) (f60_l42 a1 n (f60_k39 n a1)) h (wkm [1, 3, 5] (whk wh_nil)) (by intros; rw [f60_l42.eq_1]) ?_
         intro m42 x88 h N42 w42
         rw [f60_l42.eq_2] at h
         refine s_seq fun N89 k89 w89 => ?_
         refine s_so fun N90 k90 w90 => ?_
         refine o_r3 [(34, (vI x88)), (35, (vI (len a1.fNodes))), (36, (vB (decide (x88 < (len a1.fNodes)))))] ?_
         refine o_end (k90 _ ?_)
         refine i_c [36] h (fun h => ?_) (fun h => ?_)
         · refine c_skip (k89 _ ?_)
           refine J0 (r := r) ⟨(mkd .any 97 0 [(1, (.ptr 0 0)), (3, (vI (len a1.fNodes))), (5, (vI x88))]), [(some (.box 26 [(vL Node.c a1.fNodes), (vL Val.c a1.fRoots)]))]⟩ (f60_k92 x88 (f60_l42 a1 n (f60_k39 n a1) m42)) ?_ ?_
           · intro h
             rw [f60_k92.eq_1] at h
             refine c_ops ?_
             refine o_r3 [(5, (vI (wr .i64 (x88 + 1)))), (37, (vI x88)), (38, (vI (wr .i64 (x88 + 1))))] ?_
             exact o_end (w42 _ _ (wkm [1, 3, 5] (whk wh_nil)) h)
           · intro N92 w92
             refine c_block fun E93 hE93 hO93 => ?_
             refine s_so fun N94 k94 w94 => ?_
             refine o_r1 [(6, (vI 0))] ?_
             refine o_end (k94 _ ?_)
             refine c_block fun E95 hE95 hO95 => ?_
             refine W1 (fun (x115 : Int) => ⟨(mkd .any 97 0 [(1, (.ptr 0 0)), (3, (vI (len a1.fNodes))), (5, (vI x88)), (6, (vI x115))]), [(some (.box 26 [(vL Node.c a1.fNodes), (vL Val.c a1.fRoots)]))]⟩) (f60_l96 a1 x88 n (f60_k92 x88 (f60_l42 a1 n (f60_k39 n a1) m42))) h (wkm [1, 3, 5, 6] (whk wh_nil)) (by intros; rw [f60_l96.eq_1]) ?_
             intro m96 x115 h N96 w96
             rw [f60_l96.eq_2] at h
             refine s_seq fun N116 k116 w116 => ?_
             refine s_so fun N117 k117 w117 => ?_
             refine o_r4 [(39, (vI x115)), (40, (.ptr 0 0)), (41, (vL Node.c a1.fNodes)), (42, (vI x88))] ?_
             refine bnd h fun x118 g119 h => ?_
             refine o_o (one_ia (f := Node.c) (ki := .i64) g119) ?_
             refine o_r2 [(44, (.iptr [(vL Val.c x118.fVals)])), (45, (vL Val.c x118.fVals))] ?_
             refine o_o (one_len (f := Val.c) (l := x118.fVals)) ?_
             refine o_r1 [(47, (vB (decide (x115 < (len x118.fVals)))))] ?_
             refine o_end (k117 _ ?_)
             refine i_c [47] h (fun h => ?_) (fun h => ?_)
             · refine c_skip (k116 _ ?_)
               refine s_seq fun N122 k122 w122 => ?_
               refine c_block fun E123 hE123 hO123 => ?_
               refine s_so fun N124 k124 w124 => ?_
               refine o_r3 [(50, (.ptr 0 0)), (51, (vL Node.c a1.fNodes)), (52, (vI x88))] ?_
               refine bnd h fun x125 g126 h => ?_
               refine o_o (one_ia (f := Node.c) (ki := .i64) g126) ?_
               refine o_r3 [(54, (.iptr [(vL Val.c x125.fVals)])), (55, (vL Val.c x125.fVals)), (56, (vI x115))] ?_
               refine bnd h fun x127 g128 h => ?_
               refine o_o (one_ia (f := Val.c) (ki := .i64) g128) ?_
               refine o_r2 [(58, (.agg [(vI x127.fKind), (vI x127.fN)])), (59, (vI (len a1.fNodes)))] ?_
               refine bnd h fun r129 g130 h => ?_
               refine o_o (one_call (p_f99 g130)) ?_
               refine o_r1 [(7, (vB r129))] ?_
               refine s_tm (mkd .any 97 0 [(1, (.ptr 0 0)), (3, (vI (len a1.fNodes))), (5, (vI x88)), (6, (vI x115)), (7, (vB r129)), (39, (vI x115)), (40, (.ptr 0 0)), (41, (vL Node.c a1.fNodes)), (42, (vI x88)), (43, (.iptr [(vS x118.fClass), (vL Val.c x118.fVals)])), (44, (.iptr [(vL Val.c x118.fVals)])), (45, (vL Val.c x118.fVals)), (46, (vI (len x118.fVals))), (47, (vB true)), (50, (.ptr 0 0)), (51, (vL Node.c a1.fNodes)), (52, (vI x88)), (53, (.iptr [(vS x125.fClass), (vL Val.c x125.fVals)])), (54, (.iptr [(vL Val.c x125.fVals)])), (55, (vL Val.c x125.fVals)), (56, (vI x115)), (57, (.iptr [(vI x127.fKind), (vI x127.fN)])), (58, (.agg [(vI x127.fKind), (vI x127.fN)])), (59, (vI (len a1.fNodes))), (60, (vB r129))]) ?_
               refine o_end (w124 _ ⟨(mkd .any 97 0 [(1, (.ptr 0 0)), (3, (vI (len a1.fNodes))), (5, (vI x88)), (6, (vI x115)), (7, (vB r129))]), [(some (.box 26 [(vL Node.c a1.fNodes), (vL Val.c a1.fRoots)]))]⟩ (wkm [1, 3, 5, 6, 7] (whk wh_nil)) ?_)
               refine s_so fun N131 k131 w131 => ?_
               refine o_r2 [(61, (vB r129)), (62, (vB (!r129)))] ?_
               refine o_end (k131 _ ?_)
               refine i_c [62] h (fun h => ?_) (fun h => ?_)
               · refine s_so fun N133 k133 w133 => ?_
                 refine o_r1 [(2, (vI 2))] ?_
                 refine o_end (k133 _ ?_)
                 exact c_ret (rets [] [(vI 2)] [(vI 2)] h)
               · refine c_skip (k122 _ ?_)
                 refine c_ops ?_
                 refine o_r3 [(6, (vI (wr .i64 (x115 + 1)))), (48, (vI x115)), (49, (vI (wr .i64 (x115 + 1))))] ?_
                 exact o_end (w96 _ _ (wkm [1, 3, 5, 6] (whk wh_nil)) h)
             · refine c_exit (hE95 _ ?_)
               exact w92 _ (wkm [1, 3, 5] (whk wh_nil)) h
         · refine c_exit (hE41 _ ?_)
           exact w39 _ (wkm [1, 3] (whk wh_nil)) h
     · intro N12 w12
       refine s_so fun N13 k13 w13 => ?_
       refine o_r1 [(4, (vI 0))] ?_
       refine o_end (k13 _ ?_)
       refine c_block fun E14 hE14 hO14 => ?_
       refine W1 (fun (x27 : Int) => ⟨(mkd .any 97 0 [(1, (.ptr 0 0)), (3, (vI (len a1.fNodes))), (4, (vI x27))]), [(some (.box 26 [(vL Node.c a1.fNodes), (vL Val.c a1.fRoots)]))]⟩) (f60_l15 a1 (f60_k12 n a1)) h (wkm [1, 3, 4] (whk wh_nil)) (by intros; rw [f60_l15.eq_1]) ?_
       intro m15 x27 h N15 w15
       rw [f60_l15.eq_2] at h
       refine s_seq fun N28 k28 w28 => ?_
       refine s_so fun N29 k29 w29 => ?_
       refine o_r3 [(21, (vI x27)), (22, (vI (len a1.fNodes))), (23, (vB (decide (x27 < (len a1.fNodes)))))] ?_
       refine o_end (k29 _ ?_)
       refine i_c [23] h (fun h => ?_) (fun h => ?_)
       · refine c_skip (k28 _ ?_)
         refine s_seq fun N31 k31 w31 => ?_
         refine c_block fun E32 hE32 hO32 => ?_
         refine s_so fun N33 k33 w33 => ?_
         refine o_r3 [(26, (.ptr 0 0)), (27, (vL Node.c a1.fNodes)), (28, (vI x27))] ?_
         refine bnd h fun x34 g35 h => ?_
         refine o_o (one_ia (f := Node.c) (ki := .i64) g35) ?_
         refine o_r2 [(30, (.iptr [(vL Val.c x34.fVals)])), (31, (vL Val.c x34.fVals))] ?_
         refine o_o (one_len (f := Val.c) (l := x34.fVals)) ?_
         refine o_r1 [(33, (vB (decide ((len x34.fVals) > 30))))] ?_
         refine o_end (k33 _ ?_)
         refine i_c [33] h (fun h => ?_) (fun h => ?_)
         · refine s_so fun N38 k38 w38 => ?_
           refine o_r1 [(2, (vI 3))] ?_
           refine o_end (k38 _ ?_)
           exact c_ret (rets [] [(vI 3)] [(vI 3)] h)
         · refine c_skip (k31 _ ?_)
           refine c_ops ?_
           refine o_r3 [(4, (vI (wr .i64 (x27 + 1)))), (24, (vI x27)), (25, (vI (wr .i64 (x27 + 1))))] ?_
           exact o_end (w15 _ _ (wkm [1, 3, 4] (whk wh_nil)) h)
       · refine c_exit (hE14 _ ?_)
         exact w12 _ (wkm [1, 3] (whk wh_nil)) h
 · intro N6 w6
   refine c_ops ?_
   refine o_r3 [(13, (vI (len a1.fNodes))), (14, (vB (decide ((len a1.fNodes) > 400)))), (15, (vB (decide ((len a1.fNodes) > 400))))] ?_
   refine i_o [14, 15] h (fun h => ?_) (fun h => ?_)
   · refine o_r5 [(16, (.val undef)), (17, (.val undef)), (18, (.val undef)), (19, (.val undef)), (20, (vB true))] ?_
     exact o_end (w6 _ _ (wkm [1, 3, 20] (whk wh_nil)) h)
   · refine o_r2 [(16, (.ptr 0 1)), (17, (vL Val.c a1.fRoots))] ?_
     refine o_g ?_
     refine o_o (one_len (f := Val.c) (l := a1.fRoots)) ?_
     refine o_r2 [(19, (vB (decide ((len a1.fRoots) > 60)))), (20, (vB (decide ((len a1.fRoots) > 60))))] ?_
     exact o_end (w6 _ _ (wkm [1, 3, 20] (whk wh_nil)) h)
theorem ic61 : fnIC Try.prog H0 61 = some ([.tmp 6], 43, (.seq (.ops [⟨(some 3), none, .box 0 93 [] (.t 0)⟩, ⟨(some 4), none, .box 0 59 [] (.t 1)⟩, ⟨(some 5), none, .box 0 26 [(0, 57, 2, 0), (1, 59, 2, 0)] (.t 2)⟩, ⟨(some 6), none, .mov (.c (.bool false))⟩]) (.seq (.seq (.ops [⟨(some 7), none, .faddr (.t 3) 1⟩, ⟨(some 8), none, .ld (.t 7) 1 false⟩]) (.block 0 (.seq (.ops [⟨(some 10), none, .sc (.bin .eql 3) [(.t 8), (.c (.int .i64 1))]⟩, ⟨(some 9), none, .mov (.t 10)⟩]) (.cond (.t 9)
  (.seq (.ops [⟨(some 11), none, .faddr (.t 4) 0⟩, ⟨(some 12), none, .ld (.t 11) 1 false⟩, ⟨(some 13), none, .sc (.bin .eql 3) [(.t 12), (.c (.int .i64 1))]⟩, ⟨(some 6), none, .mov (.t 13)⟩]) .ret)
  (.seq (.ops [⟨(some 15), none, .sc (.bin .eql 3) [(.t 8), (.c (.int .i64 2))]⟩, ⟨(some 14), none, .mov (.t 15)⟩]) (.cond (.t 14)
  (.seq (.ops [⟨(some 16), none, .faddr (.t 4) 0⟩, ⟨(some 17), none, .ld (.t 16) 1 false⟩, ⟨(some 18), none, .sc (.bin .eql 3) [(.t 17), (.c (.int .i64 2))]⟩, ⟨(some 6), none, .mov (.t 18)⟩]) .ret)
  .skip)))))) (.seq (.seq (.ops [⟨(some 19), none, .faddr (.t 4) 0⟩, ⟨(some 20), none, .ld (.t 19) 1 false⟩, ⟨(some 21), none, .sc (.bin .eql 3) [(.t 20), (.c (.int .i64 3))]⟩]) (.cond (.t 21)
  (.seq (.ops [⟨(some 6), none, .mov (.c (.bool true))⟩]) .ret)
  .skip)) (.seq (.draw [] [⟨⟨(some 22), none, .faddr (.t 4) 0⟩, false, 0, 0⟩, ⟨⟨(some 23), none, .ld (.t 22) 1 false⟩, false, 0, 0⟩, ⟨⟨(some 24), none, .sc (.bin .eql 3) [(.t 23), (.c (.int .i64 4))]⟩, false, 0, 0⟩, ⟨⟨(some 25), none, .mov (.t 24)⟩, false, 0, 0⟩, ⟨⟨(some 26), (some (25, true)), .faddr (.t 3) 2⟩, false, 0, 0⟩, ⟨⟨(some 27), (some (25, true)), .ld (.t 26) 1 false⟩, false, 0, 0⟩, ⟨⟨(some 28), (some (25, true)), .sc (.bin .eql 9) [(.t 27), (.c (.string ⟨#[65, 78, 89]⟩))]⟩, false, 0, 0⟩, ⟨⟨(some 29), (some (25, true)), .mov (.t 28)⟩, false, 0, 0⟩, ⟨⟨(some 30), (some (29, false)), .faddr (.t 5) 0⟩, false, 0, 0⟩, ⟨⟨(some 31), (some (29, false)), .ld (.t 30) 1 false⟩, false, 0, 0⟩, ⟨⟨(some 32), (some (29, false)), .faddr (.t 4) 1⟩, false, 0, 0⟩, ⟨⟨(some 33), (some (29, false)), .ld (.t 32) 1 false⟩, false, 0, 0⟩, ⟨⟨(some 34), (some (29, false)), .sc .mx [(.c (.int .i64 0)), (.t 33)]⟩, false, 0, 0⟩, ⟨⟨(some 35), (some (29, false)), .iaddr 2 (.t 31) (.t 34)⟩, false, 0, 0⟩, ⟨⟨(some 36), (some (29, false)), .faddr (.t 35) 0⟩, false, 0, 0⟩, ⟨⟨(some 37), (some (29, false)), .ld (.t 36) 1 false⟩, false, 0, 0⟩, ⟨⟨(some 38), (some (29, false)), .faddr (.t 3) 2⟩, false, 0, 0⟩, ⟨⟨(some 39), (some (29, false)), .ld (.t 38) 1 false⟩, false, 0, 0⟩, ⟨⟨(some 40), (some (29, false)), .sc (.bin .eql 9) [(.t 37), (.t 39)]⟩, false, 0, 0⟩, ⟨⟨(some 41), (some (25, true)), .pick (.t 29) (.c (.bool true)) (.t 40)⟩, false, 0, 0⟩, ⟨⟨(some 42), none, .pick (.t 25) (.t 41) (.c (.bool false))⟩, false, 0, 0⟩, ⟨⟨(some 6), none, .mov (.t 42)⟩, false, 0, 0⟩]) .ret))))) := by kernel_rfl
def f61_k18 (x25 : Bool) : Option Bool := some x25
def f61 (n : Nat) (a1 : Col) (a2 : Val) (a3 : Graph) : Option Bool := (bif (a1.fKind == 1) then some (a2.fKind == 1) else (bif (a1.fKind == 2) then some (a2.fKind == 2) else (bif (a2.fKind == 3) then some true else (bif (a2.fKind == 4) then (bif (sEqF a1.fClass (ByteArray.mk #[65, 78, 89])) then (f61_k18 true) else ((gi a3.fNodes (mxI 0 a2.fN)).bind fun x22 => (f61_k18 (sEqF x22.fClass a1.fClass)))) else (f61_k18 false)))))
def f61_r (r : Bool) : AV := (vB r)
theorem p_f61 {n : Nat} {a1 : Col} {a2 : Val} {a3 : Graph} {r : Bool} (h : f61 n a1 a2 a3 = some r) : PureSpec Try.prog 61 [(.agg [(vS a1.fName), (vI a1.fKind), (vS a1.fClass)]), (.agg [(vI a2.fKind), (vI a2.fN)]), (.agg [(vL Node.c a3.fNodes), (vL Val.c a3.fRoots)])] (f61_r r) := by
 rw [f61.eq_1] at h
 refine pure_of hmix ic61 ?_
 refine go_to (mkd (.val undef) 43 0 [(0, (.agg [(vS a1.fName), (vI a1.fKind), (vS a1.fClass)])), (1, (.agg [(vI a2.fKind), (vI a2.fN)])), (2, (.agg [(vL Node.c a3.fNodes), (vL Val.c a3.fRoots)]))]) ?_
 refine s_so fun N4 k4 w4 => ?_
 refine o_h4 [(3, (.ptr 0 0)), (4, (.ptr 1 0)), (5, (.ptr 2 0)), (6, (vB false))] [(some (.box 93 [(vS a1.fName), (vI a1.fKind), (vS a1.fClass)])), (some (.box 59 [(vI a2.fKind), (vI a2.fN)])), (some (.box 26 [(vL Node.c a3.fNodes), (vL Val.c a3.fRoots)]))] ?_
 refine o_end (k4 _ ?_)
 refine s_seq fun N5 k5 w5 => ?_
 refine s_so fun N6 k6 w6 => ?_
 refine o_r2 [(7, (.ptr 0 1)), (8, (vI a1.fKind))] ?_
 refine o_end (k6 _ ?_)
 refine c_block fun E7 hE7 hO7 => ?_
 refine s_so fun N8 k8 w8 => ?_
 refine o_r2 [(9, (vB (a1.fKind == 1))), (10, (vB (a1.fKind == 1)))] ?_
 refine o_end (k8 _ ?_)
 refine i_c [9, 10] h (fun h => ?_) (fun h => ?_)
 · refine s_so fun N10 k10 w10 => ?_
   refine o_r4 [(6, (vB (a2.fKind == 1))), (11, (.ptr 1 0)), (12, (vI a2.fKind)), (13, (vB (a2.fKind == 1)))] ?_
   refine o_end (k10 _ ?_)
   exact c_ret (rets [] [(vB (a2.fKind == 1))] [(vB (a2.fKind == 1))] h)
 · refine s_so fun N11 k11 w11 => ?_
   refine o_r2 [(14, (vB (a1.fKind == 2))), (15, (vB (a1.fKind == 2)))] ?_
   refine o_end (k11 _ ?_)
   refine i_c [14, 15] h (fun h => ?_) (fun h => ?_)
   · refine s_so fun N13 k13 w13 => ?_
     refine o_r4 [(6, (vB (a2.fKind == 2))), (16, (.ptr 1 0)), (17, (vI a2.fKind)), (18, (vB (a2.fKind == 2)))] ?_
     refine o_end (k13 _ ?_)
     exact c_ret (rets [] [(vB (a2.fKind == 2))] [(vB (a2.fKind == 2))] h)
   · refine c_skip (k5 _ ?_)
     refine s_seq fun N14 k14 w14 => ?_
     refine s_so fun N15 k15 w15 => ?_
     refine o_r3 [(19, (.ptr 1 0)), (20, (vI a2.fKind)), (21, (vB (a2.fKind == 3)))] ?_
     refine o_end (k15 _ ?_)
     refine i_c [21] h (fun h => ?_) (fun h => ?_)
     · refine s_so fun N17 k17 w17 => ?_
       refine o_r1 [(6, (vB true))] ?_
       refine o_end (k17 _ ?_)
       exact c_ret (rets [] [(vB true)] [(vB true)] h)
     · refine c_skip (k14 _ ?_)
       refine J1 (r := r) (fun (x25 : Bool) => ⟨(mkd .any 43 0 [(6, (vB x25))]), []⟩) (f61_k18) ?_ ?_
       · intro x25 h
         rw [f61_k18.eq_1] at h
         exact c_ret (rets [] [(vB x25)] [(vB x25)] h)
       · intro N18 w18
         refine c_draw0 ?_
         refine d_r4 [(22, (.ptr 1 0)), (23, (vI a2.fKind)), (24, (vB (a2.fKind == 4))), (25, (vB (a2.fKind == 4)))] ?_
         refine i_d [24, 25] h (fun h => ?_) (fun h => ?_)
         · refine d_r2 [(26, (.ptr 0 2)), (27, (vS a1.fClass))] ?_
           refine d_g (one_sc (vs := [.string a1.fClass, .string (ByteArray.mk #[65, 78, 89])]) (str_eql a1.fClass (ByteArray.mk #[65, 78, 89]))) ?_
           refine d_r1 [(29, (vB (sEqF a1.fClass (ByteArray.mk #[65, 78, 89]))))] ?_
           refine t_tm (mkd (.val undef) 43 0 [(0, (.agg [(vS a1.fName), (vI a1.fKind), (vS a1.fClass)])), (1, (.agg [(vI a2.fKind), (vI a2.fN)])), (2, (.agg [(vL Node.c a3.fNodes), (vL Val.c a3.fRoots)])), (3, (.ptr 0 0)), (4, (.ptr 1 0)), (5, (.ptr 2 0)), (6, (vB false)), (7, (.ptr 0 1)), (8, (vI a1.fKind)), (9, (vB false)), (10, (vB false)), (14, (vB false)), (15, (vB false)), (19, (.ptr 1 0)), (20, (vI a2.fKind)), (21, (vB false)), (22, (.ptr 1 0)), (23, (vI a2.fKind)), (24, (vB true)), (25, (vB true)), (26, (.ptr 0 2)), (27, (vS a1.fClass)), (28, (vB (sEqF a1.fClass (ByteArray.mk #[65, 78, 89])))), (29, (vB (sEqF a1.fClass (ByteArray.mk #[65, 78, 89]))))]) ?_
           refine i_d [28, 29] h (fun h => ?_) (fun h => ?_)
           · refine d_r14 [(6, (vB true)), (30, (.val undef)), (31, (.val undef)), (32, (.val undef)), (33, (.val undef)), (34, (.val undef)), (35, (.val undef)), (36, (.val undef)), (37, (.val undef)), (38, (.val undef)), (39, (.val undef)), (40, (.val undef)), (41, (vB true)), (42, (vB true))] ?_
             exact d_end (w18 _ _ (wkm [6] wh_nil) h)
           · refine d_r5 [(30, (.ptr 2 0)), (31, (vL Node.c a3.fNodes)), (32, (.ptr 1 1)), (33, (vI a2.fN)), (34, (vI (mxI 0 a2.fN)))] ?_
             refine bnd h fun x22 g23 h => ?_
             refine d_g (one_ia (f := Node.c) (ki := .i64) g23) ?_
             refine d_r4 [(36, (.iptr [(vS x22.fClass), (vL Val.c x22.fVals)])), (37, (vS x22.fClass)), (38, (.ptr 0 2)), (39, (vS a1.fClass))] ?_
             refine d_g (one_sc (vs := [.string x22.fClass, .string a1.fClass]) (str_eql x22.fClass a1.fClass)) ?_
             refine d_r3 [(6, (vB (sEqF x22.fClass a1.fClass))), (41, (vB (sEqF x22.fClass a1.fClass))), (42, (vB (sEqF x22.fClass a1.fClass)))] ?_
             exact d_end (w18 _ _ (wkm [6] wh_nil) h)
         · refine d_r16 [(26, (.val undef)), (27, (.val undef)), (28, (.val undef)), (29, (.val undef)), (30, (.val undef)), (31, (.val undef)), (32, (.val undef)), (33, (.val undef)), (34, (.val undef)), (35, (.val undef)), (36, (.val undef)), (37, (.val undef)), (38, (.val undef)), (39, (.val undef)), (40, (.val undef)), (41, (.val undef))] ?_
           refine d_r2 [(42, (vB false))] ?_
           exact d_end (w18 _ _ (wkm [6] wh_nil) h)
theorem ic19 : fnIC Try.prog H0 19 = some ([.tmp 4], 91, (.seq (.ops [⟨(some 3), none, .box 0 26 [(0, 57, 2, 0), (1, 59, 2, 0)] (.t 1)⟩, ⟨(some 4), none, .mov (.c (.int .i64 0))⟩]) (.seq (.ops [⟨(some 11), none, .mov (.t 0)⟩, ⟨(some 12), none, .call 17 [(.t 11)]⟩, ⟨(some 5), none, .mov (.t 12)⟩]) (.seq (.seq (.ops [⟨(some 13), none, .mov (.t 5)⟩, ⟨(some 14), none, .sc (.bin .neq 30) [(.t 13), (.c (.int .i64 0))]⟩]) (.cond (.t 14)
  (.seq (.ops [⟨(some 15), none, .mov (.t 5)⟩, ⟨(some 4), none, .mov (.t 15)⟩]) .ret)
  .skip)) (.seq (.ops [⟨(some 16), none, .ld (.t 3) 2 true⟩, ⟨(some 17), none, .call 60 [(.t 16)]⟩, ⟨(some 5), none, .mov (.t 17)⟩]) (.seq (.seq (.ops [⟨(some 18), none, .mov (.t 5)⟩, ⟨(some 19), none, .sc (.bin .neq 30) [(.t 18), (.c (.int .i64 0))]⟩]) (.cond (.t 19)
  (.seq (.ops [⟨(some 20), none, .mov (.t 5)⟩, ⟨(some 4), none, .mov (.t 20)⟩]) .ret)
  .skip)) (.seq (.seq (.ops [⟨(some 6), none, .mov (.c (.int .i64 0))⟩]) (.block 0 (.loop (.seq (.seq (.ops [⟨(some 21), none, .mov (.t 6)⟩, ⟨(some 22), none, .faddr (.t 3) 0⟩, ⟨(some 23), none, .ld (.t 22) 1 false⟩, ⟨(some 24), none, .len false (.t 23)⟩, ⟨(some 25), none, .sc (.bin .lss 3) [(.t 21), (.t 24)]⟩]) (.cond (.t 25)
  .skip
  (.exit 0))) (.seq (.block 1 (.seq (.ops [⟨(some 28), none, .mov (.t 0)⟩, ⟨(some 29), none, .faddr (.t 3) 0⟩, ⟨(some 30), none, .ld (.t 29) 1 false⟩, ⟨(some 31), none, .mov (.t 6)⟩, ⟨(some 32), none, .iaddr 2 (.t 30) (.t 31)⟩, ⟨(some 33), none, .faddr (.t 32) 0⟩, ⟨(some 34), none, .ld (.t 33) 1 false⟩, ⟨(some 35), none, .call 55 [(.t 28), (.t 34)]⟩, ⟨(some 36), none, .sc (.bin .lss 3) [(.t 35), (.c (.int .i64 0))]⟩]) (.cond (.t 36)
  (.seq (.ops [⟨(some 4), none, .mov (.c (.int .i64 4))⟩]) .ret)
  .skip))) (.ops [⟨(some 26), none, .mov (.t 6)⟩, ⟨(some 27), none, .sc (.bin .add 3) [(.t 26), (.c (.int .i64 1))]⟩, ⟨(some 6), none, .mov (.t 27)⟩])))))) (.seq (.seq (.ops [⟨(some 7), none, .mov (.c (.int .i64 0))⟩]) (.block 2 (.loop (.seq (.seq (.ops [⟨(some 37), none, .mov (.t 7)⟩, ⟨(some 38), none, .faddr (.t 3) 0⟩, ⟨(some 39), none, .ld (.t 38) 1 false⟩, ⟨(some 40), none, .len false (.t 39)⟩, ⟨(some 41), none, .sc (.bin .lss 3) [(.t 37), (.t 40)]⟩]) (.cond (.t 41)
  .skip
  (.exit 2))) (.seq (.block 3 (.seq (.ops [⟨(some 44), none, .mov (.t 0)⟩, ⟨(some 45), none, .mov (.t 0)⟩, ⟨(some 46), none, .faddr (.t 3) 0⟩, ⟨(some 47), none, .ld (.t 46) 1 false⟩, ⟨(some 48), none, .mov (.t 7)⟩, ⟨(some 49), none, .iaddr 2 (.t 47) (.t 48)⟩, ⟨(some 50), none, .faddr (.t 49) 0⟩, ⟨(some 51), none, .ld (.t 50) 1 false⟩, ⟨(some 52), none, .call 55 [(.t 45), (.t 51)]⟩, ⟨(some 53), none, .iaddr 2 (.t 44) (.t 52)⟩, ⟨(some 54), none, .ld (.t 53) 2 true⟩, ⟨(some 8), none, .alloc 0 91 [(1, 93, 3, 0)] [(.string ⟨#[]⟩), (.slice none 0 0)]⟩, ⟨none, none, .st true 2 [(1, 93, 3, 0)] (.t 8) (.t 54)⟩]) (.seq (.seq (.draw [] [⟨⟨(some 55), none, .faddr (.t 8) 1⟩, false, 0, 0⟩, ⟨⟨(some 56), none, .ld (.t 55) 1 false⟩, false, 0, 0⟩, ⟨⟨(some 57), none, .len false (.t 56)⟩, false, 0, 0⟩, ⟨⟨(some 58), none, .faddr (.t 3) 0⟩, false, 0, 0⟩, ⟨⟨(some 59), none, .ld (.t 58) 1 false⟩, false, 0, 0⟩, ⟨⟨(some 60), none, .mov (.t 7)⟩, false, 0, 0⟩, ⟨⟨(some 61), none, .iaddr 2 (.t 59) (.t 60)⟩, false, 0, 0⟩, ⟨⟨(some 62), none, .faddr (.t 61) 1⟩, false, 0, 0⟩, ⟨⟨(some 63), none, .ld (.t 62) 1 false⟩, false, 0, 0⟩, ⟨⟨(some 64), none, .len false (.t 63)⟩, false, 0, 0⟩, ⟨⟨(some 65), none, .sc (.bin .neq 3) [(.t 57), (.t 64)]⟩, false, 0, 0⟩]) (.cond (.t 65)
  (.seq (.ops [⟨(some 4), none, .mov (.c (.int .i64 8))⟩]) .ret)
  .skip)) (.seq (.ops [⟨(some 9), none, .mov (.c (.int .i64 0))⟩]) (.block 4 (.loop (.seq (.seq (.ops [⟨(some 66), none, .mov (.t 9)⟩, ⟨(some 67), none, .faddr (.t 8) 1⟩, ⟨(some 68), none, .ld (.t 67) 1 false⟩, ⟨(some 69), none, .len false (.t 68)⟩, ⟨(some 70), none, .sc (.bin .lss 3) [(.t 66), (.t 69)]⟩]) (.cond (.t 70)
  .skip
  (.exit 4))) (.seq (.block 5 (.seq (.draw [] [⟨⟨(some 73), none, .faddr (.t 8) 1⟩, false, 0, 0⟩, ⟨⟨(some 74), none, .ld (.t 73) 1 false⟩, false, 0, 0⟩, ⟨⟨(some 75), none, .mov (.t 9)⟩, false, 0, 0⟩, ⟨⟨(some 76), none, .iaddr 3 (.t 74) (.t 75)⟩, false, 0, 0⟩, ⟨⟨(some 77), none, .ld (.t 76) 3 true⟩, false, 0, 0⟩, ⟨⟨(some 78), none, .faddr (.t 3) 0⟩, false, 0, 0⟩, ⟨⟨(some 79), none, .ld (.t 78) 1 false⟩, false, 0, 0⟩, ⟨⟨(some 80), none, .mov (.t 7)⟩, false, 0, 0⟩, ⟨⟨(some 81), none, .iaddr 2 (.t 79) (.t 80)⟩, false, 0, 0⟩, ⟨⟨(some 82), none, .faddr (.t 81) 1⟩, false, 0, 0⟩, ⟨⟨(some 83), none, .ld (.t 82) 1 false⟩, false, 0, 0⟩, ⟨⟨(some 84), none, .mov (.t 9)⟩, false, 0, 0⟩, ⟨⟨(some 85), none, .iaddr 2 (.t 83) (.t 84)⟩, false, 0, 0⟩, ⟨⟨(some 86), none, .ld (.t 85) 2 true⟩, false, 0, 0⟩, ⟨⟨(some 87), none, .ld (.t 3) 2 true⟩, false, 0, 0⟩, ⟨⟨(some 88), none, .call 61 [(.t 77), (.t 86), (.t 87)]⟩, false, 0, 0⟩, ⟨⟨(some 10), none, .mov (.t 88)⟩, false, 0, 0⟩]) (.seq (.ops [⟨(some 89), none, .mov (.t 10)⟩, ⟨(some 90), none, .sc (.un .not) [(.t 89)]⟩]) (.cond (.t 90)
  (.seq (.ops [⟨(some 4), none, .mov (.c (.int .i64 8))⟩]) .ret)
  .skip)))) (.ops [⟨(some 71), none, .mov (.t 9)⟩, ⟨(some 72), none, .sc (.bin .add 3) [(.t 71), (.c (.int .i64 1))]⟩, ⟨(some 9), none, .mov (.t 72)⟩]))))))))) (.ops [⟨(some 42), none, .mov (.t 7)⟩, ⟨(some 43), none, .sc (.bin .add 3) [(.t 42), (.c (.int .i64 1))]⟩, ⟨(some 7), none, .mov (.t 43)⟩])))))) (.seq (.ops [⟨(some 4), none, .mov (.c (.int .i64 0))⟩]) .ret))))))))) := by kernel_rfl
def f19_k119 (x114 : Int) (c52k : Int → Option Int) : Option Int := (c52k (wr .i64 (x114 + 1)))
def f19_l138 (x126 : Form) (a2 : Graph) (x114 : Int) (n : Nat) (k119k : Option Int) : Nat → Int → Option Int
  | 0, _ => none
  | m138 + 1, x157 => (bif (decide (x157 < (len x126.fCols))) then ((gi x126.fCols x157).bind fun x165 => ((gi a2.fNodes x114).bind fun x167 => ((gi x167.fVals x157).bind fun x169 => ((f61 n x165 x169 a2).bind fun r171 => (bif (!r171) then some 8 else (f19_l138 x126 a2 x114 n (k119k) m138 (wr .i64 (x157 + 1)))))))) else (k119k))
def f19_k49 : Option Int := some 0
def f19_l52 (a2 : Graph) (n : Nat) (a1 : (List Form)) (k49k : Option Int) : Nat → Int → Option Int
  | 0, _ => none
  | m52 + 1, x114 => (bif (decide (x114 < (len a2.fNodes))) then ((gi a2.fNodes x114).bind fun x122 => ((f55 n a1 x122.fClass).bind fun r124 => ((gi a1 r124).bind fun x126 => ((gi a2.fNodes x114).bind fun x131 => (bif ((len x126.fCols) != (len x131.fVals)) then some 8 else (f19_l138 x126 a2 x114 n (f19_k119 x114 (f19_l52 a2 n a1 (k49k) m52)) n 0)))))) else (k49k))
def f19_k18 (n : Nat) (a2 : Graph) (a1 : (List Form)) : Option Int := (f19_l52 a2 n a1 (f19_k49) n 0)
def f19_l21 (a2 : Graph) (n : Nat) (a1 : (List Form)) (k18k : Option Int) : Nat → Int → Option Int
  | 0, _ => none
  | m21 + 1, x35 => (bif (decide (x35 < (len a2.fNodes))) then ((gi a2.fNodes x35).bind fun x43 => ((f55 n a1 x43.fClass).bind fun r45 => (bif (decide (r45 < 0)) then some 4 else (f19_l21 a2 n a1 (k18k) m21 (wr .i64 (x35 + 1)))))) else (k18k))
def f19 (n : Nat) (a1 : (List Form)) (a2 : Graph) : Option Int := ((f17 n a1).bind fun r5 => (bif (r5 != 0) then some r5 else ((f60 n a2).bind fun r12 => (bif (r12 != 0) then some r12 else (f19_l21 a2 n a1 (f19_k18 n a2 a1) n 0)))))
def f19_r (r : Int) : AV := (vI r)
theorem p_f19 {n : Nat} {a1 : (List Form)} {a2 : Graph} {r : Int} (h : f19 n a1 a2 = some r) : PureSpec Try.prog 19 [(vL Form.c a1), (.agg [(vL Node.c a2.fNodes), (vL Val.c a2.fRoots)])] (f19_r r) := by
 rw [f19.eq_1] at h
 refine pure_of hmix ic19 ?_
 refine go_to (mkd (.val undef) 91 0 [(0, (vL Form.c a1)), (1, (.agg [(vL Node.c a2.fNodes), (vL Val.c a2.fRoots)]))]) ?_
 refine s_so fun N3 k3 w3 => ?_
 refine o_h2 [(3, (.ptr 0 0)), (4, (vI 0))] [(some (.box 26 [(vL Node.c a2.fNodes), (vL Val.c a2.fRoots)]))] ?_
 refine o_end (k3 _ ?_)
 refine s_so fun N4 k4 w4 => ?_
 refine o_r1 [(11, (vL Form.c a1))] ?_
 refine bnd h fun r5 g6 h => ?_
 refine o_o (one_call (p_f17 g6)) ?_
 refine o_r1 [(5, (vI r5))] ?_
 refine o_end (k4 _ ?_)
 refine s_seq fun N7 k7 w7 => ?_
 refine s_so fun N8 k8 w8 => ?_
 refine o_r2 [(13, (vI r5)), (14, (vB (r5 != 0)))] ?_
 refine o_end (k8 _ ?_)
 refine i_c [14] h (fun h => ?_) (fun h => ?_)
 · refine s_so fun N10 k10 w10 => ?_
   refine o_r2 [(4, (vI r5)), (15, (vI r5))] ?_
   refine o_end (k10 _ ?_)
   exact c_ret (rets [] [(vI r5)] [(vI r5)] h)
 · refine c_skip (k7 _ ?_)
   refine s_so fun N11 k11 w11 => ?_
   refine o_r1 [(16, (.agg [(vL Node.c a2.fNodes), (vL Val.c a2.fRoots)]))] ?_
   refine bnd h fun r12 g13 h => ?_
   refine o_o (one_call (p_f60 g13)) ?_
   refine o_r1 [(5, (vI r12))] ?_
   refine o_end (k11 _ ?_)
   refine s_seq fun N14 k14 w14 => ?_
   refine s_so fun N15 k15 w15 => ?_
   refine o_r2 [(18, (vI r12)), (19, (vB (r12 != 0)))] ?_
   refine o_end (k15 _ ?_)
   refine i_c [19] h (fun h => ?_) (fun h => ?_)
   · refine s_so fun N17 k17 w17 => ?_
     refine o_r2 [(4, (vI r12)), (20, (vI r12))] ?_
     refine s_tm (mkd (.val undef) 91 0 [(0, (vL Form.c a1)), (1, (.agg [(vL Node.c a2.fNodes), (vL Val.c a2.fRoots)])), (3, (.ptr 0 0)), (4, (vI r12)), (5, (vI r12)), (11, (vL Form.c a1)), (12, (vI r5)), (13, (vI r5)), (14, (vB false)), (16, (.agg [(vL Node.c a2.fNodes), (vL Val.c a2.fRoots)])), (17, (vI r12)), (18, (vI r12)), (19, (vB true)), (20, (vI r12))]) ?_
     refine o_end (k17 _ ?_)
     exact c_ret (rets [] [(vI r12)] [(vI r12)] h)
   · refine c_skip (k14 _ ?_)
     refine J0 (r := r) ⟨(mkd .any 91 0 [(0, (vL Form.c a1)), (3, (.ptr 0 0))]), [(some (.box 26 [(vL Node.c a2.fNodes), (vL Val.c a2.fRoots)]))]⟩ (f19_k18 n a2 a1) ?_ ?_
     · intro h
       rw [f19_k18.eq_1] at h
       refine J0 (r := r) ⟨(mkd .any 91 0 []), []⟩ (f19_k49) ?_ ?_
       · intro h
         rw [f19_k49.eq_1] at h
         refine s_so fun N176 k176 w176 => ?_
         refine o_r1 [(4, (vI 0))] ?_
         refine o_end (k176 _ ?_)
         exact c_ret (rets [] [(vI 0)] [(vI 0)] h)
       · intro N49 w49
         refine s_so fun N50 k50 w50 => ?_
         refine o_r1 [(7, (vI 0))] ?_
         refine o_end (k50 _ ?_)
         refine c_block fun E51 hE51 hO51 => ?_
         refine W1 (fun (x114 : Int) => ⟨(mkd .any 91 0 [(0, (vL Form.c a1)), (3, (.ptr 0 0)), (7, (vI x114))]), [(some (.box 26 [(vL Node.c a2.fNodes), (vL Val.c a2.fRoots)]))]⟩) (f19_l52 a2 n a1 (f19_k49)) h (wkm [0, 3, 7] (whk wh_nil)) (by intros; rw [f19_l52.eq_1]) ?_
         intro m52 x114 h N52 w52
         rw [f19_l52.eq_2] at h
         refine s_seq fun N115 k115 w115 => ?_
         refine s_so fun N116 k116 w116 => ?_
         refine o_r3 [(37, (vI x114)), (38, (.ptr 0 0)), (39, (vL Node.c a2.fNodes))] ?_
         refine o_o (one_len (f := Node.c) (l := a2.fNodes)) ?_
         refine o_r1 [(41, (vB (decide (x114 < (len a2.fNodes)))))] ?_
         refine o_end (k116 _ ?_)
         refine i_c [41] h (fun h => ?_) (fun h => ?_)
         · refine c_skip (k115 _ ?_)
           refine J0 (r := r) ⟨(mkd .any 91 0 [(0, (vL Form.c a1)), (3, (.ptr 0 0)), (7, (vI x114))]), [(some (.box 26 [(vL Node.c a2.fNodes), (vL Val.c a2.fRoots)]))]⟩ (f19_k119 x114 (f19_l52 a2 n a1 (f19_k49) m52)) ?_ ?_
           · intro h
             rw [f19_k119.eq_1] at h
             refine c_ops ?_
             refine o_r3 [(7, (vI (wr .i64 (x114 + 1)))), (42, (vI x114)), (43, (vI (wr .i64 (x114 + 1))))] ?_
             exact o_end (w52 _ _ (wkm [0, 3, 7] (whk wh_nil)) h)
           · intro N119 w119
             refine c_block fun E120 hE120 hO120 => ?_
             refine s_so fun N121 k121 w121 => ?_
             refine o_r5 [(44, (vL Form.c a1)), (45, (vL Form.c a1)), (46, (.ptr 0 0)), (47, (vL Node.c a2.fNodes)), (48, (vI x114))] ?_
             refine bnd h fun x122 g123 h => ?_
             refine o_o (one_ia (f := Node.c) (ki := .i64) g123) ?_
             refine o_r2 [(50, (.iptr [(vS x122.fClass), (vL Val.c x122.fVals)])), (51, (vS x122.fClass))] ?_
             refine bnd h fun r124 g125 h => ?_
             refine o_o (one_call (p_f55 g125)) ?_
             refine bnd h fun x126 g127 h => ?_
             refine o_o (one_ia (f := Form.c) (ki := .i64) g127) ?_
             refine o_h3 [(8, (.ptr 2 0)), (54, (.agg [(vS x126.fName), (vL Col.c x126.fCols)]))] [(some (.box 26 [(vL Node.c a2.fNodes), (vL Val.c a2.fRoots)])), (some (.row 93 3 (List.map Col.c []))), (some (.box 91 [(vS x126.fName), (vL Col.c x126.fCols)]))] ?_
             refine o_end (w121 _ ⟨(mkd .any 91 0 [(0, (vL Form.c a1)), (3, (.ptr 0 0)), (7, (vI x114)), (8, (.ptr 2 0))]), [(some (.box 26 [(vL Node.c a2.fNodes), (vL Val.c a2.fRoots)])), none, (some (.box 91 [(vS x126.fName), (vL Col.c x126.fCols)]))]⟩ (wkm [0, 3, 7, 8] (whk (wh_drop (whk wh_nil)))) ?_)
             refine s_seq fun N128 k128 w128 => ?_
             refine s_seq fun N129 k129 w129 => ?_
             refine c_draw0 ?_
             refine d_r2 [(55, (.ptr 2 1)), (56, (vL Col.c x126.fCols))] ?_
             refine d_o (one_len (f := Col.c) (l := x126.fCols)) ?_
             refine d_r3 [(58, (.ptr 0 0)), (59, (vL Node.c a2.fNodes)), (60, (vI x114))] ?_
             refine bnd h fun x131 g132 h => ?_
             refine d_o (one_ia (f := Node.c) (ki := .i64) g132) ?_
             refine d_r2 [(62, (.iptr [(vL Val.c x131.fVals)])), (63, (vL Val.c x131.fVals))] ?_
             refine d_o (one_len (f := Val.c) (l := x131.fVals)) ?_
             refine d_r1 [(65, (vB ((len x126.fCols) != (len x131.fVals))))] ?_
             refine d_end (k129 _ ?_)
             refine i_c [65] h (fun h => ?_) (fun h => ?_)
             · refine s_so fun N135 k135 w135 => ?_
               refine o_r1 [(4, (vI 8))] ?_
               refine o_end (k135 _ ?_)
               exact c_ret (rets [] [(vI 8)] [(vI 8)] h)
             · refine c_skip (k128 _ ?_)
               refine s_so fun N136 k136 w136 => ?_
               refine o_r1 [(9, (vI 0))] ?_
               refine o_end (k136 _ ?_)
               refine c_block fun E137 hE137 hO137 => ?_
               refine W1 (fun (x157 : Int) => ⟨(mkd .any 91 0 [(0, (vL Form.c a1)), (3, (.ptr 0 0)), (7, (vI x114)), (8, (.ptr 2 0)), (9, (vI x157))]), [(some (.box 26 [(vL Node.c a2.fNodes), (vL Val.c a2.fRoots)])), none, (some (.box 91 [(vS x126.fName), (vL Col.c x126.fCols)]))]⟩) (f19_l138 x126 a2 x114 n (f19_k119 x114 (f19_l52 a2 n a1 (f19_k49) m52))) h (wkm [0, 3, 7, 8, 9] (whk (wh_none (whk wh_nil)))) (by intros; rw [f19_l138.eq_1]) ?_
               intro m138 x157 h N138 w138
               rw [f19_l138.eq_2] at h
               refine s_seq fun N158 k158 w158 => ?_
               refine s_so fun N159 k159 w159 => ?_
               refine o_r3 [(66, (vI x157)), (67, (.ptr 2 1)), (68, (vL Col.c x126.fCols))] ?_
               refine o_o (one_len (f := Col.c) (l := x126.fCols)) ?_
               refine o_r1 [(70, (vB (decide (x157 < (len x126.fCols)))))] ?_
               refine o_end (k159 _ ?_)
               refine i_c [70] h (fun h => ?_) (fun h => ?_)
               · refine c_skip (k158 _ ?_)
                 refine s_seq fun N162 k162 w162 => ?_
                 refine c_block fun E163 hE163 hO163 => ?_
                 refine s_seq fun N164 k164 w164 => ?_
                 refine c_draw0 ?_
                 refine d_r3 [(73, (.ptr 2 1)), (74, (vL Col.c x126.fCols)), (75, (vI x157))] ?_
                 refine bnd h fun x165 g166 h => ?_
                 refine d_o (one_ia (f := Col.c) (ki := .i64) g166) ?_
                 refine d_r4 [(77, (.agg [(vS x165.fName), (vI x165.fKind), (vS x165.fClass)])), (78, (.ptr 0 0)), (79, (vL Node.c a2.fNodes)), (80, (vI x114))] ?_
                 refine bnd h fun x167 g168 h => ?_
                 refine d_o (one_ia (f := Node.c) (ki := .i64) g168) ?_
                 refine d_r3 [(82, (.iptr [(vL Val.c x167.fVals)])), (83, (vL Val.c x167.fVals)), (84, (vI x157))] ?_
                 refine bnd h fun x169 g170 h => ?_
                 refine d_o (one_ia (f := Val.c) (ki := .i64) g170) ?_
                 refine d_r2 [(86, (.agg [(vI x169.fKind), (vI x169.fN)])), (87, (.agg [(vL Node.c a2.fNodes), (vL Val.c a2.fRoots)]))] ?_
                 refine bnd h fun r171 g172 h => ?_
                 refine d_o (one_call (p_f61 g172)) ?_
                 refine d_r1 [(10, (vB r171))] ?_
                 refine t_tm (mkd .any 91 0 [(0, (vL Form.c a1)), (3, (.ptr 0 0)), (7, (vI x114)), (8, (.ptr 2 0)), (9, (vI x157)), (10, (vB r171)), (66, (vI x157)), (67, (.ptr 2 1)), (68, (vL Col.c x126.fCols)), (69, (vI (len x126.fCols))), (70, (vB true)), (73, (.ptr 2 1)), (74, (vL Col.c x126.fCols)), (75, (vI x157)), (76, (.iptr [(vS x165.fName), (vI x165.fKind), (vS x165.fClass)])), (77, (.agg [(vS x165.fName), (vI x165.fKind), (vS x165.fClass)])), (78, (.ptr 0 0)), (79, (vL Node.c a2.fNodes)), (80, (vI x114)), (81, (.iptr [(vS x167.fClass), (vL Val.c x167.fVals)])), (82, (.iptr [(vL Val.c x167.fVals)])), (83, (vL Val.c x167.fVals)), (84, (vI x157)), (85, (.iptr [(vI x169.fKind), (vI x169.fN)])), (86, (.agg [(vI x169.fKind), (vI x169.fN)])), (87, (.agg [(vL Node.c a2.fNodes), (vL Val.c a2.fRoots)])), (88, (vB r171))]) ?_
                 refine d_end (w164 _ ⟨(mkd .any 91 0 [(0, (vL Form.c a1)), (3, (.ptr 0 0)), (7, (vI x114)), (8, (.ptr 2 0)), (9, (vI x157)), (10, (vB r171))]), [(some (.box 26 [(vL Node.c a2.fNodes), (vL Val.c a2.fRoots)])), none, (some (.box 91 [(vS x126.fName), (vL Col.c x126.fCols)]))]⟩ (wkm [0, 3, 7, 8, 9, 10] (whk (wh_none (whk wh_nil)))) ?_)
                 refine s_so fun N173 k173 w173 => ?_
                 refine o_r2 [(89, (vB r171)), (90, (vB (!r171)))] ?_
                 refine o_end (k173 _ ?_)
                 refine i_c [90] h (fun h => ?_) (fun h => ?_)
                 · refine s_so fun N175 k175 w175 => ?_
                   refine o_r1 [(4, (vI 8))] ?_
                   refine o_end (k175 _ ?_)
                   exact c_ret (rets [] [(vI 8)] [(vI 8)] h)
                 · refine c_skip (k162 _ ?_)
                   refine c_ops ?_
                   refine o_r3 [(9, (vI (wr .i64 (x157 + 1)))), (71, (vI x157)), (72, (vI (wr .i64 (x157 + 1))))] ?_
                   exact o_end (w138 _ _ (wkm [0, 3, 7, 8, 9] (whk (wh_none (whk wh_nil)))) h)
               · refine c_exit (hE137 _ ?_)
                 exact w119 _ (wkm [0, 3, 7] (whk wh_nil)) h
         · refine c_exit (hE51 _ ?_)
           exact w49 _ (wkm [] wh_nil) h
     · intro N18 w18
       refine s_so fun N19 k19 w19 => ?_
       refine o_r1 [(6, (vI 0))] ?_
       refine s_tm (mkd (.val undef) 91 0 [(0, (vL Form.c a1)), (1, (.agg [(vL Node.c a2.fNodes), (vL Val.c a2.fRoots)])), (3, (.ptr 0 0)), (4, (vI 0)), (5, (vI r12)), (6, (vI 0)), (11, (vL Form.c a1)), (12, (vI r5)), (13, (vI r5)), (14, (vB false)), (16, (.agg [(vL Node.c a2.fNodes), (vL Val.c a2.fRoots)])), (17, (vI r12)), (18, (vI r12)), (19, (vB false))]) ?_
       refine o_end (k19 _ ?_)
       refine c_block fun E20 hE20 hO20 => ?_
       refine W1 (fun (x35 : Int) => ⟨(mkd .any 91 0 [(0, (vL Form.c a1)), (3, (.ptr 0 0)), (6, (vI x35))]), [(some (.box 26 [(vL Node.c a2.fNodes), (vL Val.c a2.fRoots)]))]⟩) (f19_l21 a2 n a1 (f19_k18 n a2 a1)) h (wkm [0, 3, 6] (whk wh_nil)) (by intros; rw [f19_l21.eq_1]) ?_
       intro m21 x35 h N21 w21
       rw [f19_l21.eq_2] at h
       refine s_seq fun N36 k36 w36 => ?_
       refine s_so fun N37 k37 w37 => ?_
       refine o_r3 [(21, (vI x35)), (22, (.ptr 0 0)), (23, (vL Node.c a2.fNodes))] ?_
       refine o_o (one_len (f := Node.c) (l := a2.fNodes)) ?_
       refine o_r1 [(25, (vB (decide (x35 < (len a2.fNodes)))))] ?_
       refine o_end (k37 _ ?_)
       refine i_c [25] h (fun h => ?_) (fun h => ?_)
       · refine c_skip (k36 _ ?_)
         refine s_seq fun N40 k40 w40 => ?_
         refine c_block fun E41 hE41 hO41 => ?_
         refine s_so fun N42 k42 w42 => ?_
         refine o_r4 [(28, (vL Form.c a1)), (29, (.ptr 0 0)), (30, (vL Node.c a2.fNodes)), (31, (vI x35))] ?_
         refine bnd h fun x43 g44 h => ?_
         refine o_o (one_ia (f := Node.c) (ki := .i64) g44) ?_
         refine o_r2 [(33, (.iptr [(vS x43.fClass), (vL Val.c x43.fVals)])), (34, (vS x43.fClass))] ?_
         refine bnd h fun r45 g46 h => ?_
         refine o_o (one_call (p_f55 g46)) ?_
         refine o_r1 [(36, (vB (decide (r45 < 0))))] ?_
         refine o_end (k42 _ ?_)
         refine i_c [36] h (fun h => ?_) (fun h => ?_)
         · refine s_so fun N48 k48 w48 => ?_
           refine o_r1 [(4, (vI 4))] ?_
           refine o_end (w48 _ ⟨(mkd .any 91 0 [(4, (vI 4))]), []⟩ (wkm [4] wh_nil) ?_)
           exact c_ret (rets [] [(vI 4)] [(vI 4)] h)
         · refine c_skip (k40 _ ?_)
           refine c_ops ?_
           refine o_r3 [(6, (vI (wr .i64 (x35 + 1)))), (26, (vI x35)), (27, (vI (wr .i64 (x35 + 1))))] ?_
           exact o_end (w21 _ _ (wkm [0, 3, 6] (whk wh_nil)) h)
       · refine c_exit (hE20 _ ?_)
         exact w18 _ (wkm [0, 3] (whk wh_nil)) h
theorem ic3 : fnIC Try.prog H0 3 = some ([.tmp 4], 31, (.seq (.ops [⟨(some 3), none, .box 0 26 [(0, 57, 2, 0), (1, 59, 2, 0)] (.t 1)⟩, ⟨(some 4), none, .mov (.c (.bool false))⟩]) (.seq (.seq (.ops [⟨(some 5), none, .mov (.t 0)⟩, ⟨(some 6), none, .call 13 [(.t 5)]⟩, ⟨(some 7), none, .sc (.un .not) [(.t 6)]⟩, ⟨(some 8), none, .mov (.t 7)⟩, ⟨(some 9), (some (8, false)), .ld (.t 3) 2 true⟩, ⟨(some 10), (some (8, false)), .call 14 [(.t 9)]⟩, ⟨(some 11), (some (8, false)), .sc (.un .not) [(.t 10)]⟩, ⟨(some 12), none, .pick (.t 8) (.c (.bool true)) (.t 11)⟩]) (.cond (.t 12)
  (.seq (.ops [⟨(some 13), none, .call 15 []⟩, ⟨(some 4), none, .mov (.t 13)⟩]) .ret)
  .skip)) (.seq (.draw [] [⟨⟨(some 14), none, .call 15 []⟩, false, 0, 0⟩, ⟨⟨(some 15), none, .mov (.t 14)⟩, false, 0, 0⟩, ⟨⟨(some 16), (some (15, true)), .mov (.t 0)⟩, false, 0, 0⟩, ⟨⟨(some 17), (some (15, true)), .call 16 [(.t 16)]⟩, false, 0, 0⟩, ⟨⟨(some 18), (some (15, true)), .mov (.t 0)⟩, false, 0, 0⟩, ⟨⟨(some 19), (some (15, true)), .call 17 [(.t 18)]⟩, false, 0, 0⟩, ⟨⟨(some 20), (some (15, true)), .sc (.bin .eql 30) [(.t 17), (.t 19)]⟩, false, 0, 0⟩, ⟨⟨(some 21), none, .pick (.t 15) (.t 20) (.c (.bool false))⟩, false, 0, 0⟩, ⟨⟨(some 22), none, .mov (.t 21)⟩, false, 0, 0⟩, ⟨⟨(some 23), (some (22, true)), .mov (.t 0)⟩, false, 0, 0⟩, ⟨⟨(some 24), (some (22, true)), .ld (.t 3) 2 true⟩, false, 0, 0⟩, ⟨⟨(some 25), (some (22, true)), .call 18 [(.t 23), (.t 24)]⟩, false, 0, 0⟩, ⟨⟨(some 26), (some (22, true)), .mov (.t 0)⟩, false, 0, 0⟩, ⟨⟨(some 27), (some (22, true)), .ld (.t 3) 2 true⟩, false, 0, 0⟩, ⟨⟨(some 28), (some (22, true)), .call 19 [(.t 26), (.t 27)]⟩, false, 0, 0⟩, ⟨⟨(some 29), (some (22, true)), .sc (.bin .eql 30) [(.t 25), (.t 28)]⟩, false, 0, 0⟩, ⟨⟨(some 30), none, .pick (.t 22) (.t 29) (.c (.bool false))⟩, false, 0, 0⟩, ⟨⟨(some 4), none, .mov (.t 30)⟩, false, 0, 0⟩]) .ret)))) := by kernel_rfl
def f3_k16 (x29 : Bool) : Option Bool := some x29
def f3_k5 (n : Nat) (a1 : (List Form)) (a2 : Graph) (x11 : Bool) : Option Bool := (bif x11 then ((f15 40).bind fun r14 => some r14) else ((f15 40).bind fun r17 => (bif r17 then ((f16 n a1).bind fun r20 => ((f17 n a1).bind fun r22 => (bif (r20 == r22) then ((f18 n a1 a2).bind fun r25 => ((f19 n a1 a2).bind fun r27 => (f3_k16 (r25 == r27)))) else (f3_k16 false)))) else (f3_k16 false))))
def f3 (n : Nat) (a1 : (List Form)) (a2 : Graph) : Option Bool := ((f13 n a1).bind fun r6 => (bif (!r6) then (f3_k5 n a1 a2 true) else ((f14 n a2).bind fun r9 => (f3_k5 n a1 a2 (!r9)))))
def f3_r (r : Bool) : AV := (vB r)
theorem p_f3 {n : Nat} {a1 : (List Form)} {a2 : Graph} {r : Bool} (h : f3 n a1 a2 = some r) : PureSpec Try.prog 3 [(vL Form.c a1), (.agg [(vL Node.c a2.fNodes), (vL Val.c a2.fRoots)])] (f3_r r) := by
 rw [f3.eq_1] at h
 refine pure_of hmix ic3 ?_
 refine go_to (mkd (.val undef) 31 0 [(0, (vL Form.c a1)), (1, (.agg [(vL Node.c a2.fNodes), (vL Val.c a2.fRoots)]))]) ?_
 refine s_so fun N3 k3 w3 => ?_
 refine o_h2 [(3, (.ptr 0 0)), (4, (vB false))] [(some (.box 26 [(vL Node.c a2.fNodes), (vL Val.c a2.fRoots)]))] ?_
 refine o_end (k3 _ ?_)
 refine s_seq fun N4 k4 w4 => ?_
 refine J1 (r := r) (fun (x11 : Bool) => ⟨(mkd .any 31 0 [(0, (vL Form.c a1)), (3, (.ptr 0 0)), (12, (vB x11))]), [(some (.box 26 [(vL Node.c a2.fNodes), (vL Val.c a2.fRoots)]))]⟩) (f3_k5 n a1 a2) ?_ ?_
 · intro x11 h
   rw [f3_k5.eq_1] at h
   refine i_c [12] h (fun h => ?_) (fun h => ?_)
   · refine s_so fun N13 k13 w13 => ?_
     refine bnd h fun r14 g15 h => ?_
     refine o_o (one_call (p_f15 g15)) ?_
     refine o_r1 [(4, (vB r14))] ?_
     refine o_end (k13 _ ?_)
     exact c_ret (rets [] [(vB r14)] [(vB r14)] h)
   · refine c_skip (k4 _ ?_)
     refine J1 (r := r) (fun (x29 : Bool) => ⟨(mkd .any 31 0 [(4, (vB x29))]), []⟩) (f3_k16) ?_ ?_
     · intro x29 h
       rw [f3_k16.eq_1] at h
       exact c_ret (rets [] [(vB x29)] [(vB x29)] h)
     · intro N16 w16
       refine c_draw0 ?_
       refine bnd h fun r17 g18 h => ?_
       refine d_o (one_call (p_f15 g18)) ?_
       refine d_r1 [(15, (vB r17))] ?_
       refine i_d [14, 15] h (fun h => ?_) (fun h => ?_)
       · refine d_r1 [(16, (vL Form.c a1))] ?_
         refine bnd h fun r20 g21 h => ?_
         refine d_g (one_call (p_f16 g21)) ?_
         refine d_r1 [(18, (vL Form.c a1))] ?_
         refine bnd h fun r22 g23 h => ?_
         refine d_g (one_call (p_f17 g23)) ?_
         refine d_r3 [(20, (vB (r20 == r22))), (21, (vB (r20 == r22))), (22, (vB (r20 == r22)))] ?_
         refine i_d [20, 21, 22] h (fun h => ?_) (fun h => ?_)
         · refine d_r2 [(23, (vL Form.c a1)), (24, (.agg [(vL Node.c a2.fNodes), (vL Val.c a2.fRoots)]))] ?_
           refine bnd h fun r25 g26 h => ?_
           refine d_g (one_call (p_f18 g26)) ?_
           refine d_r2 [(26, (vL Form.c a1)), (27, (.agg [(vL Node.c a2.fNodes), (vL Val.c a2.fRoots)]))] ?_
           refine t_tm (mkd .any 31 0 [(0, (vL Form.c a1)), (3, (.ptr 0 0)), (12, (vB false)), (14, (vB true)), (15, (vB true)), (16, (vL Form.c a1)), (17, (vI r20)), (18, (vL Form.c a1)), (19, (vI r22)), (20, (vB true)), (21, (vB true)), (22, (vB true)), (23, (vL Form.c a1)), (24, (.agg [(vL Node.c a2.fNodes), (vL Val.c a2.fRoots)])), (25, (vI r25)), (26, (vL Form.c a1)), (27, (.agg [(vL Node.c a2.fNodes), (vL Val.c a2.fRoots)]))]) ?_
           refine bnd h fun r27 g28 h => ?_
           refine d_g (one_call (p_f19 g28)) ?_
           refine d_r3 [(4, (vB (r25 == r27))), (29, (vB (r25 == r27))), (30, (vB (r25 == r27)))] ?_
           exact d_end (w16 _ _ (wkm [4] wh_nil) h)
         · refine d_r9 [(4, (vB false)), (23, (.val undef)), (24, (.val undef)), (25, (.val undef)), (26, (.val undef)), (27, (.val undef)), (28, (.val undef)), (29, (.val undef)), (30, (vB false))] ?_
           exact d_end (w16 _ _ (wkm [4] wh_nil) h)
       · refine d_r16 [(4, (vB false)), (16, (.val undef)), (17, (.val undef)), (18, (.val undef)), (19, (.val undef)), (20, (.val undef)), (21, (vB false)), (22, (vB false)), (23, (.val undef)), (24, (.val undef)), (25, (.val undef)), (26, (.val undef)), (27, (.val undef)), (28, (.val undef)), (29, (.val undef)), (30, (vB false))] ?_
         exact d_end (w16 _ _ (wkm [4] wh_nil) h)
 · intro N5 w5
   refine c_ops ?_
   refine o_r1 [(5, (vL Form.c a1))] ?_
   refine bnd h fun r6 g7 h => ?_
   refine o_o (one_call (p_f13 g7)) ?_
   refine o_r2 [(7, (vB (!r6))), (8, (vB (!r6)))] ?_
   refine i_o [7, 8] h (fun h => ?_) (fun h => ?_)
   · refine o_r4 [(9, (.val undef)), (10, (.val undef)), (11, (.val undef)), (12, (vB true))] ?_
     exact o_end (w5 _ _ (wkm [0, 3, 12] (whk wh_nil)) h)
   · refine o_r1 [(9, (.agg [(vL Node.c a2.fNodes), (vL Val.c a2.fRoots)]))] ?_
     refine bnd h fun r9 g10 h => ?_
     refine o_g ?_
     refine o_o (one_call (p_f14 g10)) ?_
     refine o_r2 [(11, (vB (!r9))), (12, (vB (!r9)))] ?_
     exact o_end (w5 _ _ (wkm [0, 3, 12] (whk wh_nil)) h)
end Go.Proofs
end
section
namespace Go.Vm
theorem wr_id {x : Int} (h1 : -9223372036854775808 ≤ x) (h2 : x < 9223372036854775808) : wr .i64 x = x := by
  unfold wr IntKind.wrap
  simp [IntKind.bits, IntKind.signed]
  omega
theorem gi_nat {α : Type} (l : List α) (k : Nat) : gi l (k : Int) = l[k]? := rfl
section
variable {α σ ρ : Type}
def go0 (B : Int → α → Option ρ → Option ρ) (K : Option ρ) : List α → Nat → Option ρ
  | [], _ => K
  | y :: l, k => B k y (go0 B K l (k + 1))
theorem scan0 (l : List α) (K : Option ρ) (B : Int → α → Option ρ → Option ρ) (L : Nat → Int → Option ρ)
    (hL : ∀ m x, L (m + 1) x = bif decide (x < len l) then (gi l x).bind fun y => B x y (L m (wr .i64 (x + 1))) else K) (hl : l.length < 4611686018427387904) :
    ∀ (d k m : Nat), d + k = l.length → d < m → L m k = go0 B K (l.drop k) k
  | 0, k, m, hk, hm => by
    obtain ⟨m, rfl⟩ := Nat.exists_eq_succ_of_ne_zero (by omega : m ≠ 0)
    have : l.drop k = [] := List.drop_eq_nil_of_le (by omega)
    rw [hL, this]
    have hd : decide ((k : Int) < len l) = false := by simp [len]; omega
    rw [hd]; rfl
  | d + 1, k, m, hk, hm => by
    obtain ⟨m, rfl⟩ := Nat.exists_eq_succ_of_ne_zero (by omega : m ≠ 0)
    have hlt : k < l.length := by omega
    rw [hL]
    have hd : decide ((k : Int) < len l) = true := by simp [len]; omega
    rw [hd, gi_nat, List.getElem?_eq_getElem hlt, List.drop_eq_getElem_cons hlt]
    simp only [cond_true, Option.bind_some, go0]
    rw [wr_id (by omega) (by omega)]
    have := scan0 l K B L hL hl d (k + 1) m (by omega) (by omega)
    push_cast at this
    rw [this]
def ixOf (p : α → Bool) : List α → Nat → Int
  | [], _ => -1
  | y :: l, k => bif p y then (k : Int) else ixOf p l (k + 1)
theorem go0_ix (p : α → Bool) (f : Int → ρ) : ∀ (l : List α) (k : Nat), go0 (fun x y acc => bif p y then some (f x) else acc) (some (f (-1))) l k = some (f (ixOf p l k))
  | [], k => rfl
  | y :: l, k => by
    simp only [go0, ixOf]
    cases p y
    · exact go0_ix p f l (k + 1)
    · rfl
end
end Go.Vm
end
section
namespace Go.Proofs
open Go.Vm
def formIx (l : List Form) (s : ByteArray) : Int := ixOf (fun x => sEqF x.fName s) l 0
def colIx (l : List Col) (s : ByteArray) : Int := ixOf (fun x => sEqF x.fName s) l 0
theorem f55_eq {n : Nat} {l : List Form} {s : ByteArray} (hn : l.length < n) (hl : l.length < 4611686018427387904) : f55 n l s = some (formIx l s) := by
  unfold f55
  have := scan0 l f55_k4 (fun x y acc => bif sEqF y.fName s then some x else acc) (f55_l7 l s f55_k4) (fun m x => rfl) hl l.length 0 n (by omega) hn
  exact this.trans (go0_ix (fun x => sEqF x.fName s) id l 0)
theorem f52_eq {n : Nat} {l : List Form} {s : ByteArray} (hn : l.length < n) (hl : l.length < 4611686018427387904) : f52 n l s = some (formIx l s) := by
  have h : f125 n l s = some (formIx l s) := by
    unfold f125
    have := scan0 l f125_k4 (fun x y acc => bif sEqF y.fName s then some x else acc) (f125_l8 l n s f125_k4) (fun m x => rfl) hl l.length 0 n (by omega) hn
    exact this.trans (go0_ix (fun x => sEqF x.fName s) id l 0)
  unfold f52 f92
  rw [h]; rfl
theorem f57_eq {n : Nat} {f : Form} {s : ByteArray} (hn : f.fCols.length < n) (hl : f.fCols.length < 4611686018427387904) : f57 n f s = some (colIx f.fCols s) := by
  unfold f57
  have := scan0 f.fCols f57_k4 (fun x y acc => bif sEqF y.fName s then some x else acc) (f57_l7 f s f57_k4) (fun m x => rfl) hl f.fCols.length 0 n (by omega) hn
  exact this.trans (go0_ix (fun x => sEqF x.fName s) id f.fCols 0)
theorem f95_eq {n : Nat} {l : List Col} {s : ByteArray} (hn : l.length < n) (hl : l.length < 4611686018427387904) : f95 n l s = some (colIx l s) := by
  have h : f144 n l s = some (colIx l s) := by
    unfold f144
    have := scan0 l f144_k4 (fun x y acc => bif sEqF y.fName s then some x else acc) (f144_l8 l n s f144_k4) (fun m x => rfl) hl l.length 0 n (by omega) hn
    exact this.trans (go0_ix (fun x => sEqF x.fName s) id l 0)
  unfold f95 f127
  rw [h]; rfl
def inR (x lo hi : Int) : Bool := decide (lo ≤ x) && decide (x ≤ hi)
theorem f86_eq (n : Nat) (x lo hi : Int) : f86 n x lo hi = some (inR x lo hi) := by
  unfold f86 inR
  cases decide (lo ≤ x) <;> rfl
theorem f58_eq (n : Nat) (x lo hi : Int) : f58 n x lo hi = some (inR x lo hi) := by
  unfold f58 inR
  show (bif decide (lo ≤ x) then _ else _) = _
  cases decide (lo ≤ x) <;> rfl
theorem f111_eq (n : Nat) (v : Val) (m : Int) : f111 n v m = f99 n v m := by
  unfold f111 f99
  simp only [f86_eq, f58_eq]
end Go.Proofs
end
section
namespace Go.Proofs
open Go.Vm
def okB (c lo hi : Int) : Bool := (decide (lo ≤ c) && decide (c ≤ hi)) || ((decide (48 ≤ c) && decide (c ≤ 57)) || (c == 95))
theorem f123_eq (n : Nat) (r lo hi : Int) : f123 n r lo hi = some (!(okB r (wr .i32 lo) (wr .i32 hi))) := by
  unfold f123 okB
  show (bif decide (wr .i32 lo ≤ r) then (bif decide (r ≤ wr .i32 hi) then _ else (bif decide (48 ≤ r) then (bif decide (r ≤ 57) then _ else _) else _)) else (bif decide (48 ≤ r) then (bif decide (r ≤ 57) then _ else _) else _)) = _
  cases decide (wr .i32 lo ≤ r) <;> cases decide (r ≤ wr .i32 hi) <;> cases decide (48 ≤ r) <;> cases decide (r ≤ 57) <;> rfl
theorem lenS (s : ByteArray) : s.data.toList.length = s.size := Array.length_toList
def allB (s : ByteArray) (lo hi : Int) (pos : Nat) : Bool := (s.data.toList.drop pos).all fun c => okB c.toNat lo hi
theorem scanStr {s : ByteArray} {n : Nat} {lo hi : Int} (hhi : wr .i32 hi < 128) : ∀ (d pos m : Nat), d + pos = s.size → d < m → ∃ r, f143_l9 s n lo hi true (some (-1)) m pos = some r ∧ decide (r < 0) = allB s (wr .i32 lo) (wr .i32 hi) pos
  | 0, pos, m, hd, hm => by
    obtain ⟨m, rfl⟩ := Nat.exists_eq_succ_of_ne_zero (by omega : m ≠ 0)
    refine ⟨-1, ?_, ?_⟩
    · rw [f143_l9.eq_2]
      have : decide (pos < ByteArray.size s) = false := by simp; omega
      rw [this]; rfl
    · have : s.data.toList.drop pos = [] := List.drop_eq_nil_of_le (by rw [lenS]; omega)
      simp [allB, this]
  | d + 1, pos, m, hd, hm => by
    obtain ⟨m, rfl⟩ := Nat.exists_eq_succ_of_ne_zero (by omega : m ≠ 0)
    have hlt : pos < s.size := by omega
    have hlen := lenS s
    have hdrop : s.data.toList.drop pos = s[pos] :: s.data.toList.drop (pos + 1) := by
      rw [List.drop_eq_getElem_cons (by omega)]
      rfl
    rw [f143_l9.eq_2]
    have h1 : decide (pos < ByteArray.size s) = true := by simpa using hlt
    rw [h1]
    simp only [cond_true, f123_eq, Option.bind_some]
    by_cases ha : (s[pos]'hlt).toNat < 128
    · have hdec := decode_ascii s pos hlt ha
      have e1 : dec1 s pos = (s[pos]'hlt).toNat := by simp [dec1, hdec]
      have e2 : dec2 s pos = 1 := by simp [dec2, hdec]
      rw [e1, e2]
      cases hok : okB ((s[pos]'hlt).toNat : Int) (wr .i32 lo) (wr .i32 hi) with
      | true =>
        obtain ⟨r, hr1, hr2⟩ := scanStr (s := s) (n := n) (lo := lo) hhi d (pos + 1) m (by omega) (by omega)
        refine ⟨r, hr1, ?_⟩
        rw [hr2]
        unfold allB
        rw [hdrop, List.all_cons, hok, Bool.true_and]
      | false =>
        refine ⟨(pos : Int), rfl, ?_⟩
        unfold allB
        rw [hdrop, List.all_cons, hok, Bool.false_and]
        simp
    · have hdec := decode_high s pos hlt (by omega)
      have e1 : 128 ≤ dec1 s pos := by have := hdec.1; unfold dec1; omega
      have hok : okB (dec1 s pos) (wr .i32 lo) (wr .i32 hi) = false := by
        unfold okB
        have a1 : decide (dec1 s pos ≤ wr .i32 hi) = false := by simp; omega
        have a2 : decide (dec1 s pos ≤ 57) = false := by simp; omega
        have a3 : (dec1 s pos == 95) = false := by simp; omega
        rw [a1, a2, a3]; simp
      have hok2 : okB ((s[pos]'hlt).toNat : Int) (wr .i32 lo) (wr .i32 hi) = false := by
        unfold okB
        have a1 : decide (((s[pos]'hlt).toNat : Int) ≤ wr .i32 hi) = false := by simp; omega
        have a2 : decide (((s[pos]'hlt).toNat : Int) ≤ 57) = false := by simp; omega
        have a3 : (((s[pos]'hlt).toNat : Int) == 95) = false := by simp; omega
        rw [a1, a2, a3]; simp
      rw [hok]
      refine ⟨(pos : Int), rfl, ?_⟩
      unfold allB
      rw [hdrop, List.all_cons, hok2, Bool.false_and]
      simp
theorem f122_eq {s : ByteArray} {n : Nat} {lo hi : Int} (hhi : wr .i32 hi < 128) (hn : s.size < n) : ∃ r, f122 n s lo hi = some r ∧ decide (r < 0) = allB s (wr .i32 lo) (wr .i32 hi) 0 := by
  obtain ⟨r, h1, h2⟩ := scanStr (s := s) (n := n) (lo := lo) hhi s.size 0 n (by omega) hn
  refine ⟨r, ?_, h2⟩
  unfold f122 f143
  have : f143_l9 s n lo hi true f143_k6 n 0 = some r := h1
  rw [this]; rfl
end Go.Proofs
end
section
namespace Go.Proofs
open Go.Vm
def namedL (lo hi : Int) : List UInt8 → Bool
  | [] => false
  | c :: t => decide (((c :: t).length : Int) ≤ 20) && (decide (lo ≤ (c.toNat : Int)) && (decide ((c.toNat : Int) ≤ hi) && (c :: t).all fun c => okB c.toNat lo hi))
theorem si_zero (s : ByteArray) : si s 0 = (s.data.toList.head?).map fun c => (c.toNat : Int) := by
  show (s[0]?).map _ = _
  congr 1
  obtain ⟨⟨l⟩⟩ := s
  cases l <;> rfl
theorem f90_eq {n : Nat} {s : ByteArray} {lo hi : Int} (hn : s.size < n) (hlo : wr .i32 lo = lo) (hhi : wr .i32 hi = hi) (h7 : hi < 128) : f90 n s lo hi = some (namedL lo hi s.data.toList) := by
  obtain ⟨r, h1, h2⟩ := f122_eq (s := s) (n := n) (lo := lo) (hi := hi) (by rw [hhi]; exact h7) hn
  have hsz := lenS s
  unfold f90
  have e0 : sEqF s (ByteArray.mk #[]) = s.data.toList.isEmpty := by
    unfold sEqF
    cases s.data.toList <;> rfl
  rw [e0, si_zero]
  unfold allB at h2
  rw [hlo, hhi, List.drop_zero] at h2
  have eb : bsz s = (s.data.toList.length : Int) := by unfold bsz; rw [hsz]
  rw [eb]
  cases hl : s.data.toList with
  | nil => simp [namedL, f90_k6]
  | cons c t =>
    rw [hl] at h2
    simp only [List.isEmpty_cons, cond_false, List.head?_cons, Option.map_some, Option.bind_some, f90_k6, h1, cond_true]
    show _ = some (decide (((c :: t).length : Int) ≤ 20) && (decide (lo ≤ (c.toNat : Int)) && (decide ((c.toNat : Int) ≤ hi) && (c :: t).all fun c => okB c.toNat lo hi)))
    rw [← h2]
    by_cases a1 : ((c :: t).length : Int) ≤ 20
    · have b1 : decide (((c :: t).length : Int) > 20) = false := by simp at a1 ⊢; omega
      have b2 : decide (((c :: t).length : Int) ≤ 20) = true := by simpa using a1
      rw [b1, b2]
      by_cases a2 : lo ≤ (c.toNat : Int)
      · have b3 : decide ((c.toNat : Int) < lo) = false := by simp; omega
        rw [b3]
        by_cases a3 : (c.toNat : Int) ≤ hi
        · have b4 : decide ((c.toNat : Int) > hi) = false := by simp; omega
          rw [b4]; simp [a2, a3]
        · have b4 : decide ((c.toNat : Int) > hi) = true := by simp; omega
          rw [b4]; simp [a2, a3]
      · have b3 : decide ((c.toNat : Int) < lo) = true := by simp; omega
        rw [b3]; simp [a2]
    · have b1 : decide (((c :: t).length : Int) > 20) = true := by simp at a1 ⊢; omega
      have b2 : decide (((c :: t).length : Int) ≤ 20) = false := by simpa using a1
      rw [b1, b2]; rfl
end Go.Proofs
end
section
namespace Go.Proofs
open Go.Vm
theorem ixOf_ge {α : Type} (p : α → Bool) : ∀ (l : List α) (k : Nat), decide (ixOf p l k ≥ 0) = l.any p
  | [], k => rfl
  | y :: l, k => by
    unfold ixOf
    rw [List.any_cons]
    cases p y
    · simpa using ixOf_ge p l (k + 1)
    · simp
theorem ixOf_lt {α : Type} (p : α → Bool) (l : List α) (k : Nat) : decide (ixOf p l k < 0) = !l.any p := by
  rw [← ixOf_ge p l k]
  by_cases h : ixOf p l k ≥ 0
  · have : ¬ ixOf p l k < 0 := by omega
    simp [h, this]
  · have : ixOf p l k < 0 := by omega
    simp [h, this]
theorem f91_eq {n : Nat} {l : List ByteArray} {s : ByteArray} (hn : l.length < n) (hl : l.length < 4611686018427387904) : f91 n l s = some (l.any fun x => sEqF s x) := by
  have h : f124 n l s = some (ixOf (fun x => sEqF s x) l 0) := by
    unfold f124
    have := scan0 l f124_k4 (fun x y acc => bif sEqF s y then some x else acc) (f124_l8 l s f124_k4) (fun m x => rfl) hl l.length 0 n (by omega) hn
    exact this.trans (go0_ix (fun x => sEqF s x) id l 0)
  unfold f91
  rw [h]
  show some (decide (ixOf (fun x => sEqF s x) l 0 ≥ 0)) = _
  rw [ixOf_ge]
def classKw : List ByteArray := [(ByteArray.mk #[73, 78, 84, 69, 71, 69, 82]), (ByteArray.mk #[66, 79, 79, 76, 69, 65, 78]), (ByteArray.mk #[65, 78, 89]), (ByteArray.mk #[78, 79, 78, 69])]
def smallKw : List ByteArray := [(ByteArray.mk #[116, 114, 117, 101]), (ByteArray.mk #[102, 97, 108, 115, 101]), (ByteArray.mk #[118, 111, 105, 100]), (ByteArray.mk #[99, 117, 114, 114, 101, 110, 116]), (ByteArray.mk #[114, 101, 115, 117, 108, 116])]
def classB (s : ByteArray) : Bool := namedL 65 90 s.data.toList && !classKw.any fun x => sEqF s x
def smallB (s : ByteArray) : Bool := namedL 97 122 s.data.toList && !smallKw.any fun x => sEqF s x
theorem wr32 {x : Int} (h1 : -2147483648 ≤ x) (h2 : x < 2147483648) : wr .i32 x = x := by
  unfold wr IntKind.wrap
  simp [IntKind.bits, IntKind.signed]
  omega
theorem f51_eq {n : Nat} {s : ByteArray} (hn : s.size < n) (h4 : 10 < n) : f51 n s = some (classB s) := by
  unfold f51 classB
  rw [f90_eq hn (wr32 (by omega) (by omega)) (wr32 (by omega) (by omega)) (by omega)]
  simp only [Option.bind_some]
  cases namedL 65 90 s.data.toList with
  | false => rfl
  | true =>
    rw [f91_eq (by simp; omega) (by simp)]
    rfl
theorem f94_eq {n : Nat} {s : ByteArray} (hn : s.size < n) (h4 : 10 < n) : f94 n s = some (smallB s) := by
  unfold f94 smallB
  rw [f90_eq hn (wr32 (by omega) (by omega)) (wr32 (by omega) (by omega)) (by omega)]
  simp only [Option.bind_some]
  cases namedL 97 122 s.data.toList with
  | false => rfl
  | true =>
    rw [f91_eq (by simp; omega) (by simp)]
    rfl
end Go.Proofs
end
section
namespace Go.Proofs
open Go.Vm
def goN {ρ : Type} (B : Nat → Option ρ → Option ρ) (K : Option ρ) : Nat → Nat → Option ρ
  | 0, _ => K
  | d + 1, k => B k (goN B K d (k + 1))
theorem scanN {ρ : Type} (N : Nat) (K : Option ρ) (B : Nat → Option ρ → Option ρ) (L : Nat → Int → Option ρ) (hL : ∀ m (k : Nat), k < N → L (m + 1) k = B k (L m (wr .i64 (k + 1)))) (hK : ∀ m, L (m + 1) N = K) (hl : N < 4611686018427387904) :
    ∀ (d k m : Nat), d + k = N → d < m → L m k = goN B K d k
  | 0, k, m, hk, hm => by
    obtain ⟨m, rfl⟩ := Nat.exists_eq_succ_of_ne_zero (by omega : m ≠ 0)
    have : k = N := by omega
    subst this
    exact hK m
  | d + 1, k, m, hk, hm => by
    obtain ⟨m, rfl⟩ := Nat.exists_eq_succ_of_ne_zero (by omega : m ≠ 0)
    rw [hL m k (by omega), wr_id (by omega) (by omega)]
    have := scanN N K B L hL hK hl d (k + 1) m (by omega) (by omega)
    push_cast at this
    rw [this]; rfl
theorem si_get (s : ByteArray) (k : Nat) : si s (k : Int) = (s.data.toList[k]?).map fun c => (c.toNat : Int) := by
  show (s[k]?).map _ = _
  congr 1
  obtain ⟨⟨l⟩⟩ := s
  by_cases h : k < l.length
  · rw [List.getElem?_eq_getElem h]
    have h' : k < (ByteArray.mk ⟨l⟩).size := h
    rw [getElem?_pos (ByteArray.mk ⟨l⟩) k h']
    rfl
  · have h9 : l[k]? = none := List.getElem?_eq_none (by omega)
    show _ = l[k]?
    rw [h9]
    have h' : ¬ k < (ByteArray.mk ⟨l⟩).size := h
    rw [getElem?_neg (ByteArray.mk ⟨l⟩) k h']
theorem goN_all {ρ : Type} (l : List UInt8) (p : UInt8 → Bool) (K F : Option ρ) : ∀ (d k : Nat), d + k = l.length → goN (fun k acc => match l[k]? with | some c => bif p c then acc else F | none => none) K d k = bif (l.drop k).all p then K else F
  | 0, k, h => by
    have : l.drop k = [] := List.drop_eq_nil_of_le (by omega)
    rw [this]; rfl
  | d + 1, k, h => by
    have hlt : k < l.length := by omega
    rw [List.drop_eq_getElem_cons hlt, List.all_cons]
    show (match l[k]? with | some c => bif p c then goN _ K d (k + 1) else F | none => none) = _
    rw [List.getElem?_eq_getElem hlt]
    show (bif p l[k] then goN _ K d (k + 1) else F) = _
    rw [goN_all l p K F d (k + 1) (by omega)]
    cases p l[k] <;> rfl
theorem f56_l {s : ByteArray} {K : Option Bool} {n : Nat} (hn : s.size < n) (hl : s.size < 4611686018427387904) : f56_l18 s K n 0 = bif s.data.toList.all (fun c => okB c.toNat 97 122) then K else some false := by
  have hlen := lenS s
  have := scanN s.size K (fun k acc => match s.data.toList[k]? with | some c => bif okB c.toNat 97 122 then acc else some false | none => none) (f56_l18 s K) (fun m k hk => ?_) (fun m => ?_) hl s.size 0 n (by omega) hn
  · have h2 := goN_all s.data.toList (fun c => okB c.toNat 97 122) K (some false) s.size 0 (by omega)
    exact this.trans h2
  · rw [f56_l18.eq_2]
    have h1 : decide ((k : Int) < bsz s) = true := by simp [bsz]; omega
    rw [h1, si_get, List.getElem?_eq_getElem (by omega)]
    simp only [cond_true, Option.map_some, Option.bind_some]
    generalize ((s.data.toList[k]'(by omega)).toNat : Int) = c
    unfold okB f56_k61
    show (bif decide (97 ≤ c) then (bif decide (c ≤ 122) then _ else (bif decide (48 ≤ c) then (bif decide (c ≤ 57) then _ else _) else _)) else (bif decide (48 ≤ c) then (bif decide (c ≤ 57) then _ else _) else _)) = _
    cases decide (97 ≤ c) <;> cases decide (c ≤ 122) <;> cases decide (48 ≤ c) <;> cases decide (c ≤ 57) <;> cases (c == 95) <;> rfl
  · rw [f56_l18.eq_2]
    have h1 : decide ((s.size : Int) < bsz s) = false := by simp [bsz]
    rw [h1]; rfl
end Go.Proofs
end
section
namespace Go.Proofs
open Go.Vm
theorem f56_k15_eq (s : ByteArray) : f56_k15 s = some (!smallKw.any fun x => sEqF s x) := by
  unfold f56_k15 f56_k92 smallKw
  simp only [List.any_cons, List.any_nil]
  cases sEqF s (ByteArray.mk #[116, 114, 117, 101]) <;> cases sEqF s (ByteArray.mk #[102, 97, 108, 115, 101]) <;> cases sEqF s (ByteArray.mk #[118, 111, 105, 100]) <;> cases sEqF s (ByteArray.mk #[99, 117, 114, 114, 101, 110, 116]) <;> cases sEqF s (ByteArray.mk #[114, 101, 115, 117, 108, 116]) <;> rfl
theorem f56_eq {n : Nat} {s : ByteArray} (hn : s.size < n) (hl : s.size < 4611686018427387904) : f56 n s = some (smallB s) := by
  have hsz := lenS s
  have eb : bsz s = (s.data.toList.length : Int) := by unfold bsz; rw [hsz]
  unfold f56
  rw [si_zero, eb]
  simp only [f56_k4, f56_l hn hl, f56_k15_eq, cond_true, cond_false]
  unfold smallB
  cases hd : s.data.toList with
  | nil => rfl
  | cons c t =>
    have b0 : decide (((c :: t).length : Int) < 1) = false := by simp; omega
    rw [b0]
    simp only [cond_false, List.head?_cons, Option.map_some, Option.bind_some]
    show _ = some ((decide (((c :: t).length : Int) ≤ 20) && (decide (97 ≤ (c.toNat : Int)) && (decide ((c.toNat : Int) ≤ 122) && (c :: t).all fun c => okB c.toNat 97 122))) && _)
    generalize ((c :: t).all fun c => okB c.toNat 97 122) = A
    generalize (!smallKw.any fun x => sEqF s x) = W
    by_cases a1 : ((c :: t).length : Int) ≤ 20
    · have b1 : decide (((c :: t).length : Int) > 20) = false := by simp at a1 ⊢; omega
      have b2 : decide (((c :: t).length : Int) ≤ 20) = true := by simpa using a1
      rw [b1, b2]
      by_cases a2 : 97 ≤ (c.toNat : Int)
      · have b3 : decide ((c.toNat : Int) < 97) = false := by simp; omega
        have b5 : decide (97 ≤ (c.toNat : Int)) = true := by simpa using a2
        rw [b3, b5]
        by_cases a3 : (c.toNat : Int) ≤ 122
        · have b4 : decide ((c.toNat : Int) > 122) = false := by simp; omega
          have b6 : decide ((c.toNat : Int) ≤ 122) = true := by simpa using a3
          rw [b4, b6]; cases A <;> cases W <;> rfl
        · have b4 : decide ((c.toNat : Int) > 122) = true := by simp; omega
          have b6 : decide ((c.toNat : Int) ≤ 122) = false := by simpa using a3
          rw [b4, b6]; cases A <;> cases W <;> rfl
      · have b3 : decide ((c.toNat : Int) < 97) = true := by simp; omega
        have b5 : decide (97 ≤ (c.toNat : Int)) = false := by simpa using a2
        rw [b3, b5]; rfl
    · have b1 : decide (((c :: t).length : Int) > 20) = true := by simp at a1 ⊢; omega
      have b2 : decide (((c :: t).length : Int) ≤ 20) = false := by simpa using a1
      rw [b1, b2]; rfl
end Go.Proofs
end
section
namespace Go.Proofs
open Go.Vm
theorem go0_any {α : Type} (p : α → Bool) : ∀ (l : List α) (k : Nat), go0 (fun _ y acc => bif p y then some true else acc) (some false) l k = some (l.any p)
  | [], k => rfl
  | y :: l, k => by
    simp only [go0, List.any_cons]
    cases p y
    · exact go0_any p l (k + 1)
    · rfl
theorem f129_eq {n : Nat} {l : List ByteArray} {s : ByteArray} (hn : l.length < n) (hl : l.length < 4611686018427387904) : f129 n l s = some (l.any fun x => sEqF x s) := by
  unfold f129
  have := scan0 l f129_k4 (fun x y acc => bif sEqF y s then some true else acc) (f129_l7 l s f129_k4) (fun m x => rfl) hl l.length 0 n (by omega) hn
  exact this.trans (go0_any (fun x => sEqF x s) l 0)
theorem f148_eq (n : Nat) (c : Int) : f148 n c = some (decide (97 ≤ c) && decide (c ≤ 122)) := by
  unfold f148
  show (bif decide (97 ≤ c) then _ else _) = _
  cases decide (97 ≤ c) <;> rfl
theorem f149_eq (n : Nat) (c : Int) : f149 n c = some (decide (65 ≤ c) && decide (c ≤ 90)) := by
  unfold f149
  show (bif decide (65 ≤ c) then _ else _) = _
  cases decide (65 ≤ c) <;> rfl
theorem f132_eq (n : Nat) (c : Int) : f132 n c = some (decide (48 ≤ c) && decide (c ≤ 57)) := by
  unfold f132
  show (bif decide (48 ≤ c) then _ else _) = _
  cases decide (48 ≤ c) <;> rfl
def smallC (c : Int) : Bool := decide (97 ≤ c) && decide (c ≤ 122)
def capC (c : Int) : Bool := decide (65 ≤ c) && decide (c ≤ 90)
def digC (c : Int) : Bool := decide (48 ≤ c) && decide (c ≤ 57)
def partC (c : Int) : Bool := smallC c || (capC c || (digC c || (c == 95)))
theorem f146_eq (n : Nat) (c : Int) : f146 n c = some (partC c) := by
  unfold f146
  rw [f148_eq, f149_eq, f132_eq]
  show (bif smallC c then _ else (Option.bind (some (capC c)) _)) = some (smallC c || (capC c || (digC c || (c == 95))))
  cases smallC c
  · show (bif capC c then _ else (Option.bind (some (digC c)) _)) = _
    cases capC c
    · show (bif digC c then _ else _) = _
      cases digC c <;> rfl
    · rfl
  · rfl
theorem okB_cap (c : Int) : okB c 65 90 = (capC c || (digC c || (c == 95))) := rfl
theorem partC_ok (c : Int) (h : smallC c = false) : partC c = okB c 65 90 := by unfold partC; rw [h, okB_cap]; rfl
theorem okB_part (c : Int) (h : okB c 65 90 = true) : partC c = true ∧ smallC c = false := by
  rw [okB_cap] at h
  refine ⟨by unfold partC; rw [h, Bool.or_true], ?_⟩
  unfold smallC
  unfold capC digC at h
  simp only [Bool.or_eq_true, Bool.and_eq_true, decide_eq_true_eq, beq_iff_eq] at h
  simp only [Bool.and_eq_false_iff, decide_eq_false_iff_not]
  omega
end Go.Proofs
end
section
namespace Go.Proofs
open Go.Vm
theorem goN_run (l : List UInt8) (p : UInt8 → Bool) : ∀ (d k : Nat), d + k = l.length → ∃ r : Int, goN (fun k acc => match l[k]? with | some c => bif p c then acc else some (k : Int) | none => none) (some (l.length : Int)) d k = some r ∧ decide (r < (l.length : Int)) = !(l.drop k).all p
  | 0, k, h => by
    have h0 : l.drop k = [] := List.drop_eq_nil_of_le (by omega)
    exact ⟨(l.length : Int), rfl, by rw [h0]; simp⟩
  | d + 1, k, h => by
    have hlt : k < l.length := by omega
    rw [List.drop_eq_getElem_cons hlt, List.all_cons]
    show ∃ r : Int, (match l[k]? with | some c => bif p c then goN _ _ d (k + 1) else some (k : Int) | none => none) = some r ∧ _
    rw [List.getElem?_eq_getElem hlt]
    show ∃ r : Int, (bif p l[k] then goN _ _ d (k + 1) else some (k : Int)) = some r ∧ _
    cases p l[k] with
    | true =>
      obtain ⟨r, h1, h2⟩ := goN_run l p d (k + 1) (by omega)
      exact ⟨r, h1, by rw [h2, Bool.true_and]⟩
    | false => exact ⟨k, rfl, by simp; omega⟩
theorem f131_eq {n : Nat} {s : ByteArray} (hn : s.size < n) (hl : s.size < 4611686018427387904) : ∃ r, f131 n s 0 = some r ∧ decide (r < bsz s) = !s.data.toList.all fun c => partC c.toNat := by
  have hlen := lenS s
  obtain ⟨r, h1, h2⟩ := goN_run s.data.toList (fun c => partC c.toNat) s.size 0 (by omega)
  refine ⟨r, ?_, ?_⟩
  · unfold f131
    refine Eq.trans (scanN s.size (some (s.data.toList.length : Int)) (fun k acc => match s.data.toList[k]? with | some c => bif partC c.toNat then acc else some (k : Int) | none => none) (f131_l7 0 s n f131_k5) (fun m k hk => ?_) (fun m => ?_) hl s.size 0 n (by omega) hn) h1
    · rw [f131_l7.eq_2]
      have e0 : wr .i64 (0 + (k : Int)) = k := by rw [wr_id (by omega) (by omega)]; omega
      have h1 : decide ((k : Int) < bsz s) = true := by simp [bsz]; omega
      rw [e0, h1, si_get, List.getElem?_eq_getElem (by omega)]
      simp only [cond_true, Option.map_some, Option.bind_some, f146_eq, f131_k20, f131_k5]
    · rw [f131_l7.eq_2]
      have e0 : wr .i64 (0 + (s.size : Int)) = s.size := by rw [wr_id (by omega) (by omega)]; omega
      have h1 : decide ((s.size : Int) < bsz s) = false := by simp [bsz]
      rw [e0, h1]
      show some (s.size : Int) = _
      rw [hlen]
  · rw [List.drop_zero] at h2
    rw [← h2]
    unfold bsz
    rw [hlen]
end Go.Proofs
end
section
namespace Go.Proofs
open Go.Vm
theorem scanTot {σ ρ : Type} (N : Nat) (L : Nat → σ → Int → Option ρ) (hL : ∀ m (k : Nat) v, k < N → (∃ r, L (m + 1) v k = some r) ∨ ∃ v', L (m + 1) v k = L m v' ((k + 1 : Nat) : Int)) (hK : ∀ m v, ∃ r, L (m + 1) v N = some r) :
    ∀ (d k m : Nat) (v : σ), d + k = N → d < m → ∃ r, L m v k = some r
  | 0, k, m, v, hk, hm => by
    obtain ⟨m, rfl⟩ := Nat.exists_eq_succ_of_ne_zero (by omega : m ≠ 0)
    have : k = N := by omega
    subst this
    exact hK m v
  | d + 1, k, m, v, hk, hm => by
    obtain ⟨m, rfl⟩ := Nat.exists_eq_succ_of_ne_zero (by omega : m ≠ 0)
    rcases hL m k v (by omega) with h | ⟨v', h⟩
    · exact h
    · rw [h]; exact scanTot N L hL hK d (k + 1) m v' (by omega) (by omega)
theorem f133_tot {n : Nat} {s : ByteArray} (h0 : 0 < s.size) (hn : s.size < n) (hl : s.size < 4611686018427387904) : ∃ r, f133 n s = some r := by
  have hlen := lenS s
  have two : ∀ x : Int, ∃ r, f133_l44 s f133_k41 n x 0 = some r := fun x => by
    refine scanTot s.size (fun m (v : Int) k => f133_l44 s f133_k41 m v k) (fun m k v hk => ?_) (fun m v => ?_) s.size 0 n x (by omega) hn
    · show (∃ r, f133_l44 s f133_k41 (m + 1) v k = some r) ∨ ∃ v', f133_l44 s f133_k41 (m + 1) v k = f133_l44 s f133_k41 m v' ((k + 1 : Nat) : Int)
      rw [f133_l44.eq_2]
      have h1 : decide ((k : Int) < bsz s) = true := by simp [bsz]; omega
      rw [h1, si_get, List.getElem?_eq_getElem (by omega)]
      simp only [cond_true, Option.map_some, Option.bind_some]
      have e0 : wr .i64 ((k : Int) + 1) = ((k + 1 : Nat) : Int) := by rw [wr_id (by omega) (by omega)]; omega
      rw [e0]
      generalize wr .i64 (wr .i64 (wr .i64 (10 * v) + _) - 48) = q
      cases decide (q > 1099511627776)
      · exact .inr ⟨q, rfl⟩
      · exact .inl ⟨_, rfl⟩
    · show ∃ r, f133_l44 s f133_k41 (m + 1) v (s.size : Int) = some r
      rw [f133_l44.eq_2]
      have h1 : decide ((s.size : Int) < bsz s) = false := by simp [bsz]
      rw [h1]; exact ⟨_, rfl⟩
  have k3 : ∃ r, f133_k3 s n = some r := by
    unfold f133_k3
    have e := si_get s 0
    rw [List.getElem?_eq_getElem (by omega)] at e
    have e2 : si s 0 = some ((s.data.toList[0]'(by omega)).toNat : Int) := e
    rw [e2]
    simp only [Option.bind_some, f133_k33]
    obtain ⟨r, hr⟩ := two 0
    rw [hr]
    cases ((s.data.toList[0]'(by omega)).toNat : Int) == 48 <;> cases decide (bsz s > 1) <;> exact ⟨_, rfl⟩
  unfold f133
  obtain ⟨r3, h3⟩ := k3
  rw [h3]
  refine scanTot s.size (fun m (_ : Unit) k => f133_l6 s n (some r3) m k) (fun m k v hk => ?_) (fun m v => ?_) s.size 0 n () (by omega) hn
  · show (∃ r, f133_l6 s n (some r3) (m + 1) k = some r) ∨ ∃ v' : Unit, f133_l6 s n (some r3) (m + 1) k = f133_l6 s n (some r3) m ((k + 1 : Nat) : Int)
    rw [f133_l6.eq_2]
    have h1 : decide ((k : Int) < bsz s) = true := by simp [bsz]; omega
    rw [h1, si_get, List.getElem?_eq_getElem (by omega)]
    simp only [cond_true, Option.map_some, Option.bind_some, f132_eq]
    have e0 : wr .i64 ((k : Int) + 1) = ((k + 1 : Nat) : Int) := by rw [wr_id (by omega) (by omega)]; omega
    rw [e0]
    generalize ((s.data.toList[k]'(by omega)).toNat : Int) = c
    cases (decide (48 ≤ c) && decide (c ≤ 57))
    · exact .inl ⟨_, rfl⟩
    · exact .inr ⟨(), rfl⟩
  · show ∃ r, f133_l6 s n (some r3) (m + 1) (s.size : Int) = some r
    rw [f133_l6.eq_2]
    have h1 : decide ((s.size : Int) < bsz s) = false := by simp [bsz]
    rw [h1]; exact ⟨_, rfl⟩
end Go.Proofs
end
section
namespace Go.Proofs
open Go.Vm
theorem f134_l {s : ByteArray} {n : Nat} {K : Bool → Bool → Option KE} (hl : s.size < 4611686018427387904) : ∀ (d k m : Nat) (lo hi : Bool), d + k = s.size → d < m →
    f134_l26 s n K m lo hi k = K (lo || (s.data.toList.drop k).any fun c => smallC c.toNat) (hi || (s.data.toList.drop k).any fun c => capC c.toNat)
  | 0, k, m, lo, hi, hk, hm => by
    obtain ⟨m, rfl⟩ := Nat.exists_eq_succ_of_ne_zero (by omega : m ≠ 0)
    have hlen := lenS s
    have h0 : s.data.toList.drop k = [] := List.drop_eq_nil_of_le (by omega)
    have h1 : decide ((k : Int) < bsz s) = false := by simp [bsz]; omega
    rw [f134_l26.eq_2, h1, h0]
    simp
  | d + 1, k, m, lo, hi, hk, hm => by
    obtain ⟨m, rfl⟩ := Nat.exists_eq_succ_of_ne_zero (by omega : m ≠ 0)
    have hlen := lenS s
    have hlt : k < s.data.toList.length := by omega
    have h1 : decide ((k : Int) < bsz s) = true := by simp [bsz]; omega
    have e0 : wr .i64 ((k : Int) + 1) = ((k + 1 : Nat) : Int) := by rw [wr_id (by omega) (by omega)]; omega
    have ih := fun lo hi => f134_l (n := n) (K := K) hl d (k + 1) m lo hi (by omega) (by omega)
    have es : si s (k : Int) = some ((s.data.toList[k]).toNat : Int) := by rw [si_get, List.getElem?_eq_getElem hlt]; rfl
    rw [f134_l26.eq_2, h1, List.drop_eq_getElem_cons hlt, List.any_cons, List.any_cons]
    simp only [cond_true, es, Option.bind_some, f148_eq, f149_eq, f134_k49, f134_k47, e0, ih]
    show (bif lo then (bif hi then _ else _) else (bif hi then _ else _)) = _
    cases lo <;> cases hi <;> simp [smallC, capC]
end Go.Proofs
end
section
namespace Go.Proofs
open Go.Vm
def kwL : List ByteArray := (f147 0).getD []
def signL : List ByteArray := (f130 0).getD []
def trueL : List ByteArray := [(ByteArray.mk #[84, 114, 117, 101]), (ByteArray.mk #[70, 97, 108, 115, 101]), (ByteArray.mk #[86, 111, 105, 100]), (ByteArray.mk #[67, 117, 114, 114, 101, 110, 116]), (ByteArray.mk #[82, 101, 115, 117, 108, 116])]
def hasB (l : List ByteArray) (s : ByteArray) : Bool := l.any fun x => sEqF x s
def wordR (s : ByteArray) : KE :=
  bif hasB kwL s then KE.mk 3 0 else bif hasB trueL s then KE.mk 3 0 else bif hasB smallKw s then KE.mk 0 4 else
  bif (s.data.toList.any fun c => smallC c.toNat) && (s.data.toList.any fun c => capC c.toNat) then KE.mk 0 2 else bif decide (bsz s > 20) then KE.mk 0 3 else bif s.data.toList.any fun c => smallC c.toNat then KE.mk 1 0 else KE.mk 2 0
theorem f134_eq {n : Nat} {s : ByteArray} (hn : s.size < n) (h9 : 100 < n) (hl : s.size < 4611686018427387904) : f134 n s = some (wordR s) := by
  have hK : f129 n kwL s = some (hasB kwL s) := f129_eq (by have : kwL.length < 50 := by decide
                                                            omega) (by decide)
  have hT : f129 n trueL s = some (hasB trueL s) := f129_eq (by have : trueL.length < 50 := by decide
                                                                omega) (by decide)
  have hS : f129 n smallKw s = some (hasB smallKw s) := f129_eq (by have : smallKw.length < 50 := by decide
                                                                    omega) (by decide)
  have key : f134 n s = (f129 n kwL s).bind fun r7 => (bif r7 then f134_k4 n s true else (f129 n trueL s).bind fun r10 => f134_k4 n s r10) := rfl
  have k4 : ∀ x, f134_k4 n s x = (bif x then some (KE.mk 3 0) else (f129 n smallKw s).bind fun r17 => (bif r17 then some (KE.mk 0 4) else f134_l26 s n (f134_k23 s) n false false 0)) := fun x => rfl
  have hw := f134_l (s := s) (n := n) (K := f134_k23 s) hl s.size 0 n false false (by omega) hn
  have hw2 : f134_l26 s n (f134_k23 s) n false false 0 = _ := hw
  rw [key, hK, Option.bind_some, hT, Option.bind_some]
  simp only [k4, hS, Option.bind_some, hw2, List.drop_zero, Bool.false_or, f134_k23, f134_k66]
  unfold wordR
  cases hasB kwL s <;> cases hasB trueL s <;> cases hasB smallKw s <;> cases (s.data.toList.any fun c => smallC c.toNat) <;> cases (s.data.toList.any fun c => capC c.toNat) <;> cases decide (bsz s > 20) <;> rfl
end Go.Proofs
end
section
namespace Go.Proofs
open Go.Vm
def isClassKE (r : KE) : Bool := (r.fE == 0) && (r.fK == 2)
theorem sEqF_list {a b : ByteArray} (h : sEqF a b = true) : a.data.toList = b.data.toList := by
  unfold sEqF at h
  exact eq_of_beq h
theorem hasB_false {l : List ByteArray} {s : ByteArray} (hl : (l.all fun x => !namedL 65 90 x.data.toList) = true) (h : namedL 65 90 s.data.toList = true) : hasB l s = false := by
  unfold hasB
  rw [List.any_eq_false]
  intro x hx he
  have h1 := List.all_eq_true.1 hl x hx
  rw [sEqF_list he, h] at h1
  cases h1
theorem wordR_class {s : ByteArray} (hs : 0 < s.data.toList.length) : isClassKE (wordR s) = ((!hasB kwL s && !hasB trueL s && !hasB smallKw s) && (!(s.data.toList.any fun c => smallC c.toNat) && !decide (bsz s > 20))) := by
  unfold wordR
  cases hasB kwL s <;> cases hasB trueL s <;> cases hasB smallKw s <;> cases (s.data.toList.any fun c => smallC c.toNat) <;> cases (s.data.toList.any fun c => capC c.toNat) <;> cases decide (bsz s > 20) <;> rfl
theorem f96_class {n : Nat} {s : ByteArray} (hn : s.size < n) (h9 : 100 < n) (hl : s.size < 4611686018427387904) : ∃ r, f96 n s = some r ∧ isClassKE r = namedL 65 90 s.data.toList := by
  have hlen := lenS s
  have eb : bsz s = (s.data.toList.length : Int) := by unfold bsz; rw [hlen]
  have hSg : f129 n signL s = some (hasB signL s) := f129_eq (by have : signL.length < 50 := by decide
                                                                 omega) (by decide)
  have key : f96 n s = (f129 n signL s).bind fun r7 => (bif r7 then some (KE.mk 5 0) else (bif (bsz s == 0) then f96_k12 s n true else ((f131 n s 0).bind fun r14 => (bif decide (r14 < bsz s) then f96_k12 s n true else ((si s 0).bind fun c17 => f96_k12 s n (c17 == 95)))))) := rfl
  obtain ⟨rr, hr1, hr2⟩ := f131_eq hn hl
  rw [key, hSg, Option.bind_some, hr1]
  cases hd : s.data.toList with
  | nil =>
    have e0 : (bsz s == 0) = true := by rw [eb, hd]; rfl
    rw [e0]
    cases hasB signL s
    · exact ⟨_, rfl, rfl⟩
    · exact ⟨_, rfl, rfl⟩
  | cons c t =>
    have hpos : 0 < s.size := by rw [← hlen, hd]; simp
    have e0 : (bsz s == 0) = false := by rw [eb, hd]; simp; omega
    have es : si s 0 = some (c.toNat : Int) := by rw [si_zero, hd]; rfl
    rw [e0]
    simp only [cond_false, Option.bind_some, hr2, es, hd]
    obtain ⟨rn, hrn⟩ := f133_tot (n := n) hpos hn hl
    have hw := f134_eq hn h9 hl
    have kT : f96_k12 s n true = some (KE.mk 0 2) := rfl
    have kF : f96_k12 s n false = bif digC (c.toNat : Int) then (bif (rn.fE != 0) then some (KE.mk 0 rn.fE) else some (KE.mk 4 0)) else some (wordR s) := by
      unfold f96_k12
      rw [es, hrn, hw]
      simp only [cond_false, Option.bind_some, f132_eq]
      rfl
    cases hN : namedL 65 90 (c :: t) with
    | true =>
      have hN' : namedL 65 90 s.data.toList = true := by rw [hd]; exact hN
      have h1 := hasB_false (l := signL) (by decide) hN'
      have h2 := hasB_false (l := kwL) (by decide) hN'
      have h3 := hasB_false (l := trueL) (by decide) hN'
      have h4 := hasB_false (l := smallKw) (by decide) hN'
      unfold namedL at hN
      simp only [Bool.and_eq_true, decide_eq_true_eq] at hN
      obtain ⟨n1, n2, n3, n4⟩ := hN
      have hall : ((c :: t).all fun c => partC c.toNat) = true := List.all_eq_true.2 fun x hx => (okB_part _ (List.all_eq_true.1 n4 x hx)).1
      have hsm : ((c :: t).any fun c => smallC c.toNat) = false := List.any_eq_false.2 fun x hx h => by
        have := (okB_part _ (List.all_eq_true.1 n4 x hx)).2
        rw [this] at h; cases h
      have h95 : ((c.toNat : Int) == 95) = false := by simp; omega
      have hdg : digC (c.toNat : Int) = false := by unfold digC; simp; omega
      rw [h1, hall, h95, kF, hdg]
      refine ⟨wordR s, rfl, ?_⟩
      rw [wordR_class (by rw [hd]; simp), h2, h3, h4, hd, hsm, eb, hd]
      have : decide (((c :: t).length : Int) > 20) = false := by simp at n1 ⊢; omega
      rw [this]; rfl
    | false =>
      cases hsg : hasB signL s with
      | true => exact ⟨_, rfl, rfl⟩
      | false =>
        cases hall : ((c :: t).all fun c => partC c.toNat) with
        | false => exact ⟨_, rfl, rfl⟩
        | true =>
          cases h95 : ((c.toNat : Int) == 95) with
          | true => exact ⟨_, rfl, rfl⟩
          | false =>
            rw [kF]
            cases hdg : digC (c.toNat : Int) with
            | true => cases (rn.fE != 0) <;> exact ⟨_, rfl, by first | rfl | simp [isClassKE]⟩
            | false =>
              refine ⟨wordR s, rfl, ?_⟩
              cases hc : isClassKE (wordR s) with
              | false => rfl
              | true =>
                exfalso
                rw [wordR_class (by rw [hd]; simp), hd, eb, hd] at hc
                simp only [Bool.and_eq_true, Bool.not_eq_true', decide_eq_false_iff_not] at hc
                obtain ⟨_, hsm, h20⟩ := hc
                have hok : ((c :: t).all fun c => okB c.toNat 65 90) = true := List.all_eq_true.2 fun x hx => by
                  have p1 := List.all_eq_true.1 hall x hx
                  have p2 : smallC x.toNat = false := by
                    have := List.any_eq_false.1 hsm x hx
                    simpa using this
                  rw [← partC_ok _ p2]; exact p1
                have hc1 := List.all_eq_true.1 hok c (by simp)
                rw [okB_cap, hdg, h95] at hc1
                simp only [Bool.or_false] at hc1
                unfold capC at hc1
                simp only [Bool.and_eq_true, decide_eq_true_eq] at hc1
                have : namedL 65 90 (c :: t) = true := by
                  unfold namedL
                  simp only [Bool.and_eq_true, decide_eq_true_eq]
                  exact ⟨by omega, hc1.1, hc1.2, hok⟩
                rw [this] at hN; cases hN
end Go.Proofs
end
section
namespace Go.Proofs
open Go.Vm
theorem f54_eq {n : Nat} {s : ByteArray} (hn : s.size < n) (h9 : 100 < n) (hl : s.size < 4611686018427387904) : f54 n s = some (classB s) := by
  obtain ⟨r, h1, h2⟩ := f96_class hn h9 hl
  unfold f54 classB
  rw [h1, Option.bind_some, ← h2]
  unfold isClassKE f54_k6 classKw
  simp only [List.any_cons, List.any_nil]
  have comm : ∀ a b : ByteArray, sEqF a b = sEqF b a := fun a b => by unfold sEqF; exact Bool.beq_comm
  cases (r.fE == 0) <;> cases (r.fK == 2) <;> cases sEqF s (ByteArray.mk #[73, 78, 84, 69, 71, 69, 82]) <;> cases sEqF s (ByteArray.mk #[66, 79, 79, 76, 69, 65, 78]) <;> cases sEqF s (ByteArray.mk #[65, 78, 89]) <;> cases sEqF s (ByteArray.mk #[78, 79, 78, 69]) <;> rfl
end Go.Proofs
end
section
namespace Go.Proofs
open Go.Vm
def colE (pre : List Col) (c : Col) : Int :=
  bif !smallB c.fName then 4 else bif decide (colIx pre c.fName ≥ 0) then 6 else bif !(inR c.fKind 1 3) || (c.fKind != 3 && !(sEqF c.fClass (ByteArray.mk #[]))) then 1 else 0
def colsB (l : List Col) (k : Nat) (acc : Option Int) : Option Int := match l[k]? with
  | some c => bif colE (l.take k) c == 0 then acc else some (colE (l.take k) c)
  | none => none
theorem sli_take {α : Type} (l : List α) (k : Nat) (h : k ≤ l.length) : sli l 0 (k : Int) = some (l.take k) := by
  unfold sli
  have h1 : decide ((0 : Int) ≤ 0) = true := rfl
  have h2 : decide ((0 : Int) ≤ (k : Int)) = true := by simp
  have h3 : decide ((k : Int) ≤ (l.length : Int)) = true := by simpa using h
  rw [h1, h2, h3]
  simp
theorem f53_l {l : List Col} {K : Option Int} {n : Nat} (hs : ∀ c ∈ l, c.fName.size < n) (h9 : 100 < n) (hn : l.length < n) (hl : l.length < 4611686018427387904) : f53_l12 l n K n 0 = goN (colsB l) K l.length 0 := by
  refine scanN l.length K (colsB l) (f53_l12 l n K) (fun m k hk => ?_) (fun m => ?_) hl l.length 0 n (by omega) hn
  · rw [f53_l12.eq_2]
    have h1 : decide ((k : Int) < len l) = true := by simp [len]; omega
    rw [h1, gi_nat, List.getElem?_eq_getElem hk]
    simp only [cond_true, Option.bind_some]
    rw [f94_eq (hs _ (List.getElem_mem hk)) (by omega), sli_take l k (by omega)]
    simp only [Option.bind_some]
    rw [f95_eq (by rw [List.length_take]; omega) (by rw [List.length_take]; omega), f86_eq]
    simp only [Option.bind_some, f53_k67]
    unfold colsB
    rw [List.getElem?_eq_getElem hk]
    show _ = bif colE (l.take k) l[k] == 0 then _ else some (colE (l.take k) l[k])
    unfold colE
    cases smallB l[k].fName <;> cases decide (colIx (l.take k) l[k].fName ≥ 0) <;> cases inR l[k].fKind 1 3 <;> cases (l[k].fKind != 3) <;> cases sEqF l[k].fClass (ByteArray.mk #[]) <;> rfl
  · rw [f53_l12.eq_2]
    have h1 : decide ((l.length : Int) < len l) = false := by simp [len]
    rw [h1]; rfl
end Go.Proofs
end
section
namespace Go.Proofs
open Go.Vm
theorem ixOf_app {α : Type} (p : α → Bool) : ∀ (a b : List α) (j : Nat), ixOf p (a ++ b) j = bif a.any p then ixOf p a j else ixOf p b (j + a.length)
  | [], b, j => by simp
  | y :: a, b, j => by
    rw [List.cons_append, List.any_cons]
    unfold ixOf
    cases p y
    · rw [cond_false, ixOf_app p a b (j + 1), Bool.false_or, List.length_cons, cond_false]
      rw [show j + 1 + a.length = j + (a.length + 1) by omega]
      cases b <;> rfl
    · rfl
theorem ixOf_bound {α : Type} (p : α → Bool) : ∀ (a : List α) (j : Nat), a.any p = true → (j : Int) ≤ ixOf p a j ∧ ixOf p a j < (j : Int) + a.length
  | [], j, h => by simp at h
  | y :: a, j, h => by
    rw [List.any_cons] at h
    unfold ixOf
    cases hp : p y
    · rw [hp, Bool.false_or] at h
      have := ixOf_bound p a (j + 1) h
      rw [cond_false, List.length_cons]
      push_cast at this ⊢
      omega
    · rw [cond_true, List.length_cons]
      push_cast
      omega
theorem ahead {α : Type} (p : α → Bool) (l : List α) (k : Nat) (hk : k < l.length) (hp : p l[k] = true) : decide (ixOf p l 0 < (k : Int)) = decide (ixOf p (l.take k) 0 ≥ 0) := by
  rw [ixOf_ge]
  have h1 := ixOf_app p (l.take k) (l.drop k) 0
  rw [List.take_append_drop] at h1
  rw [h1]
  cases ha : (l.take k).any p
  · rw [cond_false, List.drop_eq_getElem_cons hk]
    have : ixOf p (l[k] :: l.drop (k + 1)) (0 + (l.take k).length) = ((0 + (l.take k).length : Nat) : Int) := by
      unfold ixOf; rw [hp]; rfl
    rw [this, List.length_take]
    simp; omega
  · have := ixOf_bound p (l.take k) 0 ha
    rw [cond_true]
    rw [List.length_take] at this
    simp; omega
theorem sEqF_refl (a : ByteArray) : sEqF a a = true := by unfold sEqF; simp
end Go.Proofs
end
section
namespace Go.Proofs
open Go.Vm
theorem f17_cols {L : List Form} {x : Int} {f : Form} {K : Option Int} {n : Nat} (hg : gi L x = some f) (hs : ∀ c ∈ f.fCols, c.fName.size < n) (hs2 : ∀ c ∈ f.fCols, c.fName.size < 4611686018427387904) (hn : f.fCols.length < n) (hl : f.fCols.length < 4611686018427387904) :
    f17_l153 L x n K n 0 = goN (colsB f.fCols) K f.fCols.length 0 := by
  refine scanN f.fCols.length K (colsB f.fCols) (f17_l153 L x n K) (fun m k hk => ?_) (fun m => ?_) hl f.fCols.length 0 n (by omega) hn
  · rw [f17_l153.eq_2, hg]
    have h1 : decide ((k : Int) < len f.fCols) = true := by simp [len]; omega
    simp only [Option.bind_some, h1, cond_true, gi_nat, List.getElem?_eq_getElem hk]
    rw [f56_eq (hs _ (List.getElem_mem hk)) (hs2 _ (List.getElem_mem hk)), f57_eq hn hl, f58_eq]
    simp only [Option.bind_some, f17_k220]
    unfold colsB
    rw [List.getElem?_eq_getElem hk]
    show _ = bif colE (f.fCols.take k) f.fCols[k] == 0 then _ else some (colE (f.fCols.take k) f.fCols[k])
    unfold colE colIx
    rw [ahead (fun y => sEqF y.fName f.fCols[k].fName) f.fCols k hk (sEqF_refl _)]
    cases smallB f.fCols[k].fName <;> cases decide (ixOf (fun y => sEqF y.fName f.fCols[k].fName) (f.fCols.take k) 0 ≥ 0) <;> cases inR f.fCols[k].fKind 1 3 <;> cases (f.fCols[k].fKind != 3) <;> cases sEqF f.fCols[k].fClass (ByteArray.mk #[]) <;> rfl
  · rw [f17_l153.eq_2, hg]
    have h1 : decide ((f.fCols.length : Int) < len f.fCols) = false := by simp [len]
    simp only [Option.bind_some, h1, cond_false]
end Go.Proofs
end
section
namespace Go.Proofs
open Go.Vm
theorem goN_cols (l : List Col) (K : Option Int) : ∀ (d k : Nat), d + k = l.length → ∃ e, goN (colsB l) (some 0) d k = some e ∧ goN (colsB l) K d k = bif e == 0 then K else some e
  | 0, k, h => ⟨0, rfl, rfl⟩
  | d + 1, k, h => by
    have hk : k < l.length := by omega
    obtain ⟨e, h1, h2⟩ := goN_cols l K d (k + 1) (by omega)
    have st : ∀ K', goN (colsB l) K' (d + 1) k = bif colE (l.take k) l[k] == 0 then goN (colsB l) K' d (k + 1) else some (colE (l.take k) l[k]) := fun K' => by
      show colsB l k _ = _
      unfold colsB
      rw [List.getElem?_eq_getElem hk]
    rw [st, st]
    cases hc : colE (l.take k) l[k] == 0
    · exact ⟨_, rfl, by rw [hc]; rfl⟩
    · exact ⟨e, h1, h2⟩
theorem f49_three (n : Nat) (a b c : Int) (h : 10 < n) : f49 n [a, b, c] = some (bif a != 0 then a else bif b != 0 then b else c) := by
  unfold f49
  have := scan0 [a, b, c] f49_k3 (fun x y acc => bif y != 0 then some y else acc) (f49_l7 [a, b, c] f49_k3) (fun m x => rfl) (by simp) 3 0 n (by simp) (by omega)
  refine Eq.trans this ?_
  simp only [List.drop_zero, go0, f49_k3]
  cases ha : (a != 0)
  · cases hb : (b != 0)
    · cases hc : (c != 0)
      · have : c = 0 := by simpa using hc
        subst this; rfl
      · rfl
    · rfl
  · rfl
theorem f50_eq (n : Nat) (x : Bool) (e : Int) : f50 n x e = some (bif x then 0 else e) := by unfold f50; cases x <;> rfl
end Go.Proofs
end
section
namespace Go.Proofs
open Go.Vm
def colsR (l : List Col) : Int := bif decide (len l > 30) then 3 else (goN (colsB l) (some 0) l.length 0).getD 0
def formE (pre : List Form) (f : Form) : Int := bif !classB f.fName then 4 else bif decide (formIx pre f.fName ≥ 0) then 6 else colsR f.fCols
def formsB (l : List Form) (k : Nat) (acc : Option Int) : Option Int := match l[k]? with
  | some f => bif formE (l.take k) f == 0 then acc else some (formE (l.take k) f)
  | none => none
def FormSz (n : Nat) (l : List Form) : Prop := l.length < n ∧ ∀ f ∈ l, f.fName.size < n ∧ f.fCols.length < n ∧ ∀ c ∈ f.fCols, c.fName.size < n
theorem f53_eq {l : List Col} {n : Nat} (hs : ∀ c ∈ l, c.fName.size < n) (h9 : 100 < n) (hn : l.length < n) (hl : l.length < 4611686018427387904) : f53 n l = some (colsR l) := by
  unfold f53 colsR
  rw [f53_l hs h9 hn hl]
  obtain ⟨e, h1, _⟩ := goN_cols l none l.length 0 (by omega)
  cases decide (len l > 30)
  · show goN (colsB l) (some 0) l.length 0 = some ((goN (colsB l) (some 0) l.length 0).getD 0)
    rw [h1]; rfl
  · rfl
theorem f16_l {l : List Form} {K : Option Int} {n : Nat} (hz : FormSz n l) (h9 : 100 < n) (hn : n < 4611686018427387904) : f16_l12 l n K n 0 = goN (formsB l) K l.length 0 := by
  refine scanN l.length K (formsB l) (f16_l12 l n K) (fun m k hk => ?_) (fun m => ?_) (by have := hz.1; omega) l.length 0 n (by omega) hz.1
  · obtain ⟨z1, z2, z3⟩ := hz.2 _ (List.getElem_mem hk)
    have hlen := hz.1
    rw [f16_l12.eq_2]
    have h1 : decide ((k : Int) < len l) = true := by simp [len]; omega
    rw [h1, gi_nat, List.getElem?_eq_getElem hk, sli_take l k (by omega)]
    simp only [cond_true, Option.bind_some]
    rw [f51_eq z1 (by omega), Option.bind_some, f50_eq, Option.bind_some, f52_eq (by rw [List.length_take]; omega) (by rw [List.length_take]; omega), Option.bind_some, f50_eq, Option.bind_some, f53_eq z3 h9 z2 (by omega), Option.bind_some, f49_three n _ _ _ (by omega), Option.bind_some]
    unfold formsB
    rw [List.getElem?_eq_getElem hk]
    show _ = bif formE (l.take k) l[k] == 0 then _ else some (formE (l.take k) l[k])
    unfold formE
    have hlt : decide (formIx (l.take k) l[k].fName < 0) = !decide (formIx (l.take k) l[k].fName ≥ 0) := by
      unfold formIx; rw [ixOf_lt, ixOf_ge]
    rw [hlt]
    cases classB l[k].fName
    · rfl
    · cases decide (formIx (l.take k) l[k].fName ≥ 0)
      · show (bif colsR l[k].fCols != 0 then some (colsR l[k].fCols) else _) = bif colsR l[k].fCols == 0 then _ else some (colsR l[k].fCols)
        unfold bne
        cases colsR l[k].fCols == 0 <;> rfl
      · rfl
  · rw [f16_l12.eq_2]
    have h1 : decide ((l.length : Int) < len l) = false := by simp [len]
    rw [h1]; rfl
end Go.Proofs
end
section
namespace Go.Proofs
open Go.Vm
theorem f17_l {l : List Form} {K : Option Int} {n : Nat} (hz : FormSz n l) (h9 : 100 < n) (hn : n < 4611686018427387904) : f17_l11 l n K n 0 = goN (formsB l) K l.length 0 := by
  refine scanN l.length K (formsB l) (f17_l11 l n K) (fun m k hk => ?_) (fun m => ?_) (by have := hz.1; omega) l.length 0 n (by omega) hz.1
  · obtain ⟨z1, z2, z3⟩ := hz.2 _ (List.getElem_mem hk)
    have hlen := hz.1
    have hg : gi l (k : Int) = some l[k] := by rw [gi_nat, List.getElem?_eq_getElem hk]
    rw [f17_l11.eq_2]
    have h1 : decide ((k : Int) < len l) = true := by simp [len]; omega
    rw [h1]
    simp only [cond_true, hg, Option.bind_some]
    rw [f54_eq z1 h9 (by omega), Option.bind_some, f55_eq hlen (by omega), Option.bind_some]
    rw [f17_cols (K := f17_k125 k (f17_l11 l n K m)) hg z3 (fun c hc => by have := z3 c hc; omega) z2 (by omega)]
    unfold formsB
    rw [List.getElem?_eq_getElem hk]
    show _ = bif formE (l.take k) l[k] == 0 then _ else some (formE (l.take k) l[k])
    unfold formE formIx
    rw [ahead (fun y => sEqF y.fName l[k].fName) l k hk (sEqF_refl _)]
    cases classB l[k].fName
    · rfl
    · cases decide (ixOf (fun y => sEqF y.fName l[k].fName) (l.take k) 0 ≥ 0)
      · unfold colsR
        obtain ⟨e, e1, e2⟩ := goN_cols l[k].fCols (f17_k125 k (f17_l11 l n K m)) l[k].fCols.length 0 (by omega)
        rw [e1, e2]
        cases decide (len l[k].fCols > 30)
        · show (bif e == 0 then _ else some e) = bif e == 0 then _ else some e
          cases e == 0 <;> rfl
        · rfl
      · rfl
  · rw [f17_l11.eq_2]
    have h1 : decide ((l.length : Int) < len l) = false := by simp [len]
    rw [h1]; rfl
end Go.Proofs
end
section
namespace Go.Proofs
open Go.Vm
def refB (L : List Form) (l : List Col) (k : Nat) (acc : Option Int) : Option Int := match l[k]? with
  | some c => bif (c.fKind == 3) && (!(sEqF c.fClass (ByteArray.mk #[65, 78, 89])) && decide (formIx L c.fClass < 0)) then some 5 else acc
  | none => none
def refsB (L : List Form) (k : Nat) (acc : Option Int) : Option Int := match L[k]? with
  | some f => goN (refB L f.fCols) acc f.fCols.length 0
  | none => none
theorem f16_in {L : List Form} {f : Form} {K : Option Int} {n : Nat} (hL : L.length < n) (hf : f.fCols.length < n) (hn : n < 4611686018427387904) : f16_l130 f n L K n 0 = goN (refB L f.fCols) K f.fCols.length 0 := by
  refine scanN f.fCols.length K (refB L f.fCols) (f16_l130 f n L K) (fun m k hk => ?_) (fun m => ?_) (by omega) f.fCols.length 0 n (by omega) hf
  · rw [f16_l130.eq_2]
    have h1 : decide ((k : Int) < len f.fCols) = true := by simp [len]; omega
    rw [h1, gi_nat, List.getElem?_eq_getElem hk]
    simp only [cond_true, Option.bind_some]
    rw [f52_eq hL (by omega)]
    simp only [Option.bind_some, f16_k157]
    unfold refB
    rw [List.getElem?_eq_getElem hk]
    show _ = bif (f.fCols[k].fKind == 3) && (!(sEqF f.fCols[k].fClass (ByteArray.mk #[65, 78, 89])) && decide (formIx L f.fCols[k].fClass < 0)) then _ else _
    cases (f.fCols[k].fKind == 3) <;> cases sEqF f.fCols[k].fClass (ByteArray.mk #[65, 78, 89]) <;> cases decide (formIx L f.fCols[k].fClass < 0) <;> rfl
  · rw [f16_l130.eq_2]
    have h1 : decide ((f.fCols.length : Int) < len f.fCols) = false := by simp [len]
    rw [h1]; rfl
theorem f17_in {L : List Form} {x : Int} {f : Form} {K : Option Int} {n : Nat} (hg : gi L x = some f) (hL : L.length < n) (hf : f.fCols.length < n) (hn : n < 4611686018427387904) : f17_l296 L x n K n 0 = goN (refB L f.fCols) K f.fCols.length 0 := by
  refine scanN f.fCols.length K (refB L f.fCols) (f17_l296 L x n K) (fun m k hk => ?_) (fun m => ?_) (by omega) f.fCols.length 0 n (by omega) hf
  · rw [f17_l296.eq_2, hg]
    have h1 : decide ((k : Int) < len f.fCols) = true := by simp [len]; omega
    simp only [Option.bind_some, h1, cond_true, gi_nat, List.getElem?_eq_getElem hk]
    rw [f55_eq hL (by omega)]
    simp only [Option.bind_some, f17_k333]
    unfold refB
    rw [List.getElem?_eq_getElem hk]
    show _ = bif (f.fCols[k].fKind == 3) && (!(sEqF f.fCols[k].fClass (ByteArray.mk #[65, 78, 89])) && decide (formIx L f.fCols[k].fClass < 0)) then _ else _
    cases (f.fCols[k].fKind == 3) <;> cases sEqF f.fCols[k].fClass (ByteArray.mk #[65, 78, 89]) <;> cases decide (formIx L f.fCols[k].fClass < 0) <;> rfl
  · rw [f17_l296.eq_2, hg]
    have h1 : decide ((f.fCols.length : Int) < len f.fCols) = false := by simp [len]
    simp only [Option.bind_some, h1, cond_false]
theorem f16_l2 {l : List Form} {K : Option Int} {n : Nat} (hz : FormSz n l) (hn : n < 4611686018427387904) : f16_l70 l n K n 0 = goN (refsB l) K l.length 0 := by
  have hlen := hz.1
  refine scanN l.length K (refsB l) (f16_l70 l n K) (fun m k hk => ?_) (fun m => ?_) (by omega) l.length 0 n (by omega) hz.1
  · rw [f16_l70.eq_2]
    have h1 : decide ((k : Int) < len l) = true := by simp [len]; omega
    rw [h1, gi_nat, List.getElem?_eq_getElem hk]
    simp only [cond_true, Option.bind_some]
    rw [f16_in hlen (hz.2 _ (List.getElem_mem hk)).2.1 hn]
    unfold refsB
    rw [List.getElem?_eq_getElem hk]
    rfl
  · rw [f16_l70.eq_2]
    have h1 : decide ((l.length : Int) < len l) = false := by simp [len]
    rw [h1]; rfl
theorem f17_l2 {l : List Form} {K : Option Int} {n : Nat} (hz : FormSz n l) (hn : n < 4611686018427387904) : f17_l232 l n K n 0 = goN (refsB l) K l.length 0 := by
  have hlen := hz.1
  refine scanN l.length K (refsB l) (f17_l232 l n K) (fun m k hk => ?_) (fun m => ?_) (by omega) l.length 0 n (by omega) hz.1
  · have hg : gi l (k : Int) = some l[k] := by rw [gi_nat, List.getElem?_eq_getElem hk]
    rw [f17_l232.eq_2]
    have h1 : decide ((k : Int) < len l) = true := by simp [len]; omega
    rw [h1]
    simp only [cond_true]
    rw [f17_in hg hlen (hz.2 _ (List.getElem_mem hk)).2.1 hn]
    unfold refsB
    rw [List.getElem?_eq_getElem hk]
    rfl
  · rw [f17_l232.eq_2]
    have h1 : decide ((l.length : Int) < len l) = false := by simp [len]
    rw [h1]; rfl
theorem f16_f17 {l : List Form} {n : Nat} (hz : FormSz n l) (h9 : 100 < n) (hn : n < 4611686018427387904) : f16 n l = f17 n l := by
  unfold f16 f17 f16_k8 f17_k8
  rw [f16_l hz h9 hn, f17_l hz h9 hn, f16_l2 hz hn, f17_l2 hz hn]
  rfl
end Go.Proofs
end
section
namespace Go.Proofs
open Go.Vm
def valB (v : Val) (m : Int) : Bool := bif v.fKind == 1 then inR v.fN (-1099511627776) 1099511627776 else bif v.fKind == 2 then inR v.fN 0 1 else bif v.fKind == 3 then v.fN == 0 else bif v.fKind == 4 then inR v.fN 0 (wr .i64 (m - 1)) else false
theorem f111_val (n : Nat) (v : Val) (m : Int) : f111 n v m = some (valB v m) := by
  unfold f111 valB
  simp only [f86_eq, Option.bind_some]
  cases (v.fKind == 1) <;> cases (v.fKind == 2) <;> cases (v.fKind == 3) <;> cases (v.fKind == 4) <;> rfl
theorem f99_val (n : Nat) (v : Val) (m : Int) : f99 n v m = some (valB v m) := by rw [← f111_eq]; exact f111_val n v m
def refersB (v : Val) : Bool := (v.fKind == 3) || (v.fKind == 4)
theorem f112_eq {n : Nat} {l : List Val} {a : List Node} {b : List Val} (hn : l.length < n) (hl : l.length < 4611686018427387904) : f112 n l a b = some (l.any fun v => !valB v (len a)) := by
  have f110_eq : ∀ v, f110 n v a b = some (!valB v (len a)) := fun v => by unfold f110; rw [f111_val]; rfl
  have h : f140 n l a b = some (ixOf (fun v => !valB v (len a)) l 0) := by
    unfold f140
    have := scan0 l f140_k5 (fun x y acc => bif !valB y (len a) then some x else acc) (f140_l9 l n a b f140_k5) (fun m x => by rw [f140_l9.eq_2]; simp only [f110_eq, Option.bind_some]) hl l.length 0 n (by omega) hn
    exact this.trans (go0_ix (fun v => !valB v (len a)) id l 0)
  unfold f112
  rw [h, Option.bind_some, ixOf_ge]
theorem f112_b_eq {n : Nat} {l : List Val} {a : List Node} {b : List Val} (hn : l.length < n) (hl : l.length < 4611686018427387904) : f112_b n l a b = some (l.any fun v => !valB v (len a) || !refersB v) := by
  have f113_eq : ∀ v, f113 n v a b = some (!valB v (len a) || !refersB v) := fun v => by
    unfold f113 f110 f114 refersB
    rw [f111_val]
    simp only [Option.bind_some]
    cases valB v (len a) <;> cases (v.fKind == 3) <;> cases (v.fKind == 4) <;> rfl
  have h : f140_b n l a b = some (ixOf (fun v => !valB v (len a) || !refersB v) l 0) := by
    unfold f140_b
    have := scan0 l f140_b_k5 (fun x y acc => bif !valB y (len a) || !refersB y then some x else acc) (f140_b_l9 l n a b f140_b_k5) (fun m x => by rw [f140_b_l9.eq_2]; simp only [f113_eq, Option.bind_some]) hl l.length 0 n (by omega) hn
    exact this.trans (go0_ix (fun v => !valB v (len a) || !refersB v) id l 0)
  unfold f112_b
  rw [h, Option.bind_some, ixOf_ge]
end Go.Proofs
end
section
namespace Go.Proofs
open Go.Vm
def GraphSz (n : Nat) (g : Graph) : Prop := g.fNodes.length < n ∧ g.fRoots.length < n ∧ ∀ x ∈ g.fNodes, x.fVals.length < n
def formedR (g : Graph) : Int :=
  bif decide (len g.fNodes > 400) || decide (len g.fRoots > 60) then 3 else bif g.fNodes.any fun x => decide (len x.fVals > 30) then 3 else
  bif g.fNodes.any fun x => x.fVals.any fun v => !valB v (len g.fNodes) then 2 else bif g.fRoots.any fun v => !valB v (len g.fNodes) || !refersB v then 2 else 0
theorem scanM {α ρ : Type} (l : List α) (K : Option ρ) (p : α → Bool) (e : Option ρ) (L : Nat → Int → Option ρ)
    (hL : ∀ m (k : Nat) (hk : k < l.length), L (m + 1) k = bif p l[k] then e else L m (wr .i64 (k + 1))) (hK : ∀ m, L (m + 1) l.length = K) {n : Nat} (hn : l.length < n) (hl : l.length < 4611686018427387904) : L n 0 = bif l.any p then e else K := by
  have h := scanN l.length K (fun k acc => match l[k]? with | some y => bif p y then e else acc | none => none) L (fun m k hk => by rw [hL m k hk, List.getElem?_eq_getElem hk]) hK hl l.length 0 n (by omega) hn
  refine h.trans ?_
  have key : ∀ (d k : Nat), d + k = l.length → goN (fun k acc => match l[k]? with | some y => bif p y then e else acc | none => none) K d k = bif (l.drop k).any p then e else K := by
    intro d
    induction d with
    | zero =>
      intro k hk
      have : l.drop k = [] := List.drop_eq_nil_of_le (by omega)
      rw [this]; rfl
    | succ d ih =>
      intro k hk
      have hlt : k < l.length := by omega
      rw [List.drop_eq_getElem_cons hlt, List.any_cons]
      show (match l[k]? with | some y => bif p y then e else goN _ K d (k + 1) | none => none) = _
      rw [List.getElem?_eq_getElem hlt]
      show (bif p l[k] then e else goN _ K d (k + 1)) = _
      rw [ih (k + 1) (by omega)]
      cases p l[k] <;> rfl
  exact key l.length 0 (by omega)
theorem f74_eq {g : Graph} {n : Nat} (hz : GraphSz n g) (hn : n < 4611686018427387904) : f74 n g = some (formedR g) := by
  obtain ⟨z1, z2, z3⟩ := hz
  have l1 : ∀ K, f74_l15 g K n 0 = bif g.fNodes.any fun x => decide (len x.fVals > 30) then some 3 else K := fun K => by
    refine scanM g.fNodes K (fun x => decide (len x.fVals > 30)) (some 3) (f74_l15 g K) (fun m k hk => ?_) (fun m => ?_) z1 (by omega)
    · rw [f74_l15.eq_2]
      have h1 : decide ((k : Int) < len g.fNodes) = true := by simp [len]; omega
      rw [h1, gi_nat, List.getElem?_eq_getElem hk]; rfl
    · rw [f74_l15.eq_2]
      have h1 : decide ((g.fNodes.length : Int) < len g.fNodes) = false := by simp [len]
      rw [h1]; rfl
  have l2 : ∀ K, f74_l46 g n K n 0 = bif g.fNodes.any fun x => x.fVals.any fun v => !valB v (len g.fNodes) then some 2 else K := fun K => by
    refine scanM g.fNodes K (fun x => x.fVals.any fun v => !valB v (len g.fNodes)) (some 2) (f74_l46 g n K) (fun m k hk => ?_) (fun m => ?_) z1 (by omega)
    · rw [f74_l46.eq_2]
      have h1 : decide ((k : Int) < len g.fNodes) = true := by simp [len]; omega
      have h2 := z3 _ (List.getElem_mem hk)
      rw [h1, gi_nat, List.getElem?_eq_getElem hk]
      simp only [cond_true, Option.bind_some]
      rw [f112_eq h2 (by omega)]; rfl
    · rw [f74_l46.eq_2]
      have h1 : decide ((g.fNodes.length : Int) < len g.fNodes) = false := by simp [len]
      rw [h1]; rfl
  unfold f74 f74_k4 f74_k11 f74_k42
  rw [f112_b_eq z2 (by omega)]
  simp only [l1, l2, Option.bind_some, f50_eq]
  unfold formedR
  cases decide (len g.fNodes > 400) <;> cases decide (len g.fRoots > 60) <;> cases (g.fNodes.any fun x => decide (len x.fVals > 30)) <;> cases (g.fNodes.any fun x => x.fVals.any fun v => !valB v (len g.fNodes)) <;> cases (g.fRoots.any fun v => !valB v (len g.fNodes) || !refersB v) <;> rfl
end Go.Proofs
end
section
namespace Go.Proofs
open Go.Vm
theorem f60_eq {g : Graph} {n : Nat} (hz : GraphSz n g) (hn : n < 4611686018427387904) : f60 n g = some (formedR g) := by
  obtain ⟨z1, z2, z3⟩ := hz
  have l1 : ∀ K, f60_l15 g K n 0 = bif g.fNodes.any fun x => decide (len x.fVals > 30) then some 3 else K := fun K => by
    refine scanM g.fNodes K (fun x => decide (len x.fVals > 30)) (some 3) (f60_l15 g K) (fun m k hk => ?_) (fun m => ?_) z1 (by omega)
    · rw [f60_l15.eq_2]
      have h1 : decide ((k : Int) < len g.fNodes) = true := by simp [len]; omega
      rw [h1, gi_nat, List.getElem?_eq_getElem hk]; rfl
    · rw [f60_l15.eq_2]
      have h1 : decide ((g.fNodes.length : Int) < len g.fNodes) = false := by simp [len]
      rw [h1]; rfl
  have li : ∀ K (k : Nat) (hk : k < g.fNodes.length), f60_l96 g k n K n 0 = bif g.fNodes[k].fVals.any fun v => !valB v (len g.fNodes) then some 2 else K := fun K k hk => by
    have hg : gi g.fNodes (k : Int) = some g.fNodes[k] := by rw [gi_nat, List.getElem?_eq_getElem hk]
    have h2 := z3 _ (List.getElem_mem hk)
    refine scanM g.fNodes[k].fVals K (fun v => !valB v (len g.fNodes)) (some 2) (f60_l96 g k n K) (fun m j hj => ?_) (fun m => ?_) h2 (by omega)
    · rw [f60_l96.eq_2, hg]
      have h1 : decide ((j : Int) < len g.fNodes[k].fVals) = true := by simp [len]; omega
      simp only [Option.bind_some, h1, cond_true, gi_nat, List.getElem?_eq_getElem hj, f99_val]
    · rw [f60_l96.eq_2, hg]
      have h1 : decide ((g.fNodes[k].fVals.length : Int) < len g.fNodes[k].fVals) = false := by simp [len]
      simp only [Option.bind_some, h1, cond_false]
  have l2 : ∀ K, f60_l42 g n K n 0 = bif g.fNodes.any fun x => x.fVals.any fun v => !valB v (len g.fNodes) then some 2 else K := fun K => by
    refine scanM g.fNodes K (fun x => x.fVals.any fun v => !valB v (len g.fNodes)) (some 2) (f60_l42 g n K) (fun m k hk => ?_) (fun m => ?_) z1 (by omega)
    · rw [f60_l42.eq_2]
      have h1 : decide ((k : Int) < len g.fNodes) = true := by simp [len]; omega
      rw [h1, cond_true, li _ k hk]; rfl
    · rw [f60_l42.eq_2]
      have h1 : decide ((g.fNodes.length : Int) < len g.fNodes) = false := by simp [len]
      rw [h1]; rfl
  have l3 : ∀ K, f60_l137 g n K n 0 = bif g.fRoots.any fun v => !valB v (len g.fNodes) || !refersB v then some 2 else K := fun K => by
    refine scanM g.fRoots K (fun v => !valB v (len g.fNodes) || !refersB v) (some 2) (f60_l137 g n K) (fun m k hk => ?_) (fun m => ?_) z2 (by omega)
    · rw [f60_l137.eq_2]
      have h1 : decide ((k : Int) < len g.fRoots) = true := by simp [len]; omega
      rw [h1, gi_nat, List.getElem?_eq_getElem hk]
      simp only [cond_true, Option.bind_some, f99_val, f60_k171]
      unfold refersB bne
      cases valB g.fRoots[k] (len g.fNodes) <;> cases (g.fRoots[k].fKind == 3) <;> cases (g.fRoots[k].fKind == 4) <;> rfl
    · rw [f60_l137.eq_2]
      have h1 : decide ((g.fRoots.length : Int) < len g.fRoots) = false := by simp [len]
      rw [h1]; rfl
  unfold f60 f60_k6 f60_k12 f60_k39
  simp only [l1, l2, l3, f60_k134]
  unfold formedR
  cases decide (len g.fNodes > 400) <;> cases decide (len g.fRoots > 60) <;> cases (g.fNodes.any fun x => decide (len x.fVals > 30)) <;> cases (g.fNodes.any fun x => x.fVals.any fun v => !valB v (len g.fNodes)) <;> cases (g.fRoots.any fun v => !valB v (len g.fNodes) || !refersB v) <;> rfl
end Go.Proofs
end
section
namespace Go.Proofs
open Go.Vm
theorem f97_eq {n : Nat} {l : List Node} {F : List Form} (hn : l.length < n) (hF : F.length < n) (hN : n < 4611686018427387904) : f97 n l F = some (l.any fun x => decide (formIx F x.fClass < 0)) := by
  have f98_eq : ∀ x, f98 n x F = some (decide (formIx F x.fClass < 0)) := fun x => by unfold f98; rw [f52_eq hF (by omega)]; rfl
  have h : f135 n l F = some (ixOf (fun x => decide (formIx F x.fClass < 0)) l 0) := by
    unfold f135
    have := scan0 l f135_k4 (fun x y acc => bif decide (formIx F y.fClass < 0) then some x else acc) (f135_l8 l n F f135_k4) (fun m x => by rw [f135_l8.eq_2]; simp only [f98_eq, Option.bind_some]) (by omega) l.length 0 n (by omega) hn
    exact this.trans (go0_ix (fun x => decide (formIx F x.fClass < 0)) id l 0)
  unfold f97
  rw [h, Option.bind_some, ixOf_ge]
end Go.Proofs
end
section
namespace Go.Proofs
open Go.Vm
def suitsB (g : Graph) (c : Col) (v : Val) : Bool :=
  bif c.fKind == 1 then v.fKind == 1 else bif c.fKind == 2 then v.fKind == 2 else bif v.fKind == 3 then true else
  (v.fKind == 4) && (sEqF c.fClass (ByteArray.mk #[65, 78, 89]) || sEqF (((gi g.fNodes v.fN).map fun x => x.fClass).getD (ByteArray.mk #[])) c.fClass)
theorem gi_of_val {g : Graph} {v : Val} (hv : valB v (len g.fNodes) = true) (h4 : (v.fKind == 4) = true) (hn : g.fNodes.length < 4611686018427387904) : 0 ≤ v.fN ∧ ∃ x, gi g.fNodes v.fN = some x := by
  have hk : v.fKind = 4 := by simpa using h4
  unfold valB inR at hv
  rw [hk] at hv
  have hv' : (decide (0 ≤ v.fN) && decide (v.fN ≤ wr .i64 (len g.fNodes - 1))) = true := hv
  rw [wr_id (by unfold len; omega) (by unfold len; omega)] at hv'
  simp only [Bool.and_eq_true, decide_eq_true_eq] at hv'
  unfold len at hv'
  refine ⟨hv'.1, ?_⟩
  obtain ⟨m, hm⟩ := Int.eq_ofNat_of_zero_le hv'.1
  rw [hm, gi_nat, List.getElem?_eq_getElem (by omega)]
  exact ⟨_, rfl⟩
theorem f107_eq {g : Graph} {n : Nat} {c : Col} {v : Val} (hv : valB v (len g.fNodes) = true) (hn : g.fNodes.length < 4611686018427387904) : f107 n g c v = some (suitsB g c v) := by
  unfold f107 suitsB f107_k14
  cases h4 : (v.fKind == 4)
  · cases (c.fKind == 1) <;> cases (c.fKind == 2) <;> cases (v.fKind == 3) <;> rfl
  · obtain ⟨_, x, hx⟩ := gi_of_val hv h4 hn
    rw [hx]
    cases (c.fKind == 1) <;> cases (c.fKind == 2) <;> cases (v.fKind == 3) <;> cases sEqF c.fClass (ByteArray.mk #[65, 78, 89]) <;> rfl
theorem f61_eq {g : Graph} {n : Nat} {c : Col} {v : Val} (hv : valB v (len g.fNodes) = true) (hn : g.fNodes.length < 4611686018427387904) : f61 n c v g = some (suitsB g c v) := by
  unfold f61 suitsB f61_k18
  cases h4 : (v.fKind == 4)
  · cases (c.fKind == 1) <;> cases (c.fKind == 2) <;> cases (v.fKind == 3) <;> rfl
  · obtain ⟨h0, x, hx⟩ := gi_of_val hv h4 hn
    have hm : mxI 0 v.fN = v.fN := by unfold mxI; split <;> omega
    rw [hm, hx]
    cases (c.fKind == 1) <;> cases (c.fKind == 2) <;> cases (v.fKind == 3) <;> cases sEqF c.fClass (ByteArray.mk #[65, 78, 89]) <;> rfl
end Go.Proofs
end
section
namespace Go.Proofs
open Go.Vm
theorem gi_ix {L : List Form} {s : ByteArray} (h : decide (formIx L s < 0) = false) : ∃ f, gi L (formIx L s) = some f ∧ f ∈ L := by
  unfold formIx at h ⊢
  rw [ixOf_lt] at h
  have ha : L.any (fun x => sEqF x.fName s) = true := by simpa using h
  have := ixOf_bound (fun x => sEqF x.fName s) L 0 ha
  obtain ⟨m, hm⟩ := Int.eq_ofNat_of_zero_le (by have := this.1; simpa using this : 0 ≤ ixOf (fun x => sEqF x.fName s) L 0)
  rw [hm] at this ⊢
  rw [gi_nat, List.getElem?_eq_getElem (by have := this.2; simp at this; omega)]
  exact ⟨_, rfl, List.getElem_mem _⟩
def nodeB (L : List Form) (g : Graph) (x : Node) : Bool := match gi L (formIx L x.fClass) with
  | some f => (len x.fVals == len f.fCols) && (f.fCols.zip x.fVals).all fun p => suitsB g p.1 p.2
  | none => false
theorem f71_eq {L : List Form} {g : Graph} {n : Nat} (hz : FormSz n L) (hg : GraphSz n g) (hn : n < 4611686018427387904) (hv : ∀ x ∈ g.fNodes, ∀ v ∈ x.fVals, valB v (len g.fNodes) = true) (hc : ∀ x ∈ g.fNodes, decide (formIx L x.fClass < 0) = false) : f71 n L g = some (g.fNodes.all (nodeB L g)) := by
  obtain ⟨z1, z2, z3⟩ := hg
  have hL := hz.1
  have inner : ∀ (f : Form) (x : Node) (K : Option Bool), f ∈ L → x ∈ g.fNodes → (len x.fVals == len f.fCols) = true → f71_l86 f x n g K n 0 = bif (f.fCols.zip x.fVals).any (fun p => !suitsB g p.1 p.2) then some false else K := fun f x K hf hx hlen => by
    have he : x.fVals.length = f.fCols.length := by
      have h0 : (x.fVals.length : Int) = (f.fCols.length : Int) := eq_of_beq hlen
      omega
    have hzl : (f.fCols.zip x.fVals).length = f.fCols.length := by simp [he]
    have hfn := (hz.2 f hf).2.1
    refine scanM (f.fCols.zip x.fVals) K (fun p => !suitsB g p.1 p.2) (some false) (f71_l86 f x n g K) (fun m k hk => ?_) (fun m => ?_) (by omega) (by omega)
    · rw [f71_l86.eq_2]
      have h1 : decide ((k : Int) < len f.fCols) = true := by simp [len]; omega
      have hk1 : k < f.fCols.length := by omega
      have hk2 : k < x.fVals.length := by omega
      rw [h1, gi_nat, List.getElem?_eq_getElem hk1, gi_nat, List.getElem?_eq_getElem hk2]
      simp only [cond_true, Option.bind_some]
      rw [f107_eq (hv x hx _ (List.getElem_mem hk2)) (by omega)]
      simp only [Option.bind_some, List.getElem_zip]
    · rw [hzl, f71_l86.eq_2]
      have h1 : decide ((f.fCols.length : Int) < len f.fCols) = false := by simp [len]
      rw [h1]; rfl
  have outer : f71_l8 g n L f71_k4 n 0 = bif g.fNodes.any (fun x => !nodeB L g x) then some false else some true := by
    refine scanM g.fNodes (some true) (fun x => !nodeB L g x) (some false) (f71_l8 g n L f71_k4) (fun m k hk => ?_) (fun m => ?_) z1 (by omega)
    · rw [f71_l8.eq_2]
      have h1 : decide ((k : Int) < len g.fNodes) = true := by simp [len]; omega
      have hx := List.getElem_mem hk
      obtain ⟨f, hf1, hf2⟩ := gi_ix (hc _ hx)
      rw [h1, gi_nat, List.getElem?_eq_getElem hk]
      simp only [cond_true, Option.bind_some]
      rw [f52_eq hL (by omega), Option.bind_some, hf1, Option.bind_some]
      unfold nodeB
      rw [hf1]
      show _ = bif !((len g.fNodes[k].fVals == len f.fCols) && (f.fCols.zip g.fNodes[k].fVals).all fun p => suitsB g p.1 p.2) then _ else _
      unfold bne
      cases hlen : (len g.fNodes[k].fVals == len f.fCols)
      · rfl
      · rw [inner f _ _ hf2 hx hlen]
        have : ((f.fCols.zip g.fNodes[k].fVals).any fun p => !suitsB g p.1 p.2) = !((f.fCols.zip g.fNodes[k].fVals).all fun p => suitsB g p.1 p.2) := by rw [← List.not_all_eq_any_not]
        rw [this]; rfl
    · rw [f71_l8.eq_2]
      have h1 : decide ((g.fNodes.length : Int) < len g.fNodes) = false := by simp [len]
      rw [h1]; rfl
  unfold f71
  rw [outer]
  have : (g.fNodes.any fun x => !nodeB L g x) = !(g.fNodes.all (nodeB L g)) := by rw [← List.not_all_eq_any_not]
  rw [this]
  cases g.fNodes.all (nodeB L g) <;> rfl
end Go.Proofs
end
section
namespace Go.Proofs
open Go.Vm
theorem f19_a {L : List Form} {g : Graph} {K : Option Int} {n : Nat} (hL : L.length < n) (hg : GraphSz n g) (hn : n < 4611686018427387904) : f19_l21 g n L K n 0 = bif g.fNodes.any (fun x => decide (formIx L x.fClass < 0)) then some 4 else K := by
  obtain ⟨z1, _, _⟩ := hg
  refine scanM g.fNodes K (fun x => decide (formIx L x.fClass < 0)) (some 4) (f19_l21 g n L K) (fun m k hk => ?_) (fun m => ?_) z1 (by omega)
  · rw [f19_l21.eq_2]
    have h1 : decide ((k : Int) < len g.fNodes) = true := by simp [len]; omega
    rw [h1, gi_nat, List.getElem?_eq_getElem hk]
    simp only [cond_true, Option.bind_some]
    rw [f55_eq hL (by omega), Option.bind_some]
  · rw [f19_l21.eq_2]
    have h1 : decide ((g.fNodes.length : Int) < len g.fNodes) = false := by simp [len]
    rw [h1]; rfl
theorem f19_b {L : List Form} {g : Graph} {K : Option Int} {n : Nat} (hz : FormSz n L) (hg : GraphSz n g) (hn : n < 4611686018427387904) (hv : ∀ x ∈ g.fNodes, ∀ v ∈ x.fVals, valB v (len g.fNodes) = true) (hc : ∀ x ∈ g.fNodes, decide (formIx L x.fClass < 0) = false) : f19_l52 g n L K n 0 = bif g.fNodes.all (nodeB L g) then K else some 8 := by
  obtain ⟨z1, z2, z3⟩ := hg
  have hL := hz.1
  have inner : ∀ (f : Form) (i : Nat) (hi : i < g.fNodes.length) (K : Option Int), f ∈ L → (len f.fCols == len g.fNodes[i].fVals) = true → f19_l138 f g i n K n 0 = bif (f.fCols.zip g.fNodes[i].fVals).any (fun p => !suitsB g p.1 p.2) then some 8 else K := fun f i hi K hf hlen => by
    have he : f.fCols.length = g.fNodes[i].fVals.length := by
      have h0 : (f.fCols.length : Int) = (g.fNodes[i].fVals.length : Int) := eq_of_beq hlen
      omega
    have hzl : (f.fCols.zip g.fNodes[i].fVals).length = f.fCols.length := by simp [he]
    have hfn := (hz.2 f hf).2.1
    have hgi : gi g.fNodes (i : Int) = some g.fNodes[i] := by rw [gi_nat, List.getElem?_eq_getElem hi]
    refine scanM (f.fCols.zip g.fNodes[i].fVals) K (fun p => !suitsB g p.1 p.2) (some 8) (f19_l138 f g i n K) (fun m k hk => ?_) (fun m => ?_) (by omega) (by omega)
    · rw [f19_l138.eq_2]
      have h1 : decide ((k : Int) < len f.fCols) = true := by simp [len]; omega
      have hk1 : k < f.fCols.length := by omega
      have hk2 : k < g.fNodes[i].fVals.length := by omega
      rw [h1, gi_nat, List.getElem?_eq_getElem hk1, hgi]
      simp only [cond_true, Option.bind_some]
      rw [gi_nat, List.getElem?_eq_getElem hk2, Option.bind_some, f61_eq (hv _ (List.getElem_mem hi) _ (List.getElem_mem hk2)) (by omega)]
      simp only [Option.bind_some, List.getElem_zip]
    · rw [hzl, f19_l138.eq_2]
      have h1 : decide ((f.fCols.length : Int) < len f.fCols) = false := by simp [len]
      rw [h1]; rfl
  have outer : f19_l52 g n L K n 0 = bif g.fNodes.any (fun x => !nodeB L g x) then some 8 else K := by
    refine scanM g.fNodes K (fun x => !nodeB L g x) (some 8) (f19_l52 g n L K) (fun m k hk => ?_) (fun m => ?_) z1 (by omega)
    · rw [f19_l52.eq_2]
      have h1 : decide ((k : Int) < len g.fNodes) = true := by simp [len]; omega
      have hx := List.getElem_mem hk
      obtain ⟨f, hf1, hf2⟩ := gi_ix (hc _ hx)
      have hgi : gi g.fNodes (k : Int) = some g.fNodes[k] := by rw [gi_nat, List.getElem?_eq_getElem hk]
      rw [h1, hgi]
      simp only [cond_true, Option.bind_some]
      rw [f55_eq hL (by omega), Option.bind_some, hf1, Option.bind_some]
      unfold nodeB
      rw [hf1]
      show _ = bif !((len g.fNodes[k].fVals == len f.fCols) && (f.fCols.zip g.fNodes[k].fVals).all fun p => suitsB g p.1 p.2) then _ else _
      have hcomm : (len g.fNodes[k].fVals == len f.fCols) = (len f.fCols == len g.fNodes[k].fVals) := Bool.beq_comm
      rw [hcomm]
      unfold bne
      cases hlen : (len f.fCols == len g.fNodes[k].fVals)
      · rfl
      · rw [inner f k hk _ hf2 hlen]
        have : ((f.fCols.zip g.fNodes[k].fVals).any fun p => !suitsB g p.1 p.2) = !((f.fCols.zip g.fNodes[k].fVals).all fun p => suitsB g p.1 p.2) := by rw [← List.not_all_eq_any_not]
        rw [this]; rfl
    · rw [f19_l52.eq_2]
      have h1 : decide ((g.fNodes.length : Int) < len g.fNodes) = false := by simp [len]
      rw [h1]; rfl
  rw [outer]
  have : (g.fNodes.any fun x => !nodeB L g x) = !(g.fNodes.all (nodeB L g)) := by rw [← List.not_all_eq_any_not]
  rw [this]
  cases g.fNodes.all (nodeB L g) <;> rfl
end Go.Proofs
end
section
namespace Go.Proofs
open Go.Vm
theorem goN_tot {ρ : Type} (B : Nat → Option ρ → Option ρ) (N : Nat) (hB : ∀ k acc, k < N → (∃ r, acc = some r) → ∃ r, B k acc = some r) : ∀ (d k : Nat) (K : Option ρ), d + k = N → (∃ r, K = some r) → ∃ r, goN B K d k = some r
  | 0, k, K, _, h => h
  | d + 1, k, K, hk, h => hB k _ (by omega) (goN_tot B N hB d (k + 1) K (by omega) h)
theorem refB_tot (L : List Form) (l : List Col) (K : Option Int) (h : ∃ r, K = some r) : ∃ r, goN (refB L l) K l.length 0 = some r := by
  refine goN_tot (refB L l) l.length (fun k acc hk ⟨r, hr⟩ => ?_) l.length 0 K (by omega) h
  unfold refB
  rw [List.getElem?_eq_getElem hk, hr]
  show ∃ r', (bif _ then some 5 else some r) = some r'
  generalize ((l[k].fKind == 3) && (!(sEqF l[k].fClass (ByteArray.mk #[65, 78, 89])) && decide (formIx L l[k].fClass < 0))) = q
  cases q <;> exact ⟨_, rfl⟩
theorem f16_tot {l : List Form} {n : Nat} (hz : FormSz n l) (h9 : 100 < n) (hn : n < 4611686018427387904) : ∃ e, f16 n l = some e := by
  unfold f16 f16_k8
  rw [f16_l hz h9 hn, f16_l2 hz hn]
  have h2 : ∃ r, goN (refsB l) f16_k66 l.length 0 = some r := by
    refine goN_tot (refsB l) l.length (fun k acc hk h => ?_) l.length 0 _ (by omega) ⟨0, rfl⟩
    unfold refsB
    rw [List.getElem?_eq_getElem hk]
    exact refB_tot l l[k].fCols acc h
  have h1 : ∃ r, goN (formsB l) (goN (refsB l) f16_k66 l.length 0) l.length 0 = some r := by
    refine goN_tot (formsB l) l.length (fun k acc hk ⟨r, hr⟩ => ?_) l.length 0 _ (by omega) h2
    unfold formsB
    rw [List.getElem?_eq_getElem hk, hr]
    show ∃ r', (bif formE (l.take k) l[k] == 0 then some r else some (formE (l.take k) l[k])) = some r'
    cases formE (l.take k) l[k] == 0 <;> exact ⟨_, rfl⟩
  obtain ⟨r, hr⟩ := h1
  rw [hr]
  cases decide (len l > 24) <;> exact ⟨_, rfl⟩
end Go.Proofs
end
section
namespace Go.Proofs
open Go.Vm
theorem formed_vals {g : Graph} (h : (formedR g != 0) = false) : ∀ x ∈ g.fNodes, ∀ v ∈ x.fVals, valB v (len g.fNodes) = true := by
  intro x hx v hv
  unfold formedR at h
  have h2 : (g.fNodes.any fun x => x.fVals.any fun v => !valB v (len g.fNodes)) = false := by
    revert h
    cases (decide (len g.fNodes > 400) || decide (len g.fRoots > 60)) <;> cases (g.fNodes.any fun x => decide (len x.fVals > 30)) <;> cases (g.fNodes.any fun x => x.fVals.any fun v => !valB v (len g.fNodes)) <;> intro h <;> first | rfl | exact nomatch h
  have h3 := List.any_eq_false.1 h2 x hx
  have h4 : (x.fVals.any fun v => !valB v (len g.fNodes)) = false := by simpa using h3
  have h5 := List.any_eq_false.1 h4 v hv
  simpa using h5
theorem f18_f19 {L : List Form} {g : Graph} {n : Nat} (hz : FormSz n L) (hg : GraphSz n g) (h9 : 100 < n) (hn : n < 4611686018427387904) : ∃ e, f18 n L g = some e ∧ f19 n L g = some e := by
  obtain ⟨e, he⟩ := f16_tot hz h9 hn
  have hL := hz.1
  unfold f18 f19
  rw [← f16_f17 hz h9 hn, he]
  simp only [Option.bind_some, f59, f74_eq hg hn, f60_eq hg hn]
  cases h0 : (e != 0)
  · simp only [cond_false]
    cases hf : (formedR g != 0)
    · simp only [cond_false]
      rw [f97_eq hg.1 hL hn, f19_a hL hg hn]
      simp only [Option.bind_some]
      cases hc : (g.fNodes.any fun x => decide (formIx L x.fClass < 0))
      · have hc' : ∀ x ∈ g.fNodes, decide (formIx L x.fClass < 0) = false := fun x hx => by
          have := List.any_eq_false.1 hc x hx
          simpa using this
        have hv := formed_vals hf
        simp only [cond_false, f19_k18]
        rw [f71_eq hz hg hn hv hc', f19_b hz hg hn hv hc']
        simp only [Option.bind_some, f50_eq, f19_k49]
        cases g.fNodes.all (nodeB L g) <;> exact ⟨_, rfl, rfl⟩
      · exact ⟨_, rfl, rfl⟩
    · exact ⟨_, rfl, rfl⟩
  · exact ⟨_, rfl, rfl⟩
end Go.Proofs
end
section
namespace Go.Proofs
open Go.Vm
theorem f14_tot {g : Graph} {n : Nat} (hg : GraphSz n g) (hn : n < 4611686018427387904) : ∃ r, f14 n g = some r := by
  have hK : ∃ r, f14_k5 g = some r := by
    unfold f14_k5 f14_k42
    cases decide (len g.fNodes ≤ 30) <;> cases decide (len g.fRoots ≤ 10) <;> cases decide (len g.fRoots > 60) <;> cases decide (len g.fNodes > 400) <;> cases decide (len g.fNodes ≤ 410) <;> exact ⟨_, rfl⟩
  obtain ⟨K, hK⟩ := hK
  unfold f14
  rw [hK]
  have hl := hg.1
  refine scanTot g.fNodes.length (fun m (_ : Unit) k => f14_l8 g (some K) m k) (fun m k v hk => ?_) (fun m v => ?_) g.fNodes.length 0 n () (by omega) hl
  · show (∃ r, f14_l8 g (some K) (m + 1) k = some r) ∨ ∃ v' : Unit, f14_l8 g (some K) (m + 1) k = f14_l8 g (some K) m ((k + 1 : Nat) : Int)
    rw [f14_l8.eq_2]
    have h1 : decide ((k : Int) < len g.fNodes) = true := by simp [len]; omega
    have e0 : wr .i64 ((k : Int) + 1) = ((k + 1 : Nat) : Int) := by rw [wr_id (by omega) (by omega)]; omega
    rw [h1, gi_nat, List.getElem?_eq_getElem hk]
    simp only [cond_true, Option.bind_some, f14_k34, e0]
    cases decide (len g.fNodes[k].fVals > 8) <;> cases decide (len g.fNodes[k].fVals ≤ 30) <;> cases decide (len g.fNodes[k].fVals > 40) <;> first | exact .inl ⟨_, rfl⟩ | exact .inr ⟨(), rfl⟩
  · show ∃ r, f14_l8 g (some K) (m + 1) (g.fNodes.length : Int) = some r
    rw [f14_l8.eq_2]
    have h1 : decide ((g.fNodes.length : Int) < len g.fNodes) = false := by simp [len]
    rw [h1]; exact ⟨_, rfl⟩
end Go.Proofs
end
section
namespace Go.Proofs
open Go.Vm
theorem f13_tot {l : List Form} {n : Nat} (hz : FormSz n l) (hn : n < 4611686018427387904) : ∃ r, f13 n l = some r := by
  have hK : ∃ r, f13_k3 l = some r := by
    unfold f13_k3 f13_k128
    cases decide (len l ≤ 6) <;> cases decide (len l > 24) <;> exact ⟨_, rfl⟩
  obtain ⟨K, hK⟩ := hK
  have hl := hz.1
  have inner : ∀ (k : Nat) (hk : k < l.length) (A : Option Bool), (∃ r, f13_l90 l[k] l k A n 0 = some r) ∨ f13_l90 l[k] l k A n 0 = A := fun k hk A => by
    have hg : gi l (k : Int) = some l[k] := by rw [gi_nat, List.getElem?_eq_getElem hk]
    have hc := (hz.2 _ (List.getElem_mem hk)).2.1
    have key : ∀ (d j m : Nat), d + j = l[k].fCols.length → d < m → (∃ r, f13_l90 l[k] l k A m j = some r) ∨ f13_l90 l[k] l k A m j = A := by
      intro d
      induction d with
      | zero =>
        intro j m hj hm
        obtain ⟨m, rfl⟩ := Nat.exists_eq_succ_of_ne_zero (by omega : m ≠ 0)
        right
        rw [f13_l90.eq_2]
        have h1 : decide ((j : Int) < len l[k].fCols) = false := by simp [len]; omega
        rw [h1]; rfl
      | succ d ih =>
        intro j m hj hm
        obtain ⟨m, rfl⟩ := Nat.exists_eq_succ_of_ne_zero (by omega : m ≠ 0)
        have hj2 : j < l[k].fCols.length := by omega
        have h1 : decide ((j : Int) < len l[k].fCols) = true := by simp [len]; omega
        have e0 : wr .i64 ((j : Int) + 1) = ((j + 1 : Nat) : Int) := by rw [wr_id (by omega) (by omega)]; omega
        have := ih (j + 1) m (by omega) (by omega)
        rw [f13_l90.eq_2, h1, hg]
        simp only [cond_true, Option.bind_some, gi_nat, List.getElem?_eq_getElem hj2, f13_k115, e0]
        cases decide (bsz l[k].fCols[j].fName > 30) <;> cases decide (bsz l[k].fCols[j].fClass > 30) <;> first | exact this | exact .inl ⟨_, rfl⟩
    exact key l[k].fCols.length 0 n (by omega) hc
  unfold f13
  rw [hK]
  refine scanTot l.length (fun m (_ : Unit) k => f13_l6 l n (some K) m k) (fun m k v hk => ?_) (fun m v => ?_) l.length 0 n () (by omega) hl
  · show (∃ r, f13_l6 l n (some K) (m + 1) k = some r) ∨ ∃ v' : Unit, f13_l6 l n (some K) (m + 1) k = f13_l6 l n (some K) m ((k + 1 : Nat) : Int)
    rw [f13_l6.eq_2]
    have h1 : decide ((k : Int) < len l) = true := by simp [len]; omega
    have e0 : wr .i64 ((k : Int) + 1) = ((k + 1 : Nat) : Int) := by rw [wr_id (by omega) (by omega)]; omega
    have hg : gi l (k : Int) = some l[k] := by rw [gi_nat, List.getElem?_eq_getElem hk]
    rw [h1, hg]
    simp only [cond_true, Option.bind_some, f13_k79]
    have hi : (∃ r, f13_l90 l[k] l k (f13_k72 k (f13_l6 l n (some K) m)) n 0 = some r) ∨ f13_l90 l[k] l k (f13_k72 k (f13_l6 l n (some K) m)) n 0 = f13_l6 l n (some K) m ((k + 1 : Nat) : Int) := by
      have := inner k hk (f13_k72 k (f13_l6 l n (some K) m))
      rw [show f13_k72 (k : Int) (f13_l6 l n (some K) m) = f13_l6 l n (some K) m ((k + 1 : Nat) : Int) by unfold f13_k72; rw [e0]] at this ⊢
      exact this
    have hi2 : (∃ r, f13_l90 l[k] l k (f13_k72 k (f13_l6 l n (some K) m)) n 0 = some r) ∨ ∃ v' : Unit, f13_l90 l[k] l k (f13_k72 k (f13_l6 l n (some K) m)) n 0 = f13_l6 l n (some K) m ((k + 1 : Nat) : Int) := hi.imp id fun h => ⟨(), h⟩
    cases decide (bsz l[k].fName > 30) <;> cases decide (len l[k].fCols > 6) <;> cases decide (len l[k].fCols ≤ 30) <;> cases decide (len l[k].fCols > 40) <;> first | exact hi2 | exact .inl ⟨_, rfl⟩
  · show ∃ r, f13_l6 l n (some K) (m + 1) (l.length : Int) = some r
    rw [f13_l6.eq_2]
    have h1 : decide ((l.length : Int) < len l) = false := by simp [len]
    rw [h1]; exact ⟨_, rfl⟩
end Go.Proofs
end
section
namespace Go.Proofs
open Go.Vm
set_option maxRecDepth 1000000
theorem f15_true : f15 40 = some true := rfl
theorem f3_true {l : List Form} {g : Graph} {n : Nat} (hz : FormSz n l) (hg : GraphSz n g) (h9 : 100 < n) (hn : n < 4611686018427387904) : f3 n l g = some true := by
  have h1 : f3_k5 n l g true = some true := by unfold f3_k5; rw [f15_true]; rfl
  obtain ⟨e, he⟩ := f16_tot hz h9 hn
  obtain ⟨d, h2, h3⟩ := f18_f19 hz hg h9 hn
  have h4 : ∀ b, f3_k5 n l g b = some true := fun b => by
    cases b
    · unfold f3_k5
      rw [f15_true, ← f16_f17 hz h9 hn, he, h2, h3]
      simp [f3_k16]
    · exact h1
  obtain ⟨a, ha⟩ := f13_tot hz hn
  obtain ⟨b, hb⟩ := f14_tot hg hn
  unfold f3
  rw [ha, hb]
  cases a <;> simp [h4]
end Go.Proofs
end
section
set_option linter.unusedVariables false
set_option linter.unusedSimpArgs false
namespace Go.Vm
structure Bulk {H : Type} (β : DataW H → Nat) : Prop where
  str : ∀ l, l.length ≤ β (.lit (.string l))
  sl : ∀ es sp, es.length ≤ β (.slice es sp)
  slm : ∀ es sp d, d ∈ es → β d ≤ β (.slice es sp)
  agm : ∀ ps d, d ∈ ps → β d ≤ β (.agg ps)
section
variable {H : Type} {enc : TypeId × Value → H} {P : Program} {w : World} {β : DataW H → Nat} {B : Nat}
def contF (P : Program) : Nat → List Field → Bool
  | _, [] => true
  | off, f :: fs => f.offset == off && contF P (off + P.cellsOf f.type) fs
def layB (P : Program) : Nat → TypeId → Bool
  | 0, _ => false
  | n + 1, t => match P.underlying t with
    | some .bool | some (.int _) | some .string => P.cellsOf t == 1
    | some (.slice e) => P.cellsOf t == 1 && layB P n e
    | some (.struct fs) => contF P 0 fs.toList && (fs.toList.map fun f => P.cellsOf f.type).sum == P.cellsOf t && fs.toList.all fun f => layB P n f.type
    | _ => false
def fitsD (P : Program) (B : Nat) : Nat → TypeId → List AV → Prop
  | 0, _, _ => False
  | n + 1, t, az => match P.underlying t with
    | some .bool => ∃ b, az = [.val (.bool b)]
    | some (.int k) => ∃ m, az = [.val (.int k m)] ∧ (Lit.int k m).wf = true
    | some .string => ∃ s : ByteArray, az = [.val (.string s)] ∧ s.size ≤ B
    | some (.slice e) => ∃ xs, az = [.sl xs] ∧ xs.length ≤ B ∧ ∀ cs ∈ xs, fitsD P B n e cs
    | some (.struct fs) => ∃ parts : List (List AV), az = parts.flatten ∧ parts.length = fs.toList.length ∧ ∀ (i : Nat) f p, fs.toList[i]? = some f → parts[i]? = some p → fitsD P B n f.type p
    | _ => False
def Cells (w : World) (az : List AV) (cs : List Value) : Prop := az.length = cs.length ∧ ∀ (i : Nat) a u, az[i]? = some a → cs[i]? = some u → RepP w (fun _ b => b < w.heap.size) a u
theorem Cells.one {a : AV} {u : Value} (h : RepP w (fun _ b => b < w.heap.size) a u) : Cells w [a] [u] := ⟨rfl, fun i b v hb hv => by
  cases i with
  | zero => simp at hb hv; subst hb hv; exact h
  | succ i => simp at hb⟩
theorem Cells.append {az bs : List AV} {cs ds : List Value} (h : Cells w az cs) (k : Cells w bs ds) : Cells w (az ++ bs) (cs ++ ds) := ⟨by simp [h.1, k.1], fun i a u ha hu => by
  rw [List.getElem?_append] at ha hu
  rw [← h.1] at hu
  split at ha
  · rename_i hlt; rw [if_pos hlt] at hu; exact h.2 i a u ha hu
  · rename_i hlt; rw [if_neg hlt] at hu; exact k.2 _ a u ha hu⟩
theorem mapM_cons_some {α β : Type} {f : α → Option β} {x : α} {l : List α} {r : List β} (h : (x :: l).mapM f = some r) : ∃ b r', f x = some b ∧ l.mapM f = some r' ∧ r = b :: r' := by
  simp only [List.mapM_cons, Option.bind_eq_bind, Option.bind_eq_some_iff, Option.pure_def, Option.some.injEq] at h
  obtain ⟨b, h1, r', h2, h3⟩ := h
  exact ⟨b, r', h1, h2, h3.symm⟩
theorem fields_cells {n : Nat} {spare : Nat → Bool} {held : Bool} {fuel : Nat} {base : Nat}
    (ih : ∀ (t : TypeId) (cs : List Value) (d : DataW H) (ps : List MemPlace), layB P n t = true → DataW.trod enc P w base spare held fuel t cs = some (d, ps) → β d ≤ B → ∃ az, Cells w az cs ∧ fitsD P B n t az) :
    ∀ (fs : List Field) (off : Nat) (cs : List Value) (xs : List (DataW H × List MemPlace)), contF P off fs = true → (fs.all fun f => layB P n f.type) = true → off + (fs.map fun f => P.cellsOf f.type).sum = cs.length →
      (fs.mapM fun f => DataW.trod enc P w base spare held fuel f.type ((cs.drop f.offset).take (P.cellsOf f.type))) = some xs → (∀ x ∈ xs, β x.1 ≤ B) →
      ∃ parts : List (List AV), Cells w parts.flatten (cs.drop off) ∧ parts.length = fs.length ∧ ∀ (i : Nat) f p, fs[i]? = some f → parts[i]? = some p → fitsD P B n f.type p
  | [], off, cs, xs, _, _, hl, h, _ => by
    simp at hl
    subst hl
    exact ⟨[], ⟨by simp, fun i a u ha => by simp at ha⟩, rfl, fun i f p hf => by simp at hf⟩
  | f :: fs, off, cs, xs, hc, hy, hl, h, hx => by
    obtain ⟨b, r', h1, h2, rfl⟩ := mapM_cons_some h
    simp only [contF, Bool.and_eq_true, beq_iff_eq] at hc
    simp only [List.all_cons, Bool.and_eq_true] at hy
    simp only [List.map_cons, List.sum_cons] at hl
    obtain ⟨az, ha, hfa⟩ := ih f.type _ b.1 b.2 hy.1 h1 (hx b (by simp))
    obtain ⟨parts, hp, hpl, hpf⟩ := fields_cells ih fs (off + P.cellsOf f.type) cs r' hc.2 hy.2 (by omega) h2 (fun x h => hx x (by simp [h]))
    refine ⟨az :: parts, ?_, by simp [hpl], fun i g p hg hp' => ?_⟩
    · rw [hc.1] at ha
      have e : cs.drop off = (cs.drop off).take (P.cellsOf f.type) ++ cs.drop (off + P.cellsOf f.type) := by
        rw [← List.drop_drop, List.take_append_drop]
      rw [e, List.flatten_cons]
      exact ha.append hp
    · cases i with
      | zero => simp at hg hp'; subst hg hp'; exact hfa
      | succ i => simp at hg hp'; exact hpf i g p hg hp'
theorem cell_in {a : Addr} {u : Value} (h : w.cell? a = some u) : a.block < w.heap.size := by
  unfold World.cell? at h
  split at h
  · rename_i hb; exact (Array.getElem?_eq_some_iff.1 hb).1
  · cases h
theorem rows_cells {n : Nat} {e : TypeId} {base : Nat} {a : Addr} {f : List Value → Option (DataW H × List MemPlace)}
    (ih : ∀ (cs : List Value) (d : DataW H) (ps : List MemPlace), f cs = some (d, ps) → β d ≤ B → ∃ az, Cells w az cs ∧ fitsD P B n e az) :
    ∀ (len : Nat) (elems : List (DataW H × List MemPlace)), ((List.range len).mapM fun i => (w.cells? base (a.add (i * P.cellsOf e)) (P.cellsOf e)).bind f) = some elems → (∀ x ∈ elems, β x.1 ≤ B) →
      ∃ xs : List (List AV), xs.length = len ∧ ∀ (j : Nat) cs, xs[j]? = some cs → cs.length = P.cellsOf e ∧ fitsD P B n e cs ∧ ∀ (i : Nat) b, cs[i]? = some b → ∃ u, w.cell? (a.add (j * P.cellsOf e + i)) = some u ∧ RepP w (fun _ b => b < w.heap.size) b u := by
  intro len elems hel hB
  obtain ⟨m1, m2⟩ := mapM_some hel
  have row : ∀ j, j < len → ∃ cs : List AV, cs.length = P.cellsOf e ∧ fitsD P B n e cs ∧ ∀ (i : Nat) b, cs[i]? = some b → ∃ u, w.cell? (a.add (j * P.cellsOf e + i)) = some u ∧ RepP w (fun _ b => b < w.heap.size) b u := fun j hj => by
    obtain ⟨r, hrj, hr⟩ := m2 j j (List.getElem?_range hj)
    have hrB := hB r (List.mem_of_getElem? hrj)
    simp only [Option.bind_eq_some_iff] at hr
    obtain ⟨ecs, h1, h2⟩ := hr
    obtain ⟨az, hc, hf⟩ := ih ecs r.1 r.2 h2 hrB
    unfold World.cells? at h1
    split at h1
    · obtain ⟨k1, k2⟩ := mapM_some h1
      simp only [List.length_range] at k1
      refine ⟨az, by rw [hc.1, k1], hf, fun i b hb => ?_⟩
      have hi : i < P.cellsOf e := by rw [← k1, ← hc.1]; exact (List.getElem?_eq_some_iff.1 hb).1
      obtain ⟨u, hu1, hu2⟩ := k2 i i (List.getElem?_range hi)
      rw [add_add] at hu2
      exact ⟨u, hu2, hc.2 i b u hb hu1⟩
    · cases h1
  refine ⟨(List.range len).map (fun j => if h : j < len then Classical.choose (row j h) else []), by simp, fun j cs hj => ?_⟩
  rw [List.getElem?_map] at hj
  have hlt : j < len := by
    by_cases h : j < len
    · exact h
    · rw [List.getElem?_eq_none (by simpa using Nat.le_of_not_lt h)] at hj; cases hj
  rw [List.getElem?_range hlt] at hj
  simp only [Option.map_some, Option.some.injEq, dif_pos hlt] at hj
  subst hj
  exact Classical.choose_spec (row j hlt)
theorem trod_cells (hβ : Bulk β) {spare : Nat → Bool} {held : Bool} {base : Nat} : ∀ (n fuel : Nat) (t : TypeId) (cs : List Value) (d : DataW H) (ps : List MemPlace), layB P n t = true → DataW.trod enc P w base spare held fuel t cs = some (d, ps) → β d ≤ B → ∃ az, Cells w az cs ∧ fitsD P B n t az
  | 0, fuel, t, cs, d, ps, hl, h, _ => by simp [layB] at hl
  | n + 1, 0, t, cs, d, ps, hl, h, _ => by simp [DataW.trod] at h
  | n + 1, fuel + 1, t, cs, d, ps, hl, h, hd => by
    unfold layB at hl
    unfold DataW.trod at h
    unfold fitsD
    split at hl
    · rename_i hu
      simp only [hu] at h ⊢
      rcases cs with _ | ⟨v, _ | ⟨v2, r⟩⟩
      · simp at h
      · cases v <;> simp at h
        exact ⟨_, Cells.one (.val _), _, rfl⟩
      · simp at h
    · rename_i k hu
      simp only [hu] at h ⊢
      rcases cs with _ | ⟨v, _ | ⟨v2, r⟩⟩
      · simp at h
      · cases v <;> simp at h
        obtain ⟨⟨rfl, h1⟩, _⟩ := h
        exact ⟨_, Cells.one (.val _), _, rfl, h1⟩
      · simp at h
    · rename_i hu
      simp only [hu] at h ⊢
      rcases cs with _ | ⟨v, _ | ⟨v2, r⟩⟩
      · simp at h
      · cases v <;> simp at h
        obtain ⟨h0, rfl, _⟩ := h
        refine ⟨_, Cells.one (.val _), _, rfl, ?_⟩
        have := hβ.str (ByteArray.data ‹ByteArray›).toList
        simp only [Array.length_toList] at this
        exact Nat.le_trans this hd
      · simp at h
    · rename_i e hu
      simp only [Bool.and_eq_true, beq_iff_eq] at hl
      simp only [hu] at h ⊢
      rcases cs with _ | ⟨v, _ | ⟨v2, r⟩⟩
      · simp at h
      · cases v <;> try (simp at h; done)
        rename_i A len cap
        cases A with
        | none =>
          refine ⟨[.sl []], Cells.one ?_, [], rfl, Nat.zero_le _, fun cs hcs => by cases hcs⟩
          have : len = 0 ∧ cap = 0 := by
            cases len <;> cases cap <;> simp at h ⊢
          obtain ⟨rfl, rfl⟩ := this
          exact .sl [] none 0 0 (fun _ _ => undef) (Nat.le_refl _) (Nat.zero_le _) (fun _ => rfl) (fun j cs hj => by simp at hj) (fun j cs i a hj => by simp at hj) (fun j cs i a hj => by simp at hj)
        | some a =>
          simp only at h
          split at h
          · rename_i hcond
            simp only [Option.bind_eq_some_iff, Option.map_eq_some_iff] at h
            obtain ⟨elems, hel, rest, _, hdd⟩ := h
            simp only [Prod.mk.injEq] at hdd
            obtain ⟨rfl, _⟩ := hdd
            have hlen := Nat.le_trans (hβ.sl _ _) hd
            have hme : ∀ x ∈ elems, β x.1 ≤ B := fun x hx => Nat.le_trans (hβ.slm _ _ x.1 (List.mem_map_of_mem hx)) hd
            have hell := (mapM_some hel).1
            simp only [List.length_range] at hell
            simp only [List.length_map, hell] at hlen
            obtain ⟨xs, hxl, hx⟩ := rows_cells (w := w) (a := a) (fun cs d ps hd hb => trod_cells hβ n fuel e cs d ps hl.2 hd hb) len elems hel hme
            refine ⟨[.sl xs], Cells.one ?_, xs, rfl, by omega, fun cs hcs => ?_⟩
            · rw [← hxl]
              refine .sl xs (some a) cap (P.cellsOf e) (fun j i => (w.cell? (a.add (j * P.cellsOf e + i))).getD undef) (by omega) hcond.2.2 (fun e => by cases e) (fun j cs hj => (hx j cs hj).1) (fun j cs i b hj hi => ?_) (fun j cs i b hj hi => ?_)
              · obtain ⟨u, hu1, hu2⟩ := (hx j cs hj).2.2 i b hi
                exact ⟨a, rfl, by have := cell_in hu1; rwa [add_block] at this, by rw [hu1]; rfl⟩
              · obtain ⟨u, hu1, hu2⟩ := (hx j cs hj).2.2 i b hi
                rw [hu1]; exact hu2
            · obtain ⟨j, hj, rfl⟩ := List.getElem_of_mem hcs
              exact (hx j _ (List.getElem?_eq_getElem hj)).2.1
          · cases h
      · simp at h
    · rename_i fs hu
      simp only [Bool.and_eq_true, beq_iff_eq] at hl
      simp only [hu] at h ⊢
      have h' : (if cs.length = P.cellsOf t then (fs.toList.mapM fun f => DataW.trod enc P w base spare held fuel f.type ((cs.drop f.offset).take (P.cellsOf f.type))).map fun xs => (DataW.agg (xs.map (·.1)), xs.flatMap (·.2)) else none) = some (d, ps) := h
      split at h'
      · rename_i hlen
        simp only [Option.map_eq_some_iff] at h'
        obtain ⟨xs, hxs, hdd⟩ := h'
        simp only [Prod.mk.injEq] at hdd
        obtain ⟨rfl, _⟩ := hdd
        have hme : ∀ x ∈ xs, β x.1 ≤ B := fun x hx => Nat.le_trans (hβ.agm _ x.1 (List.mem_map_of_mem hx)) hd
        obtain ⟨parts, k1, k2, k3⟩ := fields_cells (fun t cs d ps hy hd hb => trod_cells hβ n fuel t cs d ps hy hd hb) fs.toList 0 cs xs hl.1.1 hl.2 (by omega) hxs hme
        exact ⟨_, by simpa using k1, parts, rfl, k2, k3⟩
      · cases h'
    · cases hl
end
end Go.Vm
end
section
set_option linter.unusedVariables false
set_option linter.unusedSimpArgs false
namespace Go.Vm
open Go.RowKit Go.ChangeShapes Go
section
variable {H : Type} {enc : TypeId × Value → H} {P : Program} {W W' : World}
theorem trodAll_stays (hl : laidOutB P = true) {sp : Nat → Bool} : ∀ (ts : List TypeId) (vs : List Value) (ds : List (DataW H)) (ps : List MemPlace), (∀ t ∈ ts, P.readableRec t = true ∧ t < P.types.size) →
    DataW.TrodAll enc P W 0 (fun _ => true) true ts vs ds ps → Below W.heap.size W W' → (∀ x ∈ ps, x.block < W.heap.size) → (∀ x ∈ ps, sp x.block = true) → DataW.TrodAll enc P W' 0 sp true ts vs ds ps
  | [], [], [], ps, _, h, _, _, _ => h
  | t :: ts, v :: vs, d :: ds, ps, ht, h, hb, hlt, hsp => by
    obtain ⟨p, q, h1, h2, rfl⟩ := h
    refine ⟨p, q, WideElems.Trod_stays hl (ht t (by simp)).1 (ht t (by simp)).2 h1 (fun x hx => hb.same (hlt x (by simp [hx]))) (fun x hx => hsp x (by simp [hx])),
      trodAll_stays hl ts vs ds q (fun t' ht' => ht t' (by simp [ht'])) h2 hb (fun x hx => hlt x (by simp [hx])) (fun x hx => hsp x (by simp [hx])), rfl⟩
  | [], [], _ :: _, _, _, h, _, _, _ => h.elim
  | [], _ :: _, _, _, _, h, _, _, _ => h.elim
  | _ :: _, [], _, _, _, h, _, _, _ => h.elim
  | _ :: _, _ :: _, [], _, _, h, _, _, _ => h.elim
theorem law_post {f : Func} {s : ChangeSpec} {apart fresh handsOn again : Bool} {args : Array Value} {ds gs : List (DataW H)} {before : List MemPlace} {tb : TypeId} (hl : laidOutB P = true) (hparams : ∀ t ∈ f.params.toList, P.readableRec t = true ∧ t < P.types.size)
    (hrt : f.resultTypes = #[tb]) (hb : P.underlying tb = some .bool) (hvars : s.vars = []) (hfn : (s.fn H (ds ++ [])).results = [.lit (.bool true)] ∧ (s.fn H (ds ++ [])).args = ds ∧ (s.fn H (ds ++ [])).vars = [])
    (hW : DataW.Whole enc P f.params.toList s.vars apart W args.toList ds gs before) (hbel : Below W.heap.size W W') : s.post enc P f apart fresh handsOn again W args (.bool true) W' := by
  have hW' := hW
  obtain ⟨p, q, hA, hV, rfl, hfz, hnd⟩ := hW
  rw [hvars] at hV
  obtain ⟨rfl, rfl⟩ := trodVars_none hV
  have hlt : ∀ x ∈ p ++ [], x.block < W.heap.size := fun x hx => hW'.lt x hx
  simp only [List.append_nil] at hW' hlt hfn
  have hold : ∀ x ∈ p, (fun b => decide (b < W.heap.size)) x.block = true := fun x hx => by simpa using hlt x hx
  have hresB : ∀ (b : Nat) (sp : Nat → Bool) (hd : Bool), DataW.TrodAll enc P W' b sp hd f.resultTypes.toList ((Value.bool true).resultList f.resultTypes.size) (s.fn H ds).results [] := fun b sp hd => by
    rw [hfn.1, hrt]
    exact trodAll_cons_mk (shut_bool hb _) trodAll_mk0
  have hresA : ∀ sp : Nat → Bool, (∀ x ∈ p, sp x.block = true) → DataW.TrodAll enc P W' 0 sp true f.params.toList args.toList (s.fn H ds).args p := fun sp hsp => by
    rw [hfn.2.1]
    exact trodAll_stays hl _ _ _ _ hparams hA hbel hlt hsp
  have hvarsB : ∀ sp : Nat → Bool, DataW.TrodVars enc P W' sp s.vars (s.fn H ds).vars [] := fun sp => by
    rw [hfn.2.2, hvars]; rfl
  refine ⟨ds, [], p, [], p, [], hW', ?_, ?_, ?_, World.keptBut_mono (fun x hx => ⟨hx, ?_⟩) (hbel.frame _), fun _ => ?_⟩
  · simpa using hresB _ _ _
  · simpa using hresA _ hold
  · simpa using hvarsB _
  · simp [hx]
  · refine ⟨ok_one hrt rfl (okWide_bool_mk hb _), _, _, ([] ++ p) ++ [], ⟨[] ++ p, [], trodAll_append (hresA _ (fun _ _ => rfl)) (hresB _ _ _), by simpa using hvarsB _, rfl, ?_, ?_⟩, ?_⟩
    · intro b off hp
      have hp' : MemPlace.cell b off ∈ p := by simpa using hp
      have hb' : b < W.heap.size := hlt _ hp'
      rw [hbel.frozen hb']
      exact hfz b off (by simpa using hp')
    · intro ha
      have := hnd ha
      simpa using this
    · intro x hx _
      simpa using hx
end
end Go.Vm
end
section
set_option linter.unusedVariables false
set_option linter.unusedSimpArgs false
namespace Go.Vm
open Go.RowKit Go.ChangeShapes
section
variable {H : Type} {enc : TypeId × Value → H} {P : Program} {W W' : World} {β : DataW H → Nat} {B : Nat}
def argFits (P : Program) (B n : Nat) (t : TypeId) (a : AV) : Prop :=
  match P.underlying t with
  | some (.struct _) => ∃ az, a = .agg az ∧ fitsD P B n t az
  | _ => fitsD P B n t [a]
theorem arg_rep (hβ : Bulk β) {n base : Nat} {t : TypeId} {v : Value} {d : DataW H} {p : List MemPlace} (hl : layB P n t = true) (hok : Value.okWide P W .any base t v) (h : DataW.Trod enc P W 0 (fun _ => true) true t v d p) (hd : β d ≤ B) :
    ∃ a, argFits P B n t a ∧ RepP W (fun _ b => b < W.heap.size) a v := by
  obtain ⟨fuel, hf⟩ := h
  obtain ⟨az, hc, hfit⟩ := trod_cells hβ n fuel t v.cells.toList d p hl hf hd
  cases n with
  | zero => simp [layB] at hl
  | succ n =>
    have single : v.cells = #[v] → fitsD P B (n + 1) t az → (∀ x, az = [x] → argFits P B (n + 1) t x) → (∃ x, az = [x]) → ∃ a, argFits P B (n + 1) t a ∧ RepP W (fun _ b => b < W.heap.size) a v := fun hv hfit ha ⟨x, hx⟩ => by
      subst hx
      rw [hv] at hc
      exact ⟨x, ha x rfl, hc.2 0 x v rfl rfl⟩
    unfold layB at hl
    split at hl
    · rename_i hu
      have hv : v.cells = #[v] := by cases v <;> first | rfl | simp [Value.okWide, hu, Cell.okWide, Cell.ok] at hok
      have hfit' := hfit
      unfold fitsD at hfit'
      simp only [hu] at hfit'
      obtain ⟨b, rfl⟩ := hfit'
      exact single hv hfit (fun x hx => by unfold argFits; simp only [hu]; rw [← hx]; exact hfit) ⟨_, rfl⟩
    · rename_i k hu
      have hv : v.cells = #[v] := by cases v <;> first | rfl | simp [Value.okWide, hu, Cell.okWide, Cell.ok] at hok
      have hfit' := hfit
      unfold fitsD at hfit'
      simp only [hu] at hfit'
      obtain ⟨b, rfl, _⟩ := hfit'
      exact single hv hfit (fun x hx => by unfold argFits; simp only [hu]; rw [← hx]; exact hfit) ⟨_, rfl⟩
    · rename_i hu
      have hv : v.cells = #[v] := by cases v <;> first | rfl | simp [Value.okWide, hu, Cell.okWide, Cell.ok] at hok
      have hfit' := hfit
      unfold fitsD at hfit'
      simp only [hu] at hfit'
      obtain ⟨b, rfl, _⟩ := hfit'
      exact single hv hfit (fun x hx => by unfold argFits; simp only [hu]; rw [← hx]; exact hfit) ⟨_, rfl⟩
    · rename_i e hu
      have hv : v.cells = #[v] := by cases v <;> first | rfl | simp [Value.okWide, hu, Cell.okWide, Cell.ok] at hok
      have hfit' := hfit
      unfold fitsD at hfit'
      simp only [hu] at hfit'
      obtain ⟨b, rfl, _⟩ := hfit'
      exact single hv hfit (fun x hx => by unfold argFits; simp only [hu]; rw [← hx]; exact hfit) ⟨_, rfl⟩
    · rename_i fs hu
      have hv : ∃ cs, v = .agg cs := by
        simp only [Value.okWide, hu] at hok
        obtain ⟨cs, h1, _⟩ := hok
        exact ⟨cs, h1⟩
      obtain ⟨cs, rfl⟩ := hv
      refine ⟨.agg az, by unfold argFits; simp only [hu]; exact ⟨az, rfl, hfit⟩, ?_⟩
      have := RepP.agg (w := W) (I := fun _ b => b < W.heap.size) az cs.toList (by simpa [Value.cells] using hc.1) (fun i a u ha hu => hc.2 i a u ha (by simpa [Value.cells] using hu))
      simpa using this
    · cases hl
def argsFit (P : Program) (B n : Nat) : List TypeId → List AV → Prop
  | [], [] => True
  | t :: ts, a :: az => argFits P B n t a ∧ argsFit P B n ts az
  | _, _ => False
theorem args_rep (hβ : Bulk β) {n base : Nat} : ∀ (ts : List TypeId) (vs : List Value) (ds : List (DataW H)) (ps : List MemPlace), (∀ t ∈ ts, layB P n t = true) → (∀ (j : Nat) t v, ts[j]? = some t → vs[j]? = some v → Value.okWide P W .any base t v) →
    DataW.TrodAll enc P W 0 (fun _ => true) true ts vs ds ps → (∀ d ∈ ds, β d ≤ B) → ∃ az, argsFit P B n ts az ∧ vs.length = az.length ∧ ∀ (i : Nat) a v, az[i]? = some a → vs[i]? = some v → RepP W (fun _ b => b < W.heap.size) a v
  | [], [], [], ps, _, _, h, _ => ⟨[], trivial, rfl, fun i a v ha => by simp at ha⟩
  | t :: ts, v :: vs, d :: ds, ps, hl, hok, h, hb => by
    obtain ⟨p, q, h1, h2, rfl⟩ := h
    obtain ⟨a, ha, hr⟩ := arg_rep hβ (hl t (by simp)) (hok 0 t v rfl rfl) h1 (hb d (by simp))
    obtain ⟨az, k1, k2, k3⟩ := args_rep hβ ts vs ds q (fun t' ht => hl t' (by simp [ht])) (fun j t' v' ht hv => hok (j + 1) t' v' (by simpa using ht) (by simpa using hv)) h2 (fun d hd => hb d (by simp [hd]))
    refine ⟨a :: az, ⟨ha, k1⟩, by simp [k2], fun i b u hb hu => ?_⟩
    cases i with
    | zero => simp at hb hu; subst hb hu; exact hr
    | succ i => simp at hb hu; exact k3 i b u hb hu
  | [], [], _ :: _, _, _, _, h, _ => h.elim
  | [], _ :: _, _, _, _, _, h, _ => h.elim
  | _ :: _, [], _, _, _, _, h, _ => h.elim
  | _ :: _, _ :: _, [], _, _, _, h, _ => h.elim
theorem law_contract (hβ : Bulk β) {f : Nat} {fn : Func} {c : Code} {s : ChangeSpec} {apart fresh handsOn again : Bool} {args : Array Value} {ds gs : List (DataW H)} {before : List MemPlace} {tb n base : Nat}
    (hf : P.funcs[f]? = some fn) (hn : (fn.name == "runtime.NumGoroutine") = false) (hbody : fn.body = some c)
    (hlay : ∀ t ∈ fn.params.toList, layB P n t = true) (hP : ∀ az, argsFit P B n fn.params.toList az → PureSpec P f az (.val (.bool true)))
    (hl : laidOutB P = true) (hparams : ∀ t ∈ fn.params.toList, P.readableRec t = true ∧ t < P.types.size) (hrt : fn.resultTypes = #[tb]) (hb : P.underlying tb = some .bool) (hvars : s.vars = [])
    (hfn : (s.fn H (ds ++ [])).results = [.lit (.bool true)] ∧ (s.fn H (ds ++ [])).args = ds ∧ (s.fn H (ds ++ [])).vars = [])
    (hval : ∀ (j : Nat) t v, fn.params[j]? = some t → args[j]? = some v → Value.okWide P W .any base t v)
    (hW : DataW.Whole enc P fn.params.toList s.vars apart W args.toList ds gs before) (hds : ∀ d ∈ ds, β d ≤ B) : Calls P f args W fun e W' => ∃ v, e = .returned v ∧ s.post enc P fn apart fresh handsOn again W args v W' := by
  obtain ⟨p, q, hA, _⟩ := id hW
  obtain ⟨az, k1, k2, k3⟩ := args_rep hβ (base := base) fn.params.toList args.toList ds p hlay (fun j t v ht hv => hval j t v (by simpa using ht) (by simpa using hv)) hA hds
  have hc := hP az k1 W (fun _ _ => True) args.toList k2 (fun i a v ha hv => (k3 i a v ha hv).mono (fun _ b hb => ⟨⟨trivial, hb⟩, rfl⟩))
  have hr : (callFunc f args).run P W = .ok (.enter f args) W := by
    have hn' : ¬ fn.name = "runtime.NumGoroutine" := by simpa using hn
    simp [callFunc, hf, hn', hbody]
  simp only [Array.toArray_toList] at hc
  unfold CallsX at hc
  rw [hr] at hc
  refine Calls.mono hc (fun e W' h => ?_)
  obtain ⟨v, rfl, h1, h2⟩ := h
  have hv : v = .bool true := by cases h1; rfl
  subst hv
  exact ⟨_, rfl, law_post hl hparams hrt hb hvars hfn hW h2⟩
end
end Go.Vm
end
section
set_option linter.unusedVariables false
set_option linter.unusedSimpArgs false
namespace Go.Vm
section
variable {P : Program} {B n : Nat} {t : TypeId} {az : List AV}
theorem fits_int {k : IntKind} (hu : P.underlying t = some (.int k)) (h : fitsD P B n t az) : ∃ m, az = [.val (.int k m)] ∧ (Lit.int k m).wf = true := by
  cases n with
  | zero => exact h.elim
  | succ n => unfold fitsD at h; simp only [hu] at h; exact h
theorem fits_str (hu : P.underlying t = some .string) (h : fitsD P B n t az) : ∃ s : ByteArray, az = [.val (.string s)] ∧ s.size ≤ B := by
  cases n with
  | zero => exact h.elim
  | succ n => unfold fitsD at h; simp only [hu] at h; exact h
theorem fits_slice {e : TypeId} (hu : P.underlying t = some (.slice e)) (h : fitsD P B n t az) : ∃ xs m, az = [.sl xs] ∧ xs.length ≤ B ∧ ∀ cs ∈ xs, fitsD P B m e cs := by
  cases n with
  | zero => exact h.elim
  | succ n => unfold fitsD at h; simp only [hu] at h; obtain ⟨xs, h1, h2, h3⟩ := h; exact ⟨xs, n, h1, h2, h3⟩
theorem fits_struct {fs : Array Field} (hu : P.underlying t = some (.struct fs)) (h : fitsD P B n t az) :
    ∃ (parts : List (List AV)) (m : Nat), az = parts.flatten ∧ parts.length = fs.toList.length ∧ ∀ (i : Nat) f p, fs.toList[i]? = some f → parts[i]? = some p → fitsD P B m f.type p := by
  cases n with
  | zero => exact h.elim
  | succ n => unfold fitsD at h; simp only [hu] at h; obtain ⟨parts, h1, h2, h3⟩ := h; exact ⟨parts, n, h1, h2, h3⟩
theorem fits_types {ts : List TypeId} (h : fitsD P B n t az) (hu : P.underlying t = some (.struct (P.fieldsOf t))) (hm : (P.fieldsOf t).toList.map (·.type) = ts) :
    ∃ (parts : List (List AV)) (m : Nat), az = parts.flatten ∧ parts.length = ts.length ∧ ∀ (i : Nat) u p, ts[i]? = some u → parts[i]? = some p → fitsD P B m u p := by
  obtain ⟨parts, m, h1, h2, h3⟩ := fits_struct hu h
  subst hm
  refine ⟨parts, m, h1, by simpa using h2, fun i u p hu hp => ?_⟩
  rw [List.getElem?_map] at hu
  obtain ⟨f, hf, rfl⟩ := Option.map_eq_some_iff.1 hu
  exact h3 i f p hf hp
theorem fits_two (t1 t2 : TypeId) (h : fitsD P B n t az) (hu : P.underlying t = some (.struct (P.fieldsOf t)) := by kernel_rfl) (hm : (P.fieldsOf t).toList.map (·.type) = [t1, t2] := by kernel_rfl) :
    ∃ p q m, az = p ++ q ∧ fitsD P B m t1 p ∧ fitsD P B m t2 q := by
  obtain ⟨parts, m, h1, h2, h3⟩ := fits_types h hu hm
  match parts, h2 with
  | [p, q], _ => exact ⟨p, q, m, by simpa using h1, h3 0 t1 p rfl rfl, h3 1 t2 q rfl rfl⟩
theorem fits_three (t1 t2 t3 : TypeId) (h : fitsD P B n t az) (hu : P.underlying t = some (.struct (P.fieldsOf t)) := by kernel_rfl) (hm : (P.fieldsOf t).toList.map (·.type) = [t1, t2, t3] := by kernel_rfl) :
    ∃ p q r m, az = p ++ q ++ r ∧ fitsD P B m t1 p ∧ fitsD P B m t2 q ∧ fitsD P B m t3 r := by
  obtain ⟨parts, m, h1, h2, h3⟩ := fits_types h hu hm
  match parts, h2 with
  | [p, q, r], _ => exact ⟨p, q, r, m, by simpa using h1, h3 0 t1 p rfl rfl, h3 1 t2 q rfl rfl, h3 2 t3 r rfl rfl⟩
theorem fits_list {α : Type} {cells : α → List AV} {Q : α → Prop} {xs : List (List AV)} (h : ∀ cs ∈ xs, ∃ a, cs = cells a ∧ Q a) : ∃ l : List α, xs = l.map cells ∧ ∀ a ∈ l, Q a := by
  induction xs with
  | nil => exact ⟨[], rfl, fun a ha => by cases ha⟩
  | cons x xs ih =>
    obtain ⟨a, h1, h2⟩ := h x (by simp)
    obtain ⟨l, h3, h4⟩ := ih (fun cs hcs => h cs (by simp [hcs]))
    refine ⟨a :: l, by simp [h1, h3], fun b hb => ?_⟩
    rcases List.mem_cons.1 hb with rfl | hb
    · exact h2
    · exact h4 b hb
end
end Go.Vm
end
section
namespace Go.Proofs
open Go.Vm
set_option linter.unusedVariables false
def iok (m : Int) : Prop := -9223372036854775808 ≤ m ∧ m < 9223372036854775808
theorem iok_wf {m : Int} (h : (Lit.int .i64 m).wf = true) : iok m := by
  have h1 : -9223372036854775808 ≤ m ∧ m ≤ 9223372036854775807 := by simpa [Lit.wf, IntKind.min, IntKind.max, IntKind.bits, IntKind.signed] using h
  exact ⟨h1.1, by omega⟩
def Val.ok (B : Nat) (x : Val) : Prop := (iok x.fKind) ∧ (iok x.fN)
theorem fits_Val59 {B n : Nat} {us : List AV} (h : fitsD Try.prog B n 59 us) : ∃ x : Val, us = Val.c x ∧ Val.ok B x := by
  obtain ⟨p, q, m, rfl, h0, h1⟩ := fits_two 3 3 h
  obtain ⟨x0, rfl, g0⟩ := fits_int (k := .i64) (by kernel_rfl) h0
  obtain ⟨x1, rfl, g1⟩ := fits_int (k := .i64) (by kernel_rfl) h1
  exact ⟨⟨x0, x1⟩, rfl, iok_wf g0, iok_wf g1⟩
def Node.ok (B : Nat) (x : Node) : Prop := (x.fClass.size ≤ B) ∧ (x.fVals.length ≤ B ∧ ∀ y ∈ x.fVals, Val.ok B y)
theorem fits_Node57 {B n : Nat} {us : List AV} (h : fitsD Try.prog B n 57 us) : ∃ x : Node, us = Node.c x ∧ Node.ok B x := by
  obtain ⟨p, q, m, rfl, h0, h1⟩ := fits_two 9 24 h
  obtain ⟨x0, rfl, g0⟩ := fits_str (by kernel_rfl) h0
  obtain ⟨y1, m1, rfl, g1, k1⟩ := fits_slice (e := 59) (by kernel_rfl) h1
  obtain ⟨x1, rfl, l1⟩ := fits_list (cells := Val.c) (Q := Val.ok B) (fun cs hcs => fits_Val59 (k1 cs hcs))
  rw [List.length_map] at g1
  exact ⟨⟨x0, x1⟩, rfl, g0, ⟨g1, l1⟩⟩
def Graph.ok (B : Nat) (x : Graph) : Prop := (x.fNodes.length ≤ B ∧ ∀ y ∈ x.fNodes, Node.ok B y) ∧ (x.fRoots.length ≤ B ∧ ∀ y ∈ x.fRoots, Val.ok B y)
theorem fits_Graph26 {B n : Nat} {us : List AV} (h : fitsD Try.prog B n 26 us) : ∃ x : Graph, us = Graph.c x ∧ Graph.ok B x := by
  obtain ⟨p, q, m, rfl, h0, h1⟩ := fits_two 23 24 h
  obtain ⟨y0, m0, rfl, g0, k0⟩ := fits_slice (e := 57) (by kernel_rfl) h0
  obtain ⟨x0, rfl, l0⟩ := fits_list (cells := Node.c) (Q := Node.ok B) (fun cs hcs => fits_Node57 (k0 cs hcs))
  rw [List.length_map] at g0
  obtain ⟨y1, m1, rfl, g1, k1⟩ := fits_slice (e := 59) (by kernel_rfl) h1
  obtain ⟨x1, rfl, l1⟩ := fits_list (cells := Val.c) (Q := Val.ok B) (fun cs hcs => fits_Val59 (k1 cs hcs))
  rw [List.length_map] at g1
  exact ⟨⟨x0, x1⟩, rfl, ⟨g0, l0⟩, ⟨g1, l1⟩⟩
def Col.ok (B : Nat) (x : Col) : Prop := (x.fName.size ≤ B) ∧ (iok x.fKind) ∧ (x.fClass.size ≤ B)
theorem fits_Col93 {B n : Nat} {us : List AV} (h : fitsD Try.prog B n 93 us) : ∃ x : Col, us = Col.c x ∧ Col.ok B x := by
  obtain ⟨p, q, r, m, rfl, h0, h1, h2⟩ := fits_three 9 3 9 h
  obtain ⟨x0, rfl, g0⟩ := fits_str (by kernel_rfl) h0
  obtain ⟨x1, rfl, g1⟩ := fits_int (k := .i64) (by kernel_rfl) h1
  obtain ⟨x2, rfl, g2⟩ := fits_str (by kernel_rfl) h2
  exact ⟨⟨x0, x1, x2⟩, rfl, g0, iok_wf g1, g2⟩
def Form.ok (B : Nat) (x : Form) : Prop := (x.fName.size ≤ B) ∧ (x.fCols.length ≤ B ∧ ∀ y ∈ x.fCols, Col.ok B y)
theorem fits_Form91 {B n : Nat} {us : List AV} (h : fitsD Try.prog B n 91 us) : ∃ x : Form, us = Form.c x ∧ Form.ok B x := by
  obtain ⟨p, q, m, rfl, h0, h1⟩ := fits_two 9 89 h
  obtain ⟨x0, rfl, g0⟩ := fits_str (by kernel_rfl) h0
  obtain ⟨y1, m1, rfl, g1, k1⟩ := fits_slice (e := 93) (by kernel_rfl) h1
  obtain ⟨x1, rfl, l1⟩ := fits_list (cells := Col.c) (Q := Col.ok B) (fun cs hcs => fits_Col93 (k1 cs hcs))
  rw [List.length_map] at g1
  exact ⟨⟨x0, x1⟩, rfl, g0, ⟨g1, l1⟩⟩
def Give.ok (B : Nat) (x : Give) : Prop := (x.fFrom.size ≤ B) ∧ (iok x.fHow) ∧ (iok x.fN)
def Rule.ok (B : Nat) (x : Rule) : Prop := (x.fClass.size ≤ B) ∧ (x.fTo.size ≤ B) ∧ (x.fGives.length ≤ B ∧ ∀ y ∈ x.fGives, Give.ok B y)
end Go.Proofs
end
section
namespace Go.Proofs
open Go.Vm
theorem formSz_ok {l : List Form} {B n : Nat} (h : l.length ≤ B ∧ ∀ y ∈ l, Form.ok B y) (hn : B < n) : FormSz n l :=
  ⟨by omega, fun f hf => ⟨by have := (h.2 f hf).1; omega, by have := (h.2 f hf).2.1; omega, fun c hc => by have := ((h.2 f hf).2.2 c hc).1; omega⟩⟩
theorem graphSz_ok {g : Graph} {B n : Nat} (h : Graph.ok B g) (hn : B < n) : GraphSz n g :=
  ⟨by have := h.1.1; omega, by have := h.2.1; omega, fun x hx => by have := (h.1.2 x hx).2.1; omega⟩
theorem packFormsplain {l : List Form} {g : Graph} (hl : l.length ≤ 1048576 ∧ ∀ y ∈ l, Form.ok 1048576 y) (hg : Graph.ok 1048576 g) : ∃ n, f3 n l g = some true :=
  ⟨4194304, f3_true (formSz_ok hl (by decide)) (graphSz_ok hg (by decide)) (by decide) (by decide)⟩
end Go.Proofs
end
