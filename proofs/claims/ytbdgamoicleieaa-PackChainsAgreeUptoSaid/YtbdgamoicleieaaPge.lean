/- Texts of this claim, one behind the other. -/
import Derived.Test.YtbdgamoicleieaaPgd
import Derived.ChangeFn
import Derived.Carry
import Derived.ChangeSame
import Derived.RowKit
import Derived.OpenShut
import Derived.ChangeShapes
import Derived.KernelRfl
set_option linter.unusedVariables false
set_option linter.unusedSimpArgs false
set_option linter.unnecessarySimpa false
section
set_option linter.unusedVariables false
set_option maxRecDepth 100000
set_option maxHeartbeats 4000000
namespace Go.Proofs
open Go.Vm
attribute [local irreducible] vOps vDraw vC vK retP retH PureSpec HSpec
theorem ic121 : fnIC Try.prog H0 121 = some ([.cell 4 97, .tmp 5], 108, (.seq (.ops [zO 2 (.box 0 97 [] (.t 0)), zO 3 (.box 0 97 [] (.t 1)), zO 4 (.alloc 0 97 [] [(.string ⟨#[]⟩), (.int .i64 0), (.int .i64 0)]), zO 5 (.mov (.c (.bool false)))]) (.seq (.seq (.ops [zO 6 (.faddr (.t 3) 1), zO 7 (.ld (.t 6) 1 false), zO 8 (.sc (.bin .eql 3) [(.t 7), (.c (.int .i64 1))])]) (.cond (.t 8)
  (.seq (.ops [zO 9 (.ld (.t 2) 3 true), zU (.st true 3 [] (.t 4) (.t 9)), zO 5 (.mov (.c (.bool true)))]) .ret)
  .skip)) (.seq (.block 0 (.seq (.ops [zO 11 (.faddr (.t 2) 1), zO 12 (.ld (.t 11) 1 false), zO 13 (.sc (.bin .eql 3) [(.t 12), (.c (.int .i64 1))]), zM 10 13]) (.cond (.t 10)
  (.seq (.ops [zO 14 (.faddr (.t 2) 0), zO 15 (.ld (.t 14) 1 false), zO 16 (.faddr (.t 3) 0), zU (.st true 1 [] (.t 16) (.t 15))]) (.seq (.ops [zO 17 (.ld (.t 3) 3 true), zU (.st true 3 [] (.t 4) (.t 17)), zO 5 (.mov (.c (.bool true)))]) .ret))
  (.seq (.ops [zO 19 (.faddr (.t 2) 1), zO 20 (.ld (.t 19) 1 false), zO 21 (.sc (.bin .eql 3) [(.t 20), (.c (.int .i64 2))]), zM 22 21, zG 23 22 true (.faddr (.t 3) 1), zG 24 22 true (.ld (.t 23) 1 false), zG 25 22 true (.sc (.bin .eql 3) [(.t 24), (.c (.int .i64 3))]), zO 26 (.pick (.t 22) (.t 25) (.c (.bool false))), zM 18 26]) (.cond (.t 18)
  (.seq (.ops [zO 27 (.faddr (.t 2) 0), zO 28 (.ld (.t 27) 1 false), zO 29 (.bld [(.string ⟨#[]⟩), (.int .i64 0), (.int .i64 0)] [(0, 1, (.t 28)), (1, 1, (.c (.int .i64 1)))]), zU (.st true 3 [] (.t 4) (.t 29)), zO 5 (.mov (.c (.bool true)))]) .ret)
  (.seq (.ops [zO 31 (.faddr (.t 2) 1), zO 32 (.ld (.t 31) 1 false), zO 33 (.sc (.bin .eql 3) [(.t 32), (.c (.int .i64 2))]), zM 34 33, zG 35 34 true (.faddr (.t 3) 1), zG 36 34 true (.ld (.t 35) 1 false), zG 37 34 true (.sc (.bin .eql 3) [(.t 36), (.c (.int .i64 4))]), zO 38 (.pick (.t 34) (.t 37) (.c (.bool false))), zM 30 38]) (.cond (.t 30)
  (.seq (.draw [] [zQ (zO 39 (.ld (.t 2) 3 true)), ⟨zO 40 (.faddr (.t 3) 2), false, 0, 1⟩, ⟨zO 41 (.ld (.t 40) 1 false), false, 0, 1⟩, ⟨zO 42 (.sc (.bin .geq 3) [(.t 41), (.c (.int .i64 2))]), false, 0, 1⟩, ⟨zU (.st true 3 [] (.t 4) (.t 39)), true, 0, 1⟩, ⟨zM 5 42, false, 1, 1⟩]) .ret)
  (.seq (.ops [zO 44 (.faddr (.t 2) 1), zO 45 (.ld (.t 44) 1 false), zO 46 (.sc (.bin .eql 3) [(.t 45), (.c (.int .i64 4))]), zM 47 46, zG 48 47 true (.faddr (.t 3) 1), zG 49 47 true (.ld (.t 48) 1 false), zG 50 47 true (.sc (.bin .eql 3) [(.t 49), (.c (.int .i64 4))]), zO 51 (.pick (.t 47) (.t 50) (.c (.bool false))), zM 43 51]) (.cond (.t 43)
  (.seq (.ops [zO 52 (.faddr (.t 2) 2), zO 53 (.ld (.t 52) 1 false), zO 54 (.faddr (.t 3) 2), zO 55 (.ld (.t 54) 1 false), zO 56 (.sc .mn [(.t 53), (.t 55)]), zO 57 (.faddr (.t 2) 2), zU (.st true 1 [] (.t 57) (.t 56))]) (.seq (.ops [zO 58 (.ld (.t 2) 3 true), zU (.st true 3 [] (.t 4) (.t 58)), zO 5 (.mov (.c (.bool true)))]) .ret))
  (.seq (.ops [zO 60 (.faddr (.t 2) 1), zO 61 (.ld (.t 60) 1 false), zO 62 (.sc (.bin .eql 3) [(.t 61), (.c (.int .i64 5))]), zM 63 62, zG 64 63 true (.faddr (.t 3) 1), zG 65 63 true (.ld (.t 64) 1 false), zG 66 63 true (.sc (.bin .eql 3) [(.t 65), (.c (.int .i64 5))]), zO 67 (.pick (.t 63) (.t 66) (.c (.bool false))), zM 59 67]) (.cond (.t 59)
  (.seq (.ops [zO 68 (.ld (.t 2) 3 true), zU (.st true 3 [] (.t 4) (.t 68)), zO 5 (.mov (.c (.bool true)))]) .ret)
  (.seq (.ops [zO 70 (.faddr (.t 2) 1), zO 71 (.ld (.t 70) 1 false), zO 72 (.sc (.bin .eql 3) [(.t 71), (.c (.int .i64 6))]), zM 73 72, zG 74 73 true (.faddr (.t 3) 1), zG 75 73 true (.ld (.t 74) 1 false), zG 76 73 true (.sc (.bin .eql 3) [(.t 75), (.c (.int .i64 2))]), zO 77 (.pick (.t 73) (.t 76) (.c (.bool false))), zM 69 77]) (.cond (.t 69)
  (.seq (.ops [zO 78 (.ld (.t 2) 3 true), zU (.st true 3 [] (.t 4) (.t 78)), zO 5 (.mov (.c (.bool true)))]) .ret)
  (.seq (.ops [zO 80 (.faddr (.t 2) 1), zO 81 (.ld (.t 80) 1 false), zO 82 (.sc (.bin .eql 3) [(.t 81), (.c (.int .i64 6))]), zM 83 82, zG 84 83 true (.faddr (.t 3) 1), zG 85 83 true (.ld (.t 84) 1 false), zG 86 83 true (.sc (.bin .eql 3) [(.t 85), (.c (.int .i64 3))]), zO 87 (.pick (.t 83) (.t 86) (.c (.bool false))), zM 79 87]) (.cond (.t 79)
  (.seq (.draw [] [zQ (zO 88 (.ld (.t 2) 3 true)), zQ (zO 89 (.faddr (.t 2) 2)), zQ (zO 90 (.ld (.t 89) 1 false)), zQ (zO 91 (.call 86 [(.t 90), (.c (.int .i64 0)), (.c (.int .i64 1))])), ⟨zU (.st true 3 [] (.t 4) (.t 88)), true, 0, 1⟩, ⟨zM 5 91, false, 1, 1⟩]) .ret)
  (.seq (.ops [zO 93 (.faddr (.t 2) 1), zO 94 (.ld (.t 93) 1 false), zO 95 (.sc (.bin .eql 3) [(.t 94), (.c (.int .i64 6))]), zM 96 95, zG 97 96 true (.faddr (.t 3) 1), zG 98 96 true (.ld (.t 97) 1 false), zG 99 96 true (.sc (.bin .eql 3) [(.t 98), (.c (.int .i64 4))]), zO 100 (.pick (.t 96) (.t 99) (.c (.bool false))), zM 92 100]) (.cond (.t 92)
  (.seq (.draw [] [zQ (zO 101 (.ld (.t 2) 3 true)), ⟨zO 102 (.faddr (.t 2) 2), false, 0, 1⟩, ⟨zO 103 (.ld (.t 102) 1 false), false, 0, 1⟩, ⟨zO 104 (.faddr (.t 3) 2), false, 0, 1⟩, ⟨zO 105 (.ld (.t 104) 1 false), false, 0, 1⟩, ⟨zO 106 (.sc (.bin .lss 3) [(.t 103), (.t 105)]), false, 0, 1⟩, ⟨zU (.st true 3 [] (.t 4) (.t 101)), true, 0, 1⟩, ⟨zM 5 106, false, 1, 1⟩]) .ret)
  .skip))))))))))))))))) (.seq (.ops [zO 107 (.bld [(.string ⟨#[]⟩), (.int .i64 0), (.int .i64 0)] []), zU (.st true 3 [] (.t 4) (.t 107)), zO 5 (.mov (.c (.bool false)))]) .ret))))) := by kernel_rfl
def f121_k47 (a1 : Give) (a2 : Give) (x49 : Bool) : Option (Give × Bool) := (bif x49 then some (a1, (decide (a1.fN < a2.fN))) else some ((Give.mk (ByteArray.mk #[]) 0 0), false))
def f121_k40 (n : Nat) (a1 : Give) (a2 : Give) (x42 : Bool) : Option (Give × Bool) := (bif x42 then ((f86 n a1.fN 0 1).bind fun r45 => some (a1, r45)) else (bif (a1.fHow == 6) then (f121_k47 a1 a2 (a2.fHow == 4)) else (f121_k47 a1 a2 false)))
def f121_k35 (a1 : Give) (a2 : Give) (n : Nat) (x37 : Bool) : Option (Give × Bool) := (bif x37 then some (a1, true) else (bif (a1.fHow == 6) then (f121_k40 n a1 a2 (a2.fHow == 3)) else (f121_k40 n a1 a2 false)))
def f121_k30 (a1 : Give) (a2 : Give) (n : Nat) (x32 : Bool) : Option (Give × Bool) := (bif x32 then some (a1, true) else (bif (a1.fHow == 6) then (f121_k35 a1 a2 n (a2.fHow == 2)) else (f121_k35 a1 a2 n false)))
def f121_k24 (a1 : Give) (a2 : Give) (n : Nat) (x26 : Bool) : Option (Give × Bool) := (bif x26 then some ((Give.mk a1.fFrom a1.fHow (mnI a1.fN a2.fN)), true) else (bif (a1.fHow == 5) then (f121_k30 a1 a2 n (a2.fHow == 5)) else (f121_k30 a1 a2 n false)))
def f121_k19 (a1 : Give) (a2 : Give) (n : Nat) (x21 : Bool) : Option (Give × Bool) := (bif x21 then some (a1, (decide (a2.fN ≥ 2))) else (bif (a1.fHow == 4) then (f121_k24 a1 a2 n (a2.fHow == 4)) else (f121_k24 a1 a2 n false)))
def f121_k14 (a1 : Give) (a2 : Give) (n : Nat) (x16 : Bool) : Option (Give × Bool) := (bif x16 then some ((Give.mk a1.fFrom 1 0), true) else (bif (a1.fHow == 2) then (f121_k19 a1 a2 n (a2.fHow == 4)) else (f121_k19 a1 a2 n false)))
def f121 (n : Nat) (a1 : Give) (a2 : Give) : Option (Give × Bool) := (bif (a2.fHow == 1) then some (a1, true) else (bif (a1.fHow == 1) then some ((Give.mk a1.fFrom a2.fHow a2.fN), true) else (bif (a1.fHow == 2) then (f121_k14 a1 a2 n (a2.fHow == 3)) else (f121_k14 a1 a2 n false))))
def f121_r (r : (Give × Bool)) : AV := (.tup [(.agg [(vS r.1.fFrom), (vI r.1.fHow), (vI r.1.fN)]), (vB r.2)])
theorem p_f121 {n : Nat} {a1 : Give} {a2 : Give} {r : (Give × Bool)} (h : f121 n a1 a2 = some r) : PureSpec Try.prog 121 [(.agg [(vS a1.fFrom), (vI a1.fHow), (vI a1.fN)]), (.agg [(vS a2.fFrom), (vI a2.fHow), (vI a2.fN)])] (f121_r r) := by
 rw [f121.eq_1] at h
 refine pure_of hmix ic121 ?_
 refine go_to (mkd (.val undef) 108 0 [(0, (.agg [(vS a1.fFrom), (vI a1.fHow), (vI a1.fN)])), (1, (.agg [(vS a2.fFrom), (vI a2.fHow), (vI a2.fN)]))]) ?_
 refine s_so fun N3 k3 w3 => ?_
 refine o_h4 [(2, (.ptr 0 0)), (3, (.ptr 1 0)), (4, (.ptr 2 0)), (5, (vB false))] [(some (.box 97 [(vS a1.fFrom), (vI a1.fHow), (vI a1.fN)])), (some (.box 97 [(vS a2.fFrom), (vI a2.fHow), (vI a2.fN)])), (some (.box 97 [(vS (ByteArray.mk #[])), (vI 0), (vI 0)]))] ?_
 refine o_end (k3 _ ?_)
 refine s_seq fun N4 k4 w4 => ?_
 refine s_so fun N5 k5 w5 => ?_
 refine o_r3 [(6, (.ptr 1 1)), (7, (vI a2.fHow)), (8, (vB (a2.fHow == 1)))] ?_
 refine o_end (k5 _ ?_)
 refine i_c [8] h (fun h => ?_) (fun h => ?_)
 · refine s_so fun N7 k7 w7 => ?_
   refine o_h3 [(5, (vB true)), (9, (.agg [(vS a1.fFrom), (vI a1.fHow), (vI a1.fN)]))] [(some (.box 97 [(vS a1.fFrom), (vI a1.fHow), (vI a1.fN)])), (some (.box 97 [(vS a2.fFrom), (vI a2.fHow), (vI a2.fN)])), (some (.box 97 [(vS a1.fFrom), (vI a1.fHow), (vI a1.fN)]))] ?_
   refine o_end (k7 _ ?_)
   exact c_ret (rets [] [(.agg [(vS a1.fFrom), (vI a1.fHow), (vI a1.fN)]), (vB true)] [(.agg [(vS a1.fFrom), (vI a1.fHow), (vI a1.fN)]), (vB true)] h)
 · refine c_skip (k4 _ ?_)
   refine s_seq fun N8 k8 w8 => ?_
   refine c_block fun E9 hE9 hO9 => ?_
   refine s_so fun N10 k10 w10 => ?_
   refine o_r4 [(10, (vB (a1.fHow == 1))), (11, (.ptr 0 1)), (12, (vI a1.fHow)), (13, (vB (a1.fHow == 1)))] ?_
   refine o_end (k10 _ ?_)
   refine i_c [10, 13] h (fun h => ?_) (fun h => ?_)
   · refine s_so fun N12 k12 w12 => ?_
     refine o_h4 [(14, (.ptr 0 0)), (15, (vS a1.fFrom)), (16, (.ptr 1 0))] [(some (.box 97 [(vS a1.fFrom), (vI a1.fHow), (vI a1.fN)])), (some (.box 97 [(vS a1.fFrom), (vI a2.fHow), (vI a2.fN)])), (some (.box 97 [(vS (ByteArray.mk #[])), (vI 0), (vI 0)]))] ?_
     refine o_end (k12 _ ?_)
     refine s_so fun N13 k13 w13 => ?_
     refine o_h3 [(5, (vB true)), (17, (.agg [(vS a1.fFrom), (vI a2.fHow), (vI a2.fN)]))] [(some (.box 97 [(vS a1.fFrom), (vI a1.fHow), (vI a1.fN)])), (some (.box 97 [(vS a1.fFrom), (vI a2.fHow), (vI a2.fN)])), (some (.box 97 [(vS a1.fFrom), (vI a2.fHow), (vI a2.fN)]))] ?_
     refine o_end (k13 _ ?_)
     exact c_ret (rets [] [(.agg [(vS a1.fFrom), (vI a2.fHow), (vI a2.fN)]), (vB true)] [(.agg [(vS a1.fFrom), (vI a2.fHow), (vI a2.fN)]), (vB true)] h)
   · refine J1 (r := r) (fun (x16 : Bool) => ⟨(mkd .any 108 0 [(2, (.ptr 0 0)), (3, (.ptr 1 0)), (4, (.ptr 2 0)), (18, (vB x16))]), [(some (.box 97 [(vS a1.fFrom), (vI a1.fHow), (vI a1.fN)])), (some (.box 97 [(vS a2.fFrom), (vI a2.fHow), (vI a2.fN)])), (some (.box 97 [(vS (ByteArray.mk #[])), (vI 0), (vI 0)]))]⟩) (f121_k14 a1 a2 n) ?_ ?_
     · intro x16 h
       rw [f121_k14.eq_1] at h
       refine i_c [18] h (fun h => ?_) (fun h => ?_)
       · refine s_so fun N18 k18 w18 => ?_
         refine o_h5 [(5, (vB true)), (27, (.ptr 0 0)), (28, (vS a1.fFrom)), (29, (.agg [(vS a1.fFrom), (vI 1), (vI 0)]))] [(some (.box 97 [(vS a1.fFrom), (vI a1.fHow), (vI a1.fN)])), (some (.box 97 [(vS a2.fFrom), (vI a2.fHow), (vI a2.fN)])), (some (.box 97 [(vS a1.fFrom), (vI 1), (vI 0)]))] ?_
         refine o_end (k18 _ ?_)
         exact c_ret (rets [] [(.agg [(vS a1.fFrom), (vI 1), (vI 0)]), (vB true)] [(.agg [(vS a1.fFrom), (vI 1), (vI 0)]), (vB true)] h)
       · refine J1 (r := r) (fun (x21 : Bool) => ⟨(mkd .any 108 0 [(2, (.ptr 0 0)), (3, (.ptr 1 0)), (4, (.ptr 2 0)), (30, (vB x21))]), [(some (.box 97 [(vS a1.fFrom), (vI a1.fHow), (vI a1.fN)])), (some (.box 97 [(vS a2.fFrom), (vI a2.fHow), (vI a2.fN)])), (some (.box 97 [(vS (ByteArray.mk #[])), (vI 0), (vI 0)]))]⟩) (f121_k19 a1 a2 n) ?_ ?_
         · intro x21 h
           rw [f121_k19.eq_1] at h
           refine i_c [30] h (fun h => ?_) (fun h => ?_)
           · refine s_seq fun N23 k23 w23 => ?_
             refine c_draw0 ?_
             refine d_r4 [(39, (.agg [(vS a1.fFrom), (vI a1.fHow), (vI a1.fN)])), (40, (.ptr 1 2)), (41, (vI a2.fN)), (42, (vB (decide (a2.fN ≥ 2))))] ?_
             refine d_te (.val undef) [(some (.box 97 [(vS a1.fFrom), (vI a1.fHow), (vI a1.fN)])), (some (.box 97 [(vS a2.fFrom), (vI a2.fHow), (vI a2.fN)])), (some (.box 97 [(vS a1.fFrom), (vI a1.fHow), (vI a1.fN)]))] (ra_cat ra_nil (ra_s (ra_t (ra_t (ra_t ra_nil))))) ?_
             refine d_r1 [(5, (vB (decide (a2.fN ≥ 2))))] ?_
             refine d_end (k23 _ ?_)
             exact c_ret (rets [] [(.agg [(vS a1.fFrom), (vI a1.fHow), (vI a1.fN)]), (vB (decide (a2.fN ≥ 2)))] [(.agg [(vS a1.fFrom), (vI a1.fHow), (vI a1.fN)]), (vB (decide (a2.fN ≥ 2)))] h)
           · refine J1 (r := r) (fun (x26 : Bool) => ⟨(mkd .any 108 0 [(2, (.ptr 0 0)), (3, (.ptr 1 0)), (4, (.ptr 2 0)), (43, (vB x26))]), [(some (.box 97 [(vS a1.fFrom), (vI a1.fHow), (vI a1.fN)])), (some (.box 97 [(vS a2.fFrom), (vI a2.fHow), (vI a2.fN)])), (some (.box 97 [(vS (ByteArray.mk #[])), (vI 0), (vI 0)]))]⟩) (f121_k24 a1 a2 n) ?_ ?_
             · intro x26 h
               rw [f121_k24.eq_1] at h
               refine i_c [43] h (fun h => ?_) (fun h => ?_)
               · refine s_so fun N28 k28 w28 => ?_
                 refine o_h7 [(52, (.ptr 0 2)), (53, (vI a1.fN)), (54, (.ptr 1 2)), (55, (vI a2.fN)), (56, (vI (mnI a1.fN a2.fN))), (57, (.ptr 0 2))] [(some (.box 97 [(vS a1.fFrom), (vI a1.fHow), (vI (mnI a1.fN a2.fN))])), (some (.box 97 [(vS a2.fFrom), (vI a2.fHow), (vI a2.fN)])), (some (.box 97 [(vS (ByteArray.mk #[])), (vI 0), (vI 0)]))] ?_
                 refine o_end (k28 _ ?_)
                 refine s_so fun N29 k29 w29 => ?_
                 refine o_h3 [(5, (vB true)), (58, (.agg [(vS a1.fFrom), (vI a1.fHow), (vI (mnI a1.fN a2.fN))]))] [(some (.box 97 [(vS a1.fFrom), (vI a1.fHow), (vI (mnI a1.fN a2.fN))])), (some (.box 97 [(vS a2.fFrom), (vI a2.fHow), (vI a2.fN)])), (some (.box 97 [(vS a1.fFrom), (vI a1.fHow), (vI (mnI a1.fN a2.fN))]))] ?_
                 refine o_end (k29 _ ?_)
                 exact c_ret (rets [] [(.agg [(vS a1.fFrom), (vI a1.fHow), (vI (mnI a1.fN a2.fN))]), (vB true)] [(.agg [(vS a1.fFrom), (vI a1.fHow), (vI (mnI a1.fN a2.fN))]), (vB true)] h)
               · refine J1 (r := r) (fun (x32 : Bool) => ⟨(mkd .any 108 0 [(2, (.ptr 0 0)), (3, (.ptr 1 0)), (4, (.ptr 2 0)), (59, (vB x32))]), [(some (.box 97 [(vS a1.fFrom), (vI a1.fHow), (vI a1.fN)])), (some (.box 97 [(vS a2.fFrom), (vI a2.fHow), (vI a2.fN)])), (some (.box 97 [(vS (ByteArray.mk #[])), (vI 0), (vI 0)]))]⟩) (f121_k30 a1 a2 n) ?_ ?_
                 · intro x32 h
                   rw [f121_k30.eq_1] at h
                   refine i_c [59] h (fun h => ?_) (fun h => ?_)
                   · refine s_so fun N34 k34 w34 => ?_
                     refine o_h3 [(5, (vB true)), (68, (.agg [(vS a1.fFrom), (vI a1.fHow), (vI a1.fN)]))] [(some (.box 97 [(vS a1.fFrom), (vI a1.fHow), (vI a1.fN)])), (some (.box 97 [(vS a2.fFrom), (vI a2.fHow), (vI a2.fN)])), (some (.box 97 [(vS a1.fFrom), (vI a1.fHow), (vI a1.fN)]))] ?_
                     refine o_end (k34 _ ?_)
                     exact c_ret (rets [] [(.agg [(vS a1.fFrom), (vI a1.fHow), (vI a1.fN)]), (vB true)] [(.agg [(vS a1.fFrom), (vI a1.fHow), (vI a1.fN)]), (vB true)] h)
                   · refine J1 (r := r) (fun (x37 : Bool) => ⟨(mkd .any 108 0 [(2, (.ptr 0 0)), (3, (.ptr 1 0)), (4, (.ptr 2 0)), (69, (vB x37))]), [(some (.box 97 [(vS a1.fFrom), (vI a1.fHow), (vI a1.fN)])), (some (.box 97 [(vS a2.fFrom), (vI a2.fHow), (vI a2.fN)])), (some (.box 97 [(vS (ByteArray.mk #[])), (vI 0), (vI 0)]))]⟩) (f121_k35 a1 a2 n) ?_ ?_
                     · intro x37 h
                       rw [f121_k35.eq_1] at h
                       refine i_c [69] h (fun h => ?_) (fun h => ?_)
                       · refine s_so fun N39 k39 w39 => ?_
                         refine o_h3 [(5, (vB true)), (78, (.agg [(vS a1.fFrom), (vI a1.fHow), (vI a1.fN)]))] [(some (.box 97 [(vS a1.fFrom), (vI a1.fHow), (vI a1.fN)])), (some (.box 97 [(vS a2.fFrom), (vI a2.fHow), (vI a2.fN)])), (some (.box 97 [(vS a1.fFrom), (vI a1.fHow), (vI a1.fN)]))] ?_
                         refine o_end (k39 _ ?_)
                         exact c_ret (rets [] [(.agg [(vS a1.fFrom), (vI a1.fHow), (vI a1.fN)]), (vB true)] [(.agg [(vS a1.fFrom), (vI a1.fHow), (vI a1.fN)]), (vB true)] h)
                       · refine J1 (r := r) (fun (x42 : Bool) => ⟨(mkd .any 108 0 [(2, (.ptr 0 0)), (3, (.ptr 1 0)), (4, (.ptr 2 0)), (79, (vB x42))]), [(some (.box 97 [(vS a1.fFrom), (vI a1.fHow), (vI a1.fN)])), (some (.box 97 [(vS a2.fFrom), (vI a2.fHow), (vI a2.fN)])), (some (.box 97 [(vS (ByteArray.mk #[])), (vI 0), (vI 0)]))]⟩) (f121_k40 n a1 a2) ?_ ?_
                         · intro x42 h
                           rw [f121_k40.eq_1] at h
                           refine i_c [79] h (fun h => ?_) (fun h => ?_)
                           · refine s_seq fun N44 k44 w44 => ?_
                             refine c_draw0 ?_
                             refine d_r3 [(88, (.agg [(vS a1.fFrom), (vI a1.fHow), (vI a1.fN)])), (89, (.ptr 0 2)), (90, (vI a1.fN))] ?_
                             refine bnd h fun r45 g46 h => ?_
                             refine d_o (one_call (p_f86 g46)) ?_
                             refine d_te (.val undef) [(some (.box 97 [(vS a1.fFrom), (vI a1.fHow), (vI a1.fN)])), (some (.box 97 [(vS a2.fFrom), (vI a2.fHow), (vI a2.fN)])), (some (.box 97 [(vS a1.fFrom), (vI a1.fHow), (vI a1.fN)]))] (ra_cat (ra_cat ra_nil (ra_s (ra_s (ra_s ra_nil)))) (ra_s ra_nil)) ?_
                             refine d_r1 [(5, (vB r45))] ?_
                             refine d_end (k44 _ ?_)
                             exact c_ret (rets [] [(.agg [(vS a1.fFrom), (vI a1.fHow), (vI a1.fN)]), (vB r45)] [(.agg [(vS a1.fFrom), (vI a1.fHow), (vI a1.fN)]), (vB r45)] h)
                           · refine J1 (r := r) (fun (x49 : Bool) => ⟨(mkd .any 108 0 [(2, (.ptr 0 0)), (3, (.ptr 1 0)), (4, (.ptr 2 0)), (92, (vB x49))]), [(some (.box 97 [(vS a1.fFrom), (vI a1.fHow), (vI a1.fN)])), (some (.box 97 [(vS a2.fFrom), (vI a2.fHow), (vI a2.fN)])), (some (.box 97 [(vS (ByteArray.mk #[])), (vI 0), (vI 0)]))]⟩) (f121_k47 a1 a2) ?_ ?_
                             · intro x49 h
                               rw [f121_k47.eq_1] at h
                               refine i_c [92] h (fun h => ?_) (fun h => ?_)
                               · refine s_seq fun N51 k51 w51 => ?_
                                 refine c_draw0 ?_
                                 refine d_r6 [(101, (.agg [(vS a1.fFrom), (vI a1.fHow), (vI a1.fN)])), (102, (.ptr 0 2)), (103, (vI a1.fN)), (104, (.ptr 1 2)), (105, (vI a2.fN)), (106, (vB (decide (a1.fN < a2.fN))))] ?_
                                 refine d_te (.val undef) [(some (.box 97 [(vS a1.fFrom), (vI a1.fHow), (vI a1.fN)])), (some (.box 97 [(vS a2.fFrom), (vI a2.fHow), (vI a2.fN)])), (some (.box 97 [(vS a1.fFrom), (vI a1.fHow), (vI a1.fN)]))] (ra_cat ra_nil (ra_s (ra_t (ra_t (ra_t (ra_t (ra_t ra_nil))))))) ?_
                                 refine d_r1 [(5, (vB (decide (a1.fN < a2.fN))))] ?_
                                 refine d_end (k51 _ ?_)
                                 exact c_ret (rets [] [(.agg [(vS a1.fFrom), (vI a1.fHow), (vI a1.fN)]), (vB (decide (a1.fN < a2.fN)))] [(.agg [(vS a1.fFrom), (vI a1.fHow), (vI a1.fN)]), (vB (decide (a1.fN < a2.fN)))] h)
                               · refine c_skip (k8 _ ?_)
                                 refine s_so fun N52 k52 w52 => ?_
                                 refine o_r3 [(5, (vB false)), (107, (.agg [(vS (ByteArray.mk #[])), (vI 0), (vI 0)]))] ?_
                                 refine o_end (k52 _ ?_)
                                 exact c_ret (rets [] [(.agg [(vS (ByteArray.mk #[])), (vI 0), (vI 0)]), (vB false)] [(.agg [(vS (ByteArray.mk #[])), (vI 0), (vI 0)]), (vB false)] h)
                             · intro N47 w47
                               refine c_ops ?_
                               refine o_r4 [(93, (.ptr 0 1)), (94, (vI a1.fHow)), (95, (vB (a1.fHow == 6))), (96, (vB (a1.fHow == 6)))] ?_
                               refine i_o [95, 96] h (fun h => ?_) (fun h => ?_)
                               · refine o_r5 [(92, (vB (a2.fHow == 4))), (97, (.ptr 1 1)), (98, (vI a2.fHow)), (99, (vB (a2.fHow == 4))), (100, (vB (a2.fHow == 4)))] ?_
                                 exact o_end (w47 _ _ (wkm [2, 3, 4, 92] (whk (whk (whk wh_nil)))) h)
                               · refine o_r5 [(92, (vB false)), (97, (.val undef)), (98, (.val undef)), (99, (.val undef)), (100, (vB false))] ?_
                                 exact o_end (w47 _ _ (wkm [2, 3, 4, 92] (whk (whk (whk wh_nil)))) h)
                         · intro N40 w40
                           refine c_ops ?_
                           refine o_r4 [(80, (.ptr 0 1)), (81, (vI a1.fHow)), (82, (vB (a1.fHow == 6))), (83, (vB (a1.fHow == 6)))] ?_
                           refine i_o [82, 83] h (fun h => ?_) (fun h => ?_)
                           · refine o_r5 [(79, (vB (a2.fHow == 3))), (84, (.ptr 1 1)), (85, (vI a2.fHow)), (86, (vB (a2.fHow == 3))), (87, (vB (a2.fHow == 3)))] ?_
                             exact o_end (w40 _ _ (wkm [2, 3, 4, 79] (whk (whk (whk wh_nil)))) h)
                           · refine o_r5 [(79, (vB false)), (84, (.val undef)), (85, (.val undef)), (86, (.val undef)), (87, (vB false))] ?_
                             exact o_end (w40 _ _ (wkm [2, 3, 4, 79] (whk (whk (whk wh_nil)))) h)
                     · intro N35 w35
                       refine c_ops ?_
                       refine o_r4 [(70, (.ptr 0 1)), (71, (vI a1.fHow)), (72, (vB (a1.fHow == 6))), (73, (vB (a1.fHow == 6)))] ?_
                       refine i_o [72, 73] h (fun h => ?_) (fun h => ?_)
                       · refine o_r5 [(69, (vB (a2.fHow == 2))), (74, (.ptr 1 1)), (75, (vI a2.fHow)), (76, (vB (a2.fHow == 2))), (77, (vB (a2.fHow == 2)))] ?_
                         exact o_end (w35 _ _ (wkm [2, 3, 4, 69] (whk (whk (whk wh_nil)))) h)
                       · refine o_r5 [(69, (vB false)), (74, (.val undef)), (75, (.val undef)), (76, (.val undef)), (77, (vB false))] ?_
                         exact o_end (w35 _ _ (wkm [2, 3, 4, 69] (whk (whk (whk wh_nil)))) h)
                 · intro N30 w30
                   refine c_ops ?_
                   refine o_r4 [(60, (.ptr 0 1)), (61, (vI a1.fHow)), (62, (vB (a1.fHow == 5))), (63, (vB (a1.fHow == 5)))] ?_
                   refine i_o [62, 63] h (fun h => ?_) (fun h => ?_)
                   · refine o_r5 [(59, (vB (a2.fHow == 5))), (64, (.ptr 1 1)), (65, (vI a2.fHow)), (66, (vB (a2.fHow == 5))), (67, (vB (a2.fHow == 5)))] ?_
                     exact o_end (w30 _ _ (wkm [2, 3, 4, 59] (whk (whk (whk wh_nil)))) h)
                   · refine o_r5 [(59, (vB false)), (64, (.val undef)), (65, (.val undef)), (66, (.val undef)), (67, (vB false))] ?_
                     exact o_end (w30 _ _ (wkm [2, 3, 4, 59] (whk (whk (whk wh_nil)))) h)
             · intro N24 w24
               refine c_ops ?_
               refine o_r4 [(44, (.ptr 0 1)), (45, (vI a1.fHow)), (46, (vB (a1.fHow == 4))), (47, (vB (a1.fHow == 4)))] ?_
               refine i_o [46, 47] h (fun h => ?_) (fun h => ?_)
               · refine o_r5 [(43, (vB (a2.fHow == 4))), (48, (.ptr 1 1)), (49, (vI a2.fHow)), (50, (vB (a2.fHow == 4))), (51, (vB (a2.fHow == 4)))] ?_
                 exact o_end (w24 _ _ (wkm [2, 3, 4, 43] (whk (whk (whk wh_nil)))) h)
               · refine o_r5 [(43, (vB false)), (48, (.val undef)), (49, (.val undef)), (50, (.val undef)), (51, (vB false))] ?_
                 exact o_end (w24 _ _ (wkm [2, 3, 4, 43] (whk (whk (whk wh_nil)))) h)
         · intro N19 w19
           refine c_ops ?_
           refine o_r4 [(31, (.ptr 0 1)), (32, (vI a1.fHow)), (33, (vB (a1.fHow == 2))), (34, (vB (a1.fHow == 2)))] ?_
           refine i_o [33, 34] h (fun h => ?_) (fun h => ?_)
           · refine o_r5 [(30, (vB (a2.fHow == 4))), (35, (.ptr 1 1)), (36, (vI a2.fHow)), (37, (vB (a2.fHow == 4))), (38, (vB (a2.fHow == 4)))] ?_
             exact o_end (w19 _ _ (wkm [2, 3, 4, 30] (whk (whk (whk wh_nil)))) h)
           · refine o_r5 [(30, (vB false)), (35, (.val undef)), (36, (.val undef)), (37, (.val undef)), (38, (vB false))] ?_
             exact o_end (w19 _ _ (wkm [2, 3, 4, 30] (whk (whk (whk wh_nil)))) h)
     · intro N14 w14
       refine c_ops ?_
       refine o_r4 [(19, (.ptr 0 1)), (20, (vI a1.fHow)), (21, (vB (a1.fHow == 2))), (22, (vB (a1.fHow == 2)))] ?_
       refine i_o [21, 22] h (fun h => ?_) (fun h => ?_)
       · refine o_r5 [(18, (vB (a2.fHow == 3))), (23, (.ptr 1 1)), (24, (vI a2.fHow)), (25, (vB (a2.fHow == 3))), (26, (vB (a2.fHow == 3)))] ?_
         exact o_end (w14 _ _ (wkm [2, 3, 4, 18] (whk (whk (whk wh_nil)))) h)
       · refine o_r5 [(18, (vB false)), (23, (.val undef)), (24, (.val undef)), (25, (.val undef)), (26, (vB false))] ?_
         exact o_end (w14 _ _ (wkm [2, 3, 4, 18] (whk (whk (whk wh_nil)))) h)
theorem ic87 : fnIC Try.prog H0 87 = some ([.cell 6 100, .tmp 7], 103, (.seq (.ops [zO 3 (.box 0 100 [(2, 97, 3, 0)] (.t 0)), zO 4 (.box 0 100 [(2, 97, 3, 0)] (.t 1)), zO 6 (.alloc 0 100 [(2, 97, 3, 0)] [(.string ⟨#[]⟩), (.string ⟨#[]⟩), (.slice none 0 0)]), zO 7 (.mov (.c (.bool false)))]) (.seq (.ops [zO 16 (.faddr (.t 3) 0), zO 17 (.ld (.t 16) 1 false), zO 18 (.faddr (.t 4) 1), zO 19 (.ld (.t 18) 1 false), zO 20 (.bld [(.string ⟨#[]⟩), (.string ⟨#[]⟩), (.slice none 0 0)] [(0, 1, (.t 17)), (1, 1, (.t 19))]), zO 8 (.alloc 0 100 [(2, 97, 3, 0)] [(.string ⟨#[]⟩), (.string ⟨#[]⟩), (.slice none 0 0)]), zU (.st true 3 [(2, 97, 3, 0)] (.t 8) (.t 20))]) (.seq (.ops [zO 21 (.mkm 0), zM 9 21]) (.seq (.seq (.ops [zO 22 (.faddr (.t 4) 2), zO 23 (.ld (.t 22) 1 false), zO 24 (.len false (.t 23)), zO 25 (.mov (.c (.int .i64 0)))]) (.block 0 (.loop (.seq (.ops [zO 26 (.sc (.bin .lss 3) [(.t 25), (.t 24)])]) (.seq (.cond (.t 26)
  .skip
  (.exit 0)) (.seq (.block 1 (.seq (.ops [zO 27 (.iaddr 3 (.t 23) (.t 25)), zO 28 (.ld (.t 27) 3 true), zO 11 (.alloc 0 97 [] [(.string ⟨#[]⟩), (.int .i64 0), (.int .i64 0)]), zU (.st true 3 [] (.t 11) (.t 28))]) (.seq (.ops [zM 29 9, zO 30 (.faddr (.t 11) 0), zO 31 (.ld (.t 30) 1 false), zU (.mup none (.t 29) (.t 31) (.c (.bool true)))]) (.seq (.seq (.ops [zO 32 (.faddr (.t 11) 1), zO 33 (.ld (.t 32) 1 false), zO 34 (.sc (.bin .eql 3) [(.t 33), (.c (.int .i64 6))]), zM 35 34, zG 36 35 false (.faddr (.t 11) 1), zG 37 35 false (.ld (.t 36) 1 false), zG 38 35 false (.sc (.bin .eql 3) [(.t 37), (.c (.int .i64 7))]), zO 39 (.pick (.t 35) (.c (.bool true)) (.t 38))]) (.cond (.t 39)
  (.seq (.ops [zO 40 (.faddr (.t 8) 2), zO 41 (.ld (.t 40) 1 false), zO 42 (.ld (.t 11) 3 true), zO 43 (.isl 3 [(.t 42)]), zO 44 (.app 0 97 3 32 (.t 41) (.t 43)), zO 45 (.faddr (.t 8) 2), zU (.st true 1 [(0, 97, 3, 0)] (.t 45) (.t 44))]) (.exit 1))
  .skip)) (.seq (.draw [] [⟨zO 47 (.faddr (.t 3) 2), false, 0, 1⟩, ⟨zO 48 (.ld (.t 47) 1 false), false, 0, 1⟩, ⟨zM 49 2, false, 0, 1⟩, ⟨zO 50 (.faddr (.t 11) 0), false, 0, 1⟩, ⟨zO 51 (.ld (.t 50) 1 false), false, 0, 1⟩, ⟨zO 52 (.call 95 [(.t 49), (.t 51)]), false, 0, 1⟩, ⟨zO 53 (.iaddr 3 (.t 48) (.t 52)), false, 0, 1⟩, ⟨zO 54 (.ld (.t 53) 3 true), false, 0, 1⟩, ⟨zO 55 (.ld (.t 11) 3 true), false, 0, 1⟩, ⟨zO 56 (.call 121 [(.t 54), (.t 55)]), false, 0, 1⟩, ⟨zM 46 56, false, 0, 1⟩, ⟨zO 57 (.ext (.t 46) 0), false, 0, 1⟩, ⟨zO 58 (.ext (.t 46) 1), false, 0, 2⟩, ⟨zO 12 (.alloc 0 97 [] [(.string ⟨#[]⟩), (.int .i64 0), (.int .i64 0)]), true, 0, 1⟩, ⟨zU (.st true 3 [] (.t 12) (.t 57)), true, 1, 2⟩, ⟨zM 13 58, false, 2, 2⟩]) (.seq (.seq (.ops [zM 59 13, zO 60 (.sc (.un .not) [(.t 59)])]) (.cond (.t 60)
  (.seq (.ops [zO 61 (.bld [(.string ⟨#[]⟩), (.string ⟨#[]⟩), (.slice none 0 0)] []), zU (.st true 3 [(2, 97, 3, 0)] (.t 6) (.t 61)), zO 7 (.mov (.c (.bool false)))]) .ret)
  .skip)) (.ops [zO 62 (.faddr (.t 8) 2), zO 63 (.ld (.t 62) 1 false), zO 64 (.ld (.t 12) 3 true), zO 65 (.isl 3 [(.t 64)]), zO 66 (.app 0 97 3 32 (.t 63) (.t 65)), zO 67 (.faddr (.t 8) 2), zU (.st true 1 [(0, 97, 3, 0)] (.t 67) (.t 66))]))))))) (.ops [zO 68 (.sc (.bin .add 3) [(.t 25), (.c (.int .i64 1))]), zM 25 68]))))))) (.seq (.seq (.ops [zO 69 (.faddr (.t 3) 2), zO 70 (.ld (.t 69) 1 false), zO 71 (.len false (.t 70)), zO 72 (.mov (.c (.int .i64 0)))]) (.block 2 (.loop (.seq (.ops [zO 73 (.sc (.bin .lss 3) [(.t 72), (.t 71)])]) (.seq (.cond (.t 73)
  .skip
  (.exit 2)) (.seq (.block 3 (.seq (.ops [zM 74 72, zO 75 (.iaddr 3 (.t 70) (.t 72)), zO 76 (.ld (.t 75) 3 true), zO 15 (.alloc 0 97 [] [(.string ⟨#[]⟩), (.int .i64 0), (.int .i64 0)]), zM 14 74, zU (.st true 3 [] (.t 15) (.t 76))]) (.seq (.ops [zO 77 (.faddr (.t 15) 1), zO 78 (.ld (.t 77) 1 false), zO 79 (.sc (.bin .eql 3) [(.t 78), (.c (.int .i64 3))]), zM 80 79, zG 81 80 false (.faddr (.t 15) 1), zG 82 80 false (.ld (.t 81) 1 false), zG 83 80 false (.sc (.bin .eql 3) [(.t 82), (.c (.int .i64 4))]), zO 84 (.pick (.t 80) (.c (.bool true)) (.t 83)), zM 85 84, zG 86 85 false (.faddr (.t 15) 1), zG 87 85 false (.ld (.t 86) 1 false), zG 88 85 false (.sc (.bin .eql 3) [(.t 87), (.c (.int .i64 5))]), zO 89 (.pick (.t 85) (.c (.bool true)) (.t 88)), zM 90 89, zN 91 90 true 9, zN 92 90 true 2, zN 93 90 true 14, zG 94 90 true (.iaddr 3 (.t 92) (.t 93)), zG 95 90 true (.faddr (.t 94) 0), zG 96 90 true (.ld (.t 95) 1 false), zG 97 90 true (.lku none false (.bool false) (.t 91) (.t 96)), zG 98 90 true (.sc (.un .not) [(.t 97)]), zO 99 (.pick (.t 90) (.t 98) (.c (.bool false)))]) (.cond (.t 99)
  (.seq (.ops [zO 100 (.bld [(.string ⟨#[]⟩), (.string ⟨#[]⟩), (.slice none 0 0)] []), zU (.st true 3 [(2, 97, 3, 0)] (.t 6) (.t 100)), zO 7 (.mov (.c (.bool false)))]) .ret)
  .skip)))) (.ops [zO 101 (.sc (.bin .add 3) [(.t 72), (.c (.int .i64 1))]), zM 72 101]))))))) (.seq (.ops [zO 102 (.ld (.t 8) 3 true), zU (.st true 3 [(2, 97, 3, 0)] (.t 6) (.t 102)), zO 7 (.mov (.c (.bool true)))]) .ret))))))) := by kernel_rfl
def f87_k51 (x45 : Int) (c11k : Int → (List Give) → (List (ByteArray × Bool)) → Option (Rule × Bool)) (x79 : (List Give)) (x80 : (List (ByteArray × Bool))) : Option (Rule × Bool) := (c11k (wr .i64 (x45 + 1)) x79 x80)
def f87_k59 (x46 : (List Give)) (x54 : Give) (x47 : (List (ByteArray × Bool))) (n : Nat) (a3 : (List Col)) (a1 : Rule) (x45 : Int) (c11k : Int → (List Give) → (List (ByteArray × Bool)) → Option (Rule × Bool)) (x61 : Bool) : Option (Rule × Bool) := (bif x61 then ((app2 x46 [x54]).bind fun l64 => (f87_k51 x45 (c11k) l64 (mset x54.fFrom true x47))) else ((f95 n a3 x54.fFrom).bind fun r67 => ((gi a1.fGives r67).bind fun x69 => ((f121 n x69 x54).bind fun r71 => (bif (!r71.2) then some ((Rule.mk (ByteArray.mk #[]) (ByteArray.mk #[]) []), false) else ((app2 x46 [r71.1]).bind fun l77 => (f87_k51 x45 (c11k) l77 (mset x54.fFrom true x47))))))))
def f87_k121 (x112 : Int) (c87k : Int → Option (Rule × Bool)) (x134 : Bool) : Option (Rule × Bool) := (bif x134 then some ((Rule.mk (ByteArray.mk #[]) (ByteArray.mk #[]) []), false) else (c87k (wr .i64 (x112 + 1))))
def f87_k83 (a1 : Rule) (a2 : Rule) (x81 : (List Give)) : Option (Rule × Bool) := some ((Rule.mk a1.fClass a2.fTo x81), true)
def f87_l87 (a1 : Rule) (a3 : (List Col)) (x82 : (List (ByteArray × Bool))) (k83k : Option (Rule × Bool)) : Nat → Int → Option (Rule × Bool)
  | 0, _ => none
  | m87 + 1, x112 => (bif (decide (x112 < (len a1.fGives))) then ((gi a1.fGives x112).bind fun x119 => (bif (x119.fHow == 3) then ((gi a3 x112).bind fun x123 => (f87_k121 x112 (f87_l87 a1 a3 x82 (k83k) m87) (!((mget x123.fName x82).getD false)))) else (bif (x119.fHow == 4) then ((gi a3 x112).bind fun x127 => (f87_k121 x112 (f87_l87 a1 a3 x82 (k83k) m87) (!((mget x127.fName x82).getD false)))) else (bif (x119.fHow == 5) then ((gi a3 x112).bind fun x131 => (f87_k121 x112 (f87_l87 a1 a3 x82 (k83k) m87) (!((mget x131.fName x82).getD false)))) else (f87_k121 x112 (f87_l87 a1 a3 x82 (k83k) m87) false))))) else (k83k))
def f87_k7 (n : Nat) (a1 : Rule) (a3 : (List Col)) (a2 : Rule) (x81 : (List Give)) (x82 : (List (ByteArray × Bool))) : Option (Rule × Bool) := (f87_l87 a1 a3 x82 (f87_k83 a1 a2 x81) n 0)
def f87_l11 (a2 : Rule) (n : Nat) (a3 : (List Col)) (a1 : Rule) (k7k : (List Give) → (List (ByteArray × Bool)) → Option (Rule × Bool)) : Nat → Int → (List Give) → (List (ByteArray × Bool)) → Option (Rule × Bool)
  | 0, _, _, _ => none
  | m11 + 1, x45, x46, x47 => (bif (decide (x45 < (len a2.fGives))) then ((gi a2.fGives x45).bind fun x54 => (bif (x54.fHow == 6) then (f87_k59 x46 x54 x47 n a3 a1 x45 (f87_l11 a2 n a3 a1 (k7k) m11) true) else (f87_k59 x46 x54 x47 n a3 a1 x45 (f87_l11 a2 n a3 a1 (k7k) m11) (x54.fHow == 7)))) else (k7k x46 x47))
def f87 (n : Nat) (a1 : Rule) (a2 : Rule) (a3 : (List Col)) : Option (Rule × Bool) := (f87_l11 a2 n a3 a1 (f87_k7 n a1 a3 a2) n 0 [] [])
def f87_r (r : (Rule × Bool)) : AV := (.tup [(.agg [(vS r.1.fClass), (vS r.1.fTo), (vL Give.c r.1.fGives)]), (vB r.2)])
theorem p_f87 {n : Nat} {a1 : Rule} {a2 : Rule} {a3 : (List Col)} {r : (Rule × Bool)} (h : f87 n a1 a2 a3 = some r) : PureSpec Try.prog 87 [(.agg [(vS a1.fClass), (vS a1.fTo), (vL Give.c a1.fGives)]), (.agg [(vS a2.fClass), (vS a2.fTo), (vL Give.c a2.fGives)]), (vL Col.c a3)] (f87_r r) := by
 rw [f87.eq_1] at h
 refine pure_of hmix ic87 ?_
 refine go_to (mkd (.val undef) 103 0 [(0, (.agg [(vS a1.fClass), (vS a1.fTo), (vL Give.c a1.fGives)])), (1, (.agg [(vS a2.fClass), (vS a2.fTo), (vL Give.c a2.fGives)])), (2, (vL Col.c a3))]) ?_
 refine s_so fun N4 k4 w4 => ?_
 refine o_h4 [(3, (.ptr 0 0)), (4, (.ptr 1 0)), (6, (.ptr 3 0)), (7, (vB false))] [(some (.box 100 [(vS a1.fClass), (vS a1.fTo), (vL Give.c a1.fGives)])), (some (.box 100 [(vS a2.fClass), (vS a2.fTo), (vL Give.c a2.fGives)])), (some (.row 97 3 (List.map Give.c []))), (some (.box 100 [(vS (ByteArray.mk #[])), (vS (ByteArray.mk #[])), (.own 2 0)]))] ?_
 refine o_end (k4 _ ?_)
 refine s_so fun N5 k5 w5 => ?_
 refine o_h7 [(8, (.ptr 5 0)), (16, (.ptr 0 0)), (17, (vS a1.fClass)), (18, (.ptr 1 1)), (19, (vS a2.fTo)), (20, (.agg [(vS a1.fClass), (vS a2.fTo), (.val (.slice none 0 0))]))] [(some (.box 100 [(vS a1.fClass), (vS a1.fTo), (vL Give.c a1.fGives)])), (some (.box 100 [(vS a2.fClass), (vS a2.fTo), (vL Give.c a2.fGives)])), (some (.row 97 3 (List.map Give.c []))), (some (.box 100 [(vS (ByteArray.mk #[])), (vS (ByteArray.mk #[])), (.own 2 0)])), (some (.row 97 3 (List.map Give.c []))), (some (.box 100 [(vS a1.fClass), (vS a2.fTo), (.own 6 0)])), (some (.row 97 3 (List.map Give.c [])))] ?_
 refine o_end (k5 _ ?_)
 refine s_so fun N6 k6 w6 => ?_
 refine o_h2 [(9, (.mp 7)), (21, (.mp 7))] [(some (.box 100 [(vS a1.fClass), (vS a1.fTo), (vL Give.c a1.fGives)])), (some (.box 100 [(vS a2.fClass), (vS a2.fTo), (vL Give.c a2.fGives)])), (some (.row 97 3 (List.map Give.c []))), (some (.box 100 [(vS (ByteArray.mk #[])), (vS (ByteArray.mk #[])), (.own 2 0)])), (some (.row 97 3 (List.map Give.c []))), (some (.box 100 [(vS a1.fClass), (vS a2.fTo), (.own 6 0)])), (some (.row 97 3 (List.map Give.c []))), (some (.map (List.map (fun (p : (ByteArray × Bool)) => (Value.string p.1, Value.bool p.2)) [])))] ?_
 refine o_end (k6 _ ?_)
 refine J2 (r := r) (fun (x81 : (List Give)) (x82 : (List (ByteArray × Bool))) => ⟨(mkd .any 103 0 [(2, (vL Col.c a3)), (3, (.ptr 0 0)), (6, (.ptr 3 0)), (8, (.ptr 5 0)), (9, (.mp 7))]), [(some (.box 100 [(vS a1.fClass), (vS a1.fTo), (vL Give.c a1.fGives)])), none, (some (.row 97 3 (List.map Give.c []))), (some (.box 100 [(vS (ByteArray.mk #[])), (vS (ByteArray.mk #[])), (.own 2 0)])), none, (some (.box 100 [(vS a1.fClass), (vS a2.fTo), (.own 6 (List.length x81))])), (some (.row 97 3 (List.map Give.c x81))), (some (.map (List.map (fun (p : (ByteArray × Bool)) => (Value.string p.1, Value.bool p.2)) x82)))]⟩) (f87_k7 n a1 a3 a2) ?_ ?_
 · intro x81 x82 h
   rw [f87_k7.eq_1] at h
   refine J0 (r := r) ⟨(mkd .any 103 0 [(6, (.ptr 3 0)), (8, (.ptr 5 0))]), [none, none, (some (.row 97 3 (List.map Give.c []))), (some (.box 100 [(vS (ByteArray.mk #[])), (vS (ByteArray.mk #[])), (.own 2 0)])), none, (some (.box 100 [(vS a1.fClass), (vS a2.fTo), (.own 6 (List.length x81))])), (some (.row 97 3 (List.map Give.c x81)))]⟩ (f87_k83 a1 a2 x81) ?_ ?_
   · intro h
     rw [f87_k83.eq_1] at h
     refine s_so fun N137 k137 w137 => ?_
     refine o_h3 [(7, (vB true)), (102, (.agg [(vS a1.fClass), (vS a2.fTo), (.own 6 (List.length x81))]))] [none, none, (some (.row 97 3 (List.map Give.c []))), (some (.box 100 [(vS a1.fClass), (vS a2.fTo), (.own 6 (List.length x81))])), none, (some (.box 100 [(vS a1.fClass), (vS a2.fTo), (.own 6 (List.length x81))])), (some (.row 97 3 (List.map Give.c x81)))] ?_
     refine o_end (k137 _ ?_)
     exact c_ret (retsF [6] [(.agg [(vS a1.fClass), (vS a2.fTo), (.own 6 (List.length x81))]), (vB true)] [(.agg [(vS a1.fClass), (vS a2.fTo), (vL Give.c x81)]), (vB true)] ⟨(fz_agg ⟨fz_v, fz_v, (fz_own (g := Give.c) (l := x81) (t := 97) (sz := 3) Give.p), trivial⟩), fz_v, trivial⟩ h)
   · intro N83 w83
     refine s_so fun N84 k84 w84 => ?_
     refine o_r2 [(69, (.ptr 0 2)), (70, (vL Give.c a1.fGives))] ?_
     refine o_o (one_len (f := Give.c) (l := a1.fGives)) ?_
     refine o_r1 [(72, (vI 0))] ?_
     refine o_end (k84 _ ?_)
     refine c_block fun E86 hE86 hO86 => ?_
     refine W1 (fun (x112 : Int) => ⟨(mkd .any 103 0 [(2, (vL Col.c a3)), (6, (.ptr 3 0)), (8, (.ptr 5 0)), (9, (.mp 7)), (70, (vL Give.c a1.fGives)), (71, (vI (len a1.fGives))), (72, (vI x112))]), [none, none, (some (.row 97 3 (List.map Give.c []))), (some (.box 100 [(vS (ByteArray.mk #[])), (vS (ByteArray.mk #[])), (.own 2 0)])), none, (some (.box 100 [(vS a1.fClass), (vS a2.fTo), (.own 6 (List.length x81))])), (some (.row 97 3 (List.map Give.c x81))), (some (.map (List.map (fun (p : (ByteArray × Bool)) => (Value.string p.1, Value.bool p.2)) x82)))]⟩) (f87_l87 a1 a3 x82 (f87_k83 a1 a2 x81)) h (wkm [2, 6, 8, 9, 70, 71, 72] (wh_drop (wh_none (wh_keep (row_below Give.p _ _ _ _) (whk (wh_none (whk (wh_keep (row_below Give.p _ _ _ _) (whk wh_nil))))))))) (by intros; rw [f87_l87.eq_1]) ?_
     intro m87 x112 h N87 w87
     rw [f87_l87.eq_2] at h
     refine s_so fun N113 k113 w113 => ?_
     refine o_r1 [(73, (vB (decide (x112 < (len a1.fGives)))))] ?_
     refine o_end (k113 _ ?_)
     refine s_seq fun N114 k114 w114 => ?_
     refine i_c [73] h (fun h => ?_) (fun h => ?_)
     · refine c_skip (k114 _ ?_)
       refine s_seq fun N116 k116 w116 => ?_
       refine c_block fun E117 hE117 hO117 => ?_
       refine s_so fun N118 k118 w118 => ?_
       refine o_r1 [(74, (vI x112))] ?_
       refine bnd h fun x119 g120 h => ?_
       refine o_o (one_ia (f := Give.c) (ki := .i64) g120) ?_
       refine o_h4 [(14, (vI x112)), (15, (.ptr 8 0)), (76, (.agg [(vS x119.fFrom), (vI x119.fHow), (vI x119.fN)]))] [none, none, (some (.row 97 3 (List.map Give.c []))), (some (.box 100 [(vS (ByteArray.mk #[])), (vS (ByteArray.mk #[])), (.own 2 0)])), none, (some (.box 100 [(vS a1.fClass), (vS a2.fTo), (.own 6 (List.length x81))])), (some (.row 97 3 (List.map Give.c x81))), (some (.map (List.map (fun (p : (ByteArray × Bool)) => (Value.string p.1, Value.bool p.2)) x82))), (some (.box 97 [(vS x119.fFrom), (vI x119.fHow), (vI x119.fN)]))] ?_
       refine o_end (k118 _ ?_)
       refine J1 (r := r) (fun (x134 : Bool) => ⟨(mkd .any 103 0 [(2, (vL Col.c a3)), (6, (.ptr 3 0)), (8, (.ptr 5 0)), (9, (.mp 7)), (70, (vL Give.c a1.fGives)), (71, (vI (len a1.fGives))), (72, (vI x112)), (99, (vB x134))]), [none, none, (some (.row 97 3 (List.map Give.c []))), (some (.box 100 [(vS (ByteArray.mk #[])), (vS (ByteArray.mk #[])), (.own 2 0)])), none, (some (.box 100 [(vS a1.fClass), (vS a2.fTo), (.own 6 (List.length x81))])), (some (.row 97 3 (List.map Give.c x81))), (some (.map (List.map (fun (p : (ByteArray × Bool)) => (Value.string p.1, Value.bool p.2)) x82)))]⟩) (f87_k121 x112 (f87_l87 a1 a3 x82 (f87_k83 a1 a2 x81) m87)) ?_ ?_
       · intro x134 h
         rw [f87_k121.eq_1] at h
         refine i_c [99] h (fun h => ?_) (fun h => ?_)
         · refine s_so fun N136 k136 w136 => ?_
           refine o_h3 [(7, (vB false)), (100, (.agg [(vS (ByteArray.mk #[])), (vS (ByteArray.mk #[])), (.val (.slice none 0 0))]))] [none, none, (some (.row 97 3 (List.map Give.c []))), (some (.box 100 [(vS (ByteArray.mk #[])), (vS (ByteArray.mk #[])), (.own 8 0)])), none, (some (.box 100 [(vS a1.fClass), (vS a2.fTo), (.own 6 (List.length x81))])), (some (.row 97 3 (List.map Give.c x81))), (some (.map (List.map (fun (p : (ByteArray × Bool)) => (Value.string p.1, Value.bool p.2)) x82))), (some (.row 97 3 (List.map Give.c [])))] ?_
           refine o_end (k136 _ ?_)
           exact c_ret (retsF [8] [(.agg [(vS (ByteArray.mk #[])), (vS (ByteArray.mk #[])), (.own 8 0)]), (vB false)] [(.agg [(vS (ByteArray.mk #[])), (vS (ByteArray.mk #[])), (vL Give.c [])]), (vB false)] ⟨(fz_agg ⟨fz_v, fz_v, (fz_own (g := Give.c) (l := []) (t := 97) (sz := 3) Give.p), trivial⟩), fz_v, trivial⟩ h)
         · refine c_skip (k116 _ ?_)
           refine c_ops ?_
           refine o_r2 [(72, (vI (wr .i64 (x112 + 1)))), (101, (vI (wr .i64 (x112 + 1))))] ?_
           exact o_end (w87 _ _ (wkm [2, 6, 8, 9, 70, 71, 72] (wh_none (wh_none (wh_keep (row_below Give.p _ _ _ _) (whk (wh_none (whk (wh_keep (row_below Give.p _ _ _ _) (whk wh_nil))))))))) h)
       · intro N121 w121
         refine c_ops ?_
         refine o_r4 [(77, (.ptr 8 1)), (78, (vI x119.fHow)), (79, (vB (x119.fHow == 3))), (80, (vB (x119.fHow == 3)))] ?_
         refine i_o [79, 80] h (fun h => ?_) (fun h => ?_)
         · refine o_r13 [(81, (.val undef)), (82, (.val undef)), (83, (.val undef)), (84, (vB true)), (85, (vB true)), (86, (.val undef)), (87, (.val undef)), (88, (.val undef)), (89, (vB true)), (90, (vB true)), (91, (.mp 7)), (92, (vL Col.c a3)), (93, (vI x112))] ?_
           refine bnd h fun x123 g124 h => ?_
           refine o_g ?_
           refine o_o (one_ia (f := Col.c) (ki := .i64) g124) ?_
           refine o_r2 [(95, (.iptr [(vS x123.fName), (vI x123.fKind), (vS x123.fClass)])), (96, (vS x123.fName))] ?_
           refine o_g ?_
           refine o_o (one_luk (ek := Value.string) (ev := Value.bool) (l := x82) (o := 7) (k := x123.fName) (z := false) key_str) ?_
           refine o_r2 [(98, (vB (!((mget x123.fName x82).getD false)))), (99, (vB (!((mget x123.fName x82).getD false))))] ?_
           refine s_tm (mkd .any 103 0 [(2, (vL Col.c a3)), (6, (.ptr 3 0)), (8, (.ptr 5 0)), (9, (.mp 7)), (14, (vI x112)), (15, (.ptr 8 0)), (70, (vL Give.c a1.fGives)), (71, (vI (len a1.fGives))), (72, (vI x112)), (73, (vB true)), (74, (vI x112)), (75, (.iptr [(vS x119.fFrom), (vI x119.fHow), (vI x119.fN)])), (76, (.agg [(vS x119.fFrom), (vI x119.fHow), (vI x119.fN)])), (77, (.ptr 8 1)), (78, (vI x119.fHow)), (79, (vB true)), (80, (vB true)), (81, (.val undef)), (82, (.val undef)), (83, (.val undef)), (84, (vB true)), (85, (vB true)), (86, (.val undef)), (87, (.val undef)), (88, (.val undef)), (89, (vB true)), (90, (vB true)), (91, (.mp 7)), (92, (vL Col.c a3)), (93, (vI x112)), (94, (.iptr [(vS x123.fName), (vI x123.fKind), (vS x123.fClass)])), (95, (.iptr [(vS x123.fName), (vI x123.fKind), (vS x123.fClass)])), (96, (vS x123.fName)), (97, (vB ((mget x123.fName x82).getD false))), (98, (vB (!((mget x123.fName x82).getD false)))), (99, (vB (!((mget x123.fName x82).getD false))))]) ?_
           exact o_end (w121 _ _ (wkm [2, 6, 8, 9, 70, 71, 72, 99] (wh_none (wh_none (wh_keep (row_below Give.p _ _ _ _) (whk (wh_none (whk (wh_keep (row_below Give.p _ _ _ _) (whk wh_nil))))))))) h)
         · refine o_r5 [(81, (.ptr 8 1)), (82, (vI x119.fHow)), (83, (vB (x119.fHow == 4))), (84, (vB (x119.fHow == 4))), (85, (vB (x119.fHow == 4)))] ?_
           refine i_o [83, 84, 85] h (fun h => ?_) (fun h => ?_)
           · refine o_r8 [(86, (.val undef)), (87, (.val undef)), (88, (.val undef)), (89, (vB true)), (90, (vB true)), (91, (.mp 7)), (92, (vL Col.c a3)), (93, (vI x112))] ?_
             refine bnd h fun x127 g128 h => ?_
             refine o_g ?_
             refine o_o (one_ia (f := Col.c) (ki := .i64) g128) ?_
             refine o_r2 [(95, (.iptr [(vS x127.fName), (vI x127.fKind), (vS x127.fClass)])), (96, (vS x127.fName))] ?_
             refine s_tm (mkd .any 103 0 [(2, (vL Col.c a3)), (6, (.ptr 3 0)), (8, (.ptr 5 0)), (9, (.mp 7)), (14, (vI x112)), (15, (.ptr 8 0)), (70, (vL Give.c a1.fGives)), (71, (vI (len a1.fGives))), (72, (vI x112)), (73, (vB true)), (74, (vI x112)), (75, (.iptr [(vS x119.fFrom), (vI x119.fHow), (vI x119.fN)])), (76, (.agg [(vS x119.fFrom), (vI x119.fHow), (vI x119.fN)])), (77, (.ptr 8 1)), (78, (vI x119.fHow)), (79, (vB false)), (80, (vB false)), (81, (.ptr 8 1)), (82, (vI x119.fHow)), (83, (vB true)), (84, (vB true)), (85, (vB true)), (86, (.val undef)), (87, (.val undef)), (88, (.val undef)), (89, (vB true)), (90, (vB true)), (91, (.mp 7)), (92, (vL Col.c a3)), (93, (vI x112)), (94, (.iptr [(vS x127.fName), (vI x127.fKind), (vS x127.fClass)])), (95, (.iptr [(vS x127.fName), (vI x127.fKind), (vS x127.fClass)])), (96, (vS x127.fName))]) ?_
             refine o_g ?_
             refine o_o (one_luk (ek := Value.string) (ev := Value.bool) (l := x82) (o := 7) (k := x127.fName) (z := false) key_str) ?_
             refine o_r2 [(98, (vB (!((mget x127.fName x82).getD false)))), (99, (vB (!((mget x127.fName x82).getD false))))] ?_
             exact o_end (w121 _ _ (wkm [2, 6, 8, 9, 70, 71, 72, 99] (wh_none (wh_none (wh_keep (row_below Give.p _ _ _ _) (whk (wh_none (whk (wh_keep (row_below Give.p _ _ _ _) (whk wh_nil))))))))) h)
           · refine o_r5 [(86, (.ptr 8 1)), (87, (vI x119.fHow)), (88, (vB (x119.fHow == 5))), (89, (vB (x119.fHow == 5))), (90, (vB (x119.fHow == 5)))] ?_
             refine i_o [88, 89, 90] h (fun h => ?_) (fun h => ?_)
             · refine o_r3 [(91, (.mp 7)), (92, (vL Col.c a3)), (93, (vI x112))] ?_
               refine s_tm (mkd .any 103 0 [(2, (vL Col.c a3)), (6, (.ptr 3 0)), (8, (.ptr 5 0)), (9, (.mp 7)), (14, (vI x112)), (15, (.ptr 8 0)), (70, (vL Give.c a1.fGives)), (71, (vI (len a1.fGives))), (72, (vI x112)), (73, (vB true)), (74, (vI x112)), (75, (.iptr [(vS x119.fFrom), (vI x119.fHow), (vI x119.fN)])), (76, (.agg [(vS x119.fFrom), (vI x119.fHow), (vI x119.fN)])), (77, (.ptr 8 1)), (78, (vI x119.fHow)), (79, (vB false)), (80, (vB false)), (81, (.ptr 8 1)), (82, (vI x119.fHow)), (83, (vB false)), (84, (vB false)), (85, (vB false)), (86, (.ptr 8 1)), (87, (vI x119.fHow)), (88, (vB true)), (89, (vB true)), (90, (vB true)), (91, (.mp 7)), (92, (vL Col.c a3)), (93, (vI x112))]) ?_
               refine bnd h fun x131 g132 h => ?_
               refine o_g ?_
               refine o_o (one_ia (f := Col.c) (ki := .i64) g132) ?_
               refine o_r2 [(95, (.iptr [(vS x131.fName), (vI x131.fKind), (vS x131.fClass)])), (96, (vS x131.fName))] ?_
               refine o_g ?_
               refine o_o (one_luk (ek := Value.string) (ev := Value.bool) (l := x82) (o := 7) (k := x131.fName) (z := false) key_str) ?_
               refine o_r2 [(98, (vB (!((mget x131.fName x82).getD false)))), (99, (vB (!((mget x131.fName x82).getD false))))] ?_
               exact o_end (w121 _ _ (wkm [2, 6, 8, 9, 70, 71, 72, 99] (wh_none (wh_none (wh_keep (row_below Give.p _ _ _ _) (whk (wh_none (whk (wh_keep (row_below Give.p _ _ _ _) (whk wh_nil))))))))) h)
             · refine o_r9 [(91, (.val undef)), (92, (.val undef)), (93, (.val undef)), (94, (.val undef)), (95, (.val undef)), (96, (.val undef)), (97, (.val undef)), (98, (.val undef)), (99, (vB false))] ?_
               refine s_tm (mkd .any 103 0 [(2, (vL Col.c a3)), (6, (.ptr 3 0)), (8, (.ptr 5 0)), (9, (.mp 7)), (14, (vI x112)), (15, (.ptr 8 0)), (70, (vL Give.c a1.fGives)), (71, (vI (len a1.fGives))), (72, (vI x112)), (73, (vB true)), (74, (vI x112)), (75, (.iptr [(vS x119.fFrom), (vI x119.fHow), (vI x119.fN)])), (76, (.agg [(vS x119.fFrom), (vI x119.fHow), (vI x119.fN)])), (77, (.ptr 8 1)), (78, (vI x119.fHow)), (79, (vB false)), (80, (vB false)), (81, (.ptr 8 1)), (82, (vI x119.fHow)), (83, (vB false)), (84, (vB false)), (85, (vB false)), (86, (.ptr 8 1)), (87, (vI x119.fHow)), (88, (vB false)), (89, (vB false)), (90, (vB false)), (91, (.val undef)), (92, (.val undef)), (93, (.val undef)), (94, (.val undef)), (95, (.val undef)), (96, (.val undef)), (97, (.val undef)), (98, (.val undef)), (99, (vB false))]) ?_
               exact o_end (w121 _ _ (wkm [2, 6, 8, 9, 70, 71, 72, 99] (wh_none (wh_none (wh_keep (row_below Give.p _ _ _ _) (whk (wh_none (whk (wh_keep (row_below Give.p _ _ _ _) (whk wh_nil))))))))) h)
     · refine c_exit (hE86 _ ?_)
       exact w83 _ (wkm [6, 8] (wh_none (wh_none (wh_keep (row_below Give.p _ _ _ _) (whk (wh_none (whk (wh_keep (row_below Give.p _ _ _ _) wh_nil)))))))) h
 · intro N7 w7
   refine s_so fun N8 k8 w8 => ?_
   refine o_r2 [(22, (.ptr 1 2)), (23, (vL Give.c a2.fGives))] ?_
   refine o_o (one_len (f := Give.c) (l := a2.fGives)) ?_
   refine o_r1 [(25, (vI 0))] ?_
   refine o_end (k8 _ ?_)
   refine c_block fun E10 hE10 hO10 => ?_
   refine W3 (fun (x45 : Int) (x46 : (List Give)) (x47 : (List (ByteArray × Bool))) => ⟨(mkd .any 103 0 [(2, (vL Col.c a3)), (3, (.ptr 0 0)), (6, (.ptr 3 0)), (8, (.ptr 5 0)), (9, (.mp 7)), (23, (vL Give.c a2.fGives)), (24, (vI (len a2.fGives))), (25, (vI x45))]), [(some (.box 100 [(vS a1.fClass), (vS a1.fTo), (vL Give.c a1.fGives)])), none, (some (.row 97 3 (List.map Give.c []))), (some (.box 100 [(vS (ByteArray.mk #[])), (vS (ByteArray.mk #[])), (.own 2 0)])), none, (some (.box 100 [(vS a1.fClass), (vS a2.fTo), (.own 6 (List.length x46))])), (some (.row 97 3 (List.map Give.c x46))), (some (.map (List.map (fun (p : (ByteArray × Bool)) => (Value.string p.1, Value.bool p.2)) x47)))]⟩) (f87_l11 a2 n a3 a1 (f87_k7 n a1 a3 a2)) h (wkm [2, 3, 6, 8, 9, 23, 24, 25] (whk (wh_drop (wh_keep (row_below Give.p _ _ _ _) (whk (wh_drop (whk (wh_keep (row_below Give.p _ _ _ _) (whk wh_nil))))))))) (by intros; rw [f87_l11.eq_1]) ?_
   intro m11 x45 x46 x47 h N11 w11
   rw [f87_l11.eq_2] at h
   refine s_so fun N48 k48 w48 => ?_
   refine o_r1 [(26, (vB (decide (x45 < (len a2.fGives)))))] ?_
   refine o_end (k48 _ ?_)
   refine s_seq fun N49 k49 w49 => ?_
   refine i_c [26] h (fun h => ?_) (fun h => ?_)
   · refine c_skip (k49 _ ?_)
     refine J2 (r := r) (fun (x79 : (List Give)) (x80 : (List (ByteArray × Bool))) => ⟨(mkd .any 103 0 [(2, (vL Col.c a3)), (3, (.ptr 0 0)), (6, (.ptr 3 0)), (8, (.ptr 5 0)), (9, (.mp 7)), (23, (vL Give.c a2.fGives)), (24, (vI (len a2.fGives))), (25, (vI x45))]), [(some (.box 100 [(vS a1.fClass), (vS a1.fTo), (vL Give.c a1.fGives)])), none, (some (.row 97 3 (List.map Give.c []))), (some (.box 100 [(vS (ByteArray.mk #[])), (vS (ByteArray.mk #[])), (.own 2 0)])), none, (some (.box 100 [(vS a1.fClass), (vS a2.fTo), (.own 6 (List.length x79))])), (some (.row 97 3 (List.map Give.c x79))), (some (.map (List.map (fun (p : (ByteArray × Bool)) => (Value.string p.1, Value.bool p.2)) x80)))]⟩) (f87_k51 x45 (f87_l11 a2 n a3 a1 (f87_k7 n a1 a3 a2) m11)) ?_ ?_
     · intro x79 x80 h
       rw [f87_k51.eq_1] at h
       refine c_ops ?_
       refine o_r2 [(25, (vI (wr .i64 (x45 + 1)))), (68, (vI (wr .i64 (x45 + 1))))] ?_
       exact o_end (w11 _ _ _ _ (wkm [2, 3, 6, 8, 9, 23, 24, 25] (whk (wh_none (wh_keep (row_below Give.p _ _ _ _) (whk (wh_none (whk (wh_keep (row_below Give.p _ _ _ _) (whk wh_nil))))))))) h)
     · intro N51 w51
       refine c_block fun E52 hE52 hO52 => ?_
       refine s_so fun N53 k53 w53 => ?_
       refine bnd h fun x54 g55 h => ?_
       refine o_o (one_ia (f := Give.c) (ki := .i64) g55) ?_
       refine o_h3 [(11, (.ptr 8 0)), (28, (.agg [(vS x54.fFrom), (vI x54.fHow), (vI x54.fN)]))] [(some (.box 100 [(vS a1.fClass), (vS a1.fTo), (vL Give.c a1.fGives)])), none, (some (.row 97 3 (List.map Give.c []))), (some (.box 100 [(vS (ByteArray.mk #[])), (vS (ByteArray.mk #[])), (.own 2 0)])), none, (some (.box 100 [(vS a1.fClass), (vS a2.fTo), (.own 6 (List.length x46))])), (some (.row 97 3 (List.map Give.c x46))), (some (.map (List.map (fun (p : (ByteArray × Bool)) => (Value.string p.1, Value.bool p.2)) x47))), (some (.box 97 [(vS x54.fFrom), (vI x54.fHow), (vI x54.fN)]))] ?_
       refine o_end (k53 _ ?_)
       refine s_so fun N56 k56 w56 => ?_
       refine o_r3 [(29, (.mp 7)), (30, (.ptr 8 0)), (31, (vS x54.fFrom))] ?_
       refine o_x [(some (.box 100 [(vS a1.fClass), (vS a1.fTo), (vL Give.c a1.fGives)])), none, (some (.row 97 3 (List.map Give.c []))), (some (.box 100 [(vS (ByteArray.mk #[])), (vS (ByteArray.mk #[])), (.own 2 0)])), none, (some (.box 100 [(vS a1.fClass), (vS a2.fTo), (.own 6 (List.length x46))])), (some (.row 97 3 (List.map Give.c x46))), (some (.map (List.map (fun (p : (ByteArray × Bool)) => (Value.string p.1, Value.bool p.2)) (mset x54.fFrom true x47)))), (some (.box 97 [(vS x54.fFrom), (vI x54.fHow), (vI x54.fN)]))] (one_mup (ek := Value.string) (ev := Value.bool) (l := x47) (o := 7) (k := x54.fFrom) (v := true) key_str (fun _ => rfl)) ?_
       refine o_end (k56 _ ?_)
       refine s_seq fun N58 k58 w58 => ?_
       refine J1 (r := r) (fun (x61 : Bool) => ⟨(mkd .any 103 0 [(2, (vL Col.c a3)), (3, (.ptr 0 0)), (6, (.ptr 3 0)), (8, (.ptr 5 0)), (9, (.mp 7)), (11, (.ptr 8 0)), (23, (vL Give.c a2.fGives)), (24, (vI (len a2.fGives))), (25, (vI x45)), (39, (vB x61))]), [(some (.box 100 [(vS a1.fClass), (vS a1.fTo), (vL Give.c a1.fGives)])), none, (some (.row 97 3 (List.map Give.c []))), (some (.box 100 [(vS (ByteArray.mk #[])), (vS (ByteArray.mk #[])), (.own 2 0)])), none, (some (.box 100 [(vS a1.fClass), (vS a2.fTo), (.own 6 (List.length x46))])), (some (.row 97 3 (List.map Give.c x46))), (some (.map (List.map (fun (p : (ByteArray × Bool)) => (Value.string p.1, Value.bool p.2)) (mset x54.fFrom true x47)))), (some (.box 97 [(vS x54.fFrom), (vI x54.fHow), (vI x54.fN)]))]⟩) (f87_k59 x46 x54 x47 n a3 a1 x45 (f87_l11 a2 n a3 a1 (f87_k7 n a1 a3 a2) m11)) ?_ ?_
       · intro x61 h
         rw [f87_k59.eq_1] at h
         refine i_c [39] h (fun h => ?_) (fun h => ?_)
         · refine s_so fun N63 k63 w63 => ?_
           refine o_r4 [(40, (.ptr 5 2)), (41, (.own 6 (List.length x46))), (42, (.agg [(vS x54.fFrom), (vI x54.fHow), (vI x54.fN)])), (43, (vL Give.c [x54]))] ?_
           refine bnd h fun l64 g65 h => ?_
           refine o_x [(some (.box 100 [(vS a1.fClass), (vS a1.fTo), (vL Give.c a1.fGives)])), none, (some (.row 97 3 (List.map Give.c []))), (some (.box 100 [(vS (ByteArray.mk #[])), (vS (ByteArray.mk #[])), (.own 2 0)])), none, (some (.box 100 [(vS a1.fClass), (vS a2.fTo), (.own 6 (List.length x46))])), (some (.row 97 3 (List.map Give.c l64))), (some (.map (List.map (fun (p : (ByteArray × Bool)) => (Value.string p.1, Value.bool p.2)) (mset x54.fFrom true x47)))), (some (.box 97 [(vS x54.fFrom), (vI x54.fHow), (vI x54.fN)]))] (one_app (f := Give.c) (o := 6) g65 (fun _ => ⟨rfl, rfl⟩)) ?_
           refine o_h2 [(45, (.ptr 5 2))] [(some (.box 100 [(vS a1.fClass), (vS a1.fTo), (vL Give.c a1.fGives)])), none, (some (.row 97 3 (List.map Give.c []))), (some (.box 100 [(vS (ByteArray.mk #[])), (vS (ByteArray.mk #[])), (.own 2 0)])), none, (some (.box 100 [(vS a1.fClass), (vS a2.fTo), (.own 6 (List.length l64))])), (some (.row 97 3 (List.map Give.c l64))), (some (.map (List.map (fun (p : (ByteArray × Bool)) => (Value.string p.1, Value.bool p.2)) (mset x54.fFrom true x47)))), (some (.box 97 [(vS x54.fFrom), (vI x54.fHow), (vI x54.fN)]))] ?_
           refine o_end (k63 _ ?_)
           refine c_exit (hE52 _ ?_)
           exact w51 _ _ _ (wkm [2, 3, 6, 8, 9, 23, 24, 25] (whk (wh_none (wh_keep (row_below Give.p _ _ _ _) (whk (wh_none (whk (wh_keep (row_below Give.p _ _ _ _) (whk wh_nil))))))))) h
         · refine c_skip (k58 _ ?_)
           refine s_seq fun N66 k66 w66 => ?_
           refine c_draw0 ?_
           refine d_r5 [(47, (.ptr 0 2)), (48, (vL Give.c a1.fGives)), (49, (vL Col.c a3)), (50, (.ptr 8 0)), (51, (vS x54.fFrom))] ?_
           refine bnd h fun r67 g68 h => ?_
           refine d_o (one_call (p_f95 g68)) ?_
           refine bnd h fun x69 g70 h => ?_
           refine d_o (one_ia (f := Give.c) (ki := .i64) g70) ?_
           refine d_r2 [(54, (.agg [(vS x69.fFrom), (vI x69.fHow), (vI x69.fN)])), (55, (.agg [(vS x54.fFrom), (vI x54.fHow), (vI x54.fN)]))] ?_
           refine bnd h fun r71 g72 h => ?_
           refine d_o (one_call (p_f121 g72)) ?_
           refine d_r3 [(46, (.tup [(.agg [(vS r71.1.fFrom), (vI r71.1.fHow), (vI r71.1.fN)]), (vB r71.2)])), (57, (.agg [(vS r71.1.fFrom), (vI r71.1.fHow), (vI r71.1.fN)])), (58, (vB r71.2))] ?_
           refine d_te (.ptr 9 0) [(some (.box 100 [(vS a1.fClass), (vS a1.fTo), (vL Give.c a1.fGives)])), none, (some (.row 97 3 (List.map Give.c []))), (some (.box 100 [(vS (ByteArray.mk #[])), (vS (ByteArray.mk #[])), (.own 2 0)])), none, (some (.box 100 [(vS a1.fClass), (vS a2.fTo), (.own 6 (List.length x46))])), (some (.row 97 3 (List.map Give.c x46))), (some (.map (List.map (fun (p : (ByteArray × Bool)) => (Value.string p.1, Value.bool p.2)) (mset x54.fFrom true x47)))), (some (.box 97 [(vS x54.fFrom), (vI x54.fHow), (vI x54.fN)])), (some (.box 97 [(vS (ByteArray.mk #[])), (vI 0), (vI 0)]))] (ra_cat (ra_cat (ra_cat (ra_cat (ra_cat (ra_cat ra_nil (ra_t (ra_t (ra_t (ra_t (ra_t ra_nil)))))) (ra_o (one_call (p_f95 g68)) ra_nil)) (ra_o (one_ia (f := Give.c) (ki := .i64) g70) ra_nil)) (ra_t (ra_t ra_nil))) (ra_o (one_call (p_f121 g72)) ra_nil)) (ra_t (ra_t (ra_t ra_nil)))) ?_
           refine d_te (.val undef) [(some (.box 100 [(vS a1.fClass), (vS a1.fTo), (vL Give.c a1.fGives)])), none, (some (.row 97 3 (List.map Give.c []))), (some (.box 100 [(vS (ByteArray.mk #[])), (vS (ByteArray.mk #[])), (.own 2 0)])), none, (some (.box 100 [(vS a1.fClass), (vS a2.fTo), (.own 6 (List.length x46))])), (some (.row 97 3 (List.map Give.c x46))), (some (.map (List.map (fun (p : (ByteArray × Bool)) => (Value.string p.1, Value.bool p.2)) (mset x54.fFrom true x47)))), (some (.box 97 [(vS x54.fFrom), (vI x54.fHow), (vI x54.fN)])), (some (.box 97 [(vS r71.1.fFrom), (vI r71.1.fHow), (vI r71.1.fN)]))] (ra_cat (ra_cat (ra_cat (ra_cat (ra_cat (ra_cat ra_nil (ra_s (ra_s (ra_s (ra_s (ra_s ra_nil)))))) (ra_s ra_nil)) (ra_s ra_nil)) (ra_s (ra_s ra_nil))) (ra_s ra_nil)) (ra_s (ra_s (ra_t ra_nil)))) ?_
           refine d_r1 [(13, (vB r71.2))] ?_
           refine d_end (k66 _ ?_)
           refine s_seq fun N73 k73 w73 => ?_
           refine s_so fun N74 k74 w74 => ?_
           refine o_r2 [(59, (vB r71.2)), (60, (vB (!r71.2)))] ?_
           refine o_end (w74 _ ⟨(mkd .any 103 0 [(2, (vL Col.c a3)), (3, (.ptr 0 0)), (6, (.ptr 3 0)), (8, (.ptr 5 0)), (9, (.mp 7)), (12, (.ptr 9 0)), (23, (vL Give.c a2.fGives)), (24, (vI (len a2.fGives))), (25, (vI x45)), (60, (vB (!r71.2)))]), [(some (.box 100 [(vS a1.fClass), (vS a1.fTo), (vL Give.c a1.fGives)])), none, (some (.row 97 3 (List.map Give.c []))), (some (.box 100 [(vS (ByteArray.mk #[])), (vS (ByteArray.mk #[])), (.own 2 0)])), none, (some (.box 100 [(vS a1.fClass), (vS a2.fTo), (.own 6 (List.length x46))])), (some (.row 97 3 (List.map Give.c x46))), (some (.map (List.map (fun (p : (ByteArray × Bool)) => (Value.string p.1, Value.bool p.2)) (mset x54.fFrom true x47)))), none, (some (.box 97 [(vS r71.1.fFrom), (vI r71.1.fHow), (vI r71.1.fN)]))]⟩ (wkm [2, 3, 6, 8, 9, 12, 23, 24, 25, 60] (whk (wh_none (wh_keep (row_below Give.p _ _ _ _) (whk (wh_none (whk (wh_keep (row_below Give.p _ _ _ _) (whk (wh_drop (whk wh_nil))))))))))) ?_)
           refine i_c [60] h (fun h => ?_) (fun h => ?_)
           · refine s_so fun N76 k76 w76 => ?_
             refine o_h3 [(7, (vB false)), (61, (.agg [(vS (ByteArray.mk #[])), (vS (ByteArray.mk #[])), (.val (.slice none 0 0))]))] [(some (.box 100 [(vS a1.fClass), (vS a1.fTo), (vL Give.c a1.fGives)])), none, (some (.row 97 3 (List.map Give.c []))), (some (.box 100 [(vS (ByteArray.mk #[])), (vS (ByteArray.mk #[])), (.own 10 0)])), none, (some (.box 100 [(vS a1.fClass), (vS a2.fTo), (.own 6 (List.length x46))])), (some (.row 97 3 (List.map Give.c x46))), (some (.map (List.map (fun (p : (ByteArray × Bool)) => (Value.string p.1, Value.bool p.2)) (mset x54.fFrom true x47)))), none, (some (.box 97 [(vS r71.1.fFrom), (vI r71.1.fHow), (vI r71.1.fN)])), (some (.row 97 3 (List.map Give.c [])))] ?_
             refine o_end (k76 _ ?_)
             exact c_ret (retsF [10] [(.agg [(vS (ByteArray.mk #[])), (vS (ByteArray.mk #[])), (.own 10 0)]), (vB false)] [(.agg [(vS (ByteArray.mk #[])), (vS (ByteArray.mk #[])), (vL Give.c [])]), (vB false)] ⟨(fz_agg ⟨fz_v, fz_v, (fz_own (g := Give.c) (l := []) (t := 97) (sz := 3) Give.p), trivial⟩), fz_v, trivial⟩ h)
           · refine c_skip (k73 _ ?_)
             refine c_ops ?_
             refine o_r4 [(62, (.ptr 5 2)), (63, (.own 6 (List.length x46))), (64, (.agg [(vS r71.1.fFrom), (vI r71.1.fHow), (vI r71.1.fN)])), (65, (vL Give.c [r71.1]))] ?_
             refine bnd h fun l77 g78 h => ?_
             refine o_x [(some (.box 100 [(vS a1.fClass), (vS a1.fTo), (vL Give.c a1.fGives)])), none, (some (.row 97 3 (List.map Give.c []))), (some (.box 100 [(vS (ByteArray.mk #[])), (vS (ByteArray.mk #[])), (.own 2 0)])), none, (some (.box 100 [(vS a1.fClass), (vS a2.fTo), (.own 6 (List.length x46))])), (some (.row 97 3 (List.map Give.c l77))), (some (.map (List.map (fun (p : (ByteArray × Bool)) => (Value.string p.1, Value.bool p.2)) (mset x54.fFrom true x47)))), none, (some (.box 97 [(vS r71.1.fFrom), (vI r71.1.fHow), (vI r71.1.fN)]))] (one_app (f := Give.c) (o := 6) g78 (fun _ => ⟨rfl, rfl⟩)) ?_
             refine o_h2 [(67, (.ptr 5 2))] [(some (.box 100 [(vS a1.fClass), (vS a1.fTo), (vL Give.c a1.fGives)])), none, (some (.row 97 3 (List.map Give.c []))), (some (.box 100 [(vS (ByteArray.mk #[])), (vS (ByteArray.mk #[])), (.own 2 0)])), none, (some (.box 100 [(vS a1.fClass), (vS a2.fTo), (.own 6 (List.length l77))])), (some (.row 97 3 (List.map Give.c l77))), (some (.map (List.map (fun (p : (ByteArray × Bool)) => (Value.string p.1, Value.bool p.2)) (mset x54.fFrom true x47)))), none, (some (.box 97 [(vS r71.1.fFrom), (vI r71.1.fHow), (vI r71.1.fN)]))] ?_
             exact o_end (w51 _ _ _ (wkm [2, 3, 6, 8, 9, 23, 24, 25] (whk (wh_none (wh_keep (row_below Give.p _ _ _ _) (whk (wh_none (whk (wh_keep (row_below Give.p _ _ _ _) (whk wh_nil))))))))) h)
       · intro N59 w59
         refine c_ops ?_
         refine o_r4 [(32, (.ptr 8 1)), (33, (vI x54.fHow)), (34, (vB (x54.fHow == 6))), (35, (vB (x54.fHow == 6)))] ?_
         refine i_o [34, 35] h (fun h => ?_) (fun h => ?_)
         · refine o_r4 [(36, (.val undef)), (37, (.val undef)), (38, (.val undef)), (39, (vB true))] ?_
           exact o_end (w59 _ _ (wkm [2, 3, 6, 8, 9, 11, 23, 24, 25, 39] (whk (wh_none (wh_keep (row_below Give.p _ _ _ _) (whk (wh_none (whk (wh_keep (row_below Give.p _ _ _ _) (whk (whk wh_nil)))))))))) h)
         · refine o_r4 [(36, (.ptr 8 1)), (37, (vI x54.fHow)), (38, (vB (x54.fHow == 7))), (39, (vB (x54.fHow == 7)))] ?_
           exact o_end (w59 _ _ (wkm [2, 3, 6, 8, 9, 11, 23, 24, 25, 39] (whk (wh_none (wh_keep (row_below Give.p _ _ _ _) (whk (wh_none (whk (wh_keep (row_below Give.p _ _ _ _) (whk (whk wh_nil)))))))))) h)
   · refine c_exit (hE10 _ ?_)
     exact w7 _ _ _ (wkm [2, 3, 6, 8, 9] (whk (wh_none (wh_keep (row_below Give.p _ _ _ _) (whk (wh_none (whk (wh_keep (row_below Give.p _ _ _ _) (whk wh_nil))))))))) h
theorem ic38 : fnIC Try.prog H0 38 = some ([.tmp 10, .tmp 11], 89, (.seq (.ops [zO 10 (.nil 0 100 3), zO 11 (.mov (.c (.int .i64 0)))]) (.seq (.seq (.ops [zM 23 0, zO 24 (.call 16 [(.t 23)]), zM 25 1, zO 26 (.call 16 [(.t 25)]), zM 27 2, zO 28 (.call 16 [(.t 27)]), zO 29 (.isl 1 [(.t 24), (.t 26), (.t 28)]), zO 30 (.call 49 [(.t 29)]), zM 12 30]) (.seq (.ops [zM 31 12, zO 32 (.sc (.bin .neq 30) [(.t 31), (.c (.int .i64 0))])]) (.cond (.t 32)
  (.seq (.ops [zM 33 12, zO 10 (.nil 0 100 3), zM 11 33]) .ret)
  .skip))) (.seq (.seq (.ops [zM 34 0, zM 35 1, zM 36 3, zO 37 (.call 80 [(.t 34), (.t 35), (.t 36)]), zM 38 1, zM 39 2, zM 40 4, zO 41 (.call 80 [(.t 38), (.t 39), (.t 40)]), zO 42 (.isl 1 [(.t 37), (.t 41)]), zO 43 (.call 49 [(.t 42)]), zM 13 43]) (.seq (.ops [zM 44 13, zO 45 (.sc (.bin .neq 30) [(.t 44), (.c (.int .i64 0))])]) (.cond (.t 45)
  (.seq (.ops [zM 46 13, zO 10 (.nil 0 100 3), zM 11 46]) .ret)
  .skip))) (.seq (.ops [zO 14 (.nil 0 100 3)]) (.seq (.seq (.ops [zM 47 0, zO 48 (.len false (.t 47)), zO 49 (.mov (.c (.int .i64 0)))]) (.block 0 (.loop (.seq (.ops [zO 50 (.sc (.bin .lss 3) [(.t 49), (.t 48)])]) (.seq (.cond (.t 50)
  .skip
  (.exit 0)) (.seq (.block 1 (.seq (.ops [zO 51 (.iaddr 2 (.t 47) (.t 49)), zO 52 (.ld (.t 51) 2 true), zO 16 (.alloc 0 91 [(1, 93, 3, 0)] [(.string ⟨#[]⟩), (.slice none 0 0)]), zU (.st true 2 [(1, 93, 3, 0)] (.t 16) (.t 52))]) (.seq (.ops [zM 54 3, zO 55 (.faddr (.t 16) 0), zO 56 (.ld (.t 55) 1 false), zO 57 (.call 78 [(.t 54), (.t 56)]), zM 53 57, zO 58 (.ext (.t 53) 0), zO 59 (.ext (.t 53) 1), zO 17 (.alloc 0 100 [(2, 97, 3, 0)] [(.string ⟨#[]⟩), (.string ⟨#[]⟩), (.slice none 0 0)]), zU (.st true 3 [(2, 97, 3, 0)] (.t 17) (.t 58)), zM 18 59]) (.seq (.ops [zM 61 4, zO 62 (.faddr (.t 17) 1), zO 63 (.ld (.t 62) 1 false), zO 64 (.call 78 [(.t 61), (.t 63)]), zM 60 64, zO 65 (.ext (.t 60) 0), zO 66 (.ext (.t 60) 1), zO 19 (.alloc 0 100 [(2, 97, 3, 0)] [(.string ⟨#[]⟩), (.string ⟨#[]⟩), (.slice none 0 0)]), zU (.st true 3 [(2, 97, 3, 0)] (.t 19) (.t 65)), zM 20 66]) (.seq (.draw [] [⟨zO 68 (.ld (.t 17) 3 true), false, 0, 1⟩, ⟨zO 69 (.ld (.t 19) 3 true), false, 0, 1⟩, ⟨zM 70 1, false, 0, 1⟩, ⟨zM 71 1, false, 0, 1⟩, ⟨zO 72 (.faddr (.t 17) 1), false, 0, 1⟩, ⟨zO 73 (.ld (.t 72) 1 false), false, 0, 1⟩, ⟨zO 74 (.call 52 [(.t 71), (.t 73)]), false, 0, 1⟩, ⟨zO 75 (.iaddr 2 (.t 70) (.t 74)), false, 0, 1⟩, ⟨zO 76 (.faddr (.t 75) 1), false, 0, 1⟩, ⟨zO 77 (.ld (.t 76) 1 false), false, 0, 1⟩, ⟨zO 78 (.call 87 [(.t 68), (.t 69), (.t 77)]), false, 0, 1⟩, ⟨zM 67 78, false, 0, 1⟩, ⟨zO 79 (.ext (.t 67) 0), false, 0, 1⟩, ⟨zO 80 (.ext (.t 67) 1), false, 0, 2⟩, ⟨zO 21 (.alloc 0 100 [(2, 97, 3, 0)] [(.string ⟨#[]⟩), (.string ⟨#[]⟩), (.slice none 0 0)]), true, 0, 1⟩, ⟨zU (.st true 3 [(2, 97, 3, 0)] (.t 21) (.t 79)), true, 1, 2⟩, ⟨zM 22 80, false, 2, 2⟩]) (.seq (.seq (.ops [zM 81 22, zO 82 (.sc (.un .not) [(.t 81)])]) (.cond (.t 82)
  (.seq (.ops [zO 10 (.nil 0 100 3), zO 11 (.mov (.c (.int .i64 5)))]) .ret)
  .skip)) (.ops [zM 83 14, zO 84 (.ld (.t 21) 3 true), zO 85 (.isl 3 [(.t 84)]), zO 86 (.app 0 100 3 56 (.t 83) (.t 85)), zM 14 86]))))))) (.ops [zO 87 (.sc (.bin .add 3) [(.t 49), (.c (.int .i64 1))]), zM 49 87]))))))) (.seq (.ops [zM 88 14, zM 10 88, zO 11 (.mov (.c (.int .i64 0)))]) .ret))))))) := by kernel_rfl
def f38_k32 (x93 : (List Rule)) : Option ((List Rule) × Int) := some (x93, 0)
def f38_l36 (a1 : (List Form)) (n : Nat) (a4 : (List Rule)) (a5 : (List Rule)) (a2 : (List Form)) (k32k : (List Rule) → Option ((List Rule) × Int)) : Nat → Int → (List Rule) → Option ((List Rule) × Int)
  | 0, _, _ => none
  | m36 + 1, x64, x65 => (bif (decide (x64 < (len a1))) then ((gi a1 x64).bind fun x72 => ((f78 n a4 x72.fName).bind fun r75 => ((f78 n a5 r75.1.fTo).bind fun r78 => ((f52 n a2 r75.1.fTo).bind fun r81 => ((gi a2 r81).bind fun x83 => ((f87 n r75.1 r78.1 x83.fCols).bind fun r85 => (bif (!r85.2) then some ([], 5) else ((app2 x65 [r85.1]).bind fun l91 => (f38_l36 a1 n a4 a5 a2 (k32k) m36 (wr .i64 (x64 + 1)) l91))))))))) else (k32k x65))
def f38 (n : Nat) (a1 : (List Form)) (a2 : (List Form)) (a3 : (List Form)) (a4 : (List Rule)) (a5 : (List Rule)) : Option ((List Rule) × Int) := ((f16 n a1).bind fun r9 => ((f16 n a2).bind fun r11 => ((f16 n a3).bind fun r13 => ((f49 n [r9, r11, r13]).bind fun r15 => (bif (r15 != 0) then some ([], r15) else ((f80 n a1 a2 a4).bind fun r22 => ((f80 n a2 a3 a5).bind fun r24 => ((f49 n [r22, r24]).bind fun r26 => (bif (r26 != 0) then some ([], r26) else (f38_l36 a1 n a4 a5 a2 (f38_k32) n 0 []))))))))))
def f38_r (r : ((List Rule) × Int)) : AV := (.tup [(vL Rule.c r.1), (vI r.2)])
theorem p_f38 {n : Nat} {a1 : (List Form)} {a2 : (List Form)} {a3 : (List Form)} {a4 : (List Rule)} {a5 : (List Rule)} {r : ((List Rule) × Int)} (h : f38 n a1 a2 a3 a4 a5 = some r) : PureSpec Try.prog 38 [(vL Form.c a1), (vL Form.c a2), (vL Form.c a3), (vL Rule.c a4), (vL Rule.c a5)] (f38_r r) := by
 rw [f38.eq_1] at h
 refine pure_of hmix ic38 ?_
 refine go_to (mkd (.val undef) 89 0 [(0, (vL Form.c a1)), (1, (vL Form.c a2)), (2, (vL Form.c a3)), (3, (vL Rule.c a4)), (4, (vL Rule.c a5))]) ?_
 refine s_so fun N6 k6 w6 => ?_
 refine o_h2 [(10, (.own 0 0)), (11, (vI 0))] [(some (.row 100 3 (List.map Rule.c [])))] ?_
 refine o_end (k6 _ ?_)
 refine s_seq fun N7 k7 w7 => ?_
 refine s_so fun N8 k8 w8 => ?_
 refine o_r1 [(23, (vL Form.c a1))] ?_
 refine bnd h fun r9 g10 h => ?_
 refine o_o (one_call (p_f16 g10)) ?_
 refine o_r1 [(25, (vL Form.c a2))] ?_
 refine bnd h fun r11 g12 h => ?_
 refine o_o (one_call (p_f16 g12)) ?_
 refine o_r1 [(27, (vL Form.c a3))] ?_
 refine bnd h fun r13 g14 h => ?_
 refine o_o (one_call (p_f16 g14)) ?_
 refine o_r1 [(29, (vL cI [r9, r11, r13]))] ?_
 refine bnd h fun r15 g16 h => ?_
 refine o_o (one_call (p_f49 g16)) ?_
 refine o_r1 [(12, (vI r15))] ?_
 refine o_end (k8 _ ?_)
 refine s_so fun N17 k17 w17 => ?_
 refine o_r2 [(31, (vI r15)), (32, (vB (r15 != 0)))] ?_
 refine o_end (k17 _ ?_)
 refine i_c [32] h (fun h => ?_) (fun h => ?_)
 · refine s_so fun N19 k19 w19 => ?_
   refine o_h3 [(10, (.own 1 0)), (11, (vI r15)), (33, (vI r15))] [(some (.row 100 3 (List.map Rule.c []))), (some (.row 100 3 (List.map Rule.c [])))] ?_
   refine s_tm (mkd (.val undef) 89 0 [(0, (vL Form.c a1)), (1, (vL Form.c a2)), (2, (vL Form.c a3)), (3, (vL Rule.c a4)), (4, (vL Rule.c a5)), (10, (.own 1 0)), (11, (vI r15)), (12, (vI r15)), (23, (vL Form.c a1)), (24, (vI r9)), (25, (vL Form.c a2)), (26, (vI r11)), (27, (vL Form.c a3)), (28, (vI r13)), (29, (vL cI [r9, r11, r13])), (30, (vI r15)), (31, (vI r15)), (32, (vB true)), (33, (vI r15))]) ?_
   refine o_end (w19 _ ⟨(mkd .any 89 0 [(10, (.own 1 0)), (11, (vI r15))]), [none, (some (.row 100 3 (List.map Rule.c [])))]⟩ (wkm [10, 11] (wh_drop (wh_keep (row_below Rule.p _ _ _ _) wh_nil))) ?_)
   exact c_ret (retsF [1] [(.own 1 0), (vI r15)] [(vL Rule.c []), (vI r15)] ⟨(fz_own (g := Rule.c) (l := []) (t := 100) (sz := 3) Rule.p), fz_v, trivial⟩ h)
 · refine c_skip (k7 _ ?_)
   refine s_seq fun N20 k20 w20 => ?_
   refine s_so fun N21 k21 w21 => ?_
   refine o_r3 [(34, (vL Form.c a1)), (35, (vL Form.c a2)), (36, (vL Rule.c a4))] ?_
   refine s_tm (mkd (.val undef) 89 0 [(0, (vL Form.c a1)), (1, (vL Form.c a2)), (2, (vL Form.c a3)), (3, (vL Rule.c a4)), (4, (vL Rule.c a5)), (10, (.own 0 0)), (11, (vI 0)), (12, (vI r15)), (23, (vL Form.c a1)), (24, (vI r9)), (25, (vL Form.c a2)), (26, (vI r11)), (27, (vL Form.c a3)), (28, (vI r13)), (29, (vL cI [r9, r11, r13])), (30, (vI r15)), (31, (vI r15)), (32, (vB false)), (34, (vL Form.c a1)), (35, (vL Form.c a2)), (36, (vL Rule.c a4))]) ?_
   refine bnd h fun r22 g23 h => ?_
   refine o_o (one_call (p_f80 g23)) ?_
   refine o_r3 [(38, (vL Form.c a2)), (39, (vL Form.c a3)), (40, (vL Rule.c a5))] ?_
   refine bnd h fun r24 g25 h => ?_
   refine o_o (one_call (p_f80 g25)) ?_
   refine o_r1 [(42, (vL cI [r22, r24]))] ?_
   refine bnd h fun r26 g27 h => ?_
   refine o_o (one_call (p_f49 g27)) ?_
   refine o_r1 [(13, (vI r26))] ?_
   refine o_end (w21 _ ⟨(mkd .any 89 0 [(0, (vL Form.c a1)), (1, (vL Form.c a2)), (3, (vL Rule.c a4)), (4, (vL Rule.c a5)), (13, (vI r26))]), []⟩ (wkm [0, 1, 3, 4, 13] wh_nil) ?_)
   refine s_so fun N28 k28 w28 => ?_
   refine o_r2 [(44, (vI r26)), (45, (vB (r26 != 0)))] ?_
   refine o_end (k28 _ ?_)
   refine i_c [45] h (fun h => ?_) (fun h => ?_)
   · refine s_so fun N30 k30 w30 => ?_
     refine o_h3 [(10, (.own 0 0)), (11, (vI r26)), (46, (vI r26))] [(some (.row 100 3 (List.map Rule.c [])))] ?_
     refine o_end (k30 _ ?_)
     exact c_ret (retsF [0] [(.own 0 0), (vI r26)] [(vL Rule.c []), (vI r26)] ⟨(fz_own (g := Rule.c) (l := []) (t := 100) (sz := 3) Rule.p), fz_v, trivial⟩ h)
   · refine c_skip (k20 _ ?_)
     refine s_so fun N31 k31 w31 => ?_
     refine o_h1 [(14, (.own 0 0))] [(some (.row 100 3 (List.map Rule.c [])))] ?_
     refine o_end (k31 _ ?_)
     refine J1 (r := r) (fun (x93 : (List Rule)) => ⟨(mkd .any 89 0 [(14, (.own 0 (List.length x93)))]), [(some (.row 100 3 (List.map Rule.c x93)))]⟩) (f38_k32) ?_ ?_
     · intro x93 h
       rw [f38_k32.eq_1] at h
       refine s_so fun N94 k94 w94 => ?_
       refine o_r3 [(10, (.own 0 (List.length x93))), (11, (vI 0)), (88, (.own 0 (List.length x93)))] ?_
       refine o_end (k94 _ ?_)
       exact c_ret (retsF [0] [(.own 0 (List.length x93)), (vI 0)] [(vL Rule.c x93), (vI 0)] ⟨(fz_own (g := Rule.c) (l := x93) (t := 100) (sz := 3) Rule.p), fz_v, trivial⟩ h)
     · intro N32 w32
       refine s_so fun N33 k33 w33 => ?_
       refine o_r1 [(47, (vL Form.c a1))] ?_
       refine o_o (one_len (f := Form.c) (l := a1)) ?_
       refine o_r1 [(49, (vI 0))] ?_
       refine o_end (k33 _ ?_)
       refine c_block fun E35 hE35 hO35 => ?_
       refine W2 (fun (x64 : Int) (x65 : (List Rule)) => ⟨(mkd .any 89 0 [(1, (vL Form.c a2)), (3, (vL Rule.c a4)), (4, (vL Rule.c a5)), (14, (.own 0 (List.length x65))), (47, (vL Form.c a1)), (48, (vI (len a1))), (49, (vI x64))]), [(some (.row 100 3 (List.map Rule.c x65)))]⟩) (f38_l36 a1 n a4 a5 a2 (f38_k32)) h (wkm [1, 3, 4, 14, 47, 48, 49] (wh_keep (row_below Rule.p _ _ _ _) wh_nil)) (by intros; rw [f38_l36.eq_1]) ?_
       intro m36 x64 x65 h N36 w36
       rw [f38_l36.eq_2] at h
       refine s_so fun N66 k66 w66 => ?_
       refine o_r1 [(50, (vB (decide (x64 < (len a1)))))] ?_
       refine o_end (k66 _ ?_)
       refine s_seq fun N67 k67 w67 => ?_
       refine i_c [50] h (fun h => ?_) (fun h => ?_)
       · refine c_skip (k67 _ ?_)
         refine s_seq fun N69 k69 w69 => ?_
         refine c_block fun E70 hE70 hO70 => ?_
         refine s_so fun N71 k71 w71 => ?_
         refine bnd h fun x72 g73 h => ?_
         refine o_o (one_ia (f := Form.c) (ki := .i64) g73) ?_
         refine o_h3 [(16, (.ptr 2 0)), (52, (.agg [(vS x72.fName), (vL Col.c x72.fCols)]))] [(some (.row 100 3 (List.map Rule.c x65))), (some (.row 93 3 (List.map Col.c []))), (some (.box 91 [(vS x72.fName), (vL Col.c x72.fCols)]))] ?_
         refine o_end (k71 _ ?_)
         refine s_so fun N74 k74 w74 => ?_
         refine o_r3 [(54, (vL Rule.c a4)), (55, (.ptr 2 0)), (56, (vS x72.fName))] ?_
         refine bnd h fun r75 g76 h => ?_
         refine o_o (one_call (p_f78 g76)) ?_
         refine o_h6 [(17, (.ptr 4 0)), (18, (vB r75.2)), (53, (.tup [(.agg [(vS r75.1.fClass), (vS r75.1.fTo), (vL Give.c r75.1.fGives)]), (vB r75.2)])), (58, (.agg [(vS r75.1.fClass), (vS r75.1.fTo), (vL Give.c r75.1.fGives)])), (59, (vB r75.2))] [(some (.row 100 3 (List.map Rule.c x65))), (some (.row 93 3 (List.map Col.c []))), (some (.box 91 [(vS x72.fName), (vL Col.c x72.fCols)])), (some (.row 97 3 (List.map Give.c []))), (some (.box 100 [(vS r75.1.fClass), (vS r75.1.fTo), (vL Give.c r75.1.fGives)]))] ?_
         refine o_end (k74 _ ?_)
         refine s_so fun N77 k77 w77 => ?_
         refine o_r3 [(61, (vL Rule.c a5)), (62, (.ptr 4 1)), (63, (vS r75.1.fTo))] ?_
         refine bnd h fun r78 g79 h => ?_
         refine o_o (one_call (p_f78 g79)) ?_
         refine o_h6 [(19, (.ptr 6 0)), (20, (vB r78.2)), (60, (.tup [(.agg [(vS r78.1.fClass), (vS r78.1.fTo), (vL Give.c r78.1.fGives)]), (vB r78.2)])), (65, (.agg [(vS r78.1.fClass), (vS r78.1.fTo), (vL Give.c r78.1.fGives)])), (66, (vB r78.2))] [(some (.row 100 3 (List.map Rule.c x65))), (some (.row 93 3 (List.map Col.c []))), (some (.box 91 [(vS x72.fName), (vL Col.c x72.fCols)])), (some (.row 97 3 (List.map Give.c []))), (some (.box 100 [(vS r75.1.fClass), (vS r75.1.fTo), (vL Give.c r75.1.fGives)])), (some (.row 97 3 (List.map Give.c []))), (some (.box 100 [(vS r78.1.fClass), (vS r78.1.fTo), (vL Give.c r78.1.fGives)]))] ?_
         refine o_end (w77 _ ⟨(mkd .any 89 0 [(1, (vL Form.c a2)), (3, (vL Rule.c a4)), (4, (vL Rule.c a5)), (14, (.own 0 (List.length x65))), (17, (.ptr 4 0)), (19, (.ptr 6 0)), (47, (vL Form.c a1)), (48, (vI (len a1))), (49, (vI x64))]), [(some (.row 100 3 (List.map Rule.c x65))), none, none, none, (some (.box 100 [(vS r75.1.fClass), (vS r75.1.fTo), (vL Give.c r75.1.fGives)])), none, (some (.box 100 [(vS r78.1.fClass), (vS r78.1.fTo), (vL Give.c r78.1.fGives)]))]⟩ (wkm [1, 3, 4, 14, 17, 19, 47, 48, 49] (wh_keep (row_below Rule.p _ _ _ _) (wh_drop (wh_drop (wh_drop (whk (wh_drop (whk wh_nil)))))))) ?_)
         refine s_seq fun N80 k80 w80 => ?_
         refine c_draw0 ?_
         refine d_r6 [(68, (.agg [(vS r75.1.fClass), (vS r75.1.fTo), (vL Give.c r75.1.fGives)])), (69, (.agg [(vS r78.1.fClass), (vS r78.1.fTo), (vL Give.c r78.1.fGives)])), (70, (vL Form.c a2)), (71, (vL Form.c a2)), (72, (.ptr 4 1)), (73, (vS r75.1.fTo))] ?_
         refine bnd h fun r81 g82 h => ?_
         refine d_o (one_call (p_f52 g82)) ?_
         refine bnd h fun x83 g84 h => ?_
         refine d_o (one_ia (f := Form.c) (ki := .i64) g84) ?_
         refine d_r2 [(76, (.iptr [(vL Col.c x83.fCols)])), (77, (vL Col.c x83.fCols))] ?_
         refine bnd h fun r85 g86 h => ?_
         refine d_o (one_call (p_f87 g86)) ?_
         refine d_r3 [(67, (.tup [(.agg [(vS r85.1.fClass), (vS r85.1.fTo), (vL Give.c r85.1.fGives)]), (vB r85.2)])), (79, (.agg [(vS r85.1.fClass), (vS r85.1.fTo), (vL Give.c r85.1.fGives)])), (80, (vB r85.2))] ?_
         refine d_te (.ptr 8 0) [(some (.row 100 3 (List.map Rule.c x65))), none, none, none, (some (.box 100 [(vS r75.1.fClass), (vS r75.1.fTo), (vL Give.c r75.1.fGives)])), none, (some (.box 100 [(vS r78.1.fClass), (vS r78.1.fTo), (vL Give.c r78.1.fGives)])), (some (.row 97 3 (List.map Give.c []))), (some (.box 100 [(vS (ByteArray.mk #[])), (vS (ByteArray.mk #[])), (.own 7 0)]))] (ra_cat (ra_cat (ra_cat (ra_cat (ra_cat (ra_cat ra_nil (ra_t (ra_t (ra_t (ra_t (ra_t (ra_t ra_nil))))))) (ra_o (one_call (p_f52 g82)) ra_nil)) (ra_o (one_ia (f := Form.c) (ki := .i64) g84) ra_nil)) (ra_t (ra_t ra_nil))) (ra_o (one_call (p_f87 g86)) ra_nil)) (ra_t (ra_t (ra_t ra_nil)))) ?_
         refine d_te (.val undef) [(some (.row 100 3 (List.map Rule.c x65))), none, none, none, (some (.box 100 [(vS r75.1.fClass), (vS r75.1.fTo), (vL Give.c r75.1.fGives)])), none, (some (.box 100 [(vS r78.1.fClass), (vS r78.1.fTo), (vL Give.c r78.1.fGives)])), (some (.row 97 3 (List.map Give.c []))), (some (.box 100 [(vS r85.1.fClass), (vS r85.1.fTo), (vL Give.c r85.1.fGives)]))] (ra_cat (ra_cat (ra_cat (ra_cat (ra_cat (ra_cat ra_nil (ra_s (ra_s (ra_s (ra_s (ra_s (ra_s ra_nil))))))) (ra_s ra_nil)) (ra_s ra_nil)) (ra_s (ra_s ra_nil))) (ra_s ra_nil)) (ra_s (ra_s (ra_t ra_nil)))) ?_
         refine d_r1 [(22, (vB r85.2))] ?_
         refine d_end (w80 _ ⟨(mkd .any 89 0 [(1, (vL Form.c a2)), (3, (vL Rule.c a4)), (4, (vL Rule.c a5)), (14, (.own 0 (List.length x65))), (21, (.ptr 8 0)), (22, (vB r85.2)), (47, (vL Form.c a1)), (48, (vI (len a1))), (49, (vI x64))]), [(some (.row 100 3 (List.map Rule.c x65))), none, none, none, none, none, none, none, (some (.box 100 [(vS r85.1.fClass), (vS r85.1.fTo), (vL Give.c r85.1.fGives)]))]⟩ (wkm [1, 3, 4, 14, 21, 22, 47, 48, 49] (wh_keep (row_below Rule.p _ _ _ _) (wh_none (wh_none (wh_none (wh_drop (wh_none (wh_drop (wh_drop (whk wh_nil)))))))))) ?_)
         refine s_seq fun N87 k87 w87 => ?_
         refine s_so fun N88 k88 w88 => ?_
         refine o_r2 [(81, (vB r85.2)), (82, (vB (!r85.2)))] ?_
         refine o_end (k88 _ ?_)
         refine i_c [82] h (fun h => ?_) (fun h => ?_)
         · refine s_so fun N90 k90 w90 => ?_
           refine o_h2 [(10, (.own 9 0)), (11, (vI 5))] [(some (.row 100 3 (List.map Rule.c x65))), none, none, none, none, none, none, none, (some (.box 100 [(vS r85.1.fClass), (vS r85.1.fTo), (vL Give.c r85.1.fGives)])), (some (.row 100 3 (List.map Rule.c [])))] ?_
           refine o_end (k90 _ ?_)
           exact c_ret (retsF [9] [(.own 9 0), (vI 5)] [(vL Rule.c []), (vI 5)] ⟨(fz_own (g := Rule.c) (l := []) (t := 100) (sz := 3) Rule.p), fz_v, trivial⟩ h)
         · refine c_skip (k87 _ ?_)
           refine c_ops ?_
           refine o_r3 [(83, (.own 0 (List.length x65))), (84, (.agg [(vS r85.1.fClass), (vS r85.1.fTo), (vL Give.c r85.1.fGives)])), (85, (vL Rule.c [r85.1]))] ?_
           refine bnd h fun l91 g92 h => ?_
           refine o_x [(some (.row 100 3 (List.map Rule.c l91))), none, none, none, none, none, none, none, (some (.box 100 [(vS r85.1.fClass), (vS r85.1.fTo), (vL Give.c r85.1.fGives)]))] (one_app (f := Rule.c) (o := 0) g92 (fun _ => ⟨rfl, rfl⟩)) ?_
           refine o_r1 [(14, (.own 0 (List.length l91)))] ?_
           refine o_end (k69 _ ?_)
           refine c_ops ?_
           refine o_r2 [(49, (vI (wr .i64 (x64 + 1)))), (87, (vI (wr .i64 (x64 + 1))))] ?_
           exact o_end (w36 _ _ _ (wkm [1, 3, 4, 14, 47, 48, 49] (wh_keep (row_below Rule.p _ _ _ _) wh_nil)) h)
       · refine c_exit (hE35 _ ?_)
         exact w32 _ _ (wkm [14] (wh_keep (row_below Rule.p _ _ _ _) wh_nil)) h
theorem ic75 : fnIC Try.prog H0 75 = some ([.tmp 4], 26, (.seq (.ops [zO 4 (.mov (.c (.bool false)))]) (.seq (.seq (.ops [zM 6 0, zO 7 (.len false (.t 6)), zM 8 1, zO 9 (.len false (.t 8)), zO 10 (.sc (.bin .neq 3) [(.t 7), (.t 9)])]) (.cond (.t 10)
  (.seq (.ops [zO 4 (.mov (.c (.bool false)))]) .ret)
  .skip)) (.seq (.seq (.ops [zO 5 (.mov (.c (.int .i64 0)))]) (.block 0 (.loop (.seq (.seq (.ops [zM 11 5, zM 12 0, zO 13 (.len false (.t 12)), zO 14 (.sc (.bin .lss 3) [(.t 11), (.t 13)])]) (.cond (.t 14)
  .skip
  (.exit 0))) (.seq (.block 1 (.seq (.draw [] [zQ (zM 17 0), zQ (zM 18 5), zQ (zO 19 (.iaddr 2 (.t 17) (.t 18))), zQ (zO 20 (.ld (.t 19) 2 true)), zQ (zM 21 1), zQ (zM 22 5), zQ (zO 23 (.iaddr 2 (.t 21) (.t 22))), zQ (zO 24 (.ld (.t 23) 2 true)), zQ (zO 25 (.sc (.bin .neq 59) [(.t 20), (.t 24)]))]) (.cond (.t 25)
  (.seq (.ops [zO 4 (.mov (.c (.bool false)))]) .ret)
  .skip))) (.ops [zM 15 5, zO 16 (.sc (.bin .add 3) [(.t 15), (.c (.int .i64 1))]), zM 5 16])))))) (.seq (.ops [zO 4 (.mov (.c (.bool true)))]) .ret))))) := by kernel_rfl
def f75_k10 : Option Bool := some true
def f75_l13 (a1 : (List Val)) (a2 : (List Val)) (k10k : Option Bool) : Nat → Int → Option Bool
  | 0, _ => none
  | m13 + 1, x28 => (bif (decide (x28 < (len a1))) then ((gi a1 x28).bind fun x36 => ((gi a2 x28).bind fun x38 => (bif (!(Val.eqB x36 x38)) then some false else (f75_l13 a1 a2 (k10k) m13 (wr .i64 (x28 + 1)))))) else (k10k))
def f75 (n : Nat) (a1 : (List Val)) (a2 : (List Val)) : Option Bool := (bif ((len a1) != (len a2)) then some false else (f75_l13 a1 a2 (f75_k10) n 0))
def f75_r (r : Bool) : AV := (vB r)
theorem p_f75 {n : Nat} {a1 : (List Val)} {a2 : (List Val)} {r : Bool} (h : f75 n a1 a2 = some r) : PureSpec Try.prog 75 [(vL Val.c a1), (vL Val.c a2)] (f75_r r) := by
 rw [f75.eq_1] at h
 refine pure_of hmix ic75 ?_
 refine go_to (mkd (.val undef) 26 0 [(0, (vL Val.c a1)), (1, (vL Val.c a2))]) ?_
 refine s_so fun N3 k3 w3 => ?_
 refine o_r1 [(4, (vB false))] ?_
 refine o_end (k3 _ ?_)
 refine s_seq fun N4 k4 w4 => ?_
 refine s_so fun N5 k5 w5 => ?_
 refine o_r1 [(6, (vL Val.c a1))] ?_
 refine o_o (one_len (f := Val.c) (l := a1)) ?_
 refine o_r1 [(8, (vL Val.c a2))] ?_
 refine o_o (one_len (f := Val.c) (l := a2)) ?_
 refine o_r1 [(10, (vB ((len a1) != (len a2))))] ?_
 refine o_end (k5 _ ?_)
 refine i_c [10] h (fun h => ?_) (fun h => ?_)
 · refine s_so fun N9 k9 w9 => ?_
   refine o_r1 [] ?_
   refine o_end (k9 _ ?_)
   exact c_ret (rets [] [(vB false)] [(vB false)] h)
 · refine c_skip (k4 _ ?_)
   refine J0 (r := r) ⟨(mkd .any 26 0 []), []⟩ (f75_k10) ?_ ?_
   · intro h
     rw [f75_k10.eq_1] at h
     refine s_so fun N43 k43 w43 => ?_
     refine o_r1 [(4, (vB true))] ?_
     refine o_end (k43 _ ?_)
     exact c_ret (rets [] [(vB true)] [(vB true)] h)
   · intro N10 w10
     refine s_so fun N11 k11 w11 => ?_
     refine o_r1 [(5, (vI 0))] ?_
     refine o_end (k11 _ ?_)
     refine c_block fun E12 hE12 hO12 => ?_
     refine W1 (fun (x28 : Int) => ⟨(mkd .any 26 0 [(0, (vL Val.c a1)), (1, (vL Val.c a2)), (5, (vI x28))]), []⟩) (f75_l13 a1 a2 (f75_k10)) h (wkm [0, 1, 5] wh_nil) (by intros; rw [f75_l13.eq_1]) ?_
     intro m13 x28 h N13 w13
     rw [f75_l13.eq_2] at h
     refine s_seq fun N29 k29 w29 => ?_
     refine s_so fun N30 k30 w30 => ?_
     refine o_r2 [(11, (vI x28)), (12, (vL Val.c a1))] ?_
     refine o_o (one_len (f := Val.c) (l := a1)) ?_
     refine o_r1 [(14, (vB (decide (x28 < (len a1)))))] ?_
     refine o_end (k30 _ ?_)
     refine i_c [14] h (fun h => ?_) (fun h => ?_)
     · refine c_skip (k29 _ ?_)
       refine s_seq fun N33 k33 w33 => ?_
       refine c_block fun E34 hE34 hO34 => ?_
       refine s_seq fun N35 k35 w35 => ?_
       refine c_draw0 ?_
       refine d_r2 [(17, (vL Val.c a1)), (18, (vI x28))] ?_
       refine bnd h fun x36 g37 h => ?_
       refine d_o (one_ia (f := Val.c) (ki := .i64) g37) ?_
       refine d_r3 [(20, (.agg [(vI x36.fKind), (vI x36.fN)])), (21, (vL Val.c a2)), (22, (vI x28))] ?_
       refine bnd h fun x38 g39 h => ?_
       refine d_o (one_ia (f := Val.c) (ki := .i64) g39) ?_
       refine d_r1 [(24, (.agg [(vI x38.fKind), (vI x38.fN)]))] ?_
       refine d_o (one_sc (vs := [.agg #[.int .i64 x36.fKind, .int .i64 x36.fN], .agg #[.int .i64 x38.fKind, .int .i64 x38.fN]]) (sc_nes (r := Val.eqB x36 x38))) ?_
       refine d_end (k35 _ ?_)
       refine i_c [25] h (fun h => ?_) (fun h => ?_)
       · refine s_so fun N42 k42 w42 => ?_
         refine o_r1 [(4, (vB false))] ?_
         refine s_tm (mkd .any 26 0 [(0, (vL Val.c a1)), (1, (vL Val.c a2)), (4, (vB false)), (5, (vI x28)), (11, (vI x28)), (12, (vL Val.c a1)), (13, (vI (len a1))), (14, (vB true)), (17, (vL Val.c a1)), (18, (vI x28)), (19, (.iptr [(vI x36.fKind), (vI x36.fN)])), (20, (.agg [(vI x36.fKind), (vI x36.fN)])), (21, (vL Val.c a2)), (22, (vI x28)), (23, (.iptr [(vI x38.fKind), (vI x38.fN)])), (24, (.agg [(vI x38.fKind), (vI x38.fN)])), (25, (vB true))]) ?_
         refine o_end (w42 _ ⟨(mkd .any 26 0 [(4, (vB false))]), []⟩ (wkm [4] wh_nil) ?_)
         exact c_ret (rets [] [(vB false)] [(vB false)] h)
       · refine c_skip (k33 _ ?_)
         refine c_ops ?_
         refine o_r3 [(5, (vI (wr .i64 (x28 + 1)))), (15, (vI x28)), (16, (vI (wr .i64 (x28 + 1))))] ?_
         refine s_tm (mkd .any 26 0 [(0, (vL Val.c a1)), (1, (vL Val.c a2)), (5, (vI (wr .i64 (x28 + 1)))), (11, (vI x28)), (12, (vL Val.c a1)), (13, (vI (len a1))), (14, (vB true)), (15, (vI x28)), (16, (vI (wr .i64 (x28 + 1)))), (17, (vL Val.c a1)), (18, (vI x28)), (19, (.iptr [(vI x36.fKind), (vI x36.fN)])), (20, (.agg [(vI x36.fKind), (vI x36.fN)])), (21, (vL Val.c a2)), (22, (vI x28)), (23, (.iptr [(vI x38.fKind), (vI x38.fN)])), (24, (.agg [(vI x38.fKind), (vI x38.fN)])), (25, (vB false))]) ?_
         exact o_end (w13 _ _ (wkm [0, 1, 5] wh_nil) h)
     · refine c_exit (hE12 _ ?_)
       exact w10 _ (wkm [] wh_nil) h
theorem ic27 : fnIC Try.prog H0 27 = some ([.tmp 4], 61, (.seq (.ops [zO 2 (.box 0 26 [(0, 57, 2, 0), (1, 59, 2, 0)] (.t 0)), zO 3 (.box 0 26 [(0, 57, 2, 0), (1, 59, 2, 0)] (.t 1)), zO 4 (.mov (.c (.bool false)))]) (.seq (.ops [zO 8 (.faddr (.t 2) 1), zO 9 (.ld (.t 8) 1 false), zO 10 (.faddr (.t 3) 1), zO 11 (.ld (.t 10) 1 false), zO 12 (.call 75 [(.t 9), (.t 11)]), zM 5 12]) (.seq (.seq (.ops [zM 13 5, zO 14 (.sc (.un .not) [(.t 13)]), zM 15 14, zG 16 15 false (.faddr (.t 2) 0), zG 17 15 false (.ld (.t 16) 1 false), zG 18 15 false (.len false (.t 17)), zG 19 15 false (.faddr (.t 3) 0), zG 20 15 false (.ld (.t 19) 1 false), zG 21 15 false (.len false (.t 20)), zG 22 15 false (.sc (.bin .neq 3) [(.t 18), (.t 21)]), zO 23 (.pick (.t 15) (.c (.bool true)) (.t 22))]) (.cond (.t 23)
  (.seq (.ops [zO 4 (.mov (.c (.bool false)))]) .ret)
  .skip)) (.seq (.seq (.ops [zO 6 (.mov (.c (.int .i64 0)))]) (.block 0 (.loop (.seq (.seq (.ops [zM 24 6, zO 25 (.faddr (.t 2) 0), zO 26 (.ld (.t 25) 1 false), zO 27 (.len false (.t 26)), zO 28 (.sc (.bin .lss 3) [(.t 24), (.t 27)])]) (.cond (.t 28)
  .skip
  (.exit 0))) (.seq (.block 1 (.seq (.draw [] [zQ (zO 31 (.faddr (.t 2) 0)), zQ (zO 32 (.ld (.t 31) 1 false)), zQ (zM 33 6), zQ (zO 34 (.iaddr 2 (.t 32) (.t 33))), zQ (zO 35 (.faddr (.t 34) 1)), zQ (zO 36 (.ld (.t 35) 1 false)), zQ (zO 37 (.faddr (.t 3) 0)), zQ (zO 38 (.ld (.t 37) 1 false)), zQ (zM 39 6), zQ (zO 40 (.iaddr 2 (.t 38) (.t 39))), zQ (zO 41 (.faddr (.t 40) 1)), zQ (zO 42 (.ld (.t 41) 1 false)), zQ (zO 43 (.call 75 [(.t 36), (.t 42)])), zQ (zM 7 43)]) (.seq (.draw [] [zQ (zM 44 7), zQ (zO 45 (.sc (.un .not) [(.t 44)])), zQ (zM 46 45), zQ (zG 47 46 false (.faddr (.t 2) 0)), zQ (zG 48 46 false (.ld (.t 47) 1 false)), zQ (zN 49 46 false 6), zQ (zG 50 46 false (.iaddr 2 (.t 48) (.t 49))), zQ (zG 51 46 false (.faddr (.t 50) 0)), zQ (zG 52 46 false (.ld (.t 51) 1 false)), zQ (zG 53 46 false (.faddr (.t 3) 0)), zQ (zG 54 46 false (.ld (.t 53) 1 false)), zQ (zN 55 46 false 6), zQ (zG 56 46 false (.iaddr 2 (.t 54) (.t 55))), zQ (zG 57 46 false (.faddr (.t 56) 0)), zQ (zG 58 46 false (.ld (.t 57) 1 false)), zQ (zG 59 46 false (.sc (.bin .neq 9) [(.t 52), (.t 58)])), zQ (zO 60 (.pick (.t 46) (.c (.bool true)) (.t 59)))]) (.cond (.t 60)
  (.seq (.ops [zO 4 (.mov (.c (.bool false)))]) .ret)
  .skip)))) (.ops [zM 29 6, zO 30 (.sc (.bin .add 3) [(.t 29), (.c (.int .i64 1))]), zM 6 30])))))) (.seq (.ops [zO 4 (.mov (.c (.bool true)))]) .ret)))))) := by kernel_rfl
def f27_k56 (x42 : Int) (c18k : Int → Option Bool) (x63 : Bool) : Option Bool := (bif x63 then some false else (c18k (wr .i64 (x42 + 1))))
def f27_k15 : Option Bool := some true
def f27_l18 (a1 : Graph) (a2 : Graph) (n : Nat) (k15k : Option Bool) : Nat → Int → Option Bool
  | 0, _ => none
  | m18 + 1, x42 => (bif (decide (x42 < (len a1.fNodes))) then ((gi a1.fNodes x42).bind fun x50 => ((gi a2.fNodes x42).bind fun x52 => ((f75 n x50.fVals x52.fVals).bind fun r54 => (bif (!r54) then (f27_k56 x42 (f27_l18 a1 a2 n (k15k) m18) true) else ((gi a1.fNodes x42).bind fun x58 => ((gi a2.fNodes x42).bind fun x60 => (f27_k56 x42 (f27_l18 a1 a2 n (k15k) m18) (!(sEqF x58.fClass x60.fClass))))))))) else (k15k))
def f27_k8 (n : Nat) (a1 : Graph) (a2 : Graph) (x12 : Bool) : Option Bool := (bif x12 then some false else (f27_l18 a1 a2 n (f27_k15) n 0))
def f27 (n : Nat) (a1 : Graph) (a2 : Graph) : Option Bool := ((f75 n a1.fRoots a2.fRoots).bind fun r5 => (bif (!r5) then (f27_k8 n a1 a2 true) else (f27_k8 n a1 a2 ((len a1.fNodes) != (len a2.fNodes)))))
def f27_r (r : Bool) : AV := (vB r)
theorem p_f27 {n : Nat} {a1 : Graph} {a2 : Graph} {r : Bool} (h : f27 n a1 a2 = some r) : PureSpec Try.prog 27 [(.agg [(vL Node.c a1.fNodes), (vL Val.c a1.fRoots)]), (.agg [(vL Node.c a2.fNodes), (vL Val.c a2.fRoots)])] (f27_r r) := by
 rw [f27.eq_1] at h
 refine pure_of hmix ic27 ?_
 refine go_to (mkd (.val undef) 61 0 [(0, (.agg [(vL Node.c a1.fNodes), (vL Val.c a1.fRoots)])), (1, (.agg [(vL Node.c a2.fNodes), (vL Val.c a2.fRoots)]))]) ?_
 refine s_so fun N3 k3 w3 => ?_
 refine o_h3 [(2, (.ptr 0 0)), (3, (.ptr 1 0)), (4, (vB false))] [(some (.box 26 [(vL Node.c a1.fNodes), (vL Val.c a1.fRoots)])), (some (.box 26 [(vL Node.c a2.fNodes), (vL Val.c a2.fRoots)]))] ?_
 refine o_end (k3 _ ?_)
 refine s_so fun N4 k4 w4 => ?_
 refine o_r4 [(8, (.ptr 0 1)), (9, (vL Val.c a1.fRoots)), (10, (.ptr 1 1)), (11, (vL Val.c a2.fRoots))] ?_
 refine bnd h fun r5 g6 h => ?_
 refine o_o (one_call (p_f75 g6)) ?_
 refine o_r1 [(5, (vB r5))] ?_
 refine o_end (k4 _ ?_)
 refine s_seq fun N7 k7 w7 => ?_
 refine J1 (r := r) (fun (x12 : Bool) => ⟨(mkd .any 61 0 [(2, (.ptr 0 0)), (3, (.ptr 1 0)), (23, (vB x12))]), [(some (.box 26 [(vL Node.c a1.fNodes), (vL Val.c a1.fRoots)])), (some (.box 26 [(vL Node.c a2.fNodes), (vL Val.c a2.fRoots)]))]⟩) (f27_k8 n a1 a2) ?_ ?_
 · intro x12 h
   rw [f27_k8.eq_1] at h
   refine i_c [23] h (fun h => ?_) (fun h => ?_)
   · refine s_so fun N14 k14 w14 => ?_
     refine o_r1 [(4, (vB false))] ?_
     refine o_end (k14 _ ?_)
     exact c_ret (rets [] [(vB false)] [(vB false)] h)
   · refine c_skip (k7 _ ?_)
     refine J0 (r := r) ⟨(mkd .any 61 0 []), []⟩ (f27_k15) ?_ ?_
     · intro h
       rw [f27_k15.eq_1] at h
       refine s_so fun N66 k66 w66 => ?_
       refine o_r1 [(4, (vB true))] ?_
       refine o_end (k66 _ ?_)
       exact c_ret (rets [] [(vB true)] [(vB true)] h)
     · intro N15 w15
       refine s_so fun N16 k16 w16 => ?_
       refine o_r1 [(6, (vI 0))] ?_
       refine o_end (k16 _ ?_)
       refine c_block fun E17 hE17 hO17 => ?_
       refine W1 (fun (x42 : Int) => ⟨(mkd .any 61 0 [(2, (.ptr 0 0)), (3, (.ptr 1 0)), (6, (vI x42))]), [(some (.box 26 [(vL Node.c a1.fNodes), (vL Val.c a1.fRoots)])), (some (.box 26 [(vL Node.c a2.fNodes), (vL Val.c a2.fRoots)]))]⟩) (f27_l18 a1 a2 n (f27_k15)) h (wkm [2, 3, 6] (whk (whk wh_nil))) (by intros; rw [f27_l18.eq_1]) ?_
       intro m18 x42 h N18 w18
       rw [f27_l18.eq_2] at h
       refine s_seq fun N43 k43 w43 => ?_
       refine s_so fun N44 k44 w44 => ?_
       refine o_r3 [(24, (vI x42)), (25, (.ptr 0 0)), (26, (vL Node.c a1.fNodes))] ?_
       refine o_o (one_len (f := Node.c) (l := a1.fNodes)) ?_
       refine o_r1 [(28, (vB (decide (x42 < (len a1.fNodes)))))] ?_
       refine o_end (k44 _ ?_)
       refine i_c [28] h (fun h => ?_) (fun h => ?_)
       · refine c_skip (k43 _ ?_)
         refine s_seq fun N47 k47 w47 => ?_
         refine c_block fun E48 hE48 hO48 => ?_
         refine s_seq fun N49 k49 w49 => ?_
         refine c_draw0 ?_
         refine d_r3 [(31, (.ptr 0 0)), (32, (vL Node.c a1.fNodes)), (33, (vI x42))] ?_
         refine bnd h fun x50 g51 h => ?_
         refine d_o (one_ia (f := Node.c) (ki := .i64) g51) ?_
         refine d_r5 [(35, (.iptr [(vL Val.c x50.fVals)])), (36, (vL Val.c x50.fVals)), (37, (.ptr 1 0)), (38, (vL Node.c a2.fNodes)), (39, (vI x42))] ?_
         refine bnd h fun x52 g53 h => ?_
         refine d_o (one_ia (f := Node.c) (ki := .i64) g53) ?_
         refine d_r2 [(41, (.iptr [(vL Val.c x52.fVals)])), (42, (vL Val.c x52.fVals))] ?_
         refine bnd h fun r54 g55 h => ?_
         refine d_o (one_call (p_f75 g55)) ?_
         refine d_r1 [(7, (vB r54))] ?_
         refine d_end (w49 _ ⟨(mkd .any 61 0 [(2, (.ptr 0 0)), (3, (.ptr 1 0)), (6, (vI x42)), (7, (vB r54))]), [(some (.box 26 [(vL Node.c a1.fNodes), (vL Val.c a1.fRoots)])), (some (.box 26 [(vL Node.c a2.fNodes), (vL Val.c a2.fRoots)]))]⟩ (wkm [2, 3, 6, 7] (whk (whk wh_nil))) ?_)
         refine J1 (r := r) (fun (x63 : Bool) => ⟨(mkd .any 61 0 [(2, (.ptr 0 0)), (3, (.ptr 1 0)), (6, (vI x42)), (60, (vB x63))]), [(some (.box 26 [(vL Node.c a1.fNodes), (vL Val.c a1.fRoots)])), (some (.box 26 [(vL Node.c a2.fNodes), (vL Val.c a2.fRoots)]))]⟩) (f27_k56 x42 (f27_l18 a1 a2 n (f27_k15) m18)) ?_ ?_
         · intro x63 h
           rw [f27_k56.eq_1] at h
           refine i_c [60] h (fun h => ?_) (fun h => ?_)
           · refine s_so fun N65 k65 w65 => ?_
             refine o_r1 [(4, (vB false))] ?_
             refine o_end (k65 _ ?_)
             exact c_ret (rets [] [(vB false)] [(vB false)] h)
           · refine c_skip (k47 _ ?_)
             refine c_ops ?_
             refine o_r3 [(6, (vI (wr .i64 (x42 + 1)))), (29, (vI x42)), (30, (vI (wr .i64 (x42 + 1))))] ?_
             exact o_end (w18 _ _ (wkm [2, 3, 6] (whk (whk wh_nil))) h)
         · intro N56 w56
           refine c_draw0 ?_
           refine d_r3 [(44, (vB r54)), (45, (vB (!r54))), (46, (vB (!r54)))] ?_
           refine i_d [45, 46] h (fun h => ?_) (fun h => ?_)
           · refine d_r14 [(47, (.val undef)), (48, (.val undef)), (49, (.val undef)), (50, (.val undef)), (51, (.val undef)), (52, (.val undef)), (53, (.val undef)), (54, (.val undef)), (55, (.val undef)), (56, (.val undef)), (57, (.val undef)), (58, (.val undef)), (59, (.val undef)), (60, (vB true))] ?_
             exact d_end (w56 _ _ (wkm [2, 3, 6, 60] (whk (whk wh_nil))) h)
           · refine d_r3 [(47, (.ptr 0 0)), (48, (vL Node.c a1.fNodes)), (49, (vI x42))] ?_
             refine bnd h fun x58 g59 h => ?_
             refine d_g (one_ia (f := Node.c) (ki := .i64) g59) ?_
             refine d_r5 [(51, (.iptr [(vS x58.fClass), (vL Val.c x58.fVals)])), (52, (vS x58.fClass)), (53, (.ptr 1 0)), (54, (vL Node.c a2.fNodes)), (55, (vI x42))] ?_
             refine bnd h fun x60 g61 h => ?_
             refine d_g (one_ia (f := Node.c) (ki := .i64) g61) ?_
             refine d_r2 [(57, (.iptr [(vS x60.fClass), (vL Val.c x60.fVals)])), (58, (vS x60.fClass))] ?_
             refine d_g (one_sc (vs := [.string x58.fClass, .string x60.fClass]) (str_neq x58.fClass x60.fClass)) ?_
             refine d_r1 [(60, (vB (!(sEqF x58.fClass x60.fClass))))] ?_
             exact d_end (w56 _ _ (wkm [2, 3, 6, 60] (whk (whk wh_nil))) h)
       · refine c_exit (hE17 _ ?_)
         exact w15 _ (wkm [] wh_nil) h
 · intro N8 w8
   refine c_ops ?_
   refine o_r3 [(13, (vB r5)), (14, (vB (!r5))), (15, (vB (!r5)))] ?_
   refine i_o [14, 15] h (fun h => ?_) (fun h => ?_)
   · refine o_r8 [(16, (.val undef)), (17, (.val undef)), (18, (.val undef)), (19, (.val undef)), (20, (.val undef)), (21, (.val undef)), (22, (.val undef)), (23, (vB true))] ?_
     exact o_end (w8 _ _ (wkm [2, 3, 23] (whk (whk wh_nil))) h)
   · refine o_r2 [(16, (.ptr 0 0)), (17, (vL Node.c a1.fNodes))] ?_
     refine o_g ?_
     refine o_o (one_len (f := Node.c) (l := a1.fNodes)) ?_
     refine o_r2 [(19, (.ptr 1 0)), (20, (vL Node.c a2.fNodes))] ?_
     refine o_g ?_
     refine o_o (one_len (f := Node.c) (l := a2.fNodes)) ?_
     refine o_r2 [(22, (vB ((len a1.fNodes) != (len a2.fNodes)))), (23, (vB ((len a1.fNodes) != (len a2.fNodes))))] ?_
     exact o_end (w8 _ _ (wkm [2, 3, 23] (whk (whk wh_nil))) h)
theorem ic11 : fnIC Try.prog H0 11 = some ([.tmp 12], 138, (.seq (.ops [zO 11 (.box 0 26 [(0, 57, 2, 0), (1, 59, 2, 0)] (.t 5)), zO 12 (.mov (.c (.bool false)))]) (.seq (.seq (.ops [zM 24 0, zO 25 (.call 13 [(.t 24)]), zO 26 (.sc (.un .not) [(.t 25)]), zM 27 26, zN 28 27 false 1, zG 29 27 false (.call 13 [(.t 28)]), zG 30 27 false (.sc (.un .not) [(.t 29)]), zO 31 (.pick (.t 27) (.c (.bool true)) (.t 30)), zM 32 31, zN 33 32 false 2, zG 34 32 false (.call 13 [(.t 33)]), zG 35 32 false (.sc (.un .not) [(.t 34)]), zO 36 (.pick (.t 32) (.c (.bool true)) (.t 35)), zM 37 36, zN 38 37 false 3, zG 39 37 false (.call 31 [(.t 38)]), zG 40 37 false (.sc (.un .not) [(.t 39)]), zO 41 (.pick (.t 37) (.c (.bool true)) (.t 40)), zM 42 41, zN 43 42 false 4, zG 44 42 false (.call 31 [(.t 43)]), zG 45 42 false (.sc (.un .not) [(.t 44)]), zO 46 (.pick (.t 42) (.c (.bool true)) (.t 45)), zM 47 46, zG 48 47 false (.ld (.t 11) 2 true), zG 49 47 false (.call 14 [(.t 48)]), zG 50 47 false (.sc (.un .not) [(.t 49)]), zO 51 (.pick (.t 47) (.c (.bool true)) (.t 50))]) (.cond (.t 51)
  (.seq (.ops [zO 52 (.call 15 []), zM 12 52]) .ret)
  .skip)) (.seq (.ops [zM 54 0, zM 55 1, zM 56 2, zM 57 3, zM 58 4, zO 59 (.call 38 [(.t 54), (.t 55), (.t 56), (.t 57), (.t 58)]), zM 53 59, zO 60 (.ext (.t 53) 0), zO 61 (.ext (.t 53) 1), zM 13 60, zM 14 61]) (.seq (.seq (.ops [zM 62 14, zO 63 (.sc (.bin .neq 30) [(.t 62), (.c (.int .i64 0))]), zM 64 63, zN 65 64 false 0, zG 66 64 false (.ld (.t 11) 2 true), zG 67 64 false (.call 18 [(.t 65), (.t 66)]), zG 68 64 false (.sc (.bin .neq 30) [(.t 67), (.c (.int .i64 0))]), zO 69 (.pick (.t 64) (.c (.bool true)) (.t 68))]) (.cond (.t 69)
  (.seq (.ops [zO 70 (.call 15 []), zM 12 70]) .ret)
  .skip)) (.seq (.ops [zM 72 0, zM 73 2, zM 74 13, zO 75 (.ld (.t 11) 2 true), zO 76 (.call 32 [(.t 72), (.t 73), (.t 74), (.t 75)]), zM 71 76, zO 77 (.ext (.t 71) 0), zO 78 (.ext (.t 71) 1), zO 79 (.ext (.t 71) 2), zO 15 (.alloc 0 26 [(0, 57, 2, 0), (1, 59, 2, 0)] [(.slice none 0 0), (.slice none 0 0)]), zO 16 (.alloc 0 64 [] [(.int .i64 0), (.string ⟨#[]⟩)]), zU (.st true 2 [(0, 57, 2, 0), (1, 59, 2, 0)] (.t 15) (.t 77)), zU (.st true 2 [] (.t 16) (.t 78)), zM 17 79]) (.seq (.ops [zM 81 0, zM 82 1, zM 83 3, zO 84 (.ld (.t 11) 2 true), zO 85 (.call 32 [(.t 81), (.t 82), (.t 83), (.t 84)]), zM 80 85, zO 86 (.ext (.t 80) 0), zO 87 (.ext (.t 80) 1), zO 88 (.ext (.t 80) 2), zO 18 (.alloc 0 26 [(0, 57, 2, 0), (1, 59, 2, 0)] [(.slice none 0 0), (.slice none 0 0)]), zO 19 (.alloc 0 64 [] [(.int .i64 0), (.string ⟨#[]⟩)]), zU (.st true 2 [(0, 57, 2, 0), (1, 59, 2, 0)] (.t 18) (.t 86)), zU (.st true 2 [] (.t 19) (.t 87)), zM 20 88]) (.seq (.seq (.ops [zM 89 0, zM 90 2, zM 91 13, zO 92 (.call 33 [(.t 89), (.t 90), (.t 91)]), zO 93 (.sc (.bin .neq 30) [(.t 92), (.c (.int .i64 0))]), zM 94 93, zN 95 94 false 17, zG 96 94 false (.sc (.bin .neq 30) [(.t 95), (.c (.int .i64 0))]), zN 97 94 false 96, zN 98 97 true 17, zG 99 97 true (.sc (.bin .neq 30) [(.t 98), (.c (.int .i64 10))]), zG 100 94 false (.pick (.t 97) (.t 99) (.c (.bool false))), zO 101 (.pick (.t 94) (.c (.bool true)) (.t 100)), zM 102 101, zN 103 102 false 20, zG 104 102 false (.sc (.bin .neq 30) [(.t 103), (.c (.int .i64 0))]), zN 105 102 false 104, zN 106 105 true 20, zG 107 105 true (.sc (.bin .neq 30) [(.t 106), (.c (.int .i64 10))]), zG 108 102 false (.pick (.t 105) (.t 107) (.c (.bool false))), zO 109 (.pick (.t 102) (.c (.bool true)) (.t 108))]) (.cond (.t 109)
  (.seq (.ops [zO 12 (.mov (.c (.bool false)))]) .ret)
  .skip)) (.seq (.seq (.ops [zM 110 20, zO 111 (.sc (.bin .neq 30) [(.t 110), (.c (.int .i64 0))])]) (.cond (.t 111)
  (.seq (.ops [zO 112 (.call 15 []), zM 113 112, zN 114 113 true 17, zN 115 113 true 20, zG 116 113 true (.sc (.bin .eql 30) [(.t 114), (.t 115)]), zO 117 (.pick (.t 113) (.t 116) (.c (.bool false))), zM 12 117]) .ret)
  .skip)) (.seq (.ops [zM 119 1, zM 120 2, zM 121 4, zO 122 (.ld (.t 18) 2 true), zO 123 (.call 32 [(.t 119), (.t 120), (.t 121), (.t 122)]), zM 118 123, zO 124 (.ext (.t 118) 0), zO 125 (.ext (.t 118) 1), zO 126 (.ext (.t 118) 2), zO 21 (.alloc 0 26 [(0, 57, 2, 0), (1, 59, 2, 0)] [(.slice none 0 0), (.slice none 0 0)]), zO 22 (.alloc 0 64 [] [(.int .i64 0), (.string ⟨#[]⟩)]), zU (.st true 2 [(0, 57, 2, 0), (1, 59, 2, 0)] (.t 21) (.t 124)), zU (.st true 2 [] (.t 22) (.t 125)), zM 23 126]) (.seq (.ops [zO 127 (.call 15 []), zM 128 127, zN 129 128 true 23, zN 130 128 true 17, zG 131 128 true (.sc (.bin .eql 30) [(.t 129), (.t 130)]), zO 132 (.pick (.t 128) (.t 131) (.c (.bool false))), zM 133 132, zG 134 133 true (.ld (.t 15) 2 true), zG 135 133 true (.ld (.t 21) 2 true), zG 136 133 true (.call 27 [(.t 134), (.t 135)]), zO 137 (.pick (.t 133) (.t 136) (.c (.bool false))), zM 12 137]) .ret))))))))))) := by kernel_rfl
def f11_k66 (x70 : Bool) : Option Bool := some x70
def f11_k74 (x81 : Bool) : Option Bool := some x81
def f11_k52 (r49 : (Graph × Refusal × Int)) (r46 : (Graph × Refusal × Int)) (n : Nat) (a2 : (List Form)) (a3 : (List Form)) (a5 : (List Rule)) (x60 : Bool) : Option Bool := (bif x60 then some false else (bif (r49.2.2 != 0) then ((f15 40).bind fun r67 => (bif r67 then (f11_k66 (r46.2.2 == r49.2.2)) else (f11_k66 false))) else ((f32 n a2 a3 a5 r49.1).bind fun r72 => ((f15 40).bind fun r75 => (bif r75 then (bif (r72.2.2 == r46.2.2) then ((f27 n r46.1 r72.1).bind fun r79 => (f11_k74 r79)) else (f11_k74 false)) else (f11_k74 false))))))
def f11_k36 (n : Nat) (a1 : (List Form)) (a3 : (List Form)) (r33 : ((List Rule) × Int)) (a6 : Graph) (a2 : (List Form)) (a4 : (List Rule)) (a5 : (List Rule)) (x40 : Bool) : Option Bool := (bif x40 then ((f15 40).bind fun r43 => some r43) else ((f32 n a1 a3 r33.1 a6).bind fun r46 => ((f32 n a1 a2 a4 a6).bind fun r49 => ((f33 n a1 a3 r33.1).bind fun r53 => (bif (r53 != 0) then (f11_k52 r49 r46 n a2 a3 a5 true) else (bif (r46.2.2 != 0) then (bif (r46.2.2 != 10) then (f11_k52 r49 r46 n a2 a3 a5 true) else (bif (r49.2.2 != 0) then (f11_k52 r49 r46 n a2 a3 a5 (r49.2.2 != 10)) else (f11_k52 r49 r46 n a2 a3 a5 false))) else (bif (r49.2.2 != 0) then (f11_k52 r49 r46 n a2 a3 a5 (r49.2.2 != 10)) else (f11_k52 r49 r46 n a2 a3 a5 false))))))))
def f11_k9 (n : Nat) (a1 : (List Form)) (a2 : (List Form)) (a3 : (List Form)) (a4 : (List Rule)) (a5 : (List Rule)) (a6 : Graph) (x27 : Bool) : Option Bool := (bif x27 then ((f15 40).bind fun r30 => some r30) else ((f38 n a1 a2 a3 a4 a5).bind fun r33 => (bif (r33.2 != 0) then (f11_k36 n a1 a3 r33 a6 a2 a4 a5 true) else ((f18 n a1 a6).bind fun r38 => (f11_k36 n a1 a3 r33 a6 a2 a4 a5 (r38 != 0))))))
def f11 (n : Nat) (a1 : (List Form)) (a2 : (List Form)) (a3 : (List Form)) (a4 : (List Rule)) (a5 : (List Rule)) (a6 : Graph) : Option Bool := ((f13 n a1).bind fun r10 => (bif (!r10) then (f11_k9 n a1 a2 a3 a4 a5 a6 true) else ((f13 n a2).bind fun r13 => (bif (!r13) then (f11_k9 n a1 a2 a3 a4 a5 a6 true) else ((f13 n a3).bind fun r16 => (bif (!r16) then (f11_k9 n a1 a2 a3 a4 a5 a6 true) else ((f31 n a4).bind fun r19 => (bif (!r19) then (f11_k9 n a1 a2 a3 a4 a5 a6 true) else ((f31 n a5).bind fun r22 => (bif (!r22) then (f11_k9 n a1 a2 a3 a4 a5 a6 true) else ((f14 n a6).bind fun r25 => (f11_k9 n a1 a2 a3 a4 a5 a6 (!r25)))))))))))))
def f11_r (r : Bool) : AV := (vB r)
theorem p_f11 {n : Nat} {a1 : (List Form)} {a2 : (List Form)} {a3 : (List Form)} {a4 : (List Rule)} {a5 : (List Rule)} {a6 : Graph} {r : Bool} (h : f11 n a1 a2 a3 a4 a5 a6 = some r) : PureSpec Try.prog 11 [(vL Form.c a1), (vL Form.c a2), (vL Form.c a3), (vL Rule.c a4), (vL Rule.c a5), (.agg [(vL Node.c a6.fNodes), (vL Val.c a6.fRoots)])] (f11_r r) := by
 rw [f11.eq_1] at h
 refine pure_of hmix ic11 ?_
 refine go_to (mkd (.val undef) 138 0 [(0, (vL Form.c a1)), (1, (vL Form.c a2)), (2, (vL Form.c a3)), (3, (vL Rule.c a4)), (4, (vL Rule.c a5)), (5, (.agg [(vL Node.c a6.fNodes), (vL Val.c a6.fRoots)]))]) ?_
 refine s_so fun N7 k7 w7 => ?_
 refine o_h2 [(11, (.ptr 0 0)), (12, (vB false))] [(some (.box 26 [(vL Node.c a6.fNodes), (vL Val.c a6.fRoots)]))] ?_
 refine o_end (k7 _ ?_)
 refine s_seq fun N8 k8 w8 => ?_
 refine J1 (r := r) (fun (x27 : Bool) => ⟨(mkd .any 138 0 [(0, (vL Form.c a1)), (1, (vL Form.c a2)), (2, (vL Form.c a3)), (3, (vL Rule.c a4)), (4, (vL Rule.c a5)), (11, (.ptr 0 0)), (51, (vB x27))]), [(some (.box 26 [(vL Node.c a6.fNodes), (vL Val.c a6.fRoots)]))]⟩) (f11_k9 n a1 a2 a3 a4 a5 a6) ?_ ?_
 · intro x27 h
   rw [f11_k9.eq_1] at h
   refine i_c [51] h (fun h => ?_) (fun h => ?_)
   · refine s_so fun N29 k29 w29 => ?_
     refine bnd h fun r30 g31 h => ?_
     refine o_o (one_call (p_f15 g31)) ?_
     refine o_r1 [(12, (vB r30))] ?_
     refine o_end (k29 _ ?_)
     exact c_ret (rets [] [(vB r30)] [(vB r30)] h)
   · refine c_skip (k8 _ ?_)
     refine s_so fun N32 k32 w32 => ?_
     refine o_r5 [(54, (vL Form.c a1)), (55, (vL Form.c a2)), (56, (vL Form.c a3)), (57, (vL Rule.c a4)), (58, (vL Rule.c a5))] ?_
     refine bnd h fun r33 g34 h => ?_
     refine o_o (one_call (p_f38 g34)) ?_
     refine o_r5 [(13, (vL Rule.c r33.1)), (14, (vI r33.2)), (53, (.tup [(vL Rule.c r33.1), (vI r33.2)])), (60, (vL Rule.c r33.1)), (61, (vI r33.2))] ?_
     refine o_end (k32 _ ?_)
     refine s_seq fun N35 k35 w35 => ?_
     refine J1 (r := r) (fun (x40 : Bool) => ⟨(mkd .any 138 0 [(0, (vL Form.c a1)), (1, (vL Form.c a2)), (2, (vL Form.c a3)), (3, (vL Rule.c a4)), (4, (vL Rule.c a5)), (11, (.ptr 0 0)), (13, (vL Rule.c r33.1)), (69, (vB x40))]), [(some (.box 26 [(vL Node.c a6.fNodes), (vL Val.c a6.fRoots)]))]⟩) (f11_k36 n a1 a3 r33 a6 a2 a4 a5) ?_ ?_
     · intro x40 h
       rw [f11_k36.eq_1] at h
       refine i_c [69] h (fun h => ?_) (fun h => ?_)
       · refine s_so fun N42 k42 w42 => ?_
         refine bnd h fun r43 g44 h => ?_
         refine o_o (one_call (p_f15 g44)) ?_
         refine o_r1 [(12, (vB r43))] ?_
         refine o_end (k42 _ ?_)
         exact c_ret (rets [] [(vB r43)] [(vB r43)] h)
       · refine c_skip (k35 _ ?_)
         refine s_so fun N45 k45 w45 => ?_
         refine o_r4 [(72, (vL Form.c a1)), (73, (vL Form.c a3)), (74, (vL Rule.c r33.1)), (75, (.agg [(vL Node.c a6.fNodes), (vL Val.c a6.fRoots)]))] ?_
         refine bnd h fun r46 g47 h => ?_
         refine o_o (one_call (p_f32 g47)) ?_
         refine o_h9 [(15, (.ptr 3 0)), (16, (.ptr 4 0)), (17, (vI r46.2.2)), (71, (.tup [(.agg [(vL Node.c r46.1.fNodes), (vL Val.c r46.1.fRoots)]), (.agg [(vI r46.2.1.fNode), (vS r46.2.1.fCol)]), (vI r46.2.2)])), (77, (.agg [(vL Node.c r46.1.fNodes), (vL Val.c r46.1.fRoots)])), (78, (.agg [(vI r46.2.1.fNode), (vS r46.2.1.fCol)])), (79, (vI r46.2.2))] [(some (.box 26 [(vL Node.c a6.fNodes), (vL Val.c a6.fRoots)])), (some (.row 57 2 (List.map Node.c []))), (some (.row 59 2 (List.map Val.c []))), (some (.box 26 [(vL Node.c r46.1.fNodes), (vL Val.c r46.1.fRoots)])), (some (.box 64 [(vI r46.2.1.fNode), (vS r46.2.1.fCol)]))] ?_
         refine o_end (k45 _ ?_)
         refine s_so fun N48 k48 w48 => ?_
         refine o_r4 [(81, (vL Form.c a1)), (82, (vL Form.c a2)), (83, (vL Rule.c a4)), (84, (.agg [(vL Node.c a6.fNodes), (vL Val.c a6.fRoots)]))] ?_
         refine bnd h fun r49 g50 h => ?_
         refine o_o (one_call (p_f32 g50)) ?_
         refine o_h9 [(18, (.ptr 7 0)), (19, (.ptr 8 0)), (20, (vI r49.2.2)), (80, (.tup [(.agg [(vL Node.c r49.1.fNodes), (vL Val.c r49.1.fRoots)]), (.agg [(vI r49.2.1.fNode), (vS r49.2.1.fCol)]), (vI r49.2.2)])), (86, (.agg [(vL Node.c r49.1.fNodes), (vL Val.c r49.1.fRoots)])), (87, (.agg [(vI r49.2.1.fNode), (vS r49.2.1.fCol)])), (88, (vI r49.2.2))] [(some (.box 26 [(vL Node.c a6.fNodes), (vL Val.c a6.fRoots)])), (some (.row 57 2 (List.map Node.c []))), (some (.row 59 2 (List.map Val.c []))), (some (.box 26 [(vL Node.c r46.1.fNodes), (vL Val.c r46.1.fRoots)])), (some (.box 64 [(vI r46.2.1.fNode), (vS r46.2.1.fCol)])), (some (.row 57 2 (List.map Node.c []))), (some (.row 59 2 (List.map Val.c []))), (some (.box 26 [(vL Node.c r49.1.fNodes), (vL Val.c r49.1.fRoots)])), (some (.box 64 [(vI r49.2.1.fNode), (vS r49.2.1.fCol)]))] ?_
         refine o_end (w48 _ ⟨(mkd .any 138 0 [(0, (vL Form.c a1)), (1, (vL Form.c a2)), (2, (vL Form.c a3)), (4, (vL Rule.c a5)), (13, (vL Rule.c r33.1)), (15, (.ptr 3 0)), (17, (vI r46.2.2)), (18, (.ptr 7 0)), (20, (vI r49.2.2))]), [none, none, none, (some (.box 26 [(vL Node.c r46.1.fNodes), (vL Val.c r46.1.fRoots)])), none, none, none, (some (.box 26 [(vL Node.c r49.1.fNodes), (vL Val.c r49.1.fRoots)]))]⟩ (wkm [0, 1, 2, 4, 13, 15, 17, 18, 20] (wh_drop (wh_drop (wh_drop (whk (wh_drop (wh_drop (wh_drop (whk wh_nil))))))))) ?_)
         refine s_seq fun N51 k51 w51 => ?_
         refine J1 (r := r) (fun (x60 : Bool) => ⟨(mkd .any 138 0 [(1, (vL Form.c a2)), (2, (vL Form.c a3)), (4, (vL Rule.c a5)), (15, (.ptr 3 0)), (17, (vI r46.2.2)), (18, (.ptr 7 0)), (20, (vI r49.2.2)), (109, (vB x60))]), [none, none, none, (some (.box 26 [(vL Node.c r46.1.fNodes), (vL Val.c r46.1.fRoots)])), none, none, none, (some (.box 26 [(vL Node.c r49.1.fNodes), (vL Val.c r49.1.fRoots)]))]⟩) (f11_k52 r49 r46 n a2 a3 a5) ?_ ?_
         · intro x60 h
           rw [f11_k52.eq_1] at h
           refine i_c [109] h (fun h => ?_) (fun h => ?_)
           · refine s_so fun N62 k62 w62 => ?_
             refine o_r1 [(12, (vB false))] ?_
             refine o_end (k62 _ ?_)
             exact c_ret (rets [] [(vB false)] [(vB false)] h)
           · refine c_skip (k51 _ ?_)
             refine s_seq fun N63 k63 w63 => ?_
             refine s_so fun N64 k64 w64 => ?_
             refine o_r2 [(110, (vI r49.2.2)), (111, (vB (r49.2.2 != 0)))] ?_
             refine o_end (k64 _ ?_)
             refine i_c [111] h (fun h => ?_) (fun h => ?_)
             · refine J1 (r := r) (fun (x70 : Bool) => ⟨(mkd .any 138 0 [(12, (vB x70))]), []⟩) (f11_k66) ?_ ?_
               · intro x70 h
                 rw [f11_k66.eq_1] at h
                 exact c_ret (rets [] [(vB x70)] [(vB x70)] h)
               · intro N66 w66
                 refine c_ops ?_
                 refine bnd h fun r67 g68 h => ?_
                 refine o_o (one_call (p_f15 g68)) ?_
                 refine o_r1 [(113, (vB r67))] ?_
                 refine i_o [112, 113] h (fun h => ?_) (fun h => ?_)
                 · refine o_r5 [(12, (vB (r46.2.2 == r49.2.2))), (114, (vI r46.2.2)), (115, (vI r49.2.2)), (116, (vB (r46.2.2 == r49.2.2))), (117, (vB (r46.2.2 == r49.2.2)))] ?_
                   exact o_end (w66 _ _ (wkm [12] wh_nil) h)
                 · refine o_r5 [(12, (vB false)), (114, (.val undef)), (115, (.val undef)), (116, (.val undef)), (117, (vB false))] ?_
                   exact o_end (w66 _ _ (wkm [12] wh_nil) h)
             · refine c_skip (k63 _ ?_)
               refine s_so fun N71 k71 w71 => ?_
               refine o_r4 [(119, (vL Form.c a2)), (120, (vL Form.c a3)), (121, (vL Rule.c a5)), (122, (.agg [(vL Node.c r49.1.fNodes), (vL Val.c r49.1.fRoots)]))] ?_
               refine bnd h fun r72 g73 h => ?_
               refine o_o (one_call (p_f32 g73)) ?_
               refine o_h9 [(21, (.ptr 10 0)), (22, (.ptr 11 0)), (23, (vI r72.2.2)), (118, (.tup [(.agg [(vL Node.c r72.1.fNodes), (vL Val.c r72.1.fRoots)]), (.agg [(vI r72.2.1.fNode), (vS r72.2.1.fCol)]), (vI r72.2.2)])), (124, (.agg [(vL Node.c r72.1.fNodes), (vL Val.c r72.1.fRoots)])), (125, (.agg [(vI r72.2.1.fNode), (vS r72.2.1.fCol)])), (126, (vI r72.2.2))] [none, none, none, (some (.box 26 [(vL Node.c r46.1.fNodes), (vL Val.c r46.1.fRoots)])), none, none, none, (some (.box 26 [(vL Node.c r49.1.fNodes), (vL Val.c r49.1.fRoots)])), (some (.row 57 2 (List.map Node.c []))), (some (.row 59 2 (List.map Val.c []))), (some (.box 26 [(vL Node.c r72.1.fNodes), (vL Val.c r72.1.fRoots)])), (some (.box 64 [(vI r72.2.1.fNode), (vS r72.2.1.fCol)]))] ?_
               refine o_end (w71 _ ⟨(mkd .any 138 0 [(15, (.ptr 3 0)), (17, (vI r46.2.2)), (21, (.ptr 10 0)), (23, (vI r72.2.2))]), [none, none, none, (some (.box 26 [(vL Node.c r46.1.fNodes), (vL Val.c r46.1.fRoots)])), none, none, none, none, none, none, (some (.box 26 [(vL Node.c r72.1.fNodes), (vL Val.c r72.1.fRoots)]))]⟩ (wkm [15, 17, 21, 23] (wh_none (wh_none (wh_none (whk (wh_none (wh_none (wh_none (wh_drop (wh_drop (wh_drop (whk wh_nil)))))))))))) ?_)
               refine J1 (r := r) (fun (x81 : Bool) => ⟨(mkd .any 138 0 [(12, (vB x81))]), []⟩) (f11_k74) ?_ ?_
               · intro x81 h
                 rw [f11_k74.eq_1] at h
                 exact c_ret (rets [] [(vB x81)] [(vB x81)] h)
               · intro N74 w74
                 refine c_ops ?_
                 refine bnd h fun r75 g76 h => ?_
                 refine o_o (one_call (p_f15 g76)) ?_
                 refine o_r1 [(128, (vB r75))] ?_
                 refine i_o [127, 128] h (fun h => ?_) (fun h => ?_)
                 · refine o_r5 [(129, (vI r72.2.2)), (130, (vI r46.2.2)), (131, (vB (r72.2.2 == r46.2.2))), (132, (vB (r72.2.2 == r46.2.2))), (133, (vB (r72.2.2 == r46.2.2)))] ?_
                   refine i_o [131, 132, 133] h (fun h => ?_) (fun h => ?_)
                   · refine o_r2 [(134, (.agg [(vL Node.c r46.1.fNodes), (vL Val.c r46.1.fRoots)])), (135, (.agg [(vL Node.c r72.1.fNodes), (vL Val.c r72.1.fRoots)]))] ?_
                     refine bnd h fun r79 g80 h => ?_
                     refine o_g ?_
                     refine o_o (one_call (p_f27 g80)) ?_
                     refine o_r2 [(12, (vB r79)), (137, (vB r79))] ?_
                     exact o_end (w74 _ _ (wkm [12] wh_nil) h)
                   · refine o_r5 [(12, (vB false)), (134, (.val undef)), (135, (.val undef)), (136, (.val undef)), (137, (vB false))] ?_
                     exact o_end (w74 _ _ (wkm [12] wh_nil) h)
                 · refine o_r10 [(12, (vB false)), (129, (.val undef)), (130, (.val undef)), (131, (.val undef)), (132, (vB false)), (133, (vB false)), (134, (.val undef)), (135, (.val undef)), (136, (.val undef)), (137, (vB false))] ?_
                   exact o_end (w74 _ _ (wkm [12] wh_nil) h)
         · intro N52 w52
           refine c_ops ?_
           refine o_r3 [(89, (vL Form.c a1)), (90, (vL Form.c a3)), (91, (vL Rule.c r33.1))] ?_
           refine bnd h fun r53 g54 h => ?_
           refine o_o (one_call (p_f33 g54)) ?_
           refine o_r2 [(93, (vB (r53 != 0))), (94, (vB (r53 != 0)))] ?_
           refine i_o [93, 94] h (fun h => ?_) (fun h => ?_)
           · refine o_r15 [(95, (.val undef)), (96, (.val undef)), (97, (.val undef)), (98, (.val undef)), (99, (.val undef)), (100, (.val undef)), (101, (vB true)), (102, (vB true)), (103, (.val undef)), (104, (.val undef)), (105, (.val undef)), (106, (.val undef)), (107, (.val undef)), (108, (.val undef)), (109, (vB true))] ?_
             exact o_end (w52 _ _ (wkm [1, 2, 4, 15, 17, 18, 20, 109] (wh_none (wh_none (wh_none (whk (wh_none (wh_none (wh_none (whk wh_nil))))))))) h)
           · refine o_r3 [(95, (vI r46.2.2)), (96, (vB (r46.2.2 != 0))), (97, (vB (r46.2.2 != 0)))] ?_
             refine i_o [96, 97] h (fun h => ?_) (fun h => ?_)
             · refine o_r5 [(98, (vI r46.2.2)), (99, (vB (r46.2.2 != 10))), (100, (vB (r46.2.2 != 10))), (101, (vB (r46.2.2 != 10))), (102, (vB (r46.2.2 != 10)))] ?_
               refine i_o [99, 100, 101, 102] h (fun h => ?_) (fun h => ?_)
               · refine o_r7 [(103, (.val undef)), (104, (.val undef)), (105, (.val undef)), (106, (.val undef)), (107, (.val undef)), (108, (.val undef)), (109, (vB true))] ?_
                 exact o_end (w52 _ _ (wkm [1, 2, 4, 15, 17, 18, 20, 109] (wh_none (wh_none (wh_none (whk (wh_none (wh_none (wh_none (whk wh_nil))))))))) h)
               · refine o_r3 [(103, (vI r49.2.2)), (104, (vB (r49.2.2 != 0))), (105, (vB (r49.2.2 != 0)))] ?_
                 refine i_o [104, 105] h (fun h => ?_) (fun h => ?_)
                 · refine o_r4 [(106, (vI r49.2.2)), (107, (vB (r49.2.2 != 10))), (108, (vB (r49.2.2 != 10))), (109, (vB (r49.2.2 != 10)))] ?_
                   exact o_end (w52 _ _ (wkm [1, 2, 4, 15, 17, 18, 20, 109] (wh_none (wh_none (wh_none (whk (wh_none (wh_none (wh_none (whk wh_nil))))))))) h)
                 · refine o_r4 [(106, (.val undef)), (107, (.val undef)), (108, (vB false)), (109, (vB false))] ?_
                   exact o_end (w52 _ _ (wkm [1, 2, 4, 15, 17, 18, 20, 109] (wh_none (wh_none (wh_none (whk (wh_none (wh_none (wh_none (whk wh_nil))))))))) h)
             · refine o_r8 [(98, (.val undef)), (99, (.val undef)), (100, (vB false)), (101, (vB false)), (102, (vB false)), (103, (vI r49.2.2)), (104, (vB (r49.2.2 != 0))), (105, (vB (r49.2.2 != 0)))] ?_
               refine i_o [104, 105] h (fun h => ?_) (fun h => ?_)
               · refine o_r4 [(106, (vI r49.2.2)), (107, (vB (r49.2.2 != 10))), (108, (vB (r49.2.2 != 10))), (109, (vB (r49.2.2 != 10)))] ?_
                 exact o_end (w52 _ _ (wkm [1, 2, 4, 15, 17, 18, 20, 109] (wh_none (wh_none (wh_none (whk (wh_none (wh_none (wh_none (whk wh_nil))))))))) h)
               · refine o_r4 [(106, (.val undef)), (107, (.val undef)), (108, (vB false)), (109, (vB false))] ?_
                 exact o_end (w52 _ _ (wkm [1, 2, 4, 15, 17, 18, 20, 109] (wh_none (wh_none (wh_none (whk (wh_none (wh_none (wh_none (whk wh_nil))))))))) h)
     · intro N36 w36
       refine c_ops ?_
       refine o_r3 [(62, (vI r33.2)), (63, (vB (r33.2 != 0))), (64, (vB (r33.2 != 0)))] ?_
       refine i_o [63, 64] h (fun h => ?_) (fun h => ?_)
       · refine o_r5 [(65, (.val undef)), (66, (.val undef)), (67, (.val undef)), (68, (.val undef)), (69, (vB true))] ?_
         exact o_end (w36 _ _ (wkm [0, 1, 2, 3, 4, 11, 13, 69] (whk wh_nil)) h)
       · refine o_r2 [(65, (vL Form.c a1)), (66, (.agg [(vL Node.c a6.fNodes), (vL Val.c a6.fRoots)]))] ?_
         refine bnd h fun r38 g39 h => ?_
         refine o_g ?_
         refine o_o (one_call (p_f18 g39)) ?_
         refine o_r2 [(68, (vB (r38 != 0))), (69, (vB (r38 != 0)))] ?_
         exact o_end (w36 _ _ (wkm [0, 1, 2, 3, 4, 11, 13, 69] (whk wh_nil)) h)
 · intro N9 w9
   refine c_ops ?_
   refine o_r1 [(24, (vL Form.c a1))] ?_
   refine bnd h fun r10 g11 h => ?_
   refine o_o (one_call (p_f13 g11)) ?_
   refine o_r2 [(26, (vB (!r10))), (27, (vB (!r10)))] ?_
   refine i_o [26, 27] h (fun h => ?_) (fun h => ?_)
   · refine o_r16 [(28, (.val undef)), (29, (.val undef)), (30, (.val undef)), (31, (vB true)), (32, (vB true)), (33, (.val undef)), (34, (.val undef)), (35, (.val undef)), (36, (vB true)), (37, (vB true)), (38, (.val undef)), (39, (.val undef)), (40, (.val undef)), (41, (vB true)), (42, (vB true)), (43, (.val undef))] ?_
     refine o_r8 [(44, (.val undef)), (45, (.val undef)), (46, (vB true)), (47, (vB true)), (48, (.val undef)), (49, (.val undef)), (50, (.val undef)), (51, (vB true))] ?_
     exact o_end (w9 _ _ (wkm [0, 1, 2, 3, 4, 11, 51] (whk wh_nil)) h)
   · refine o_r1 [(28, (vL Form.c a2))] ?_
     refine bnd h fun r13 g14 h => ?_
     refine o_g ?_
     refine o_o (one_call (p_f13 g14)) ?_
     refine o_r3 [(30, (vB (!r13))), (31, (vB (!r13))), (32, (vB (!r13)))] ?_
     refine i_o [30, 31, 32] h (fun h => ?_) (fun h => ?_)
     · refine o_r16 [(33, (.val undef)), (34, (.val undef)), (35, (.val undef)), (36, (vB true)), (37, (vB true)), (38, (.val undef)), (39, (.val undef)), (40, (.val undef)), (41, (vB true)), (42, (vB true)), (43, (.val undef)), (44, (.val undef)), (45, (.val undef)), (46, (vB true)), (47, (vB true)), (48, (.val undef))] ?_
       refine o_r3 [(49, (.val undef)), (50, (.val undef)), (51, (vB true))] ?_
       exact o_end (w9 _ _ (wkm [0, 1, 2, 3, 4, 11, 51] (whk wh_nil)) h)
     · refine o_r1 [(33, (vL Form.c a3))] ?_
       refine bnd h fun r16 g17 h => ?_
       refine o_g ?_
       refine o_o (one_call (p_f13 g17)) ?_
       refine o_r3 [(35, (vB (!r16))), (36, (vB (!r16))), (37, (vB (!r16)))] ?_
       refine s_tm (mkd (.val undef) 138 0 [(0, (vL Form.c a1)), (1, (vL Form.c a2)), (2, (vL Form.c a3)), (3, (vL Rule.c a4)), (4, (vL Rule.c a5)), (5, (.agg [(vL Node.c a6.fNodes), (vL Val.c a6.fRoots)])), (11, (.ptr 0 0)), (12, (vB false)), (24, (vL Form.c a1)), (25, (vB r10)), (26, (vB false)), (27, (vB false)), (28, (vL Form.c a2)), (29, (vB r13)), (30, (vB false)), (31, (vB false)), (32, (vB false)), (33, (vL Form.c a3)), (34, (vB r16)), (35, (vB (!r16))), (36, (vB (!r16))), (37, (vB (!r16)))]) ?_
       refine i_o [35, 36, 37] h (fun h => ?_) (fun h => ?_)
       · refine o_r14 [(38, (.val undef)), (39, (.val undef)), (40, (.val undef)), (41, (vB true)), (42, (vB true)), (43, (.val undef)), (44, (.val undef)), (45, (.val undef)), (46, (vB true)), (47, (vB true)), (48, (.val undef)), (49, (.val undef)), (50, (.val undef)), (51, (vB true))] ?_
         exact o_end (w9 _ _ (wkm [0, 1, 2, 3, 4, 11, 51] (whk wh_nil)) h)
       · refine o_r1 [(38, (vL Rule.c a4))] ?_
         refine bnd h fun r19 g20 h => ?_
         refine o_g ?_
         refine o_o (one_call (p_f31 g20)) ?_
         refine o_r3 [(40, (vB (!r19))), (41, (vB (!r19))), (42, (vB (!r19)))] ?_
         refine i_o [40, 41, 42] h (fun h => ?_) (fun h => ?_)
         · refine o_r9 [(43, (.val undef)), (44, (.val undef)), (45, (.val undef)), (46, (vB true)), (47, (vB true)), (48, (.val undef)), (49, (.val undef)), (50, (.val undef)), (51, (vB true))] ?_
           exact o_end (w9 _ _ (wkm [0, 1, 2, 3, 4, 11, 51] (whk wh_nil)) h)
         · refine o_r1 [(43, (vL Rule.c a5))] ?_
           refine bnd h fun r22 g23 h => ?_
           refine o_g ?_
           refine o_o (one_call (p_f31 g23)) ?_
           refine o_r3 [(45, (vB (!r22))), (46, (vB (!r22))), (47, (vB (!r22)))] ?_
           refine i_o [45, 46, 47] h (fun h => ?_) (fun h => ?_)
           · refine o_r4 [(48, (.val undef)), (49, (.val undef)), (50, (.val undef)), (51, (vB true))] ?_
             exact o_end (w9 _ _ (wkm [0, 1, 2, 3, 4, 11, 51] (whk wh_nil)) h)
           · refine o_r1 [(48, (.agg [(vL Node.c a6.fNodes), (vL Val.c a6.fRoots)]))] ?_
             refine bnd h fun r25 g26 h => ?_
             refine o_g ?_
             refine o_o (one_call (p_f14 g26)) ?_
             refine o_r2 [(50, (vB (!r25))), (51, (vB (!r25)))] ?_
             refine s_tm (mkd (.val undef) 138 0 [(0, (vL Form.c a1)), (1, (vL Form.c a2)), (2, (vL Form.c a3)), (3, (vL Rule.c a4)), (4, (vL Rule.c a5)), (5, (.agg [(vL Node.c a6.fNodes), (vL Val.c a6.fRoots)])), (11, (.ptr 0 0)), (12, (vB false)), (24, (vL Form.c a1)), (25, (vB r10)), (26, (vB false)), (27, (vB false)), (28, (vL Form.c a2)), (29, (vB r13)), (30, (vB false)), (31, (vB false)), (32, (vB false)), (33, (vL Form.c a3)), (34, (vB r16)), (35, (vB false)), (36, (vB false)), (37, (vB false)), (38, (vL Rule.c a4)), (39, (vB r19)), (40, (vB false)), (41, (vB false)), (42, (vB false)), (43, (vL Rule.c a5)), (44, (vB r22)), (45, (vB false)), (46, (vB false)), (47, (vB false)), (48, (.agg [(vL Node.c a6.fNodes), (vL Val.c a6.fRoots)])), (49, (vB r25)), (50, (vB (!r25))), (51, (vB (!r25)))]) ?_
             exact o_end (w9 _ _ (wkm [0, 1, 2, 3, 4, 11, 51] (whk wh_nil)) h)
end Go.Proofs
end
section
set_option linter.unusedVariables false
namespace Go.Proofs
open Go.Vm
theorem cs {α : Type} {c : Bool} {x y : α} : (bif c then some x else some y) = some (bif c then x else y) := by cases c <;> rfl
def ruleP (s : ByteArray) (r : Rule) : Bool := sEqF r.fClass s
def hasRule (l : List Rule) (s : ByteArray) : Bool := l.any (ruleP s)
def ruleAt (l : List Rule) (s : ByteArray) : Rule := (l.find? (ruleP s)).getD ⟨noS, noS, []⟩
section
variable {n : Nat} {l : List Rule} {s : ByteArray}
theorem f117_eq (hn : l.length < n) (hl : l.length < 4611686018427387904) : f117 n l s = some (ixOf (ruleP s) l 0) := by
  unfold f117
  have := scan0 l f117_k4 (fun x y acc => bif sEqF y.fClass s then some x else acc) (f117_l8 l n s f117_k4) (fun m x => rfl) hl l.length 0 n (by omega) hn
  exact this.trans (go0_ix (ruleP s) id l 0)
theorem f78_eq (hn : l.length < n) (hl : l.length < 4611686018427387904) : f78 n l s = some (ruleAt l s, hasRule l s) := by
  unfold f78 f81
  rw [f117_eq hn hl]
  simp only [Option.bind_some]
  rw [ix_neg]
  unfold ruleAt hasRule
  rcases ix_find (ruleP s) l 0 with ⟨h1, h2, h3⟩ | ⟨j, x, h1, h2, h3, h4, h5⟩
  · rw [h1, h2]; rfl
  · rw [h1, h2, h3, Nat.zero_add, gi_nat, h4]; rfl
end
def leadsB (l : List Rule) (a b : ByteArray) : Bool := bif sEqF b ANY then true else bif hasRule l a then sEqF (ruleAt l a).fTo b else false
def fitsB (l : List Rule) (g : Give) (a b : Col) : Bool :=
  bif g.fHow == 1 then (bif a.fKind == b.fKind then (bif a.fKind != 3 then true else leadsB l a.fClass b.fClass) else false) else
  bif g.fHow == 2 then (bif a.fKind == 2 then b.fKind == 1 else false) else
  bif g.fHow == 3 then (bif a.fKind == 1 then b.fKind == 2 else false) else
  bif g.fHow == 4 then (bif a.fKind == 1 then b.fKind == 1 else false) else
  bif g.fHow == 5 then (bif a.fKind == 3 then (bif b.fKind == 3 then leadsB l a.fClass b.fClass else false) else false) else
  bif g.fHow == 6 then (bif b.fKind == 1 then true else bif b.fKind == 2 then inR g.fN 0 1 else false) else b.fKind == 3
section
variable {n : Nat} {l : List Rule}
theorem f142_eq {a b : ByteArray} (hn : l.length < n) (hl : l.length < 4611686018427387904) : f142 n l a b = some (leadsB l a b) := by
  unfold f142 leadsB f142_k13
  rw [f78_eq hn hl]
  simp only [Option.bind_some, cs]
  rfl
theorem f141_eq {g : Give} {a b : Col} (hn : l.length < n) (hl : l.length < 4611686018427387904) : f141 n l g a b = some (fitsB l g a b) := by
  unfold f141 fitsB f141_k11 f141_k19 f141_k24 f141_k29 f141_k34 f141_k42
  rw [f142_eq hn hl, f86_eq]
  simp only [Option.bind_some, cs]
end
def noC : Col := ⟨noS, 0, noS⟩
def colAt (l : List Col) (s : ByteArray) : Col := (l.find? fun c => sEqF c.fName s).getD noC
def mostB (g : Give) : Int := bif g.fHow == 4 then 1099511627776 else bif g.fHow == 6 then 1099511627776 else 0
def restBad (g : Give) (to : Col) : Bool := bif !inR g.fN (-mostB g) (mostB g) then true else bif g.fHow == 6 then (bif to.fKind == 2 then !inR g.fN 0 1 else false) else false
def argBad (g : Give) (to : Col) : Bool := bif !inR g.fHow 1 7 then true else bif !inR g.fHow 1 5 then (bif !sEqF g.fFrom noS then true else restBad g to) else restBad g to
def srcOf (cols : List Col) (g : Give) : Col := bif inR g.fHow 1 5 then colAt cols g.fFrom else noC
def giveB (l : List Rule) (g : Give) (cols : List Col) (to : Col) : Int :=
  bif inR g.fHow 1 5 && decide (colIx cols g.fFrom < 0) then 4 else bif argBad g to then 1 else bif fitsB l g (srcOf cols g) to then 0 else 8
section
variable {n : Nat} {l : List Rule}
theorem colAt_gi {cols : List Col} {s : ByteArray} (h : ¬ colIx cols s < 0) : gi cols (colIx cols s) = some (colAt cols s) ∧ colAt cols s ∈ cols ∧ sEqF (colAt cols s).fName s = true := by
  unfold colIx at h ⊢
  obtain ⟨x, h1, h2, h3, h4⟩ := ix_gi (p := fun x : Col => sEqF x.fName s) (l := cols) (by omega)
  have e : colAt cols s = x := by unfold colAt; rw [h1]; rfl
  rw [e]
  exact ⟨h2, h3, h4⟩
theorem f116_eq {g : Give} {cols : List Col} {to : Col} (hn : l.length < n) (hc : cols.length < n) (hn2 : n < 4611686018427387904) : f116 n l g cols to = some (giveB l g cols to) := by
  have hl : l.length < 4611686018427387904 := by omega
  unfold f116
  rw [f95_eq hc (by omega), f86_eq]
  simp only [Option.bind_some]
  have k27 : ∀ (x15 : Bool) (b : Bool), (x15 = inR g.fHow 1 5) → (x15 = true → ¬ colIx cols g.fFrom < 0) → f116_k27 x15 cols (colIx cols g.fFrom) n l g to b = some (bif b then 1 else bif fitsB l g (srcOf cols g) to then 0 else 8) := fun x15 b hx hi => by
    unfold f116_k27
    cases b with
    | true => rfl
    | false =>
      simp only [cond_false]
      unfold srcOf
      rw [← hx]
      cases x15 with
      | true =>
        simp only [cond_true]
        rw [(colAt_gi (hi rfl)).1]
        simp only [Option.bind_some, f116_k52]
        rw [f141_eq hn hl]
        simp only [Option.bind_some, f50_eq]
      | false =>
        simp only [cond_false, f116_k52]
        rw [f141_eq hn hl]
        simp only [Option.bind_some, f50_eq]
        rfl
  have k20 : ∀ (x15 : Bool), (x15 = inR g.fHow 1 5) → (x15 = true → ¬ colIx cols g.fFrom < 0) → f116_k20 n g x15 to cols (colIx cols g.fFrom) l (mostB g) = some (bif argBad g to then 1 else bif fitsB l g (srcOf cols g) to then 0 else 8) := fun x15 hx hi => by
    have hw : wr .i64 (0 - mostB g) = -mostB g := by
      unfold mostB
      cases g.fHow == 4 <;> cases g.fHow == 6 <;> decide
    unfold f116_k20
    rw [hw]
    simp only [f86_eq, Option.bind_some, k27 x15 _ hx hi]
    unfold argBad restBad
    rw [← hx, show noS = ByteArray.mk #[] from rfl]
    cases inR g.fHow 1 7 <;> cases x15 <;> cases sEqF g.fFrom (ByteArray.mk #[]) <;> (try rfl) <;> cases inR g.fN (-mostB g) (mostB g) <;> cases g.fHow == 6 <;> cases to.fKind == 2 <;> rfl
  have k13 : ∀ (x15 : Bool), (x15 = inR g.fHow 1 5) → (x15 = true → ¬ colIx cols g.fFrom < 0) → f116_k13 g n to cols (colIx cols g.fFrom) l x15 false = some (bif argBad g to then 1 else bif fitsB l g (srcOf cols g) to then 0 else 8) := fun x15 hx hi => by
    rw [← k20 x15 hx hi]
    unfold f116_k13 f116_k21 mostB
    cases g.fHow == 4 <;> cases g.fHow == 6 <;> rfl
  unfold giveB
  cases ha : inR g.fHow 1 5 with
  | true =>
    simp only [cond_true, Bool.true_and]
    cases hi : decide (colIx cols g.fFrom < 0) with
    | true => rfl
    | false =>
      have := of_decide_eq_false hi
      exact k13 true ha.symm (fun _ => this)
  | false => exact k13 false ha.symm (fun h => by cases h)
end
end Go.Proofs
end
section
set_option linter.unusedVariables false
namespace Go.Proofs
open Go.Vm
def NoAny (l : List Rule) : Prop := ∀ r ∈ l, sEqF r.fClass ANY = false
structure ColOk (to : Col) : Prop where
  kd : inR to.fKind 1 3 = true
  cl : (to.fKind == 3) = true → sEqF to.fClass ANY = false → sEqF noS to.fClass = false
section
variable {n : Nat} {l : List Rule} {s : ByteArray}
theorem hasRule_any {a : ByteArray} (hna : NoAny l) (h : sEqF a ANY = true) : hasRule l a = false := by
  have := sEqF_eq h
  subst this
  unfold hasRule
  rw [List.any_eq_false]
  intro r hr
  have := hna r hr
  unfold ruleP
  rw [this]; simp
def numdB (g : Give) (to : Col) : Bool :=
  bif g.fHow == 4 then inR g.fN (-1099511627776) 1099511627776 else
  bif g.fHow == 6 then (bif to.fKind == 2 then (bif sEqF g.fFrom noS then inR g.fN 0 1 else false) else bif sEqF g.fFrom noS then inR g.fN (-1099511627776) 1099511627776 else false) else
  bif g.fHow == 7 then (bif sEqF g.fFrom noS then g.fN == 0 else false) else g.fN == 0
theorem inR0 (x : Int) : inR x 0 0 = (x == 0) := by
  unfold inR
  rw [Bool.eq_iff_iff]
  simp only [Bool.and_eq_true, decide_eq_true_eq, beq_iff_eq]
  omega
theorem argBad_eq (g : Give) (to : Col) : argBad g to = bif !inR g.fHow 1 7 then true else !numdB g to := by
  cases h7 : inR g.fHow 1 7 with
  | false => unfold argBad; rw [h7]; rfl
  | true =>
    have hr : 1 ≤ g.fHow ∧ g.fHow ≤ 7 := by unfold inR at h7; simpa using h7
    have sub : inR g.fN 0 1 = true → inR g.fN (-1099511627776) 1099511627776 = true := fun h => by
      unfold inR at h ⊢
      simp only [Bool.and_eq_true, decide_eq_true_eq] at h ⊢
      omega
    have cases7 : g.fHow = 1 ∨ g.fHow = 2 ∨ g.fHow = 3 ∨ g.fHow = 4 ∨ g.fHow = 5 ∨ g.fHow = 6 ∨ g.fHow = 7 := by omega
    unfold argBad restBad mostB numdB
    rw [h7]
    rcases cases7 with h | h | h | h | h | h | h <;> rw [h]
    · show (bif !inR g.fN 0 0 then true else false) = !(g.fN == 0)
      rw [inR0]; cases (g.fN == 0) <;> rfl
    · show (bif !inR g.fN 0 0 then true else false) = !(g.fN == 0)
      rw [inR0]; cases (g.fN == 0) <;> rfl
    · show (bif !inR g.fN 0 0 then true else false) = !(g.fN == 0)
      rw [inR0]; cases (g.fN == 0) <;> rfl
    · show (bif !inR g.fN (-1099511627776) 1099511627776 then true else false) = !inR g.fN (-1099511627776) 1099511627776
      cases inR g.fN (-1099511627776) 1099511627776 <;> rfl
    · show (bif !inR g.fN 0 0 then true else false) = !(g.fN == 0)
      rw [inR0]; cases (g.fN == 0) <;> rfl
    · show (bif !sEqF g.fFrom noS then true else bif !inR g.fN (-1099511627776) 1099511627776 then true else bif to.fKind == 2 then !inR g.fN 0 1 else false) = !(bif to.fKind == 2 then (bif sEqF g.fFrom noS then inR g.fN 0 1 else false) else bif sEqF g.fFrom noS then inR g.fN (-1099511627776) 1099511627776 else false)
      revert sub
      cases sEqF g.fFrom noS <;> cases inR g.fN (-1099511627776) 1099511627776 <;> cases to.fKind == 2 <;> cases inR g.fN 0 1 <;> intro sub <;> first | rfl | exact nomatch (sub rfl)
    · show (bif !sEqF g.fFrom noS then true else bif !inR g.fN 0 0 then true else false) = !(bif sEqF g.fFrom noS then g.fN == 0 else false)
      rw [inR0]
      cases sEqF g.fFrom noS <;> cases (g.fN == 0) <;> rfl
end
end Go.Proofs
end
section
set_option linter.unusedVariables false
namespace Go.Proofs
open Go.Vm
def fst0 (E : Nat → Int) : Nat → Nat → Int
  | 0, _ => 0
  | d + 1, k => bif E k == 0 then fst0 E d (k + 1) else E k
theorem fst0_zero {E : Nat → Int} : ∀ (d k : Nat), fst0 E d k = 0 → ∀ j, k ≤ j → j < k + d → E j = 0
  | 0, k, h => fun j h1 h2 => by omega
  | d + 1, k, h => by
    unfold fst0 at h
    cases he : E k == 0 with
    | false =>
      rw [he] at h
      have : E k = 0 := h
      rw [this] at he; cases he
    | true =>
      rw [he] at h
      intro j h1 h2
      by_cases hj : j = k
      · subst hj; exact eq_of_beq he
      · exact fst0_zero d (k + 1) h j (by omega) (by omega)
theorem goN_fst {E : Nat → Int} (K : Option Int) : ∀ (d k : Nat), goN (fun k acc => bif E k == 0 then acc else some (E k)) K d k = bif fst0 E d k == 0 then K else some (fst0 E d k)
  | 0, k => rfl
  | d + 1, k => by
    show (bif E k == 0 then goN _ K d (k + 1) else some (E k)) = _
    rw [goN_fst K d (k + 1), show fst0 E (d + 1) k = bif E k == 0 then fst0 E d (k + 1) else E k from rfl]
    cases he : E k == 0 with
    | true => rfl
    | false => simp only [cond_false, he]
theorem scanF (N : Nat) (K : Option Int) (E : Nat → Int) (L : Nat → Int → Option Int) (hL : ∀ m (k : Nat), k < N → L (m + 1) k = bif E k == 0 then L m (wr .i64 (k + 1)) else some (E k)) (hK : ∀ m, L (m + 1) N = K) (hl : N < 4611686018427387904) {n : Nat} (hn : N < n) :
    L n 0 = bif fst0 E N 0 == 0 then K else some (fst0 E N 0) :=
  (scanN N K (fun k acc => bif E k == 0 then acc else some (E k)) L hL hK hl N 0 n (by omega) hn).trans (goN_fst K N 0)
def formAt (l : List Form) (s : ByteArray) : Form := (l.find? fun x => sEqF x.fName s).getD ⟨noS, []⟩
def E1 (A B : List Form) (L : List Rule) (k : Nat) : Int := match L[k]? with
  | none => 0
  | some r => bif decide (formIx A r.fClass < 0) then 4 else bif decide (formIx B r.fTo < 0) then 4 else bif hasRule (L.take k) r.fClass then 6 else 0
def E2 (A : List Form) (L : List Rule) (k : Nat) : Int := match A[k]? with
  | none => 0
  | some f => bif hasRule L f.fName then 0 else 5
def E4 (L : List Rule) (r : Rule) (f t : Form) (k : Nat) : Int := match r.fGives[k]?, t.fCols[k]? with
  | some g, some c => giveB L g f.fCols c
  | _, _ => 0
def E3 (A B : List Form) (L : List Rule) (k : Nat) : Int := match L[k]? with
  | none => 0
  | some r => bif r.fGives.length == (formAt B r.fTo).fCols.length then fst0 (E4 L r (formAt A r.fClass) (formAt B r.fTo)) r.fGives.length 0 else 2
def rulesE (A B : List Form) (L : List Rule) : Int :=
  bif decide (len L > 24) then 3 else bif fst0 (E1 A B L) L.length 0 == 0 then (bif fst0 (E2 A L) A.length 0 == 0 then fst0 (E3 A B L) L.length 0 else fst0 (E2 A L) A.length 0) else fst0 (E1 A B L) L.length 0
theorem formAt_gi {l : List Form} {s : ByteArray} (h : ¬ formIx l s < 0) : gi l (formIx l s) = some (formAt l s) ∧ formAt l s ∈ l ∧ sEqF (formAt l s).fName s = true := by
  unfold formIx at h ⊢
  obtain ⟨x, h1, h2, h3, h4⟩ := ix_gi (p := fun x : Form => sEqF x.fName s) (l := l) (by omega)
  have e : formAt l s = x := by unfold formAt; rw [h1]; rfl
  rw [e]
  exact ⟨h2, h3, h4⟩
theorem E1_zero {A B : List Form} {L : List Rule} (h : fst0 (E1 A B L) L.length 0 = 0) {k : Nat} (hk : k < L.length) :
    ¬ formIx A L[k].fClass < 0 ∧ ¬ formIx B L[k].fTo < 0 ∧ hasRule (L.take k) L[k].fClass = false := by
  have := fst0_zero L.length 0 h k (Nat.zero_le _) (by omega)
  unfold E1 at this
  rw [List.getElem?_eq_getElem hk] at this
  have e3 : ∀ a b c : Bool, (bif a then (4 : Int) else bif b then 4 else bif c then 6 else 0) = 0 → a = false ∧ b = false ∧ c = false := by decide
  obtain ⟨h1, h2, h3⟩ := e3 _ _ _ this
  exact ⟨of_decide_eq_false h1, of_decide_eq_false h2, h3⟩
theorem lt_len {α : Type} (l : List α) (k : Nat) (hk : k < l.length) : decide ((k : Int) < len l) = true := by simp [len]; omega
theorem ge_len {α : Type} (l : List α) : decide ((l.length : Int) < len l) = false := by simp [len]
theorem bne_len {α β : Type} (a : List α) (b : List β) : (len a != len b) = !(a.length == b.length) := by
  show (!(((a.length : Nat) : Int) == ((b.length : Nat) : Int))) = _
  congr 1
  rw [Bool.eq_iff_iff]
  simp only [beq_iff_eq]
  omega
structure RuleSz (n : Nat) (A B : List Form) (L : List Rule) : Prop where
  a : A.length < n
  b : B.length < n
  r : L.length < n
  ac : ∀ f ∈ A, f.fCols.length < n
  bc : ∀ f ∈ B, f.fCols.length < n
section
variable {n : Nat} {A B : List Form} {L : List Rule}
theorem f80_eq (hz : RuleSz n A B L) (hn : n < 4611686018427387904) : f80 n A B L = some (rulesE A B L) := by
  have hA := hz.a; have hB := hz.b; have hL := hz.r
  unfold f80 rulesE
  cases hd : decide (len L > 24) with
  | true => rfl
  | false =>
  simp only [cond_false]
  have l1 := scanF L.length (f80_k10 n A L B) (E1 A B L) (f80_l14 L n A B (f80_k10 n A L B)) (fun m k hk => by
      rw [f80_l14.eq_2, lt_len L k hk, gi_nat]
      unfold E1 f80_k51
      simp only [List.getElem?_eq_getElem hk, Option.bind_some, cond_true]
      rw [f52_eq hA (by omega), f52_eq hB (by omega), sli_take L k (by omega)]
      simp only [Option.bind_some]
      rw [f78_eq (by rw [List.length_take]; omega) (by rw [List.length_take]; omega)]
      simp only [Option.bind_some]
      cases decide (formIx A L[k].fClass < 0) <;> cases decide (formIx B L[k].fTo < 0) <;> cases hasRule (L.take k) L[k].fClass <;> rfl)
    (fun m => by rw [f80_l14.eq_2, ge_len]; rfl) (by omega) (n := n) hL
  rw [l1]
  cases h1 : fst0 (E1 A B L) L.length 0 == 0 with
  | false => rfl
  | true =>
  simp only [cond_true]
  have z1 := eq_of_beq h1
  have l2 := scanF A.length (f80_k68 n L A B) (E2 A L) (f80_l72 A n L (f80_k68 n L A B)) (fun m k hk => by
      rw [f80_l72.eq_2, lt_len A k hk, gi_nat]
      unfold E2
      simp only [List.getElem?_eq_getElem hk, Option.bind_some, cond_true]
      rw [f78_eq hL (by omega)]
      simp only [Option.bind_some]
      cases hasRule L A[k].fName <;> rfl)
    (fun m => by rw [f80_l72.eq_2, ge_len]; rfl) (by omega) (n := n) hA
  unfold f80_k10
  rw [l2]
  cases h2 : fst0 (E2 A L) A.length 0 == 0 with
  | false => rfl
  | true =>
  simp only [cond_true]
  have l3 := scanF L.length f80_k102 (E3 A B L) (f80_l106 L n A B f80_k102) (fun m k hk => by
      obtain ⟨i1, i2, _⟩ := E1_zero z1 hk
      obtain ⟨a1, a2, _⟩ := formAt_gi i1
      obtain ⟨b1, b2, _⟩ := formAt_gi i2
      rw [f80_l106.eq_2, lt_len L k hk, gi_nat]
      unfold E3
      simp only [List.getElem?_eq_getElem hk, Option.bind_some, cond_true]
      rw [f52_eq hA (by omega), f52_eq hB (by omega)]
      simp only [Option.bind_some]
      rw [a1, b1]
      simp only [Option.bind_some]
      rw [bne_len]
      generalize formAt A L[k].fClass = f at *
      generalize formAt B L[k].fTo = t at *
      cases hl : L[k].fGives.length == t.fCols.length with
      | false => rfl
      | true =>
      have hl' := eq_of_beq hl
      have hac := hz.ac f a2
      have hbc := hz.bc t b2
      simp only [Bool.not_true, cond_false, cond_true]
      generalize hG : f80_l106 L n A B f80_k102 m (wr .i64 ((k : Int) + 1)) = G
      have l4 := scanF L[k].fGives.length (f80_k171 k (f80_l106 L n A B f80_k102 m)) (E4 L L[k] f t) (f80_l194 L[k] t n L f (f80_k171 k (f80_l106 L n A B f80_k102 m))) (fun m' j hj => by
          rw [f80_l194.eq_2, lt_len _ j hj, gi_nat, gi_nat]
          unfold E4
          simp only [List.getElem?_eq_getElem hj, List.getElem?_eq_getElem (show j < t.fCols.length by omega), Option.bind_some, cond_true]
          rw [f116_eq hL hac hn]
          simp only [Option.bind_some, bne]
          cases giveB L L[k].fGives[j] f.fCols t.fCols[j] == 0 <;> rfl)
        (fun m' => by rw [f80_l194.eq_2, ge_len]; rfl) (by omega) (n := n) (by omega)
      rw [l4]
      unfold f80_k171
      rw [hG])
    (fun m => by rw [f80_l106.eq_2, ge_len]; rfl) (by omega) (n := n) hL
  unfold f80_k68
  rw [l3]
  unfold f80_k102
  cases h3 : fst0 (E3 A B L) L.length 0 == 0 with
  | false => rfl
  | true => rw [eq_of_beq h3]; rfl
end
end Go.Proofs
end
section
set_option linter.unusedVariables false
namespace Go.Proofs
open Go.Vm
theorem classB_ANY : classB ANY = false := by decide
theorem FormsOk.name {l : List Form} (h : FormsOk l) {s : ByteArray} (hi : ¬ formIx l s < 0) : classB s = true := by
  obtain ⟨_, h2, h3⟩ := formAt_gi hi
  rw [← sEqF_eq h3]
  exact h.nm _ h2
section
variable {n : Nat} {A B : List Form} {L : List Rule}
theorem noAny_of (hA : FormsOk A) (h : fst0 (E1 A B L) L.length 0 = 0) : NoAny L := fun r hr => by
  obtain ⟨k, hk, rfl⟩ := List.getElem_of_mem hr
  obtain ⟨h1, _, _⟩ := E1_zero h hk
  have h2 := hA.name h1
  cases h3 : sEqF L[k].fClass ANY with
  | false => rfl
  | true =>
    rw [sEqF_eq h3, classB_ANY] at h2
    cases h2
end
end Go.Proofs
end
section
set_option linter.unusedVariables false
namespace Go.Proofs
open Go.Vm
theorem f49_two {n : Nat} (h : 100 < n) (a b : Int) : f49 n [a, b] = some (bif a != 0 then a else b) := by
  obtain ⟨m, rfl⟩ : ∃ m, n = m + 3 := ⟨n - 3, by omega⟩
  show (bif a != 0 then some a else bif b != 0 then some b else f49_k3) = _
  unfold f49_k3
  cases ha : a != 0 with
  | true => rfl
  | false =>
    cases hb : b != 0 with
    | true => rfl
    | false =>
      have : b = 0 := by simpa using hb
      rw [this]; rfl
theorem f49_one {n : Nat} (h : 100 < n) (a : Int) : f49 n [a] = some a := by
  obtain ⟨m, rfl⟩ : ∃ m, n = m + 3 := ⟨n - 3, by omega⟩
  show (bif a != 0 then some a else f49_k3) = _
  unfold f49_k3
  cases ha : a != 0 with
  | true => rfl
  | false =>
    have : a = 0 := by simpa using ha
    rw [this]; rfl
theorem ruleSz {n : Nat} {A B : List Form} {L : List Rule} (hA : FormSz n A) (hB : FormSz n B) (hL : L.length < n) : RuleSz n A B L :=
  ⟨hA.1, hB.1, hL, fun f hf => (hA.2 f hf).2.1, fun f hf => (hB.2 f hf).2.1⟩
end Go.Proofs
end
section
set_option linter.unusedVariables false
namespace Go.Proofs
open Go.Vm
section
variable {α τ ρ : Type}
def fin (mk : Nat → α ⊕ τ) : Nat → Nat → List α → List α ⊕ τ
  | 0, k, s => .inl s
  | d + 1, k, s => match mk k with
    | .inl x => fin mk d (k + 1) (s ++ [x])
    | .inr t => .inr t
theorem fin_len {mk : Nat → α ⊕ τ} : ∀ (d k : Nat) (s r : List α), fin mk d k s = .inl r → r.length = s.length + d
  | 0, k, s, r, h => by cases h; rfl
  | d + 1, k, s, r, h => by
    have h1 : (match mk k with | .inl x => fin mk d (k + 1) (s ++ [x]) | .inr t => .inr t) = Sum.inl r := h
    cases hm : mk k with
    | inl x =>
      rw [hm] at h1
      have := fin_len d (k + 1) (s ++ [x]) r h1
      rw [this, List.length_append]; simp; omega
    | inr t => rw [hm] at h1; cases h1
theorem fin_mem {mk : Nat → α ⊕ τ} {P : α → Prop} (hP : ∀ k x, mk k = .inl x → P x) : ∀ (d k : Nat) (s r : List α), fin mk d k s = .inl r → (∀ x ∈ s, P x) → ∀ x ∈ r, P x
  | 0, k, s, r, h, hs => by cases h; exact hs
  | d + 1, k, s, r, h, hs => by
    have h1 : (match mk k with | .inl x => fin mk d (k + 1) (s ++ [x]) | .inr t => .inr t) = Sum.inl r := h
    cases hm : mk k with
    | inl x =>
      rw [hm] at h1
      refine fin_mem hP d (k + 1) (s ++ [x]) r h1 (fun y hy => ?_)
      rcases List.mem_append.1 hy with h2 | h2
      · exact hs y h2
      · rw [List.mem_singleton.1 h2]; exact hP k x hm
    | inr t => rw [hm] at h1; cases h1
theorem scanE1 (N : Nat) (mk : Nat → α ⊕ τ) (K : List α → Option ρ) (G : τ → Option ρ) (L : Nat → Int → List α → Option ρ)
    (hL : ∀ m (k : Nat) s, k < N → s.length = k → L (m + 1) k s = (mk k).elim (fun x => L m (wr .i64 (k + 1)) (s ++ [x])) G)
    (hK : ∀ m s, s.length = N → L (m + 1) N s = K s) (hl : N < 4611686018427387904) :
    ∀ (d k m : Nat) (s : List α), d + k = N → d < m → s.length = k → L m k s = (fin mk d k s).elim K G
  | 0, k, m, s, hk, hm, hs => by
    obtain ⟨m, rfl⟩ := Nat.exists_eq_succ_of_ne_zero (by omega : m ≠ 0)
    have : k = N := by omega
    subst this
    exact hK m s hs
  | d + 1, k, m, s, hk, hm, hs => by
    obtain ⟨m, rfl⟩ := Nat.exists_eq_succ_of_ne_zero (by omega : m ≠ 0)
    rw [hL m k s (by omega) hs, wr_id (by omega) (by omega)]
    show _ = Sum.elim K G (match mk k with | .inl x => fin mk d (k + 1) (s ++ [x]) | .inr t => .inr t)
    cases hm' : mk k with
    | inl x =>
      have := scanE1 N mk K G L hL hK hl d (k + 1) m (s ++ [x]) (by omega) (by omega) (by simp [hs])
      push_cast at this
      exact this
    | inr t => rfl
theorem scanE (N : Nat) (mk : Nat → α ⊕ τ) (K : List α → Option ρ) (G : τ → Option ρ) (L : Nat → Int → List α → Option ρ)
    (hL : ∀ m (k : Nat) s, k < N → s.length = k → L (m + 1) k s = (mk k).elim (fun x => L m (wr .i64 (k + 1)) (s ++ [x])) G)
    (hK : ∀ m s, s.length = N → L (m + 1) N s = K s) (hl : N < 4611686018427387904) {n : Nat} (hn : N < n) :
    L n 0 [] = (fin mk N 0 []).elim K G := scanE1 N mk K G L hL hK hl N 0 n [] (by omega) hn rfl
end
def noV : Val := ⟨0, 0⟩
def madeB (g : Give) (cols : List Col) (vals : List Val) (c : Col) : Val × Bool :=
  bif g.fHow == 6 then (bif c.fKind == 2 then (⟨2, g.fN⟩, true) else (⟨1, g.fN⟩, true)) else bif g.fHow == 7 then (⟨3, 0⟩, true) else
  let x := (gi vals (colIx cols g.fFrom)).getD noV
  bif g.fHow == 2 then (⟨1, x.fN⟩, true) else bif g.fHow == 3 then (⟨2, x.fN⟩, inR x.fN 0 1) else bif g.fHow == 4 then (x, decide (x.fN < g.fN)) else
  bif g.fHow == 5 then (x, x.fKind == 4) else (x, true)
theorem giveB_src {L : List Rule} {g : Give} {cols : List Col} {to : Col} (h : giveB L g cols to = 0) : inR g.fHow 1 7 = true ∧ (inR g.fHow 1 5 = true → ¬ colIx cols g.fFrom < 0) := by
  unfold giveB at h
  have h3 : ∀ a b c : Bool, (bif a then (4 : Int) else bif b then 1 else bif c then 0 else 8) = 0 → a = false ∧ b = false := by decide
  obtain ⟨h4, h5⟩ := h3 _ _ _ h
  refine ⟨?_, fun h6 => ?_⟩
  · rw [argBad_eq] at h5
    revert h5
    cases inR g.fHow 1 7 <;> intro h5 <;> first | rfl | cases h5
  · rw [h6] at h4
    exact of_decide_eq_false h4
section
variable {n : Nat} {L : List Rule} {g : Give} {f : Form} {x : Node} {c : Col}
theorem src_gi (hl : x.fVals.length = f.fCols.length) (h : ¬ colIx f.fCols g.fFrom < 0) : ∃ v, gi x.fVals (colIx f.fCols g.fFrom) = some v := by
  unfold colIx at h ⊢
  rcases ix_find (fun x : Col => sEqF x.fName g.fFrom) f.fCols 0 with ⟨h1, h2, h3⟩ | ⟨j, y, h1, h2, h3, h4, h5⟩
  · rw [h3] at h; omega
  · rw [h3, Nat.zero_add, gi_nat]
    have hj := (List.getElem?_eq_some_iff.1 h4).1
    exact ⟨_, List.getElem?_eq_getElem (by omega)⟩
theorem f79_eq (hg : giveB L g f.fCols c = 0) (hl : x.fVals.length = f.fCols.length) (hc : f.fCols.length < n) (hn : n < 4611686018427387904) : f79 n g f.fCols x.fVals c = some (madeB g f.fCols x.fVals c) := by
  obtain ⟨h7, h5⟩ := giveB_src hg
  unfold f79 madeB
  cases h6 : g.fHow == 6 with
  | true => cases c.fKind == 2 <;> rfl
  | false =>
  cases h8 : g.fHow == 7 with
  | true => rfl
  | false =>
  have hi : inR g.fHow 1 5 = true := by
    unfold inR at h7 ⊢
    have a := of_decide_eq_true (Bool.and_eq_true _ _ ▸ h7 : _ ∧ _).1
    have b := of_decide_eq_true (Bool.and_eq_true _ _ ▸ h7 : _ ∧ _).2
    have c1 : g.fHow ≠ 6 := by simpa using h6
    have c2 : g.fHow ≠ 7 := by simpa using h8
    simp only [Bool.and_eq_true, decide_eq_true_eq]
    omega
  obtain ⟨v, hv⟩ := src_gi hl (h5 hi)
  simp only [cond_false]
  rw [f95_eq hc (by omega)]
  simp only [Option.bind_some]
  rw [hv]
  simp only [Option.bind_some, Option.getD_some, f86_eq, cs]
end
end Go.Proofs
end
section
set_option linter.unusedVariables false
namespace Go.Proofs
open Go.Vm
structure RuleOk (A B : List Form) (L : List Rule) (c : ByteArray) : Prop where
  at_ : gi L (ixOf (ruleP c) L 0) = some (ruleAt L c)
  to : ¬ formIx B (ruleAt L c).fTo < 0
  ln : (ruleAt L c).fGives.length = (formAt B (ruleAt L c).fTo).fCols.length
  gv : ∀ (j : Nat) (h1 : j < (ruleAt L c).fGives.length) (h2 : j < (formAt B (ruleAt L c).fTo).fCols.length), giveB L (ruleAt L c).fGives[j] (formAt A c).fCols (formAt B (ruleAt L c).fTo).fCols[j] = 0
theorem rulesE_zero {A B : List Form} {L : List Rule} (h : rulesE A B L = 0) : fst0 (E1 A B L) L.length 0 = 0 ∧ fst0 (E2 A L) A.length 0 = 0 ∧ fst0 (E3 A B L) L.length 0 = 0 := by
  unfold rulesE at h
  cases hd : decide (len L > 24) with
  | true => rw [hd] at h; cases h
  | false =>
    rw [hd] at h
    cases h1 : fst0 (E1 A B L) L.length 0 == 0 with
    | false => rw [h1] at h; have h' : fst0 (E1 A B L) L.length 0 = 0 := h; rw [h'] at h1; cases h1
    | true =>
      rw [h1] at h
      cases h2 : fst0 (E2 A L) A.length 0 == 0 with
      | false => rw [h2] at h; have h' : fst0 (E2 A L) A.length 0 = 0 := h; rw [h'] at h2; cases h2
      | true =>
        rw [h2] at h
        exact ⟨eq_of_beq h1, eq_of_beq h2, h⟩
theorem ruleOk_of {A B : List Form} {L : List Rule} (h : rulesE A B L = 0) {c : ByteArray} (hc : ¬ formIx A c < 0) : RuleOk A B L c := by
  obtain ⟨z1, z2, z3⟩ := rulesE_zero h
  obtain ⟨_, m1, m2⟩ := formAt_gi hc
  have hr : hasRule L c = true := by
    obtain ⟨i, hi, he⟩ := List.getElem_of_mem m1
    have := fst0_zero A.length 0 z2 i (Nat.zero_le _) (by omega)
    unfold E2 at this
    rw [List.getElem?_eq_getElem hi] at this
    have this : (bif hasRule L A[i].fName then (0 : Int) else 5) = 0 := this
    rw [he, sEqF_eq m2] at this
    revert this
    cases hasRule L c <;> intro h <;> first | rfl | cases h
  rcases ix_find (ruleP c) L 0 with ⟨h1, h2, h3⟩ | ⟨j, r, h1, h2, h3, h4, h5⟩
  · unfold hasRule at hr; rw [h2] at hr; cases hr
  · have e : ruleAt L c = r := by unfold ruleAt; rw [h1]; rfl
    obtain ⟨hj, hj'⟩ := List.getElem?_eq_some_iff.1 h4
    obtain ⟨i1, i2, _⟩ := E1_zero z1 hj
    have e3 := fst0_zero L.length 0 z3 j (Nat.zero_le _) (by omega)
    unfold E3 at e3
    rw [h4] at e3
    rw [hj'] at i1 i2
    have hcl : r.fClass = c := sEqF_eq h5
    have e3 : (bif r.fGives.length == (formAt B r.fTo).fCols.length then fst0 (E4 L r (formAt A r.fClass) (formAt B r.fTo)) r.fGives.length 0 else 2) = 0 := e3
    rw [hcl] at e3
    cases hl : r.fGives.length == (formAt B r.fTo).fCols.length with
    | false => rw [hl] at e3; cases e3
    | true =>
      rw [hl] at e3
      have hl' := eq_of_beq hl
      refine ⟨?_, ?_, ?_, ?_⟩
      · rw [e, h3, Nat.zero_add, gi_nat, h4]
      · rw [e]; exact i2
      · rw [e]; exact hl'
      · rw [e]
        intro j h1 h2
        have := fst0_zero r.fGives.length 0 e3 j (Nat.zero_le _) (by omega)
        unfold E4 at this
        rw [List.getElem?_eq_getElem h1, List.getElem?_eq_getElem h2] at this
        exact this
def valMk (A B : List Form) (L : List Rule) (x : Node) (j : Nat) : Val ⊕ ByteArray := match (formAt B (ruleAt L x.fClass).fTo).fCols[j]?, (ruleAt L x.fClass).fGives[j]? with
  | some c, some g => bif (madeB g (formAt A x.fClass).fCols x.fVals c).2 then .inl (madeB g (formAt A x.fClass).fCols x.fVals c).1 else .inr c.fName
  | _, _ => .inr noS
def rowMk (A B : List Form) (L : List Rule) (x : Node) : List Val ⊕ ByteArray := fin (valMk A B L x) (formAt B (ruleAt L x.fClass).fTo).fCols.length 0 []
def nodeMk (A B : List Form) (L : List Rule) (g : Graph) (k : Nat) : Node ⊕ Refusal := match g.fNodes[k]? with
  | some x => (rowMk A B L x).elim (fun v => .inl ⟨(ruleAt L x.fClass).fTo, v⟩) (fun s => .inr ⟨k, s⟩)
  | none => .inr ⟨0, noS⟩
def noG : Graph := ⟨[], []⟩
def convR (A B : List Form) (L : List Rule) (g : Graph) : Graph × Refusal × Int :=
  (fin (nodeMk A B L g) g.fNodes.length 0 []).elim (fun ns => (⟨ns, g.fRoots⟩, ⟨0, noS⟩, 0)) (fun r => (noG, r, 10))
section
variable {n : Nat} {A B : List Form} {L : List Rule} {g : Graph}
theorem f32_l (hz : RuleSz n A B L) (hg : GraphSz n g) (hn : n < 1000000000) (hr : rulesE A B L = 0) (hc : ∀ x ∈ g.fNodes, ¬ formIx A x.fClass < 0 ∧ x.fVals.length = (formAt A x.fClass).fCols.length) (K : List Node → Option (Graph × Refusal × Int)) :
    f32_l29 g n L A B K n 0 [] = (fin (nodeMk A B L g) g.fNodes.length 0 []).elim K (fun r => some (noG, r, 10)) := by
  have hA := hz.a; have hB := hz.b; have hL := hz.r; have hN := hg.1
  refine scanE g.fNodes.length (nodeMk A B L g) K (fun r => some (noG, r, 10)) (f32_l29 g n L A B K) (fun m k s hk hs => ?_) (fun m s hs => by rw [f32_l29.eq_2, ge_len]; rfl) (by omega) hN
  rw [f32_l29.eq_2, lt_len _ k hk, gi_nat]
  unfold nodeMk
  simp only [List.getElem?_eq_getElem hk, Option.bind_some, cond_true]
  obtain ⟨c1, c2⟩ := hc g.fNodes[k] (List.getElem_mem hk)
  generalize g.fNodes[k] = x at *
  have ro := ruleOk_of hr c1
  obtain ⟨a1, a2, _⟩ := formAt_gi c1
  obtain ⟨b1, b2, _⟩ := formAt_gi ro.to
  rw [f78_eq hL (by omega), f52_eq hA (by omega)]
  simp only [Option.bind_some]
  rw [a1, f52_eq hB (by omega)]
  simp only [Option.bind_some]
  rw [b1]
  simp only [Option.bind_some]
  have hac := hz.ac _ a2
  have hbc := hz.bc _ b2
  have l4 := scanE (formAt B (ruleAt L x.fClass).fTo).fCols.length (valMk A B L x) (f32_k120 s (ruleAt L x.fClass, hasRule L x.fClass) k (f32_l29 g n L A B K m)) (fun nm => some (noG, ⟨k, nm⟩, 10))
    (f32_l128 (formAt B (ruleAt L x.fClass).fTo) (ruleAt L x.fClass, hasRule L x.fClass) n (formAt A x.fClass) x k (f32_k120 s (ruleAt L x.fClass, hasRule L x.fClass) k (f32_l29 g n L A B K m))) (fun m' j v hj hv => by
      have hj2 : j < (ruleAt L x.fClass).fGives.length := by rw [ro.ln]; exact hj
      rw [f32_l128.eq_2, lt_len _ j hj, gi_nat, gi_nat]
      unfold valMk
      simp only [List.getElem?_eq_getElem hj, List.getElem?_eq_getElem hj2, Option.bind_some, cond_true]
      rw [f79_eq (ro.gv j hj2 hj) c2 hac (by omega)]
      simp only [Option.bind_some]
      cases (madeB (ruleAt L x.fClass).fGives[j] (formAt A x.fClass).fCols x.fVals (formAt B (ruleAt L x.fClass).fTo).fCols[j]).2 with
      | false => rfl
      | true =>
        simp only [Bool.not_true, cond_false, cond_true]
        rw [app2_eq (by simp; omega)]
        rfl)
    (fun m' v hv => by rw [f32_l128.eq_2, ge_len]; rfl) (by omega) (n := n) hbc
  rw [l4]
  unfold rowMk
  cases fin (valMk A B L x) (formAt B (ruleAt L x.fClass).fTo).fCols.length 0 [] with
  | inl v =>
    show f32_k120 s (ruleAt L x.fClass, hasRule L x.fClass) k (f32_l29 g n L A B K m) v = _
    unfold f32_k120 f32_k106
    rw [app2_eq (by simp; omega)]
    rfl
  | inr nm => rfl
theorem rowMk_len {x : Node} {v : List Val} (hz : RuleSz n A B L) (hr : rulesE A B L = 0) (hc : ¬ formIx A x.fClass < 0) (h : rowMk A B L x = .inl v) : v.length < n := by
  unfold rowMk at h
  rw [fin_len _ _ _ _ h]
  have := hz.bc _ (formAt_gi (ruleOk_of hr hc).to).2.1
  simpa using this
theorem convR_sz (hz : RuleSz n A B L) (hg : GraphSz n g) (hr : rulesE A B L = 0) (hc : ∀ x ∈ g.fNodes, ¬ formIx A x.fClass < 0) : GraphSz n (convR A B L g).1 := by
  have h0 : GraphSz n noG := ⟨by have := hg.1; show 0 < n; omega, by have := hg.1; show 0 < n; omega, fun x hx => nomatch hx⟩
  unfold convR
  cases h : fin (nodeMk A B L g) g.fNodes.length 0 [] with
  | inr r => exact h0
  | inl ns =>
    refine ⟨?_, hg.2.1, ?_⟩
    · show ns.length < n
      rw [fin_len _ _ _ _ h]
      have := hg.1
      simpa using this
    · refine fin_mem (P := fun x : Node => x.fVals.length < n) (fun k y hy => ?_) _ _ _ _ h (fun x hx => nomatch hx)
      unfold nodeMk at hy
      cases hx : g.fNodes[k]? with
      | none => rw [hx] at hy; cases hy
      | some x =>
        rw [hx] at hy
        have hy : (rowMk A B L x).elim (fun v => (Sum.inl ⟨(ruleAt L x.fClass).fTo, v⟩ : Node ⊕ Refusal)) (fun s => .inr ⟨k, s⟩) = .inl y := hy
        cases hv : rowMk A B L x with
        | inr s => rw [hv] at hy; cases hy
        | inl v =>
          rw [hv] at hy
          cases hy
          exact rowMk_len hz hr (hc x (List.mem_of_getElem? hx)) hv
end
end Go.Proofs
end
section
set_option linter.unusedVariables false
namespace Go.Proofs
open Go.Vm
theorem beq_sEqF (a b : ByteArray) : (a == b) = sEqF a b := by
  show (a.data == b.data) = (a.data.toList == b.data.toList)
  rw [Bool.eq_iff_iff, beq_iff_eq, beq_iff_eq, Array.toList_inj]
theorem mget_mset (s a : ByteArray) (v : Bool) : ∀ m : List (ByteArray × Bool), mget s (mset a v m) = bif sEqF s a then some v else mget s m
  | [] => by
    show (bif s == a then some v else none) = _
    rw [beq_sEqF]; rfl
  | p :: m => by
    show mget s (bif a == p.1 then (a, v) :: m else p :: mset a v m) = bif sEqF s a then some v else (bif s == p.1 then some p.2 else mget s m)
    rw [beq_sEqF, beq_sEqF]
    cases h : sEqF a p.1 with
    | true =>
      rw [← sEqF_eq h]
      show (bif s == a then some v else mget s m) = _
      rw [beq_sEqF]
      cases sEqF s a <;> rfl
    | false =>
      show (bif s == p.1 then some p.2 else mget s (mset a v m)) = _
      rw [beq_sEqF, mget_mset s a v m]
      cases h1 : sEqF s p.1 with
      | false => rfl
      | true =>
        cases h2 : sEqF s a with
        | false => rfl
        | true =>
          rw [← sEqF_eq h1, ← sEqF_eq h2, sEqF_refl] at h
          cases h
def askM (gs : List Give) : List (ByteArray × Bool) := gs.foldl (fun m g => mset g.fFrom true m) []
theorem askM_get (s : ByteArray) (gs : List Give) : (mget s (askM gs)).getD false = gs.any fun g => sEqF s g.fFrom := by
  have : ∀ (gs : List Give) m, (mget s (gs.foldl (fun m g => mset g.fFrom true m) m)).getD false = ((gs.any fun g => sEqF s g.fFrom) || (mget s m).getD false) := fun gs => by
    induction gs with
    | nil => intro m; simp
    | cons g gs ih =>
      intro m
      rw [List.foldl_cons, ih, mget_mset, List.any_cons]
      cases sEqF s g.fFrom <;> cases (gs.any fun g => sEqF s g.fFrom) <;> rfl
  have h := this gs []
  rw [show (mget s ([] : List (ByteArray × Bool))).getD false = false from rfl, Bool.or_false] at h
  exact h
theorem askM_succ (gs : List Give) (k : Nat) (hk : k < gs.length) : askM (gs.take (k + 1)) = mset gs[k].fFrom true (askM (gs.take k)) := by
  unfold askM
  rw [List.take_succ_eq_append_getElem hk, List.foldl_append]
  rfl
def anyN (p : Nat → Bool) : Nat → Nat → Bool
  | 0, _ => false
  | d + 1, k => p k || anyN p d (k + 1)
theorem scanX {ρ : Type} (N : Nat) (K : Option ρ) (p : Nat → Bool) (e : Option ρ) (L : Nat → Int → Option ρ) (hL : ∀ m (k : Nat), k < N → L (m + 1) k = bif p k then e else L m (wr .i64 (k + 1))) (hK : ∀ m, L (m + 1) N = K) (hl : N < 4611686018427387904) {n : Nat} (hn : N < n) :
    L n 0 = bif anyN p N 0 then e else K := by
  have h := scanN N K (fun k acc => bif p k then e else acc) L hL hK hl N 0 n (by omega) hn
  have hg : ∀ d k, goN (fun k acc => bif p k then e else acc) K d k = bif anyN p d k then e else K := fun d => by
    induction d with
    | zero => intro k; rfl
    | succ d ih =>
      intro k
      show (bif p k then e else goN _ K d (k + 1)) = bif (p k || anyN p d (k + 1)) then e else K
      rw [ih (k + 1)]
      cases p k <;> rfl
  exact h.trans (hg N 0)
def joinB (h g : Give) : Give × Bool :=
  bif g.fHow == 1 then (h, true) else bif h.fHow == 1 then (⟨h.fFrom, g.fHow, g.fN⟩, true) else bif g.fHow == 2 then (h, h.fHow == 6) else
  bif g.fHow == 3 then (bif h.fHow == 2 then (⟨h.fFrom, 1, 0⟩, true) else bif h.fHow == 6 then (h, inR h.fN 0 1) else (h, false)) else
  bif g.fHow == 4 then (bif h.fHow == 2 then (h, decide (g.fN ≥ 2)) else bif h.fHow == 4 then (⟨h.fFrom, 4, mnI h.fN g.fN⟩, true) else bif h.fHow == 6 then (h, decide (h.fN < g.fN)) else (h, false)) else
  (h, h.fHow == 5)
theorem inR17 {x : Int} (h : inR x 1 7 = true) : x = 1 ∨ x = 2 ∨ x = 3 ∨ x = 4 ∨ x = 5 ∨ x = 6 ∨ x = 7 := by
  unfold inR at h
  simp only [Bool.and_eq_true, decide_eq_true_eq] at h
  omega
theorem f121_eq (n : Nat) (h g : Give) (hh : inR h.fHow 1 7 = true) (hg : inR g.fHow 1 5 = true) : ∃ x, f121 n h g = some (x, (joinB h g).2) ∧ ((joinB h g).2 = true → x = (joinB h g).1) := by
  have hg' : inR g.fHow 1 7 = true := by
    unfold inR at hg ⊢
    simp only [Bool.and_eq_true, decide_eq_true_eq] at hg ⊢
    omega
  unfold f121 f121_k14 f121_k19 f121_k24 f121_k30 f121_k35 f121_k40 f121_k47
  rw [f86_eq]
  simp only [Option.bind_some]
  obtain ⟨hf, hw, hn⟩ := h
  obtain ⟨gf, gw, gn⟩ := g
  have h1 : hw = 1 ∨ hw = 2 ∨ hw = 3 ∨ hw = 4 ∨ hw = 5 ∨ hw = 6 ∨ hw = 7 := inR17 hh
  have h2 : gw = 1 ∨ gw = 2 ∨ gw = 3 ∨ gw = 4 ∨ gw = 5 ∨ gw = 6 ∨ gw = 7 := inR17 hg'
  rcases h1 with rfl | rfl | rfl | rfl | rfl | rfl | rfl <;> rcases h2 with rfl | rfl | rfl | rfl | rfl | rfl | rfl <;>
    first | exact ⟨_, rfl, fun _ => rfl⟩ | exact ⟨_, rfl, fun h => nomatch h⟩ | exact nomatch hg
def asksB (g : Give) : Bool := bif g.fHow == 3 then true else bif g.fHow == 4 then true else g.fHow == 5
def usesB (l : List Give) (s : ByteArray) : Bool := l.any fun g => inR g.fHow 1 5 && sEqF g.fFrom s
end Go.Proofs
end
section
set_option linter.unusedVariables false
set_option linter.unusedSimpArgs false
namespace Go.Proofs
open Go.Vm
def suitsC (cl : Int → ByteArray) (c : Col) (v : Val) : Bool :=
  bif c.fKind == 1 then v.fKind == 1 else bif c.fKind == 2 then v.fKind == 2 else bif v.fKind == 3 then true else
  (v.fKind == 4) && (sEqF c.fClass ANY || sEqF (cl v.fN) c.fClass)
def clsAt (l : List Node) (i : Int) : ByteArray := ((gi l i).map fun x => x.fClass).getD noS
theorem giveB_fit {L : List Rule} {g : Give} {cols : List Col} {to : Col} (h : giveB L g cols to = 0) : fitsB L g (srcOf cols g) to = true ∧ numdB g to = true := by
  have h1 := h
  unfold giveB at h
  have h3 : ∀ a b c : Bool, (bif a then (4 : Int) else bif b then 1 else bif c then 0 else 8) = 0 → b = false ∧ c = true := by decide
  obtain ⟨h4, h5⟩ := h3 _ _ _ h
  refine ⟨h5, ?_⟩
  rw [argBad_eq] at h4
  revert h4
  rw [(giveB_src h1).1]
  cases numdB g to <;> intro h <;> first | rfl | cases h
section
variable {L : List Rule} {c1 c2 : Int → ByteArray} {m : Int}
theorem leadKeep (hna : NoAny L) (hcls : ∀ i, valB ⟨4, i⟩ m = true → c2 i = (ruleAt L (c1 i)).fTo) {a b : Col} {v : Val} (ha : a.fKind = 3) (hb : b.fKind = 3) (hl : leadsB L a.fClass b.fClass = true) (hv : valB v m = true) (hs : suitsC c1 a v = true) : suitsC c2 b v = true := by
  obtain ⟨vk, vn⟩ := v
  unfold suitsC at hs ⊢
  rw [ha] at hs
  rw [hb]
  have hs : (bif vk == 3 then true else (vk == 4) && (sEqF a.fClass ANY || sEqF (c1 vn) a.fClass)) = true := hs
  show (bif vk == 3 then true else (vk == 4) && (sEqF b.fClass ANY || sEqF (c2 vn) b.fClass)) = true
  cases h3 : vk == 3 with
  | true => rfl
  | false =>
    rw [h3] at hs
    have hs : ((vk == 4) && (sEqF a.fClass ANY || sEqF (c1 vn) a.fClass)) = true := hs
    rw [Bool.and_eq_true, Bool.or_eq_true] at hs
    obtain ⟨h4, h5⟩ := hs
    have h4' : vk = 4 := eq_of_beq h4
    subst h4'
    show (true && (sEqF b.fClass ANY || sEqF (c2 vn) b.fClass)) = true
    unfold leadsB at hl
    cases hb : sEqF b.fClass ANY with
    | true => rfl
    | false =>
      rw [hb] at hl
      have hl : (bif hasRule L a.fClass then sEqF (ruleAt L a.fClass).fTo b.fClass else false) = true := hl
      cases hr : hasRule L a.fClass with
      | false => rw [hr] at hl; cases hl
      | true =>
        rw [hr] at hl
        have hl : sEqF (ruleAt L a.fClass).fTo b.fClass = true := hl
        rcases h5 with h5 | h5
        · rw [hasRule_any hna h5] at hr; cases hr
        · rw [hcls vn hv, sEqF_eq h5, hl]; rfl
theorem inR_wide {x : Int} (h : inR x 0 1 = true) : inR x (-1099511627776) 1099511627776 = true := by
  unfold inR at h ⊢
  simp only [Bool.and_eq_true, decide_eq_true_eq] at h ⊢
  omega
theorem valKeep (hna : NoAny L) (hcls : ∀ i, valB ⟨4, i⟩ m = true → c2 i = (ruleAt L (c1 i)).fTo) {g : Give} {cols : List Col} {vals : List Val} {b : Col}
    (hg : giveB L g cols b = 0) (hlen : vals.length = cols.length)
    (hak : ∀ a ∈ cols, inR a.fKind 1 3 = true)
    (hv : ∀ (i : Nat) a v, cols[i]? = some a → vals[i]? = some v → valB v m = true ∧ suitsC c1 a v = true)
    (hok : (madeB g cols vals b).2 = true) : valB (madeB g cols vals b).1 m = true ∧ suitsC c2 b (madeB g cols vals b).1 = true := by
  obtain ⟨h7, h5⟩ := giveB_src hg
  obtain ⟨hf, hn⟩ := giveB_fit hg
  have src : inR g.fHow 1 5 = true → ∃ v, gi vals (colIx cols g.fFrom) = some v ∧ valB v m = true ∧ suitsC c1 (srcOf cols g) v = true ∧ inR (srcOf cols g).fKind 1 3 = true := fun h => by
    have hi := h5 h
    have e : srcOf cols g = colAt cols g.fFrom := by unfold srcOf; rw [h]; rfl
    have hi2 := (colAt_gi hi).1
    have hi3 := hak _ (colAt_gi hi).2.1
    rw [e]
    unfold colIx at hi hi2 ⊢
    rcases ix_find (fun x : Col => sEqF x.fName g.fFrom) cols 0 with ⟨h1, h2, h3⟩ | ⟨j, y, h1, h2, h3, h4, h5⟩
    · rw [h3] at hi; omega
    · rw [h3, Nat.zero_add, gi_nat] at hi2
      rw [h3, Nat.zero_add, gi_nat]
      have hj := (List.getElem?_eq_some_iff.1 h4).1
      have hv' := List.getElem?_eq_getElem (show j < vals.length by omega)
      exact ⟨_, hv', (hv j _ _ hi2 hv').1, (hv j _ _ hi2 hv').2, hi3⟩
  generalize srcOf cols g = a at *
  obtain ⟨gf, gh, gn⟩ := g
  have cases7 : gh = 1 ∨ gh = 2 ∨ gh = 3 ∨ gh = 4 ∨ gh = 5 ∨ gh = 6 ∨ gh = 7 := inR17 h7
  unfold madeB at hok ⊢
  rcases cases7 with rfl | rfl | rfl | rfl | rfl | rfl | rfl
  · obtain ⟨v, e, w1, w2, w3⟩ := src rfl
    have e : gi vals (colIx cols gf) = some v := e
    have hf : (bif a.fKind == b.fKind then (bif a.fKind != 3 then true else leadsB L a.fClass b.fClass) else false) = true := hf
    show valB ((gi vals (colIx cols gf)).getD noV) m = true ∧ suitsC c2 b ((gi vals (colIx cols gf)).getD noV) = true
    rw [e]
    refine ⟨w1, ?_⟩
    show suitsC c2 b v = true
    cases hk : a.fKind == b.fKind with
    | false => rw [hk] at hf; cases hf
    | true =>
      rw [hk] at hf
      have hk' : a.fKind = b.fKind := eq_of_beq hk
      cases h3 : a.fKind != 3 with
      | false =>
        rw [h3] at hf
        have h3' : a.fKind = 3 := by simpa using h3
        exact leadKeep hna hcls h3' (by rw [← hk', h3']) hf w1 w2
      | true =>
        have h3' : a.fKind ≠ 3 := by simpa using h3
        by_cases k1 : a.fKind = 1
        · unfold suitsC at w2 ⊢
          rw [k1] at w2
          rw [← hk', k1]
          exact w2
        · by_cases k2 : a.fKind = 2
          · unfold suitsC at w2 ⊢
            rw [k2] at w2
            rw [← hk', k2]
            exact w2
          · unfold inR at w3
            simp only [Bool.and_eq_true, decide_eq_true_eq] at w3
            omega
  · obtain ⟨v, e, w1, w2, w3⟩ := src rfl
    have e : gi vals (colIx cols gf) = some v := e
    have hf : (bif a.fKind == 2 then b.fKind == 1 else false) = true := hf
    show valB ⟨1, ((gi vals (colIx cols gf)).getD noV).fN⟩ m = true ∧ suitsC c2 b ⟨1, ((gi vals (colIx cols gf)).getD noV).fN⟩ = true
    rw [e]
    obtain ⟨vk, vn⟩ := v
    cases ha : a.fKind == 2 with
    | false => rw [ha] at hf; cases hf
    | true =>
      rw [ha] at hf
      have hb : b.fKind = 1 := eq_of_beq hf
      unfold suitsC at w2 ⊢
      rw [eq_of_beq ha] at w2
      have w2 : (vk == 2) = true := w2
      have hvk : vk = 2 := eq_of_beq w2
      subst hvk
      rw [hb]
      exact ⟨inR_wide w1, rfl⟩
  · obtain ⟨v, e, w1, w2, w3⟩ := src rfl
    have e : gi vals (colIx cols gf) = some v := e
    have hf : (bif a.fKind == 1 then b.fKind == 2 else false) = true := hf
    have hok : inR ((gi vals (colIx cols gf)).getD noV).fN 0 1 = true := hok
    show valB ⟨2, ((gi vals (colIx cols gf)).getD noV).fN⟩ m = true ∧ suitsC c2 b ⟨2, ((gi vals (colIx cols gf)).getD noV).fN⟩ = true
    refine ⟨hok, ?_⟩
    cases ha : a.fKind == 1 with
    | false => rw [ha] at hf; cases hf
    | true =>
      rw [ha] at hf
      have hb : b.fKind = 2 := eq_of_beq hf
      unfold suitsC
      rw [hb]
      rfl
  · obtain ⟨v, e, w1, w2, w3⟩ := src rfl
    have e : gi vals (colIx cols gf) = some v := e
    have hf : (bif a.fKind == 1 then b.fKind == 1 else false) = true := hf
    show valB ((gi vals (colIx cols gf)).getD noV) m = true ∧ suitsC c2 b ((gi vals (colIx cols gf)).getD noV) = true
    rw [e]
    refine ⟨w1, ?_⟩
    show suitsC c2 b v = true
    cases ha : a.fKind == 1 with
    | false => rw [ha] at hf; cases hf
    | true =>
      rw [ha] at hf
      have hb : b.fKind = 1 := eq_of_beq hf
      unfold suitsC at w2 ⊢
      rw [eq_of_beq ha] at w2
      rw [hb]
      exact w2
  · obtain ⟨v, e, w1, w2, w3⟩ := src rfl
    have e : gi vals (colIx cols gf) = some v := e
    have hf : (bif a.fKind == 3 then (bif b.fKind == 3 then leadsB L a.fClass b.fClass else false) else false) = true := hf
    show valB ((gi vals (colIx cols gf)).getD noV) m = true ∧ suitsC c2 b ((gi vals (colIx cols gf)).getD noV) = true
    rw [e]
    refine ⟨w1, ?_⟩
    show suitsC c2 b v = true
    cases ha : a.fKind == 3 with
    | false => rw [ha] at hf; cases hf
    | true =>
      rw [ha] at hf
      have hf : (bif b.fKind == 3 then leadsB L a.fClass b.fClass else false) = true := hf
      cases hb : b.fKind == 3 with
      | false => rw [hb] at hf; cases hf
      | true =>
        rw [hb] at hf
        exact leadKeep hna hcls (eq_of_beq ha) (eq_of_beq hb) hf w1 w2
  · have hf : (bif b.fKind == 1 then true else bif b.fKind == 2 then inR gn 0 1 else false) = true := hf
    have hn : (bif b.fKind == 2 then (bif sEqF gf noS then inR gn 0 1 else false) else bif sEqF gf noS then inR gn (-1099511627776) 1099511627776 else false) = true := hn
    show valB (bif b.fKind == 2 then ((⟨2, gn⟩ : Val), true) else (⟨1, gn⟩, true)).1 m = true ∧ suitsC c2 b (bif b.fKind == 2 then ((⟨2, gn⟩ : Val), true) else (⟨1, gn⟩, true)).1 = true
    cases h2 : b.fKind == 2 with
    | true =>
      rw [h2] at hn
      have hb := eq_of_beq h2
      have hn : (bif sEqF gf noS then inR gn 0 1 else false) = true := hn
      unfold suitsC
      rw [hb]
      refine ⟨?_, rfl⟩
      show inR gn 0 1 = true
      revert hn
      cases sEqF gf noS <;> intro hn
      · cases hn
      · exact hn
    | false =>
      rw [h2] at hn hf
      have hn : (bif sEqF gf noS then inR gn (-1099511627776) 1099511627776 else false) = true := hn
      have hb : b.fKind = 1 := by
        cases h1 : b.fKind == 1 with
        | true => exact eq_of_beq h1
        | false => rw [h1] at hf; cases hf
      unfold suitsC
      rw [hb]
      refine ⟨?_, rfl⟩
      show inR gn (-1099511627776) 1099511627776 = true
      revert hn
      cases sEqF gf noS <;> intro hn
      · cases hn
      · exact hn
  · have hf : (b.fKind == 3) = true := hf
    have hb := eq_of_beq hf
    unfold suitsC
    rw [hb]
    exact ⟨rfl, rfl⟩
end
end Go.Proofs
end
section
set_option linter.unusedVariables false
set_option linter.unusedSimpArgs false
namespace Go.Proofs
open Go.Vm
section
variable {α τ : Type} {mk : Nat → α ⊕ τ}
theorem fin_get : ∀ (d k : Nat) (s r : List α), fin mk d k s = .inl r → ∃ t, r = s ++ t ∧ t.length = d ∧ ∀ j x, t[j]? = some x → mk (k + j) = .inl x
  | 0, k, s, r, h => by cases h; exact ⟨[], by simp, rfl, fun j x h => by simp at h⟩
  | d + 1, k, s, r, h => by
    have h1 : (match mk k with | .inl x => fin mk d (k + 1) (s ++ [x]) | .inr t => .inr t) = Sum.inl r := h
    cases hm : mk k with
    | inr t => rw [hm] at h1; cases h1
    | inl x =>
      rw [hm] at h1
      obtain ⟨t, e1, e2, e3⟩ := fin_get d (k + 1) (s ++ [x]) r h1
      refine ⟨x :: t, by rw [e1]; simp, by simp [e2], fun j y hj => ?_⟩
      cases j with
      | zero => cases hj; exact hm
      | succ j =>
        have := e3 j y hj
        rwa [show k + 1 + j = k + (j + 1) from by omega] at this
theorem fin_stop {t : τ} : ∀ (d k : Nat) (s : List α), fin mk d k s = .inr t → ∃ j, j < d ∧ mk (k + j) = .inr t ∧ ∀ i, i < j → ∃ x, mk (k + i) = .inl x
  | 0, k, s, h => by cases h
  | d + 1, k, s, h => by
    have h1 : (match mk k with | .inl x => fin mk d (k + 1) (s ++ [x]) | .inr t => .inr t) = Sum.inr t := h
    cases hm : mk k with
    | inr u =>
      rw [hm] at h1
      cases h1
      exact ⟨0, by omega, hm, fun i hi => by omega⟩
    | inl x =>
      rw [hm] at h1
      obtain ⟨j, e1, e2, e3⟩ := fin_stop d (k + 1) (s ++ [x]) h1
      refine ⟨j + 1, by omega, by rwa [show k + 1 + j = k + (j + 1) from by omega] at e2, fun i hi => ?_⟩
      cases i with
      | zero => exact ⟨x, hm⟩
      | succ i =>
        obtain ⟨y, hy⟩ := e3 i (by omega)
        exact ⟨y, by rwa [show k + 1 + i = k + (i + 1) from by omega] at hy⟩
end
theorem formedR_iff (g : Graph) : formedR g = 0 ↔ (g.fNodes.length ≤ 400 ∧ g.fRoots.length ≤ 60) ∧ (∀ x ∈ g.fNodes, x.fVals.length ≤ 30) ∧ (∀ x ∈ g.fNodes, ∀ v ∈ x.fVals, valB v (len g.fNodes) = true) ∧ ∀ v ∈ g.fRoots, valB v (len g.fNodes) = true ∧ refersB v = true := by
  unfold formedR
  have key : ∀ a b c d : Bool, (bif a then (3 : Int) else bif b then 3 else bif c then 2 else bif d then 2 else 0) = 0 ↔ a = false ∧ b = false ∧ c = false ∧ d = false := by decide
  rw [key]
  refine and_congr ?_ (and_congr ?_ (and_congr ?_ ?_))
  · rw [Bool.or_eq_false_iff, decide_eq_false_iff_not, decide_eq_false_iff_not]
    unfold len
    omega
  · rw [List.any_eq_false]
    refine forall_congr' fun x => forall_congr' fun hx => ?_
    rw [decide_eq_true_eq]
    unfold len
    omega
  · rw [List.any_eq_false]
    refine forall_congr' fun x => forall_congr' fun hx => ?_
    rw [Bool.not_eq_true, List.any_eq_false]
    refine forall_congr' fun v => forall_congr' fun hv => ?_
    cases valB v (len g.fNodes) <;> simp
  · rw [List.any_eq_false]
    refine forall_congr' fun v => forall_congr' fun hv => ?_
    cases valB v (len g.fNodes) <;> cases refersB v <;> simp
structure GoodG (A : List Form) (g : Graph) : Prop where
  fr : (g.fNodes.length ≤ 400 ∧ g.fRoots.length ≤ 60) ∧ (∀ x ∈ g.fNodes, x.fVals.length ≤ 30) ∧ (∀ x ∈ g.fNodes, ∀ v ∈ x.fVals, valB v (len g.fNodes) = true) ∧ ∀ v ∈ g.fRoots, valB v (len g.fNodes) = true ∧ refersB v = true
  cl : ∀ x ∈ g.fNodes, ¬ formIx A x.fClass < 0
  ln : ∀ x ∈ g.fNodes, x.fVals.length = (formAt A x.fClass).fCols.length
  su : ∀ x ∈ g.fNodes, ∀ (j : Nat) c v, (formAt A x.fClass).fCols[j]? = some c → x.fVals[j]? = some v → suitsC (clsAt g.fNodes) c v = true
theorem nodeB_iff {A : List Form} {g : Graph} {x : Node} (h : ¬ formIx A x.fClass < 0) : nodeB A g x = true ↔ x.fVals.length = (formAt A x.fClass).fCols.length ∧ ∀ (j : Nat) c v, (formAt A x.fClass).fCols[j]? = some c → x.fVals[j]? = some v → suitsC (clsAt g.fNodes) c v = true := by
  unfold nodeB
  rw [(formAt_gi h).1]
  show ((len x.fVals == len (formAt A x.fClass).fCols) && ((formAt A x.fClass).fCols.zip x.fVals).all fun p => suitsB g p.1 p.2) = true ↔ _
  rw [Bool.and_eq_true]
  refine and_congr ?_ ?_
  · rw [beq_iff_eq]; unfold len; omega
  · rw [List.all_eq_true]
    constructor
    · intro h j c v hc hv
      have : ((formAt A x.fClass).fCols.zip x.fVals)[j]? = some (c, v) := by rw [List.getElem?_zip_eq_some]; exact ⟨hc, hv⟩
      exact h _ (List.mem_of_getElem? this)
    · intro h p hp
      obtain ⟨j, hj⟩ := List.getElem?_of_mem hp
      rw [List.getElem?_zip_eq_some] at hj
      exact h j p.1 p.2 hj.1 hj.2
theorem f59_good {L : List Form} {g : Graph} {n : Nat} (hz : FormSz n L) (hg : GraphSz n g) (hn : n < 4611686018427387904) : f59 n L g = some 0 ↔ GoodG L g := by
  have hL := hz.1
  unfold f59
  rw [f74_eq hg hn]
  simp only [Option.bind_some]
  cases hf : (formedR g != 0) with
  | true =>
    refine ⟨fun h => ?_, fun h => ?_⟩
    · have : formedR g = 0 := Option.some.inj h
      rw [this] at hf; cases hf
    · rw [(formedR_iff g).2 h.fr] at hf; cases hf
  | false =>
    have hf0 : formedR g = 0 := by simpa using hf
    simp only [cond_false]
    rw [f97_eq hg.1 hL hn]
    simp only [Option.bind_some]
    cases hc : (g.fNodes.any fun x => decide (formIx L x.fClass < 0)) with
    | true =>
      refine ⟨fun h => (by cases h), fun h => ?_⟩
      obtain ⟨x, hx, h2⟩ := List.any_eq_true.1 hc
      exact absurd (of_decide_eq_true h2) (h.cl x hx)
    | false =>
      have hc' : ∀ x ∈ g.fNodes, decide (formIx L x.fClass < 0) = false := fun x hx => by
        have := List.any_eq_false.1 hc x hx
        simpa using this
      simp only [cond_false]
      rw [f71_eq hz hg hn (formed_vals hf) hc']
      simp only [Option.bind_some, f50_eq]
      cases ha : g.fNodes.all (nodeB L g) with
      | false =>
        refine ⟨fun h => (by cases h), fun h => ?_⟩
        have : g.fNodes.all (nodeB L g) = true := List.all_eq_true.2 fun x hx => (nodeB_iff (h.cl x hx)).2 ⟨h.ln x hx, h.su x hx⟩
        rw [this] at ha; cases ha
      | true =>
        refine ⟨fun _ => ⟨(formedR_iff g).1 hf0, fun x hx => of_decide_eq_false (hc' x hx), fun x hx => ?_, fun x hx => ?_⟩, fun _ => rfl⟩
        · exact ((nodeB_iff (of_decide_eq_false (hc' x hx))).1 (List.all_eq_true.1 ha x hx)).1
        · exact ((nodeB_iff (of_decide_eq_false (hc' x hx))).1 (List.all_eq_true.1 ha x hx)).2
theorem nodeMk_inl {A B : List Form} {L : List Rule} {g : Graph} {k : Nat} {y : Node} (h : nodeMk A B L g k = .inl y) : ∃ x v, g.fNodes[k]? = some x ∧ rowMk A B L x = .inl v ∧ y = ⟨(ruleAt L x.fClass).fTo, v⟩ := by
  unfold nodeMk at h
  cases hx : g.fNodes[k]? with
  | none => rw [hx] at h; cases h
  | some x =>
    rw [hx] at h
    have h : (rowMk A B L x).elim (fun v => (.inl ⟨(ruleAt L x.fClass).fTo, v⟩ : Node ⊕ Refusal)) (fun s => .inr ⟨k, s⟩) = .inl y := h
    cases hv : rowMk A B L x with
    | inr s => rw [hv] at h; cases h
    | inl v => rw [hv] at h; cases h; exact ⟨x, v, rfl, hv, rfl⟩
theorem valMk_inl {A B : List Form} {L : List Rule} {x : Node} {k : Nat} {w : Val} (h : valMk A B L x k = .inl w) : ∃ c g, (formAt B (ruleAt L x.fClass).fTo).fCols[k]? = some c ∧ (ruleAt L x.fClass).fGives[k]? = some g ∧
    (madeB g (formAt A x.fClass).fCols x.fVals c).2 = true ∧ w = (madeB g (formAt A x.fClass).fCols x.fVals c).1 := by
  unfold valMk at h
  cases hc : (formAt B (ruleAt L x.fClass).fTo).fCols[k]? with
  | none => rw [hc] at h; cases h
  | some c =>
    cases hg : (ruleAt L x.fClass).fGives[k]? with
    | none => rw [hc, hg] at h; cases h
    | some g =>
      rw [hc, hg] at h
      have h : (bif (madeB g (formAt A x.fClass).fCols x.fVals c).2 then (.inl (madeB g (formAt A x.fClass).fCols x.fVals c).1 : Val ⊕ ByteArray) else .inr c.fName) = .inl w := h
      cases h2 : (madeB g (formAt A x.fClass).fCols x.fVals c).2 with
      | false => rw [h2] at h; cases h
      | true => rw [h2] at h; cases h; exact ⟨c, g, rfl, rfl, h2, rfl⟩
theorem valB_ref {i : Int} {l : List Node} (hl : l.length ≤ 400) (h : valB ⟨4, i⟩ (len l) = true) : ∃ k : Nat, i = k ∧ k < l.length := by
  have h : inR i 0 (wr .i64 (len l - 1)) = true := h
  unfold inR len at h
  rw [wr_id (by omega) (by omega)] at h
  simp only [Bool.and_eq_true, decide_eq_true_eq] at h
  exact ⟨i.toNat, by omega, by omega⟩
theorem keepG {A B : List Form} {L : List Rule} {g : Graph} {ns : List Node} (hA : FormsOk A) (hB : FormsOk B) (hr : rulesE A B L = 0) (hg : GoodG A g) (hf : fin (nodeMk A B L g) g.fNodes.length 0 [] = .inl ns) : GoodG B ⟨ns, g.fRoots⟩ := by
  obtain ⟨t, e, hlen, hmk⟩ := fin_get _ _ _ _ hf
  have e : ns = t := by simpa using e
  subst e
  have hna := noAny_of hA (rulesE_zero hr).1
  have hll : len ns = len g.fNodes := by unfold len; omega
  have hcls : ∀ i, valB ⟨4, i⟩ (len g.fNodes) = true → clsAt ns i = (ruleAt L (clsAt g.fNodes i)).fTo := fun i hi => by
    obtain ⟨k, rfl, hk⟩ := valB_ref hg.fr.1.1 hi
    have hk2 : k < ns.length := by omega
    have hm := hmk k _ (List.getElem?_eq_getElem hk2)
    rw [Nat.zero_add] at hm
    obtain ⟨x, v, h1, h2, h3⟩ := nodeMk_inl hm
    unfold clsAt
    rw [gi_nat, gi_nat, h1, List.getElem?_eq_getElem hk2, h3]
    rfl
  have one : ∀ y ∈ ns, ∃ x v, x ∈ g.fNodes ∧ rowMk A B L x = .inl v ∧ y = ⟨(ruleAt L x.fClass).fTo, v⟩ := fun y hy => by
    obtain ⟨k, hk⟩ := List.getElem?_of_mem hy
    have hm := hmk k _ hk
    rw [Nat.zero_add] at hm
    obtain ⟨x, v, h1, h2, h3⟩ := nodeMk_inl hm
    exact ⟨x, v, List.mem_of_getElem? h1, h2, h3⟩
  have row : ∀ x v, x ∈ g.fNodes → rowMk A B L x = .inl v → v.length = (formAt B (ruleAt L x.fClass).fTo).fCols.length ∧ ∀ (j : Nat) c w, (formAt B (ruleAt L x.fClass).fTo).fCols[j]? = some c → v[j]? = some w → valB w (len g.fNodes) = true ∧ suitsC (clsAt ns) c w = true := fun x v hx hv => by
    obtain ⟨u, e, hl, hm⟩ := fin_get _ _ _ _ hv
    have e : v = u := by simpa using e
    subst e
    refine ⟨hl, fun j c w hc hw => ?_⟩
    have hm := hm j w hw
    rw [Nat.zero_add] at hm
    obtain ⟨c', gv, h1, h2, h3, h4⟩ := valMk_inl hm
    rw [h1] at hc
    cases hc
    have ro := ruleOk_of hr (hg.cl x hx)
    obtain ⟨j1, j1'⟩ := List.getElem?_eq_some_iff.1 h2
    obtain ⟨j2, j2'⟩ := List.getElem?_eq_some_iff.1 h1
    have hgv := ro.gv j j1 j2
    rw [j1', j2'] at hgv
    rw [h4]
    refine valKeep hna hcls hgv (hg.ln x hx) (fun a ha => (hA.col (formAt_gi (hg.cl x hx)).2.1 ha).2.1) (fun i a v ha hv => ⟨hg.fr.2.2.1 x hx v (List.mem_of_getElem? hv), hg.su x hx i a v ha hv⟩) h3
  refine ⟨⟨⟨by show ns.length ≤ 400; have := hg.fr.1.1; omega, hg.fr.1.2⟩, fun y hy => ?_, fun y hy w hw => ?_, fun v hv => ?_⟩, fun y hy => ?_, fun y hy => ?_, fun y hy j c w hc hw => ?_⟩
  · obtain ⟨x, v, h1, h2, rfl⟩ := one y hy
    show v.length ≤ 30
    rw [(row x v h1 h2).1]
    exact hB.cl _ (formAt_gi (ruleOk_of hr (hg.cl x h1)).to).2.1
  · obtain ⟨x, v, h1, h2, rfl⟩ := one y hy
    obtain ⟨j, hj⟩ := List.getElem?_of_mem hw
    have hj' := (List.getElem?_eq_some_iff.1 hj).1
    have hr2 := row x v h1 h2
    show valB w (len ns) = true
    rw [hll]
    exact (hr2.2 j _ w (List.getElem?_eq_getElem (by have : v.length = _ := hr2.1; have hj' : j < v.length := hj'; omega)) hj).1
  · show valB v (len ns) = true ∧ _
    rw [hll]
    exact hg.fr.2.2.2 v hv
  · obtain ⟨x, v, h1, h2, rfl⟩ := one y hy
    exact (ruleOk_of hr (hg.cl x h1)).to
  · obtain ⟨x, v, h1, h2, rfl⟩ := one y hy
    exact (row x v h1 h2).1
  · obtain ⟨x, v, h1, h2, rfl⟩ := one y hy
    exact ((row x v h1 h2).2 j c w hc hw).2
end Go.Proofs
end
section
set_option linter.unusedVariables false
set_option linter.unusedSimpArgs false
namespace Go.Proofs
open Go.Vm
theorem inR_iff (x lo hi : Int) : inR x lo hi = true ↔ lo ≤ x ∧ x ≤ hi := by unfold inR; simp
section
variable {L M N : List Rule}
theorem joinFit {h g : Give} {a b c : Col} (hh : inR h.fHow 1 7 = true) (hg : inR g.fHow 1 5 = true) (h1 : numdB h b = true) (h2 : numdB g c = true) (f1 : fitsB L h a b = true) (f2 : fitsB M g b c = true)
    (hl : leadsB L a.fClass b.fClass = true → leadsB M b.fClass c.fClass = true → leadsB N a.fClass c.fClass = true) (hok : (joinB h g).2 = true) :
    inR (joinB h g).1.fHow 1 7 = true ∧ inR (joinB h g).1.fHow 1 5 = inR h.fHow 1 5 ∧ (joinB h g).1.fFrom = h.fFrom ∧ numdB (joinB h g).1 c = true ∧ fitsB N (joinB h g).1 a c = true := by
  obtain ⟨hf, hw, hn⟩ := h
  obtain ⟨gf, gw, gn⟩ := g
  have c1 : hw = 1 ∨ hw = 2 ∨ hw = 3 ∨ hw = 4 ∨ hw = 5 ∨ hw = 6 ∨ hw = 7 := inR17 hh
  have c2 : gw = 1 ∨ gw = 2 ∨ gw = 3 ∨ gw = 4 ∨ gw = 5 := by
    have : inR gw 1 5 = true := hg
    rw [inR_iff] at this
    omega
  obtain ⟨an, ak, ac⟩ := a
  obtain ⟨bn, bk, bc⟩ := b
  obtain ⟨cn, ck, cc⟩ := c
  unfold fitsB at f1 f2 ⊢
  generalize leadsB L ac bc = l1 at *
  generalize leadsB M bc cc = l2 at *
  generalize leadsB N ac cc = l3 at *
  rcases c1 with rfl | rfl | rfl | rfl | rfl | rfl | rfl <;> rcases c2 with rfl | rfl | rfl | rfl | rfl <;>
    (simp [joinB, numdB, cond_eq_ite, inR, mnI] at * <;> grind)
def mk0 (g : Give) (x : Val) (c : Col) : Val × Bool :=
  bif g.fHow == 6 then (bif c.fKind == 2 then (⟨2, g.fN⟩, true) else (⟨1, g.fN⟩, true)) else bif g.fHow == 7 then (⟨3, 0⟩, true) else
  bif g.fHow == 2 then (⟨1, x.fN⟩, true) else bif g.fHow == 3 then (⟨2, x.fN⟩, inR x.fN 0 1) else bif g.fHow == 4 then (x, decide (x.fN < g.fN)) else
  bif g.fHow == 5 then (x, x.fKind == 4) else (x, true)
theorem madeB_mk0 (g : Give) (cols : List Col) (vals : List Val) (c : Col) : madeB g cols vals c = mk0 g ((gi vals (colIx cols g.fFrom)).getD noV) c := rfl
theorem joinMade {h g : Give} {a b c : Col} {v : Val} (hh : inR h.fHow 1 7 = true) (hg : inR g.fHow 1 5 = true) (h1 : numdB h b = true) (h2 : numdB g c = true) (f1 : fitsB L h a b = true) (f2 : fitsB M g b c = true)
    (hv : inR h.fHow 1 5 = true → (a.fKind = 1 → v.fKind = 1) ∧ (a.fKind = 2 → v.fKind = 2 ∧ 0 ≤ v.fN ∧ v.fN ≤ 1)) (hok : (joinB h g).2 = true) :
    ((mk0 h v b).2 = true → mk0 g (mk0 h v b).1 c = mk0 (joinB h g).1 v c) ∧ ((mk0 h v b).2 = false → (mk0 (joinB h g).1 v c).2 = false) := by
  obtain ⟨hf, hw, hn⟩ := h
  obtain ⟨gf, gw, gn⟩ := g
  have c1 : hw = 1 ∨ hw = 2 ∨ hw = 3 ∨ hw = 4 ∨ hw = 5 ∨ hw = 6 ∨ hw = 7 := inR17 hh
  have c2 : gw = 1 ∨ gw = 2 ∨ gw = 3 ∨ gw = 4 ∨ gw = 5 := by
    have : inR gw 1 5 = true := hg
    rw [inR_iff] at this
    omega
  obtain ⟨an, ak, ac⟩ := a
  obtain ⟨bn, bk, bc⟩ := b
  obtain ⟨cn, ck, cc⟩ := c
  obtain ⟨vk, vn⟩ := v
  unfold fitsB at f1 f2
  generalize leadsB L ac bc = l1 at *
  generalize leadsB M bc cc = l2 at *
  rcases c1 with rfl | rfl | rfl | rfl | rfl | rfl | rfl <;> rcases c2 with rfl | rfl | rfl | rfl | rfl <;>
    (simp [joinB, numdB, cond_eq_ite, inR, mnI, mk0] at * <;> grind)
end
end Go.Proofs
end
section
set_option linter.unusedVariables false
namespace Go.Proofs
open Go.Vm
structure TwoOk (n : Nat) (r q : Rule) (f : Form) : Prop where
  rl : r.fGives.length = f.fCols.length
  cn : f.fCols.length < n
  qn : q.fGives.length < n
  rw_ : ∀ h ∈ r.fGives, inR h.fHow 1 7 = true
  qw : ∀ g ∈ q.fGives, inR g.fHow 1 7 = true ∧ (inR g.fHow 1 5 = true → ¬ colIx f.fCols g.fFrom < 0) ∧ (inR g.fHow 1 5 = false → sEqF g.fFrom noS = true)
  cs : ∀ c ∈ f.fCols, sEqF c.fName noS = false
def giveJ (r q : Rule) (f : Form) (k : Nat) : Give ⊕ Unit := match q.fGives[k]? with
  | some g => bif inR g.fHow 1 5 then (match gi r.fGives (colIx f.fCols g.fFrom) with
    | some h => bif (joinB h g).2 then .inl (joinB h g).1 else .inr ()
    | none => .inr ()) else .inl g
  | none => .inr ()
def givesJ (r q : Rule) (f : Form) : List Give ⊕ Unit := fin (giveJ r q f) q.fGives.length 0 []
def askP (r q : Rule) (f : Form) (k : Nat) : Bool := match r.fGives[k]?, f.fCols[k]? with
  | some h, some c => asksB h && !usesB q.fGives c.fName
  | _, _ => false
def askBad (r q : Rule) (f : Form) : Bool := anyN (askP r q f) r.fGives.length 0
section
variable {n : Nat} {r q : Rule} {f : Form}
theorem TwoOk.src (h : TwoOk n r q f) {g : Give} (hg : g ∈ q.fGives) (h5 : inR g.fHow 1 5 = true) : ∃ x, gi r.fGives (colIx f.fCols g.fFrom) = some x ∧ inR x.fHow 1 7 = true := by
  have hi := (h.qw g hg).2.1 h5
  unfold colIx at hi ⊢
  rcases ix_find (fun x : Col => sEqF x.fName g.fFrom) f.fCols 0 with ⟨h1, h2, h3⟩ | ⟨j, y, h1, h2, h3, h4, h5⟩
  · rw [h3] at hi; omega
  · rw [h3, Nat.zero_add, gi_nat]
    have hj := (List.getElem?_eq_some_iff.1 h4).1
    have hj2 : j < r.fGives.length := by rw [h.rl]; exact hj
    exact ⟨_, List.getElem?_eq_getElem hj2, h.rw_ _ (List.getElem_mem hj2)⟩
theorem uses_eq (h : TwoOk n r q f) {c : Col} (hc : c ∈ f.fCols) : ((mget c.fName (askM q.fGives)).getD false) = usesB q.fGives c.fName := by
  rw [askM_get]
  unfold usesB
  have key : ∀ g ∈ q.fGives, sEqF c.fName g.fFrom = (inR g.fHow 1 5 && sEqF g.fFrom c.fName) := fun g hg => by
    rw [sEqF_comm]
    cases h5 : inR g.fHow 1 5 with
    | true => rfl
    | false =>
      have := (h.qw g hg).2.2 h5
      rw [sEqF_eq this, sEqF_comm, h.cs c hc]
      rfl
  clear h
  generalize q.fGives = l at *
  induction l with
  | nil => rfl
  | cons g l ih => rw [List.any_cons, List.any_cons, key g List.mem_cons_self, ih fun g hg => key g (List.mem_cons_of_mem _ hg)]
def noR : Rule := ⟨noS, noS, []⟩
theorem inR15_67 {x : Int} (h : inR x 1 7 = true) : inR x 1 5 = !((x == 6) || (x == 7)) := by
  rcases inR17 h with rfl | rfl | rfl | rfl | rfl | rfl | rfl <;> rfl
theorem f87_eq (h : TwoOk n r q f) (hn : n < 1000000000) : ∃ x, f87 n r q f.fCols = some x ∧
    (x.2 = true → ∃ l, givesJ r q f = .inl l ∧ askBad r q f = false ∧ x.1 = ⟨r.fClass, q.fTo, l⟩) ∧ (x.2 = false → givesJ r q f = .inr () ∨ askBad r q f = true) := by
  have hcn := h.cn
  have hqn := h.qn
  have hrl := h.rl
  have lA : ∀ l, f87_l87 r f.fCols (askM q.fGives) (f87_k83 r q l) n 0 = bif askBad r q f then some (noR, false) else some (⟨r.fClass, q.fTo, l⟩, true) := fun l => by
    refine scanX r.fGives.length (f87_k83 r q l) (askP r q f) (some (noR, false)) (f87_l87 r f.fCols (askM q.fGives) (f87_k83 r q l)) (fun m k hk => ?_) (fun m => by rw [f87_l87.eq_2, ge_len]; rfl) (by omega) (by omega)
    have hk2 : k < f.fCols.length := by omega
    rw [f87_l87.eq_2, lt_len _ k hk, gi_nat, gi_nat]
    unfold askP f87_k121 asksB
    simp only [List.getElem?_eq_getElem hk, List.getElem?_eq_getElem hk2, Option.bind_some, cond_true]
    rw [uses_eq h (List.getElem_mem hk2)]
    cases r.fGives[k].fHow == 3 <;> cases r.fGives[k].fHow == 4 <;> cases r.fGives[k].fHow == 5 <;> cases usesB q.fGives f.fCols[k].fName <;> rfl
  have lB := scanE q.fGives.length (giveJ r q f) (fun l => f87_k7 n r f.fCols q l (askM q.fGives)) (fun _ => some (noR, false))
    (fun m i s => f87_l11 q n f.fCols r (f87_k7 n r f.fCols q) m i s (askM (q.fGives.take i.toNat))) (fun m k s hk hs => by
      have hw : wr .i64 ((k : Int) + 1) = ((k + 1 : Nat) : Int) := by rw [wr_id (by omega) (by omega)]; rfl
      show f87_l11 q n f.fCols r (f87_k7 n r f.fCols q) (m + 1) k s (askM (q.fGives.take k)) = _
      rw [f87_l11.eq_2, lt_len _ k hk, gi_nat]
      unfold giveJ f87_k59
      simp only [List.getElem?_eq_getElem hk, Option.bind_some, cond_true]
      rw [hw]
      have hT : ((k + 1 : Nat) : Int).toNat = k + 1 := rfl
      simp only [hT]
      rw [askM_succ _ k hk]
      have hm := List.getElem_mem hk
      generalize q.fGives[k] = g at *
      obtain ⟨q1, q2, q3⟩ := h.qw g hm
      have e := inR15_67 q1
      cases h6 : g.fHow == 6 with
      | true =>
        rw [h6] at e
        rw [e]
        simp only [cond_true, Bool.true_or, Bool.not_true, cond_false]
        rw [app2_eq (by simp; omega)]
        simp only [Option.bind_some, f87_k51]
        rw [hw]
        rfl
      | false =>
      cases h7 : g.fHow == 7 with
      | true =>
        rw [h6, h7] at e
        rw [e]
        simp only [cond_true, Bool.false_or, Bool.not_true, cond_false]
        rw [app2_eq (by simp; omega)]
        simp only [Option.bind_some, f87_k51]
        rw [hw]
        rfl
      | false =>
        rw [h6, h7] at e
        have e : inR g.fHow 1 5 = true := e
        obtain ⟨x, hx, hxw⟩ := h.src hm e
        obtain ⟨y, hy, hy2⟩ := f121_eq n x g hxw e
        rw [e, f95_eq (by omega) (by omega)]
        simp only [cond_true, cond_false, Option.bind_some]
        rw [hx]
        simp only [Option.bind_some]
        rw [hy]
        simp only [Option.bind_some]
        cases hj : (joinB x g).2 with
        | false => rfl
        | true =>
          simp only [Bool.not_true, cond_false, cond_true]
          rw [hy2 hj, app2_eq (by simp; omega)]
          simp only [Option.bind_some, f87_k51]
          rw [hw]
          rfl)
    (fun m s hs => by
      show f87_l11 q n f.fCols r (f87_k7 n r f.fCols q) (m + 1) q.fGives.length s (askM (q.fGives.take q.fGives.length)) = _
      rw [f87_l11.eq_2, ge_len, List.take_length]; rfl) (by omega) (n := n) hqn
  have lB : f87 n r q f.fCols = (givesJ r q f).elim (fun l => f87_k7 n r f.fCols q l (askM q.fGives)) (fun _ => some (noR, false)) := lB
  rw [lB]
  cases hJ : givesJ r q f with
  | inr u => exact ⟨(noR, false), rfl, fun h => (by cases h), fun _ => .inl rfl⟩
  | inl l =>
    show ∃ x, f87_k7 n r f.fCols q l (askM q.fGives) = some x ∧ _
    unfold f87_k7
    rw [lA l]
    cases hb : askBad r q f with
    | true => exact ⟨(noR, false), rfl, fun h => (by cases h), fun _ => .inr rfl⟩
    | false => exact ⟨_, rfl, fun _ => ⟨l, rfl, rfl, rfl⟩, fun h => by cases h⟩
end
end Go.Proofs
end
section
set_option linter.unusedVariables false
set_option linter.unusedSimpArgs false
namespace Go.Vm
structure Bulk {H : Type} (β : DataW H → Nat) : Prop where
  str : ∀ l, l.length ≤ β (.lit (.string l))
  sl : ∀ es sp, es.length ≤ β (.slice es sp)
  slm : ∀ es sp d, d ∈ es → β d ≤ β (.slice es sp)
  agm : ∀ ps d, d ∈ ps → β d ≤ β (.agg ps)
section
variable {H : Type} {enc : TypeId × Value → H} {P : Program} {w : World} {β : DataW H → Nat} {B : Nat}
def contF (P : Program) : Nat → List Field → Bool
  | _, [] => true
  | off, f :: fs => f.offset == off && contF P (off + P.cellsOf f.type) fs
def layB (P : Program) : Nat → TypeId → Bool
  | 0, _ => false
  | n + 1, t => match P.underlying t with
    | some .bool | some (.int _) | some .string => P.cellsOf t == 1
    | some (.slice e) => P.cellsOf t == 1 && layB P n e
    | some (.struct fs) => contF P 0 fs.toList && (fs.toList.map fun f => P.cellsOf f.type).sum == P.cellsOf t && fs.toList.all fun f => layB P n f.type
    | _ => false
def fitsD (P : Program) (B : Nat) : Nat → TypeId → List AV → Prop
  | 0, _, _ => False
  | n + 1, t, az => match P.underlying t with
    | some .bool => ∃ b, az = [.val (.bool b)]
    | some (.int k) => ∃ m, az = [.val (.int k m)] ∧ (Lit.int k m).wf = true
    | some .string => ∃ s : ByteArray, az = [.val (.string s)] ∧ s.size ≤ B
    | some (.slice e) => ∃ xs, az = [.sl xs] ∧ xs.length ≤ B ∧ ∀ cs ∈ xs, fitsD P B n e cs
    | some (.struct fs) => ∃ parts : List (List AV), az = parts.flatten ∧ parts.length = fs.toList.length ∧ ∀ (i : Nat) f p, fs.toList[i]? = some f → parts[i]? = some p → fitsD P B n f.type p
    | _ => False
def Cells (w : World) (az : List AV) (cs : List Value) : Prop := az.length = cs.length ∧ ∀ (i : Nat) a u, az[i]? = some a → cs[i]? = some u → RepP w (fun _ b => b < w.heap.size) a u
theorem Cells.one {a : AV} {u : Value} (h : RepP w (fun _ b => b < w.heap.size) a u) : Cells w [a] [u] := ⟨rfl, fun i b v hb hv => by
  cases i with
  | zero => simp at hb hv; subst hb hv; exact h
  | succ i => simp at hb⟩
theorem Cells.append {az bs : List AV} {cs ds : List Value} (h : Cells w az cs) (k : Cells w bs ds) : Cells w (az ++ bs) (cs ++ ds) := ⟨by simp [h.1, k.1], fun i a u ha hu => by
  rw [List.getElem?_append] at ha hu
  rw [← h.1] at hu
  split at ha
  · rename_i hlt; rw [if_pos hlt] at hu; exact h.2 i a u ha hu
  · rename_i hlt; rw [if_neg hlt] at hu; exact k.2 _ a u ha hu⟩
theorem mapM_cons_some {α β : Type} {f : α → Option β} {x : α} {l : List α} {r : List β} (h : (x :: l).mapM f = some r) : ∃ b r', f x = some b ∧ l.mapM f = some r' ∧ r = b :: r' := by
  simp only [List.mapM_cons, Option.bind_eq_bind, Option.bind_eq_some_iff, Option.pure_def, Option.some.injEq] at h
  obtain ⟨b, h1, r', h2, h3⟩ := h
  exact ⟨b, r', h1, h2, h3.symm⟩
theorem fields_cells {n : Nat} {spare : Nat → Bool} {held : Bool} {fuel : Nat} {base : Nat}
    (ih : ∀ (t : TypeId) (cs : List Value) (d : DataW H) (ps : List MemPlace), layB P n t = true → DataW.trod enc P w base spare held fuel t cs = some (d, ps) → β d ≤ B → ∃ az, Cells w az cs ∧ fitsD P B n t az) :
    ∀ (fs : List Field) (off : Nat) (cs : List Value) (xs : List (DataW H × List MemPlace)), contF P off fs = true → (fs.all fun f => layB P n f.type) = true → off + (fs.map fun f => P.cellsOf f.type).sum = cs.length →
      (fs.mapM fun f => DataW.trod enc P w base spare held fuel f.type ((cs.drop f.offset).take (P.cellsOf f.type))) = some xs → (∀ x ∈ xs, β x.1 ≤ B) →
      ∃ parts : List (List AV), Cells w parts.flatten (cs.drop off) ∧ parts.length = fs.length ∧ ∀ (i : Nat) f p, fs[i]? = some f → parts[i]? = some p → fitsD P B n f.type p
  | [], off, cs, xs, _, _, hl, h, _ => by
    simp at hl
    subst hl
    exact ⟨[], ⟨by simp, fun i a u ha => by simp at ha⟩, rfl, fun i f p hf => by simp at hf⟩
  | f :: fs, off, cs, xs, hc, hy, hl, h, hx => by
    obtain ⟨b, r', h1, h2, rfl⟩ := mapM_cons_some h
    simp only [contF, Bool.and_eq_true, beq_iff_eq] at hc
    simp only [List.all_cons, Bool.and_eq_true] at hy
    simp only [List.map_cons, List.sum_cons] at hl
    obtain ⟨az, ha, hfa⟩ := ih f.type _ b.1 b.2 hy.1 h1 (hx b (by simp))
    obtain ⟨parts, hp, hpl, hpf⟩ := fields_cells ih fs (off + P.cellsOf f.type) cs r' hc.2 hy.2 (by omega) h2 (fun x h => hx x (by simp [h]))
    refine ⟨az :: parts, ?_, by simp [hpl], fun i g p hg hp' => ?_⟩
    · rw [hc.1] at ha
      have e : cs.drop off = (cs.drop off).take (P.cellsOf f.type) ++ cs.drop (off + P.cellsOf f.type) := by
        rw [← List.drop_drop, List.take_append_drop]
      rw [e, List.flatten_cons]
      exact ha.append hp
    · cases i with
      | zero => simp at hg hp'; subst hg hp'; exact hfa
      | succ i => simp at hg hp'; exact hpf i g p hg hp'
theorem cell_in {a : Addr} {u : Value} (h : w.cell? a = some u) : a.block < w.heap.size := by
  unfold World.cell? at h
  split at h
  · rename_i hb; exact (Array.getElem?_eq_some_iff.1 hb).1
  · cases h
theorem rows_cells {n : Nat} {e : TypeId} {base : Nat} {a : Addr} {f : List Value → Option (DataW H × List MemPlace)}
    (ih : ∀ (cs : List Value) (d : DataW H) (ps : List MemPlace), f cs = some (d, ps) → β d ≤ B → ∃ az, Cells w az cs ∧ fitsD P B n e az) :
    ∀ (len : Nat) (elems : List (DataW H × List MemPlace)), ((List.range len).mapM fun i => (w.cells? base (a.add (i * P.cellsOf e)) (P.cellsOf e)).bind f) = some elems → (∀ x ∈ elems, β x.1 ≤ B) →
      ∃ xs : List (List AV), xs.length = len ∧ ∀ (j : Nat) cs, xs[j]? = some cs → cs.length = P.cellsOf e ∧ fitsD P B n e cs ∧ ∀ (i : Nat) b, cs[i]? = some b → ∃ u, w.cell? (a.add (j * P.cellsOf e + i)) = some u ∧ RepP w (fun _ b => b < w.heap.size) b u := by
  intro len elems hel hB
  obtain ⟨m1, m2⟩ := mapM_some hel
  have row : ∀ j, j < len → ∃ cs : List AV, cs.length = P.cellsOf e ∧ fitsD P B n e cs ∧ ∀ (i : Nat) b, cs[i]? = some b → ∃ u, w.cell? (a.add (j * P.cellsOf e + i)) = some u ∧ RepP w (fun _ b => b < w.heap.size) b u := fun j hj => by
    obtain ⟨r, hrj, hr⟩ := m2 j j (List.getElem?_range hj)
    have hrB := hB r (List.mem_of_getElem? hrj)
    simp only [Option.bind_eq_some_iff] at hr
    obtain ⟨ecs, h1, h2⟩ := hr
    obtain ⟨az, hc, hf⟩ := ih ecs r.1 r.2 h2 hrB
    unfold World.cells? at h1
    split at h1
    · obtain ⟨k1, k2⟩ := mapM_some h1
      simp only [List.length_range] at k1
      refine ⟨az, by rw [hc.1, k1], hf, fun i b hb => ?_⟩
      have hi : i < P.cellsOf e := by rw [← k1, ← hc.1]; exact (List.getElem?_eq_some_iff.1 hb).1
      obtain ⟨u, hu1, hu2⟩ := k2 i i (List.getElem?_range hi)
      rw [add_add] at hu2
      exact ⟨u, hu2, hc.2 i b u hb hu1⟩
    · cases h1
  refine ⟨(List.range len).map (fun j => if h : j < len then Classical.choose (row j h) else []), by simp, fun j cs hj => ?_⟩
  rw [List.getElem?_map] at hj
  have hlt : j < len := by
    by_cases h : j < len
    · exact h
    · rw [List.getElem?_eq_none (by simpa using Nat.le_of_not_lt h)] at hj; cases hj
  rw [List.getElem?_range hlt] at hj
  simp only [Option.map_some, Option.some.injEq, dif_pos hlt] at hj
  subst hj
  exact Classical.choose_spec (row j hlt)
theorem trod_cells (hβ : Bulk β) {spare : Nat → Bool} {held : Bool} {base : Nat} : ∀ (n fuel : Nat) (t : TypeId) (cs : List Value) (d : DataW H) (ps : List MemPlace), layB P n t = true → DataW.trod enc P w base spare held fuel t cs = some (d, ps) → β d ≤ B → ∃ az, Cells w az cs ∧ fitsD P B n t az
  | 0, fuel, t, cs, d, ps, hl, h, _ => by simp [layB] at hl
  | n + 1, 0, t, cs, d, ps, hl, h, _ => by simp [DataW.trod] at h
  | n + 1, fuel + 1, t, cs, d, ps, hl, h, hd => by
    unfold layB at hl
    unfold DataW.trod at h
    unfold fitsD
    split at hl
    · rename_i hu
      simp only [hu] at h ⊢
      rcases cs with _ | ⟨v, _ | ⟨v2, r⟩⟩
      · simp at h
      · cases v <;> simp at h
        exact ⟨_, Cells.one (.val _), _, rfl⟩
      · simp at h
    · rename_i k hu
      simp only [hu] at h ⊢
      rcases cs with _ | ⟨v, _ | ⟨v2, r⟩⟩
      · simp at h
      · cases v <;> simp at h
        obtain ⟨⟨rfl, h1⟩, _⟩ := h
        exact ⟨_, Cells.one (.val _), _, rfl, h1⟩
      · simp at h
    · rename_i hu
      simp only [hu] at h ⊢
      rcases cs with _ | ⟨v, _ | ⟨v2, r⟩⟩
      · simp at h
      · cases v <;> simp at h
        obtain ⟨h0, rfl, _⟩ := h
        refine ⟨_, Cells.one (.val _), _, rfl, ?_⟩
        have := hβ.str (ByteArray.data ‹ByteArray›).toList
        simp only [Array.length_toList] at this
        exact Nat.le_trans this hd
      · simp at h
    · rename_i e hu
      simp only [Bool.and_eq_true, beq_iff_eq] at hl
      simp only [hu] at h ⊢
      rcases cs with _ | ⟨v, _ | ⟨v2, r⟩⟩
      · simp at h
      · cases v <;> try (simp at h; done)
        rename_i A len cap
        cases A with
        | none =>
          refine ⟨[.sl []], Cells.one ?_, [], rfl, Nat.zero_le _, fun cs hcs => by cases hcs⟩
          have : len = 0 ∧ cap = 0 := by
            cases len <;> cases cap <;> simp at h ⊢
          obtain ⟨rfl, rfl⟩ := this
          exact .sl [] none 0 0 (fun _ _ => undef) (Nat.le_refl _) (Nat.zero_le _) (fun _ => rfl) (fun j cs hj => by simp at hj) (fun j cs i a hj => by simp at hj) (fun j cs i a hj => by simp at hj)
        | some a =>
          simp only at h
          split at h
          · rename_i hcond
            simp only [Option.bind_eq_some_iff, Option.map_eq_some_iff] at h
            obtain ⟨elems, hel, rest, _, hdd⟩ := h
            simp only [Prod.mk.injEq] at hdd
            obtain ⟨rfl, _⟩ := hdd
            have hlen := Nat.le_trans (hβ.sl _ _) hd
            have hme : ∀ x ∈ elems, β x.1 ≤ B := fun x hx => Nat.le_trans (hβ.slm _ _ x.1 (List.mem_map_of_mem hx)) hd
            have hell := (mapM_some hel).1
            simp only [List.length_range] at hell
            simp only [List.length_map, hell] at hlen
            obtain ⟨xs, hxl, hx⟩ := rows_cells (w := w) (a := a) (fun cs d ps hd hb => trod_cells hβ n fuel e cs d ps hl.2 hd hb) len elems hel hme
            refine ⟨[.sl xs], Cells.one ?_, xs, rfl, by omega, fun cs hcs => ?_⟩
            · rw [← hxl]
              refine .sl xs (some a) cap (P.cellsOf e) (fun j i => (w.cell? (a.add (j * P.cellsOf e + i))).getD undef) (by omega) hcond.2.2 (fun e => by cases e) (fun j cs hj => (hx j cs hj).1) (fun j cs i b hj hi => ?_) (fun j cs i b hj hi => ?_)
              · obtain ⟨u, hu1, hu2⟩ := (hx j cs hj).2.2 i b hi
                exact ⟨a, rfl, by have := cell_in hu1; rwa [add_block] at this, by rw [hu1]; rfl⟩
              · obtain ⟨u, hu1, hu2⟩ := (hx j cs hj).2.2 i b hi
                rw [hu1]; exact hu2
            · obtain ⟨j, hj, rfl⟩ := List.getElem_of_mem hcs
              exact (hx j _ (List.getElem?_eq_getElem hj)).2.1
          · cases h
      · simp at h
    · rename_i fs hu
      simp only [Bool.and_eq_true, beq_iff_eq] at hl
      simp only [hu] at h ⊢
      have h' : (if cs.length = P.cellsOf t then (fs.toList.mapM fun f => DataW.trod enc P w base spare held fuel f.type ((cs.drop f.offset).take (P.cellsOf f.type))).map fun xs => (DataW.agg (xs.map (·.1)), xs.flatMap (·.2)) else none) = some (d, ps) := h
      split at h'
      · rename_i hlen
        simp only [Option.map_eq_some_iff] at h'
        obtain ⟨xs, hxs, hdd⟩ := h'
        simp only [Prod.mk.injEq] at hdd
        obtain ⟨rfl, _⟩ := hdd
        have hme : ∀ x ∈ xs, β x.1 ≤ B := fun x hx => Nat.le_trans (hβ.agm _ x.1 (List.mem_map_of_mem hx)) hd
        obtain ⟨parts, k1, k2, k3⟩ := fields_cells (fun t cs d ps hy hd hb => trod_cells hβ n fuel t cs d ps hy hd hb) fs.toList 0 cs xs hl.1.1 hl.2 (by omega) hxs hme
        exact ⟨_, by simpa using k1, parts, rfl, k2, k3⟩
      · cases h'
    · cases hl
end
end Go.Vm
end
section
set_option linter.unusedVariables false
set_option linter.unusedSimpArgs false
namespace Go.Vm
open Go.RowKit Go.ChangeShapes Go
section
variable {H : Type} {enc : TypeId × Value → H} {P : Program} {W W' : World}
theorem trodAll_stays (hl : laidOutB P = true) {sp : Nat → Bool} : ∀ (ts : List TypeId) (vs : List Value) (ds : List (DataW H)) (ps : List MemPlace), (∀ t ∈ ts, P.readableRec t = true ∧ t < P.types.size) →
    DataW.TrodAll enc P W 0 (fun _ => true) true ts vs ds ps → Below W.heap.size W W' → (∀ x ∈ ps, x.block < W.heap.size) → (∀ x ∈ ps, sp x.block = true) → DataW.TrodAll enc P W' 0 sp true ts vs ds ps
  | [], [], [], ps, _, h, _, _, _ => h
  | t :: ts, v :: vs, d :: ds, ps, ht, h, hb, hlt, hsp => by
    obtain ⟨p, q, h1, h2, rfl⟩ := h
    refine ⟨p, q, WideElems.Trod_stays hl (ht t (by simp)).1 (ht t (by simp)).2 h1 (fun x hx => hb.same (hlt x (by simp [hx]))) (fun x hx => hsp x (by simp [hx])),
      trodAll_stays hl ts vs ds q (fun t' ht' => ht t' (by simp [ht'])) h2 hb (fun x hx => hlt x (by simp [hx])) (fun x hx => hsp x (by simp [hx])), rfl⟩
  | [], [], _ :: _, _, _, h, _, _, _ => h.elim
  | [], _ :: _, _, _, _, h, _, _, _ => h.elim
  | _ :: _, [], _, _, _, h, _, _, _ => h.elim
  | _ :: _, _ :: _, [], _, _, h, _, _, _ => h.elim
theorem law_post {f : Func} {s : ChangeSpec} {apart fresh handsOn again : Bool} {args : Array Value} {ds gs : List (DataW H)} {before : List MemPlace} {tb : TypeId} (hl : laidOutB P = true) (hparams : ∀ t ∈ f.params.toList, P.readableRec t = true ∧ t < P.types.size)
    (hrt : f.resultTypes = #[tb]) (hb : P.underlying tb = some .bool) (hvars : s.vars = []) (hfn : (s.fn H (ds ++ [])).results = [.lit (.bool true)] ∧ (s.fn H (ds ++ [])).args = ds ∧ (s.fn H (ds ++ [])).vars = [])
    (hW : DataW.Whole enc P f.params.toList s.vars apart W args.toList ds gs before) (hbel : Below W.heap.size W W') : s.post enc P f apart fresh handsOn again W args (.bool true) W' := by
  have hW' := hW
  obtain ⟨p, q, hA, hV, rfl, hfz, hnd⟩ := hW
  rw [hvars] at hV
  obtain ⟨rfl, rfl⟩ := trodVars_none hV
  have hlt : ∀ x ∈ p ++ [], x.block < W.heap.size := fun x hx => hW'.lt x hx
  simp only [List.append_nil] at hW' hlt hfn
  have hold : ∀ x ∈ p, (fun b => decide (b < W.heap.size)) x.block = true := fun x hx => by simpa using hlt x hx
  have hresB : ∀ (b : Nat) (sp : Nat → Bool) (hd : Bool), DataW.TrodAll enc P W' b sp hd f.resultTypes.toList ((Value.bool true).resultList f.resultTypes.size) (s.fn H ds).results [] := fun b sp hd => by
    rw [hfn.1, hrt]
    exact trodAll_cons_mk (shut_bool hb _) trodAll_mk0
  have hresA : ∀ sp : Nat → Bool, (∀ x ∈ p, sp x.block = true) → DataW.TrodAll enc P W' 0 sp true f.params.toList args.toList (s.fn H ds).args p := fun sp hsp => by
    rw [hfn.2.1]
    exact trodAll_stays hl _ _ _ _ hparams hA hbel hlt hsp
  have hvarsB : ∀ sp : Nat → Bool, DataW.TrodVars enc P W' sp s.vars (s.fn H ds).vars [] := fun sp => by
    rw [hfn.2.2, hvars]; rfl
  refine ⟨ds, [], p, [], p, [], hW', ?_, ?_, ?_, World.keptBut_mono (fun x hx => ⟨hx, ?_⟩) (hbel.frame _), fun _ => ?_⟩
  · simpa using hresB _ _ _
  · simpa using hresA _ hold
  · simpa using hvarsB _
  · simp [hx]
  · refine ⟨ok_one hrt rfl (okWide_bool_mk hb _), _, _, ([] ++ p) ++ [], ⟨[] ++ p, [], trodAll_append (hresA _ (fun _ _ => rfl)) (hresB _ _ _), by simpa using hvarsB _, rfl, ?_, ?_⟩, ?_⟩
    · intro b off hp
      have hp' : MemPlace.cell b off ∈ p := by simpa using hp
      have hb' : b < W.heap.size := hlt _ hp'
      rw [hbel.frozen hb']
      exact hfz b off (by simpa using hp')
    · intro ha
      have := hnd ha
      simpa using this
    · intro x hx _
      simpa using hx
end
end Go.Vm
end
section
set_option linter.unusedVariables false
set_option linter.unusedSimpArgs false
namespace Go.Vm
open Go.RowKit Go.ChangeShapes
section
variable {H : Type} {enc : TypeId × Value → H} {P : Program} {W W' : World} {β : DataW H → Nat} {B : Nat}
def argFits (P : Program) (B n : Nat) (t : TypeId) (a : AV) : Prop :=
  match P.underlying t with
  | some (.struct _) => ∃ az, a = .agg az ∧ fitsD P B n t az
  | _ => fitsD P B n t [a]
theorem arg_rep (hβ : Bulk β) {n base : Nat} {t : TypeId} {v : Value} {d : DataW H} {p : List MemPlace} (hl : layB P n t = true) (hok : Value.okWide P W .any base t v) (h : DataW.Trod enc P W 0 (fun _ => true) true t v d p) (hd : β d ≤ B) :
    ∃ a, argFits P B n t a ∧ RepP W (fun _ b => b < W.heap.size) a v := by
  obtain ⟨fuel, hf⟩ := h
  obtain ⟨az, hc, hfit⟩ := trod_cells hβ n fuel t v.cells.toList d p hl hf hd
  cases n with
  | zero => simp [layB] at hl
  | succ n =>
    have single : v.cells = #[v] → fitsD P B (n + 1) t az → (∀ x, az = [x] → argFits P B (n + 1) t x) → (∃ x, az = [x]) → ∃ a, argFits P B (n + 1) t a ∧ RepP W (fun _ b => b < W.heap.size) a v := fun hv hfit ha ⟨x, hx⟩ => by
      subst hx
      rw [hv] at hc
      exact ⟨x, ha x rfl, hc.2 0 x v rfl rfl⟩
    unfold layB at hl
    split at hl
    · rename_i hu
      have hv : v.cells = #[v] := by cases v <;> first | rfl | simp [Value.okWide, hu, Cell.okWide, Cell.ok] at hok
      have hfit' := hfit
      unfold fitsD at hfit'
      simp only [hu] at hfit'
      obtain ⟨b, rfl⟩ := hfit'
      exact single hv hfit (fun x hx => by unfold argFits; simp only [hu]; rw [← hx]; exact hfit) ⟨_, rfl⟩
    · rename_i k hu
      have hv : v.cells = #[v] := by cases v <;> first | rfl | simp [Value.okWide, hu, Cell.okWide, Cell.ok] at hok
      have hfit' := hfit
      unfold fitsD at hfit'
      simp only [hu] at hfit'
      obtain ⟨b, rfl, _⟩ := hfit'
      exact single hv hfit (fun x hx => by unfold argFits; simp only [hu]; rw [← hx]; exact hfit) ⟨_, rfl⟩
    · rename_i hu
      have hv : v.cells = #[v] := by cases v <;> first | rfl | simp [Value.okWide, hu, Cell.okWide, Cell.ok] at hok
      have hfit' := hfit
      unfold fitsD at hfit'
      simp only [hu] at hfit'
      obtain ⟨b, rfl, _⟩ := hfit'
      exact single hv hfit (fun x hx => by unfold argFits; simp only [hu]; rw [← hx]; exact hfit) ⟨_, rfl⟩
    · rename_i e hu
      have hv : v.cells = #[v] := by cases v <;> first | rfl | simp [Value.okWide, hu, Cell.okWide, Cell.ok] at hok
      have hfit' := hfit
      unfold fitsD at hfit'
      simp only [hu] at hfit'
      obtain ⟨b, rfl, _⟩ := hfit'
      exact single hv hfit (fun x hx => by unfold argFits; simp only [hu]; rw [← hx]; exact hfit) ⟨_, rfl⟩
    · rename_i fs hu
      have hv : ∃ cs, v = .agg cs := by
        simp only [Value.okWide, hu] at hok
        obtain ⟨cs, h1, _⟩ := hok
        exact ⟨cs, h1⟩
      obtain ⟨cs, rfl⟩ := hv
      refine ⟨.agg az, by unfold argFits; simp only [hu]; exact ⟨az, rfl, hfit⟩, ?_⟩
      have := RepP.agg (w := W) (I := fun _ b => b < W.heap.size) az cs.toList (by simpa [Value.cells] using hc.1) (fun i a u ha hu => hc.2 i a u ha (by simpa [Value.cells] using hu))
      simpa using this
    · cases hl
def argsFit (P : Program) (B n : Nat) : List TypeId → List AV → Prop
  | [], [] => True
  | t :: ts, a :: az => argFits P B n t a ∧ argsFit P B n ts az
  | _, _ => False
theorem args_rep (hβ : Bulk β) {n base : Nat} : ∀ (ts : List TypeId) (vs : List Value) (ds : List (DataW H)) (ps : List MemPlace), (∀ t ∈ ts, layB P n t = true) → (∀ (j : Nat) t v, ts[j]? = some t → vs[j]? = some v → Value.okWide P W .any base t v) →
    DataW.TrodAll enc P W 0 (fun _ => true) true ts vs ds ps → (∀ d ∈ ds, β d ≤ B) → ∃ az, argsFit P B n ts az ∧ vs.length = az.length ∧ ∀ (i : Nat) a v, az[i]? = some a → vs[i]? = some v → RepP W (fun _ b => b < W.heap.size) a v
  | [], [], [], ps, _, _, h, _ => ⟨[], trivial, rfl, fun i a v ha => by simp at ha⟩
  | t :: ts, v :: vs, d :: ds, ps, hl, hok, h, hb => by
    obtain ⟨p, q, h1, h2, rfl⟩ := h
    obtain ⟨a, ha, hr⟩ := arg_rep hβ (hl t (by simp)) (hok 0 t v rfl rfl) h1 (hb d (by simp))
    obtain ⟨az, k1, k2, k3⟩ := args_rep hβ ts vs ds q (fun t' ht => hl t' (by simp [ht])) (fun j t' v' ht hv => hok (j + 1) t' v' (by simpa using ht) (by simpa using hv)) h2 (fun d hd => hb d (by simp [hd]))
    refine ⟨a :: az, ⟨ha, k1⟩, by simp [k2], fun i b u hb hu => ?_⟩
    cases i with
    | zero => simp at hb hu; subst hb hu; exact hr
    | succ i => simp at hb hu; exact k3 i b u hb hu
  | [], [], _ :: _, _, _, _, h, _ => h.elim
  | [], _ :: _, _, _, _, _, h, _ => h.elim
  | _ :: _, [], _, _, _, _, h, _ => h.elim
  | _ :: _, _ :: _, [], _, _, _, h, _ => h.elim
theorem law_contract (hβ : Bulk β) {f : Nat} {fn : Func} {c : Code} {s : ChangeSpec} {apart fresh handsOn again : Bool} {args : Array Value} {ds gs : List (DataW H)} {before : List MemPlace} {tb n base : Nat}
    (hf : P.funcs[f]? = some fn) (hn : (fn.name == "runtime.NumGoroutine") = false) (hbody : fn.body = some c)
    (hlay : ∀ t ∈ fn.params.toList, layB P n t = true) (hP : ∀ az, argsFit P B n fn.params.toList az → PureSpec P f az (.val (.bool true)))
    (hl : laidOutB P = true) (hparams : ∀ t ∈ fn.params.toList, P.readableRec t = true ∧ t < P.types.size) (hrt : fn.resultTypes = #[tb]) (hb : P.underlying tb = some .bool) (hvars : s.vars = [])
    (hfn : (s.fn H (ds ++ [])).results = [.lit (.bool true)] ∧ (s.fn H (ds ++ [])).args = ds ∧ (s.fn H (ds ++ [])).vars = [])
    (hval : ∀ (j : Nat) t v, fn.params[j]? = some t → args[j]? = some v → Value.okWide P W .any base t v)
    (hW : DataW.Whole enc P fn.params.toList s.vars apart W args.toList ds gs before) (hds : ∀ d ∈ ds, β d ≤ B) : Calls P f args W fun e W' => ∃ v, e = .returned v ∧ s.post enc P fn apart fresh handsOn again W args v W' := by
  obtain ⟨p, q, hA, _⟩ := id hW
  obtain ⟨az, k1, k2, k3⟩ := args_rep hβ (base := base) fn.params.toList args.toList ds p hlay (fun j t v ht hv => hval j t v (by simpa using ht) (by simpa using hv)) hA hds
  have hc := hP az k1 W (fun _ _ => True) args.toList k2 (fun i a v ha hv => (k3 i a v ha hv).mono (fun _ b hb => ⟨⟨trivial, hb⟩, rfl⟩))
  have hr : (callFunc f args).run P W = .ok (.enter f args) W := by
    have hn' : ¬ fn.name = "runtime.NumGoroutine" := by simpa using hn
    simp [callFunc, hf, hn', hbody]
  simp only [Array.toArray_toList] at hc
  unfold CallsX at hc
  rw [hr] at hc
  refine Calls.mono hc (fun e W' h => ?_)
  obtain ⟨v, rfl, h1, h2⟩ := h
  have hv : v = .bool true := by cases h1; rfl
  subst hv
  exact ⟨_, rfl, law_post hl hparams hrt hb hvars hfn hW h2⟩
end
end Go.Vm
end
section
set_option linter.unusedVariables false
set_option linter.unusedSimpArgs false
namespace Go.Vm
section
variable {P : Program} {B n : Nat} {t : TypeId} {az : List AV}
theorem fits_int {k : IntKind} (hu : P.underlying t = some (.int k)) (h : fitsD P B n t az) : ∃ m, az = [.val (.int k m)] ∧ (Lit.int k m).wf = true := by
  cases n with
  | zero => exact h.elim
  | succ n => unfold fitsD at h; simp only [hu] at h; exact h
theorem fits_str (hu : P.underlying t = some .string) (h : fitsD P B n t az) : ∃ s : ByteArray, az = [.val (.string s)] ∧ s.size ≤ B := by
  cases n with
  | zero => exact h.elim
  | succ n => unfold fitsD at h; simp only [hu] at h; exact h
theorem fits_slice {e : TypeId} (hu : P.underlying t = some (.slice e)) (h : fitsD P B n t az) : ∃ xs m, az = [.sl xs] ∧ xs.length ≤ B ∧ ∀ cs ∈ xs, fitsD P B m e cs := by
  cases n with
  | zero => exact h.elim
  | succ n => unfold fitsD at h; simp only [hu] at h; obtain ⟨xs, h1, h2, h3⟩ := h; exact ⟨xs, n, h1, h2, h3⟩
theorem fits_struct {fs : Array Field} (hu : P.underlying t = some (.struct fs)) (h : fitsD P B n t az) :
    ∃ (parts : List (List AV)) (m : Nat), az = parts.flatten ∧ parts.length = fs.toList.length ∧ ∀ (i : Nat) f p, fs.toList[i]? = some f → parts[i]? = some p → fitsD P B m f.type p := by
  cases n with
  | zero => exact h.elim
  | succ n => unfold fitsD at h; simp only [hu] at h; obtain ⟨parts, h1, h2, h3⟩ := h; exact ⟨parts, n, h1, h2, h3⟩
theorem fits_types {ts : List TypeId} (h : fitsD P B n t az) (hu : P.underlying t = some (.struct (P.fieldsOf t))) (hm : (P.fieldsOf t).toList.map (·.type) = ts) :
    ∃ (parts : List (List AV)) (m : Nat), az = parts.flatten ∧ parts.length = ts.length ∧ ∀ (i : Nat) u p, ts[i]? = some u → parts[i]? = some p → fitsD P B m u p := by
  obtain ⟨parts, m, h1, h2, h3⟩ := fits_struct hu h
  subst hm
  refine ⟨parts, m, h1, by simpa using h2, fun i u p hu hp => ?_⟩
  rw [List.getElem?_map] at hu
  obtain ⟨f, hf, rfl⟩ := Option.map_eq_some_iff.1 hu
  exact h3 i f p hf hp
theorem fits_two (t1 t2 : TypeId) (h : fitsD P B n t az) (hu : P.underlying t = some (.struct (P.fieldsOf t)) := by kernel_rfl) (hm : (P.fieldsOf t).toList.map (·.type) = [t1, t2] := by kernel_rfl) :
    ∃ p q m, az = p ++ q ∧ fitsD P B m t1 p ∧ fitsD P B m t2 q := by
  obtain ⟨parts, m, h1, h2, h3⟩ := fits_types h hu hm
  match parts, h2 with
  | [p, q], _ => exact ⟨p, q, m, by simpa using h1, h3 0 t1 p rfl rfl, h3 1 t2 q rfl rfl⟩
theorem fits_three (t1 t2 t3 : TypeId) (h : fitsD P B n t az) (hu : P.underlying t = some (.struct (P.fieldsOf t)) := by kernel_rfl) (hm : (P.fieldsOf t).toList.map (·.type) = [t1, t2, t3] := by kernel_rfl) :
    ∃ p q r m, az = p ++ q ++ r ∧ fitsD P B m t1 p ∧ fitsD P B m t2 q ∧ fitsD P B m t3 r := by
  obtain ⟨parts, m, h1, h2, h3⟩ := fits_types h hu hm
  match parts, h2 with
  | [p, q, r], _ => exact ⟨p, q, r, m, by simpa using h1, h3 0 t1 p rfl rfl, h3 1 t2 q rfl rfl, h3 2 t3 r rfl rfl⟩
theorem fits_list {α : Type} {cells : α → List AV} {Q : α → Prop} {xs : List (List AV)} (h : ∀ cs ∈ xs, ∃ a, cs = cells a ∧ Q a) : ∃ l : List α, xs = l.map cells ∧ ∀ a ∈ l, Q a := by
  induction xs with
  | nil => exact ⟨[], rfl, fun a ha => by cases ha⟩
  | cons x xs ih =>
    obtain ⟨a, h1, h2⟩ := h x (by simp)
    obtain ⟨l, h3, h4⟩ := ih (fun cs hcs => h cs (by simp [hcs]))
    refine ⟨a :: l, by simp [h1, h3], fun b hb => ?_⟩
    rcases List.mem_cons.1 hb with rfl | hb
    · exact h2
    · exact h4 b hb
end
end Go.Vm
end
section
namespace Go.Proofs
open Go.Vm
set_option linter.unusedVariables false
def iok (m : Int) : Prop := -9223372036854775808 ≤ m ∧ m < 9223372036854775808
theorem iok_wf {m : Int} (h : (Lit.int .i64 m).wf = true) : iok m := by
  have h1 : -9223372036854775808 ≤ m ∧ m ≤ 9223372036854775807 := by simpa [Lit.wf, IntKind.min, IntKind.max, IntKind.bits, IntKind.signed] using h
  exact ⟨h1.1, by omega⟩
def Val.ok (B : Nat) (x : Val) : Prop := (iok x.fKind) ∧ (iok x.fN)
theorem fits_Val59 {B n : Nat} {us : List AV} (h : fitsD Try.prog B n 59 us) : ∃ x : Val, us = Val.c x ∧ Val.ok B x := by
  obtain ⟨p, q, m, rfl, h0, h1⟩ := fits_two 3 3 h
  obtain ⟨x0, rfl, g0⟩ := fits_int (k := .i64) (by kernel_rfl) h0
  obtain ⟨x1, rfl, g1⟩ := fits_int (k := .i64) (by kernel_rfl) h1
  exact ⟨⟨x0, x1⟩, rfl, iok_wf g0, iok_wf g1⟩
def Node.ok (B : Nat) (x : Node) : Prop := (x.fClass.size ≤ B) ∧ (x.fVals.length ≤ B ∧ ∀ y ∈ x.fVals, Val.ok B y)
theorem fits_Node57 {B n : Nat} {us : List AV} (h : fitsD Try.prog B n 57 us) : ∃ x : Node, us = Node.c x ∧ Node.ok B x := by
  obtain ⟨p, q, m, rfl, h0, h1⟩ := fits_two 9 24 h
  obtain ⟨x0, rfl, g0⟩ := fits_str (by kernel_rfl) h0
  obtain ⟨y1, m1, rfl, g1, k1⟩ := fits_slice (e := 59) (by kernel_rfl) h1
  obtain ⟨x1, rfl, l1⟩ := fits_list (cells := Val.c) (Q := Val.ok B) (fun cs hcs => fits_Val59 (k1 cs hcs))
  rw [List.length_map] at g1
  exact ⟨⟨x0, x1⟩, rfl, g0, ⟨g1, l1⟩⟩
def Graph.ok (B : Nat) (x : Graph) : Prop := (x.fNodes.length ≤ B ∧ ∀ y ∈ x.fNodes, Node.ok B y) ∧ (x.fRoots.length ≤ B ∧ ∀ y ∈ x.fRoots, Val.ok B y)
theorem fits_Graph26 {B n : Nat} {us : List AV} (h : fitsD Try.prog B n 26 us) : ∃ x : Graph, us = Graph.c x ∧ Graph.ok B x := by
  obtain ⟨p, q, m, rfl, h0, h1⟩ := fits_two 23 24 h
  obtain ⟨y0, m0, rfl, g0, k0⟩ := fits_slice (e := 57) (by kernel_rfl) h0
  obtain ⟨x0, rfl, l0⟩ := fits_list (cells := Node.c) (Q := Node.ok B) (fun cs hcs => fits_Node57 (k0 cs hcs))
  rw [List.length_map] at g0
  obtain ⟨y1, m1, rfl, g1, k1⟩ := fits_slice (e := 59) (by kernel_rfl) h1
  obtain ⟨x1, rfl, l1⟩ := fits_list (cells := Val.c) (Q := Val.ok B) (fun cs hcs => fits_Val59 (k1 cs hcs))
  rw [List.length_map] at g1
  exact ⟨⟨x0, x1⟩, rfl, ⟨g0, l0⟩, ⟨g1, l1⟩⟩
def Col.ok (B : Nat) (x : Col) : Prop := (x.fName.size ≤ B) ∧ (iok x.fKind) ∧ (x.fClass.size ≤ B)
theorem fits_Col93 {B n : Nat} {us : List AV} (h : fitsD Try.prog B n 93 us) : ∃ x : Col, us = Col.c x ∧ Col.ok B x := by
  obtain ⟨p, q, r, m, rfl, h0, h1, h2⟩ := fits_three 9 3 9 h
  obtain ⟨x0, rfl, g0⟩ := fits_str (by kernel_rfl) h0
  obtain ⟨x1, rfl, g1⟩ := fits_int (k := .i64) (by kernel_rfl) h1
  obtain ⟨x2, rfl, g2⟩ := fits_str (by kernel_rfl) h2
  exact ⟨⟨x0, x1, x2⟩, rfl, g0, iok_wf g1, g2⟩
def Form.ok (B : Nat) (x : Form) : Prop := (x.fName.size ≤ B) ∧ (x.fCols.length ≤ B ∧ ∀ y ∈ x.fCols, Col.ok B y)
theorem fits_Form91 {B n : Nat} {us : List AV} (h : fitsD Try.prog B n 91 us) : ∃ x : Form, us = Form.c x ∧ Form.ok B x := by
  obtain ⟨p, q, m, rfl, h0, h1⟩ := fits_two 9 89 h
  obtain ⟨x0, rfl, g0⟩ := fits_str (by kernel_rfl) h0
  obtain ⟨y1, m1, rfl, g1, k1⟩ := fits_slice (e := 93) (by kernel_rfl) h1
  obtain ⟨x1, rfl, l1⟩ := fits_list (cells := Col.c) (Q := Col.ok B) (fun cs hcs => fits_Col93 (k1 cs hcs))
  rw [List.length_map] at g1
  exact ⟨⟨x0, x1⟩, rfl, g0, ⟨g1, l1⟩⟩
def Give.ok (B : Nat) (x : Give) : Prop := (x.fFrom.size ≤ B) ∧ (iok x.fHow) ∧ (iok x.fN)
theorem fits_Give97 {B n : Nat} {us : List AV} (h : fitsD Try.prog B n 97 us) : ∃ x : Give, us = Give.c x ∧ Give.ok B x := by
  obtain ⟨p, q, r, m, rfl, h0, h1, h2⟩ := fits_three 9 3 3 h
  obtain ⟨x0, rfl, g0⟩ := fits_str (by kernel_rfl) h0
  obtain ⟨x1, rfl, g1⟩ := fits_int (k := .i64) (by kernel_rfl) h1
  obtain ⟨x2, rfl, g2⟩ := fits_int (k := .i64) (by kernel_rfl) h2
  exact ⟨⟨x0, x1, x2⟩, rfl, g0, iok_wf g1, iok_wf g2⟩
def Rule.ok (B : Nat) (x : Rule) : Prop := (x.fClass.size ≤ B) ∧ (x.fTo.size ≤ B) ∧ (x.fGives.length ≤ B ∧ ∀ y ∈ x.fGives, Give.ok B y)
theorem fits_Rule100 {B n : Nat} {us : List AV} (h : fitsD Try.prog B n 100 us) : ∃ x : Rule, us = Rule.c x ∧ Rule.ok B x := by
  obtain ⟨p, q, r, m, rfl, h0, h1, h2⟩ := fits_three 9 9 98 h
  obtain ⟨x0, rfl, g0⟩ := fits_str (by kernel_rfl) h0
  obtain ⟨x1, rfl, g1⟩ := fits_str (by kernel_rfl) h1
  obtain ⟨y2, m2, rfl, g2, k2⟩ := fits_slice (e := 97) (by kernel_rfl) h2
  obtain ⟨x2, rfl, l2⟩ := fits_list (cells := Give.c) (Q := Give.ok B) (fun cs hcs => fits_Give97 (k2 cs hcs))
  rw [List.length_map] at g2
  exact ⟨⟨x0, x1, x2⟩, rfl, g0, g1, ⟨g2, l2⟩⟩
end Go.Proofs
end
section
set_option linter.unusedVariables false
set_option linter.unusedSimpArgs false
namespace Go.Proofs
open Go.Vm
theorem f49_tri {n : Nat} (h : 100 < n) (a b c : Int) : f49 n [a, b, c] = some (bif a != 0 then a else bif b != 0 then b else c) := by
  obtain ⟨m, rfl⟩ : ∃ m, n = m + 4 := ⟨n - 4, by omega⟩
  show (bif a != 0 then some a else bif b != 0 then some b else bif c != 0 then some c else f49_k3) = _
  unfold f49_k3
  cases ha : a != 0 with
  | true => rfl
  | false =>
    cases hb : b != 0 with
    | true => rfl
    | false =>
      cases hc : c != 0 with
      | true => rfl
      | false =>
        have : c = 0 := by simpa using hc
        rw [this]; rfl
theorem ruleAt_cl {L : List Rule} {c : ByteArray} (h : gi L (ixOf (ruleP c) L 0) = some (ruleAt L c)) : (ruleAt L c).fClass = c := by
  rcases ix_find (ruleP c) L 0 with ⟨h1, h2, h3⟩ | ⟨j, r, h1, h2, h3, h4, h5⟩
  · rw [h3] at h; cases h
  · have e : ruleAt L c = r := by unfold ruleAt; rw [h1]; rfl
    rw [e]; exact sEqF_eq h5
theorem formIx_mem {A : List Form} {a : Form} (h : a ∈ A) : ¬ formIx A a.fName < 0 := by
  intro hlt
  have h1 := ix_neg (fun x : Form => sEqF x.fName a.fName) A
  have h2 : (A.any fun x => sEqF x.fName a.fName) = true := List.any_eq_true.2 ⟨a, h, sEqF_refl _⟩
  rw [h2] at h1
  exact of_decide_eq_false h1 hlt
theorem argBad_from {g : Give} {to : Col} (h : argBad g to = false) (h5 : inR g.fHow 1 5 = false) : sEqF g.fFrom noS = true := by
  unfold argBad at h
  rw [h5] at h
  revert h
  cases inR g.fHow 1 7 <;> cases sEqF g.fFrom noS <;> intro h <;> first | rfl | cases h
theorem giveB_bad {L : List Rule} {g : Give} {cols : List Col} {to : Col} (h : giveB L g cols to = 0) : argBad g to = false := by
  unfold giveB at h
  have h3 : ∀ a b c : Bool, (bif a then (4 : Int) else bif b then 1 else bif c then 0 else 8) = 0 → a = false ∧ b = false := by decide
  exact (h3 _ _ _ h).2
theorem classS_noS : smallB noS = false := by decide
theorem twoOk_of {n : Nat} {A B C : List Form} {L M : List Rule} (hB : FormsOk B) (hz1 : RuleSz n A B L) (hz2 : RuleSz n B C M) (h1 : rulesE A B L = 0) (h2 : rulesE B C M = 0) {c : ByteArray} (hc : ¬ formIx A c < 0) :
    TwoOk n (ruleAt L c) (ruleAt M (ruleAt L c).fTo) (formAt B (ruleAt L c).fTo) := by
  have ro := ruleOk_of h1 hc
  have rp := ruleOk_of h2 ro.to
  obtain ⟨_, m1, _⟩ := formAt_gi ro.to
  obtain ⟨_, m2, _⟩ := formAt_gi rp.to
  refine ⟨ro.ln, hz1.bc _ m1, by rw [rp.ln]; exact hz2.bc _ m2, fun h hh => ?_, fun g hg => ?_, fun x hx => ?_⟩
  · obtain ⟨j, hj, rfl⟩ := List.getElem_of_mem hh
    exact (giveB_src (ro.gv j hj (by rw [← ro.ln]; exact hj))).1
  · obtain ⟨j, hj, rfl⟩ := List.getElem_of_mem hg
    have h0 := rp.gv j hj (by rw [← rp.ln]; exact hj)
    exact ⟨(giveB_src h0).1, (giveB_src h0).2, argBad_from (giveB_bad h0)⟩
  · have := (hB.col m1 hx).1
    cases hs : sEqF x.fName noS with
    | false => rfl
    | true => rw [sEqF_eq hs, classS_noS] at this; cases this
def ruleOne (B : List Form) (L M : List Rule) (a : Form) : Rule ⊕ Unit :=
  (givesJ (ruleAt L a.fName) (ruleAt M (ruleAt L a.fName).fTo) (formAt B (ruleAt L a.fName).fTo)).elim
    (fun l => bif askBad (ruleAt L a.fName) (ruleAt M (ruleAt L a.fName).fTo) (formAt B (ruleAt L a.fName).fTo) then .inr () else .inl ⟨a.fName, (ruleAt M (ruleAt L a.fName).fTo).fTo, l⟩) (fun _ => .inr ())
def ruleMk (A B : List Form) (L M : List Rule) (k : Nat) : Rule ⊕ Unit := match A[k]? with
  | some a => ruleOne B L M a
  | none => .inr ()
section
variable {n : Nat} {A B C : List Form} {L M : List Rule}
theorem f38_l (hB : FormsOk B) (hz1 : RuleSz n A B L) (hz2 : RuleSz n B C M) (h1 : rulesE A B L = 0) (h2 : rulesE B C M = 0) (hn : n < 1000000000) (K : List Rule → Option (List Rule × Int)) :
    f38_l36 A n L M B K n 0 [] = (fin (ruleMk A B L M) A.length 0 []).elim K (fun _ => some ([], 5)) := by
  have zA := hz1.a; have zB := hz1.b; have zL := hz1.r; have zM := hz2.r
  refine scanE A.length (ruleMk A B L M) K (fun _ => some ([], 5)) (f38_l36 A n L M B K) (fun m k s hk hs => ?_) (fun m s hs => by rw [f38_l36.eq_2, ge_len]; rfl) (by omega) zA
  rw [f38_l36.eq_2, lt_len _ k hk, gi_nat]
  unfold ruleMk ruleOne
  simp only [List.getElem?_eq_getElem hk, Option.bind_some, cond_true]
  have hc := formIx_mem (List.getElem_mem hk)
  have two := twoOk_of hB hz1 hz2 h1 h2 hc
  have ro := ruleOk_of h1 hc
  have hcl := ruleAt_cl ro.at_
  generalize A[k].fName = c at *
  obtain ⟨b1, _, _⟩ := formAt_gi ro.to
  rw [f78_eq zL (by omega)]
  simp only [Option.bind_some]
  rw [f78_eq zM (by omega), f52_eq zB (by omega)]
  simp only [Option.bind_some]
  rw [b1]
  simp only [Option.bind_some]
  generalize ruleAt L c = r at *
  generalize ruleAt M r.fTo = q at *
  generalize formAt B r.fTo = f at *
  obtain ⟨x, e1, e2, e3⟩ := f87_eq two hn
  rw [e1]
  simp only [Option.bind_some]
  cases hx : x.2 with
  | true =>
    obtain ⟨l, j1, j2, j3⟩ := e2 hx
    rw [j1, j3, j2, hcl]
    simp only [Bool.not_true, cond_false]
    rw [app2_eq (by simp; omega)]
    rfl
  | false =>
    have hx' := e3 hx
    cases hj : givesJ r q f with
    | inr u => rfl
    | inl l =>
      rcases hx' with h | h
      · rw [hj] at h; cases h
      · rw [h]; rfl
theorem givesJ_len {r q : Rule} {f : Form} (h : TwoOk n r q f) {l : List Give} (hl : givesJ r q f = .inl l) : l.length < n := by
  unfold givesJ at hl
  rw [fin_len _ _ _ _ hl]
  have := h.qn
  simpa using this
structure RulesSz (n : Nat) (l : List Rule) : Prop where
  ln : l.length < n
  gv : ∀ r ∈ l, r.fGives.length < n
theorem ruleMk_sz (hB : FormsOk B) (hz1 : RuleSz n A B L) (hz2 : RuleSz n B C M) (h1 : rulesE A B L = 0) (h2 : rulesE B C M = 0) {l : List Rule} (hl : fin (ruleMk A B L M) A.length 0 [] = .inl l) : RulesSz n l := by
  refine ⟨?_, ?_⟩
  · rw [fin_len _ _ _ _ hl]
    have := hz1.a
    simpa using this
  · refine fin_mem (P := fun r : Rule => r.fGives.length < n) (fun k y hy => ?_) _ _ _ _ hl (fun x hx => nomatch hx)
    unfold ruleMk at hy
    cases hx : A[k]? with
    | none => rw [hx] at hy; cases hy
    | some a =>
      rw [hx] at hy
      have two := twoOk_of hB hz1 hz2 h1 h2 (formIx_mem (List.mem_of_getElem? hx))
      have hy : ruleOne B L M a = .inl y := hy
      unfold ruleOne at hy
      cases hj : givesJ (ruleAt L a.fName) (ruleAt M (ruleAt L a.fName).fTo) (formAt B (ruleAt L a.fName).fTo) with
      | inr u => rw [hj] at hy; cases hy
      | inl g =>
        have hlen := givesJ_len two hj
        rw [hj, Sum.elim_inl] at hy
        cases hb : askBad (ruleAt L a.fName) (ruleAt M (ruleAt L a.fName).fTo) (formAt B (ruleAt L a.fName).fTo) with
        | true => rw [hb] at hy; cases hy
        | false => rw [hb] at hy; cases hy; exact hlen
end
end Go.Proofs
end
section
set_option linter.unusedVariables false
set_option linter.unusedSimpArgs false
namespace Go.Proofs
open Go.Vm
theorem fst0_all2 {E : Nat → Int} : ∀ (d k : Nat), (∀ j, k ≤ j → j < k + d → E j = 0) → fst0 E d k = 0
  | 0, k, _ => rfl
  | d + 1, k, h => by
    rw [show fst0 E (d + 1) k = bif E k == 0 then fst0 E d (k + 1) else E k from rfl, h k (Nat.le_refl _) (by omega)]
    exact fst0_all2 d (k + 1) (fun j h1 h2 => h j (by omega) (by omega))
theorem rulesE_mk {A B : List Form} {L : List Rule} (h : L.length ≤ 24) (h1 : ∀ k, k < L.length → E1 A B L k = 0) (h2 : ∀ k, k < A.length → E2 A L k = 0) (h3 : ∀ k, k < L.length → E3 A B L k = 0) : rulesE A B L = 0 := by
  unfold rulesE
  rw [fst0_all2 L.length 0 (fun j _ hj => h1 j (by omega)), fst0_all2 A.length 0 (fun j _ hj => h2 j (by omega)), fst0_all2 L.length 0 (fun j _ hj => h3 j (by omega))]
  rw [show decide (len L > 24) = false from decide_eq_false (by unfold len; omega)]
  rfl
theorem giveB_mk {L : List Rule} {g : Give} {cols : List Col} {to : Col} (h5 : inR g.fHow 1 5 = true → ¬ colIx cols g.fFrom < 0) (h7 : inR g.fHow 1 7 = true) (hn : numdB g to = true) (hf : fitsB L g (srcOf cols g) to = true) : giveB L g cols to = 0 := by
  unfold giveB
  rw [argBad_eq, h7, hn, hf]
  cases h : inR g.fHow 1 5 with
  | false => rfl
  | true => rw [decide_eq_false (h5 h)]; rfl
theorem hasRule_form {A B : List Form} {L : List Rule} (hr : rulesE A B L = 0) {x : ByteArray} (h : hasRule L x = true) : ¬ formIx A x < 0 := by
  unfold hasRule at h
  obtain ⟨r, hm, he⟩ := List.any_eq_true.1 h
  obtain ⟨k, hk, rfl⟩ := List.getElem_of_mem hm
  have := (E1_zero (rulesE_zero hr).1 hk).1
  rwa [sEqF_eq he] at this
theorem giveJ_inl {r q : Rule} {f : Form} {j : Nat} {p : Give} (h : giveJ r q f j = .inl p) : ∃ g, q.fGives[j]? = some g ∧
    ((inR g.fHow 1 5 = true ∧ ∃ h, gi r.fGives (colIx f.fCols g.fFrom) = some h ∧ (joinB h g).2 = true ∧ p = (joinB h g).1) ∨ (inR g.fHow 1 5 = false ∧ p = g)) := by
  unfold giveJ at h
  cases hg : q.fGives[j]? with
  | none => rw [hg] at h; cases h
  | some g =>
    rw [hg] at h
    refine ⟨g, rfl, ?_⟩
    have h : (bif inR g.fHow 1 5 then (match gi r.fGives (colIx f.fCols g.fFrom) with | some h => bif (joinB h g).2 then (.inl (joinB h g).1 : Give ⊕ Unit) else .inr () | none => .inr ()) else .inl g) = .inl p := h
    cases h5 : inR g.fHow 1 5 with
    | false => rw [h5] at h; cases h; exact .inr ⟨rfl, rfl⟩
    | true =>
      rw [h5] at h
      have h : (match gi r.fGives (colIx f.fCols g.fFrom) with | some h => bif (joinB h g).2 then (.inl (joinB h g).1 : Give ⊕ Unit) else .inr () | none => .inr ()) = .inl p := h
      cases hh : gi r.fGives (colIx f.fCols g.fFrom) with
      | none => rw [hh] at h; cases h
      | some x =>
        rw [hh] at h
        have h : (bif (joinB x g).2 then (.inl (joinB x g).1 : Give ⊕ Unit) else .inr ()) = .inl p := h
        cases hj : (joinB x g).2 with
        | false => rw [hj] at h; cases h
        | true => rw [hj] at h; cases h; exact .inl ⟨rfl, x, rfl, hj, rfl⟩
theorem ruleMk_inl {A B : List Form} {L M : List Rule} {k : Nat} {x : Rule} (h : ruleMk A B L M k = .inl x) : ∃ a gs, A[k]? = some a ∧ givesJ (ruleAt L a.fName) (ruleAt M (ruleAt L a.fName).fTo) (formAt B (ruleAt L a.fName).fTo) = .inl gs ∧
    askBad (ruleAt L a.fName) (ruleAt M (ruleAt L a.fName).fTo) (formAt B (ruleAt L a.fName).fTo) = false ∧ x = ⟨a.fName, (ruleAt M (ruleAt L a.fName).fTo).fTo, gs⟩ := by
  unfold ruleMk at h
  cases ha : A[k]? with
  | none => rw [ha] at h; cases h
  | some a =>
    rw [ha] at h
    have h : ruleOne B L M a = .inl x := h
    unfold ruleOne at h
    refine ⟨a, ?_⟩
    cases hj : givesJ (ruleAt L a.fName) (ruleAt M (ruleAt L a.fName).fTo) (formAt B (ruleAt L a.fName).fTo) with
    | inr u => rw [hj] at h; cases h
    | inl gs =>
      rw [hj, Sum.elim_inl] at h
      cases hb : askBad (ruleAt L a.fName) (ruleAt M (ruleAt L a.fName).fTo) (formAt B (ruleAt L a.fName).fTo) with
      | true => rw [hb] at h; cases h
      | false => rw [hb] at h; cases h; exact ⟨gs, rfl, rfl, rfl, rfl⟩
structure Chained (A B C : List Form) (L M l : List Rule) : Prop where
  hA : FormsOk A
  hB : FormsOk B
  hC : FormsOk C
  h1 : rulesE A B L = 0
  h2 : rulesE B C M = 0
  hl : fin (ruleMk A B L M) A.length 0 [] = .inl l
section
variable {A B C : List Form} {L M l : List Rule}
theorem Chained.get (h : Chained A B C L M l) : l.length = A.length ∧ ∀ (j : Nat) (x : Rule), l[j]? = some x → ∃ (a : Form) (gs : List Give), A[j]? = some a ∧ givesJ (ruleAt L a.fName) (ruleAt M (ruleAt L a.fName).fTo) (formAt B (ruleAt L a.fName).fTo) = .inl gs ∧
    askBad (ruleAt L a.fName) (ruleAt M (ruleAt L a.fName).fTo) (formAt B (ruleAt L a.fName).fTo) = false ∧ x = ⟨a.fName, (ruleAt M (ruleAt L a.fName).fTo).fTo, gs⟩ := by
  obtain ⟨t, e, e2, e3⟩ := fin_get _ _ _ _ h.hl
  have e : l = t := by simpa using e
  subst e
  refine ⟨e2, fun j x hx => ?_⟩
  have := e3 j x hx
  rw [Nat.zero_add] at this
  exact ruleMk_inl this
theorem Chained.at_ (h : Chained A B C L M l) {c : ByteArray} (hc : ¬ formIx A c < 0) : hasRule l c = true ∧ ∃ gs, givesJ (ruleAt L c) (ruleAt M (ruleAt L c).fTo) (formAt B (ruleAt L c).fTo) = .inl gs ∧
    askBad (ruleAt L c) (ruleAt M (ruleAt L c).fTo) (formAt B (ruleAt L c).fTo) = false ∧ ruleAt l c = ⟨c, (ruleAt M (ruleAt L c).fTo).fTo, gs⟩ := by
  obtain ⟨g1, g2⟩ := h.get
  have hr : hasRule l c = true := by
    obtain ⟨_, m1, m2⟩ := formAt_gi hc
    obtain ⟨k, hk, he⟩ := List.getElem_of_mem m1
    have hk2 : k < l.length := by omega
    obtain ⟨a, gs, e1, e2, e3, e4⟩ := g2 k _ (List.getElem?_eq_getElem hk2)
    rw [List.getElem?_eq_getElem hk, he] at e1
    cases e1
    unfold hasRule
    refine List.any_eq_true.2 ⟨_, List.getElem_mem hk2, ?_⟩
    unfold ruleP
    rw [e4]
    exact m2
  refine ⟨hr, ?_⟩
  rcases ix_find (ruleP c) l 0 with ⟨h1, h2, h3⟩ | ⟨j, x, h1, h2, h3, h4, h5⟩
  · unfold hasRule at hr; rw [h2] at hr; cases hr
  · have e : ruleAt l c = x := by unfold ruleAt; rw [h1]; rfl
    obtain ⟨a, gs, e1, e2, e3, e4⟩ := g2 j x h4
    have hac : a.fName = c := by
      have : x.fClass = c := sEqF_eq h5
      rw [e4] at this
      exact this
    rw [hac] at e2 e3 e4
    exact ⟨gs, e2, e3, by rw [e, e4]⟩
theorem Chained.leads (h : Chained A B C L M l) {x y z : ByteArray} (h1 : leadsB L x y = true) (h2 : leadsB M y z = true) : leadsB l x z = true := by
  unfold leadsB at h1 h2 ⊢
  cases hz : sEqF z ANY with
  | true => rfl
  | false =>
    rw [hz] at h2
    have h2 : (bif hasRule M y then sEqF (ruleAt M y).fTo z else false) = true := h2
    cases hy : hasRule M y with
    | false => rw [hy] at h2; cases h2
    | true =>
      rw [hy] at h2
      have h2 : sEqF (ruleAt M y).fTo z = true := h2
      cases hya : sEqF y ANY with
      | true => rw [hasRule_any (noAny_of h.hB (rulesE_zero h.h2).1) hya] at hy; cases hy
      | false =>
        rw [hya] at h1
        have h1 : (bif hasRule L x then sEqF (ruleAt L x).fTo y else false) = true := h1
        cases hx : hasRule L x with
        | false => rw [hx] at h1; cases h1
        | true =>
          rw [hx] at h1
          have h1 : sEqF (ruleAt L x).fTo y = true := h1
          obtain ⟨i1, gs, i2, i3, i4⟩ := h.at_ (hasRule_form h.h1 hx)
          rw [i1, i4]
          show sEqF (ruleAt M (ruleAt L x).fTo).fTo z = true
          rw [sEqF_eq h1]
          exact h2
theorem fitsB_67 {L N : List Rule} {g : Give} {a b : Col} (h7 : inR g.fHow 1 7 = true) (h5 : inR g.fHow 1 5 = false) : fitsB L g a b = fitsB N g a b := by
  rcases inR17 h7 with h | h | h | h | h | h | h <;> rw [h] at h5 <;> first | (exfalso; revert h5; decide) | (unfold fitsB; rw [h]; rfl)
theorem Chained.give (h : Chained A B C L M l) {c : ByteArray} (hc : ¬ formIx A c < 0) {j : Nat} {p : Give} {u : Col} (hp : giveJ (ruleAt L c) (ruleAt M (ruleAt L c).fTo) (formAt B (ruleAt L c).fTo) j = .inl p)
    (hu : (formAt C (ruleAt M (ruleAt L c).fTo).fTo).fCols[j]? = some u) : giveB l p (formAt A c).fCols u = 0 := by
  have ro := ruleOk_of h.h1 hc
  have rp := ruleOk_of h.h2 ro.to
  obtain ⟨g, hg, hcase⟩ := giveJ_inl hp
  obtain ⟨j1, j1'⟩ := List.getElem?_eq_some_iff.1 hg
  obtain ⟨j2, j2'⟩ := List.getElem?_eq_some_iff.1 hu
  have hgv := rp.gv j j1 j2
  rw [j1', j2'] at hgv
  obtain ⟨k7, k5⟩ := giveB_src hgv
  obtain ⟨kf, kn⟩ := giveB_fit hgv
  rcases hcase with ⟨i5, x, ix, ij, rfl⟩ | ⟨i5, rfl⟩
  · have hi := k5 i5
    obtain ⟨ci1, ci2, ci3⟩ := colAt_gi hi
    have es : srcOf (formAt B (ruleAt L c).fTo).fCols g = colAt (formAt B (ruleAt L c).fTo).fCols g.fFrom := by unfold srcOf; rw [i5]; rfl
    rw [es] at kf
    have hx : ∃ i : Nat, ∃ (e1 : i < (ruleAt L c).fGives.length) (e2 : i < (formAt B (ruleAt L c).fTo).fCols.length), (ruleAt L c).fGives[i] = x ∧ (formAt B (ruleAt L c).fTo).fCols[i] = colAt (formAt B (ruleAt L c).fTo).fCols g.fFrom := by
      unfold colIx at hi ix ci1
      rcases ix_find (fun x : Col => sEqF x.fName g.fFrom) (formAt B (ruleAt L c).fTo).fCols 0 with ⟨h1, h2, h3⟩ | ⟨i, y, h1, h2, h3, h4, h5⟩
      · rw [h3] at hi; omega
      · rw [h3, Nat.zero_add, gi_nat] at ix ci1
        obtain ⟨a1, a2⟩ := List.getElem?_eq_some_iff.1 ix
        obtain ⟨b1, b2⟩ := List.getElem?_eq_some_iff.1 ci1
        exact ⟨i, a1, b1, a2, b2⟩
    obtain ⟨i, e1, e2, e3, e4⟩ := hx
    have hxv := ro.gv i e1 e2
    rw [e3, e4] at hxv
    obtain ⟨x7, x5⟩ := giveB_src hxv
    obtain ⟨xf, xn⟩ := giveB_fit hxv
    obtain ⟨r1, r2, r3, r4, r5⟩ := joinFit x7 i5 xn kn xf kf (fun a b => h.leads a b) ij
    refine giveB_mk (fun h5 => ?_) r1 r4 ?_
    · rw [r3]; exact x5 (by rw [← r2]; exact h5)
    · have : srcOf (formAt A c).fCols (joinB x g).1 = srcOf (formAt A c).fCols x := by unfold srcOf; rw [r2, r3]
      rw [this]; exact r5
  · refine giveB_mk (fun h5 => by rw [i5] at h5; cases h5) k7 kn ?_
    rw [← fitsB_67 (L := M) k7 i5]
    have e1 : srcOf (formAt A c).fCols p = noC := by unfold srcOf; rw [i5]; rfl
    have e2 : srcOf (formAt B (ruleAt L c).fTo).fCols p = noC := by unfold srcOf; rw [i5]; rfl
    rw [e1]; rw [e2] at kf; exact kf
theorem Chained.right (h : Chained A B C L M l) : rulesE A C l = 0 := by
  obtain ⟨g1, g2⟩ := h.get
  refine rulesE_mk (by have := h.hA.len; omega) (fun k hk => ?_) (fun k hk => ?_) (fun k hk => ?_)
  · have hkA : k < A.length := by omega
    obtain ⟨a, gs, e1, e2, e3, e4⟩ := g2 k _ (List.getElem?_eq_getElem hk)
    unfold E1
    rw [List.getElem?_eq_getElem hk, e4]
    have ha : A[k] = a := by rw [List.getElem?_eq_getElem hkA] at e1; exact Option.some.inj e1
    have hm : a ∈ A := by rw [← ha]; exact List.getElem_mem hkA
    have f1 := formIx_mem hm
    have f2 := (ruleOk_of h.h2 (ruleOk_of h.h1 f1).to).to
    have f3 : hasRule (l.take k) a.fName = false := by
      cases hh : hasRule (l.take k) a.fName with
      | false => rfl
      | true =>
        exfalso
        unfold hasRule at hh
        obtain ⟨r, hm, he⟩ := List.any_eq_true.1 hh
        obtain ⟨i, hi, hri⟩ := List.getElem_of_mem hm
        rw [List.length_take] at hi
        have hi2 : i < l.length := by omega
        rw [List.getElem_take] at hri
        obtain ⟨b, gs2, b1, _, _, b4⟩ := g2 i _ (List.getElem?_eq_getElem hi2)
        have hn : b.fName = a.fName := by
          have : r.fClass = a.fName := sEqF_eq he
          rw [← hri, b4] at this
          exact this
        have hbm : b ∈ A.take k := by
          have : (A.take k)[i]? = some b := by rw [List.getElem?_take_of_lt (by omega)]; exact b1
          exact List.mem_of_getElem? this
        have := formIx_mem hbm
        rw [hn, ← ha] at this
        exact this (h.hA.dup k hkA)
    show (bif decide (formIx A a.fName < 0) then (4 : Int) else bif decide (formIx C (ruleAt M (ruleAt L a.fName).fTo).fTo < 0) then 4 else bif hasRule (l.take k) a.fName then 6 else 0) = 0
    rw [decide_eq_false f1, decide_eq_false f2, f3]
    rfl
  · unfold E2
    rw [List.getElem?_eq_getElem hk]
    show (bif hasRule l A[k].fName then (0 : Int) else 5) = 0
    rw [(h.at_ (formIx_mem (List.getElem_mem hk))).1]
    rfl
  · obtain ⟨a, gs, e1, e2, e3, e4⟩ := g2 k _ (List.getElem?_eq_getElem hk)
    have hm : a ∈ A := List.mem_of_getElem? e1
    have f1 := formIx_mem hm
    have ro := ruleOk_of h.h1 f1
    have rp := ruleOk_of h.h2 ro.to
    obtain ⟨t, y1, y2, y3⟩ := fin_get _ _ _ _ e2
    have y1 : gs = t := by simpa using y1
    subst y1
    unfold E3
    rw [List.getElem?_eq_getElem hk, e4]
    have hlen : gs.length = (formAt C (ruleAt M (ruleAt L a.fName).fTo).fTo).fCols.length := by rw [y2]; exact rp.ln
    show (bif gs.length == (formAt C (ruleAt M (ruleAt L a.fName).fTo).fTo).fCols.length then fst0 (E4 l ⟨a.fName, (ruleAt M (ruleAt L a.fName).fTo).fTo, gs⟩ (formAt A a.fName) (formAt C (ruleAt M (ruleAt L a.fName).fTo).fTo)) gs.length 0 else 2) = 0
    rw [hlen, beq_self_eq_true]
    refine fst0_all2 _ 0 fun j _ hj => ?_
    have hj2 : j < (formAt C (ruleAt M (ruleAt L a.fName).fTo).fTo).fCols.length := by omega
    have hj1 : j < gs.length := by omega
    unfold E4
    show (match gs[j]?, (formAt C (ruleAt M (ruleAt L a.fName).fTo).fTo).fCols[j]? with | some g, some c => giveB l g (formAt A a.fName).fCols c | _, _ => 0) = 0
    rw [List.getElem?_eq_getElem hj1, List.getElem?_eq_getElem hj2]
    have hz := y3 j _ (List.getElem?_eq_getElem hj1)
    rw [Nat.zero_add] at hz
    exact h.give f1 hz (List.getElem?_eq_getElem hj2)
end
end Go.Proofs
end
section
set_option linter.unusedVariables false
set_option linter.unusedSimpArgs false
namespace Go.Proofs
open Go.Vm
theorem fin_congr {α τ : Type} {m1 m2 : Nat → α ⊕ τ} : ∀ (d k : Nat) (s : List α), (∀ j, k ≤ j → j < k + d → m1 j = m2 j) → fin m1 d k s = fin m2 d k s
  | 0, k, s, _ => rfl
  | d + 1, k, s, h => by
    show (match m1 k with | .inl x => fin m1 d (k + 1) (s ++ [x]) | .inr t => .inr t) = (match m2 k with | .inl x => fin m2 d (k + 1) (s ++ [x]) | .inr t => .inr t)
    rw [h k (Nat.le_refl _) (by omega)]
    cases m2 k with
    | inl x => exact fin_congr d (k + 1) (s ++ [x]) (fun j h1 h2 => h j (by omega) (by omega))
    | inr t => rfl
theorem ixOf_at {α : Type} (p : α → Bool) : ∀ (l : List α) (s k : Nat) (hk : k < l.length), p l[k] = true → (l.take k).any p = false → ixOf p l s = ((s + k : Nat) : Int)
  | y :: l, s, 0, hk, h1, h2 => by
    have h1 : p y = true := h1
    simp [ixOf, h1]
  | y :: l, s, k + 1, hk, h1, h2 => by
    rw [List.take_succ_cons, List.any_cons, Bool.or_eq_false_iff] at h2
    have := ixOf_at p l (s + 1) k (by simpa using hk) (by simpa using h1) h2.2
    simp only [ixOf, h2.1, cond_false, this]
    congr 1
    omega
theorem colIx_name {B : List Form} (hB : FormsOk B) {t : Form} (ht : t ∈ B) {i : Nat} (hi : i < t.fCols.length) : colIx t.fCols t.fCols[i].fName = (i : Int) := by
  have h0 := (colE_zero (hB.ce t ht i hi)).2.1
  unfold colIx at h0 ⊢
  have h1 : ((t.fCols.take i).any fun x => sEqF x.fName t.fCols[i].fName) = false := by
    have := ix_neg (fun x : Col => sEqF x.fName t.fCols[i].fName) (t.fCols.take i)
    rw [decide_eq_true h0] at this
    revert this
    cases ((t.fCols.take i).any fun x => sEqF x.fName t.fCols[i].fName) <;> intro h <;> first | rfl | cases h
  have := ixOf_at (fun x : Col => sEqF x.fName t.fCols[i].fName) t.fCols 0 i hi (sEqF_refl _) h1
  rw [this, Nat.zero_add]
theorem srcVal {A : List Form} {g : Graph} (hA : FormsOk A) (hg : GoodG A g) {x : Node} (hx : x ∈ g.fNodes) {h : Give} (h5 : inR h.fHow 1 5 = true) (hc : ¬ colIx (formAt A x.fClass).fCols h.fFrom < 0) :
    ((srcOf (formAt A x.fClass).fCols h).fKind = 1 → ((gi x.fVals (colIx (formAt A x.fClass).fCols h.fFrom)).getD noV).fKind = 1) ∧
    ((srcOf (formAt A x.fClass).fCols h).fKind = 2 → ((gi x.fVals (colIx (formAt A x.fClass).fCols h.fFrom)).getD noV).fKind = 2 ∧ 0 ≤ ((gi x.fVals (colIx (formAt A x.fClass).fCols h.fFrom)).getD noV).fN ∧ ((gi x.fVals (colIx (formAt A x.fClass).fCols h.fFrom)).getD noV).fN ≤ 1) := by
  have e : srcOf (formAt A x.fClass).fCols h = colAt (formAt A x.fClass).fCols h.fFrom := by unfold srcOf; rw [h5]; rfl
  have hi2 := (colAt_gi hc).1
  rw [e]
  have hv : ∃ j : Nat, ∃ v, (formAt A x.fClass).fCols[j]? = some (colAt (formAt A x.fClass).fCols h.fFrom) ∧ x.fVals[j]? = some v ∧ gi x.fVals (colIx (formAt A x.fClass).fCols h.fFrom) = some v := by
    unfold colIx at hc hi2 ⊢
    rcases ix_find (fun x : Col => sEqF x.fName h.fFrom) (formAt A x.fClass).fCols 0 with ⟨h1, h2, h3⟩ | ⟨j, y, h1, h2, h3, h4, h5⟩
    · rw [h3] at hc; omega
    · rw [h3, Nat.zero_add, gi_nat] at hi2
      rw [h3, Nat.zero_add, gi_nat]
      have hj := (List.getElem?_eq_some_iff.1 h4).1
      have hv' := List.getElem?_eq_getElem (show j < x.fVals.length by rw [hg.ln x hx]; exact hj)
      exact ⟨j, _, hi2, hv', hv'⟩
  obtain ⟨j, v, h1, h2, h3⟩ := hv
  rw [h3]
  have s1 := hg.su x hx j _ v h1 h2
  have s2 := hg.fr.2.2.1 x hx v (List.mem_of_getElem? h2)
  generalize colAt (formAt A x.fClass).fCols h.fFrom = a at *
  obtain ⟨vk, vn⟩ := v
  show (a.fKind = 1 → vk = 1) ∧ (a.fKind = 2 → vk = 2 ∧ 0 ≤ vn ∧ vn ≤ 1)
  unfold suitsC at s1
  refine ⟨fun hk => ?_, fun hk => ?_⟩
  · rw [hk] at s1; exact eq_of_beq s1
  · rw [hk] at s1
    have hvk : vk = 2 := eq_of_beq s1
    subst hvk
    have s2 : inR vn 0 1 = true := s2
    rw [inR_iff] at s2
    exact ⟨rfl, s2.1, s2.2⟩
section
variable {A B C : List Form} {L M l : List Rule} {g : Graph}
theorem mk0_67 {p : Give} (h7 : inR p.fHow 1 7 = true) (h5 : inR p.fHow 1 5 = false) (x y : Val) (c : Col) : mk0 p x c = mk0 p y c := by
  rcases inR17 h7 with h | h | h | h | h | h | h <;> rw [h] at h5 <;> first | (exfalso; revert h5; decide) | (unfold mk0; rw [h]; rfl)
def outV (m : Val × Bool) (s : ByteArray) : Val ⊕ ByteArray := bif m.2 then .inl m.1 else .inr s
theorem Chained.parts (h : Chained A B C L M l) (hg : GoodG A g) {x : Node} (hx : x ∈ g.fNodes) {i j : Nat} {a b : Give} {t u : Col} (ha : (ruleAt L x.fClass).fGives[i]? = some a) (ht : (formAt B (ruleAt L x.fClass).fTo).fCols[i]? = some t)
    (hb : (ruleAt M (ruleAt L x.fClass).fTo).fGives[j]? = some b) (hu : (formAt C (ruleAt M (ruleAt L x.fClass).fTo).fTo).fCols[j]? = some u) (h5 : inR b.fHow 1 5 = true) (hi : colIx (formAt B (ruleAt L x.fClass).fTo).fCols b.fFrom = (i : Int)) (hok : (joinB a b).2 = true) :
    (joinB a b).1.fFrom = a.fFrom ∧ ((mk0 a ((gi x.fVals (colIx (formAt A x.fClass).fCols a.fFrom)).getD noV) t).2 = true → mk0 b (mk0 a ((gi x.fVals (colIx (formAt A x.fClass).fCols a.fFrom)).getD noV) t).1 u = mk0 (joinB a b).1 ((gi x.fVals (colIx (formAt A x.fClass).fCols a.fFrom)).getD noV) u) ∧
      ((mk0 a ((gi x.fVals (colIx (formAt A x.fClass).fCols a.fFrom)).getD noV) t).2 = false → (mk0 (joinB a b).1 ((gi x.fVals (colIx (formAt A x.fClass).fCols a.fFrom)).getD noV) u).2 = false) := by
  have hc := hg.cl x hx
  have ro := ruleOk_of h.h1 hc
  have rp := ruleOk_of h.h2 ro.to
  obtain ⟨a1, a2⟩ := List.getElem?_eq_some_iff.1 ha
  obtain ⟨t1, t2⟩ := List.getElem?_eq_some_iff.1 ht
  obtain ⟨b1, b2⟩ := List.getElem?_eq_some_iff.1 hb
  obtain ⟨u1, u2⟩ := List.getElem?_eq_some_iff.1 hu
  have ga := ro.gv i a1 t1
  rw [a2, t2] at ga
  have gb := rp.gv j b1 u1
  rw [b2, u2] at gb
  obtain ⟨x7, x5⟩ := giveB_src ga
  obtain ⟨xf, xn⟩ := giveB_fit ga
  obtain ⟨y7, y5⟩ := giveB_src gb
  obtain ⟨yf, yn⟩ := giveB_fit gb
  have es : srcOf (formAt B (ruleAt L x.fClass).fTo).fCols b = t := by
    have e1 : srcOf (formAt B (ruleAt L x.fClass).fTo).fCols b = colAt (formAt B (ruleAt L x.fClass).fTo).fCols b.fFrom := by unfold srcOf; rw [h5]; rfl
    have e2 := (colAt_gi (y5 h5)).1
    rw [hi, gi_nat, ht] at e2
    rw [e1]
    exact (Option.some.inj e2).symm
  rw [es] at yf
  refine ⟨(joinFit (N := l) x7 h5 xn yn xf yf (fun a b => h.leads a b) hok).2.2.1, ?_⟩
  exact joinMade x7 h5 xn yn xf yf (fun h5 => srcVal h.hA hg hx h5 (x5 h5)) hok
theorem Chained.row (h : Chained A B C L M l) (hg : GoodG A g) {x : Node} (hx : x ∈ g.fNodes) {v : List Val} (hv : rowMk A B L x = .inl v) : rowMk B C M ⟨(ruleAt L x.fClass).fTo, v⟩ = rowMk A C l x := by
  have hc := hg.cl x hx
  have ro := ruleOk_of h.h1 hc
  have rp := ruleOk_of h.h2 ro.to
  obtain ⟨_, gs, i2, i3, i4⟩ := h.at_ hc
  obtain ⟨w, y1, y2, y3⟩ := fin_get _ _ _ _ i2
  have y1 : gs = w := by simpa using y1
  subst y1
  obtain ⟨w, z1, z2, z3⟩ := fin_get _ _ _ _ hv
  have z1 : v = w := by simpa using z1
  subst z1
  unfold rowMk
  rw [i4]
  refine fin_congr _ 0 [] fun j _ hj => ?_
  unfold valMk
  rw [i4]
  have hj : j < (formAt C (ruleAt M (ruleAt L x.fClass).fTo).fTo).fCols.length := by
    have : j < 0 + (formAt C (ruleAt M (ruleAt L x.fClass).fTo).fTo).fCols.length := hj
    omega
  have hjq : j < (ruleAt M (ruleAt L x.fClass).fTo).fGives.length := by rw [rp.ln]; exact hj
  have hjg : j < gs.length := by omega
  have hu := List.getElem?_eq_getElem hj
  have hq := List.getElem?_eq_getElem hjq
  have hp := List.getElem?_eq_getElem hjg
  have hz := y3 j _ hp
  rw [Nat.zero_add] at hz
  show (match (formAt C (ruleAt M (ruleAt L x.fClass).fTo).fTo).fCols[j]?, (ruleAt M (ruleAt L x.fClass).fTo).fGives[j]? with
    | some c, some g => bif (madeB g (formAt B (ruleAt L x.fClass).fTo).fCols v c).2 then (.inl (madeB g (formAt B (ruleAt L x.fClass).fTo).fCols v c).1 : Val ⊕ ByteArray) else .inr c.fName
    | _, _ => .inr noS) = (match (formAt C (ruleAt M (ruleAt L x.fClass).fTo).fTo).fCols[j]?, gs[j]? with
    | some c, some g => bif (madeB g (formAt A x.fClass).fCols x.fVals c).2 then (.inl (madeB g (formAt A x.fClass).fCols x.fVals c).1 : Val ⊕ ByteArray) else .inr c.fName
    | _, _ => .inr noS)
  rw [hu, hq, hp]
  generalize gs[j] = p at *
  generalize hb : (ruleAt M (ruleAt L x.fClass).fTo).fGives[j] = b at *
  generalize hub : (formAt C (ruleAt M (ruleAt L x.fClass).fTo).fTo).fCols[j] = u at *
  suffices hh : madeB b (formAt B (ruleAt L x.fClass).fTo).fCols v u = madeB p (formAt A x.fClass).fCols x.fVals u by
    show outV (madeB b (formAt B (ruleAt L x.fClass).fTo).fCols v u) u.fName = outV (madeB p (formAt A x.fClass).fCols x.fVals u) u.fName
    rw [hh]
  have hgv := rp.gv j hjq hj
  rw [hb, hub] at hgv
  obtain ⟨k7, k5⟩ := giveB_src hgv
  obtain ⟨b', hb', hcase⟩ := giveJ_inl hz
  rw [hq] at hb'
  cases hb'
  rw [madeB_mk0, madeB_mk0]
  rcases hcase with ⟨h5, a, ia, ij, rfl⟩ | ⟨h5, rfl⟩
  · have hi := k5 h5
    obtain ⟨i, e0, e1⟩ : ∃ i : Nat, colIx (formAt B (ruleAt L x.fClass).fTo).fCols b.fFrom = i ∧ i < (formAt B (ruleAt L x.fClass).fTo).fCols.length := by
      unfold colIx at hi ⊢
      rcases ix_find (fun x : Col => sEqF x.fName b.fFrom) (formAt B (ruleAt L x.fClass).fTo).fCols 0 with ⟨h1, h2, h3⟩ | ⟨i, y, h1, h2, h3, h4, h5⟩
      · rw [h3] at hi; omega
      · exact ⟨i, by rw [h3, Nat.zero_add], (List.getElem?_eq_some_iff.1 h4).1⟩
    rw [e0, gi_nat] at ia
    have hiv : i < v.length := by rw [z2]; exact e1
    have hvi := List.getElem?_eq_getElem hiv
    have hm := z3 i _ hvi
    rw [Nat.zero_add] at hm
    obtain ⟨t, a', m1, m2, m3, m4⟩ := valMk_inl hm
    rw [ia] at m2
    cases m2
    obtain ⟨q1, q2, _⟩ := h.parts hg hx ia m1 hq hu h5 e0 ij
    rw [e0, gi_nat, hvi, q1]
    show mk0 b v[i] u = _
    rw [m4, madeB_mk0]
    rw [madeB_mk0] at m3
    exact q2 m3
  · exact mk0_67 k7 h5 _ _ _
theorem Chained.rowNo (h : Chained A B C L M l) (hg : GoodG A g) {x : Node} (hx : x ∈ g.fNodes) {s : ByteArray} (hv : rowMk A B L x = .inr s) : ∃ s', rowMk A C l x = .inr s' := by
  have hc := hg.cl x hx
  have ro := ruleOk_of h.h1 hc
  have rp := ruleOk_of h.h2 ro.to
  obtain ⟨_, gs, i2, i3, i4⟩ := h.at_ hc
  obtain ⟨w, y1, y2, y3⟩ := fin_get _ _ _ _ i2
  have y1 : gs = w := by simpa using y1
  subst y1
  obtain ⟨i, e1, e2, _⟩ := fin_stop _ _ _ hv
  rw [Nat.zero_add] at e2
  have e1r : i < (ruleAt L x.fClass).fGives.length := by rw [ro.ln]; exact e1
  have ht := List.getElem?_eq_getElem e1
  have ha := List.getElem?_eq_getElem e1r
  unfold valMk at e2
  rw [ht, ha] at e2
  have e2 : (bif (madeB (ruleAt L x.fClass).fGives[i] (formAt A x.fClass).fCols x.fVals (formAt B (ruleAt L x.fClass).fTo).fCols[i]).2 then (.inl (madeB (ruleAt L x.fClass).fGives[i] (formAt A x.fClass).fCols x.fVals (formAt B (ruleAt L x.fClass).fTo).fCols[i]).1 : Val ⊕ ByteArray) else .inr (formAt B (ruleAt L x.fClass).fTo).fCols[i].fName) = .inr s := e2
  have hno : (madeB (ruleAt L x.fClass).fGives[i] (formAt A x.fClass).fCols x.fVals (formAt B (ruleAt L x.fClass).fTo).fCols[i]).2 = false := by
    cases hh : (madeB (ruleAt L x.fClass).fGives[i] (formAt A x.fClass).fCols x.fVals (formAt B (ruleAt L x.fClass).fTo).fCols[i]).2 with
    | false => rfl
    | true => rw [hh] at e2; cases e2
  have hask : asksB (ruleAt L x.fClass).fGives[i] = true := by
    have h7 := (giveB_src (ro.gv i e1r e1)).1
    rw [madeB_mk0] at hno
    generalize (ruleAt L x.fClass).fGives[i] = a at *
    generalize (gi x.fVals (colIx (formAt A x.fClass).fCols a.fFrom)).getD noV = vv at hno
    unfold asksB
    unfold mk0 at hno
    rcases inR17 h7 with h | h | h | h | h | h | h <;> rw [h] at hno ⊢ <;> first | rfl | (exfalso; revert hno; cases (formAt B (ruleAt L x.fClass).fTo).fCols[i].fKind == 2 <;> exact fun h => nomatch h) | cases hno
  have huse : usesB (ruleAt M (ruleAt L x.fClass).fTo).fGives (formAt B (ruleAt L x.fClass).fTo).fCols[i].fName = true := by
    have hp : askP (ruleAt L x.fClass) (ruleAt M (ruleAt L x.fClass).fTo) (formAt B (ruleAt L x.fClass).fTo) i = false := by
      have hall : ∀ d k, anyN (askP (ruleAt L x.fClass) (ruleAt M (ruleAt L x.fClass).fTo) (formAt B (ruleAt L x.fClass).fTo)) d k = false → ∀ i, k ≤ i → i < k + d → askP (ruleAt L x.fClass) (ruleAt M (ruleAt L x.fClass).fTo) (formAt B (ruleAt L x.fClass).fTo) i = false := fun d => by
        induction d with
        | zero => intro k _ i h1 h2; omega
        | succ d ih =>
          intro k hk i h1 h2
          have hk : (askP _ _ _ k || anyN _ d (k + 1)) = false := hk
          rw [Bool.or_eq_false_iff] at hk
          by_cases hik : i = k
          · subst hik; exact hk.1
          · exact ih (k + 1) hk.2 i (by omega) (by omega)
      exact hall _ 0 i3 i (Nat.zero_le _) (by omega)
    unfold askP at hp
    rw [ha, ht] at hp
    have hp : (asksB (ruleAt L x.fClass).fGives[i] && !usesB (ruleAt M (ruleAt L x.fClass).fTo).fGives (formAt B (ruleAt L x.fClass).fTo).fCols[i].fName) = false := hp
    rw [hask] at hp
    revert hp
    cases usesB (ruleAt M (ruleAt L x.fClass).fTo).fGives (formAt B (ruleAt L x.fClass).fTo).fCols[i].fName <;> intro hp <;> first | rfl | cases hp
  unfold usesB at huse
  obtain ⟨b, hbm, hb2⟩ := List.any_eq_true.1 huse
  rw [Bool.and_eq_true] at hb2
  obtain ⟨h5, hfrom⟩ := hb2
  obtain ⟨j, hj, hjb⟩ := List.getElem_of_mem hbm
  have hq : (ruleAt M (ruleAt L x.fClass).fTo).fGives[j]? = some b := by rw [List.getElem?_eq_getElem hj, hjb]
  have hju : j < (formAt C (ruleAt M (ruleAt L x.fClass).fTo).fTo).fCols.length := by rw [← rp.ln]; exact hj
  have hu := List.getElem?_eq_getElem hju
  have hjg : j < gs.length := by omega
  have hp := List.getElem?_eq_getElem hjg
  have hz := y3 j _ hp
  rw [Nat.zero_add] at hz
  have hi : colIx (formAt B (ruleAt L x.fClass).fTo).fCols b.fFrom = (i : Int) := by
    rw [sEqF_eq hfrom]
    exact colIx_name h.hB (formAt_gi ro.to).2.1 e1
  obtain ⟨b', hb', hcase⟩ := giveJ_inl hz
  rw [hq] at hb'
  cases hb'
  rcases hcase with ⟨_, a, ia, ij, hpe⟩ | ⟨h5', _⟩
  · rw [hi, gi_nat, ha] at ia
    cases ia
    obtain ⟨q1, _, q3⟩ := h.parts hg hx ha ht hq hu h5 hi ij
    rw [madeB_mk0] at hno
    have hbad := q3 hno
    have hval : valMk A C l x j = .inr (formAt C (ruleAt M (ruleAt L x.fClass).fTo).fTo).fCols[j].fName := by
      unfold valMk
      rw [i4]
      show (match (formAt C (ruleAt M (ruleAt L x.fClass).fTo).fTo).fCols[j]?, gs[j]? with
        | some c, some g => bif (madeB g (formAt A x.fClass).fCols x.fVals c).2 then (.inl (madeB g (formAt A x.fClass).fCols x.fVals c).1 : Val ⊕ ByteArray) else .inr c.fName
        | _, _ => .inr noS) = _
      rw [hu, hp, hpe]
      show (bif (madeB _ (formAt A x.fClass).fCols x.fVals _).2 then _ else _) = _
      rw [madeB_mk0, q1, hbad]
      rfl
    cases hrow : rowMk A C l x with
    | inr s' => exact ⟨s', rfl⟩
    | inl w =>
      obtain ⟨w', o1, o2, o3⟩ := fin_get _ _ _ _ hrow
      rw [i4] at o2
      have hjw : j < w'.length := by rw [o2]; exact hju
      have := o3 j _ (List.getElem?_eq_getElem hjw)
      rw [Nat.zero_add, hval] at this
      cases this
  · rw [h5] at h5'; cases h5'
theorem Chained.conv (h : Chained A B C L M l) (hg : GoodG A g) {ns : List Node} (hf : fin (nodeMk A B L g) g.fNodes.length 0 [] = .inl ns) : convR B C M ⟨ns, g.fRoots⟩ = convR A C l g := by
  obtain ⟨t, e, hlen, hmk⟩ := fin_get _ _ _ _ hf
  have e : ns = t := by simpa using e
  subst e
  unfold convR
  have : fin (nodeMk B C M ⟨ns, g.fRoots⟩) ns.length 0 [] = fin (nodeMk A C l g) g.fNodes.length 0 [] := by
    rw [hlen]
    refine fin_congr _ 0 [] fun k _ hk => ?_
    have hk2 : k < ns.length := by omega
    have hk1 : k < g.fNodes.length := by omega
    have hm := hmk k _ (List.getElem?_eq_getElem hk2)
    rw [Nat.zero_add] at hm
    obtain ⟨x, v, h1, h2, h3⟩ := nodeMk_inl hm
    have hx : x ∈ g.fNodes := List.mem_of_getElem? h1
    obtain ⟨_, gs, i2, i3, i4⟩ := h.at_ (hg.cl x hx)
    unfold nodeMk
    show (match ns[k]? with | some x => (rowMk B C M x).elim (fun v => (.inl ⟨(ruleAt M x.fClass).fTo, v⟩ : Node ⊕ Refusal)) (fun s => .inr ⟨k, s⟩) | none => .inr ⟨0, noS⟩) = _
    rw [List.getElem?_eq_getElem hk2, h1, h3]
    show (rowMk B C M ⟨(ruleAt L x.fClass).fTo, v⟩).elim (fun w => (.inl ⟨(ruleAt M (ruleAt L x.fClass).fTo).fTo, w⟩ : Node ⊕ Refusal)) (fun s => .inr ⟨k, s⟩) = (rowMk A C l x).elim (fun v => .inl ⟨(ruleAt l x.fClass).fTo, v⟩) (fun s => .inr ⟨k, s⟩)
    rw [h.row hg hx h2, i4]
  show (fin (nodeMk B C M ⟨ns, g.fRoots⟩) ns.length 0 []).elim _ _ = _
  rw [this]
theorem Chained.convNo (h : Chained A B C L M l) (hg : GoodG A g) {r : Refusal} (hf : fin (nodeMk A B L g) g.fNodes.length 0 [] = .inr r) : ∃ r', fin (nodeMk A C l g) g.fNodes.length 0 [] = .inr r' := by
  obtain ⟨k, k1, k2, _⟩ := fin_stop _ _ _ hf
  rw [Nat.zero_add] at k2
  have hx := List.getElem?_eq_getElem k1
  unfold nodeMk at k2
  rw [hx] at k2
  have hm := List.getElem_mem k1
  generalize g.fNodes[k] = x at *
  have k2 : (rowMk A B L x).elim (fun v => (.inl ⟨(ruleAt L x.fClass).fTo, v⟩ : Node ⊕ Refusal)) (fun s => .inr ⟨k, s⟩) = .inr r := k2
  cases hr : rowMk A B L x with
  | inl v => rw [hr] at k2; cases k2
  | inr s =>
    obtain ⟨s', hs'⟩ := h.rowNo hg hm hr
    cases hc : fin (nodeMk A C l g) g.fNodes.length 0 [] with
    | inr r' => exact ⟨r', rfl⟩
    | inl w =>
      obtain ⟨w', o1, o2, o3⟩ := fin_get _ _ _ _ hc
      have hkw : k < w'.length := by omega
      have := o3 k _ (List.getElem?_eq_getElem hkw)
      rw [Nat.zero_add] at this
      obtain ⟨y, v, p1, p2, p3⟩ := nodeMk_inl this
      rw [hx] at p1
      cases p1
      rw [hs'] at p2
      cases p2
end
end Go.Proofs
end
section
namespace Go.Proofs
open Go.Vm
end Go.Proofs
end
section
namespace Go.Proofs
open Go.Vm
theorem f14_tot {g : Graph} {n : Nat} (hg : GraphSz n g) (hn : n < 4611686018427387904) : ∃ r, f14 n g = some r := by
  have hK : ∃ r, f14_k5 g = some r := by
    unfold f14_k5 f14_k42
    cases decide (len g.fNodes ≤ 30) <;> cases decide (len g.fRoots ≤ 10) <;> cases decide (len g.fRoots > 60) <;> cases decide (len g.fNodes > 400) <;> cases decide (len g.fNodes ≤ 410) <;> exact ⟨_, rfl⟩
  obtain ⟨K, hK⟩ := hK
  unfold f14
  rw [hK]
  have hl := hg.1
  refine scanTot g.fNodes.length (fun m (_ : Unit) k => f14_l8 g (some K) m k) (fun m k v hk => ?_) (fun m v => ?_) g.fNodes.length 0 n () (by omega) hl
  · show (∃ r, f14_l8 g (some K) (m + 1) k = some r) ∨ ∃ v' : Unit, f14_l8 g (some K) (m + 1) k = f14_l8 g (some K) m ((k + 1 : Nat) : Int)
    rw [f14_l8.eq_2]
    have h1 : decide ((k : Int) < len g.fNodes) = true := by simp [len]; omega
    have e0 : wr .i64 ((k : Int) + 1) = ((k + 1 : Nat) : Int) := by rw [wr_id (by omega) (by omega)]; omega
    rw [h1, gi_nat, List.getElem?_eq_getElem hk]
    simp only [cond_true, Option.bind_some, f14_k34, e0]
    cases decide (len g.fNodes[k].fVals > 8) <;> cases decide (len g.fNodes[k].fVals ≤ 30) <;> cases decide (len g.fNodes[k].fVals > 40) <;> first | exact .inl ⟨_, rfl⟩ | exact .inr ⟨(), rfl⟩
  · show ∃ r, f14_l8 g (some K) (m + 1) (g.fNodes.length : Int) = some r
    rw [f14_l8.eq_2]
    have h1 : decide ((g.fNodes.length : Int) < len g.fNodes) = false := by simp [len]
    rw [h1]; exact ⟨_, rfl⟩
end Go.Proofs
end
section
namespace Go.Proofs
open Go.Vm
theorem f13_tot {l : List Form} {n : Nat} (hz : FormSz n l) (hn : n < 4611686018427387904) : ∃ r, f13 n l = some r := by
  have hK : ∃ r, f13_k3 l = some r := by
    unfold f13_k3 f13_k128
    cases decide (len l ≤ 6) <;> cases decide (len l > 24) <;> exact ⟨_, rfl⟩
  obtain ⟨K, hK⟩ := hK
  have hl := hz.1
  have inner : ∀ (k : Nat) (hk : k < l.length) (A : Option Bool), (∃ r, f13_l90 l[k] l k A n 0 = some r) ∨ f13_l90 l[k] l k A n 0 = A := fun k hk A => by
    have hg : gi l (k : Int) = some l[k] := by rw [gi_nat, List.getElem?_eq_getElem hk]
    have hc := (hz.2 _ (List.getElem_mem hk)).2.1
    have key : ∀ (d j m : Nat), d + j = l[k].fCols.length → d < m → (∃ r, f13_l90 l[k] l k A m j = some r) ∨ f13_l90 l[k] l k A m j = A := by
      intro d
      induction d with
      | zero =>
        intro j m hj hm
        obtain ⟨m, rfl⟩ := Nat.exists_eq_succ_of_ne_zero (by omega : m ≠ 0)
        right
        rw [f13_l90.eq_2]
        have h1 : decide ((j : Int) < len l[k].fCols) = false := by simp [len]; omega
        rw [h1]; rfl
      | succ d ih =>
        intro j m hj hm
        obtain ⟨m, rfl⟩ := Nat.exists_eq_succ_of_ne_zero (by omega : m ≠ 0)
        have hj2 : j < l[k].fCols.length := by omega
        have h1 : decide ((j : Int) < len l[k].fCols) = true := by simp [len]; omega
        have e0 : wr .i64 ((j : Int) + 1) = ((j + 1 : Nat) : Int) := by rw [wr_id (by omega) (by omega)]; omega
        have := ih (j + 1) m (by omega) (by omega)
        rw [f13_l90.eq_2, h1, hg]
        simp only [cond_true, Option.bind_some, gi_nat, List.getElem?_eq_getElem hj2, f13_k115, e0]
        cases decide (bsz l[k].fCols[j].fName > 30) <;> cases decide (bsz l[k].fCols[j].fClass > 30) <;> first | exact this | exact .inl ⟨_, rfl⟩
    exact key l[k].fCols.length 0 n (by omega) hc
  unfold f13
  rw [hK]
  refine scanTot l.length (fun m (_ : Unit) k => f13_l6 l n (some K) m k) (fun m k v hk => ?_) (fun m v => ?_) l.length 0 n () (by omega) hl
  · show (∃ r, f13_l6 l n (some K) (m + 1) k = some r) ∨ ∃ v' : Unit, f13_l6 l n (some K) (m + 1) k = f13_l6 l n (some K) m ((k + 1 : Nat) : Int)
    rw [f13_l6.eq_2]
    have h1 : decide ((k : Int) < len l) = true := by simp [len]; omega
    have e0 : wr .i64 ((k : Int) + 1) = ((k + 1 : Nat) : Int) := by rw [wr_id (by omega) (by omega)]; omega
    have hg : gi l (k : Int) = some l[k] := by rw [gi_nat, List.getElem?_eq_getElem hk]
    rw [h1, hg]
    simp only [cond_true, Option.bind_some, f13_k79]
    have hi : (∃ r, f13_l90 l[k] l k (f13_k72 k (f13_l6 l n (some K) m)) n 0 = some r) ∨ f13_l90 l[k] l k (f13_k72 k (f13_l6 l n (some K) m)) n 0 = f13_l6 l n (some K) m ((k + 1 : Nat) : Int) := by
      have := inner k hk (f13_k72 k (f13_l6 l n (some K) m))
      rw [show f13_k72 (k : Int) (f13_l6 l n (some K) m) = f13_l6 l n (some K) m ((k + 1 : Nat) : Int) by unfold f13_k72; rw [e0]] at this ⊢
      exact this
    have hi2 : (∃ r, f13_l90 l[k] l k (f13_k72 k (f13_l6 l n (some K) m)) n 0 = some r) ∨ ∃ v' : Unit, f13_l90 l[k] l k (f13_k72 k (f13_l6 l n (some K) m)) n 0 = f13_l6 l n (some K) m ((k + 1 : Nat) : Int) := hi.imp id fun h => ⟨(), h⟩
    cases decide (bsz l[k].fName > 30) <;> cases decide (len l[k].fCols > 6) <;> cases decide (len l[k].fCols ≤ 30) <;> cases decide (len l[k].fCols > 40) <;> first | exact hi2 | exact .inl ⟨_, rfl⟩
  · show ∃ r, f13_l6 l n (some K) (m + 1) (l.length : Int) = some r
    rw [f13_l6.eq_2]
    have h1 : decide ((l.length : Int) < len l) = false := by simp [len]
    rw [h1]; exact ⟨_, rfl⟩
end Go.Proofs
end
section
set_option linter.unusedVariables false
namespace Go.Proofs
open Go.Vm
theorem f15_tt : f15 40 = some true := rfl
theorem Val.eqB_refl (a : Val) : Val.eqB a a = true := by unfold Val.eqB; simp
theorem bytes_refl (a : ByteArray) : (a == a) = true := by
  show (a.data == a.data) = true
  simp
theorem Refusal.eqB_refl (a : Refusal) : Refusal.eqB a a = true := by unfold Refusal.eqB; rw [bytes_refl]; simp
theorem scan1 {ρ : Type} (N : Nat) (K : Option ρ) (L : Nat → Int → Option ρ) (hL : ∀ m (k : Nat), k < N → L (m + 1) k = L m (wr .i64 (k + 1))) (hK : ∀ m, L (m + 1) N = K) (hl : N < 4611686018427387904) {n : Nat} (hn : N < n) : L n 0 = K := by
  have h := scanN N K (fun _ acc => acc) L hL hK hl N 0 n (by omega) hn
  have hg : ∀ d k, goN (fun _ (acc : Option ρ) => acc) K d k = K := fun d => by
    induction d with
    | zero => intro k; rfl
    | succ d ih => intro k; exact ih (k + 1)
  exact h.trans (hg N 0)
theorem f75_refl {n : Nat} {l : List Val} (hl : l.length < n) (hn : n < 4611686018427387904) : f75 n l l = some true := by
  unfold f75
  rw [bne_len, beq_self_eq_true]
  exact scan1 l.length f75_k10 (f75_l13 l l f75_k10) (fun m k hk => by
    rw [f75_l13.eq_2, lt_len l k hk, gi_nat]
    simp only [List.getElem?_eq_getElem hk, Option.bind_some, cond_true, Val.eqB_refl, Bool.not_true, cond_false])
    (fun m => by rw [f75_l13.eq_2, ge_len]; rfl) (by omega) hl
theorem f27_refl {n : Nat} {g : Graph} (hg : GraphSz n g) (hn : n < 4611686018427387904) : f27 n g g = some true := by
  unfold f27 f27_k8
  rw [f75_refl hg.2.1 hn, bne_len, beq_self_eq_true]
  exact scan1 g.fNodes.length f27_k15 (f27_l18 g g n f27_k15) (fun m k hk => by
    rw [f27_l18.eq_2, lt_len _ k hk, gi_nat]
    simp only [List.getElem?_eq_getElem hk, Option.bind_some, cond_true]
    rw [f75_refl (hg.2.2 _ (List.getElem_mem hk)) hn]
    simp only [Option.bind_some, Bool.not_true, cond_false, sEqF_refl]
    rfl)
    (fun m => by rw [f27_l18.eq_2, ge_len]; rfl) (by have := hg.1; omega) hg.1
theorem f31_tot {n : Nat} {L : List Rule} (hL : L.length < n) (hn : n < 4611686018427387904) : ∃ r, f31 n L = some r := by
  have hK : ∃ r, f31_k3 L = some r := by
    unfold f31_k3 f31_k32
    cases decide (len L ≤ 8) <;> cases decide (len L > 24) <;> exact ⟨_, rfl⟩
  unfold f31
  have h := scanN L.length (f31_k3 L) (fun k acc => match L[k]? with | some r => bif decide (len r.fGives > 8) then some false else acc | none => none) (f31_l6 L (f31_k3 L)) (fun m k hk => by
    rw [f31_l6.eq_2, lt_len L k hk, gi_nat]
    simp only [List.getElem?_eq_getElem hk, Option.bind_some, cond_true]) (fun m => by rw [f31_l6.eq_2, ge_len]; rfl) (by omega) L.length 0 n (by omega) hL
  have h' : f31_l6 L (f31_k3 L) n 0 = _ := h
  rw [h']
  refine goN_tot _ L.length (fun k acc hk ha => ?_) L.length 0 _ (by omega) hK
  simp only [List.getElem?_eq_getElem hk]
  cases decide (len L[k].fGives > 8)
  · exact ha
  · exact ⟨_, rfl⟩
theorem formSz_ok2 {l : List Form} {B n : Nat} (h : l.length ≤ B ∧ ∀ y ∈ l, Form.ok B y) (hn : B < n) : FormSz n l :=
  ⟨by omega, fun f hf => ⟨by have := (h.2 f hf).1; omega, by have := (h.2 f hf).2.1; omega, fun c hc => by have := ((h.2 f hf).2.2 c hc).1; omega⟩⟩
theorem graphSz_ok2 {g : Graph} {B n : Nat} (h : Graph.ok B g) (hn : B < n) : GraphSz n g :=
  ⟨by have := h.1.1; omega, by have := h.2.1; omega, fun x hx => by have := (h.1.2 x hx).2.1; omega⟩
end Go.Proofs
end
section
set_option linter.unusedVariables false
set_option linter.unusedSimpArgs false
namespace Go.Proofs
open Go.Vm
section
variable {n : Nat} {A B C : List Form} {L M : List Rule} {g : Graph}
theorem bne0 {x : Int} (h : (x != 0) = false) : x = 0 := by simpa using h
theorem f33_one (hA : FormSz n A) (hB : FormSz n B) (hL : L.length < n) (h9 : 100 < n) (hn : n < 4611686018427387904) :
    ∃ e, f33 n A B L = some e ∧ (e = 0 → f16 n A = some 0 ∧ f16 n B = some 0 ∧ rulesE A B L = 0) ∧ (f16 n A = some 0 → f16 n B = some 0 → e = rulesE A B L) := by
  obtain ⟨a, ha⟩ := f16_tot hA h9 hn
  obtain ⟨b, hb⟩ := f16_tot hB h9 hn
  have hz := ruleSz hA hB hL
  unfold f33
  rw [ha, hb]
  simp only [Option.bind_some]
  rw [f49_two h9, f80_eq hz hn]
  simp only [Option.bind_some]
  cases h1 : a != 0 with
  | true =>
    simp only [cond_true, h1]
    exact ⟨a, rfl, fun h => (by rw [h] at h1; cases h1), fun h => by rw [Option.some.inj h] at h1; cases h1⟩
  | false =>
    have h1' := bne0 h1
    subst h1'
    cases h2 : b != 0 with
    | true =>
      simp only [cond_false, cond_true, h2]
      exact ⟨b, rfl, fun h => (by rw [h] at h2; cases h2), fun _ h => by rw [Option.some.inj h] at h2; cases h2⟩
    | false =>
      have h2' := bne0 h2
      subst h2'
      exact ⟨rulesE A B L, rfl, fun h => ⟨rfl, rfl, h⟩, fun _ _ => rfl⟩
theorem convR_sz2 (hz : RuleSz n A B L) (hg : GraphSz n g) (hr : rulesE A B L = 0) (hc : ∀ x ∈ g.fNodes, ¬ formIx A x.fClass < 0) : GraphSz n (convR A B L g).1 := convR_sz hz hg hr hc
theorem f32_one (hA : FormSz n A) (hB : FormSz n B) (hL : L.length < n) (hg : GraphSz n g) (h9 : 100 < n) (hn : n < 1000000000) (hr : rulesE A B L = 0) (h1 : f16 n A = some 0) (h2 : f16 n B = some 0) (hgd : GoodG A g) :
    f32 n A B L g = some (convR A B L g) := by
  have hz := ruleSz hA hB hL
  obtain ⟨e, e1, _, e3⟩ := f33_one hA hB hL h9 (by omega)
  have he : e = 0 := by rw [e3 h1 h2, hr]
  subst he
  unfold f32
  rw [e1]
  simp only [Option.bind_some]
  rw [f49_one h9]
  simp only [Option.bind_some, show ((0 : Int) != 0) = false from rfl, cond_false]
  rw [(f59_good hA hg (by omega)).2 hgd]
  simp only [Option.bind_some, show ((0 : Int) != 0) = false from rfl, cond_false]
  rw [app2_eq (by have := hg.2.1; simp; omega)]
  simp only [Option.bind_some]
  rw [f32_l hz hg hn hr (fun x hx => ⟨hgd.cl x hx, hgd.ln x hx⟩)]
  unfold convR f32_k25
  cases fin (nodeMk A B L g) g.fNodes.length 0 [] <;> rfl
theorem f38_one (hA : FormSz n A) (hB : FormSz n B) (hC : FormSz n C) (hL : L.length < n) (hM : M.length < n) (h9 : 100 < n) (hn : n < 1000000000) :
    ∃ l e, f38 n A B C L M = some (l, e) ∧ RulesSz n l ∧ (e = 0 → Chained A B C L M l ∧ f16 n A = some 0 ∧ f16 n B = some 0 ∧ f16 n C = some 0) := by
  have hn' : n < 4611686018427387904 := by omega
  have h0 : RulesSz n [] := ⟨by show 0 < n; omega, fun x hx => nomatch hx⟩
  obtain ⟨a, ha⟩ := f16_tot hA h9 hn'
  obtain ⟨b, hb⟩ := f16_tot hB h9 hn'
  obtain ⟨c, hc⟩ := f16_tot hC h9 hn'
  have hz1 := ruleSz hA hB hL
  have hz2 := ruleSz hB hC hM
  unfold f38
  rw [ha, hb, hc]
  simp only [Option.bind_some]
  rw [f49_tri h9, f80_eq hz1 hn', f80_eq hz2 hn']
  simp only [Option.bind_some]
  rw [f49_two h9]
  simp only [Option.bind_some]
  have z1 : ((0 : Int) != 0) = false := rfl
  cases h1 : a != 0 with
  | true =>
    refine ⟨[], a, ?_, h0, fun h => by rw [h] at h1; cases h1⟩
    simp only [h1, cond_true]
  | false =>
  obtain rfl := bne0 h1
  cases h2 : b != 0 with
  | true =>
    refine ⟨[], b, ?_, h0, fun h => by rw [h] at h2; cases h2⟩
    simp only [h2, z1, cond_true, cond_false]
  | false =>
  obtain rfl := bne0 h2
  cases h3 : c != 0 with
  | true =>
    refine ⟨[], c, ?_, h0, fun h => by rw [h] at h3; cases h3⟩
    simp only [h3, z1, cond_true, cond_false]
  | false =>
  obtain rfl := bne0 h3
  have oA := formsOk_of hA h9 hn' ha
  have oB := formsOk_of hB h9 hn' hb
  have oC := formsOk_of hC h9 hn' hc
  simp only [Option.bind_some, z1, cond_true, cond_false]
  cases h4 : rulesE A B L != 0 with
  | true =>
    refine ⟨[], rulesE A B L, ?_, h0, fun h => by rw [h] at h4; cases h4⟩
    simp only [h4, cond_true]
  | false =>
  have e4 := bne0 h4
  cases h5 : rulesE B C M != 0 with
  | true =>
    refine ⟨[], rulesE B C M, ?_, h0, fun h => by rw [h] at h5; cases h5⟩
    simp only [h5, cond_true, cond_false]
  | false =>
  have e5 := bne0 h5
  simp only [h5, cond_false]
  rw [f38_l oB hz1 hz2 e4 e5 hn]
  cases hf : fin (ruleMk A B L M) A.length 0 [] with
  | inr u => exact ⟨[], 5, rfl, h0, fun h => by cases h⟩
  | inl l => exact ⟨l, 0, rfl, ruleMk_sz oB hz1 hz2 e4 e5 hf, fun _ => ⟨⟨oA, oB, oC, e4, e5, hf⟩, by first | rfl | trivial, by first | rfl | trivial, by first | rfl | trivial⟩⟩
theorem f18_one (hA : FormSz n A) (hg : GraphSz n g) (h9 : 100 < n) (hn : n < 4611686018427387904) : ∃ e, f18 n A g = some e ∧ (e = 0 → GoodG A g) := by
  obtain ⟨a, ha⟩ := f16_tot hA h9 hn
  obtain ⟨d, d1, _⟩ := f59_f19 ha hA hg h9 hn
  unfold f18
  rw [ha]
  simp only [Option.bind_some]
  cases h1 : a != 0 with
  | true => exact ⟨a, rfl, fun h => by rw [h] at h1; cases h1⟩
  | false =>
    simp only [cond_false]
    rw [d1]
    exact ⟨d, rfl, fun h => by rw [h] at d1; exact (f59_good hA hg hn).1 d1⟩
theorem f11_true {G : Graph} (hA : FormSz n A) (hB : FormSz n B) (hC : FormSz n C) (hL : L.length < n) (hM : M.length < n) (hg : GraphSz n G) (h9 : 100 < n) (hn : n < 1000000000) : f11 n A B C L M G = some true := by
  have hn' : n < 4611686018427387904 := by omega
  have h1 : f11_k9 n A B C L M G true = some true := by unfold f11_k9; rw [f15_tt]; rfl
  have h5 : ∀ c, f11_k9 n A B C L M G c = some true := fun c => by
    cases c
    · unfold f11_k9
      obtain ⟨l, e, e1, e2, e3⟩ := f38_one hA hB hC hL hM h9 hn
      obtain ⟨d, d1, d2⟩ := f18_one hA hg h9 hn'
      have k36 : f11_k36 n A C (l, e) G B L M true = some true := by unfold f11_k36; rw [f15_tt]; rfl
      rw [e1]
      simp only [Option.bind_some, cond_false]
      cases he : e != 0 with
      | true => exact k36
      | false =>
      have he' := bne0 he
      subst he'
      simp only [cond_false]
      rw [d1]
      simp only [Option.bind_some]
      cases hd : d != 0 with
      | true => exact k36
      | false =>
      have hd' := bne0 hd
      subst hd'
      obtain ⟨ch, a1, a2, a3⟩ := e3 rfl
      have gd := d2 rfl
      have hr := ch.right
      unfold f11_k36
      simp only [cond_false]
      rw [f32_one hA hC e2.ln hg h9 hn hr a1 a3 gd, f32_one hA hB hL hg h9 hn ch.h1 a1 a2 gd]
      simp only [Option.bind_some]
      obtain ⟨y, y1, _, y3⟩ := f33_one hA hC e2.ln h9 hn'
      rw [y1]
      have hy : y = 0 := by rw [y3 a1 a3, hr]
      subst hy
      simp only [Option.bind_some, show ((0 : Int) != 0) = false from rfl, cond_false]
      have k52 : f11_k52 (convR A B L G) (convR A C l G) n B C M false = some true := by
        unfold f11_k52
        simp only [cond_false]
        rw [f15_tt]
        simp only [Option.bind_some, cond_true]
        cases hf : fin (nodeMk A B L G) G.fNodes.length 0 [] with
        | inr r =>
          obtain ⟨r', hr'⟩ := ch.convNo gd hf
          unfold convR
          rw [hf, hr']
          rfl
        | inl ns =>
          have hc := ch.conv gd hf
          have hsz := convR_sz2 (ruleSz hA hB hL) hg ch.h1 gd.cl
          have hsz3 := convR_sz2 (ruleSz hA hC e2.ln) hg hr gd.cl
          have e1 : convR A B L G = (⟨ns, G.fRoots⟩, ⟨0, noS⟩, 0) := by unfold convR; rw [hf]; rfl
          rw [e1] at hsz ⊢
          simp only [show ((0 : Int) != 0) = false from rfl, cond_false]
          rw [f32_one hB hC hM hsz h9 hn ch.h2 a2 a3 (keepG ch.hA ch.hB ch.h1 gd hf), hc]
          simp only [Option.bind_some, beq_self_eq_true, cond_true]
          rw [f27_refl hsz3 hn']
          rfl
      have two : ∀ X Y : List Form, ∀ K : List Rule, (convR X Y K G).2.2 = 0 ∨ (convR X Y K G).2.2 = 10 := fun X Y K => by
        unfold convR
        cases fin (nodeMk X Y K G) G.fNodes.length 0 [] with
        | inl ns => exact .inl rfl
        | inr r => exact .inr rfl
      rcases two A C l with t1 | t1 <;> rcases two A B L with t2 | t2 <;> rw [t1, t2] <;> exact k52
    · exact h1
  obtain ⟨a, ha⟩ := f13_tot hA hn'
  obtain ⟨b, hb⟩ := f13_tot hB hn'
  obtain ⟨c, hc⟩ := f13_tot hC hn'
  obtain ⟨d, hd⟩ := f31_tot hL hn'
  obtain ⟨e, he⟩ := f31_tot hM hn'
  obtain ⟨f, hf⟩ := f14_tot hg hn'
  unfold f11
  rw [ha, hb, hc, hd, he, hf]
  cases a <;> cases b <;> cases c <;> cases d <;> cases e <;> simp [h5]
end
theorem packChainsAgreeplain {A B C : List Form} {L M : List Rule} {g : Graph} (hA : A.length ≤ 1048576 ∧ ∀ y ∈ A, Form.ok 1048576 y) (hB : B.length ≤ 1048576 ∧ ∀ y ∈ B, Form.ok 1048576 y) (hC : C.length ≤ 1048576 ∧ ∀ y ∈ C, Form.ok 1048576 y)
    (hL : L.length ≤ 1048576 ∧ ∀ y ∈ L, Rule.ok 1048576 y) (hM : M.length ≤ 1048576 ∧ ∀ y ∈ M, Rule.ok 1048576 y) (hg : Graph.ok 1048576 g) : ∃ n, f11 n A B C L M g = some true :=
  ⟨4194304, f11_true (formSz_ok2 hA (by decide)) (formSz_ok2 hB (by decide)) (formSz_ok2 hC (by decide)) (by omega) (by omega) (graphSz_ok2 hg (by decide)) (by decide) (by decide)⟩
end Go.Proofs
end
