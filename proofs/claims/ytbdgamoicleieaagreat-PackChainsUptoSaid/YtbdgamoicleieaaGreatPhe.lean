/- Texts of this claim, one behind the other. -/
import Derived.Test.YtbdgamoicleieaaGreatPhd
import Derived.Laws.RangeAny
import Derived.Laws.RangeString
set_option linter.unusedVariables false
set_option linter.unusedSimpArgs false
set_option linter.unnecessarySimpa false
section
set_option linter.unusedVariables false
set_option maxRecDepth 100000
set_option maxHeartbeats 4000000
namespace Go.Proofs
open Go.Vm
attribute [local irreducible] vOps vDraw vC vK retP retH PureSpec HSpec
theorem ic91 : fnIC Tryz.prog H0 91 = some ([.cell 4 82, .tmp 5], 108, (.seq (.ops [zO 2 (.box 0 82 [] (.t 0)), zO 3 (.box 0 82 [] (.t 1)), zO 4 (.alloc 0 82 [] [(.string ⟨#[]⟩), (.int .i64 0), (.int .i64 0)]), zO 5 (.mov (.c (.bool false)))]) (.seq (.seq (.ops [zO 6 (.faddr (.t 3) 1), zO 7 (.ld (.t 6) 1 false), zO 8 (.sc (.bin .eql 3) [(.t 7), (.c (.int .i64 1))])]) (.cond (.t 8)
  (.seq (.ops [zO 9 (.ld (.t 2) 3 true), zU (.st true 3 [] (.t 4) (.t 9)), zO 5 (.mov (.c (.bool true)))]) .ret)
  .skip)) (.seq (.block 0 (.seq (.ops [zO 11 (.faddr (.t 2) 1), zO 12 (.ld (.t 11) 1 false), zO 13 (.sc (.bin .eql 3) [(.t 12), (.c (.int .i64 1))]), zM 10 13]) (.cond (.t 10)
  (.seq (.ops [zO 14 (.faddr (.t 2) 0), zO 15 (.ld (.t 14) 1 false), zO 16 (.faddr (.t 3) 0), zU (.st true 1 [] (.t 16) (.t 15))]) (.seq (.ops [zO 17 (.ld (.t 3) 3 true), zU (.st true 3 [] (.t 4) (.t 17)), zO 5 (.mov (.c (.bool true)))]) .ret))
  (.seq (.ops [zO 19 (.faddr (.t 2) 1), zO 20 (.ld (.t 19) 1 false), zO 21 (.sc (.bin .eql 3) [(.t 20), (.c (.int .i64 2))]), zM 22 21, zG 23 22 true (.faddr (.t 3) 1), zG 24 22 true (.ld (.t 23) 1 false), zG 25 22 true (.sc (.bin .eql 3) [(.t 24), (.c (.int .i64 3))]), zO 26 (.pick (.t 22) (.t 25) (.c (.bool false))), zM 18 26]) (.cond (.t 18)
  (.seq (.ops [zO 27 (.faddr (.t 2) 0), zO 28 (.ld (.t 27) 1 false), zO 29 (.bld [(.string ⟨#[]⟩), (.int .i64 0), (.int .i64 0)] [(0, 1, (.t 28)), (1, 1, (.c (.int .i64 1)))]), zU (.st true 3 [] (.t 4) (.t 29)), zO 5 (.mov (.c (.bool true)))]) .ret)
  (.seq (.ops [zO 31 (.faddr (.t 2) 1), zO 32 (.ld (.t 31) 1 false), zO 33 (.sc (.bin .eql 3) [(.t 32), (.c (.int .i64 2))]), zM 34 33, zG 35 34 true (.faddr (.t 3) 1), zG 36 34 true (.ld (.t 35) 1 false), zG 37 34 true (.sc (.bin .eql 3) [(.t 36), (.c (.int .i64 4))]), zO 38 (.pick (.t 34) (.t 37) (.c (.bool false))), zM 30 38]) (.cond (.t 30)
  (.seq (.draw [] [zQ (zO 39 (.ld (.t 2) 3 true)), ⟨zO 40 (.faddr (.t 3) 2), false, 0, 1⟩, ⟨zO 41 (.ld (.t 40) 1 false), false, 0, 1⟩, ⟨zO 42 (.sc (.bin .geq 3) [(.t 41), (.c (.int .i64 2))]), false, 0, 1⟩, ⟨zU (.st true 3 [] (.t 4) (.t 39)), true, 0, 1⟩, ⟨zM 5 42, false, 1, 1⟩]) .ret)
  (.seq (.ops [zO 44 (.faddr (.t 2) 1), zO 45 (.ld (.t 44) 1 false), zO 46 (.sc (.bin .eql 3) [(.t 45), (.c (.int .i64 4))]), zM 47 46, zG 48 47 true (.faddr (.t 3) 1), zG 49 47 true (.ld (.t 48) 1 false), zG 50 47 true (.sc (.bin .eql 3) [(.t 49), (.c (.int .i64 4))]), zO 51 (.pick (.t 47) (.t 50) (.c (.bool false))), zM 43 51]) (.cond (.t 43)
  (.seq (.ops [zO 52 (.faddr (.t 2) 2), zO 53 (.ld (.t 52) 1 false), zO 54 (.faddr (.t 3) 2), zO 55 (.ld (.t 54) 1 false), zO 56 (.sc .mn [(.t 53), (.t 55)]), zO 57 (.faddr (.t 2) 2), zU (.st true 1 [] (.t 57) (.t 56))]) (.seq (.ops [zO 58 (.ld (.t 2) 3 true), zU (.st true 3 [] (.t 4) (.t 58)), zO 5 (.mov (.c (.bool true)))]) .ret))
  (.seq (.ops [zO 60 (.faddr (.t 2) 1), zO 61 (.ld (.t 60) 1 false), zO 62 (.sc (.bin .eql 3) [(.t 61), (.c (.int .i64 5))]), zM 63 62, zG 64 63 true (.faddr (.t 3) 1), zG 65 63 true (.ld (.t 64) 1 false), zG 66 63 true (.sc (.bin .eql 3) [(.t 65), (.c (.int .i64 5))]), zO 67 (.pick (.t 63) (.t 66) (.c (.bool false))), zM 59 67]) (.cond (.t 59)
  (.seq (.ops [zO 68 (.ld (.t 2) 3 true), zU (.st true 3 [] (.t 4) (.t 68)), zO 5 (.mov (.c (.bool true)))]) .ret)
  (.seq (.ops [zO 70 (.faddr (.t 2) 1), zO 71 (.ld (.t 70) 1 false), zO 72 (.sc (.bin .eql 3) [(.t 71), (.c (.int .i64 6))]), zM 73 72, zG 74 73 true (.faddr (.t 3) 1), zG 75 73 true (.ld (.t 74) 1 false), zG 76 73 true (.sc (.bin .eql 3) [(.t 75), (.c (.int .i64 2))]), zO 77 (.pick (.t 73) (.t 76) (.c (.bool false))), zM 69 77]) (.cond (.t 69)
  (.seq (.ops [zO 78 (.ld (.t 2) 3 true), zU (.st true 3 [] (.t 4) (.t 78)), zO 5 (.mov (.c (.bool true)))]) .ret)
  (.seq (.ops [zO 80 (.faddr (.t 2) 1), zO 81 (.ld (.t 80) 1 false), zO 82 (.sc (.bin .eql 3) [(.t 81), (.c (.int .i64 6))]), zM 83 82, zG 84 83 true (.faddr (.t 3) 1), zG 85 83 true (.ld (.t 84) 1 false), zG 86 83 true (.sc (.bin .eql 3) [(.t 85), (.c (.int .i64 3))]), zO 87 (.pick (.t 83) (.t 86) (.c (.bool false))), zM 79 87]) (.cond (.t 79)
  (.seq (.draw [] [zQ (zO 88 (.ld (.t 2) 3 true)), zQ (zO 89 (.faddr (.t 2) 2)), zQ (zO 90 (.ld (.t 89) 1 false)), zQ (zO 91 (.call 86 [(.t 90), (.c (.int .i64 0)), (.c (.int .i64 1))])), ⟨zU (.st true 3 [] (.t 4) (.t 88)), true, 0, 1⟩, ⟨zM 5 91, false, 1, 1⟩]) .ret)
  (.seq (.ops [zO 93 (.faddr (.t 2) 1), zO 94 (.ld (.t 93) 1 false), zO 95 (.sc (.bin .eql 3) [(.t 94), (.c (.int .i64 6))]), zM 96 95, zG 97 96 true (.faddr (.t 3) 1), zG 98 96 true (.ld (.t 97) 1 false), zG 99 96 true (.sc (.bin .eql 3) [(.t 98), (.c (.int .i64 4))]), zO 100 (.pick (.t 96) (.t 99) (.c (.bool false))), zM 92 100]) (.cond (.t 92)
  (.seq (.draw [] [zQ (zO 101 (.ld (.t 2) 3 true)), ⟨zO 102 (.faddr (.t 2) 2), false, 0, 1⟩, ⟨zO 103 (.ld (.t 102) 1 false), false, 0, 1⟩, ⟨zO 104 (.faddr (.t 3) 2), false, 0, 1⟩, ⟨zO 105 (.ld (.t 104) 1 false), false, 0, 1⟩, ⟨zO 106 (.sc (.bin .lss 3) [(.t 103), (.t 105)]), false, 0, 1⟩, ⟨zU (.st true 3 [] (.t 4) (.t 101)), true, 0, 1⟩, ⟨zM 5 106, false, 1, 1⟩]) .ret)
  .skip))))))))))))))))) (.seq (.ops [zO 107 (.bld [(.string ⟨#[]⟩), (.int .i64 0), (.int .i64 0)] []), zU (.st true 3 [] (.t 4) (.t 107)), zO 5 (.mov (.c (.bool false)))]) .ret))))) := by kernel_rfl
def f121_k47 (a1 : Give) (a2 : Give) (x49 : Bool) : Option (Give × Bool) := (bif x49 then some (a1, (decide (a1.fN < a2.fN))) else some ((Give.mk (ByteArray.mk #[]) 0 0), false))
def f121_k40 (n : Nat) (a1 : Give) (a2 : Give) (x42 : Bool) : Option (Give × Bool) := (bif x42 then ((f86 n a1.fN 0 1).bind fun r45 => some (a1, r45)) else (bif (a1.fHow == 6) then (f121_k47 a1 a2 (a2.fHow == 4)) else (f121_k47 a1 a2 false)))
def f121_k35 (a1 : Give) (a2 : Give) (n : Nat) (x37 : Bool) : Option (Give × Bool) := (bif x37 then some (a1, true) else (bif (a1.fHow == 6) then (f121_k40 n a1 a2 (a2.fHow == 3)) else (f121_k40 n a1 a2 false)))
def f121_k30 (a1 : Give) (a2 : Give) (n : Nat) (x32 : Bool) : Option (Give × Bool) := (bif x32 then some (a1, true) else (bif (a1.fHow == 6) then (f121_k35 a1 a2 n (a2.fHow == 2)) else (f121_k35 a1 a2 n false)))
def f121_k24 (a1 : Give) (a2 : Give) (n : Nat) (x26 : Bool) : Option (Give × Bool) := (bif x26 then some ((Give.mk a1.fFrom a1.fHow (mnI a1.fN a2.fN)), true) else (bif (a1.fHow == 5) then (f121_k30 a1 a2 n (a2.fHow == 5)) else (f121_k30 a1 a2 n false)))
def f121_k19 (a1 : Give) (a2 : Give) (n : Nat) (x21 : Bool) : Option (Give × Bool) := (bif x21 then some (a1, (decide (a2.fN ≥ 2))) else (bif (a1.fHow == 4) then (f121_k24 a1 a2 n (a2.fHow == 4)) else (f121_k24 a1 a2 n false)))
def f121_k14 (a1 : Give) (a2 : Give) (n : Nat) (x16 : Bool) : Option (Give × Bool) := (bif x16 then some ((Give.mk a1.fFrom 1 0), true) else (bif (a1.fHow == 2) then (f121_k19 a1 a2 n (a2.fHow == 4)) else (f121_k19 a1 a2 n false)))
def f121 (n : Nat) (a1 : Give) (a2 : Give) : Option (Give × Bool) := (bif (a2.fHow == 1) then some (a1, true) else (bif (a1.fHow == 1) then some ((Give.mk a1.fFrom a2.fHow a2.fN), true) else (bif (a1.fHow == 2) then (f121_k14 a1 a2 n (a2.fHow == 3)) else (f121_k14 a1 a2 n false))))
def f121_r (r : (Give × Bool)) : AV := (.tup [(.agg [(vS r.1.fFrom), (vI r.1.fHow), (vI r.1.fN)]), (vB r.2)])
theorem p_f121 {n : Nat} {a1 : Give} {a2 : Give} {r : (Give × Bool)} (h : f121 n a1 a2 = some r) : PureSpec Tryz.prog 91 [(.agg [(vS a1.fFrom), (vI a1.fHow), (vI a1.fN)]), (.agg [(vS a2.fFrom), (vI a2.fHow), (vI a2.fN)])] (f121_r r) := by
 rw [f121.eq_1] at h
 refine pure_of hmix ic91 ?_
 refine go_to (mkd (.val undef) 108 0 [(0, (.agg [(vS a1.fFrom), (vI a1.fHow), (vI a1.fN)])), (1, (.agg [(vS a2.fFrom), (vI a2.fHow), (vI a2.fN)]))]) ?_
 refine s_so fun N3 k3 w3 => ?_
 refine o_h4 [(2, (.ptr 0 0)), (3, (.ptr 1 0)), (4, (.ptr 2 0)), (5, (vB false))] [(some (.box 82 [(vS a1.fFrom), (vI a1.fHow), (vI a1.fN)])), (some (.box 82 [(vS a2.fFrom), (vI a2.fHow), (vI a2.fN)])), (some (.box 82 [(vS (ByteArray.mk #[])), (vI 0), (vI 0)]))] ?_
 refine o_end (k3 _ ?_)
 refine s_seq fun N4 k4 w4 => ?_
 refine s_so fun N5 k5 w5 => ?_
 refine o_r3 [(6, (.ptr 1 1)), (7, (vI a2.fHow)), (8, (vB (a2.fHow == 1)))] ?_
 refine o_end (k5 _ ?_)
 refine i_c [8] h (fun h => ?_) (fun h => ?_)
 · refine s_so fun N7 k7 w7 => ?_
   refine o_h3 [(5, (vB true)), (9, (.agg [(vS a1.fFrom), (vI a1.fHow), (vI a1.fN)]))] [(some (.box 82 [(vS a1.fFrom), (vI a1.fHow), (vI a1.fN)])), (some (.box 82 [(vS a2.fFrom), (vI a2.fHow), (vI a2.fN)])), (some (.box 82 [(vS a1.fFrom), (vI a1.fHow), (vI a1.fN)]))] ?_
   refine o_end (k7 _ ?_)
   exact c_ret (rets [] [(.agg [(vS a1.fFrom), (vI a1.fHow), (vI a1.fN)]), (vB true)] [(.agg [(vS a1.fFrom), (vI a1.fHow), (vI a1.fN)]), (vB true)] h)
 · refine c_skip (k4 _ ?_)
   refine s_seq fun N8 k8 w8 => ?_
   refine c_block fun E9 hE9 hO9 => ?_
   refine s_so fun N10 k10 w10 => ?_
   refine o_r4 [(10, (vB (a1.fHow == 1))), (11, (.ptr 0 1)), (12, (vI a1.fHow)), (13, (vB (a1.fHow == 1)))] ?_
   refine o_end (k10 _ ?_)
   refine i_c [10, 13] h (fun h => ?_) (fun h => ?_)
   · refine s_so fun N12 k12 w12 => ?_
     refine o_h4 [(14, (.ptr 0 0)), (15, (vS a1.fFrom)), (16, (.ptr 1 0))] [(some (.box 82 [(vS a1.fFrom), (vI a1.fHow), (vI a1.fN)])), (some (.box 82 [(vS a1.fFrom), (vI a2.fHow), (vI a2.fN)])), (some (.box 82 [(vS (ByteArray.mk #[])), (vI 0), (vI 0)]))] ?_
     refine o_end (k12 _ ?_)
     refine s_so fun N13 k13 w13 => ?_
     refine o_h3 [(5, (vB true)), (17, (.agg [(vS a1.fFrom), (vI a2.fHow), (vI a2.fN)]))] [(some (.box 82 [(vS a1.fFrom), (vI a1.fHow), (vI a1.fN)])), (some (.box 82 [(vS a1.fFrom), (vI a2.fHow), (vI a2.fN)])), (some (.box 82 [(vS a1.fFrom), (vI a2.fHow), (vI a2.fN)]))] ?_
     refine o_end (k13 _ ?_)
     exact c_ret (rets [] [(.agg [(vS a1.fFrom), (vI a2.fHow), (vI a2.fN)]), (vB true)] [(.agg [(vS a1.fFrom), (vI a2.fHow), (vI a2.fN)]), (vB true)] h)
   · refine J1 (r := r) (fun (x16 : Bool) => ⟨(mkd .any 108 0 [(2, (.ptr 0 0)), (3, (.ptr 1 0)), (4, (.ptr 2 0)), (18, (vB x16))]), [(some (.box 82 [(vS a1.fFrom), (vI a1.fHow), (vI a1.fN)])), (some (.box 82 [(vS a2.fFrom), (vI a2.fHow), (vI a2.fN)])), (some (.box 82 [(vS (ByteArray.mk #[])), (vI 0), (vI 0)]))]⟩) (f121_k14 a1 a2 n) ?_ ?_
     · intro x16 h
       rw [f121_k14.eq_1] at h
       refine i_c [18] h (fun h => ?_) (fun h => ?_)
       · refine s_so fun N18 k18 w18 => ?_
         refine o_h5 [(5, (vB true)), (27, (.ptr 0 0)), (28, (vS a1.fFrom)), (29, (.agg [(vS a1.fFrom), (vI 1), (vI 0)]))] [(some (.box 82 [(vS a1.fFrom), (vI a1.fHow), (vI a1.fN)])), (some (.box 82 [(vS a2.fFrom), (vI a2.fHow), (vI a2.fN)])), (some (.box 82 [(vS a1.fFrom), (vI 1), (vI 0)]))] ?_
         refine o_end (k18 _ ?_)
         exact c_ret (rets [] [(.agg [(vS a1.fFrom), (vI 1), (vI 0)]), (vB true)] [(.agg [(vS a1.fFrom), (vI 1), (vI 0)]), (vB true)] h)
       · refine J1 (r := r) (fun (x21 : Bool) => ⟨(mkd .any 108 0 [(2, (.ptr 0 0)), (3, (.ptr 1 0)), (4, (.ptr 2 0)), (30, (vB x21))]), [(some (.box 82 [(vS a1.fFrom), (vI a1.fHow), (vI a1.fN)])), (some (.box 82 [(vS a2.fFrom), (vI a2.fHow), (vI a2.fN)])), (some (.box 82 [(vS (ByteArray.mk #[])), (vI 0), (vI 0)]))]⟩) (f121_k19 a1 a2 n) ?_ ?_
         · intro x21 h
           rw [f121_k19.eq_1] at h
           refine i_c [30] h (fun h => ?_) (fun h => ?_)
           · refine s_seq fun N23 k23 w23 => ?_
             refine c_draw0 ?_
             refine d_r4 [(39, (.agg [(vS a1.fFrom), (vI a1.fHow), (vI a1.fN)])), (40, (.ptr 1 2)), (41, (vI a2.fN)), (42, (vB (decide (a2.fN ≥ 2))))] ?_
             refine d_te (.val undef) [(some (.box 82 [(vS a1.fFrom), (vI a1.fHow), (vI a1.fN)])), (some (.box 82 [(vS a2.fFrom), (vI a2.fHow), (vI a2.fN)])), (some (.box 82 [(vS a1.fFrom), (vI a1.fHow), (vI a1.fN)]))] (ra_cat ra_nil (ra_s (ra_t (ra_t (ra_t ra_nil))))) ?_
             refine d_r1 [(5, (vB (decide (a2.fN ≥ 2))))] ?_
             refine d_end (k23 _ ?_)
             exact c_ret (rets [] [(.agg [(vS a1.fFrom), (vI a1.fHow), (vI a1.fN)]), (vB (decide (a2.fN ≥ 2)))] [(.agg [(vS a1.fFrom), (vI a1.fHow), (vI a1.fN)]), (vB (decide (a2.fN ≥ 2)))] h)
           · refine J1 (r := r) (fun (x26 : Bool) => ⟨(mkd .any 108 0 [(2, (.ptr 0 0)), (3, (.ptr 1 0)), (4, (.ptr 2 0)), (43, (vB x26))]), [(some (.box 82 [(vS a1.fFrom), (vI a1.fHow), (vI a1.fN)])), (some (.box 82 [(vS a2.fFrom), (vI a2.fHow), (vI a2.fN)])), (some (.box 82 [(vS (ByteArray.mk #[])), (vI 0), (vI 0)]))]⟩) (f121_k24 a1 a2 n) ?_ ?_
             · intro x26 h
               rw [f121_k24.eq_1] at h
               refine i_c [43] h (fun h => ?_) (fun h => ?_)
               · refine s_so fun N28 k28 w28 => ?_
                 refine o_h7 [(52, (.ptr 0 2)), (53, (vI a1.fN)), (54, (.ptr 1 2)), (55, (vI a2.fN)), (56, (vI (mnI a1.fN a2.fN))), (57, (.ptr 0 2))] [(some (.box 82 [(vS a1.fFrom), (vI a1.fHow), (vI (mnI a1.fN a2.fN))])), (some (.box 82 [(vS a2.fFrom), (vI a2.fHow), (vI a2.fN)])), (some (.box 82 [(vS (ByteArray.mk #[])), (vI 0), (vI 0)]))] ?_
                 refine o_end (k28 _ ?_)
                 refine s_so fun N29 k29 w29 => ?_
                 refine o_h3 [(5, (vB true)), (58, (.agg [(vS a1.fFrom), (vI a1.fHow), (vI (mnI a1.fN a2.fN))]))] [(some (.box 82 [(vS a1.fFrom), (vI a1.fHow), (vI (mnI a1.fN a2.fN))])), (some (.box 82 [(vS a2.fFrom), (vI a2.fHow), (vI a2.fN)])), (some (.box 82 [(vS a1.fFrom), (vI a1.fHow), (vI (mnI a1.fN a2.fN))]))] ?_
                 refine o_end (k29 _ ?_)
                 exact c_ret (rets [] [(.agg [(vS a1.fFrom), (vI a1.fHow), (vI (mnI a1.fN a2.fN))]), (vB true)] [(.agg [(vS a1.fFrom), (vI a1.fHow), (vI (mnI a1.fN a2.fN))]), (vB true)] h)
               · refine J1 (r := r) (fun (x32 : Bool) => ⟨(mkd .any 108 0 [(2, (.ptr 0 0)), (3, (.ptr 1 0)), (4, (.ptr 2 0)), (59, (vB x32))]), [(some (.box 82 [(vS a1.fFrom), (vI a1.fHow), (vI a1.fN)])), (some (.box 82 [(vS a2.fFrom), (vI a2.fHow), (vI a2.fN)])), (some (.box 82 [(vS (ByteArray.mk #[])), (vI 0), (vI 0)]))]⟩) (f121_k30 a1 a2 n) ?_ ?_
                 · intro x32 h
                   rw [f121_k30.eq_1] at h
                   refine i_c [59] h (fun h => ?_) (fun h => ?_)
                   · refine s_so fun N34 k34 w34 => ?_
                     refine o_h3 [(5, (vB true)), (68, (.agg [(vS a1.fFrom), (vI a1.fHow), (vI a1.fN)]))] [(some (.box 82 [(vS a1.fFrom), (vI a1.fHow), (vI a1.fN)])), (some (.box 82 [(vS a2.fFrom), (vI a2.fHow), (vI a2.fN)])), (some (.box 82 [(vS a1.fFrom), (vI a1.fHow), (vI a1.fN)]))] ?_
                     refine o_end (k34 _ ?_)
                     exact c_ret (rets [] [(.agg [(vS a1.fFrom), (vI a1.fHow), (vI a1.fN)]), (vB true)] [(.agg [(vS a1.fFrom), (vI a1.fHow), (vI a1.fN)]), (vB true)] h)
                   · refine J1 (r := r) (fun (x37 : Bool) => ⟨(mkd .any 108 0 [(2, (.ptr 0 0)), (3, (.ptr 1 0)), (4, (.ptr 2 0)), (69, (vB x37))]), [(some (.box 82 [(vS a1.fFrom), (vI a1.fHow), (vI a1.fN)])), (some (.box 82 [(vS a2.fFrom), (vI a2.fHow), (vI a2.fN)])), (some (.box 82 [(vS (ByteArray.mk #[])), (vI 0), (vI 0)]))]⟩) (f121_k35 a1 a2 n) ?_ ?_
                     · intro x37 h
                       rw [f121_k35.eq_1] at h
                       refine i_c [69] h (fun h => ?_) (fun h => ?_)
                       · refine s_so fun N39 k39 w39 => ?_
                         refine o_h3 [(5, (vB true)), (78, (.agg [(vS a1.fFrom), (vI a1.fHow), (vI a1.fN)]))] [(some (.box 82 [(vS a1.fFrom), (vI a1.fHow), (vI a1.fN)])), (some (.box 82 [(vS a2.fFrom), (vI a2.fHow), (vI a2.fN)])), (some (.box 82 [(vS a1.fFrom), (vI a1.fHow), (vI a1.fN)]))] ?_
                         refine o_end (k39 _ ?_)
                         exact c_ret (rets [] [(.agg [(vS a1.fFrom), (vI a1.fHow), (vI a1.fN)]), (vB true)] [(.agg [(vS a1.fFrom), (vI a1.fHow), (vI a1.fN)]), (vB true)] h)
                       · refine J1 (r := r) (fun (x42 : Bool) => ⟨(mkd .any 108 0 [(2, (.ptr 0 0)), (3, (.ptr 1 0)), (4, (.ptr 2 0)), (79, (vB x42))]), [(some (.box 82 [(vS a1.fFrom), (vI a1.fHow), (vI a1.fN)])), (some (.box 82 [(vS a2.fFrom), (vI a2.fHow), (vI a2.fN)])), (some (.box 82 [(vS (ByteArray.mk #[])), (vI 0), (vI 0)]))]⟩) (f121_k40 n a1 a2) ?_ ?_
                         · intro x42 h
                           rw [f121_k40.eq_1] at h
                           refine i_c [79] h (fun h => ?_) (fun h => ?_)
                           · refine s_seq fun N44 k44 w44 => ?_
                             refine c_draw0 ?_
                             refine d_r3 [(88, (.agg [(vS a1.fFrom), (vI a1.fHow), (vI a1.fN)])), (89, (.ptr 0 2)), (90, (vI a1.fN))] ?_
                             refine bnd h fun r45 g46 h => ?_
                             refine d_o (one_call (p_f86 g46)) ?_
                             refine d_te (.val undef) [(some (.box 82 [(vS a1.fFrom), (vI a1.fHow), (vI a1.fN)])), (some (.box 82 [(vS a2.fFrom), (vI a2.fHow), (vI a2.fN)])), (some (.box 82 [(vS a1.fFrom), (vI a1.fHow), (vI a1.fN)]))] (ra_cat (ra_cat ra_nil (ra_s (ra_s (ra_s ra_nil)))) (ra_s ra_nil)) ?_
                             refine d_r1 [(5, (vB r45))] ?_
                             refine d_end (k44 _ ?_)
                             exact c_ret (rets [] [(.agg [(vS a1.fFrom), (vI a1.fHow), (vI a1.fN)]), (vB r45)] [(.agg [(vS a1.fFrom), (vI a1.fHow), (vI a1.fN)]), (vB r45)] h)
                           · refine J1 (r := r) (fun (x49 : Bool) => ⟨(mkd .any 108 0 [(2, (.ptr 0 0)), (3, (.ptr 1 0)), (4, (.ptr 2 0)), (92, (vB x49))]), [(some (.box 82 [(vS a1.fFrom), (vI a1.fHow), (vI a1.fN)])), (some (.box 82 [(vS a2.fFrom), (vI a2.fHow), (vI a2.fN)])), (some (.box 82 [(vS (ByteArray.mk #[])), (vI 0), (vI 0)]))]⟩) (f121_k47 a1 a2) ?_ ?_
                             · intro x49 h
                               rw [f121_k47.eq_1] at h
                               refine i_c [92] h (fun h => ?_) (fun h => ?_)
                               · refine s_seq fun N51 k51 w51 => ?_
                                 refine c_draw0 ?_
                                 refine d_r6 [(101, (.agg [(vS a1.fFrom), (vI a1.fHow), (vI a1.fN)])), (102, (.ptr 0 2)), (103, (vI a1.fN)), (104, (.ptr 1 2)), (105, (vI a2.fN)), (106, (vB (decide (a1.fN < a2.fN))))] ?_
                                 refine d_te (.val undef) [(some (.box 82 [(vS a1.fFrom), (vI a1.fHow), (vI a1.fN)])), (some (.box 82 [(vS a2.fFrom), (vI a2.fHow), (vI a2.fN)])), (some (.box 82 [(vS a1.fFrom), (vI a1.fHow), (vI a1.fN)]))] (ra_cat ra_nil (ra_s (ra_t (ra_t (ra_t (ra_t (ra_t ra_nil))))))) ?_
                                 refine d_r1 [(5, (vB (decide (a1.fN < a2.fN))))] ?_
                                 refine d_end (k51 _ ?_)
                                 exact c_ret (rets [] [(.agg [(vS a1.fFrom), (vI a1.fHow), (vI a1.fN)]), (vB (decide (a1.fN < a2.fN)))] [(.agg [(vS a1.fFrom), (vI a1.fHow), (vI a1.fN)]), (vB (decide (a1.fN < a2.fN)))] h)
                               · refine c_skip (k8 _ ?_)
                                 refine s_so fun N52 k52 w52 => ?_
                                 refine o_r3 [(5, (vB false)), (107, (.agg [(vS (ByteArray.mk #[])), (vI 0), (vI 0)]))] ?_
                                 refine o_end (k52 _ ?_)
                                 exact c_ret (rets [] [(.agg [(vS (ByteArray.mk #[])), (vI 0), (vI 0)]), (vB false)] [(.agg [(vS (ByteArray.mk #[])), (vI 0), (vI 0)]), (vB false)] h)
                             · intro N47 w47
                               refine c_ops ?_
                               refine o_r4 [(93, (.ptr 0 1)), (94, (vI a1.fHow)), (95, (vB (a1.fHow == 6))), (96, (vB (a1.fHow == 6)))] ?_
                               refine i_o [95, 96] h (fun h => ?_) (fun h => ?_)
                               · refine o_r5 [(92, (vB (a2.fHow == 4))), (97, (.ptr 1 1)), (98, (vI a2.fHow)), (99, (vB (a2.fHow == 4))), (100, (vB (a2.fHow == 4)))] ?_
                                 exact o_end (w47 _ _ (wkm [2, 3, 4, 92] (whk (whk (whk wh_nil)))) h)
                               · refine o_r5 [(92, (vB false)), (97, (.val undef)), (98, (.val undef)), (99, (.val undef)), (100, (vB false))] ?_
                                 exact o_end (w47 _ _ (wkm [2, 3, 4, 92] (whk (whk (whk wh_nil)))) h)
                         · intro N40 w40
                           refine c_ops ?_
                           refine o_r4 [(80, (.ptr 0 1)), (81, (vI a1.fHow)), (82, (vB (a1.fHow == 6))), (83, (vB (a1.fHow == 6)))] ?_
                           refine i_o [82, 83] h (fun h => ?_) (fun h => ?_)
                           · refine o_r5 [(79, (vB (a2.fHow == 3))), (84, (.ptr 1 1)), (85, (vI a2.fHow)), (86, (vB (a2.fHow == 3))), (87, (vB (a2.fHow == 3)))] ?_
                             exact o_end (w40 _ _ (wkm [2, 3, 4, 79] (whk (whk (whk wh_nil)))) h)
                           · refine o_r5 [(79, (vB false)), (84, (.val undef)), (85, (.val undef)), (86, (.val undef)), (87, (vB false))] ?_
                             exact o_end (w40 _ _ (wkm [2, 3, 4, 79] (whk (whk (whk wh_nil)))) h)
                     · intro N35 w35
                       refine c_ops ?_
                       refine o_r4 [(70, (.ptr 0 1)), (71, (vI a1.fHow)), (72, (vB (a1.fHow == 6))), (73, (vB (a1.fHow == 6)))] ?_
                       refine i_o [72, 73] h (fun h => ?_) (fun h => ?_)
                       · refine o_r5 [(69, (vB (a2.fHow == 2))), (74, (.ptr 1 1)), (75, (vI a2.fHow)), (76, (vB (a2.fHow == 2))), (77, (vB (a2.fHow == 2)))] ?_
                         exact o_end (w35 _ _ (wkm [2, 3, 4, 69] (whk (whk (whk wh_nil)))) h)
                       · refine o_r5 [(69, (vB false)), (74, (.val undef)), (75, (.val undef)), (76, (.val undef)), (77, (vB false))] ?_
                         exact o_end (w35 _ _ (wkm [2, 3, 4, 69] (whk (whk (whk wh_nil)))) h)
                 · intro N30 w30
                   refine c_ops ?_
                   refine o_r4 [(60, (.ptr 0 1)), (61, (vI a1.fHow)), (62, (vB (a1.fHow == 5))), (63, (vB (a1.fHow == 5)))] ?_
                   refine i_o [62, 63] h (fun h => ?_) (fun h => ?_)
                   · refine o_r5 [(59, (vB (a2.fHow == 5))), (64, (.ptr 1 1)), (65, (vI a2.fHow)), (66, (vB (a2.fHow == 5))), (67, (vB (a2.fHow == 5)))] ?_
                     exact o_end (w30 _ _ (wkm [2, 3, 4, 59] (whk (whk (whk wh_nil)))) h)
                   · refine o_r5 [(59, (vB false)), (64, (.val undef)), (65, (.val undef)), (66, (.val undef)), (67, (vB false))] ?_
                     exact o_end (w30 _ _ (wkm [2, 3, 4, 59] (whk (whk (whk wh_nil)))) h)
             · intro N24 w24
               refine c_ops ?_
               refine o_r4 [(44, (.ptr 0 1)), (45, (vI a1.fHow)), (46, (vB (a1.fHow == 4))), (47, (vB (a1.fHow == 4)))] ?_
               refine i_o [46, 47] h (fun h => ?_) (fun h => ?_)
               · refine o_r5 [(43, (vB (a2.fHow == 4))), (48, (.ptr 1 1)), (49, (vI a2.fHow)), (50, (vB (a2.fHow == 4))), (51, (vB (a2.fHow == 4)))] ?_
                 exact o_end (w24 _ _ (wkm [2, 3, 4, 43] (whk (whk (whk wh_nil)))) h)
               · refine o_r5 [(43, (vB false)), (48, (.val undef)), (49, (.val undef)), (50, (.val undef)), (51, (vB false))] ?_
                 exact o_end (w24 _ _ (wkm [2, 3, 4, 43] (whk (whk (whk wh_nil)))) h)
         · intro N19 w19
           refine c_ops ?_
           refine o_r4 [(31, (.ptr 0 1)), (32, (vI a1.fHow)), (33, (vB (a1.fHow == 2))), (34, (vB (a1.fHow == 2)))] ?_
           refine i_o [33, 34] h (fun h => ?_) (fun h => ?_)
           · refine o_r5 [(30, (vB (a2.fHow == 4))), (35, (.ptr 1 1)), (36, (vI a2.fHow)), (37, (vB (a2.fHow == 4))), (38, (vB (a2.fHow == 4)))] ?_
             exact o_end (w19 _ _ (wkm [2, 3, 4, 30] (whk (whk (whk wh_nil)))) h)
           · refine o_r5 [(30, (vB false)), (35, (.val undef)), (36, (.val undef)), (37, (.val undef)), (38, (vB false))] ?_
             exact o_end (w19 _ _ (wkm [2, 3, 4, 30] (whk (whk (whk wh_nil)))) h)
     · intro N14 w14
       refine c_ops ?_
       refine o_r4 [(19, (.ptr 0 1)), (20, (vI a1.fHow)), (21, (vB (a1.fHow == 2))), (22, (vB (a1.fHow == 2)))] ?_
       refine i_o [21, 22] h (fun h => ?_) (fun h => ?_)
       · refine o_r5 [(18, (vB (a2.fHow == 3))), (23, (.ptr 1 1)), (24, (vI a2.fHow)), (25, (vB (a2.fHow == 3))), (26, (vB (a2.fHow == 3)))] ?_
         exact o_end (w14 _ _ (wkm [2, 3, 4, 18] (whk (whk (whk wh_nil)))) h)
       · refine o_r5 [(18, (vB false)), (23, (.val undef)), (24, (.val undef)), (25, (.val undef)), (26, (vB false))] ?_
         exact o_end (w14 _ _ (wkm [2, 3, 4, 18] (whk (whk (whk wh_nil)))) h)
theorem ic46 : fnIC Tryz.prog H0 46 = some ([.cell 6 71, .tmp 7], 103, (.seq (.ops [zO 3 (.box 0 71 [(2, 82, 3, 0)] (.t 0)), zO 4 (.box 0 71 [(2, 82, 3, 0)] (.t 1)), zO 6 (.alloc 0 71 [(2, 82, 3, 0)] [(.string ⟨#[]⟩), (.string ⟨#[]⟩), (.slice none 0 0)]), zO 7 (.mov (.c (.bool false)))]) (.seq (.ops [zO 16 (.faddr (.t 3) 0), zO 17 (.ld (.t 16) 1 false), zO 18 (.faddr (.t 4) 1), zO 19 (.ld (.t 18) 1 false), zO 20 (.bld [(.string ⟨#[]⟩), (.string ⟨#[]⟩), (.slice none 0 0)] [(0, 1, (.t 17)), (1, 1, (.t 19))]), zO 8 (.alloc 0 71 [(2, 82, 3, 0)] [(.string ⟨#[]⟩), (.string ⟨#[]⟩), (.slice none 0 0)]), zU (.st true 3 [(2, 82, 3, 0)] (.t 8) (.t 20))]) (.seq (.ops [zO 21 (.mkm 0), zM 9 21]) (.seq (.seq (.ops [zO 22 (.faddr (.t 4) 2), zO 23 (.ld (.t 22) 1 false), zO 24 (.len false (.t 23)), zO 25 (.mov (.c (.int .i64 0)))]) (.block 0 (.loop (.seq (.ops [zO 26 (.sc (.bin .lss 3) [(.t 25), (.t 24)])]) (.seq (.cond (.t 26)
  .skip
  (.exit 0)) (.seq (.block 1 (.seq (.ops [zO 27 (.iaddr 3 (.t 23) (.t 25)), zO 28 (.ld (.t 27) 3 true), zO 11 (.alloc 0 82 [] [(.string ⟨#[]⟩), (.int .i64 0), (.int .i64 0)]), zU (.st true 3 [] (.t 11) (.t 28))]) (.seq (.ops [zM 29 9, zO 30 (.faddr (.t 11) 0), zO 31 (.ld (.t 30) 1 false), zU (.mup none (.t 29) (.t 31) (.c (.bool true)))]) (.seq (.seq (.ops [zO 32 (.faddr (.t 11) 1), zO 33 (.ld (.t 32) 1 false), zO 34 (.sc (.bin .eql 3) [(.t 33), (.c (.int .i64 6))]), zM 35 34, zG 36 35 false (.faddr (.t 11) 1), zG 37 35 false (.ld (.t 36) 1 false), zG 38 35 false (.sc (.bin .eql 3) [(.t 37), (.c (.int .i64 7))]), zO 39 (.pick (.t 35) (.c (.bool true)) (.t 38))]) (.cond (.t 39)
  (.seq (.ops [zO 40 (.faddr (.t 8) 2), zO 41 (.ld (.t 40) 1 false), zO 42 (.ld (.t 11) 3 true), zO 43 (.isl 3 [(.t 42)]), zO 44 (.app 0 82 3 32 (.t 41) (.t 43)), zO 45 (.faddr (.t 8) 2), zU (.st true 1 [(0, 82, 3, 0)] (.t 45) (.t 44))]) (.exit 1))
  .skip)) (.seq (.draw [] [⟨zO 47 (.faddr (.t 3) 2), false, 0, 1⟩, ⟨zO 48 (.ld (.t 47) 1 false), false, 0, 1⟩, ⟨zM 49 2, false, 0, 1⟩, ⟨zO 50 (.faddr (.t 11) 0), false, 0, 1⟩, ⟨zO 51 (.ld (.t 50) 1 false), false, 0, 1⟩, ⟨zO 52 (.call 85 [(.t 49), (.t 51)]), false, 0, 1⟩, ⟨zO 53 (.iaddr 3 (.t 48) (.t 52)), false, 0, 1⟩, ⟨zO 54 (.ld (.t 53) 3 true), false, 0, 1⟩, ⟨zO 55 (.ld (.t 11) 3 true), false, 0, 1⟩, ⟨zO 56 (.call 91 [(.t 54), (.t 55)]), false, 0, 1⟩, ⟨zM 46 56, false, 0, 1⟩, ⟨zO 57 (.ext (.t 46) 0), false, 0, 1⟩, ⟨zO 58 (.ext (.t 46) 1), false, 0, 2⟩, ⟨zO 12 (.alloc 0 82 [] [(.string ⟨#[]⟩), (.int .i64 0), (.int .i64 0)]), true, 0, 1⟩, ⟨zU (.st true 3 [] (.t 12) (.t 57)), true, 1, 2⟩, ⟨zM 13 58, false, 2, 2⟩]) (.seq (.seq (.ops [zM 59 13, zO 60 (.sc (.un .not) [(.t 59)])]) (.cond (.t 60)
  (.seq (.ops [zO 61 (.bld [(.string ⟨#[]⟩), (.string ⟨#[]⟩), (.slice none 0 0)] []), zU (.st true 3 [(2, 82, 3, 0)] (.t 6) (.t 61)), zO 7 (.mov (.c (.bool false)))]) .ret)
  .skip)) (.ops [zO 62 (.faddr (.t 8) 2), zO 63 (.ld (.t 62) 1 false), zO 64 (.ld (.t 12) 3 true), zO 65 (.isl 3 [(.t 64)]), zO 66 (.app 0 82 3 32 (.t 63) (.t 65)), zO 67 (.faddr (.t 8) 2), zU (.st true 1 [(0, 82, 3, 0)] (.t 67) (.t 66))]))))))) (.ops [zO 68 (.sc (.bin .add 3) [(.t 25), (.c (.int .i64 1))]), zM 25 68]))))))) (.seq (.seq (.ops [zO 69 (.faddr (.t 3) 2), zO 70 (.ld (.t 69) 1 false), zO 71 (.len false (.t 70)), zO 72 (.mov (.c (.int .i64 0)))]) (.block 2 (.loop (.seq (.ops [zO 73 (.sc (.bin .lss 3) [(.t 72), (.t 71)])]) (.seq (.cond (.t 73)
  .skip
  (.exit 2)) (.seq (.block 3 (.seq (.ops [zM 74 72, zO 75 (.iaddr 3 (.t 70) (.t 72)), zO 76 (.ld (.t 75) 3 true), zO 15 (.alloc 0 82 [] [(.string ⟨#[]⟩), (.int .i64 0), (.int .i64 0)]), zM 14 74, zU (.st true 3 [] (.t 15) (.t 76))]) (.seq (.ops [zO 77 (.faddr (.t 15) 1), zO 78 (.ld (.t 77) 1 false), zO 79 (.sc (.bin .eql 3) [(.t 78), (.c (.int .i64 3))]), zM 80 79, zG 81 80 false (.faddr (.t 15) 1), zG 82 80 false (.ld (.t 81) 1 false), zG 83 80 false (.sc (.bin .eql 3) [(.t 82), (.c (.int .i64 4))]), zO 84 (.pick (.t 80) (.c (.bool true)) (.t 83)), zM 85 84, zG 86 85 false (.faddr (.t 15) 1), zG 87 85 false (.ld (.t 86) 1 false), zG 88 85 false (.sc (.bin .eql 3) [(.t 87), (.c (.int .i64 5))]), zO 89 (.pick (.t 85) (.c (.bool true)) (.t 88)), zM 90 89, zN 91 90 true 9, zN 92 90 true 2, zN 93 90 true 14, zG 94 90 true (.iaddr 3 (.t 92) (.t 93)), zG 95 90 true (.faddr (.t 94) 0), zG 96 90 true (.ld (.t 95) 1 false), zG 97 90 true (.lku none false (.bool false) (.t 91) (.t 96)), zG 98 90 true (.sc (.un .not) [(.t 97)]), zO 99 (.pick (.t 90) (.t 98) (.c (.bool false)))]) (.cond (.t 99)
  (.seq (.ops [zO 100 (.bld [(.string ⟨#[]⟩), (.string ⟨#[]⟩), (.slice none 0 0)] []), zU (.st true 3 [(2, 82, 3, 0)] (.t 6) (.t 100)), zO 7 (.mov (.c (.bool false)))]) .ret)
  .skip)))) (.ops [zO 101 (.sc (.bin .add 3) [(.t 72), (.c (.int .i64 1))]), zM 72 101]))))))) (.seq (.ops [zO 102 (.ld (.t 8) 3 true), zU (.st true 3 [(2, 82, 3, 0)] (.t 6) (.t 102)), zO 7 (.mov (.c (.bool true)))]) .ret))))))) := by kernel_rfl
def f87_k51 (x45 : Int) (c11k : Int → (List Give) → (List (ByteArray × Bool)) → Option (Rule × Bool)) (x79 : (List Give)) (x80 : (List (ByteArray × Bool))) : Option (Rule × Bool) := (c11k (wr .i64 (x45 + 1)) x79 x80)
def f87_k59 (x46 : (List Give)) (x54 : Give) (x47 : (List (ByteArray × Bool))) (n : Nat) (a3 : (List Col)) (a1 : Rule) (x45 : Int) (c11k : Int → (List Give) → (List (ByteArray × Bool)) → Option (Rule × Bool)) (x61 : Bool) : Option (Rule × Bool) := (bif x61 then ((app2 x46 [x54]).bind fun l64 => (f87_k51 x45 (c11k) l64 (mset x54.fFrom true x47))) else ((f95 n a3 x54.fFrom).bind fun r67 => ((gi a1.fGives r67).bind fun x69 => ((f121 n x69 x54).bind fun r71 => (bif (!r71.2) then some ((Rule.mk (ByteArray.mk #[]) (ByteArray.mk #[]) []), false) else ((app2 x46 [r71.1]).bind fun l77 => (f87_k51 x45 (c11k) l77 (mset x54.fFrom true x47))))))))
def f87_k121 (x112 : Int) (c87k : Int → Option (Rule × Bool)) (x134 : Bool) : Option (Rule × Bool) := (bif x134 then some ((Rule.mk (ByteArray.mk #[]) (ByteArray.mk #[]) []), false) else (c87k (wr .i64 (x112 + 1))))
def f87_k83 (a1 : Rule) (a2 : Rule) (x81 : (List Give)) : Option (Rule × Bool) := some ((Rule.mk a1.fClass a2.fTo x81), true)
def f87_l87 (a1 : Rule) (a3 : (List Col)) (x82 : (List (ByteArray × Bool))) (k83k : Option (Rule × Bool)) : Nat → Int → Option (Rule × Bool)
  | 0, _ => none
  | m87 + 1, x112 => (bif (decide (x112 < (len a1.fGives))) then ((gi a1.fGives x112).bind fun x119 => (bif (x119.fHow == 3) then ((gi a3 x112).bind fun x123 => (f87_k121 x112 (f87_l87 a1 a3 x82 (k83k) m87) (!((mget x123.fName x82).getD false)))) else (bif (x119.fHow == 4) then ((gi a3 x112).bind fun x127 => (f87_k121 x112 (f87_l87 a1 a3 x82 (k83k) m87) (!((mget x127.fName x82).getD false)))) else (bif (x119.fHow == 5) then ((gi a3 x112).bind fun x131 => (f87_k121 x112 (f87_l87 a1 a3 x82 (k83k) m87) (!((mget x131.fName x82).getD false)))) else (f87_k121 x112 (f87_l87 a1 a3 x82 (k83k) m87) false))))) else (k83k))
def f87_k7 (n : Nat) (a1 : Rule) (a3 : (List Col)) (a2 : Rule) (x81 : (List Give)) (x82 : (List (ByteArray × Bool))) : Option (Rule × Bool) := (f87_l87 a1 a3 x82 (f87_k83 a1 a2 x81) n 0)
def f87_l11 (a2 : Rule) (n : Nat) (a3 : (List Col)) (a1 : Rule) (k7k : (List Give) → (List (ByteArray × Bool)) → Option (Rule × Bool)) : Nat → Int → (List Give) → (List (ByteArray × Bool)) → Option (Rule × Bool)
  | 0, _, _, _ => none
  | m11 + 1, x45, x46, x47 => (bif (decide (x45 < (len a2.fGives))) then ((gi a2.fGives x45).bind fun x54 => (bif (x54.fHow == 6) then (f87_k59 x46 x54 x47 n a3 a1 x45 (f87_l11 a2 n a3 a1 (k7k) m11) true) else (f87_k59 x46 x54 x47 n a3 a1 x45 (f87_l11 a2 n a3 a1 (k7k) m11) (x54.fHow == 7)))) else (k7k x46 x47))
def f87 (n : Nat) (a1 : Rule) (a2 : Rule) (a3 : (List Col)) : Option (Rule × Bool) := (f87_l11 a2 n a3 a1 (f87_k7 n a1 a3 a2) n 0 [] [])
def f87_r (r : (Rule × Bool)) : AV := (.tup [(.agg [(vS r.1.fClass), (vS r.1.fTo), (vL Give.c r.1.fGives)]), (vB r.2)])
theorem p_f87 {n : Nat} {a1 : Rule} {a2 : Rule} {a3 : (List Col)} {r : (Rule × Bool)} (h : f87 n a1 a2 a3 = some r) : PureSpec Tryz.prog 46 [(.agg [(vS a1.fClass), (vS a1.fTo), (vL Give.c a1.fGives)]), (.agg [(vS a2.fClass), (vS a2.fTo), (vL Give.c a2.fGives)]), (vL Col.c a3)] (f87_r r) := by
 rw [f87.eq_1] at h
 refine pure_of hmix ic46 ?_
 refine go_to (mkd (.val undef) 103 0 [(0, (.agg [(vS a1.fClass), (vS a1.fTo), (vL Give.c a1.fGives)])), (1, (.agg [(vS a2.fClass), (vS a2.fTo), (vL Give.c a2.fGives)])), (2, (vL Col.c a3))]) ?_
 refine s_so fun N4 k4 w4 => ?_
 refine o_h4 [(3, (.ptr 0 0)), (4, (.ptr 1 0)), (6, (.ptr 3 0)), (7, (vB false))] [(some (.box 71 [(vS a1.fClass), (vS a1.fTo), (vL Give.c a1.fGives)])), (some (.box 71 [(vS a2.fClass), (vS a2.fTo), (vL Give.c a2.fGives)])), (some (.row 82 3 (List.map Give.c []))), (some (.box 71 [(vS (ByteArray.mk #[])), (vS (ByteArray.mk #[])), (.own 2 0)]))] ?_
 refine o_end (k4 _ ?_)
 refine s_so fun N5 k5 w5 => ?_
 refine o_h7 [(8, (.ptr 5 0)), (16, (.ptr 0 0)), (17, (vS a1.fClass)), (18, (.ptr 1 1)), (19, (vS a2.fTo)), (20, (.agg [(vS a1.fClass), (vS a2.fTo), (.val (.slice none 0 0))]))] [(some (.box 71 [(vS a1.fClass), (vS a1.fTo), (vL Give.c a1.fGives)])), (some (.box 71 [(vS a2.fClass), (vS a2.fTo), (vL Give.c a2.fGives)])), (some (.row 82 3 (List.map Give.c []))), (some (.box 71 [(vS (ByteArray.mk #[])), (vS (ByteArray.mk #[])), (.own 2 0)])), (some (.row 82 3 (List.map Give.c []))), (some (.box 71 [(vS a1.fClass), (vS a2.fTo), (.own 6 0)])), (some (.row 82 3 (List.map Give.c [])))] ?_
 refine o_end (k5 _ ?_)
 refine s_so fun N6 k6 w6 => ?_
 refine o_h2 [(9, (.mp 7)), (21, (.mp 7))] [(some (.box 71 [(vS a1.fClass), (vS a1.fTo), (vL Give.c a1.fGives)])), (some (.box 71 [(vS a2.fClass), (vS a2.fTo), (vL Give.c a2.fGives)])), (some (.row 82 3 (List.map Give.c []))), (some (.box 71 [(vS (ByteArray.mk #[])), (vS (ByteArray.mk #[])), (.own 2 0)])), (some (.row 82 3 (List.map Give.c []))), (some (.box 71 [(vS a1.fClass), (vS a2.fTo), (.own 6 0)])), (some (.row 82 3 (List.map Give.c []))), (some (.map (List.map (fun (p : (ByteArray × Bool)) => (Value.string p.1, Value.bool p.2)) [])))] ?_
 refine o_end (k6 _ ?_)
 refine J2 (r := r) (fun (x81 : (List Give)) (x82 : (List (ByteArray × Bool))) => ⟨(mkd .any 103 0 [(2, (vL Col.c a3)), (3, (.ptr 0 0)), (6, (.ptr 3 0)), (8, (.ptr 5 0)), (9, (.mp 7))]), [(some (.box 71 [(vS a1.fClass), (vS a1.fTo), (vL Give.c a1.fGives)])), none, (some (.row 82 3 (List.map Give.c []))), (some (.box 71 [(vS (ByteArray.mk #[])), (vS (ByteArray.mk #[])), (.own 2 0)])), none, (some (.box 71 [(vS a1.fClass), (vS a2.fTo), (.own 6 (List.length x81))])), (some (.row 82 3 (List.map Give.c x81))), (some (.map (List.map (fun (p : (ByteArray × Bool)) => (Value.string p.1, Value.bool p.2)) x82)))]⟩) (f87_k7 n a1 a3 a2) ?_ ?_
 · intro x81 x82 h
   rw [f87_k7.eq_1] at h
   refine J0 (r := r) ⟨(mkd .any 103 0 [(6, (.ptr 3 0)), (8, (.ptr 5 0))]), [none, none, (some (.row 82 3 (List.map Give.c []))), (some (.box 71 [(vS (ByteArray.mk #[])), (vS (ByteArray.mk #[])), (.own 2 0)])), none, (some (.box 71 [(vS a1.fClass), (vS a2.fTo), (.own 6 (List.length x81))])), (some (.row 82 3 (List.map Give.c x81)))]⟩ (f87_k83 a1 a2 x81) ?_ ?_
   · intro h
     rw [f87_k83.eq_1] at h
     refine s_so fun N137 k137 w137 => ?_
     refine o_h3 [(7, (vB true)), (102, (.agg [(vS a1.fClass), (vS a2.fTo), (.own 6 (List.length x81))]))] [none, none, (some (.row 82 3 (List.map Give.c []))), (some (.box 71 [(vS a1.fClass), (vS a2.fTo), (.own 6 (List.length x81))])), none, (some (.box 71 [(vS a1.fClass), (vS a2.fTo), (.own 6 (List.length x81))])), (some (.row 82 3 (List.map Give.c x81)))] ?_
     refine o_end (k137 _ ?_)
     exact c_ret (retsF [6] [(.agg [(vS a1.fClass), (vS a2.fTo), (.own 6 (List.length x81))]), (vB true)] [(.agg [(vS a1.fClass), (vS a2.fTo), (vL Give.c x81)]), (vB true)] ⟨(fz_agg ⟨fz_v, fz_v, (fz_own (g := Give.c) (l := x81) (t := 82) (sz := 3) Give.p), trivial⟩), fz_v, trivial⟩ h)
   · intro N83 w83
     refine s_so fun N84 k84 w84 => ?_
     refine o_r2 [(69, (.ptr 0 2)), (70, (vL Give.c a1.fGives))] ?_
     refine o_o (one_len (f := Give.c) (l := a1.fGives)) ?_
     refine o_r1 [(72, (vI 0))] ?_
     refine o_end (k84 _ ?_)
     refine c_block fun E86 hE86 hO86 => ?_
     refine W1 (fun (x112 : Int) => ⟨(mkd .any 103 0 [(2, (vL Col.c a3)), (6, (.ptr 3 0)), (8, (.ptr 5 0)), (9, (.mp 7)), (70, (vL Give.c a1.fGives)), (71, (vI (len a1.fGives))), (72, (vI x112))]), [none, none, (some (.row 82 3 (List.map Give.c []))), (some (.box 71 [(vS (ByteArray.mk #[])), (vS (ByteArray.mk #[])), (.own 2 0)])), none, (some (.box 71 [(vS a1.fClass), (vS a2.fTo), (.own 6 (List.length x81))])), (some (.row 82 3 (List.map Give.c x81))), (some (.map (List.map (fun (p : (ByteArray × Bool)) => (Value.string p.1, Value.bool p.2)) x82)))]⟩) (f87_l87 a1 a3 x82 (f87_k83 a1 a2 x81)) h (wkm [2, 6, 8, 9, 70, 71, 72] (wh_drop (wh_none (wh_keep (row_below Give.p _ _ _ _) (whk (wh_none (whk (wh_keep (row_below Give.p _ _ _ _) (whk wh_nil))))))))) (by intros; rw [f87_l87.eq_1]) ?_
     intro m87 x112 h N87 w87
     rw [f87_l87.eq_2] at h
     refine s_so fun N113 k113 w113 => ?_
     refine o_r1 [(73, (vB (decide (x112 < (len a1.fGives)))))] ?_
     refine o_end (k113 _ ?_)
     refine s_seq fun N114 k114 w114 => ?_
     refine i_c [73] h (fun h => ?_) (fun h => ?_)
     · refine c_skip (k114 _ ?_)
       refine s_seq fun N116 k116 w116 => ?_
       refine c_block fun E117 hE117 hO117 => ?_
       refine s_so fun N118 k118 w118 => ?_
       refine o_r1 [(74, (vI x112))] ?_
       refine bnd h fun x119 g120 h => ?_
       refine o_o (one_ia (f := Give.c) (ki := .i64) g120) ?_
       refine o_h4 [(14, (vI x112)), (15, (.ptr 8 0)), (76, (.agg [(vS x119.fFrom), (vI x119.fHow), (vI x119.fN)]))] [none, none, (some (.row 82 3 (List.map Give.c []))), (some (.box 71 [(vS (ByteArray.mk #[])), (vS (ByteArray.mk #[])), (.own 2 0)])), none, (some (.box 71 [(vS a1.fClass), (vS a2.fTo), (.own 6 (List.length x81))])), (some (.row 82 3 (List.map Give.c x81))), (some (.map (List.map (fun (p : (ByteArray × Bool)) => (Value.string p.1, Value.bool p.2)) x82))), (some (.box 82 [(vS x119.fFrom), (vI x119.fHow), (vI x119.fN)]))] ?_
       refine o_end (k118 _ ?_)
       refine J1 (r := r) (fun (x134 : Bool) => ⟨(mkd .any 103 0 [(2, (vL Col.c a3)), (6, (.ptr 3 0)), (8, (.ptr 5 0)), (9, (.mp 7)), (70, (vL Give.c a1.fGives)), (71, (vI (len a1.fGives))), (72, (vI x112)), (99, (vB x134))]), [none, none, (some (.row 82 3 (List.map Give.c []))), (some (.box 71 [(vS (ByteArray.mk #[])), (vS (ByteArray.mk #[])), (.own 2 0)])), none, (some (.box 71 [(vS a1.fClass), (vS a2.fTo), (.own 6 (List.length x81))])), (some (.row 82 3 (List.map Give.c x81))), (some (.map (List.map (fun (p : (ByteArray × Bool)) => (Value.string p.1, Value.bool p.2)) x82)))]⟩) (f87_k121 x112 (f87_l87 a1 a3 x82 (f87_k83 a1 a2 x81) m87)) ?_ ?_
       · intro x134 h
         rw [f87_k121.eq_1] at h
         refine i_c [99] h (fun h => ?_) (fun h => ?_)
         · refine s_so fun N136 k136 w136 => ?_
           refine o_h3 [(7, (vB false)), (100, (.agg [(vS (ByteArray.mk #[])), (vS (ByteArray.mk #[])), (.val (.slice none 0 0))]))] [none, none, (some (.row 82 3 (List.map Give.c []))), (some (.box 71 [(vS (ByteArray.mk #[])), (vS (ByteArray.mk #[])), (.own 8 0)])), none, (some (.box 71 [(vS a1.fClass), (vS a2.fTo), (.own 6 (List.length x81))])), (some (.row 82 3 (List.map Give.c x81))), (some (.map (List.map (fun (p : (ByteArray × Bool)) => (Value.string p.1, Value.bool p.2)) x82))), (some (.row 82 3 (List.map Give.c [])))] ?_
           refine o_end (k136 _ ?_)
           exact c_ret (retsF [8] [(.agg [(vS (ByteArray.mk #[])), (vS (ByteArray.mk #[])), (.own 8 0)]), (vB false)] [(.agg [(vS (ByteArray.mk #[])), (vS (ByteArray.mk #[])), (vL Give.c [])]), (vB false)] ⟨(fz_agg ⟨fz_v, fz_v, (fz_own (g := Give.c) (l := []) (t := 82) (sz := 3) Give.p), trivial⟩), fz_v, trivial⟩ h)
         · refine c_skip (k116 _ ?_)
           refine c_ops ?_
           refine o_r2 [(72, (vI (wr .i64 (x112 + 1)))), (101, (vI (wr .i64 (x112 + 1))))] ?_
           exact o_end (w87 _ _ (wkm [2, 6, 8, 9, 70, 71, 72] (wh_none (wh_none (wh_keep (row_below Give.p _ _ _ _) (whk (wh_none (whk (wh_keep (row_below Give.p _ _ _ _) (whk wh_nil))))))))) h)
       · intro N121 w121
         refine c_ops ?_
         refine o_r4 [(77, (.ptr 8 1)), (78, (vI x119.fHow)), (79, (vB (x119.fHow == 3))), (80, (vB (x119.fHow == 3)))] ?_
         refine i_o [79, 80] h (fun h => ?_) (fun h => ?_)
         · refine o_r13 [(81, (.val undef)), (82, (.val undef)), (83, (.val undef)), (84, (vB true)), (85, (vB true)), (86, (.val undef)), (87, (.val undef)), (88, (.val undef)), (89, (vB true)), (90, (vB true)), (91, (.mp 7)), (92, (vL Col.c a3)), (93, (vI x112))] ?_
           refine bnd h fun x123 g124 h => ?_
           refine o_g ?_
           refine o_o (one_ia (f := Col.c) (ki := .i64) g124) ?_
           refine o_r2 [(95, (.iptr [(vS x123.fName), (vI x123.fKind), (vS x123.fClass)])), (96, (vS x123.fName))] ?_
           refine o_g ?_
           refine o_o (one_luk (ek := Value.string) (ev := Value.bool) (l := x82) (o := 7) (k := x123.fName) (z := false) key_str) ?_
           refine o_r2 [(98, (vB (!((mget x123.fName x82).getD false)))), (99, (vB (!((mget x123.fName x82).getD false))))] ?_
           refine s_tm (mkd .any 103 0 [(2, (vL Col.c a3)), (6, (.ptr 3 0)), (8, (.ptr 5 0)), (9, (.mp 7)), (14, (vI x112)), (15, (.ptr 8 0)), (70, (vL Give.c a1.fGives)), (71, (vI (len a1.fGives))), (72, (vI x112)), (73, (vB true)), (74, (vI x112)), (75, (.iptr [(vS x119.fFrom), (vI x119.fHow), (vI x119.fN)])), (76, (.agg [(vS x119.fFrom), (vI x119.fHow), (vI x119.fN)])), (77, (.ptr 8 1)), (78, (vI x119.fHow)), (79, (vB true)), (80, (vB true)), (81, (.val undef)), (82, (.val undef)), (83, (.val undef)), (84, (vB true)), (85, (vB true)), (86, (.val undef)), (87, (.val undef)), (88, (.val undef)), (89, (vB true)), (90, (vB true)), (91, (.mp 7)), (92, (vL Col.c a3)), (93, (vI x112)), (94, (.iptr [(vS x123.fName), (vI x123.fKind), (vS x123.fClass)])), (95, (.iptr [(vS x123.fName), (vI x123.fKind), (vS x123.fClass)])), (96, (vS x123.fName)), (97, (vB ((mget x123.fName x82).getD false))), (98, (vB (!((mget x123.fName x82).getD false)))), (99, (vB (!((mget x123.fName x82).getD false))))]) ?_
           exact o_end (w121 _ _ (wkm [2, 6, 8, 9, 70, 71, 72, 99] (wh_none (wh_none (wh_keep (row_below Give.p _ _ _ _) (whk (wh_none (whk (wh_keep (row_below Give.p _ _ _ _) (whk wh_nil))))))))) h)
         · refine o_r5 [(81, (.ptr 8 1)), (82, (vI x119.fHow)), (83, (vB (x119.fHow == 4))), (84, (vB (x119.fHow == 4))), (85, (vB (x119.fHow == 4)))] ?_
           refine i_o [83, 84, 85] h (fun h => ?_) (fun h => ?_)
           · refine o_r8 [(86, (.val undef)), (87, (.val undef)), (88, (.val undef)), (89, (vB true)), (90, (vB true)), (91, (.mp 7)), (92, (vL Col.c a3)), (93, (vI x112))] ?_
             refine bnd h fun x127 g128 h => ?_
             refine o_g ?_
             refine o_o (one_ia (f := Col.c) (ki := .i64) g128) ?_
             refine o_r2 [(95, (.iptr [(vS x127.fName), (vI x127.fKind), (vS x127.fClass)])), (96, (vS x127.fName))] ?_
             refine s_tm (mkd .any 103 0 [(2, (vL Col.c a3)), (6, (.ptr 3 0)), (8, (.ptr 5 0)), (9, (.mp 7)), (14, (vI x112)), (15, (.ptr 8 0)), (70, (vL Give.c a1.fGives)), (71, (vI (len a1.fGives))), (72, (vI x112)), (73, (vB true)), (74, (vI x112)), (75, (.iptr [(vS x119.fFrom), (vI x119.fHow), (vI x119.fN)])), (76, (.agg [(vS x119.fFrom), (vI x119.fHow), (vI x119.fN)])), (77, (.ptr 8 1)), (78, (vI x119.fHow)), (79, (vB false)), (80, (vB false)), (81, (.ptr 8 1)), (82, (vI x119.fHow)), (83, (vB true)), (84, (vB true)), (85, (vB true)), (86, (.val undef)), (87, (.val undef)), (88, (.val undef)), (89, (vB true)), (90, (vB true)), (91, (.mp 7)), (92, (vL Col.c a3)), (93, (vI x112)), (94, (.iptr [(vS x127.fName), (vI x127.fKind), (vS x127.fClass)])), (95, (.iptr [(vS x127.fName), (vI x127.fKind), (vS x127.fClass)])), (96, (vS x127.fName))]) ?_
             refine o_g ?_
             refine o_o (one_luk (ek := Value.string) (ev := Value.bool) (l := x82) (o := 7) (k := x127.fName) (z := false) key_str) ?_
             refine o_r2 [(98, (vB (!((mget x127.fName x82).getD false)))), (99, (vB (!((mget x127.fName x82).getD false))))] ?_
             exact o_end (w121 _ _ (wkm [2, 6, 8, 9, 70, 71, 72, 99] (wh_none (wh_none (wh_keep (row_below Give.p _ _ _ _) (whk (wh_none (whk (wh_keep (row_below Give.p _ _ _ _) (whk wh_nil))))))))) h)
           · refine o_r5 [(86, (.ptr 8 1)), (87, (vI x119.fHow)), (88, (vB (x119.fHow == 5))), (89, (vB (x119.fHow == 5))), (90, (vB (x119.fHow == 5)))] ?_
             refine i_o [88, 89, 90] h (fun h => ?_) (fun h => ?_)
             · refine o_r3 [(91, (.mp 7)), (92, (vL Col.c a3)), (93, (vI x112))] ?_
               refine s_tm (mkd .any 103 0 [(2, (vL Col.c a3)), (6, (.ptr 3 0)), (8, (.ptr 5 0)), (9, (.mp 7)), (14, (vI x112)), (15, (.ptr 8 0)), (70, (vL Give.c a1.fGives)), (71, (vI (len a1.fGives))), (72, (vI x112)), (73, (vB true)), (74, (vI x112)), (75, (.iptr [(vS x119.fFrom), (vI x119.fHow), (vI x119.fN)])), (76, (.agg [(vS x119.fFrom), (vI x119.fHow), (vI x119.fN)])), (77, (.ptr 8 1)), (78, (vI x119.fHow)), (79, (vB false)), (80, (vB false)), (81, (.ptr 8 1)), (82, (vI x119.fHow)), (83, (vB false)), (84, (vB false)), (85, (vB false)), (86, (.ptr 8 1)), (87, (vI x119.fHow)), (88, (vB true)), (89, (vB true)), (90, (vB true)), (91, (.mp 7)), (92, (vL Col.c a3)), (93, (vI x112))]) ?_
               refine bnd h fun x131 g132 h => ?_
               refine o_g ?_
               refine o_o (one_ia (f := Col.c) (ki := .i64) g132) ?_
               refine o_r2 [(95, (.iptr [(vS x131.fName), (vI x131.fKind), (vS x131.fClass)])), (96, (vS x131.fName))] ?_
               refine o_g ?_
               refine o_o (one_luk (ek := Value.string) (ev := Value.bool) (l := x82) (o := 7) (k := x131.fName) (z := false) key_str) ?_
               refine o_r2 [(98, (vB (!((mget x131.fName x82).getD false)))), (99, (vB (!((mget x131.fName x82).getD false))))] ?_
               exact o_end (w121 _ _ (wkm [2, 6, 8, 9, 70, 71, 72, 99] (wh_none (wh_none (wh_keep (row_below Give.p _ _ _ _) (whk (wh_none (whk (wh_keep (row_below Give.p _ _ _ _) (whk wh_nil))))))))) h)
             · refine o_r9 [(91, (.val undef)), (92, (.val undef)), (93, (.val undef)), (94, (.val undef)), (95, (.val undef)), (96, (.val undef)), (97, (.val undef)), (98, (.val undef)), (99, (vB false))] ?_
               refine s_tm (mkd .any 103 0 [(2, (vL Col.c a3)), (6, (.ptr 3 0)), (8, (.ptr 5 0)), (9, (.mp 7)), (14, (vI x112)), (15, (.ptr 8 0)), (70, (vL Give.c a1.fGives)), (71, (vI (len a1.fGives))), (72, (vI x112)), (73, (vB true)), (74, (vI x112)), (75, (.iptr [(vS x119.fFrom), (vI x119.fHow), (vI x119.fN)])), (76, (.agg [(vS x119.fFrom), (vI x119.fHow), (vI x119.fN)])), (77, (.ptr 8 1)), (78, (vI x119.fHow)), (79, (vB false)), (80, (vB false)), (81, (.ptr 8 1)), (82, (vI x119.fHow)), (83, (vB false)), (84, (vB false)), (85, (vB false)), (86, (.ptr 8 1)), (87, (vI x119.fHow)), (88, (vB false)), (89, (vB false)), (90, (vB false)), (91, (.val undef)), (92, (.val undef)), (93, (.val undef)), (94, (.val undef)), (95, (.val undef)), (96, (.val undef)), (97, (.val undef)), (98, (.val undef)), (99, (vB false))]) ?_
               exact o_end (w121 _ _ (wkm [2, 6, 8, 9, 70, 71, 72, 99] (wh_none (wh_none (wh_keep (row_below Give.p _ _ _ _) (whk (wh_none (whk (wh_keep (row_below Give.p _ _ _ _) (whk wh_nil))))))))) h)
     · refine c_exit (hE86 _ ?_)
       exact w83 _ (wkm [6, 8] (wh_none (wh_none (wh_keep (row_below Give.p _ _ _ _) (whk (wh_none (whk (wh_keep (row_below Give.p _ _ _ _) wh_nil)))))))) h
 · intro N7 w7
   refine s_so fun N8 k8 w8 => ?_
   refine o_r2 [(22, (.ptr 1 2)), (23, (vL Give.c a2.fGives))] ?_
   refine o_o (one_len (f := Give.c) (l := a2.fGives)) ?_
   refine o_r1 [(25, (vI 0))] ?_
   refine o_end (k8 _ ?_)
   refine c_block fun E10 hE10 hO10 => ?_
   refine W3 (fun (x45 : Int) (x46 : (List Give)) (x47 : (List (ByteArray × Bool))) => ⟨(mkd .any 103 0 [(2, (vL Col.c a3)), (3, (.ptr 0 0)), (6, (.ptr 3 0)), (8, (.ptr 5 0)), (9, (.mp 7)), (23, (vL Give.c a2.fGives)), (24, (vI (len a2.fGives))), (25, (vI x45))]), [(some (.box 71 [(vS a1.fClass), (vS a1.fTo), (vL Give.c a1.fGives)])), none, (some (.row 82 3 (List.map Give.c []))), (some (.box 71 [(vS (ByteArray.mk #[])), (vS (ByteArray.mk #[])), (.own 2 0)])), none, (some (.box 71 [(vS a1.fClass), (vS a2.fTo), (.own 6 (List.length x46))])), (some (.row 82 3 (List.map Give.c x46))), (some (.map (List.map (fun (p : (ByteArray × Bool)) => (Value.string p.1, Value.bool p.2)) x47)))]⟩) (f87_l11 a2 n a3 a1 (f87_k7 n a1 a3 a2)) h (wkm [2, 3, 6, 8, 9, 23, 24, 25] (whk (wh_drop (wh_keep (row_below Give.p _ _ _ _) (whk (wh_drop (whk (wh_keep (row_below Give.p _ _ _ _) (whk wh_nil))))))))) (by intros; rw [f87_l11.eq_1]) ?_
   intro m11 x45 x46 x47 h N11 w11
   rw [f87_l11.eq_2] at h
   refine s_so fun N48 k48 w48 => ?_
   refine o_r1 [(26, (vB (decide (x45 < (len a2.fGives)))))] ?_
   refine o_end (k48 _ ?_)
   refine s_seq fun N49 k49 w49 => ?_
   refine i_c [26] h (fun h => ?_) (fun h => ?_)
   · refine c_skip (k49 _ ?_)
     refine J2 (r := r) (fun (x79 : (List Give)) (x80 : (List (ByteArray × Bool))) => ⟨(mkd .any 103 0 [(2, (vL Col.c a3)), (3, (.ptr 0 0)), (6, (.ptr 3 0)), (8, (.ptr 5 0)), (9, (.mp 7)), (23, (vL Give.c a2.fGives)), (24, (vI (len a2.fGives))), (25, (vI x45))]), [(some (.box 71 [(vS a1.fClass), (vS a1.fTo), (vL Give.c a1.fGives)])), none, (some (.row 82 3 (List.map Give.c []))), (some (.box 71 [(vS (ByteArray.mk #[])), (vS (ByteArray.mk #[])), (.own 2 0)])), none, (some (.box 71 [(vS a1.fClass), (vS a2.fTo), (.own 6 (List.length x79))])), (some (.row 82 3 (List.map Give.c x79))), (some (.map (List.map (fun (p : (ByteArray × Bool)) => (Value.string p.1, Value.bool p.2)) x80)))]⟩) (f87_k51 x45 (f87_l11 a2 n a3 a1 (f87_k7 n a1 a3 a2) m11)) ?_ ?_
     · intro x79 x80 h
       rw [f87_k51.eq_1] at h
       refine c_ops ?_
       refine o_r2 [(25, (vI (wr .i64 (x45 + 1)))), (68, (vI (wr .i64 (x45 + 1))))] ?_
       exact o_end (w11 _ _ _ _ (wkm [2, 3, 6, 8, 9, 23, 24, 25] (whk (wh_none (wh_keep (row_below Give.p _ _ _ _) (whk (wh_none (whk (wh_keep (row_below Give.p _ _ _ _) (whk wh_nil))))))))) h)
     · intro N51 w51
       refine c_block fun E52 hE52 hO52 => ?_
       refine s_so fun N53 k53 w53 => ?_
       refine bnd h fun x54 g55 h => ?_
       refine o_o (one_ia (f := Give.c) (ki := .i64) g55) ?_
       refine o_h3 [(11, (.ptr 8 0)), (28, (.agg [(vS x54.fFrom), (vI x54.fHow), (vI x54.fN)]))] [(some (.box 71 [(vS a1.fClass), (vS a1.fTo), (vL Give.c a1.fGives)])), none, (some (.row 82 3 (List.map Give.c []))), (some (.box 71 [(vS (ByteArray.mk #[])), (vS (ByteArray.mk #[])), (.own 2 0)])), none, (some (.box 71 [(vS a1.fClass), (vS a2.fTo), (.own 6 (List.length x46))])), (some (.row 82 3 (List.map Give.c x46))), (some (.map (List.map (fun (p : (ByteArray × Bool)) => (Value.string p.1, Value.bool p.2)) x47))), (some (.box 82 [(vS x54.fFrom), (vI x54.fHow), (vI x54.fN)]))] ?_
       refine o_end (k53 _ ?_)
       refine s_so fun N56 k56 w56 => ?_
       refine o_r3 [(29, (.mp 7)), (30, (.ptr 8 0)), (31, (vS x54.fFrom))] ?_
       refine o_x [(some (.box 71 [(vS a1.fClass), (vS a1.fTo), (vL Give.c a1.fGives)])), none, (some (.row 82 3 (List.map Give.c []))), (some (.box 71 [(vS (ByteArray.mk #[])), (vS (ByteArray.mk #[])), (.own 2 0)])), none, (some (.box 71 [(vS a1.fClass), (vS a2.fTo), (.own 6 (List.length x46))])), (some (.row 82 3 (List.map Give.c x46))), (some (.map (List.map (fun (p : (ByteArray × Bool)) => (Value.string p.1, Value.bool p.2)) (mset x54.fFrom true x47)))), (some (.box 82 [(vS x54.fFrom), (vI x54.fHow), (vI x54.fN)]))] (one_mup (ek := Value.string) (ev := Value.bool) (l := x47) (o := 7) (k := x54.fFrom) (v := true) key_str (fun _ => rfl)) ?_
       refine o_end (k56 _ ?_)
       refine s_seq fun N58 k58 w58 => ?_
       refine J1 (r := r) (fun (x61 : Bool) => ⟨(mkd .any 103 0 [(2, (vL Col.c a3)), (3, (.ptr 0 0)), (6, (.ptr 3 0)), (8, (.ptr 5 0)), (9, (.mp 7)), (11, (.ptr 8 0)), (23, (vL Give.c a2.fGives)), (24, (vI (len a2.fGives))), (25, (vI x45)), (39, (vB x61))]), [(some (.box 71 [(vS a1.fClass), (vS a1.fTo), (vL Give.c a1.fGives)])), none, (some (.row 82 3 (List.map Give.c []))), (some (.box 71 [(vS (ByteArray.mk #[])), (vS (ByteArray.mk #[])), (.own 2 0)])), none, (some (.box 71 [(vS a1.fClass), (vS a2.fTo), (.own 6 (List.length x46))])), (some (.row 82 3 (List.map Give.c x46))), (some (.map (List.map (fun (p : (ByteArray × Bool)) => (Value.string p.1, Value.bool p.2)) (mset x54.fFrom true x47)))), (some (.box 82 [(vS x54.fFrom), (vI x54.fHow), (vI x54.fN)]))]⟩) (f87_k59 x46 x54 x47 n a3 a1 x45 (f87_l11 a2 n a3 a1 (f87_k7 n a1 a3 a2) m11)) ?_ ?_
       · intro x61 h
         rw [f87_k59.eq_1] at h
         refine i_c [39] h (fun h => ?_) (fun h => ?_)
         · refine s_so fun N63 k63 w63 => ?_
           refine o_r4 [(40, (.ptr 5 2)), (41, (.own 6 (List.length x46))), (42, (.agg [(vS x54.fFrom), (vI x54.fHow), (vI x54.fN)])), (43, (vL Give.c [x54]))] ?_
           refine bnd h fun l64 g65 h => ?_
           refine o_x [(some (.box 71 [(vS a1.fClass), (vS a1.fTo), (vL Give.c a1.fGives)])), none, (some (.row 82 3 (List.map Give.c []))), (some (.box 71 [(vS (ByteArray.mk #[])), (vS (ByteArray.mk #[])), (.own 2 0)])), none, (some (.box 71 [(vS a1.fClass), (vS a2.fTo), (.own 6 (List.length x46))])), (some (.row 82 3 (List.map Give.c l64))), (some (.map (List.map (fun (p : (ByteArray × Bool)) => (Value.string p.1, Value.bool p.2)) (mset x54.fFrom true x47)))), (some (.box 82 [(vS x54.fFrom), (vI x54.fHow), (vI x54.fN)]))] (one_app (f := Give.c) (o := 6) g65 (fun _ => ⟨rfl, rfl⟩)) ?_
           refine o_h2 [(45, (.ptr 5 2))] [(some (.box 71 [(vS a1.fClass), (vS a1.fTo), (vL Give.c a1.fGives)])), none, (some (.row 82 3 (List.map Give.c []))), (some (.box 71 [(vS (ByteArray.mk #[])), (vS (ByteArray.mk #[])), (.own 2 0)])), none, (some (.box 71 [(vS a1.fClass), (vS a2.fTo), (.own 6 (List.length l64))])), (some (.row 82 3 (List.map Give.c l64))), (some (.map (List.map (fun (p : (ByteArray × Bool)) => (Value.string p.1, Value.bool p.2)) (mset x54.fFrom true x47)))), (some (.box 82 [(vS x54.fFrom), (vI x54.fHow), (vI x54.fN)]))] ?_
           refine o_end (k63 _ ?_)
           refine c_exit (hE52 _ ?_)
           exact w51 _ _ _ (wkm [2, 3, 6, 8, 9, 23, 24, 25] (whk (wh_none (wh_keep (row_below Give.p _ _ _ _) (whk (wh_none (whk (wh_keep (row_below Give.p _ _ _ _) (whk wh_nil))))))))) h
         · refine c_skip (k58 _ ?_)
           refine s_seq fun N66 k66 w66 => ?_
           refine c_draw0 ?_
           refine d_r5 [(47, (.ptr 0 2)), (48, (vL Give.c a1.fGives)), (49, (vL Col.c a3)), (50, (.ptr 8 0)), (51, (vS x54.fFrom))] ?_
           refine bnd h fun r67 g68 h => ?_
           refine d_o (one_call (p_f95 g68)) ?_
           refine bnd h fun x69 g70 h => ?_
           refine d_o (one_ia (f := Give.c) (ki := .i64) g70) ?_
           refine d_r2 [(54, (.agg [(vS x69.fFrom), (vI x69.fHow), (vI x69.fN)])), (55, (.agg [(vS x54.fFrom), (vI x54.fHow), (vI x54.fN)]))] ?_
           refine bnd h fun r71 g72 h => ?_
           refine d_o (one_call (p_f121 g72)) ?_
           refine d_r3 [(46, (.tup [(.agg [(vS r71.1.fFrom), (vI r71.1.fHow), (vI r71.1.fN)]), (vB r71.2)])), (57, (.agg [(vS r71.1.fFrom), (vI r71.1.fHow), (vI r71.1.fN)])), (58, (vB r71.2))] ?_
           refine d_te (.ptr 9 0) [(some (.box 71 [(vS a1.fClass), (vS a1.fTo), (vL Give.c a1.fGives)])), none, (some (.row 82 3 (List.map Give.c []))), (some (.box 71 [(vS (ByteArray.mk #[])), (vS (ByteArray.mk #[])), (.own 2 0)])), none, (some (.box 71 [(vS a1.fClass), (vS a2.fTo), (.own 6 (List.length x46))])), (some (.row 82 3 (List.map Give.c x46))), (some (.map (List.map (fun (p : (ByteArray × Bool)) => (Value.string p.1, Value.bool p.2)) (mset x54.fFrom true x47)))), (some (.box 82 [(vS x54.fFrom), (vI x54.fHow), (vI x54.fN)])), (some (.box 82 [(vS (ByteArray.mk #[])), (vI 0), (vI 0)]))] (ra_cat (ra_cat (ra_cat (ra_cat (ra_cat (ra_cat ra_nil (ra_t (ra_t (ra_t (ra_t (ra_t ra_nil)))))) (ra_o (one_call (p_f95 g68)) ra_nil)) (ra_o (one_ia (f := Give.c) (ki := .i64) g70) ra_nil)) (ra_t (ra_t ra_nil))) (ra_o (one_call (p_f121 g72)) ra_nil)) (ra_t (ra_t (ra_t ra_nil)))) ?_
           refine d_te (.val undef) [(some (.box 71 [(vS a1.fClass), (vS a1.fTo), (vL Give.c a1.fGives)])), none, (some (.row 82 3 (List.map Give.c []))), (some (.box 71 [(vS (ByteArray.mk #[])), (vS (ByteArray.mk #[])), (.own 2 0)])), none, (some (.box 71 [(vS a1.fClass), (vS a2.fTo), (.own 6 (List.length x46))])), (some (.row 82 3 (List.map Give.c x46))), (some (.map (List.map (fun (p : (ByteArray × Bool)) => (Value.string p.1, Value.bool p.2)) (mset x54.fFrom true x47)))), (some (.box 82 [(vS x54.fFrom), (vI x54.fHow), (vI x54.fN)])), (some (.box 82 [(vS r71.1.fFrom), (vI r71.1.fHow), (vI r71.1.fN)]))] (ra_cat (ra_cat (ra_cat (ra_cat (ra_cat (ra_cat ra_nil (ra_s (ra_s (ra_s (ra_s (ra_s ra_nil)))))) (ra_s ra_nil)) (ra_s ra_nil)) (ra_s (ra_s ra_nil))) (ra_s ra_nil)) (ra_s (ra_s (ra_t ra_nil)))) ?_
           refine d_r1 [(13, (vB r71.2))] ?_
           refine d_end (k66 _ ?_)
           refine s_seq fun N73 k73 w73 => ?_
           refine s_so fun N74 k74 w74 => ?_
           refine o_r2 [(59, (vB r71.2)), (60, (vB (!r71.2)))] ?_
           refine o_end (w74 _ ⟨(mkd .any 103 0 [(2, (vL Col.c a3)), (3, (.ptr 0 0)), (6, (.ptr 3 0)), (8, (.ptr 5 0)), (9, (.mp 7)), (12, (.ptr 9 0)), (23, (vL Give.c a2.fGives)), (24, (vI (len a2.fGives))), (25, (vI x45)), (60, (vB (!r71.2)))]), [(some (.box 71 [(vS a1.fClass), (vS a1.fTo), (vL Give.c a1.fGives)])), none, (some (.row 82 3 (List.map Give.c []))), (some (.box 71 [(vS (ByteArray.mk #[])), (vS (ByteArray.mk #[])), (.own 2 0)])), none, (some (.box 71 [(vS a1.fClass), (vS a2.fTo), (.own 6 (List.length x46))])), (some (.row 82 3 (List.map Give.c x46))), (some (.map (List.map (fun (p : (ByteArray × Bool)) => (Value.string p.1, Value.bool p.2)) (mset x54.fFrom true x47)))), none, (some (.box 82 [(vS r71.1.fFrom), (vI r71.1.fHow), (vI r71.1.fN)]))]⟩ (wkm [2, 3, 6, 8, 9, 12, 23, 24, 25, 60] (whk (wh_none (wh_keep (row_below Give.p _ _ _ _) (whk (wh_none (whk (wh_keep (row_below Give.p _ _ _ _) (whk (wh_drop (whk wh_nil))))))))))) ?_)
           refine i_c [60] h (fun h => ?_) (fun h => ?_)
           · refine s_so fun N76 k76 w76 => ?_
             refine o_h3 [(7, (vB false)), (61, (.agg [(vS (ByteArray.mk #[])), (vS (ByteArray.mk #[])), (.val (.slice none 0 0))]))] [(some (.box 71 [(vS a1.fClass), (vS a1.fTo), (vL Give.c a1.fGives)])), none, (some (.row 82 3 (List.map Give.c []))), (some (.box 71 [(vS (ByteArray.mk #[])), (vS (ByteArray.mk #[])), (.own 10 0)])), none, (some (.box 71 [(vS a1.fClass), (vS a2.fTo), (.own 6 (List.length x46))])), (some (.row 82 3 (List.map Give.c x46))), (some (.map (List.map (fun (p : (ByteArray × Bool)) => (Value.string p.1, Value.bool p.2)) (mset x54.fFrom true x47)))), none, (some (.box 82 [(vS r71.1.fFrom), (vI r71.1.fHow), (vI r71.1.fN)])), (some (.row 82 3 (List.map Give.c [])))] ?_
             refine o_end (k76 _ ?_)
             exact c_ret (retsF [10] [(.agg [(vS (ByteArray.mk #[])), (vS (ByteArray.mk #[])), (.own 10 0)]), (vB false)] [(.agg [(vS (ByteArray.mk #[])), (vS (ByteArray.mk #[])), (vL Give.c [])]), (vB false)] ⟨(fz_agg ⟨fz_v, fz_v, (fz_own (g := Give.c) (l := []) (t := 82) (sz := 3) Give.p), trivial⟩), fz_v, trivial⟩ h)
           · refine c_skip (k73 _ ?_)
             refine c_ops ?_
             refine o_r4 [(62, (.ptr 5 2)), (63, (.own 6 (List.length x46))), (64, (.agg [(vS r71.1.fFrom), (vI r71.1.fHow), (vI r71.1.fN)])), (65, (vL Give.c [r71.1]))] ?_
             refine bnd h fun l77 g78 h => ?_
             refine o_x [(some (.box 71 [(vS a1.fClass), (vS a1.fTo), (vL Give.c a1.fGives)])), none, (some (.row 82 3 (List.map Give.c []))), (some (.box 71 [(vS (ByteArray.mk #[])), (vS (ByteArray.mk #[])), (.own 2 0)])), none, (some (.box 71 [(vS a1.fClass), (vS a2.fTo), (.own 6 (List.length x46))])), (some (.row 82 3 (List.map Give.c l77))), (some (.map (List.map (fun (p : (ByteArray × Bool)) => (Value.string p.1, Value.bool p.2)) (mset x54.fFrom true x47)))), none, (some (.box 82 [(vS r71.1.fFrom), (vI r71.1.fHow), (vI r71.1.fN)]))] (one_app (f := Give.c) (o := 6) g78 (fun _ => ⟨rfl, rfl⟩)) ?_
             refine o_h2 [(67, (.ptr 5 2))] [(some (.box 71 [(vS a1.fClass), (vS a1.fTo), (vL Give.c a1.fGives)])), none, (some (.row 82 3 (List.map Give.c []))), (some (.box 71 [(vS (ByteArray.mk #[])), (vS (ByteArray.mk #[])), (.own 2 0)])), none, (some (.box 71 [(vS a1.fClass), (vS a2.fTo), (.own 6 (List.length l77))])), (some (.row 82 3 (List.map Give.c l77))), (some (.map (List.map (fun (p : (ByteArray × Bool)) => (Value.string p.1, Value.bool p.2)) (mset x54.fFrom true x47)))), none, (some (.box 82 [(vS r71.1.fFrom), (vI r71.1.fHow), (vI r71.1.fN)]))] ?_
             exact o_end (w51 _ _ _ (wkm [2, 3, 6, 8, 9, 23, 24, 25] (whk (wh_none (wh_keep (row_below Give.p _ _ _ _) (whk (wh_none (whk (wh_keep (row_below Give.p _ _ _ _) (whk wh_nil))))))))) h)
       · intro N59 w59
         refine c_ops ?_
         refine o_r4 [(32, (.ptr 8 1)), (33, (vI x54.fHow)), (34, (vB (x54.fHow == 6))), (35, (vB (x54.fHow == 6)))] ?_
         refine i_o [34, 35] h (fun h => ?_) (fun h => ?_)
         · refine o_r4 [(36, (.val undef)), (37, (.val undef)), (38, (.val undef)), (39, (vB true))] ?_
           exact o_end (w59 _ _ (wkm [2, 3, 6, 8, 9, 11, 23, 24, 25, 39] (whk (wh_none (wh_keep (row_below Give.p _ _ _ _) (whk (wh_none (whk (wh_keep (row_below Give.p _ _ _ _) (whk (whk wh_nil)))))))))) h)
         · refine o_r4 [(36, (.ptr 8 1)), (37, (vI x54.fHow)), (38, (vB (x54.fHow == 7))), (39, (vB (x54.fHow == 7)))] ?_
           exact o_end (w59 _ _ (wkm [2, 3, 6, 8, 9, 11, 23, 24, 25, 39] (whk (wh_none (wh_keep (row_below Give.p _ _ _ _) (whk (wh_none (whk (wh_keep (row_below Give.p _ _ _ _) (whk (whk wh_nil)))))))))) h)
   · refine c_exit (hE10 _ ?_)
     exact w7 _ _ _ (wkm [2, 3, 6, 8, 9] (whk (wh_none (wh_keep (row_below Give.p _ _ _ _) (whk (wh_none (whk (wh_keep (row_below Give.p _ _ _ _) (whk wh_nil))))))))) h
theorem ic14 : fnIC Tryz.prog H0 14 = some ([.tmp 10, .tmp 11], 89, (.seq (.ops [zO 10 (.nil 0 71 3), zO 11 (.mov (.c (.int .i64 0)))]) (.seq (.seq (.ops [zM 23 0, zO 24 (.call 44 [(.t 23)]), zM 25 1, zO 26 (.call 44 [(.t 25)]), zM 27 2, zO 28 (.call 44 [(.t 27)]), zO 29 (.isl 1 [(.t 24), (.t 26), (.t 28)]), zO 30 (.call 33 [(.t 29)]), zM 12 30]) (.seq (.ops [zM 31 12, zO 32 (.sc (.bin .neq 34) [(.t 31), (.c (.int .i64 0))])]) (.cond (.t 32)
  (.seq (.ops [zM 33 12, zO 10 (.nil 0 71 3), zM 11 33]) .ret)
  .skip))) (.seq (.seq (.ops [zM 34 0, zM 35 1, zM 36 3, zO 37 (.call 45 [(.t 34), (.t 35), (.t 36)]), zM 38 1, zM 39 2, zM 40 4, zO 41 (.call 45 [(.t 38), (.t 39), (.t 40)]), zO 42 (.isl 1 [(.t 37), (.t 41)]), zO 43 (.call 33 [(.t 42)]), zM 13 43]) (.seq (.ops [zM 44 13, zO 45 (.sc (.bin .neq 34) [(.t 44), (.c (.int .i64 0))])]) (.cond (.t 45)
  (.seq (.ops [zM 46 13, zO 10 (.nil 0 71 3), zM 11 46]) .ret)
  .skip))) (.seq (.ops [zO 14 (.nil 0 71 3)]) (.seq (.seq (.ops [zM 47 0, zO 48 (.len false (.t 47)), zO 49 (.mov (.c (.int .i64 0)))]) (.block 0 (.loop (.seq (.ops [zO 50 (.sc (.bin .lss 3) [(.t 49), (.t 48)])]) (.seq (.cond (.t 50)
  .skip
  (.exit 0)) (.seq (.block 1 (.seq (.ops [zO 51 (.iaddr 2 (.t 47) (.t 49)), zO 52 (.ld (.t 51) 2 true), zO 16 (.alloc 0 66 [(1, 68, 3, 0)] [(.string ⟨#[]⟩), (.slice none 0 0)]), zU (.st true 2 [(1, 68, 3, 0)] (.t 16) (.t 52))]) (.seq (.ops [zM 54 3, zO 55 (.faddr (.t 16) 0), zO 56 (.ld (.t 55) 1 false), zO 57 (.call 36 [(.t 54), (.t 56)]), zM 53 57, zO 58 (.ext (.t 53) 0), zO 59 (.ext (.t 53) 1), zO 17 (.alloc 0 71 [(2, 82, 3, 0)] [(.string ⟨#[]⟩), (.string ⟨#[]⟩), (.slice none 0 0)]), zU (.st true 3 [(2, 82, 3, 0)] (.t 17) (.t 58)), zM 18 59]) (.seq (.ops [zM 61 4, zO 62 (.faddr (.t 17) 1), zO 63 (.ld (.t 62) 1 false), zO 64 (.call 36 [(.t 61), (.t 63)]), zM 60 64, zO 65 (.ext (.t 60) 0), zO 66 (.ext (.t 60) 1), zO 19 (.alloc 0 71 [(2, 82, 3, 0)] [(.string ⟨#[]⟩), (.string ⟨#[]⟩), (.slice none 0 0)]), zU (.st true 3 [(2, 82, 3, 0)] (.t 19) (.t 65)), zM 20 66]) (.seq (.draw [] [⟨zO 68 (.ld (.t 17) 3 true), false, 0, 1⟩, ⟨zO 69 (.ld (.t 19) 3 true), false, 0, 1⟩, ⟨zM 70 1, false, 0, 1⟩, ⟨zM 71 1, false, 0, 1⟩, ⟨zO 72 (.faddr (.t 17) 1), false, 0, 1⟩, ⟨zO 73 (.ld (.t 72) 1 false), false, 0, 1⟩, ⟨zO 74 (.call 37 [(.t 71), (.t 73)]), false, 0, 1⟩, ⟨zO 75 (.iaddr 2 (.t 70) (.t 74)), false, 0, 1⟩, ⟨zO 76 (.faddr (.t 75) 1), false, 0, 1⟩, ⟨zO 77 (.ld (.t 76) 1 false), false, 0, 1⟩, ⟨zO 78 (.call 46 [(.t 68), (.t 69), (.t 77)]), false, 0, 1⟩, ⟨zM 67 78, false, 0, 1⟩, ⟨zO 79 (.ext (.t 67) 0), false, 0, 1⟩, ⟨zO 80 (.ext (.t 67) 1), false, 0, 2⟩, ⟨zO 21 (.alloc 0 71 [(2, 82, 3, 0)] [(.string ⟨#[]⟩), (.string ⟨#[]⟩), (.slice none 0 0)]), true, 0, 1⟩, ⟨zU (.st true 3 [(2, 82, 3, 0)] (.t 21) (.t 79)), true, 1, 2⟩, ⟨zM 22 80, false, 2, 2⟩]) (.seq (.seq (.ops [zM 81 22, zO 82 (.sc (.un .not) [(.t 81)])]) (.cond (.t 82)
  (.seq (.ops [zO 10 (.nil 0 71 3), zO 11 (.mov (.c (.int .i64 5)))]) .ret)
  .skip)) (.ops [zM 83 14, zO 84 (.ld (.t 21) 3 true), zO 85 (.isl 3 [(.t 84)]), zO 86 (.app 0 71 3 56 (.t 83) (.t 85)), zM 14 86]))))))) (.ops [zO 87 (.sc (.bin .add 3) [(.t 49), (.c (.int .i64 1))]), zM 49 87]))))))) (.seq (.ops [zM 88 14, zM 10 88, zO 11 (.mov (.c (.int .i64 0)))]) .ret))))))) := by kernel_rfl
def f38_k32 (x93 : (List Rule)) : Option ((List Rule) × Int) := some (x93, 0)
def f38_l36 (a1 : (List Form)) (n : Nat) (a4 : (List Rule)) (a5 : (List Rule)) (a2 : (List Form)) (k32k : (List Rule) → Option ((List Rule) × Int)) : Nat → Int → (List Rule) → Option ((List Rule) × Int)
  | 0, _, _ => none
  | m36 + 1, x64, x65 => (bif (decide (x64 < (len a1))) then ((gi a1 x64).bind fun x72 => ((f78 n a4 x72.fName).bind fun r75 => ((f78 n a5 r75.1.fTo).bind fun r78 => ((f52 n a2 r75.1.fTo).bind fun r81 => ((gi a2 r81).bind fun x83 => ((f87 n r75.1 r78.1 x83.fCols).bind fun r85 => (bif (!r85.2) then some ([], 5) else ((app2 x65 [r85.1]).bind fun l91 => (f38_l36 a1 n a4 a5 a2 (k32k) m36 (wr .i64 (x64 + 1)) l91))))))))) else (k32k x65))
def f38 (n : Nat) (a1 : (List Form)) (a2 : (List Form)) (a3 : (List Form)) (a4 : (List Rule)) (a5 : (List Rule)) : Option ((List Rule) × Int) := ((f16 n a1).bind fun r9 => ((f16 n a2).bind fun r11 => ((f16 n a3).bind fun r13 => ((f49 n [r9, r11, r13]).bind fun r15 => (bif (r15 != 0) then some ([], r15) else ((f80 n a1 a2 a4).bind fun r22 => ((f80 n a2 a3 a5).bind fun r24 => ((f49 n [r22, r24]).bind fun r26 => (bif (r26 != 0) then some ([], r26) else (f38_l36 a1 n a4 a5 a2 (f38_k32) n 0 []))))))))))
def f38_r (r : ((List Rule) × Int)) : AV := (.tup [(vL Rule.c r.1), (vI r.2)])
theorem p_f38 {n : Nat} {a1 : (List Form)} {a2 : (List Form)} {a3 : (List Form)} {a4 : (List Rule)} {a5 : (List Rule)} {r : ((List Rule) × Int)} (h : f38 n a1 a2 a3 a4 a5 = some r) : PureSpec Tryz.prog 14 [(vL Form.c a1), (vL Form.c a2), (vL Form.c a3), (vL Rule.c a4), (vL Rule.c a5)] (f38_r r) := by
 rw [f38.eq_1] at h
 refine pure_of hmix ic14 ?_
 refine go_to (mkd (.val undef) 89 0 [(0, (vL Form.c a1)), (1, (vL Form.c a2)), (2, (vL Form.c a3)), (3, (vL Rule.c a4)), (4, (vL Rule.c a5))]) ?_
 refine s_so fun N6 k6 w6 => ?_
 refine o_h2 [(10, (.own 0 0)), (11, (vI 0))] [(some (.row 71 3 (List.map Rule.c [])))] ?_
 refine o_end (k6 _ ?_)
 refine s_seq fun N7 k7 w7 => ?_
 refine s_so fun N8 k8 w8 => ?_
 refine o_r1 [(23, (vL Form.c a1))] ?_
 refine bnd h fun r9 g10 h => ?_
 refine o_o (one_call (p_f16 g10)) ?_
 refine o_r1 [(25, (vL Form.c a2))] ?_
 refine bnd h fun r11 g12 h => ?_
 refine o_o (one_call (p_f16 g12)) ?_
 refine o_r1 [(27, (vL Form.c a3))] ?_
 refine bnd h fun r13 g14 h => ?_
 refine o_o (one_call (p_f16 g14)) ?_
 refine o_r1 [(29, (vL cI [r9, r11, r13]))] ?_
 refine bnd h fun r15 g16 h => ?_
 refine o_o (one_call (p_f49 g16)) ?_
 refine o_r1 [(12, (vI r15))] ?_
 refine o_end (k8 _ ?_)
 refine s_so fun N17 k17 w17 => ?_
 refine o_r2 [(31, (vI r15)), (32, (vB (r15 != 0)))] ?_
 refine o_end (k17 _ ?_)
 refine i_c [32] h (fun h => ?_) (fun h => ?_)
 · refine s_so fun N19 k19 w19 => ?_
   refine o_h3 [(10, (.own 1 0)), (11, (vI r15)), (33, (vI r15))] [(some (.row 71 3 (List.map Rule.c []))), (some (.row 71 3 (List.map Rule.c [])))] ?_
   refine s_tm (mkd (.val undef) 89 0 [(0, (vL Form.c a1)), (1, (vL Form.c a2)), (2, (vL Form.c a3)), (3, (vL Rule.c a4)), (4, (vL Rule.c a5)), (10, (.own 1 0)), (11, (vI r15)), (12, (vI r15)), (23, (vL Form.c a1)), (24, (vI r9)), (25, (vL Form.c a2)), (26, (vI r11)), (27, (vL Form.c a3)), (28, (vI r13)), (29, (vL cI [r9, r11, r13])), (30, (vI r15)), (31, (vI r15)), (32, (vB true)), (33, (vI r15))]) ?_
   refine o_end (w19 _ ⟨(mkd .any 89 0 [(10, (.own 1 0)), (11, (vI r15))]), [none, (some (.row 71 3 (List.map Rule.c [])))]⟩ (wkm [10, 11] (wh_drop (wh_keep (row_below Rule.p _ _ _ _) wh_nil))) ?_)
   exact c_ret (retsF [1] [(.own 1 0), (vI r15)] [(vL Rule.c []), (vI r15)] ⟨(fz_own (g := Rule.c) (l := []) (t := 71) (sz := 3) Rule.p), fz_v, trivial⟩ h)
 · refine c_skip (k7 _ ?_)
   refine s_seq fun N20 k20 w20 => ?_
   refine s_so fun N21 k21 w21 => ?_
   refine o_r3 [(34, (vL Form.c a1)), (35, (vL Form.c a2)), (36, (vL Rule.c a4))] ?_
   refine s_tm (mkd (.val undef) 89 0 [(0, (vL Form.c a1)), (1, (vL Form.c a2)), (2, (vL Form.c a3)), (3, (vL Rule.c a4)), (4, (vL Rule.c a5)), (10, (.own 0 0)), (11, (vI 0)), (12, (vI r15)), (23, (vL Form.c a1)), (24, (vI r9)), (25, (vL Form.c a2)), (26, (vI r11)), (27, (vL Form.c a3)), (28, (vI r13)), (29, (vL cI [r9, r11, r13])), (30, (vI r15)), (31, (vI r15)), (32, (vB false)), (34, (vL Form.c a1)), (35, (vL Form.c a2)), (36, (vL Rule.c a4))]) ?_
   refine bnd h fun r22 g23 h => ?_
   refine o_o (one_call (p_f80 g23)) ?_
   refine o_r3 [(38, (vL Form.c a2)), (39, (vL Form.c a3)), (40, (vL Rule.c a5))] ?_
   refine bnd h fun r24 g25 h => ?_
   refine o_o (one_call (p_f80 g25)) ?_
   refine o_r1 [(42, (vL cI [r22, r24]))] ?_
   refine bnd h fun r26 g27 h => ?_
   refine o_o (one_call (p_f49 g27)) ?_
   refine o_r1 [(13, (vI r26))] ?_
   refine o_end (w21 _ ⟨(mkd .any 89 0 [(0, (vL Form.c a1)), (1, (vL Form.c a2)), (3, (vL Rule.c a4)), (4, (vL Rule.c a5)), (13, (vI r26))]), []⟩ (wkm [0, 1, 3, 4, 13] wh_nil) ?_)
   refine s_so fun N28 k28 w28 => ?_
   refine o_r2 [(44, (vI r26)), (45, (vB (r26 != 0)))] ?_
   refine o_end (k28 _ ?_)
   refine i_c [45] h (fun h => ?_) (fun h => ?_)
   · refine s_so fun N30 k30 w30 => ?_
     refine o_h3 [(10, (.own 0 0)), (11, (vI r26)), (46, (vI r26))] [(some (.row 71 3 (List.map Rule.c [])))] ?_
     refine o_end (k30 _ ?_)
     exact c_ret (retsF [0] [(.own 0 0), (vI r26)] [(vL Rule.c []), (vI r26)] ⟨(fz_own (g := Rule.c) (l := []) (t := 71) (sz := 3) Rule.p), fz_v, trivial⟩ h)
   · refine c_skip (k20 _ ?_)
     refine s_so fun N31 k31 w31 => ?_
     refine o_h1 [(14, (.own 0 0))] [(some (.row 71 3 (List.map Rule.c [])))] ?_
     refine o_end (k31 _ ?_)
     refine J1 (r := r) (fun (x93 : (List Rule)) => ⟨(mkd .any 89 0 [(14, (.own 0 (List.length x93)))]), [(some (.row 71 3 (List.map Rule.c x93)))]⟩) (f38_k32) ?_ ?_
     · intro x93 h
       rw [f38_k32.eq_1] at h
       refine s_so fun N94 k94 w94 => ?_
       refine o_r3 [(10, (.own 0 (List.length x93))), (11, (vI 0)), (88, (.own 0 (List.length x93)))] ?_
       refine o_end (k94 _ ?_)
       exact c_ret (retsF [0] [(.own 0 (List.length x93)), (vI 0)] [(vL Rule.c x93), (vI 0)] ⟨(fz_own (g := Rule.c) (l := x93) (t := 71) (sz := 3) Rule.p), fz_v, trivial⟩ h)
     · intro N32 w32
       refine s_so fun N33 k33 w33 => ?_
       refine o_r1 [(47, (vL Form.c a1))] ?_
       refine o_o (one_len (f := Form.c) (l := a1)) ?_
       refine o_r1 [(49, (vI 0))] ?_
       refine o_end (k33 _ ?_)
       refine c_block fun E35 hE35 hO35 => ?_
       refine W2 (fun (x64 : Int) (x65 : (List Rule)) => ⟨(mkd .any 89 0 [(1, (vL Form.c a2)), (3, (vL Rule.c a4)), (4, (vL Rule.c a5)), (14, (.own 0 (List.length x65))), (47, (vL Form.c a1)), (48, (vI (len a1))), (49, (vI x64))]), [(some (.row 71 3 (List.map Rule.c x65)))]⟩) (f38_l36 a1 n a4 a5 a2 (f38_k32)) h (wkm [1, 3, 4, 14, 47, 48, 49] (wh_keep (row_below Rule.p _ _ _ _) wh_nil)) (by intros; rw [f38_l36.eq_1]) ?_
       intro m36 x64 x65 h N36 w36
       rw [f38_l36.eq_2] at h
       refine s_so fun N66 k66 w66 => ?_
       refine o_r1 [(50, (vB (decide (x64 < (len a1)))))] ?_
       refine o_end (k66 _ ?_)
       refine s_seq fun N67 k67 w67 => ?_
       refine i_c [50] h (fun h => ?_) (fun h => ?_)
       · refine c_skip (k67 _ ?_)
         refine s_seq fun N69 k69 w69 => ?_
         refine c_block fun E70 hE70 hO70 => ?_
         refine s_so fun N71 k71 w71 => ?_
         refine bnd h fun x72 g73 h => ?_
         refine o_o (one_ia (f := Form.c) (ki := .i64) g73) ?_
         refine o_h3 [(16, (.ptr 2 0)), (52, (.agg [(vS x72.fName), (vL Col.c x72.fCols)]))] [(some (.row 71 3 (List.map Rule.c x65))), (some (.row 68 3 (List.map Col.c []))), (some (.box 66 [(vS x72.fName), (vL Col.c x72.fCols)]))] ?_
         refine o_end (k71 _ ?_)
         refine s_so fun N74 k74 w74 => ?_
         refine o_r3 [(54, (vL Rule.c a4)), (55, (.ptr 2 0)), (56, (vS x72.fName))] ?_
         refine bnd h fun r75 g76 h => ?_
         refine o_o (one_call (p_f78 g76)) ?_
         refine o_h6 [(17, (.ptr 4 0)), (18, (vB r75.2)), (53, (.tup [(.agg [(vS r75.1.fClass), (vS r75.1.fTo), (vL Give.c r75.1.fGives)]), (vB r75.2)])), (58, (.agg [(vS r75.1.fClass), (vS r75.1.fTo), (vL Give.c r75.1.fGives)])), (59, (vB r75.2))] [(some (.row 71 3 (List.map Rule.c x65))), (some (.row 68 3 (List.map Col.c []))), (some (.box 66 [(vS x72.fName), (vL Col.c x72.fCols)])), (some (.row 82 3 (List.map Give.c []))), (some (.box 71 [(vS r75.1.fClass), (vS r75.1.fTo), (vL Give.c r75.1.fGives)]))] ?_
         refine o_end (k74 _ ?_)
         refine s_so fun N77 k77 w77 => ?_
         refine o_r3 [(61, (vL Rule.c a5)), (62, (.ptr 4 1)), (63, (vS r75.1.fTo))] ?_
         refine bnd h fun r78 g79 h => ?_
         refine o_o (one_call (p_f78 g79)) ?_
         refine o_h6 [(19, (.ptr 6 0)), (20, (vB r78.2)), (60, (.tup [(.agg [(vS r78.1.fClass), (vS r78.1.fTo), (vL Give.c r78.1.fGives)]), (vB r78.2)])), (65, (.agg [(vS r78.1.fClass), (vS r78.1.fTo), (vL Give.c r78.1.fGives)])), (66, (vB r78.2))] [(some (.row 71 3 (List.map Rule.c x65))), (some (.row 68 3 (List.map Col.c []))), (some (.box 66 [(vS x72.fName), (vL Col.c x72.fCols)])), (some (.row 82 3 (List.map Give.c []))), (some (.box 71 [(vS r75.1.fClass), (vS r75.1.fTo), (vL Give.c r75.1.fGives)])), (some (.row 82 3 (List.map Give.c []))), (some (.box 71 [(vS r78.1.fClass), (vS r78.1.fTo), (vL Give.c r78.1.fGives)]))] ?_
         refine o_end (w77 _ ⟨(mkd .any 89 0 [(1, (vL Form.c a2)), (3, (vL Rule.c a4)), (4, (vL Rule.c a5)), (14, (.own 0 (List.length x65))), (17, (.ptr 4 0)), (19, (.ptr 6 0)), (47, (vL Form.c a1)), (48, (vI (len a1))), (49, (vI x64))]), [(some (.row 71 3 (List.map Rule.c x65))), none, none, none, (some (.box 71 [(vS r75.1.fClass), (vS r75.1.fTo), (vL Give.c r75.1.fGives)])), none, (some (.box 71 [(vS r78.1.fClass), (vS r78.1.fTo), (vL Give.c r78.1.fGives)]))]⟩ (wkm [1, 3, 4, 14, 17, 19, 47, 48, 49] (wh_keep (row_below Rule.p _ _ _ _) (wh_drop (wh_drop (wh_drop (whk (wh_drop (whk wh_nil)))))))) ?_)
         refine s_seq fun N80 k80 w80 => ?_
         refine c_draw0 ?_
         refine d_r6 [(68, (.agg [(vS r75.1.fClass), (vS r75.1.fTo), (vL Give.c r75.1.fGives)])), (69, (.agg [(vS r78.1.fClass), (vS r78.1.fTo), (vL Give.c r78.1.fGives)])), (70, (vL Form.c a2)), (71, (vL Form.c a2)), (72, (.ptr 4 1)), (73, (vS r75.1.fTo))] ?_
         refine bnd h fun r81 g82 h => ?_
         refine d_o (one_call (p_f52 g82)) ?_
         refine bnd h fun x83 g84 h => ?_
         refine d_o (one_ia (f := Form.c) (ki := .i64) g84) ?_
         refine d_r2 [(76, (.iptr [(vL Col.c x83.fCols)])), (77, (vL Col.c x83.fCols))] ?_
         refine bnd h fun r85 g86 h => ?_
         refine d_o (one_call (p_f87 g86)) ?_
         refine d_r3 [(67, (.tup [(.agg [(vS r85.1.fClass), (vS r85.1.fTo), (vL Give.c r85.1.fGives)]), (vB r85.2)])), (79, (.agg [(vS r85.1.fClass), (vS r85.1.fTo), (vL Give.c r85.1.fGives)])), (80, (vB r85.2))] ?_
         refine d_te (.ptr 8 0) [(some (.row 71 3 (List.map Rule.c x65))), none, none, none, (some (.box 71 [(vS r75.1.fClass), (vS r75.1.fTo), (vL Give.c r75.1.fGives)])), none, (some (.box 71 [(vS r78.1.fClass), (vS r78.1.fTo), (vL Give.c r78.1.fGives)])), (some (.row 82 3 (List.map Give.c []))), (some (.box 71 [(vS (ByteArray.mk #[])), (vS (ByteArray.mk #[])), (.own 7 0)]))] (ra_cat (ra_cat (ra_cat (ra_cat (ra_cat (ra_cat ra_nil (ra_t (ra_t (ra_t (ra_t (ra_t (ra_t ra_nil))))))) (ra_o (one_call (p_f52 g82)) ra_nil)) (ra_o (one_ia (f := Form.c) (ki := .i64) g84) ra_nil)) (ra_t (ra_t ra_nil))) (ra_o (one_call (p_f87 g86)) ra_nil)) (ra_t (ra_t (ra_t ra_nil)))) ?_
         refine d_te (.val undef) [(some (.row 71 3 (List.map Rule.c x65))), none, none, none, (some (.box 71 [(vS r75.1.fClass), (vS r75.1.fTo), (vL Give.c r75.1.fGives)])), none, (some (.box 71 [(vS r78.1.fClass), (vS r78.1.fTo), (vL Give.c r78.1.fGives)])), (some (.row 82 3 (List.map Give.c []))), (some (.box 71 [(vS r85.1.fClass), (vS r85.1.fTo), (vL Give.c r85.1.fGives)]))] (ra_cat (ra_cat (ra_cat (ra_cat (ra_cat (ra_cat ra_nil (ra_s (ra_s (ra_s (ra_s (ra_s (ra_s ra_nil))))))) (ra_s ra_nil)) (ra_s ra_nil)) (ra_s (ra_s ra_nil))) (ra_s ra_nil)) (ra_s (ra_s (ra_t ra_nil)))) ?_
         refine d_r1 [(22, (vB r85.2))] ?_
         refine d_end (w80 _ ⟨(mkd .any 89 0 [(1, (vL Form.c a2)), (3, (vL Rule.c a4)), (4, (vL Rule.c a5)), (14, (.own 0 (List.length x65))), (21, (.ptr 8 0)), (22, (vB r85.2)), (47, (vL Form.c a1)), (48, (vI (len a1))), (49, (vI x64))]), [(some (.row 71 3 (List.map Rule.c x65))), none, none, none, none, none, none, none, (some (.box 71 [(vS r85.1.fClass), (vS r85.1.fTo), (vL Give.c r85.1.fGives)]))]⟩ (wkm [1, 3, 4, 14, 21, 22, 47, 48, 49] (wh_keep (row_below Rule.p _ _ _ _) (wh_none (wh_none (wh_none (wh_drop (wh_none (wh_drop (wh_drop (whk wh_nil)))))))))) ?_)
         refine s_seq fun N87 k87 w87 => ?_
         refine s_so fun N88 k88 w88 => ?_
         refine o_r2 [(81, (vB r85.2)), (82, (vB (!r85.2)))] ?_
         refine o_end (k88 _ ?_)
         refine i_c [82] h (fun h => ?_) (fun h => ?_)
         · refine s_so fun N90 k90 w90 => ?_
           refine o_h2 [(10, (.own 9 0)), (11, (vI 5))] [(some (.row 71 3 (List.map Rule.c x65))), none, none, none, none, none, none, none, (some (.box 71 [(vS r85.1.fClass), (vS r85.1.fTo), (vL Give.c r85.1.fGives)])), (some (.row 71 3 (List.map Rule.c [])))] ?_
           refine o_end (k90 _ ?_)
           exact c_ret (retsF [9] [(.own 9 0), (vI 5)] [(vL Rule.c []), (vI 5)] ⟨(fz_own (g := Rule.c) (l := []) (t := 71) (sz := 3) Rule.p), fz_v, trivial⟩ h)
         · refine c_skip (k87 _ ?_)
           refine c_ops ?_
           refine o_r3 [(83, (.own 0 (List.length x65))), (84, (.agg [(vS r85.1.fClass), (vS r85.1.fTo), (vL Give.c r85.1.fGives)])), (85, (vL Rule.c [r85.1]))] ?_
           refine bnd h fun l91 g92 h => ?_
           refine o_x [(some (.row 71 3 (List.map Rule.c l91))), none, none, none, none, none, none, none, (some (.box 71 [(vS r85.1.fClass), (vS r85.1.fTo), (vL Give.c r85.1.fGives)]))] (one_app (f := Rule.c) (o := 0) g92 (fun _ => ⟨rfl, rfl⟩)) ?_
           refine o_r1 [(14, (.own 0 (List.length l91)))] ?_
           refine o_end (k69 _ ?_)
           refine c_ops ?_
           refine o_r2 [(49, (vI (wr .i64 (x64 + 1)))), (87, (vI (wr .i64 (x64 + 1))))] ?_
           exact o_end (w36 _ _ _ (wkm [1, 3, 4, 14, 47, 48, 49] (wh_keep (row_below Rule.p _ _ _ _) wh_nil)) h)
       · refine c_exit (hE35 _ ?_)
         exact w32 _ _ (wkm [14] (wh_keep (row_below Rule.p _ _ _ _) wh_nil)) h
theorem ic49 : fnIC Tryz.prog H0 49 = some ([.tmp 2], 16, (.seq (.ops [zO 1 (.box 0 82 [] (.t 0)), zO 2 (.mov (.c (.bool false)))]) (.seq (.ops [zO 3 (.faddr (.t 1) 1), zO 4 (.ld (.t 3) 1 false), zO 5 (.sc (.bin .eql 3) [(.t 4), (.c (.int .i64 3))]), zM 6 5, zG 7 6 false (.faddr (.t 1) 1), zG 8 6 false (.ld (.t 7) 1 false), zG 9 6 false (.sc (.bin .eql 3) [(.t 8), (.c (.int .i64 4))]), zO 10 (.pick (.t 6) (.c (.bool true)) (.t 9)), zM 11 10, zG 12 11 false (.faddr (.t 1) 1), zG 13 11 false (.ld (.t 12) 1 false), zG 14 11 false (.sc (.bin .eql 3) [(.t 13), (.c (.int .i64 5))]), zO 15 (.pick (.t 11) (.c (.bool true)) (.t 14)), zM 2 15]) .ret))) := by kernel_rfl
def f215_k3 (x6 : Bool) : Option Bool := some x6
def f215 (n : Nat) (a1 : Give) : Option Bool := (bif (a1.fHow == 3) then (f215_k3 true) else (bif (a1.fHow == 4) then (f215_k3 true) else (f215_k3 (a1.fHow == 5))))
def f215_r (r : Bool) : AV := (vB r)
theorem p_f215 {n : Nat} {a1 : Give} {r : Bool} (h : f215 n a1 = some r) : PureSpec Tryz.prog 49 [(.agg [(vS a1.fFrom), (vI a1.fHow), (vI a1.fN)])] (f215_r r) := by
 rw [f215.eq_1] at h
 refine pure_of hmix ic49 ?_
 refine go_to (mkd (.val undef) 16 0 [(0, (.agg [(vS a1.fFrom), (vI a1.fHow), (vI a1.fN)]))]) ?_
 refine s_so fun N2 k2 w2 => ?_
 refine o_h2 [(1, (.ptr 0 0)), (2, (vB false))] [(some (.box 82 [(vS a1.fFrom), (vI a1.fHow), (vI a1.fN)]))] ?_
 refine o_end (k2 _ ?_)
 refine J1 (r := r) (fun (x6 : Bool) => ⟨(mkd .any 16 0 [(2, (vB x6))]), []⟩) (f215_k3) ?_ ?_
 · intro x6 h
   rw [f215_k3.eq_1] at h
   exact c_ret (rets [] [(vB x6)] [(vB x6)] h)
 · intro N3 w3
   refine c_ops ?_
   refine o_r4 [(3, (.ptr 0 1)), (4, (vI a1.fHow)), (5, (vB (a1.fHow == 3))), (6, (vB (a1.fHow == 3)))] ?_
   refine i_o [5, 6] h (fun h => ?_) (fun h => ?_)
   · refine o_r10 [(2, (vB true)), (7, (.val undef)), (8, (.val undef)), (9, (.val undef)), (10, (vB true)), (11, (vB true)), (12, (.val undef)), (13, (.val undef)), (14, (.val undef)), (15, (vB true))] ?_
     exact o_end (w3 _ _ (wkm [2] wh_nil) h)
   · refine o_r5 [(7, (.ptr 0 1)), (8, (vI a1.fHow)), (9, (vB (a1.fHow == 4))), (10, (vB (a1.fHow == 4))), (11, (vB (a1.fHow == 4)))] ?_
     refine i_o [9, 10, 11] h (fun h => ?_) (fun h => ?_)
     · refine o_r5 [(2, (vB true)), (12, (.val undef)), (13, (.val undef)), (14, (.val undef)), (15, (vB true))] ?_
       exact o_end (w3 _ _ (wkm [2] wh_nil) h)
     · refine o_r5 [(2, (vB (a1.fHow == 5))), (12, (.ptr 0 1)), (13, (vI a1.fHow)), (14, (vB (a1.fHow == 5))), (15, (vB (a1.fHow == 5)))] ?_
       exact o_end (w3 _ _ (wkm [2] wh_nil) h)
theorem ic50 : fnIC Tryz.prog H0 50 = some ([.tmp 4], 27, (.seq (.ops [zO 4 (.mov (.c (.bool false)))]) (.seq (.seq (.ops [zO 5 (.mov (.c (.int .i64 0)))]) (.block 0 (.loop (.seq (.seq (.ops [zM 6 5, zM 7 0, zO 8 (.len false (.t 7)), zO 9 (.sc (.bin .lss 3) [(.t 6), (.t 8)])]) (.cond (.t 9)
  .skip
  (.exit 0))) (.seq (.block 1 (.seq (.ops [zM 12 0, zM 13 5, zO 14 (.iaddr 3 (.t 12) (.t 13)), zO 15 (.faddr (.t 14) 1), zO 16 (.ld (.t 15) 1 false), zO 17 (.call 51 [(.t 16)]), zM 18 17, zN 19 18 true 0, zN 20 18 true 5, zG 21 18 true (.iaddr 3 (.t 19) (.t 20)), zG 22 18 true (.faddr (.t 21) 0), zG 23 18 true (.ld (.t 22) 1 false), zN 24 18 true 1, zG 25 18 true (.sc (.bin .eql 9) [(.t 23), (.t 24)]), zO 26 (.pick (.t 18) (.t 25) (.c (.bool false)))]) (.cond (.t 26)
  (.seq (.ops [zO 4 (.mov (.c (.bool true)))]) .ret)
  .skip))) (.ops [zM 10 5, zO 11 (.sc (.bin .add 3) [(.t 10), (.c (.int .i64 1))]), zM 5 11])))))) (.seq (.ops [zO 4 (.mov (.c (.bool false)))]) .ret)))) := by kernel_rfl
def f216_k33 (x26 : Int) (c7k : Int → Option Bool) (x42 : Bool) : Option Bool := (bif x42 then some true else (c7k (wr .i64 (x26 + 1))))
def f216_k4 : Option Bool := some false
def f216_l7 (a1 : (List Give)) (n : Nat) (a2 : ByteArray) (k4k : Option Bool) : Nat → Int → Option Bool
  | 0, _ => none
  | m7 + 1, x26 => (bif (decide (x26 < (len a1))) then ((gi a1 x26).bind fun x34 => ((f217 n x34.fHow).bind fun r36 => (bif r36 then ((gi a1 x26).bind fun x39 => (f216_k33 x26 (f216_l7 a1 n a2 (k4k) m7) (sEqF x39.fFrom a2))) else (f216_k33 x26 (f216_l7 a1 n a2 (k4k) m7) false)))) else (k4k))
def f216 (n : Nat) (a1 : (List Give)) (a2 : ByteArray) : Option Bool := (f216_l7 a1 n a2 (f216_k4) n 0)
def f216_r (r : Bool) : AV := (vB r)
theorem p_f216 {n : Nat} {a1 : (List Give)} {a2 : ByteArray} {r : Bool} (h : f216 n a1 a2 = some r) : PureSpec Tryz.prog 50 [(vL Give.c a1), (vS a2)] (f216_r r) := by
 rw [f216.eq_1] at h
 refine pure_of hmix ic50 ?_
 refine go_to (mkd (.val undef) 27 0 [(0, (vL Give.c a1)), (1, (vS a2))]) ?_
 refine s_so fun N3 k3 w3 => ?_
 refine o_r1 [(4, (vB false))] ?_
 refine o_end (k3 _ ?_)
 refine J0 (r := r) ⟨(mkd .any 27 0 []), []⟩ (f216_k4) ?_ ?_
 · intro h
   rw [f216_k4.eq_1] at h
   refine s_so fun N45 k45 w45 => ?_
   refine o_r1 [(4, (vB false))] ?_
   refine o_end (k45 _ ?_)
   exact c_ret (rets [] [(vB false)] [(vB false)] h)
 · intro N4 w4
   refine s_so fun N5 k5 w5 => ?_
   refine o_r1 [(5, (vI 0))] ?_
   refine o_end (k5 _ ?_)
   refine c_block fun E6 hE6 hO6 => ?_
   refine W1 (fun (x26 : Int) => ⟨(mkd .any 27 0 [(0, (vL Give.c a1)), (1, (vS a2)), (5, (vI x26))]), []⟩) (f216_l7 a1 n a2 (f216_k4)) h (wkm [0, 1, 5] wh_nil) (by intros; rw [f216_l7.eq_1]) ?_
   intro m7 x26 h N7 w7
   rw [f216_l7.eq_2] at h
   refine s_seq fun N27 k27 w27 => ?_
   refine s_so fun N28 k28 w28 => ?_
   refine o_r2 [(6, (vI x26)), (7, (vL Give.c a1))] ?_
   refine o_o (one_len (f := Give.c) (l := a1)) ?_
   refine o_r1 [(9, (vB (decide (x26 < (len a1)))))] ?_
   refine o_end (k28 _ ?_)
   refine i_c [9] h (fun h => ?_) (fun h => ?_)
   · refine c_skip (k27 _ ?_)
     refine s_seq fun N31 k31 w31 => ?_
     refine c_block fun E32 hE32 hO32 => ?_
     refine J1 (r := r) (fun (x42 : Bool) => ⟨(mkd .any 27 0 [(0, (vL Give.c a1)), (1, (vS a2)), (5, (vI x26)), (26, (vB x42))]), []⟩) (f216_k33 x26 (f216_l7 a1 n a2 (f216_k4) m7)) ?_ ?_
     · intro x42 h
       rw [f216_k33.eq_1] at h
       refine i_c [26] h (fun h => ?_) (fun h => ?_)
       · refine s_so fun N44 k44 w44 => ?_
         refine o_r1 [(4, (vB true))] ?_
         refine o_end (k44 _ ?_)
         exact c_ret (rets [] [(vB true)] [(vB true)] h)
       · refine c_skip (k31 _ ?_)
         refine c_ops ?_
         refine o_r3 [(5, (vI (wr .i64 (x26 + 1)))), (10, (vI x26)), (11, (vI (wr .i64 (x26 + 1))))] ?_
         exact o_end (w7 _ _ (wkm [0, 1, 5] wh_nil) h)
     · intro N33 w33
       refine c_ops ?_
       refine o_r2 [(12, (vL Give.c a1)), (13, (vI x26))] ?_
       refine bnd h fun x34 g35 h => ?_
       refine o_o (one_ia (f := Give.c) (ki := .i64) g35) ?_
       refine o_r2 [(15, (.iptr [(vI x34.fHow), (vI x34.fN)])), (16, (vI x34.fHow))] ?_
       refine bnd h fun r36 g37 h => ?_
       refine o_o (one_call (p_f217 g37)) ?_
       refine o_r1 [(18, (vB r36))] ?_
       refine i_o [17, 18] h (fun h => ?_) (fun h => ?_)
       · refine o_r2 [(19, (vL Give.c a1)), (20, (vI x26))] ?_
         refine bnd h fun x39 g40 h => ?_
         refine o_g ?_
         refine o_o (one_ia (f := Give.c) (ki := .i64) g40) ?_
         refine o_r3 [(22, (.iptr [(vS x39.fFrom), (vI x39.fHow), (vI x39.fN)])), (23, (vS x39.fFrom)), (24, (vS a2))] ?_
         refine s_tm (mkd .any 27 0 [(0, (vL Give.c a1)), (1, (vS a2)), (5, (vI x26)), (6, (vI x26)), (7, (vL Give.c a1)), (8, (vI (len a1))), (9, (vB true)), (12, (vL Give.c a1)), (13, (vI x26)), (14, (.iptr [(vS x34.fFrom), (vI x34.fHow), (vI x34.fN)])), (15, (.iptr [(vI x34.fHow), (vI x34.fN)])), (16, (vI x34.fHow)), (17, (vB true)), (18, (vB true)), (19, (vL Give.c a1)), (20, (vI x26)), (21, (.iptr [(vS x39.fFrom), (vI x39.fHow), (vI x39.fN)])), (22, (.iptr [(vS x39.fFrom), (vI x39.fHow), (vI x39.fN)])), (23, (vS x39.fFrom)), (24, (vS a2))]) ?_
         refine o_g ?_
         refine o_o (one_sc (vs := [.string x39.fFrom, .string a2]) (str_eql x39.fFrom a2)) ?_
         refine o_r1 [(26, (vB (sEqF x39.fFrom a2)))] ?_
         exact o_end (w33 _ _ (wkm [0, 1, 5, 26] wh_nil) h)
       · refine o_r8 [(19, (.val undef)), (20, (.val undef)), (21, (.val undef)), (22, (.val undef)), (23, (.val undef)), (24, (.val undef)), (25, (.val undef)), (26, (vB false))] ?_
         exact o_end (w33 _ _ (wkm [0, 1, 5, 26] wh_nil) h)
   · refine c_exit (hE6 _ ?_)
     exact w4 _ (wkm [] wh_nil) h
theorem ic52 : fnIC Tryz.prog H0 52 = some ([.cell 4 105], 88, (.seq (.ops [zO 2 (.box 0 82 [] (.t 0)), zO 3 (.box 0 82 [] (.t 1)), zO 4 (.alloc 0 105 [] [(.string ⟨#[]⟩), (.int .i64 0), (.int .i64 0), (.bool false)])]) (.seq (.seq (.ops [zO 5 (.faddr (.t 3) 1), zO 6 (.ld (.t 5) 1 false), zO 7 (.sc (.bin .eql 3) [(.t 6), (.c (.int .i64 1))])]) (.cond (.t 7)
  (.seq (.ops [zO 8 (.ld (.t 2) 3 true), zO 9 (.bld [(.string ⟨#[]⟩), (.int .i64 0), (.int .i64 0), (.bool false)] [(0, 3, (.t 8)), (3, 1, (.c (.bool true)))]), zU (.st true 4 [] (.t 4) (.t 9))]) .ret)
  .skip)) (.seq (.seq (.ops [zO 10 (.faddr (.t 2) 1), zO 11 (.ld (.t 10) 1 false), zO 12 (.sc (.bin .eql 3) [(.t 11), (.c (.int .i64 1))])]) (.cond (.t 12)
  (.seq (.ops [zO 13 (.faddr (.t 2) 0), zO 14 (.ld (.t 13) 1 false), zO 15 (.faddr (.t 3) 1), zO 16 (.ld (.t 15) 1 false), zO 17 (.faddr (.t 3) 2), zO 18 (.ld (.t 17) 1 false), zO 19 (.bld [(.string ⟨#[]⟩), (.int .i64 0), (.int .i64 0)] [(0, 1, (.t 14)), (1, 1, (.t 16)), (2, 1, (.t 18))]), zO 20 (.bld [(.string ⟨#[]⟩), (.int .i64 0), (.int .i64 0), (.bool false)] [(0, 3, (.t 19)), (3, 1, (.c (.bool true)))]), zU (.st true 4 [] (.t 4) (.t 20))]) .ret)
  .skip)) (.seq (.seq (.ops [zO 21 (.faddr (.t 3) 1), zO 22 (.ld (.t 21) 1 false)]) (.block 0 (.seq (.ops [zO 24 (.sc (.bin .eql 3) [(.t 22), (.c (.int .i64 2))]), zM 23 24]) (.cond (.t 23)
  (.seq (.ops [zO 25 (.ld (.t 2) 3 true), zO 26 (.faddr (.t 2) 1), zO 27 (.ld (.t 26) 1 false), zO 28 (.sc (.bin .eql 3) [(.t 27), (.c (.int .i64 6))]), zO 29 (.bld [(.string ⟨#[]⟩), (.int .i64 0), (.int .i64 0), (.bool false)] [(0, 3, (.t 25)), (3, 1, (.t 28))]), zU (.st true 4 [] (.t 4) (.t 29))]) .ret)
  (.seq (.ops [zO 31 (.sc (.bin .eql 3) [(.t 22), (.c (.int .i64 3))]), zM 30 31]) (.cond (.t 30)
  (.seq (.seq (.ops [zO 32 (.faddr (.t 2) 1), zO 33 (.ld (.t 32) 1 false), zO 34 (.sc (.bin .eql 3) [(.t 33), (.c (.int .i64 2))])]) (.cond (.t 34)
  (.seq (.ops [zO 35 (.faddr (.t 2) 0), zO 36 (.ld (.t 35) 1 false), zO 37 (.bld [(.string ⟨#[]⟩), (.int .i64 0), (.int .i64 0)] [(0, 1, (.t 36)), (1, 1, (.c (.int .i64 1)))]), zO 38 (.bld [(.string ⟨#[]⟩), (.int .i64 0), (.int .i64 0), (.bool false)] [(0, 3, (.t 37)), (3, 1, (.c (.bool true)))]), zU (.st true 4 [] (.t 4) (.t 38))]) .ret)
  .skip)) (.seq (.draw [] [zQ (zO 39 (.ld (.t 2) 3 true)), zQ (zO 40 (.faddr (.t 2) 1)), zQ (zO 41 (.ld (.t 40) 1 false)), zQ (zO 42 (.sc (.bin .eql 3) [(.t 41), (.c (.int .i64 6))])), zQ (zM 43 42), zQ (zG 44 43 true (.faddr (.t 2) 2)), zQ (zG 45 43 true (.ld (.t 44) 1 false)), zQ (zG 46 43 true (.call 68 [(.t 45), (.c (.int .i64 0)), (.c (.int .i64 1))])), zQ (zO 47 (.pick (.t 43) (.t 46) (.c (.bool false)))), zQ (zO 48 (.bld [(.string ⟨#[]⟩), (.int .i64 0), (.int .i64 0), (.bool false)] [(0, 3, (.t 39)), (3, 1, (.t 47))])), ⟨zU (.st true 4 [] (.t 4) (.t 48)), true, 0, 1⟩]) .ret))
  (.seq (.ops [zO 50 (.sc (.bin .eql 3) [(.t 22), (.c (.int .i64 4))]), zM 49 50]) (.cond (.t 49)
  (.seq (.seq (.ops [zO 51 (.faddr (.t 2) 1), zO 52 (.ld (.t 51) 1 false), zO 53 (.sc (.bin .eql 3) [(.t 52), (.c (.int .i64 2))])]) (.cond (.t 53)
  (.seq (.ops [zO 54 (.ld (.t 2) 3 true), zO 55 (.faddr (.t 3) 2), zO 56 (.ld (.t 55) 1 false), zO 57 (.sc (.bin .geq 3) [(.t 56), (.c (.int .i64 2))]), zO 58 (.bld [(.string ⟨#[]⟩), (.int .i64 0), (.int .i64 0), (.bool false)] [(0, 3, (.t 54)), (3, 1, (.t 57))]), zU (.st true 4 [] (.t 4) (.t 58))]) .ret)
  .skip)) (.seq (.seq (.ops [zO 59 (.faddr (.t 2) 1), zO 60 (.ld (.t 59) 1 false), zO 61 (.sc (.bin .eql 3) [(.t 60), (.c (.int .i64 4))])]) (.cond (.t 61)
  (.seq (.ops [zO 62 (.faddr (.t 2) 0), zO 63 (.ld (.t 62) 1 false), zO 64 (.faddr (.t 2) 2), zO 65 (.ld (.t 64) 1 false), zO 66 (.faddr (.t 3) 2), zO 67 (.ld (.t 66) 1 false), zO 68 (.sc .mn [(.t 65), (.t 67)]), zO 69 (.bld [(.string ⟨#[]⟩), (.int .i64 0), (.int .i64 0)] [(0, 1, (.t 63)), (1, 1, (.c (.int .i64 4))), (2, 1, (.t 68))]), zO 70 (.bld [(.string ⟨#[]⟩), (.int .i64 0), (.int .i64 0), (.bool false)] [(0, 3, (.t 69)), (3, 1, (.c (.bool true)))]), zU (.st true 4 [] (.t 4) (.t 70))]) .ret)
  .skip)) (.seq (.ops [zO 71 (.ld (.t 2) 3 true), zO 72 (.faddr (.t 2) 1), zO 73 (.ld (.t 72) 1 false), zO 74 (.sc (.bin .eql 3) [(.t 73), (.c (.int .i64 6))]), zM 75 74, zG 76 75 true (.faddr (.t 2) 2), zG 77 75 true (.ld (.t 76) 1 false), zG 78 75 true (.faddr (.t 3) 2), zG 79 75 true (.ld (.t 78) 1 false), zG 80 75 true (.sc (.bin .lss 3) [(.t 77), (.t 79)]), zO 81 (.pick (.t 75) (.t 80) (.c (.bool false))), zO 82 (.bld [(.string ⟨#[]⟩), (.int .i64 0), (.int .i64 0), (.bool false)] [(0, 3, (.t 71)), (3, 1, (.t 81))]), zU (.st true 4 [] (.t 4) (.t 82))]) .ret)))
  .skip)))))))) (.seq (.ops [zO 83 (.ld (.t 2) 3 true), zO 84 (.faddr (.t 2) 1), zO 85 (.ld (.t 84) 1 false), zO 86 (.sc (.bin .eql 3) [(.t 85), (.c (.int .i64 5))]), zO 87 (.bld [(.string ⟨#[]⟩), (.int .i64 0), (.int .i64 0), (.bool false)] [(0, 3, (.t 83)), (3, 1, (.t 86))]), zU (.st true 4 [] (.t 4) (.t 87))]) .ret)))))) := by kernel_rfl
def f218_k24 (a1 : Give) (x28 : Bool) : Option GIs := some (GIs.mk a1 x28)
def f218_k39 (a1 : Give) (x41 : Bool) : Option GIs := some (GIs.mk a1 x41)
def f218 (n : Nat) (a1 : Give) (a2 : Give) : Option GIs := (bif (a2.fHow == 1) then some (GIs.mk a1 true) else (bif (a1.fHow == 1) then some (GIs.mk (Give.mk a1.fFrom a2.fHow a2.fN) true) else (bif (a2.fHow == 2) then some (GIs.mk a1 (a1.fHow == 6)) else (bif (a2.fHow == 3) then (bif (a1.fHow == 2) then some (GIs.mk (Give.mk a1.fFrom 1 0) true) else (bif (a1.fHow == 6) then ((f58 n a1.fN 0 1).bind fun r26 => (f218_k24 a1 r26)) else (f218_k24 a1 false))) else (bif (a2.fHow == 4) then (bif (a1.fHow == 2) then some (GIs.mk a1 (decide (a2.fN ≥ 2))) else (bif (a1.fHow == 4) then some (GIs.mk (Give.mk a1.fFrom 4 (mnI a1.fN a2.fN)) true) else (bif (a1.fHow == 6) then (f218_k39 a1 (decide (a1.fN < a2.fN))) else (f218_k39 a1 false)))) else some (GIs.mk a1 (a1.fHow == 5)))))))
def f218_r (r : GIs) : AV := (.agg [(vS r.fG.fFrom), (vI r.fG.fHow), (vI r.fG.fN), (vB r.fIs)])
theorem p_f218 {n : Nat} {a1 : Give} {a2 : Give} {r : GIs} (h : f218 n a1 a2 = some r) : PureSpec Tryz.prog 52 [(.agg [(vS a1.fFrom), (vI a1.fHow), (vI a1.fN)]), (.agg [(vS a2.fFrom), (vI a2.fHow), (vI a2.fN)])] (f218_r r) := by
 rw [f218.eq_1] at h
 refine pure_of hmix ic52 ?_
 refine go_to (mkd (.val undef) 88 0 [(0, (.agg [(vS a1.fFrom), (vI a1.fHow), (vI a1.fN)])), (1, (.agg [(vS a2.fFrom), (vI a2.fHow), (vI a2.fN)]))]) ?_
 refine s_so fun N3 k3 w3 => ?_
 refine o_h3 [(2, (.ptr 0 0)), (3, (.ptr 1 0)), (4, (.ptr 2 0))] [(some (.box 82 [(vS a1.fFrom), (vI a1.fHow), (vI a1.fN)])), (some (.box 82 [(vS a2.fFrom), (vI a2.fHow), (vI a2.fN)])), (some (.box 105 [(vS (ByteArray.mk #[])), (vI 0), (vI 0), (vB false)]))] ?_
 refine o_end (k3 _ ?_)
 refine s_seq fun N4 k4 w4 => ?_
 refine s_so fun N5 k5 w5 => ?_
 refine o_r3 [(5, (.ptr 1 1)), (6, (vI a2.fHow)), (7, (vB (a2.fHow == 1)))] ?_
 refine o_end (k5 _ ?_)
 refine i_c [7] h (fun h => ?_) (fun h => ?_)
 · refine s_so fun N7 k7 w7 => ?_
   refine o_h3 [(8, (.agg [(vS a1.fFrom), (vI a1.fHow), (vI a1.fN)])), (9, (.agg [(vS a1.fFrom), (vI a1.fHow), (vI a1.fN), (vB true)]))] [(some (.box 82 [(vS a1.fFrom), (vI a1.fHow), (vI a1.fN)])), (some (.box 82 [(vS a2.fFrom), (vI a2.fHow), (vI a2.fN)])), (some (.box 105 [(vS a1.fFrom), (vI a1.fHow), (vI a1.fN), (vB true)]))] ?_
   refine o_end (k7 _ ?_)
   exact c_ret (rets [] [(.agg [(vS a1.fFrom), (vI a1.fHow), (vI a1.fN), (vB true)])] [(.agg [(vS a1.fFrom), (vI a1.fHow), (vI a1.fN), (vB true)])] h)
 · refine c_skip (k4 _ ?_)
   refine s_seq fun N8 k8 w8 => ?_
   refine s_so fun N9 k9 w9 => ?_
   refine o_r3 [(10, (.ptr 0 1)), (11, (vI a1.fHow)), (12, (vB (a1.fHow == 1)))] ?_
   refine o_end (k9 _ ?_)
   refine i_c [12] h (fun h => ?_) (fun h => ?_)
   · refine s_so fun N11 k11 w11 => ?_
     refine o_h9 [(13, (.ptr 0 0)), (14, (vS a1.fFrom)), (15, (.ptr 1 1)), (16, (vI a2.fHow)), (17, (.ptr 1 2)), (18, (vI a2.fN)), (19, (.agg [(vS a1.fFrom), (vI a2.fHow), (vI a2.fN)])), (20, (.agg [(vS a1.fFrom), (vI a2.fHow), (vI a2.fN), (vB true)]))] [(some (.box 82 [(vS a1.fFrom), (vI a1.fHow), (vI a1.fN)])), (some (.box 82 [(vS a2.fFrom), (vI a2.fHow), (vI a2.fN)])), (some (.box 105 [(vS a1.fFrom), (vI a2.fHow), (vI a2.fN), (vB true)]))] ?_
     refine o_end (w11 _ ⟨(mkd .any 88 0 [(4, (.ptr 2 0))]), [none, none, (some (.box 105 [(vS a1.fFrom), (vI a2.fHow), (vI a2.fN), (vB true)]))]⟩ (wkm [4] (wh_drop (wh_drop (whk wh_nil)))) ?_)
     exact c_ret (rets [] [(.agg [(vS a1.fFrom), (vI a2.fHow), (vI a2.fN), (vB true)])] [(.agg [(vS a1.fFrom), (vI a2.fHow), (vI a2.fN), (vB true)])] h)
   · refine c_skip (k8 _ ?_)
     refine s_seq fun N12 k12 w12 => ?_
     refine s_so fun N13 k13 w13 => ?_
     refine o_r2 [(21, (.ptr 1 1)), (22, (vI a2.fHow))] ?_
     refine o_end (k13 _ ?_)
     refine c_block fun E14 hE14 hO14 => ?_
     refine s_so fun N15 k15 w15 => ?_
     refine o_r2 [(23, (vB (a2.fHow == 2))), (24, (vB (a2.fHow == 2)))] ?_
     refine o_end (k15 _ ?_)
     refine i_c [23, 24] h (fun h => ?_) (fun h => ?_)
     · refine s_so fun N17 k17 w17 => ?_
       refine o_h6 [(25, (.agg [(vS a1.fFrom), (vI a1.fHow), (vI a1.fN)])), (26, (.ptr 0 1)), (27, (vI a1.fHow)), (28, (vB (a1.fHow == 6))), (29, (.agg [(vS a1.fFrom), (vI a1.fHow), (vI a1.fN), (vB (a1.fHow == 6))]))] [(some (.box 82 [(vS a1.fFrom), (vI a1.fHow), (vI a1.fN)])), (some (.box 82 [(vS a2.fFrom), (vI a2.fHow), (vI a2.fN)])), (some (.box 105 [(vS a1.fFrom), (vI a1.fHow), (vI a1.fN), (vB (a1.fHow == 6))]))] ?_
       refine o_end (w17 _ ⟨(mkd .any 88 0 [(4, (.ptr 2 0))]), [none, none, (some (.box 105 [(vS a1.fFrom), (vI a1.fHow), (vI a1.fN), (vB (a1.fHow == 6))]))]⟩ (wkm [4] (wh_drop (wh_drop (whk wh_nil)))) ?_)
       exact c_ret (rets [] [(.agg [(vS a1.fFrom), (vI a1.fHow), (vI a1.fN), (vB (a1.fHow == 6))])] [(.agg [(vS a1.fFrom), (vI a1.fHow), (vI a1.fN), (vB (a1.fHow == 6))])] h)
     · refine s_so fun N18 k18 w18 => ?_
       refine o_r2 [(30, (vB (a2.fHow == 3))), (31, (vB (a2.fHow == 3)))] ?_
       refine o_end (k18 _ ?_)
       refine i_c [30, 31] h (fun h => ?_) (fun h => ?_)
       · refine s_seq fun N20 k20 w20 => ?_
         refine s_so fun N21 k21 w21 => ?_
         refine o_r3 [(32, (.ptr 0 1)), (33, (vI a1.fHow)), (34, (vB (a1.fHow == 2)))] ?_
         refine o_end (w21 _ ⟨(mkd .any 88 0 [(2, (.ptr 0 0)), (4, (.ptr 2 0)), (34, (vB (a1.fHow == 2)))]), [(some (.box 82 [(vS a1.fFrom), (vI a1.fHow), (vI a1.fN)])), none, (some (.box 105 [(vS (ByteArray.mk #[])), (vI 0), (vI 0), (vB false)]))]⟩ (wkm [2, 4, 34] (whk (wh_drop (whk wh_nil)))) ?_)
         refine i_c [34] h (fun h => ?_) (fun h => ?_)
         · refine s_so fun N23 k23 w23 => ?_
           refine o_h5 [(35, (.ptr 0 0)), (36, (vS a1.fFrom)), (37, (.agg [(vS a1.fFrom), (vI 1), (vI 0)])), (38, (.agg [(vS a1.fFrom), (vI 1), (vI 0), (vB true)]))] [(some (.box 82 [(vS a1.fFrom), (vI a1.fHow), (vI a1.fN)])), none, (some (.box 105 [(vS a1.fFrom), (vI 1), (vI 0), (vB true)]))] ?_
           refine o_end (k23 _ ?_)
           exact c_ret (rets [] [(.agg [(vS a1.fFrom), (vI 1), (vI 0), (vB true)])] [(.agg [(vS a1.fFrom), (vI 1), (vI 0), (vB true)])] h)
         · refine c_skip (k20 _ ?_)
           refine J1 (r := r) (fun (x28 : Bool) => ⟨(mkd .any 88 0 [(4, (.ptr 2 0))]), [none, none, (some (.box 105 [(vS a1.fFrom), (vI a1.fHow), (vI a1.fN), (vB x28)]))]⟩) (f218_k24 a1) ?_ ?_
           · intro x28 h
             rw [f218_k24.eq_1] at h
             exact c_ret (rets [] [(.agg [(vS a1.fFrom), (vI a1.fHow), (vI a1.fN), (vB x28)])] [(.agg [(vS a1.fFrom), (vI a1.fHow), (vI a1.fN), (vB x28)])] h)
           · intro N24 w24
             refine c_draw0 ?_
             refine d_r5 [(39, (.agg [(vS a1.fFrom), (vI a1.fHow), (vI a1.fN)])), (40, (.ptr 0 1)), (41, (vI a1.fHow)), (42, (vB (a1.fHow == 6))), (43, (vB (a1.fHow == 6)))] ?_
             refine i_d [42, 43] h (fun h => ?_) (fun h => ?_)
             · refine d_r2 [(44, (.ptr 0 2)), (45, (vI a1.fN))] ?_
               refine bnd h fun r26 g27 h => ?_
               refine d_g (one_call (p_f58 g27)) ?_
               refine d_r2 [(47, (vB r26)), (48, (.agg [(vS a1.fFrom), (vI a1.fHow), (vI a1.fN), (vB r26)]))] ?_
               refine d_te (.val undef) [(some (.box 82 [(vS a1.fFrom), (vI a1.fHow), (vI a1.fN)])), none, (some (.box 105 [(vS a1.fFrom), (vI a1.fHow), (vI a1.fN), (vB r26)]))] (ra_cat (ra_cat (ra_cat (ra_cat ra_nil (ra_s (ra_s (ra_s (ra_s (ra_s ra_nil)))))) (ra_s (ra_s ra_nil))) (ra_s ra_nil)) (ra_s (ra_s ra_nil))) ?_
               exact d_end (w24 _ _ (wkm [4] (wh_drop (wh_none (whk wh_nil)))) h)
             · refine d_r5 [(44, (.val undef)), (45, (.val undef)), (46, (.val undef)), (47, (vB false)), (48, (.agg [(vS a1.fFrom), (vI a1.fHow), (vI a1.fN), (vB false)]))] ?_
               refine d_te (.val undef) [(some (.box 82 [(vS a1.fFrom), (vI a1.fHow), (vI a1.fN)])), none, (some (.box 105 [(vS a1.fFrom), (vI a1.fHow), (vI a1.fN), (vB false)]))] (ra_cat (ra_cat ra_nil (ra_s (ra_s (ra_s (ra_s (ra_s ra_nil)))))) (ra_s (ra_s (ra_s (ra_s (ra_s ra_nil)))))) ?_
               exact d_end (w24 _ _ (wkm [4] (wh_drop (wh_none (whk wh_nil)))) h)
       · refine s_so fun N29 k29 w29 => ?_
         refine o_r2 [(49, (vB (a2.fHow == 4))), (50, (vB (a2.fHow == 4)))] ?_
         refine o_end (k29 _ ?_)
         refine i_c [49, 50] h (fun h => ?_) (fun h => ?_)
         · refine s_seq fun N31 k31 w31 => ?_
           refine s_so fun N32 k32 w32 => ?_
           refine o_r3 [(51, (.ptr 0 1)), (52, (vI a1.fHow)), (53, (vB (a1.fHow == 2)))] ?_
           refine s_tm (mkd (.val undef) 88 0 [(0, (.agg [(vS a1.fFrom), (vI a1.fHow), (vI a1.fN)])), (1, (.agg [(vS a2.fFrom), (vI a2.fHow), (vI a2.fN)])), (2, (.ptr 0 0)), (3, (.ptr 1 0)), (4, (.ptr 2 0)), (5, (.ptr 1 1)), (6, (vI a2.fHow)), (7, (vB false)), (10, (.ptr 0 1)), (11, (vI a1.fHow)), (12, (vB false)), (21, (.ptr 1 1)), (22, (vI a2.fHow)), (23, (vB false)), (24, (vB false)), (30, (vB false)), (31, (vB false)), (49, (vB true)), (50, (vB true)), (51, (.ptr 0 1)), (52, (vI a1.fHow)), (53, (vB (a1.fHow == 2)))]) ?_
           refine o_end (w32 _ ⟨(mkd .any 88 0 [(2, (.ptr 0 0)), (3, (.ptr 1 0)), (4, (.ptr 2 0)), (53, (vB (a1.fHow == 2)))]), [(some (.box 82 [(vS a1.fFrom), (vI a1.fHow), (vI a1.fN)])), (some (.box 82 [(vS a2.fFrom), (vI a2.fHow), (vI a2.fN)])), (some (.box 105 [(vS (ByteArray.mk #[])), (vI 0), (vI 0), (vB false)]))]⟩ (wkm [2, 3, 4, 53] (whk (whk (whk wh_nil)))) ?_)
           refine i_c [53] h (fun h => ?_) (fun h => ?_)
           · refine s_so fun N34 k34 w34 => ?_
             refine o_h6 [(54, (.agg [(vS a1.fFrom), (vI a1.fHow), (vI a1.fN)])), (55, (.ptr 1 2)), (56, (vI a2.fN)), (57, (vB (decide (a2.fN ≥ 2)))), (58, (.agg [(vS a1.fFrom), (vI a1.fHow), (vI a1.fN), (vB (decide (a2.fN ≥ 2)))]))] [(some (.box 82 [(vS a1.fFrom), (vI a1.fHow), (vI a1.fN)])), (some (.box 82 [(vS a2.fFrom), (vI a2.fHow), (vI a2.fN)])), (some (.box 105 [(vS a1.fFrom), (vI a1.fHow), (vI a1.fN), (vB (decide (a2.fN ≥ 2)))]))] ?_
             refine o_end (k34 _ ?_)
             exact c_ret (rets [] [(.agg [(vS a1.fFrom), (vI a1.fHow), (vI a1.fN), (vB (decide (a2.fN ≥ 2)))])] [(.agg [(vS a1.fFrom), (vI a1.fHow), (vI a1.fN), (vB (decide (a2.fN ≥ 2)))])] h)
           · refine c_skip (k31 _ ?_)
             refine s_seq fun N35 k35 w35 => ?_
             refine s_so fun N36 k36 w36 => ?_
             refine o_r3 [(59, (.ptr 0 1)), (60, (vI a1.fHow)), (61, (vB (a1.fHow == 4)))] ?_
             refine o_end (k36 _ ?_)
             refine i_c [61] h (fun h => ?_) (fun h => ?_)
             · refine s_so fun N38 k38 w38 => ?_
               refine o_h10 [(62, (.ptr 0 0)), (63, (vS a1.fFrom)), (64, (.ptr 0 2)), (65, (vI a1.fN)), (66, (.ptr 1 2)), (67, (vI a2.fN)), (68, (vI (mnI a1.fN a2.fN))), (69, (.agg [(vS a1.fFrom), (vI 4), (vI (mnI a1.fN a2.fN))])), (70, (.agg [(vS a1.fFrom), (vI 4), (vI (mnI a1.fN a2.fN)), (vB true)]))] [(some (.box 82 [(vS a1.fFrom), (vI a1.fHow), (vI a1.fN)])), (some (.box 82 [(vS a2.fFrom), (vI a2.fHow), (vI a2.fN)])), (some (.box 105 [(vS a1.fFrom), (vI 4), (vI (mnI a1.fN a2.fN)), (vB true)]))] ?_
               refine o_end (k38 _ ?_)
               exact c_ret (rets [] [(.agg [(vS a1.fFrom), (vI 4), (vI (mnI a1.fN a2.fN)), (vB true)])] [(.agg [(vS a1.fFrom), (vI 4), (vI (mnI a1.fN a2.fN)), (vB true)])] h)
             · refine c_skip (k35 _ ?_)
               refine J1 (r := r) (fun (x41 : Bool) => ⟨(mkd .any 88 0 [(4, (.ptr 2 0))]), [none, none, (some (.box 105 [(vS a1.fFrom), (vI a1.fHow), (vI a1.fN), (vB x41)]))]⟩) (f218_k39 a1) ?_ ?_
               · intro x41 h
                 rw [f218_k39.eq_1] at h
                 exact c_ret (rets [] [(.agg [(vS a1.fFrom), (vI a1.fHow), (vI a1.fN), (vB x41)])] [(.agg [(vS a1.fFrom), (vI a1.fHow), (vI a1.fN), (vB x41)])] h)
               · intro N39 w39
                 refine c_ops ?_
                 refine o_r5 [(71, (.agg [(vS a1.fFrom), (vI a1.fHow), (vI a1.fN)])), (72, (.ptr 0 1)), (73, (vI a1.fHow)), (74, (vB (a1.fHow == 6))), (75, (vB (a1.fHow == 6)))] ?_
                 refine i_o [74, 75] h (fun h => ?_) (fun h => ?_)
                 · refine o_h8 [(76, (.ptr 0 2)), (77, (vI a1.fN)), (78, (.ptr 1 2)), (79, (vI a2.fN)), (80, (vB (decide (a1.fN < a2.fN)))), (81, (vB (decide (a1.fN < a2.fN)))), (82, (.agg [(vS a1.fFrom), (vI a1.fHow), (vI a1.fN), (vB (decide (a1.fN < a2.fN)))]))] [(some (.box 82 [(vS a1.fFrom), (vI a1.fHow), (vI a1.fN)])), (some (.box 82 [(vS a2.fFrom), (vI a2.fHow), (vI a2.fN)])), (some (.box 105 [(vS a1.fFrom), (vI a1.fHow), (vI a1.fN), (vB (decide (a1.fN < a2.fN)))]))] ?_
                   exact o_end (w39 _ _ (wkm [4] (wh_drop (wh_drop (whk wh_nil)))) h)
                 · refine o_h8 [(76, (.val undef)), (77, (.val undef)), (78, (.val undef)), (79, (.val undef)), (80, (.val undef)), (81, (vB false)), (82, (.agg [(vS a1.fFrom), (vI a1.fHow), (vI a1.fN), (vB false)]))] [(some (.box 82 [(vS a1.fFrom), (vI a1.fHow), (vI a1.fN)])), (some (.box 82 [(vS a2.fFrom), (vI a2.fHow), (vI a2.fN)])), (some (.box 105 [(vS a1.fFrom), (vI a1.fHow), (vI a1.fN), (vB false)]))] ?_
                   exact o_end (w39 _ _ (wkm [4] (wh_drop (wh_drop (whk wh_nil)))) h)
         · refine c_skip (w12 _ ⟨(mkd .any 88 0 [(2, (.ptr 0 0)), (4, (.ptr 2 0))]), [(some (.box 82 [(vS a1.fFrom), (vI a1.fHow), (vI a1.fN)])), none, (some (.box 105 [(vS (ByteArray.mk #[])), (vI 0), (vI 0), (vB false)]))]⟩ (wkm [2, 4] (whk (wh_drop (whk wh_nil)))) ?_)
           refine s_so fun N42 k42 w42 => ?_
           refine o_h6 [(83, (.agg [(vS a1.fFrom), (vI a1.fHow), (vI a1.fN)])), (84, (.ptr 0 1)), (85, (vI a1.fHow)), (86, (vB (a1.fHow == 5))), (87, (.agg [(vS a1.fFrom), (vI a1.fHow), (vI a1.fN), (vB (a1.fHow == 5))]))] [(some (.box 82 [(vS a1.fFrom), (vI a1.fHow), (vI a1.fN)])), none, (some (.box 105 [(vS a1.fFrom), (vI a1.fHow), (vI a1.fN), (vB (a1.fHow == 5))]))] ?_
           refine o_end (k42 _ ?_)
           exact c_ret (rets [] [(.agg [(vS a1.fFrom), (vI a1.fHow), (vI a1.fN), (vB (a1.fHow == 5))])] [(.agg [(vS a1.fFrom), (vI a1.fHow), (vI a1.fN), (vB (a1.fHow == 5))])] h)
theorem ic15 : fnIC Tryz.prog H15 15 = some ([.cell 10 45], 161, (.seq (.ops [zO 10 (.alloc 0 45 [(0, 71, 3, 0)] [(.slice none 0 0), (.bool false), (.int .i64 0)])]) (.seq (.ops [zM 24 0, zO 25 (.call 47 [(.t 24)]), zM 11 25]) (.seq (.seq (.ops [zM 26 11, zO 27 (.sc (.bin .eql 34) [(.t 26), (.c (.int .i64 0))])]) (.cond (.t 27)
  (.ops [zM 28 1, zO 29 (.call 47 [(.t 28)]), zM 11 29])
  .skip)) (.seq (.seq (.ops [zM 30 11, zO 31 (.sc (.bin .eql 34) [(.t 30), (.c (.int .i64 0))])]) (.cond (.t 31)
  (.ops [zM 32 2, zO 33 (.call 47 [(.t 32)]), zM 11 33])
  .skip)) (.seq (.seq (.ops [zM 34 11, zO 35 (.sc (.bin .eql 34) [(.t 34), (.c (.int .i64 0))])]) (.cond (.t 35)
  (.ops [zM 36 0, zM 37 1, zM 38 3, zO 39 (.call 48 [(.t 36), (.t 37), (.t 38)]), zM 11 39])
  .skip)) (.seq (.seq (.ops [zM 40 11, zO 41 (.sc (.bin .eql 34) [(.t 40), (.c (.int .i64 0))])]) (.cond (.t 41)
  (.ops [zM 42 1, zM 43 2, zM 44 4, zO 45 (.call 48 [(.t 42), (.t 43), (.t 44)]), zM 11 45])
  .skip)) (.seq (.seq (.ops [zM 46 11, zO 47 (.sc (.bin .neq 34) [(.t 46), (.c (.int .i64 0))])]) (.cond (.t 47)
  (.seq (.ops [zM 48 11, zO 49 (.bld [(.slice none 0 0), (.bool false), (.int .i64 0)] [(2, 1, (.t 48))]), zU (.st true 3 [(0, 71, 3, 0)] (.t 10) (.t 49))]) .ret)
  .skip)) (.seq (.ops [zO 50 (.bld [(.slice none 0 0), (.bool false), (.int .i64 0)] []), zO 12 (.alloc 0 45 [(0, 71, 3, 0)] [(.slice none 0 0), (.bool false), (.int .i64 0)]), zU (.st true 3 [(0, 71, 3, 0)] (.t 12) (.t 50))]) (.seq (.seq (.ops [zO 13 (.mov (.c (.int .i64 0)))]) (.block 0 (.loop (.seq (.seq (.ops [zM 51 13, zM 52 0, zO 53 (.len false (.t 52)), zO 54 (.sc (.bin .lss 3) [(.t 51), (.t 53)])]) (.cond (.t 54)
  .skip
  (.exit 0))) (.seq (.block 1 (.seq (.ops [zM 57 3, zM 58 3, zM 59 0, zM 60 13, zO 61 (.iaddr 2 (.t 59) (.t 60)), zO 62 (.faddr (.t 61) 0), zO 63 (.ld (.t 62) 1 false), zO 64 (.call 41 [(.t 58), (.t 63)]), zO 65 (.iaddr 3 (.t 57) (.t 64)), zO 66 (.ld (.t 65) 3 true), zO 14 (.alloc 0 71 [(2, 82, 3, 0)] [(.string ⟨#[]⟩), (.string ⟨#[]⟩), (.slice none 0 0)]), zU (.st true 3 [(2, 82, 3, 0)] (.t 14) (.t 66))]) (.seq (.ops [zM 67 4, zM 68 4, zO 69 (.faddr (.t 14) 1), zO 70 (.ld (.t 69) 1 false), zO 71 (.call 41 [(.t 68), (.t 70)]), zO 72 (.iaddr 3 (.t 67) (.t 71)), zO 73 (.ld (.t 72) 3 true), zO 15 (.alloc 0 71 [(2, 82, 3, 0)] [(.string ⟨#[]⟩), (.string ⟨#[]⟩), (.slice none 0 0)]), zU (.st true 3 [(2, 82, 3, 0)] (.t 15) (.t 73))]) (.seq (.ops [zM 74 1, zM 75 1, zO 76 (.faddr (.t 14) 1), zO 77 (.ld (.t 76) 1 false), zO 78 (.call 40 [(.t 75), (.t 77)]), zO 79 (.iaddr 2 (.t 74) (.t 78)), zO 80 (.ld (.t 79) 2 true), zO 16 (.alloc 0 66 [(1, 68, 3, 0)] [(.string ⟨#[]⟩), (.slice none 0 0)]), zU (.st true 2 [(1, 68, 3, 0)] (.t 16) (.t 80))]) (.seq (.seq (.ops [zO 17 (.mov (.c (.int .i64 0)))]) (.block 2 (.loop (.seq (.seq (.ops [zM 81 17, zO 82 (.faddr (.t 14) 2), zO 83 (.ld (.t 82) 1 false), zO 84 (.len false (.t 83)), zO 85 (.sc (.bin .lss 3) [(.t 81), (.t 84)])]) (.cond (.t 85)
  .skip
  (.exit 2))) (.seq (.block 3 (.seq (.ops [zO 88 (.faddr (.t 14) 2), zO 89 (.ld (.t 88) 1 false), zM 90 17, zO 91 (.iaddr 3 (.t 89) (.t 90)), zO 92 (.ld (.t 91) 3 true), zO 93 (.call 49 [(.t 92)]), zM 18 93]) (.seq (.draw [] [zQ (zO 94 (.faddr (.t 15) 2)), zQ (zO 95 (.ld (.t 94) 1 false)), zQ (zO 96 (.faddr (.t 16) 1)), zQ (zO 97 (.ld (.t 96) 1 false)), zQ (zM 98 17), zQ (zO 99 (.iaddr 3 (.t 97) (.t 98))), zQ (zO 100 (.faddr (.t 99) 0)), zQ (zO 101 (.ld (.t 100) 1 false)), zQ (zO 102 (.call 50 [(.t 95), (.t 101)])), zQ (zM 19 102)]) (.seq (.ops [zM 103 18, zM 104 103, zN 105 104 true 19, zG 106 104 true (.sc (.un .not) [(.t 105)]), zO 107 (.pick (.t 104) (.t 106) (.c (.bool false)))]) (.cond (.t 107)
  (.seq (.ops [zO 108 (.bld [(.slice none 0 0), (.bool false), (.int .i64 0)] [(2, 1, (.c (.int .i64 5)))]), zU (.st true 3 [(0, 71, 3, 0)] (.t 10) (.t 108))]) .ret)
  .skip))))) (.ops [zM 86 17, zO 87 (.sc (.bin .add 3) [(.t 86), (.c (.int .i64 1))]), zM 17 87])))))) (.seq (.draw [] [⟨zM 109 0, false, 0, 1⟩, ⟨zM 110 13, false, 0, 1⟩, ⟨zO 111 (.iaddr 2 (.t 109) (.t 110)), false, 0, 1⟩, ⟨zO 112 (.faddr (.t 111) 0), false, 0, 1⟩, ⟨zO 113 (.ld (.t 112) 1 false), false, 0, 1⟩, ⟨zO 114 (.faddr (.t 15) 1), false, 0, 1⟩, ⟨zO 115 (.ld (.t 114) 1 false), false, 0, 1⟩, ⟨zO 116 (.bld [(.string ⟨#[]⟩), (.string ⟨#[]⟩), (.slice none 0 0)] [(0, 1, (.t 113)), (1, 1, (.t 115))]), false, 0, 1⟩, ⟨zO 20 (.alloc 0 71 [(2, 82, 3, 0)] [(.string ⟨#[]⟩), (.string ⟨#[]⟩), (.slice none 0 0)]), true, 0, 1⟩, ⟨zU (.st true 3 [(2, 82, 3, 0)] (.t 20) (.t 116)), true, 1, 2⟩]) (.seq (.seq (.ops [zO 21 (.mov (.c (.int .i64 0)))]) (.block 4 (.loop (.seq (.seq (.ops [zM 117 21, zO 118 (.faddr (.t 15) 2), zO 119 (.ld (.t 118) 1 false), zO 120 (.len false (.t 119)), zO 121 (.sc (.bin .lss 3) [(.t 117), (.t 120)])]) (.cond (.t 121)
  .skip
  (.exit 4))) (.seq (.block 5 (.seq (.ops [zO 124 (.faddr (.t 15) 2), zO 125 (.ld (.t 124) 1 false), zM 126 21, zO 127 (.iaddr 3 (.t 125) (.t 126)), zO 128 (.ld (.t 127) 3 true), zO 22 (.alloc 0 82 [] [(.string ⟨#[]⟩), (.int .i64 0), (.int .i64 0)]), zU (.st true 3 [] (.t 22) (.t 128))]) (.seq (.seq (.ops [zO 129 (.faddr (.t 22) 1), zO 130 (.ld (.t 129) 1 false), zO 131 (.call 51 [(.t 130)])]) (.cond (.t 131)
  (.seq (.draw [] [⟨zO 132 (.faddr (.t 14) 2), false, 0, 1⟩, ⟨zO 133 (.ld (.t 132) 1 false), false, 0, 1⟩, ⟨zO 134 (.ld (.t 16) 2 true), false, 0, 1⟩, ⟨zO 135 (.faddr (.t 22) 0), false, 0, 1⟩, ⟨zO 136 (.ld (.t 135) 1 false), false, 0, 1⟩, ⟨zO 137 (.call 53 [(.t 134), (.t 136)]), false, 0, 1⟩, ⟨zO 138 (.iaddr 3 (.t 133) (.t 137)), false, 0, 1⟩, ⟨zO 139 (.ld (.t 138) 3 true), false, 0, 1⟩, ⟨zO 140 (.ld (.t 22) 3 true), false, 0, 1⟩, ⟨zO 141 (.call 52 [(.t 139), (.t 140)]), false, 0, 1⟩, ⟨zO 23 (.alloc 0 105 [] [(.string ⟨#[]⟩), (.int .i64 0), (.int .i64 0), (.bool false)]), true, 0, 1⟩, ⟨zU (.st true 4 [] (.t 23) (.t 141)), true, 1, 2⟩]) (.seq (.seq (.ops [zO 142 (.faddr (.t 23) 3), zO 143 (.ld (.t 142) 1 false), zO 144 (.sc (.un .not) [(.t 143)])]) (.cond (.t 144)
  (.seq (.ops [zO 145 (.bld [(.slice none 0 0), (.bool false), (.int .i64 0)] [(2, 1, (.c (.int .i64 5)))]), zU (.st true 3 [(0, 71, 3, 0)] (.t 10) (.t 145))]) .ret)
  .skip)) (.ops [zO 146 (.faddr (.t 23) 0), zO 147 (.ld (.t 146) 3 true), zU (.st true 3 [] (.t 22) (.t 147))])))
  .skip)) (.ops [zO 148 (.faddr (.t 20) 2), zO 149 (.ld (.t 148) 1 false), zO 150 (.ld (.t 22) 3 true), zO 151 (.isl 3 [(.t 150)]), zO 152 (.app 0 82 3 32 (.t 149) (.t 151)), zO 153 (.faddr (.t 20) 2), zU (.st true 1 [(0, 82, 3, 0)] (.t 153) (.t 152))])))) (.ops [zM 122 21, zO 123 (.sc (.bin .add 3) [(.t 122), (.c (.int .i64 1))]), zM 21 123])))))) (.ops [zO 154 (.faddr (.t 12) 0), zO 155 (.ld (.t 154) 1 false), zO 156 (.ld (.t 20) 3 true), zO 157 (.bsl 0 true 71 3 [(.t 156)]), zO 158 (.app 0 71 3 56 (.t 155) (.t 157)), zO 159 (.faddr (.t 12) 0), zU (.st true 1 [(0, 71, 3, 0)] (.t 159) (.t 158))])))))))) (.ops [zM 55 13, zO 56 (.sc (.bin .add 3) [(.t 55), (.c (.int .i64 1))]), zM 13 56])))))) (.seq (.ops [zO 160 (.ld (.t 12) 3 true), zU (.st true 3 [(0, 71, 3, 0)] (.t 10) (.t 160))]) .ret))))))))))) := by kernel_rfl
end Go.Proofs
end
section
set_option linter.unusedVariables false
set_option maxRecDepth 100000
set_option maxHeartbeats 4000000
namespace Go.Proofs
open Go.Vm
attribute [local irreducible] vOps vDraw vC vK retP retH PureSpec HSpec
def f205_k254 (x237 : Int) (c215k : Int → Option LIsE) (x256 : Bool) : Option LIsE := (bif x256 then some (LIsE.mk [] false 5) else (c215k (wr .i64 (x237 + 1))))
def f205_k307 (x297 : (List Give)) (x296 : Int) (c265k : Int → (List Give) → Option LIsE) (x323 : ByteArray) (x324 : Int) (x325 : Int) : Option LIsE := ((app2 x297 [(Give.mk x323 x324 x325)]).bind fun l326 => (c265k (wr .i64 (x296 + 1)) l326))
def f205_k193 (x187 : Int) (c42k : Int → (List Rule) → Option LIsE) (x332 : (List Rule)) : Option LIsE := (c42k (wr .i64 (x187 + 1)) x332)
def f205_k262 (x188 : (List Rule)) (x260 : Form) (x205 : Rule) (x187 : Int) (c42k : Int → (List Rule) → Option LIsE) (x328 : (List Give)) : Option LIsE := ((app2 x188 [(Rule.mk x260.fName x205.fTo x328)]).bind fun l330 => (f205_k193 x187 (c42k) l330))
def f205_l265 (x205 : Rule) (n : Nat) (x210 : Form) (x200 : Rule) (k262k : (List Give) → Option LIsE) : Nat → Int → (List Give) → Option LIsE
  | 0, _, _ => none
  | m265 + 1, x296, x297 => (bif (decide (x296 < (len x205.fGives))) then ((gi x205.fGives x296).bind fun x305 => ((f217 n x305.fHow).bind fun r309 => (bif r309 then ((f57 n x210 x305.fFrom).bind fun r313 => ((gi x200.fGives r313).bind fun x315 => ((f218 n x315 x305).bind fun r317 => (bif (!r317.fIs) then some (LIsE.mk [] false 5) else (f205_k307 x297 x296 (f205_l265 x205 n x210 x200 (k262k) m265) r317.fG.fFrom r317.fG.fHow r317.fG.fN))))) else (f205_k307 x297 x296 (f205_l265 x205 n x210 x200 (k262k) m265) x305.fFrom x305.fHow x305.fN)))) else (k262k x297))
def f205_k212 (a1 : (List Form)) (x187 : Int) (n : Nat) (x205 : Rule) (x210 : Form) (x200 : Rule) (x188 : (List Rule)) (c42k : Int → (List Rule) → Option LIsE) : Option LIsE := ((gi a1 x187).bind fun x260 => (f205_l265 x205 n x210 x200 (f205_k262 x188 x260 x205 x187 (c42k)) n 0 []))
def f205_l215 (x200 : Rule) (n : Nat) (x210 : Form) (x205 : Rule) (k212k : Option LIsE) : Nat → Int → Option LIsE
  | 0, _ => none
  | m215 + 1, x237 => (bif (decide (x237 < (len x200.fGives))) then ((gi x200.fGives x237).bind fun x245 => ((f215 n x245).bind fun r247 => ((gi x210.fCols x237).bind fun x250 => ((f216 n x205.fGives x250.fName).bind fun r252 => (bif r247 then (f205_k254 x237 (f205_l215 x200 n x210 x205 (k212k) m215) (!r252)) else (f205_k254 x237 (f205_l215 x200 n x210 x205 (k212k) m215) false)))))) else (k212k))
def f205_k39 (x333 : (List Rule)) : Option LIsE := some (LIsE.mk x333 false 0)
def f205_l42 (a1 : (List Form)) (n : Nat) (a4 : (List Rule)) (a5 : (List Rule)) (a2 : (List Form)) (k39k : (List Rule) → Option LIsE) : Nat → Int → (List Rule) → Option LIsE
  | 0, _, _ => none
  | m42 + 1, x187, x188 => (bif (decide (x187 < (len a1))) then ((gi a1 x187).bind fun x196 => ((f212 n a4 x196.fName).bind fun r198 => ((gi a4 r198).bind fun x200 => ((f212 n a5 x200.fTo).bind fun r203 => ((gi a5 r203).bind fun x205 => ((f55 n a2 x200.fTo).bind fun r208 => ((gi a2 r208).bind fun x210 => (f205_l215 x200 n x210 x205 (f205_k212 a1 x187 n x205 x210 x200 x188 (f205_l42 a1 n a4 a5 a2 (k39k) m42)) n 0)))))))) else (k39k x188))
def f205_k28 (n : Nat) (a1 : (List Form)) (a4 : (List Rule)) (a5 : (List Rule)) (a2 : (List Form)) (x33 : Int) : Option LIsE := (bif (x33 != 0) then some (LIsE.mk [] false x33) else (f205_l42 a1 n a4 a5 a2 (f205_k39) n 0 []))
def f205_k22 (n : Nat) (a2 : (List Form)) (a3 : (List Form)) (a5 : (List Rule)) (a1 : (List Form)) (a4 : (List Rule)) (x27 : Int) : Option LIsE := (bif (x27 == 0) then ((f214 n a2 a3 a5).bind fun r31 => (f205_k28 n a1 a4 a5 a2 r31)) else (f205_k28 n a1 a4 a5 a2 x27))
def f205_k16 (n : Nat) (a1 : (List Form)) (a2 : (List Form)) (a4 : (List Rule)) (a3 : (List Form)) (a5 : (List Rule)) (x21 : Int) : Option LIsE := (bif (x21 == 0) then ((f214 n a1 a2 a4).bind fun r25 => (f205_k22 n a2 a3 a5 a1 a4 r25)) else (f205_k22 n a2 a3 a5 a1 a4 x21))
def f205_k10 (n : Nat) (a3 : (List Form)) (a1 : (List Form)) (a2 : (List Form)) (a4 : (List Rule)) (a5 : (List Rule)) (x15 : Int) : Option LIsE := (bif (x15 == 0) then ((f17 n a3).bind fun r19 => (f205_k16 n a1 a2 a4 a3 a5 r19)) else (f205_k16 n a1 a2 a4 a3 a5 x15))
def f205 (n : Nat) (a1 : (List Form)) (a2 : (List Form)) (a3 : (List Form)) (a4 : (List Rule)) (a5 : (List Rule)) : Option LIsE := ((f17 n a1).bind fun r8 => (bif (r8 == 0) then ((f17 n a2).bind fun r13 => (f205_k10 n a3 a1 a2 a4 a5 r13)) else (f205_k10 n a3 a1 a2 a4 a5 r8)))
def f205_r (r : LIsE) : AV := (.agg [(vL Rule.c r.fL), (vB r.fIs), (vI r.fE)])
theorem p_f205 {n : Nat} {a1 : (List Form)} {a2 : (List Form)} {a3 : (List Form)} {a4 : (List Rule)} {a5 : (List Rule)} {r : LIsE} (h : f205 n a1 a2 a3 a4 a5 = some r) : PureSpec Tryz.prog 15 [(vL Form.c a1), (vL Form.c a2), (vL Form.c a3), (vL Rule.c a4), (vL Rule.c a5)] (f205_r r) := by
 rw [f205.eq_1] at h
 refine pure_of hmix ic15 ?_
 refine go_to (mkd (.val undef) 161 0 [(0, (vL Form.c a1)), (1, (vL Form.c a2)), (2, (vL Form.c a3)), (3, (vL Rule.c a4)), (4, (vL Rule.c a5))]) ?_
 refine s_so fun N6 k6 w6 => ?_
 refine o_h1 [(10, (.ptr 1 0))] [(some (.row 71 3 (List.map Rule.c []))), (some (.box 45 [(.own 0 0), (vB false), (vI 0)]))] ?_
 refine o_end (k6 _ ?_)
 refine s_so fun N7 k7 w7 => ?_
 refine o_r1 [(24, (vL Form.c a1))] ?_
 refine bnd h fun r8 g9 h => ?_
 refine o_o (one_call (p_f17 g9)) ?_
 refine o_r1 [(11, (vI r8))] ?_
 refine o_end (k7 _ ?_)
 refine J1 (r := r) (fun (x15 : Int) => ⟨(mkd .any 161 0 [(0, (vL Form.c a1)), (1, (vL Form.c a2)), (2, (vL Form.c a3)), (3, (vL Rule.c a4)), (4, (vL Rule.c a5)), (10, (.ptr 1 0)), (11, (vI x15))]), [(some (.row 71 3 (List.map Rule.c []))), (some (.box 45 [(.own 0 0), (vB false), (vI 0)]))]⟩) (f205_k10 n a3 a1 a2 a4 a5) ?_ ?_
 · intro x15 h
   rw [f205_k10.eq_1] at h
   refine J1 (r := r) (fun (x21 : Int) => ⟨(mkd .any 161 0 [(0, (vL Form.c a1)), (1, (vL Form.c a2)), (2, (vL Form.c a3)), (3, (vL Rule.c a4)), (4, (vL Rule.c a5)), (10, (.ptr 1 0)), (11, (vI x21))]), [(some (.row 71 3 (List.map Rule.c []))), (some (.box 45 [(.own 0 0), (vB false), (vI 0)]))]⟩) (f205_k16 n a1 a2 a4 a3 a5) ?_ ?_
   · intro x21 h
     rw [f205_k16.eq_1] at h
     refine J1 (r := r) (fun (x27 : Int) => ⟨(mkd .any 161 0 [(0, (vL Form.c a1)), (1, (vL Form.c a2)), (2, (vL Form.c a3)), (3, (vL Rule.c a4)), (4, (vL Rule.c a5)), (10, (.ptr 1 0)), (11, (vI x27))]), [(some (.row 71 3 (List.map Rule.c []))), (some (.box 45 [(.own 0 0), (vB false), (vI 0)]))]⟩) (f205_k22 n a2 a3 a5 a1 a4) ?_ ?_
     · intro x27 h
       rw [f205_k22.eq_1] at h
       refine J1 (r := r) (fun (x33 : Int) => ⟨(mkd .any 161 0 [(0, (vL Form.c a1)), (1, (vL Form.c a2)), (3, (vL Rule.c a4)), (4, (vL Rule.c a5)), (10, (.ptr 1 0)), (11, (vI x33))]), [(some (.row 71 3 (List.map Rule.c []))), (some (.box 45 [(.own 0 0), (vB false), (vI 0)]))]⟩) (f205_k28 n a1 a4 a5 a2) ?_ ?_
       · intro x33 h
         rw [f205_k28.eq_1] at h
         refine s_seq fun N34 k34 w34 => ?_
         refine s_so fun N35 k35 w35 => ?_
         refine o_r2 [(46, (vI x33)), (47, (vB (x33 != 0)))] ?_
         refine o_end (k35 _ ?_)
         refine i_c [47] h (fun h => ?_) (fun h => ?_)
         · refine s_so fun N37 k37 w37 => ?_
           refine o_h3 [(48, (vI x33)), (49, (.agg [(.val (.slice none 0 0)), (vB false), (vI x33)]))] [(some (.row 71 3 (List.map Rule.c []))), (some (.box 45 [(.own 2 0), (vB false), (vI x33)])), (some (.row 71 3 (List.map Rule.c [])))] ?_
           refine o_end (k37 _ ?_)
           exact c_ret (retsF [2] [(.agg [(.own 2 0), (vB false), (vI x33)])] [(.agg [(vL Rule.c []), (vB false), (vI x33)])] ⟨(fz_agg ⟨(fz_own (g := Rule.c) (l := []) (t := 71) (sz := 3) Rule.p), fz_v, fz_v, trivial⟩), trivial⟩ h)
         · refine c_skip (k34 _ ?_)
           refine s_so fun N38 k38 w38 => ?_
           refine o_h3 [(12, (.ptr 3 0)), (50, (.agg [(.val (.slice none 0 0)), (vB false), (vI 0)]))] [(some (.row 71 3 (List.map Rule.c []))), (some (.box 45 [(.own 0 0), (vB false), (vI 0)])), (some (.row 71 3 (List.map Rule.c []))), (some (.box 45 [(.own 4 0), (vB false), (vI 0)])), (some (.row 71 3 (List.map Rule.c [])))] ?_
           refine o_end (k38 _ ?_)
           refine J1 (r := r) (fun (x333 : (List Rule)) => ⟨(mkd .any 161 0 [(10, (.ptr 1 0)), (12, (.ptr 3 0))]), [(some (.row 71 3 (List.map Rule.c []))), (some (.box 45 [(.own 0 0), (vB false), (vI 0)])), none, (some (.box 45 [(.own 4 (List.length x333)), (vB false), (vI 0)])), (some (.row 71 3 (List.map Rule.c x333)))]⟩) (f205_k39) ?_ ?_
           · intro x333 h
             rw [f205_k39.eq_1] at h
             refine s_so fun N334 k334 w334 => ?_
             refine o_h2 [(160, (.agg [(.own 4 (List.length x333)), (vB false), (vI 0)]))] [(some (.row 71 3 (List.map Rule.c []))), (some (.box 45 [(.own 4 (List.length x333)), (vB false), (vI 0)])), none, (some (.box 45 [(.own 4 (List.length x333)), (vB false), (vI 0)])), (some (.row 71 3 (List.map Rule.c x333)))] ?_
             refine o_end (k334 _ ?_)
             exact c_ret (retsF [4] [(.agg [(.own 4 (List.length x333)), (vB false), (vI 0)])] [(.agg [(vL Rule.c x333), (vB false), (vI 0)])] ⟨(fz_agg ⟨(fz_own (g := Rule.c) (l := x333) (t := 71) (sz := 3) Rule.p), fz_v, fz_v, trivial⟩), trivial⟩ h)
           · intro N39 w39
             refine s_so fun N40 k40 w40 => ?_
             refine o_r1 [(13, (vI 0))] ?_
             refine o_end (k40 _ ?_)
             refine c_block fun E41 hE41 hO41 => ?_
             refine W2 (fun (x187 : Int) (x188 : (List Rule)) => ⟨(mkd .any 161 0 [(0, (vL Form.c a1)), (1, (vL Form.c a2)), (3, (vL Rule.c a4)), (4, (vL Rule.c a5)), (10, (.ptr 1 0)), (12, (.ptr 3 0)), (13, (vI x187))]), [(some (.row 71 3 (List.map Rule.c []))), (some (.box 45 [(.own 0 0), (vB false), (vI 0)])), none, (some (.box 45 [(.own 4 (List.length x188)), (vB false), (vI 0)])), (some (.row 71 3 (List.map Rule.c x188)))]⟩) (f205_l42 a1 n a4 a5 a2 (f205_k39)) h (wkm [0, 1, 3, 4, 10, 12, 13] (wh_keep (row_below Rule.p _ _ _ _) (whk (wh_drop (whk (wh_keep (row_below Rule.p _ _ _ _) wh_nil)))))) (by intros; rw [f205_l42.eq_1]) ?_
             intro m42 x187 x188 h N42 w42
             rw [f205_l42.eq_2] at h
             refine s_seq fun N189 k189 w189 => ?_
             refine s_so fun N190 k190 w190 => ?_
             refine o_r2 [(51, (vI x187)), (52, (vL Form.c a1))] ?_
             refine o_o (one_len (f := Form.c) (l := a1)) ?_
             refine o_r1 [(54, (vB (decide (x187 < (len a1)))))] ?_
             refine o_end (k190 _ ?_)
             refine i_c [54] h (fun h => ?_) (fun h => ?_)
             · refine c_skip (k189 _ ?_)
               refine J1 (r := r) (fun (x332 : (List Rule)) => ⟨(mkd .any 161 0 [(0, (vL Form.c a1)), (1, (vL Form.c a2)), (3, (vL Rule.c a4)), (4, (vL Rule.c a5)), (10, (.ptr 1 0)), (12, (.ptr 3 0)), (13, (vI x187))]), [(some (.row 71 3 (List.map Rule.c []))), (some (.box 45 [(.own 0 0), (vB false), (vI 0)])), none, (some (.box 45 [(.own 4 (List.length x332)), (vB false), (vI 0)])), (some (.row 71 3 (List.map Rule.c x332)))]⟩) (f205_k193 x187 (f205_l42 a1 n a4 a5 a2 (f205_k39) m42)) ?_ ?_
               · intro x332 h
                 rw [f205_k193.eq_1] at h
                 refine c_ops ?_
                 refine o_r3 [(13, (vI (wr .i64 (x187 + 1)))), (55, (vI x187)), (56, (vI (wr .i64 (x187 + 1))))] ?_
                 exact o_end (w42 _ _ _ (wkm [0, 1, 3, 4, 10, 12, 13] (wh_keep (row_below Rule.p _ _ _ _) (whk (wh_none (whk (wh_keep (row_below Rule.p _ _ _ _) wh_nil)))))) h)
               · intro N193 w193
                 refine c_block fun E194 hE194 hO194 => ?_
                 refine s_so fun N195 k195 w195 => ?_
                 refine o_r4 [(57, (vL Rule.c a4)), (58, (vL Rule.c a4)), (59, (vL Form.c a1)), (60, (vI x187))] ?_
                 refine bnd h fun x196 g197 h => ?_
                 refine o_o (one_ia (f := Form.c) (ki := .i64) g197) ?_
                 refine o_r2 [(62, (.iptr [(vS x196.fName), (vL Col.c x196.fCols)])), (63, (vS x196.fName))] ?_
                 refine bnd h fun r198 g199 h => ?_
                 refine o_o (one_call (p_f212 g199)) ?_
                 refine bnd h fun x200 g201 h => ?_
                 refine o_o (one_ia (f := Rule.c) (ki := .i64) g201) ?_
                 refine o_h3 [(14, (.ptr 6 0)), (66, (.agg [(vS x200.fClass), (vS x200.fTo), (vL Give.c x200.fGives)]))] [(some (.row 71 3 (List.map Rule.c []))), (some (.box 45 [(.own 0 0), (vB false), (vI 0)])), none, (some (.box 45 [(.own 4 (List.length x188)), (vB false), (vI 0)])), (some (.row 71 3 (List.map Rule.c x188))), (some (.row 82 3 (List.map Give.c []))), (some (.box 71 [(vS x200.fClass), (vS x200.fTo), (vL Give.c x200.fGives)]))] ?_
                 refine o_end (k195 _ ?_)
                 refine s_so fun N202 k202 w202 => ?_
                 refine o_r4 [(67, (vL Rule.c a5)), (68, (vL Rule.c a5)), (69, (.ptr 6 1)), (70, (vS x200.fTo))] ?_
                 refine bnd h fun r203 g204 h => ?_
                 refine o_o (one_call (p_f212 g204)) ?_
                 refine bnd h fun x205 g206 h => ?_
                 refine o_o (one_ia (f := Rule.c) (ki := .i64) g206) ?_
                 refine o_h3 [(15, (.ptr 8 0)), (73, (.agg [(vS x205.fClass), (vS x205.fTo), (vL Give.c x205.fGives)]))] [(some (.row 71 3 (List.map Rule.c []))), (some (.box 45 [(.own 0 0), (vB false), (vI 0)])), none, (some (.box 45 [(.own 4 (List.length x188)), (vB false), (vI 0)])), (some (.row 71 3 (List.map Rule.c x188))), (some (.row 82 3 (List.map Give.c []))), (some (.box 71 [(vS x200.fClass), (vS x200.fTo), (vL Give.c x200.fGives)])), (some (.row 82 3 (List.map Give.c []))), (some (.box 71 [(vS x205.fClass), (vS x205.fTo), (vL Give.c x205.fGives)]))] ?_
                 refine s_tm (mkd .any 161 0 [(0, (vL Form.c a1)), (1, (vL Form.c a2)), (3, (vL Rule.c a4)), (4, (vL Rule.c a5)), (10, (.ptr 1 0)), (12, (.ptr 3 0)), (13, (vI x187)), (14, (.ptr 6 0)), (15, (.ptr 8 0)), (51, (vI x187)), (52, (vL Form.c a1)), (53, (vI (len a1))), (54, (vB true)), (57, (vL Rule.c a4)), (58, (vL Rule.c a4)), (59, (vL Form.c a1)), (60, (vI x187)), (61, (.iptr [(vS x196.fName), (vL Col.c x196.fCols)])), (62, (.iptr [(vS x196.fName), (vL Col.c x196.fCols)])), (63, (vS x196.fName)), (64, (vI r198)), (65, (.iptr [(vS x200.fClass), (vS x200.fTo), (vL Give.c x200.fGives)])), (66, (.agg [(vS x200.fClass), (vS x200.fTo), (vL Give.c x200.fGives)])), (67, (vL Rule.c a5)), (68, (vL Rule.c a5)), (69, (.ptr 6 1)), (70, (vS x200.fTo)), (71, (vI r203)), (72, (.iptr [(vS x205.fClass), (vS x205.fTo), (vL Give.c x205.fGives)])), (73, (.agg [(vS x205.fClass), (vS x205.fTo), (vL Give.c x205.fGives)]))]) ?_
                 refine o_end (w202 _ ⟨(mkd .any 161 0 [(0, (vL Form.c a1)), (1, (vL Form.c a2)), (3, (vL Rule.c a4)), (4, (vL Rule.c a5)), (10, (.ptr 1 0)), (12, (.ptr 3 0)), (13, (vI x187)), (14, (.ptr 6 0)), (15, (.ptr 8 0))]), [(some (.row 71 3 (List.map Rule.c []))), (some (.box 45 [(.own 0 0), (vB false), (vI 0)])), none, (some (.box 45 [(.own 4 (List.length x188)), (vB false), (vI 0)])), (some (.row 71 3 (List.map Rule.c x188))), none, (some (.box 71 [(vS x200.fClass), (vS x200.fTo), (vL Give.c x200.fGives)])), none, (some (.box 71 [(vS x205.fClass), (vS x205.fTo), (vL Give.c x205.fGives)]))]⟩ (wkm [0, 1, 3, 4, 10, 12, 13, 14, 15] (wh_keep (row_below Rule.p _ _ _ _) (whk (wh_none (whk (wh_keep (row_below Rule.p _ _ _ _) (wh_drop (whk (wh_drop (whk wh_nil)))))))))) ?_)
                 refine s_so fun N207 k207 w207 => ?_
                 refine o_r4 [(74, (vL Form.c a2)), (75, (vL Form.c a2)), (76, (.ptr 6 1)), (77, (vS x200.fTo))] ?_
                 refine bnd h fun r208 g209 h => ?_
                 refine o_o (one_call (p_f55 g209)) ?_
                 refine bnd h fun x210 g211 h => ?_
                 refine o_o (one_ia (f := Form.c) (ki := .i64) g211) ?_
                 refine o_h3 [(16, (.ptr 10 0)), (80, (.agg [(vS x210.fName), (vL Col.c x210.fCols)]))] [(some (.row 71 3 (List.map Rule.c []))), (some (.box 45 [(.own 0 0), (vB false), (vI 0)])), none, (some (.box 45 [(.own 4 (List.length x188)), (vB false), (vI 0)])), (some (.row 71 3 (List.map Rule.c x188))), none, (some (.box 71 [(vS x200.fClass), (vS x200.fTo), (vL Give.c x200.fGives)])), none, (some (.box 71 [(vS x205.fClass), (vS x205.fTo), (vL Give.c x205.fGives)])), (some (.row 68 3 (List.map Col.c []))), (some (.box 66 [(vS x210.fName), (vL Col.c x210.fCols)]))] ?_
                 refine o_end (k207 _ ?_)
                 refine J0 (r := r) ⟨(mkd .any 161 0 [(0, (vL Form.c a1)), (1, (vL Form.c a2)), (3, (vL Rule.c a4)), (4, (vL Rule.c a5)), (10, (.ptr 1 0)), (12, (.ptr 3 0)), (13, (vI x187)), (14, (.ptr 6 0)), (15, (.ptr 8 0)), (16, (.ptr 10 0))]), [(some (.row 71 3 (List.map Rule.c []))), (some (.box 45 [(.own 0 0), (vB false), (vI 0)])), none, (some (.box 45 [(.own 4 (List.length x188)), (vB false), (vI 0)])), (some (.row 71 3 (List.map Rule.c x188))), none, (some (.box 71 [(vS x200.fClass), (vS x200.fTo), (vL Give.c x200.fGives)])), none, (some (.box 71 [(vS x205.fClass), (vS x205.fTo), (vL Give.c x205.fGives)])), none, (some (.box 66 [(vS x210.fName), (vL Col.c x210.fCols)]))]⟩ (f205_k212 a1 x187 n x205 x210 x200 x188 (f205_l42 a1 n a4 a5 a2 (f205_k39) m42)) ?_ ?_
                 · intro h
                   rw [f205_k212.eq_1] at h
                   refine s_seq fun N259 k259 w259 => ?_
                   refine c_draw0 ?_
                   refine d_r2 [(109, (vL Form.c a1)), (110, (vI x187))] ?_
                   refine bnd h fun x260 g261 h => ?_
                   refine d_o (one_ia (f := Form.c) (ki := .i64) g261) ?_
                   refine d_r5 [(112, (.iptr [(vS x260.fName), (vL Col.c x260.fCols)])), (113, (vS x260.fName)), (114, (.ptr 8 1)), (115, (vS x205.fTo)), (116, (.agg [(vS x260.fName), (vS x205.fTo), (.val (.slice none 0 0))]))] ?_
                   refine d_te (.ptr 12 0) [(some (.row 71 3 (List.map Rule.c []))), (some (.box 45 [(.own 0 0), (vB false), (vI 0)])), none, (some (.box 45 [(.own 4 (List.length x188)), (vB false), (vI 0)])), (some (.row 71 3 (List.map Rule.c x188))), none, (some (.box 71 [(vS x200.fClass), (vS x200.fTo), (vL Give.c x200.fGives)])), none, (some (.box 71 [(vS x205.fClass), (vS x205.fTo), (vL Give.c x205.fGives)])), none, (some (.box 66 [(vS x210.fName), (vL Col.c x210.fCols)])), (some (.row 82 3 (List.map Give.c []))), (some (.box 71 [(vS (ByteArray.mk #[])), (vS (ByteArray.mk #[])), (.own 11 0)]))] (ra_cat (ra_cat (ra_cat ra_nil (ra_t (ra_t ra_nil))) (ra_o (one_ia (f := Form.c) (ki := .i64) g261) ra_nil)) (ra_t (ra_t (ra_t (ra_t (ra_t ra_nil)))))) ?_
                   refine d_te (.val undef) [(some (.row 71 3 (List.map Rule.c []))), (some (.box 45 [(.own 0 0), (vB false), (vI 0)])), none, (some (.box 45 [(.own 4 (List.length x188)), (vB false), (vI 0)])), (some (.row 71 3 (List.map Rule.c x188))), none, (some (.box 71 [(vS x200.fClass), (vS x200.fTo), (vL Give.c x200.fGives)])), none, (some (.box 71 [(vS x205.fClass), (vS x205.fTo), (vL Give.c x205.fGives)])), none, (some (.box 66 [(vS x210.fName), (vL Col.c x210.fCols)])), (some (.row 82 3 (List.map Give.c []))), (some (.box 71 [(vS x260.fName), (vS x205.fTo), (.own 13 0)])), (some (.row 82 3 (List.map Give.c [])))] (ra_cat (ra_cat (ra_cat ra_nil (ra_s (ra_s ra_nil))) (ra_s ra_nil)) (ra_s (ra_s (ra_s (ra_s (ra_s ra_nil)))))) ?_
                   refine d_end (k259 _ ?_)
                   refine J1 (r := r) (fun (x328 : (List Give)) => ⟨(mkd .any 161 0 [(0, (vL Form.c a1)), (1, (vL Form.c a2)), (3, (vL Rule.c a4)), (4, (vL Rule.c a5)), (10, (.ptr 1 0)), (12, (.ptr 3 0)), (13, (vI x187)), (20, (.ptr 12 0))]), [(some (.row 71 3 (List.map Rule.c []))), (some (.box 45 [(.own 0 0), (vB false), (vI 0)])), none, (some (.box 45 [(.own 4 (List.length x188)), (vB false), (vI 0)])), (some (.row 71 3 (List.map Rule.c x188))), none, none, none, none, none, none, none, (some (.box 71 [(vS x260.fName), (vS x205.fTo), (.own 13 (List.length x328))])), (some (.row 82 3 (List.map Give.c x328)))]⟩) (f205_k262 x188 x260 x205 x187 (f205_l42 a1 n a4 a5 a2 (f205_k39) m42)) ?_ ?_
                   · intro x328 h
                     rw [f205_k262.eq_1] at h
                     refine c_ops ?_
                     refine o_r3 [(154, (.ptr 3 0)), (155, (.own 4 (List.length x188))), (156, (.agg [(vS x260.fName), (vS x205.fTo), (.own 13 (List.length x328))]))] ?_
                     refine o_x [(some (.row 71 3 (List.map Rule.c []))), (some (.box 45 [(.own 0 0), (vB false), (vI 0)])), none, (some (.box 45 [(.own 4 (List.length x188)), (vB false), (vI 0)])), (some (.row 71 3 (List.map Rule.c x188))), none, none, none, none, none, none, none, (some (.box 71 [(vS x260.fName), (vS x205.fTo), (.own 13 (List.length x328))])), none, (some (.row 71 3 (List.map Rule.c [(Rule.mk x260.fName x205.fTo x328)])))] (one_bsl (f := Rule.c) (ys := [(vS x260.fName), (vS x205.fTo), (vL Give.c x328)]) [(Rule.mk x260.fName x205.fTo x328)] [[(vS x260.fName), (vS x205.fTo), (.own 13 (List.length x328))]] [13] (rl_v (rl_v (rl_own (g := Give.c) (l := x328) (t := 82) (sz := 3) Give.p rl_nil)))) ?_
                     refine bnd h fun l330 g331 h => ?_
                     refine o_x [(some (.row 71 3 (List.map Rule.c []))), (some (.box 45 [(.own 0 0), (vB false), (vI 0)])), none, (some (.box 45 [(.own 4 (List.length x188)), (vB false), (vI 0)])), (some (.row 71 3 (List.map Rule.c l330))), none, none, none, none, none, none, none, (some (.box 71 [(vS x260.fName), (vS x205.fTo), (.own 13 (List.length x328))])), none, (some (.row 71 3 (List.map Rule.c [(Rule.mk x260.fName x205.fTo x328)])))] (one_app (f := Rule.c) (o := 4) g331 (fun _ => ⟨rfl, rfl⟩) (hy := asL_own (t := 71) (sz := 3) (by kernel_rfl))) ?_
                     refine o_h2 [(159, (.ptr 3 0))] [(some (.row 71 3 (List.map Rule.c []))), (some (.box 45 [(.own 0 0), (vB false), (vI 0)])), none, (some (.box 45 [(.own 4 (List.length l330)), (vB false), (vI 0)])), (some (.row 71 3 (List.map Rule.c l330))), none, none, none, none, none, none, none, (some (.box 71 [(vS x260.fName), (vS x205.fTo), (.own 13 (List.length x328))])), none, (some (.row 71 3 (List.map Rule.c [(Rule.mk x260.fName x205.fTo x328)])))] ?_
                     exact o_end (w193 _ _ (wkm [0, 1, 3, 4, 10, 12, 13] (wh_keep (row_below Rule.p _ _ _ _) (whk (wh_none (whk (wh_keep (row_below Rule.p _ _ _ _) wh_nil)))))) h)
                   · intro N262 w262
                     refine s_so fun N263 k263 w263 => ?_
                     refine o_r1 [(21, (vI 0))] ?_
                     refine o_end (k263 _ ?_)
                     refine c_block fun E264 hE264 hO264 => ?_
                     refine W2 (fun (x296 : Int) (x297 : (List Give)) => ⟨(mkd .any 161 0 [(0, (vL Form.c a1)), (1, (vL Form.c a2)), (3, (vL Rule.c a4)), (4, (vL Rule.c a5)), (10, (.ptr 1 0)), (12, (.ptr 3 0)), (13, (vI x187)), (14, (.ptr 6 0)), (15, (.ptr 8 0)), (16, (.ptr 10 0)), (20, (.ptr 12 0)), (21, (vI x296))]), [(some (.row 71 3 (List.map Rule.c []))), (some (.box 45 [(.own 0 0), (vB false), (vI 0)])), none, (some (.box 45 [(.own 4 (List.length x188)), (vB false), (vI 0)])), (some (.row 71 3 (List.map Rule.c x188))), none, (some (.box 71 [(vS x200.fClass), (vS x200.fTo), (vL Give.c x200.fGives)])), none, (some (.box 71 [(vS x205.fClass), (vS x205.fTo), (vL Give.c x205.fGives)])), none, (some (.box 66 [(vS x210.fName), (vL Col.c x210.fCols)])), none, (some (.box 71 [(vS x260.fName), (vS x205.fTo), (.own 13 (List.length x297))])), (some (.row 82 3 (List.map Give.c x297)))]⟩) (f205_l265 x205 n x210 x200 (f205_k262 x188 x260 x205 x187 (f205_l42 a1 n a4 a5 a2 (f205_k39) m42))) h (wkm [0, 1, 3, 4, 10, 12, 13, 14, 15, 16, 20, 21] (wh_keep (row_below Rule.p _ _ _ _) (whk (wh_none (whk (wh_keep (row_below Rule.p _ _ _ _) (wh_none (whk (wh_none (whk (wh_none (whk (wh_drop (whk (wh_keep (row_below Give.p _ _ _ _) wh_nil))))))))))))))) (by intros; rw [f205_l265.eq_1]) ?_
                     intro m265 x296 x297 h N265 w265
                     rw [f205_l265.eq_2] at h
                     refine s_seq fun N298 k298 w298 => ?_
                     refine s_so fun N299 k299 w299 => ?_
                     refine o_r3 [(117, (vI x296)), (118, (.ptr 8 2)), (119, (vL Give.c x205.fGives))] ?_
                     refine o_o (one_len (f := Give.c) (l := x205.fGives)) ?_
                     refine o_r1 [(121, (vB (decide (x296 < (len x205.fGives)))))] ?_
                     refine o_end (k299 _ ?_)
                     refine i_c [121] h (fun h => ?_) (fun h => ?_)
                     · refine c_skip (k298 _ ?_)
                       refine s_seq fun N302 k302 w302 => ?_
                       refine c_block fun E303 hE303 hO303 => ?_
                       refine s_so fun N304 k304 w304 => ?_
                       refine o_r3 [(124, (.ptr 8 2)), (125, (vL Give.c x205.fGives)), (126, (vI x296))] ?_
                       refine bnd h fun x305 g306 h => ?_
                       refine o_o (one_ia (f := Give.c) (ki := .i64) g306) ?_
                       refine o_h3 [(22, (.ptr 14 0)), (128, (.agg [(vS x305.fFrom), (vI x305.fHow), (vI x305.fN)]))] [(some (.row 71 3 (List.map Rule.c []))), (some (.box 45 [(.own 0 0), (vB false), (vI 0)])), none, (some (.box 45 [(.own 4 (List.length x188)), (vB false), (vI 0)])), (some (.row 71 3 (List.map Rule.c x188))), none, (some (.box 71 [(vS x200.fClass), (vS x200.fTo), (vL Give.c x200.fGives)])), none, (some (.box 71 [(vS x205.fClass), (vS x205.fTo), (vL Give.c x205.fGives)])), none, (some (.box 66 [(vS x210.fName), (vL Col.c x210.fCols)])), none, (some (.box 71 [(vS x260.fName), (vS x205.fTo), (.own 13 (List.length x297))])), (some (.row 82 3 (List.map Give.c x297))), (some (.box 82 [(vS x305.fFrom), (vI x305.fHow), (vI x305.fN)]))] ?_
                       refine o_end (k304 _ ?_)
                       refine J3 (r := r) (fun (x323 : ByteArray) (x324 : Int) (x325 : Int) => ⟨(mkd .any 161 0 [(0, (vL Form.c a1)), (1, (vL Form.c a2)), (3, (vL Rule.c a4)), (4, (vL Rule.c a5)), (10, (.ptr 1 0)), (12, (.ptr 3 0)), (13, (vI x187)), (14, (.ptr 6 0)), (15, (.ptr 8 0)), (16, (.ptr 10 0)), (20, (.ptr 12 0)), (21, (vI x296)), (22, (.ptr 14 0))]), [(some (.row 71 3 (List.map Rule.c []))), (some (.box 45 [(.own 0 0), (vB false), (vI 0)])), none, (some (.box 45 [(.own 4 (List.length x188)), (vB false), (vI 0)])), (some (.row 71 3 (List.map Rule.c x188))), none, (some (.box 71 [(vS x200.fClass), (vS x200.fTo), (vL Give.c x200.fGives)])), none, (some (.box 71 [(vS x205.fClass), (vS x205.fTo), (vL Give.c x205.fGives)])), none, (some (.box 66 [(vS x210.fName), (vL Col.c x210.fCols)])), none, (some (.box 71 [(vS x260.fName), (vS x205.fTo), (.own 13 (List.length x297))])), (some (.row 82 3 (List.map Give.c x297))), (some (.box 82 [(vS x323), (vI x324), (vI x325)]))]⟩) (f205_k307 x297 x296 (f205_l265 x205 n x210 x200 (f205_k262 x188 x260 x205 x187 (f205_l42 a1 n a4 a5 a2 (f205_k39) m42)) m265)) ?_ ?_
                       · intro x323 x324 x325 h
                         rw [f205_k307.eq_1] at h
                         refine c_ops ?_
                         refine o_r4 [(148, (.ptr 12 2)), (149, (.own 13 (List.length x297))), (150, (.agg [(vS x323), (vI x324), (vI x325)])), (151, (vL Give.c [(Give.mk x323 x324 x325)]))] ?_
                         refine bnd h fun l326 g327 h => ?_
                         refine o_x [(some (.row 71 3 (List.map Rule.c []))), (some (.box 45 [(.own 0 0), (vB false), (vI 0)])), none, (some (.box 45 [(.own 4 (List.length x188)), (vB false), (vI 0)])), (some (.row 71 3 (List.map Rule.c x188))), none, (some (.box 71 [(vS x200.fClass), (vS x200.fTo), (vL Give.c x200.fGives)])), none, (some (.box 71 [(vS x205.fClass), (vS x205.fTo), (vL Give.c x205.fGives)])), none, (some (.box 66 [(vS x210.fName), (vL Col.c x210.fCols)])), none, (some (.box 71 [(vS x260.fName), (vS x205.fTo), (.own 13 (List.length x297))])), (some (.row 82 3 (List.map Give.c l326))), (some (.box 82 [(vS x323), (vI x324), (vI x325)]))] (one_app (f := Give.c) (o := 13) g327 (fun _ => ⟨rfl, rfl⟩)) ?_
                         refine o_h2 [(153, (.ptr 12 2))] [(some (.row 71 3 (List.map Rule.c []))), (some (.box 45 [(.own 0 0), (vB false), (vI 0)])), none, (some (.box 45 [(.own 4 (List.length x188)), (vB false), (vI 0)])), (some (.row 71 3 (List.map Rule.c x188))), none, (some (.box 71 [(vS x200.fClass), (vS x200.fTo), (vL Give.c x200.fGives)])), none, (some (.box 71 [(vS x205.fClass), (vS x205.fTo), (vL Give.c x205.fGives)])), none, (some (.box 66 [(vS x210.fName), (vL Col.c x210.fCols)])), none, (some (.box 71 [(vS x260.fName), (vS x205.fTo), (.own 13 (List.length l326))])), (some (.row 82 3 (List.map Give.c l326))), (some (.box 82 [(vS x323), (vI x324), (vI x325)]))] ?_
                         refine o_end (k302 _ ?_)
                         refine c_ops ?_
                         refine o_r3 [(21, (vI (wr .i64 (x296 + 1)))), (122, (vI x296)), (123, (vI (wr .i64 (x296 + 1))))] ?_
                         exact o_end (w265 _ _ _ (wkm [0, 1, 3, 4, 10, 12, 13, 14, 15, 16, 20, 21] (wh_keep (row_below Rule.p _ _ _ _) (whk (wh_none (whk (wh_keep (row_below Rule.p _ _ _ _) (wh_none (whk (wh_none (whk (wh_none (whk (wh_none (whk (wh_keep (row_below Give.p _ _ _ _) wh_nil))))))))))))))) h)
                       · intro N307 w307
                         refine s_so fun N308 k308 w308 => ?_
                         refine o_r2 [(129, (.ptr 14 1)), (130, (vI x305.fHow))] ?_
                         refine bnd h fun r309 g310 h => ?_
                         refine o_o (one_call (p_f217 g310)) ?_
                         refine o_end (k308 _ ?_)
                         refine i_c [131] h (fun h => ?_) (fun h => ?_)
                         · refine s_seq fun N312 k312 w312 => ?_
                           refine c_draw0 ?_
                           refine d_r5 [(132, (.ptr 6 2)), (133, (vL Give.c x200.fGives)), (134, (.agg [(vS x210.fName), (vL Col.c x210.fCols)])), (135, (.ptr 14 0)), (136, (vS x305.fFrom))] ?_
                           refine bnd h fun r313 g314 h => ?_
                           refine d_o (one_call (p_f57 g314)) ?_
                           refine bnd h fun x315 g316 h => ?_
                           refine d_o (one_ia (f := Give.c) (ki := .i64) g316) ?_
                           refine d_r2 [(139, (.agg [(vS x315.fFrom), (vI x315.fHow), (vI x315.fN)])), (140, (.agg [(vS x305.fFrom), (vI x305.fHow), (vI x305.fN)]))] ?_
                           refine t_tm (mkd .any 161 0 [(0, (vL Form.c a1)), (1, (vL Form.c a2)), (3, (vL Rule.c a4)), (4, (vL Rule.c a5)), (10, (.ptr 1 0)), (12, (.ptr 3 0)), (13, (vI x187)), (14, (.ptr 6 0)), (15, (.ptr 8 0)), (16, (.ptr 10 0)), (20, (.ptr 12 0)), (21, (vI x296)), (22, (.ptr 14 0)), (117, (vI x296)), (118, (.ptr 8 2)), (119, (vL Give.c x205.fGives)), (120, (vI (len x205.fGives))), (121, (vB true)), (124, (.ptr 8 2)), (125, (vL Give.c x205.fGives)), (126, (vI x296)), (127, (.iptr [(vS x305.fFrom), (vI x305.fHow), (vI x305.fN)])), (128, (.agg [(vS x305.fFrom), (vI x305.fHow), (vI x305.fN)])), (129, (.ptr 14 1)), (130, (vI x305.fHow)), (131, (vB true)), (132, (.ptr 6 2)), (133, (vL Give.c x200.fGives)), (134, (.agg [(vS x210.fName), (vL Col.c x210.fCols)])), (135, (.ptr 14 0)), (136, (vS x305.fFrom)), (137, (vI r313)), (138, (.iptr [(vS x315.fFrom), (vI x315.fHow), (vI x315.fN)])), (139, (.agg [(vS x315.fFrom), (vI x315.fHow), (vI x315.fN)])), (140, (.agg [(vS x305.fFrom), (vI x305.fHow), (vI x305.fN)]))]) ?_
                           refine bnd h fun r317 g318 h => ?_
                           refine d_o (one_call (p_f218 g318)) ?_
                           refine d_te (.ptr 15 0) [(some (.row 71 3 (List.map Rule.c []))), (some (.box 45 [(.own 0 0), (vB false), (vI 0)])), none, (some (.box 45 [(.own 4 (List.length x188)), (vB false), (vI 0)])), (some (.row 71 3 (List.map Rule.c x188))), none, (some (.box 71 [(vS x200.fClass), (vS x200.fTo), (vL Give.c x200.fGives)])), none, (some (.box 71 [(vS x205.fClass), (vS x205.fTo), (vL Give.c x205.fGives)])), none, (some (.box 66 [(vS x210.fName), (vL Col.c x210.fCols)])), none, (some (.box 71 [(vS x260.fName), (vS x205.fTo), (.own 13 (List.length x297))])), (some (.row 82 3 (List.map Give.c x297))), (some (.box 82 [(vS x305.fFrom), (vI x305.fHow), (vI x305.fN)])), (some (.box 105 [(vS (ByteArray.mk #[])), (vI 0), (vI 0), (vB false)]))] (ra_cat (ra_cat (ra_cat (ra_cat (ra_cat ra_nil (ra_t (ra_t (ra_t (ra_t (ra_t ra_nil)))))) (ra_o (one_call (p_f57 g314)) ra_nil)) (ra_o (one_ia (f := Give.c) (ki := .i64) g316) ra_nil)) (ra_t (ra_t ra_nil))) (ra_o (one_call (p_f218 g318)) ra_nil)) ?_
                           refine d_te (.val undef) [(some (.row 71 3 (List.map Rule.c []))), (some (.box 45 [(.own 0 0), (vB false), (vI 0)])), none, (some (.box 45 [(.own 4 (List.length x188)), (vB false), (vI 0)])), (some (.row 71 3 (List.map Rule.c x188))), none, (some (.box 71 [(vS x200.fClass), (vS x200.fTo), (vL Give.c x200.fGives)])), none, (some (.box 71 [(vS x205.fClass), (vS x205.fTo), (vL Give.c x205.fGives)])), none, (some (.box 66 [(vS x210.fName), (vL Col.c x210.fCols)])), none, (some (.box 71 [(vS x260.fName), (vS x205.fTo), (.own 13 (List.length x297))])), (some (.row 82 3 (List.map Give.c x297))), (some (.box 82 [(vS x305.fFrom), (vI x305.fHow), (vI x305.fN)])), (some (.box 105 [(vS r317.fG.fFrom), (vI r317.fG.fHow), (vI r317.fG.fN), (vB r317.fIs)]))] (ra_cat (ra_cat (ra_cat (ra_cat (ra_cat ra_nil (ra_s (ra_s (ra_s (ra_s (ra_s ra_nil)))))) (ra_s ra_nil)) (ra_s ra_nil)) (ra_s (ra_s ra_nil))) (ra_s ra_nil)) ?_
                           refine d_end (w312 _ ⟨(mkd .any 161 0 [(0, (vL Form.c a1)), (1, (vL Form.c a2)), (3, (vL Rule.c a4)), (4, (vL Rule.c a5)), (10, (.ptr 1 0)), (12, (.ptr 3 0)), (13, (vI x187)), (14, (.ptr 6 0)), (15, (.ptr 8 0)), (16, (.ptr 10 0)), (20, (.ptr 12 0)), (21, (vI x296)), (22, (.ptr 14 0)), (23, (.ptr 15 0))]), [(some (.row 71 3 (List.map Rule.c []))), (some (.box 45 [(.own 0 0), (vB false), (vI 0)])), none, (some (.box 45 [(.own 4 (List.length x188)), (vB false), (vI 0)])), (some (.row 71 3 (List.map Rule.c x188))), none, (some (.box 71 [(vS x200.fClass), (vS x200.fTo), (vL Give.c x200.fGives)])), none, (some (.box 71 [(vS x205.fClass), (vS x205.fTo), (vL Give.c x205.fGives)])), none, (some (.box 66 [(vS x210.fName), (vL Col.c x210.fCols)])), none, (some (.box 71 [(vS x260.fName), (vS x205.fTo), (.own 13 (List.length x297))])), (some (.row 82 3 (List.map Give.c x297))), (some (.box 82 [(vS x305.fFrom), (vI x305.fHow), (vI x305.fN)])), (some (.box 105 [(vS r317.fG.fFrom), (vI r317.fG.fHow), (vI r317.fG.fN), (vB r317.fIs)]))]⟩ (wkm [0, 1, 3, 4, 10, 12, 13, 14, 15, 16, 20, 21, 22, 23] (wh_keep (row_below Rule.p _ _ _ _) (whk (wh_none (whk (wh_keep (row_below Rule.p _ _ _ _) (wh_none (whk (wh_none (whk (wh_none (whk (wh_none (whk (wh_keep (row_below Give.p _ _ _ _) (whk (whk wh_nil))))))))))))))))) ?_)
                           refine s_seq fun N319 k319 w319 => ?_
                           refine s_so fun N320 k320 w320 => ?_
                           refine o_r3 [(142, (.ptr 15 3)), (143, (vB r317.fIs)), (144, (vB (!r317.fIs)))] ?_
                           refine o_end (k320 _ ?_)
                           refine i_c [144] h (fun h => ?_) (fun h => ?_)
                           · refine s_so fun N322 k322 w322 => ?_
                             refine o_h2 [(145, (.agg [(.val (.slice none 0 0)), (vB false), (vI 5)]))] [(some (.row 71 3 (List.map Rule.c []))), (some (.box 45 [(.own 16 0), (vB false), (vI 5)])), none, (some (.box 45 [(.own 4 (List.length x188)), (vB false), (vI 0)])), (some (.row 71 3 (List.map Rule.c x188))), none, (some (.box 71 [(vS x200.fClass), (vS x200.fTo), (vL Give.c x200.fGives)])), none, (some (.box 71 [(vS x205.fClass), (vS x205.fTo), (vL Give.c x205.fGives)])), none, (some (.box 66 [(vS x210.fName), (vL Col.c x210.fCols)])), none, (some (.box 71 [(vS x260.fName), (vS x205.fTo), (.own 13 (List.length x297))])), (some (.row 82 3 (List.map Give.c x297))), (some (.box 82 [(vS x305.fFrom), (vI x305.fHow), (vI x305.fN)])), (some (.box 105 [(vS r317.fG.fFrom), (vI r317.fG.fHow), (vI r317.fG.fN), (vB r317.fIs)])), (some (.row 71 3 (List.map Rule.c [])))] ?_
                             refine o_end (w322 _ ⟨(mkd .any 161 0 [(10, (.ptr 1 0))]), [none, (some (.box 45 [(.own 16 0), (vB false), (vI 5)])), none, none, none, none, none, none, none, none, none, none, none, none, none, none, (some (.row 71 3 (List.map Rule.c [])))]⟩ (wkm [10] (wh_drop (whk (wh_none (wh_drop (wh_drop (wh_none (wh_drop (wh_none (wh_drop (wh_none (wh_drop (wh_none (wh_drop (wh_drop (wh_drop (wh_drop (wh_keep (row_below Rule.p _ _ _ _) wh_nil)))))))))))))))))) ?_)
                             exact c_ret (retsF [16] [(.agg [(.own 16 0), (vB false), (vI 5)])] [(.agg [(vL Rule.c []), (vB false), (vI 5)])] ⟨(fz_agg ⟨(fz_own (g := Rule.c) (l := []) (t := 71) (sz := 3) Rule.p), fz_v, fz_v, trivial⟩), trivial⟩ h)
                           · refine c_skip (k319 _ ?_)
                             refine c_ops ?_
                             refine o_h3 [(146, (.ptr 15 0)), (147, (.agg [(vS r317.fG.fFrom), (vI r317.fG.fHow), (vI r317.fG.fN)]))] [(some (.row 71 3 (List.map Rule.c []))), (some (.box 45 [(.own 0 0), (vB false), (vI 0)])), none, (some (.box 45 [(.own 4 (List.length x188)), (vB false), (vI 0)])), (some (.row 71 3 (List.map Rule.c x188))), none, (some (.box 71 [(vS x200.fClass), (vS x200.fTo), (vL Give.c x200.fGives)])), none, (some (.box 71 [(vS x205.fClass), (vS x205.fTo), (vL Give.c x205.fGives)])), none, (some (.box 66 [(vS x210.fName), (vL Col.c x210.fCols)])), none, (some (.box 71 [(vS x260.fName), (vS x205.fTo), (.own 13 (List.length x297))])), (some (.row 82 3 (List.map Give.c x297))), (some (.box 82 [(vS r317.fG.fFrom), (vI r317.fG.fHow), (vI r317.fG.fN)])), (some (.box 105 [(vS r317.fG.fFrom), (vI r317.fG.fHow), (vI r317.fG.fN), (vB r317.fIs)]))] ?_
                             exact o_end (w307 _ _ _ _ (wkm [0, 1, 3, 4, 10, 12, 13, 14, 15, 16, 20, 21, 22] (wh_keep (row_below Rule.p _ _ _ _) (whk (wh_none (whk (wh_keep (row_below Rule.p _ _ _ _) (wh_none (whk (wh_none (whk (wh_none (whk (wh_none (whk (wh_keep (row_below Give.p _ _ _ _) (whk wh_nil)))))))))))))))) h)
                         · exact c_skip (w307 _ _ _ _ (wkm [0, 1, 3, 4, 10, 12, 13, 14, 15, 16, 20, 21, 22] (wh_keep (row_below Rule.p _ _ _ _) (whk (wh_none (whk (wh_keep (row_below Rule.p _ _ _ _) (wh_none (whk (wh_none (whk (wh_none (whk (wh_none (whk (wh_keep (row_below Give.p _ _ _ _) (whk wh_nil)))))))))))))))) h)
                     · refine c_exit (hE264 _ ?_)
                       exact w262 _ _ (wkm [0, 1, 3, 4, 10, 12, 13, 20] (wh_keep (row_below Rule.p _ _ _ _) (whk (wh_none (whk (wh_keep (row_below Rule.p _ _ _ _) (wh_none (wh_drop (wh_none (wh_drop (wh_none (wh_drop (wh_none (whk (wh_keep (row_below Give.p _ _ _ _) wh_nil))))))))))))))) h
                 · intro N212 w212
                   refine s_so fun N213 k213 w213 => ?_
                   refine o_r1 [(17, (vI 0))] ?_
                   refine o_end (k213 _ ?_)
                   refine c_block fun E214 hE214 hO214 => ?_
                   refine W1 (fun (x237 : Int) => ⟨(mkd .any 161 0 [(0, (vL Form.c a1)), (1, (vL Form.c a2)), (3, (vL Rule.c a4)), (4, (vL Rule.c a5)), (10, (.ptr 1 0)), (12, (.ptr 3 0)), (13, (vI x187)), (14, (.ptr 6 0)), (15, (.ptr 8 0)), (16, (.ptr 10 0)), (17, (vI x237))]), [(some (.row 71 3 (List.map Rule.c []))), (some (.box 45 [(.own 0 0), (vB false), (vI 0)])), none, (some (.box 45 [(.own 4 (List.length x188)), (vB false), (vI 0)])), (some (.row 71 3 (List.map Rule.c x188))), none, (some (.box 71 [(vS x200.fClass), (vS x200.fTo), (vL Give.c x200.fGives)])), none, (some (.box 71 [(vS x205.fClass), (vS x205.fTo), (vL Give.c x205.fGives)])), none, (some (.box 66 [(vS x210.fName), (vL Col.c x210.fCols)]))]⟩) (f205_l215 x200 n x210 x205 (f205_k212 a1 x187 n x205 x210 x200 x188 (f205_l42 a1 n a4 a5 a2 (f205_k39) m42))) h (wkm [0, 1, 3, 4, 10, 12, 13, 14, 15, 16, 17] (wh_keep (row_below Rule.p _ _ _ _) (whk (wh_none (whk (wh_keep (row_below Rule.p _ _ _ _) (wh_none (whk (wh_none (whk (wh_drop (whk wh_nil)))))))))))) (by intros; rw [f205_l215.eq_1]) ?_
                   intro m215 x237 h N215 w215
                   rw [f205_l215.eq_2] at h
                   refine s_seq fun N238 k238 w238 => ?_
                   refine s_so fun N239 k239 w239 => ?_
                   refine o_r3 [(81, (vI x237)), (82, (.ptr 6 2)), (83, (vL Give.c x200.fGives))] ?_
                   refine o_o (one_len (f := Give.c) (l := x200.fGives)) ?_
                   refine o_r1 [(85, (vB (decide (x237 < (len x200.fGives)))))] ?_
                   refine o_end (k239 _ ?_)
                   refine i_c [85] h (fun h => ?_) (fun h => ?_)
                   · refine c_skip (k238 _ ?_)
                     refine s_seq fun N242 k242 w242 => ?_
                     refine c_block fun E243 hE243 hO243 => ?_
                     refine s_so fun N244 k244 w244 => ?_
                     refine o_r3 [(88, (.ptr 6 2)), (89, (vL Give.c x200.fGives)), (90, (vI x237))] ?_
                     refine bnd h fun x245 g246 h => ?_
                     refine o_o (one_ia (f := Give.c) (ki := .i64) g246) ?_
                     refine o_r1 [(92, (.agg [(vS x245.fFrom), (vI x245.fHow), (vI x245.fN)]))] ?_
                     refine bnd h fun r247 g248 h => ?_
                     refine o_o (one_call (p_f215 g248)) ?_
                     refine o_r1 [(18, (vB r247))] ?_
                     refine o_end (k244 _ ?_)
                     refine s_seq fun N249 k249 w249 => ?_
                     refine c_draw0 ?_
                     refine d_r5 [(94, (.ptr 8 2)), (95, (vL Give.c x205.fGives)), (96, (.ptr 10 1)), (97, (vL Col.c x210.fCols)), (98, (vI x237))] ?_
                     refine bnd h fun x250 g251 h => ?_
                     refine d_o (one_ia (f := Col.c) (ki := .i64) g251) ?_
                     refine d_r2 [(100, (.iptr [(vS x250.fName), (vI x250.fKind), (vS x250.fClass)])), (101, (vS x250.fName))] ?_
                     refine t_tm (mkd .any 161 0 [(0, (vL Form.c a1)), (1, (vL Form.c a2)), (3, (vL Rule.c a4)), (4, (vL Rule.c a5)), (10, (.ptr 1 0)), (12, (.ptr 3 0)), (13, (vI x187)), (14, (.ptr 6 0)), (15, (.ptr 8 0)), (16, (.ptr 10 0)), (17, (vI x237)), (18, (vB r247)), (81, (vI x237)), (82, (.ptr 6 2)), (83, (vL Give.c x200.fGives)), (84, (vI (len x200.fGives))), (85, (vB true)), (88, (.ptr 6 2)), (89, (vL Give.c x200.fGives)), (90, (vI x237)), (91, (.iptr [(vS x245.fFrom), (vI x245.fHow), (vI x245.fN)])), (92, (.agg [(vS x245.fFrom), (vI x245.fHow), (vI x245.fN)])), (93, (vB r247)), (94, (.ptr 8 2)), (95, (vL Give.c x205.fGives)), (96, (.ptr 10 1)), (97, (vL Col.c x210.fCols)), (98, (vI x237)), (99, (.iptr [(vS x250.fName), (vI x250.fKind), (vS x250.fClass)])), (100, (.iptr [(vS x250.fName), (vI x250.fKind), (vS x250.fClass)])), (101, (vS x250.fName))]) ?_
                     refine bnd h fun r252 g253 h => ?_
                     refine d_o (one_call (p_f216 g253)) ?_
                     refine d_r1 [(19, (vB r252))] ?_
                     refine d_end (w249 _ ⟨(mkd .any 161 0 [(0, (vL Form.c a1)), (1, (vL Form.c a2)), (3, (vL Rule.c a4)), (4, (vL Rule.c a5)), (10, (.ptr 1 0)), (12, (.ptr 3 0)), (13, (vI x187)), (14, (.ptr 6 0)), (15, (.ptr 8 0)), (16, (.ptr 10 0)), (17, (vI x237)), (18, (vB r247)), (19, (vB r252))]), [(some (.row 71 3 (List.map Rule.c []))), (some (.box 45 [(.own 0 0), (vB false), (vI 0)])), none, (some (.box 45 [(.own 4 (List.length x188)), (vB false), (vI 0)])), (some (.row 71 3 (List.map Rule.c x188))), none, (some (.box 71 [(vS x200.fClass), (vS x200.fTo), (vL Give.c x200.fGives)])), none, (some (.box 71 [(vS x205.fClass), (vS x205.fTo), (vL Give.c x205.fGives)])), none, (some (.box 66 [(vS x210.fName), (vL Col.c x210.fCols)]))]⟩ (wkm [0, 1, 3, 4, 10, 12, 13, 14, 15, 16, 17, 18, 19] (wh_keep (row_below Rule.p _ _ _ _) (whk (wh_none (whk (wh_keep (row_below Rule.p _ _ _ _) (wh_none (whk (wh_none (whk (wh_none (whk wh_nil)))))))))))) ?_)
                     refine J1 (r := r) (fun (x256 : Bool) => ⟨(mkd .any 161 0 [(0, (vL Form.c a1)), (1, (vL Form.c a2)), (3, (vL Rule.c a4)), (4, (vL Rule.c a5)), (10, (.ptr 1 0)), (12, (.ptr 3 0)), (13, (vI x187)), (14, (.ptr 6 0)), (15, (.ptr 8 0)), (16, (.ptr 10 0)), (17, (vI x237)), (107, (vB x256))]), [(some (.row 71 3 (List.map Rule.c []))), (some (.box 45 [(.own 0 0), (vB false), (vI 0)])), none, (some (.box 45 [(.own 4 (List.length x188)), (vB false), (vI 0)])), (some (.row 71 3 (List.map Rule.c x188))), none, (some (.box 71 [(vS x200.fClass), (vS x200.fTo), (vL Give.c x200.fGives)])), none, (some (.box 71 [(vS x205.fClass), (vS x205.fTo), (vL Give.c x205.fGives)])), none, (some (.box 66 [(vS x210.fName), (vL Col.c x210.fCols)]))]⟩) (f205_k254 x237 (f205_l215 x200 n x210 x205 (f205_k212 a1 x187 n x205 x210 x200 x188 (f205_l42 a1 n a4 a5 a2 (f205_k39) m42)) m215)) ?_ ?_
                     · intro x256 h
                       rw [f205_k254.eq_1] at h
                       refine i_c [107] h (fun h => ?_) (fun h => ?_)
                       · refine s_so fun N258 k258 w258 => ?_
                         refine o_h2 [(108, (.agg [(.val (.slice none 0 0)), (vB false), (vI 5)]))] [(some (.row 71 3 (List.map Rule.c []))), (some (.box 45 [(.own 11 0), (vB false), (vI 5)])), none, (some (.box 45 [(.own 4 (List.length x188)), (vB false), (vI 0)])), (some (.row 71 3 (List.map Rule.c x188))), none, (some (.box 71 [(vS x200.fClass), (vS x200.fTo), (vL Give.c x200.fGives)])), none, (some (.box 71 [(vS x205.fClass), (vS x205.fTo), (vL Give.c x205.fGives)])), none, (some (.box 66 [(vS x210.fName), (vL Col.c x210.fCols)])), (some (.row 71 3 (List.map Rule.c [])))] ?_
                         refine o_end (k258 _ ?_)
                         exact c_ret (retsF [11] [(.agg [(.own 11 0), (vB false), (vI 5)])] [(.agg [(vL Rule.c []), (vB false), (vI 5)])] ⟨(fz_agg ⟨(fz_own (g := Rule.c) (l := []) (t := 71) (sz := 3) Rule.p), fz_v, fz_v, trivial⟩), trivial⟩ h)
                       · refine c_skip (k242 _ ?_)
                         refine c_ops ?_
                         refine o_r3 [(17, (vI (wr .i64 (x237 + 1)))), (86, (vI x237)), (87, (vI (wr .i64 (x237 + 1))))] ?_
                         exact o_end (w215 _ _ (wkm [0, 1, 3, 4, 10, 12, 13, 14, 15, 16, 17] (wh_keep (row_below Rule.p _ _ _ _) (whk (wh_none (whk (wh_keep (row_below Rule.p _ _ _ _) (wh_none (whk (wh_none (whk (wh_none (whk wh_nil)))))))))))) h)
                     · intro N254 w254
                       refine c_ops ?_
                       refine o_r2 [(103, (vB r247)), (104, (vB r247))] ?_
                       refine i_o [18, 103, 104] h (fun h => ?_) (fun h => ?_)
                       · refine o_r3 [(105, (vB r252)), (106, (vB (!r252))), (107, (vB (!r252)))] ?_
                         exact o_end (w254 _ _ (wkm [0, 1, 3, 4, 10, 12, 13, 14, 15, 16, 17, 107] (wh_keep (row_below Rule.p _ _ _ _) (whk (wh_none (whk (wh_keep (row_below Rule.p _ _ _ _) (wh_none (whk (wh_none (whk (wh_none (whk wh_nil)))))))))))) h)
                       · refine o_r3 [(105, (.val undef)), (106, (.val undef)), (107, (vB false))] ?_
                         exact o_end (w254 _ _ (wkm [0, 1, 3, 4, 10, 12, 13, 14, 15, 16, 17, 107] (wh_keep (row_below Rule.p _ _ _ _) (whk (wh_none (whk (wh_keep (row_below Rule.p _ _ _ _) (wh_none (whk (wh_none (whk (wh_none (whk wh_nil)))))))))))) h)
                   · refine c_exit (hE214 _ ?_)
                     exact w212 _ (wkm [0, 1, 3, 4, 10, 12, 13, 14, 15, 16] (wh_keep (row_below Rule.p _ _ _ _) (whk (wh_none (whk (wh_keep (row_below Rule.p _ _ _ _) (wh_none (whk (wh_none (whk (wh_none (whk wh_nil)))))))))))) h
             · refine c_exit (hE41 _ ?_)
               exact w39 _ _ (wkm [10, 12] (wh_keep (row_below Rule.p _ _ _ _) (whk (wh_none (whk (wh_keep (row_below Rule.p _ _ _ _) wh_nil)))))) h
       · intro N28 w28
         refine s_so fun N29 k29 w29 => ?_
         refine o_r2 [(40, (vI x27)), (41, (vB (x27 == 0)))] ?_
         refine o_end (k29 _ ?_)
         refine i_c [41] h (fun h => ?_) (fun h => ?_)
         · refine c_ops ?_
           refine o_r3 [(42, (vL Form.c a2)), (43, (vL Form.c a3)), (44, (vL Rule.c a5))] ?_
           refine bnd h fun r31 g32 h => ?_
           refine o_o (one_call (p_f214 g32)) ?_
           refine o_r1 [(11, (vI r31))] ?_
           exact o_end (w28 _ _ (wkm [0, 1, 3, 4, 10, 11] (wh_keep (row_below Rule.p _ _ _ _) (whk wh_nil))) h)
         · exact c_skip (w28 _ _ (wkm [0, 1, 3, 4, 10, 11] (wh_keep (row_below Rule.p _ _ _ _) (whk wh_nil))) h)
     · intro N22 w22
       refine s_so fun N23 k23 w23 => ?_
       refine o_r2 [(34, (vI x21)), (35, (vB (x21 == 0)))] ?_
       refine o_end (k23 _ ?_)
       refine i_c [35] h (fun h => ?_) (fun h => ?_)
       · refine c_ops ?_
         refine o_r3 [(36, (vL Form.c a1)), (37, (vL Form.c a2)), (38, (vL Rule.c a4))] ?_
         refine bnd h fun r25 g26 h => ?_
         refine o_o (one_call (p_f214 g26)) ?_
         refine o_r1 [(11, (vI r25))] ?_
         exact o_end (w22 _ _ (wkm [0, 1, 2, 3, 4, 10, 11] (wh_keep (row_below Rule.p _ _ _ _) (whk wh_nil))) h)
       · exact c_skip (w22 _ _ (wkm [0, 1, 2, 3, 4, 10, 11] (wh_keep (row_below Rule.p _ _ _ _) (whk wh_nil))) h)
   · intro N16 w16
     refine s_so fun N17 k17 w17 => ?_
     refine o_r2 [(30, (vI x15)), (31, (vB (x15 == 0)))] ?_
     refine o_end (k17 _ ?_)
     refine i_c [31] h (fun h => ?_) (fun h => ?_)
     · refine c_ops ?_
       refine o_r1 [(32, (vL Form.c a3))] ?_
       refine bnd h fun r19 g20 h => ?_
       refine o_o (one_call (p_f17 g20)) ?_
       refine o_r1 [(11, (vI r19))] ?_
       exact o_end (w16 _ _ (wkm [0, 1, 2, 3, 4, 10, 11] (wh_keep (row_below Rule.p _ _ _ _) (whk wh_nil))) h)
     · exact c_skip (w16 _ _ (wkm [0, 1, 2, 3, 4, 10, 11] (wh_keep (row_below Rule.p _ _ _ _) (whk wh_nil))) h)
 · intro N10 w10
   refine s_so fun N11 k11 w11 => ?_
   refine o_r2 [(26, (vI r8)), (27, (vB (r8 == 0)))] ?_
   refine o_end (k11 _ ?_)
   refine i_c [27] h (fun h => ?_) (fun h => ?_)
   · refine c_ops ?_
     refine o_r1 [(28, (vL Form.c a2))] ?_
     refine bnd h fun r13 g14 h => ?_
     refine o_o (one_call (p_f17 g14)) ?_
     refine o_r1 [(11, (vI r13))] ?_
     exact o_end (w10 _ _ (wkm [0, 1, 2, 3, 4, 10, 11] (wh_keep (row_below Rule.p _ _ _ _) (whk wh_nil))) h)
   · exact c_skip (w10 _ _ (wkm [0, 1, 2, 3, 4, 10, 11] (wh_keep (row_below Rule.p _ _ _ _) (whk wh_nil))) h)
theorem ic16 : fnIC Tryz.prog H0 16 = some ([.tmp 4], 84, (.seq (.ops [zO 4 (.mov (.c (.bool false)))]) (.seq (.seq (.ops [zM 7 0, zO 8 (.len false (.t 7)), zM 9 1, zO 10 (.len false (.t 9)), zO 11 (.sc (.bin .neq 3) [(.t 8), (.t 10)])]) (.cond (.t 11)
  (.seq (.ops [zO 4 (.mov (.c (.bool false)))]) .ret)
  .skip)) (.seq (.seq (.ops [zO 5 (.mov (.c (.int .i64 0)))]) (.block 0 (.loop (.seq (.seq (.ops [zM 12 5, zM 13 0, zO 14 (.len false (.t 13)), zO 15 (.sc (.bin .lss 3) [(.t 12), (.t 14)])]) (.cond (.t 15)
  .skip
  (.exit 0))) (.seq (.block 1 (.seq (.seq (.draw [] [zQ (zM 18 0), zQ (zM 19 5), zQ (zO 20 (.iaddr 3 (.t 18) (.t 19))), zQ (zO 21 (.faddr (.t 20) 0)), zQ (zO 22 (.ld (.t 21) 1 false)), zQ (zM 23 1), zQ (zM 24 5), zQ (zO 25 (.iaddr 3 (.t 23) (.t 24))), zQ (zO 26 (.faddr (.t 25) 0)), zQ (zO 27 (.ld (.t 26) 1 false)), zQ (zO 28 (.sc (.bin .neq 9) [(.t 22), (.t 27)])), zQ (zM 29 28), zQ (zN 30 29 false 0), zQ (zN 31 29 false 5), zQ (zG 32 29 false (.iaddr 3 (.t 30) (.t 31))), zQ (zG 33 29 false (.faddr (.t 32) 1)), zQ (zG 34 29 false (.ld (.t 33) 1 false)), zQ (zN 35 29 false 1), zQ (zN 36 29 false 5), zQ (zG 37 29 false (.iaddr 3 (.t 35) (.t 36))), zQ (zG 38 29 false (.faddr (.t 37) 1)), zQ (zG 39 29 false (.ld (.t 38) 1 false)), zQ (zG 40 29 false (.sc (.bin .neq 9) [(.t 34), (.t 39)])), zQ (zO 41 (.pick (.t 29) (.c (.bool true)) (.t 40))), zQ (zM 42 41), zQ (zN 43 42 false 0), zQ (zN 44 42 false 5), zQ (zG 45 42 false (.iaddr 3 (.t 43) (.t 44))), zQ (zG 46 42 false (.faddr (.t 45) 2)), zQ (zG 47 42 false (.ld (.t 46) 1 false)), zQ (zG 48 42 false (.len false (.t 47))), zQ (zN 49 42 false 1), zQ (zN 50 42 false 5), zQ (zG 51 42 false (.iaddr 3 (.t 49) (.t 50))), zQ (zG 52 42 false (.faddr (.t 51) 2)), zQ (zG 53 42 false (.ld (.t 52) 1 false)), zQ (zG 54 42 false (.len false (.t 53))), zQ (zG 55 42 false (.sc (.bin .neq 3) [(.t 48), (.t 54)])), zQ (zO 56 (.pick (.t 42) (.c (.bool true)) (.t 55)))]) (.cond (.t 56)
  (.seq (.ops [zO 4 (.mov (.c (.bool false)))]) .ret)
  .skip)) (.seq (.ops [zO 6 (.mov (.c (.int .i64 0)))]) (.block 2 (.loop (.seq (.seq (.ops [zM 57 6, zM 58 0, zM 59 5, zO 60 (.iaddr 3 (.t 58) (.t 59)), zO 61 (.faddr (.t 60) 2), zO 62 (.ld (.t 61) 1 false), zO 63 (.len false (.t 62)), zO 64 (.sc (.bin .lss 3) [(.t 57), (.t 63)])]) (.cond (.t 64)
  .skip
  (.exit 2))) (.seq (.block 3 (.seq (.draw [] [zQ (zM 67 0), zQ (zM 68 5), zQ (zO 69 (.iaddr 3 (.t 67) (.t 68))), zQ (zO 70 (.faddr (.t 69) 2)), zQ (zO 71 (.ld (.t 70) 1 false)), zQ (zM 72 6), zQ (zO 73 (.iaddr 3 (.t 71) (.t 72))), zQ (zO 74 (.ld (.t 73) 3 true)), zQ (zM 75 1), zQ (zM 76 5), zQ (zO 77 (.iaddr 3 (.t 75) (.t 76))), zQ (zO 78 (.faddr (.t 77) 2)), zQ (zO 79 (.ld (.t 78) 1 false)), zQ (zM 80 6), zQ (zO 81 (.iaddr 3 (.t 79) (.t 80))), zQ (zO 82 (.ld (.t 81) 3 true)), zQ (zO 83 (.sc (.bin .neq 82) [(.t 74), (.t 82)]))]) (.cond (.t 83)
  (.seq (.ops [zO 4 (.mov (.c (.bool false)))]) .ret)
  .skip))) (.ops [zM 65 6, zO 66 (.sc (.bin .add 3) [(.t 65), (.c (.int .i64 1))]), zM 6 66])))))))) (.ops [zM 16 5, zO 17 (.sc (.bin .add 3) [(.t 16), (.c (.int .i64 1))]), zM 5 17])))))) (.seq (.ops [zO 4 (.mov (.c (.bool true)))]) .ret))))) := by kernel_rfl
def f206_k92 (x87 : Int) (c13k : Int → Option Bool) : Option Bool := (c13k (wr .i64 (x87 + 1)))
def f206_l119 (a1 : (List Rule)) (x87 : Int) (a2 : (List Rule)) (k92k : Option Bool) : Nat → Int → Option Bool
  | 0, _ => none
  | m119 + 1, x140 => ((gi a1 x87).bind fun x143 => (bif (decide (x140 < (len x143.fGives))) then ((gi a1 x87).bind fun x150 => ((gi x150.fGives x140).bind fun x152 => ((gi a2 x87).bind fun x154 => ((gi x154.fGives x140).bind fun x156 => (bif (!(Give.eqB x152 x156)) then some false else (f206_l119 a1 x87 a2 (k92k) m119 (wr .i64 (x140 + 1)))))))) else (k92k)))
def f206_k95 (n : Nat) (a1 : (List Rule)) (x87 : Int) (a2 : (List Rule)) (c13k : Int → Option Bool) (x114 : Bool) : Option Bool := (bif x114 then some false else (f206_l119 a1 x87 a2 (f206_k92 x87 (c13k)) n 0))
def f206_k10 : Option Bool := some true
def f206_l13 (a1 : (List Rule)) (a2 : (List Rule)) (n : Nat) (k10k : Option Bool) : Nat → Int → Option Bool
  | 0, _ => none
  | m13 + 1, x87 => (bif (decide (x87 < (len a1))) then ((gi a1 x87).bind fun x96 => ((gi a2 x87).bind fun x98 => (bif (!(sEqF x96.fClass x98.fClass)) then (f206_k95 n a1 x87 a2 (f206_l13 a1 a2 n (k10k) m13) true) else ((gi a1 x87).bind fun x102 => ((gi a2 x87).bind fun x104 => (bif (!(sEqF x102.fTo x104.fTo)) then (f206_k95 n a1 x87 a2 (f206_l13 a1 a2 n (k10k) m13) true) else ((gi a1 x87).bind fun x108 => ((gi a2 x87).bind fun x111 => (f206_k95 n a1 x87 a2 (f206_l13 a1 a2 n (k10k) m13) ((len x108.fGives) != (len x111.fGives))))))))))) else (k10k))
def f206 (n : Nat) (a1 : (List Rule)) (a2 : (List Rule)) : Option Bool := (bif ((len a1) != (len a2)) then some false else (f206_l13 a1 a2 n (f206_k10) n 0))
def f206_r (r : Bool) : AV := (vB r)
theorem p_f206 {n : Nat} {a1 : (List Rule)} {a2 : (List Rule)} {r : Bool} (h : f206 n a1 a2 = some r) : PureSpec Tryz.prog 16 [(vL Rule.c a1), (vL Rule.c a2)] (f206_r r) := by
 rw [f206.eq_1] at h
 refine pure_of hmix ic16 ?_
 refine go_to (mkd (.val undef) 84 0 [(0, (vL Rule.c a1)), (1, (vL Rule.c a2))]) ?_
 refine s_so fun N3 k3 w3 => ?_
 refine o_r1 [(4, (vB false))] ?_
 refine o_end (k3 _ ?_)
 refine s_seq fun N4 k4 w4 => ?_
 refine s_so fun N5 k5 w5 => ?_
 refine o_r1 [(7, (vL Rule.c a1))] ?_
 refine o_o (one_len (f := Rule.c) (l := a1)) ?_
 refine o_r1 [(9, (vL Rule.c a2))] ?_
 refine o_o (one_len (f := Rule.c) (l := a2)) ?_
 refine o_r1 [(11, (vB ((len a1) != (len a2))))] ?_
 refine o_end (k5 _ ?_)
 refine i_c [11] h (fun h => ?_) (fun h => ?_)
 · refine s_so fun N9 k9 w9 => ?_
   refine o_r1 [] ?_
   refine o_end (k9 _ ?_)
   exact c_ret (rets [] [(vB false)] [(vB false)] h)
 · refine c_skip (k4 _ ?_)
   refine J0 (r := r) ⟨(mkd .any 84 0 []), []⟩ (f206_k10) ?_ ?_
   · intro h
     rw [f206_k10.eq_1] at h
     refine s_so fun N161 k161 w161 => ?_
     refine o_r1 [(4, (vB true))] ?_
     refine o_end (k161 _ ?_)
     exact c_ret (rets [] [(vB true)] [(vB true)] h)
   · intro N10 w10
     refine s_so fun N11 k11 w11 => ?_
     refine o_r1 [(5, (vI 0))] ?_
     refine o_end (k11 _ ?_)
     refine c_block fun E12 hE12 hO12 => ?_
     refine W1 (fun (x87 : Int) => ⟨(mkd .any 84 0 [(0, (vL Rule.c a1)), (1, (vL Rule.c a2)), (5, (vI x87))]), []⟩) (f206_l13 a1 a2 n (f206_k10)) h (wkm [0, 1, 5] wh_nil) (by intros; rw [f206_l13.eq_1]) ?_
     intro m13 x87 h N13 w13
     rw [f206_l13.eq_2] at h
     refine s_seq fun N88 k88 w88 => ?_
     refine s_so fun N89 k89 w89 => ?_
     refine o_r2 [(12, (vI x87)), (13, (vL Rule.c a1))] ?_
     refine o_o (one_len (f := Rule.c) (l := a1)) ?_
     refine o_r1 [(15, (vB (decide (x87 < (len a1)))))] ?_
     refine o_end (k89 _ ?_)
     refine i_c [15] h (fun h => ?_) (fun h => ?_)
     · refine c_skip (k88 _ ?_)
       refine J0 (r := r) ⟨(mkd .any 84 0 [(0, (vL Rule.c a1)), (1, (vL Rule.c a2)), (5, (vI x87))]), []⟩ (f206_k92 x87 (f206_l13 a1 a2 n (f206_k10) m13)) ?_ ?_
       · intro h
         rw [f206_k92.eq_1] at h
         refine c_ops ?_
         refine o_r3 [(5, (vI (wr .i64 (x87 + 1)))), (16, (vI x87)), (17, (vI (wr .i64 (x87 + 1))))] ?_
         exact o_end (w13 _ _ (wkm [0, 1, 5] wh_nil) h)
       · intro N92 w92
         refine c_block fun E93 hE93 hO93 => ?_
         refine s_seq fun N94 k94 w94 => ?_
         refine J1 (r := r) (fun (x114 : Bool) => ⟨(mkd .any 84 0 [(0, (vL Rule.c a1)), (1, (vL Rule.c a2)), (5, (vI x87)), (56, (vB x114))]), []⟩) (f206_k95 n a1 x87 a2 (f206_l13 a1 a2 n (f206_k10) m13)) ?_ ?_
         · intro x114 h
           rw [f206_k95.eq_1] at h
           refine i_c [56] h (fun h => ?_) (fun h => ?_)
           · refine s_so fun N116 k116 w116 => ?_
             refine o_r1 [(4, (vB false))] ?_
             refine o_end (k116 _ ?_)
             exact c_ret (rets [] [(vB false)] [(vB false)] h)
           · refine c_skip (k94 _ ?_)
             refine s_so fun N117 k117 w117 => ?_
             refine o_r1 [(6, (vI 0))] ?_
             refine o_end (k117 _ ?_)
             refine c_block fun E118 hE118 hO118 => ?_
             refine W1 (fun (x140 : Int) => ⟨(mkd .any 84 0 [(0, (vL Rule.c a1)), (1, (vL Rule.c a2)), (5, (vI x87)), (6, (vI x140))]), []⟩) (f206_l119 a1 x87 a2 (f206_k92 x87 (f206_l13 a1 a2 n (f206_k10) m13))) h (wkm [0, 1, 5, 6] wh_nil) (by intros; rw [f206_l119.eq_1]) ?_
             intro m119 x140 h N119 w119
             rw [f206_l119.eq_2] at h
             refine s_seq fun N141 k141 w141 => ?_
             refine s_so fun N142 k142 w142 => ?_
             refine o_r3 [(57, (vI x140)), (58, (vL Rule.c a1)), (59, (vI x87))] ?_
             refine bnd h fun x143 g144 h => ?_
             refine o_o (one_ia (f := Rule.c) (ki := .i64) g144) ?_
             refine o_r2 [(61, (.iptr [(vL Give.c x143.fGives)])), (62, (vL Give.c x143.fGives))] ?_
             refine o_o (one_len (f := Give.c) (l := x143.fGives)) ?_
             refine o_r1 [(64, (vB (decide (x140 < (len x143.fGives)))))] ?_
             refine o_end (k142 _ ?_)
             refine i_c [64] h (fun h => ?_) (fun h => ?_)
             · refine c_skip (k141 _ ?_)
               refine s_seq fun N147 k147 w147 => ?_
               refine c_block fun E148 hE148 hO148 => ?_
               refine s_seq fun N149 k149 w149 => ?_
               refine c_draw0 ?_
               refine d_r2 [(67, (vL Rule.c a1)), (68, (vI x87))] ?_
               refine bnd h fun x150 g151 h => ?_
               refine d_o (one_ia (f := Rule.c) (ki := .i64) g151) ?_
               refine d_r3 [(70, (.iptr [(vL Give.c x150.fGives)])), (71, (vL Give.c x150.fGives)), (72, (vI x140))] ?_
               refine bnd h fun x152 g153 h => ?_
               refine d_o (one_ia (f := Give.c) (ki := .i64) g153) ?_
               refine d_r3 [(74, (.agg [(vS x152.fFrom), (vI x152.fHow), (vI x152.fN)])), (75, (vL Rule.c a2)), (76, (vI x87))] ?_
               refine bnd h fun x154 g155 h => ?_
               refine d_o (one_ia (f := Rule.c) (ki := .i64) g155) ?_
               refine d_r3 [(78, (.iptr [(vL Give.c x154.fGives)])), (79, (vL Give.c x154.fGives)), (80, (vI x140))] ?_
               refine t_tm (mkd .any 84 0 [(0, (vL Rule.c a1)), (1, (vL Rule.c a2)), (5, (vI x87)), (6, (vI x140)), (57, (vI x140)), (58, (vL Rule.c a1)), (59, (vI x87)), (60, (.iptr [(vS x143.fClass), (vS x143.fTo), (vL Give.c x143.fGives)])), (61, (.iptr [(vL Give.c x143.fGives)])), (62, (vL Give.c x143.fGives)), (63, (vI (len x143.fGives))), (64, (vB true)), (67, (vL Rule.c a1)), (68, (vI x87)), (69, (.iptr [(vS x150.fClass), (vS x150.fTo), (vL Give.c x150.fGives)])), (70, (.iptr [(vL Give.c x150.fGives)])), (71, (vL Give.c x150.fGives)), (72, (vI x140)), (73, (.iptr [(vS x152.fFrom), (vI x152.fHow), (vI x152.fN)])), (74, (.agg [(vS x152.fFrom), (vI x152.fHow), (vI x152.fN)])), (75, (vL Rule.c a2)), (76, (vI x87)), (77, (.iptr [(vS x154.fClass), (vS x154.fTo), (vL Give.c x154.fGives)])), (78, (.iptr [(vL Give.c x154.fGives)])), (79, (vL Give.c x154.fGives)), (80, (vI x140))]) ?_
               refine bnd h fun x156 g157 h => ?_
               refine d_o (one_ia (f := Give.c) (ki := .i64) g157) ?_
               refine d_r1 [(82, (.agg [(vS x156.fFrom), (vI x156.fHow), (vI x156.fN)]))] ?_
               refine d_o (one_sc (vs := [.agg #[.string x152.fFrom, .int .i64 x152.fHow, .int .i64 x152.fN], .agg #[.string x156.fFrom, .int .i64 x156.fHow, .int .i64 x156.fN]]) (sc_nes (r := Give.eqB x152 x156))) ?_
               refine d_end (w149 _ ⟨(mkd .any 84 0 [(0, (vL Rule.c a1)), (1, (vL Rule.c a2)), (5, (vI x87)), (6, (vI x140)), (83, (vB (!(Give.eqB x152 x156))))]), []⟩ (wkm [0, 1, 5, 6, 83] wh_nil) ?_)
               refine i_c [83] h (fun h => ?_) (fun h => ?_)
               · refine s_so fun N160 k160 w160 => ?_
                 refine o_r1 [(4, (vB false))] ?_
                 refine o_end (k160 _ ?_)
                 exact c_ret (rets [] [(vB false)] [(vB false)] h)
               · refine c_skip (k147 _ ?_)
                 refine c_ops ?_
                 refine o_r3 [(6, (vI (wr .i64 (x140 + 1)))), (65, (vI x140)), (66, (vI (wr .i64 (x140 + 1))))] ?_
                 exact o_end (w119 _ _ (wkm [0, 1, 5, 6] wh_nil) h)
             · refine c_exit (hE118 _ ?_)
               exact w92 _ (wkm [0, 1, 5] wh_nil) h
         · intro N95 w95
           refine c_draw0 ?_
           refine d_r2 [(18, (vL Rule.c a1)), (19, (vI x87))] ?_
           refine bnd h fun x96 g97 h => ?_
           refine d_o (one_ia (f := Rule.c) (ki := .i64) g97) ?_
           refine d_r4 [(21, (.iptr [(vS x96.fClass), (vS x96.fTo), (vL Give.c x96.fGives)])), (22, (vS x96.fClass)), (23, (vL Rule.c a2)), (24, (vI x87))] ?_
           refine bnd h fun x98 g99 h => ?_
           refine d_o (one_ia (f := Rule.c) (ki := .i64) g99) ?_
           refine d_r2 [(26, (.iptr [(vS x98.fClass), (vS x98.fTo), (vL Give.c x98.fGives)])), (27, (vS x98.fClass))] ?_
           refine d_o (one_sc (vs := [.string x96.fClass, .string x98.fClass]) (str_neq x96.fClass x98.fClass)) ?_
           refine d_r1 [(29, (vB (!(sEqF x96.fClass x98.fClass))))] ?_
           refine i_d [28, 29] h (fun h => ?_) (fun h => ?_)
           · refine d_r16 [(30, (.val undef)), (31, (.val undef)), (32, (.val undef)), (33, (.val undef)), (34, (.val undef)), (35, (.val undef)), (36, (.val undef)), (37, (.val undef)), (38, (.val undef)), (39, (.val undef)), (40, (.val undef)), (41, (vB true)), (42, (vB true)), (43, (.val undef)), (44, (.val undef)), (45, (.val undef))] ?_
             refine t_tm (mkd .any 84 0 [(0, (vL Rule.c a1)), (1, (vL Rule.c a2)), (5, (vI x87)), (12, (vI x87)), (13, (vL Rule.c a1)), (14, (vI (len a1))), (15, (vB true)), (18, (vL Rule.c a1)), (19, (vI x87)), (20, (.iptr [(vS x96.fClass), (vS x96.fTo), (vL Give.c x96.fGives)])), (21, (.iptr [(vS x96.fClass), (vS x96.fTo), (vL Give.c x96.fGives)])), (22, (vS x96.fClass)), (23, (vL Rule.c a2)), (24, (vI x87)), (25, (.iptr [(vS x98.fClass), (vS x98.fTo), (vL Give.c x98.fGives)])), (26, (.iptr [(vS x98.fClass), (vS x98.fTo), (vL Give.c x98.fGives)])), (27, (vS x98.fClass)), (28, (vB true)), (29, (vB true)), (30, (.val undef)), (31, (.val undef)), (32, (.val undef)), (33, (.val undef)), (34, (.val undef)), (35, (.val undef)), (36, (.val undef)), (37, (.val undef)), (38, (.val undef)), (39, (.val undef)), (40, (.val undef)), (41, (vB true)), (42, (vB true)), (43, (.val undef)), (44, (.val undef)), (45, (.val undef))]) ?_
             refine d_r11 [(46, (.val undef)), (47, (.val undef)), (48, (.val undef)), (49, (.val undef)), (50, (.val undef)), (51, (.val undef)), (52, (.val undef)), (53, (.val undef)), (54, (.val undef)), (55, (.val undef)), (56, (vB true))] ?_
             refine t_tm (mkd .any 84 0 [(0, (vL Rule.c a1)), (1, (vL Rule.c a2)), (5, (vI x87)), (12, (vI x87)), (13, (vL Rule.c a1)), (14, (vI (len a1))), (15, (vB true)), (18, (vL Rule.c a1)), (19, (vI x87)), (20, (.iptr [(vS x96.fClass), (vS x96.fTo), (vL Give.c x96.fGives)])), (21, (.iptr [(vS x96.fClass), (vS x96.fTo), (vL Give.c x96.fGives)])), (22, (vS x96.fClass)), (23, (vL Rule.c a2)), (24, (vI x87)), (25, (.iptr [(vS x98.fClass), (vS x98.fTo), (vL Give.c x98.fGives)])), (26, (.iptr [(vS x98.fClass), (vS x98.fTo), (vL Give.c x98.fGives)])), (27, (vS x98.fClass)), (28, (vB true)), (29, (vB true)), (30, (.val undef)), (31, (.val undef)), (32, (.val undef)), (33, (.val undef)), (34, (.val undef)), (35, (.val undef)), (36, (.val undef)), (37, (.val undef)), (38, (.val undef)), (39, (.val undef)), (40, (.val undef)), (41, (vB true)), (42, (vB true)), (43, (.val undef)), (44, (.val undef)), (45, (.val undef)), (46, (.val undef)), (47, (.val undef)), (48, (.val undef)), (49, (.val undef)), (50, (.val undef)), (51, (.val undef)), (52, (.val undef)), (53, (.val undef)), (54, (.val undef)), (55, (.val undef)), (56, (vB true))]) ?_
             exact d_end (w95 _ _ (wkm [0, 1, 5, 56] wh_nil) h)
           · refine d_r2 [(30, (vL Rule.c a1)), (31, (vI x87))] ?_
             refine t_tm (mkd .any 84 0 [(0, (vL Rule.c a1)), (1, (vL Rule.c a2)), (5, (vI x87)), (12, (vI x87)), (13, (vL Rule.c a1)), (14, (vI (len a1))), (15, (vB true)), (18, (vL Rule.c a1)), (19, (vI x87)), (20, (.iptr [(vS x96.fClass), (vS x96.fTo), (vL Give.c x96.fGives)])), (21, (.iptr [(vS x96.fClass), (vS x96.fTo), (vL Give.c x96.fGives)])), (22, (vS x96.fClass)), (23, (vL Rule.c a2)), (24, (vI x87)), (25, (.iptr [(vS x98.fClass), (vS x98.fTo), (vL Give.c x98.fGives)])), (26, (.iptr [(vS x98.fClass), (vS x98.fTo), (vL Give.c x98.fGives)])), (27, (vS x98.fClass)), (28, (vB false)), (29, (vB false)), (30, (vL Rule.c a1)), (31, (vI x87))]) ?_
             refine bnd h fun x102 g103 h => ?_
             refine d_g (one_ia (f := Rule.c) (ki := .i64) g103) ?_
             refine d_r4 [(33, (.iptr [(vS x102.fTo), (vL Give.c x102.fGives)])), (34, (vS x102.fTo)), (35, (vL Rule.c a2)), (36, (vI x87))] ?_
             refine bnd h fun x104 g105 h => ?_
             refine d_g (one_ia (f := Rule.c) (ki := .i64) g105) ?_
             refine d_r2 [(38, (.iptr [(vS x104.fTo), (vL Give.c x104.fGives)])), (39, (vS x104.fTo))] ?_
             refine d_g (one_sc (vs := [.string x102.fTo, .string x104.fTo]) (str_neq x102.fTo x104.fTo)) ?_
             refine d_r2 [(41, (vB (!(sEqF x102.fTo x104.fTo)))), (42, (vB (!(sEqF x102.fTo x104.fTo))))] ?_
             refine i_d [40, 41, 42] h (fun h => ?_) (fun h => ?_)
             · refine d_r14 [(43, (.val undef)), (44, (.val undef)), (45, (.val undef)), (46, (.val undef)), (47, (.val undef)), (48, (.val undef)), (49, (.val undef)), (50, (.val undef)), (51, (.val undef)), (52, (.val undef)), (53, (.val undef)), (54, (.val undef)), (55, (.val undef)), (56, (vB true))] ?_
               exact d_end (w95 _ _ (wkm [0, 1, 5, 56] wh_nil) h)
             · refine d_r2 [(43, (vL Rule.c a1)), (44, (vI x87))] ?_
               refine bnd h fun x108 g109 h => ?_
               refine d_g (one_ia (f := Rule.c) (ki := .i64) g109) ?_
               refine d_r2 [(46, (.iptr [(vL Give.c x108.fGives)])), (47, (vL Give.c x108.fGives))] ?_
               refine d_g (one_len (f := Give.c) (l := x108.fGives)) ?_
               refine d_r2 [(49, (vL Rule.c a2)), (50, (vI x87))] ?_
               refine t_tm (mkd .any 84 0 [(0, (vL Rule.c a1)), (1, (vL Rule.c a2)), (5, (vI x87)), (12, (vI x87)), (13, (vL Rule.c a1)), (14, (vI (len a1))), (15, (vB true)), (18, (vL Rule.c a1)), (19, (vI x87)), (20, (.iptr [(vS x96.fClass), (vS x96.fTo), (vL Give.c x96.fGives)])), (21, (.iptr [(vS x96.fClass), (vS x96.fTo), (vL Give.c x96.fGives)])), (22, (vS x96.fClass)), (23, (vL Rule.c a2)), (24, (vI x87)), (25, (.iptr [(vS x98.fClass), (vS x98.fTo), (vL Give.c x98.fGives)])), (26, (.iptr [(vS x98.fClass), (vS x98.fTo), (vL Give.c x98.fGives)])), (27, (vS x98.fClass)), (28, (vB false)), (29, (vB false)), (30, (vL Rule.c a1)), (31, (vI x87)), (32, (.iptr [(vS x102.fClass), (vS x102.fTo), (vL Give.c x102.fGives)])), (33, (.iptr [(vS x102.fTo), (vL Give.c x102.fGives)])), (34, (vS x102.fTo)), (35, (vL Rule.c a2)), (36, (vI x87)), (37, (.iptr [(vS x104.fClass), (vS x104.fTo), (vL Give.c x104.fGives)])), (38, (.iptr [(vS x104.fTo), (vL Give.c x104.fGives)])), (39, (vS x104.fTo)), (40, (vB false)), (41, (vB false)), (42, (vB false)), (43, (vL Rule.c a1)), (44, (vI x87)), (45, (.iptr [(vS x108.fClass), (vS x108.fTo), (vL Give.c x108.fGives)])), (46, (.iptr [(vL Give.c x108.fGives)])), (47, (vL Give.c x108.fGives)), (48, (vI (len x108.fGives))), (49, (vL Rule.c a2)), (50, (vI x87))]) ?_
               refine bnd h fun x111 g112 h => ?_
               refine d_g (one_ia (f := Rule.c) (ki := .i64) g112) ?_
               refine d_r2 [(52, (.iptr [(vL Give.c x111.fGives)])), (53, (vL Give.c x111.fGives))] ?_
               refine d_g (one_len (f := Give.c) (l := x111.fGives)) ?_
               refine d_r2 [(55, (vB ((len x108.fGives) != (len x111.fGives)))), (56, (vB ((len x108.fGives) != (len x111.fGives))))] ?_
               exact d_end (w95 _ _ (wkm [0, 1, 5, 56] wh_nil) h)
     · refine c_exit (hE12 _ ?_)
       exact w10 _ (wkm [] wh_nil) h
theorem ic4 : fnIC Tryz.prog H0 4 = some ([.tmp 10], 68, (.seq (.ops [zO 10 (.mov (.c (.bool false)))]) (.seq (.seq (.ops [zM 15 0, zO 16 (.call 7 [(.t 15)]), zO 17 (.sc (.un .not) [(.t 16)]), zM 18 17, zN 19 18 false 1, zG 20 18 false (.call 7 [(.t 19)]), zG 21 18 false (.sc (.un .not) [(.t 20)]), zO 22 (.pick (.t 18) (.c (.bool true)) (.t 21)), zM 23 22, zN 24 23 false 2, zG 25 23 false (.call 7 [(.t 24)]), zG 26 23 false (.sc (.un .not) [(.t 25)]), zO 27 (.pick (.t 23) (.c (.bool true)) (.t 26)), zM 28 27, zN 29 28 false 3, zG 30 28 false (.call 8 [(.t 29)]), zG 31 28 false (.sc (.un .not) [(.t 30)]), zO 32 (.pick (.t 28) (.c (.bool true)) (.t 31)), zM 33 32, zN 34 33 false 4, zG 35 33 false (.call 8 [(.t 34)]), zG 36 33 false (.sc (.un .not) [(.t 35)]), zO 37 (.pick (.t 33) (.c (.bool true)) (.t 36))]) (.cond (.t 37)
  (.seq (.ops [zO 38 (.call 10 []), zM 10 38]) .ret)
  .skip)) (.seq (.ops [zM 40 0, zM 41 1, zM 42 2, zM 43 3, zM 44 4, zO 45 (.call 14 [(.t 40), (.t 41), (.t 42), (.t 43), (.t 44)]), zM 39 45, zO 46 (.ext (.t 39) 0), zO 47 (.ext (.t 39) 1), zM 11 46, zM 12 47]) (.seq (.ops [zM 48 0, zM 49 1, zM 50 2, zM 51 3, zM 52 4, zO 53 (.call 15 [(.t 48), (.t 49), (.t 50), (.t 51), (.t 52)]), zO 13 (.alloc 0 45 [(0, 71, 3, 0)] [(.slice none 0 0), (.bool false), (.int .i64 0)]), zU (.st true 3 [(0, 71, 3, 0)] (.t 13) (.t 53))]) (.seq (.ops [zM 54 11, zO 55 (.faddr (.t 13) 0), zO 56 (.ld (.t 55) 1 false), zO 57 (.call 16 [(.t 54), (.t 56)]), zM 14 57]) (.seq (.ops [zO 58 (.call 10 []), zM 59 58, zN 60 59 true 14, zO 61 (.pick (.t 59) (.t 60) (.c (.bool false))), zM 62 61, zN 63 62 true 12, zG 64 62 true (.faddr (.t 13) 2), zG 65 62 true (.ld (.t 64) 1 false), zG 66 62 true (.sc (.bin .eql 34) [(.t 63), (.t 65)]), zO 67 (.pick (.t 62) (.t 66) (.c (.bool false))), zM 10 67]) .ret))))))) := by kernel_rfl
def f201_k37 (x42 : Bool) : Option Bool := some x42
def f201_k8 (n : Nat) (a1 : (List Form)) (a2 : (List Form)) (a3 : (List Form)) (a4 : (List Rule)) (a5 : (List Rule)) (x23 : Bool) : Option Bool := (bif x23 then ((f15 40).bind fun r26 => some r26) else ((f38 n a1 a2 a3 a4 a5).bind fun r29 => ((f205 n a1 a2 a3 a4 a5).bind fun r32 => ((f206 n r29.1 r32.fL).bind fun r35 => ((f15 40).bind fun r38 => (bif r38 then (bif r35 then (f201_k37 (r29.2 == r32.fE)) else (f201_k37 false)) else (f201_k37 false)))))))
def f201 (n : Nat) (a1 : (List Form)) (a2 : (List Form)) (a3 : (List Form)) (a4 : (List Rule)) (a5 : (List Rule)) : Option Bool := ((f13 n a1).bind fun r9 => (bif (!r9) then (f201_k8 n a1 a2 a3 a4 a5 true) else ((f13 n a2).bind fun r12 => (bif (!r12) then (f201_k8 n a1 a2 a3 a4 a5 true) else ((f13 n a3).bind fun r15 => (bif (!r15) then (f201_k8 n a1 a2 a3 a4 a5 true) else ((f31 n a4).bind fun r18 => (bif (!r18) then (f201_k8 n a1 a2 a3 a4 a5 true) else ((f31 n a5).bind fun r21 => (f201_k8 n a1 a2 a3 a4 a5 (!r21)))))))))))
def f201_r (r : Bool) : AV := (vB r)
theorem p_f201 {n : Nat} {a1 : (List Form)} {a2 : (List Form)} {a3 : (List Form)} {a4 : (List Rule)} {a5 : (List Rule)} {r : Bool} (h : f201 n a1 a2 a3 a4 a5 = some r) : PureSpec Tryz.prog 4 [(vL Form.c a1), (vL Form.c a2), (vL Form.c a3), (vL Rule.c a4), (vL Rule.c a5)] (f201_r r) := by
 rw [f201.eq_1] at h
 refine pure_of hmix ic4 ?_
 refine go_to (mkd (.val undef) 68 0 [(0, (vL Form.c a1)), (1, (vL Form.c a2)), (2, (vL Form.c a3)), (3, (vL Rule.c a4)), (4, (vL Rule.c a5))]) ?_
 refine s_so fun N6 k6 w6 => ?_
 refine o_r1 [(10, (vB false))] ?_
 refine o_end (k6 _ ?_)
 refine s_seq fun N7 k7 w7 => ?_
 refine J1 (r := r) (fun (x23 : Bool) => ⟨(mkd .any 68 0 [(0, (vL Form.c a1)), (1, (vL Form.c a2)), (2, (vL Form.c a3)), (3, (vL Rule.c a4)), (4, (vL Rule.c a5)), (37, (vB x23))]), []⟩) (f201_k8 n a1 a2 a3 a4 a5) ?_ ?_
 · intro x23 h
   rw [f201_k8.eq_1] at h
   refine i_c [37] h (fun h => ?_) (fun h => ?_)
   · refine s_so fun N25 k25 w25 => ?_
     refine bnd h fun r26 g27 h => ?_
     refine o_o (one_call (p_f15 g27)) ?_
     refine o_r1 [(10, (vB r26))] ?_
     refine o_end (k25 _ ?_)
     exact c_ret (rets [] [(vB r26)] [(vB r26)] h)
   · refine c_skip (k7 _ ?_)
     refine s_so fun N28 k28 w28 => ?_
     refine o_r5 [(40, (vL Form.c a1)), (41, (vL Form.c a2)), (42, (vL Form.c a3)), (43, (vL Rule.c a4)), (44, (vL Rule.c a5))] ?_
     refine bnd h fun r29 g30 h => ?_
     refine o_o (one_call (p_f38 g30)) ?_
     refine o_r5 [(11, (vL Rule.c r29.1)), (12, (vI r29.2)), (39, (.tup [(vL Rule.c r29.1), (vI r29.2)])), (46, (vL Rule.c r29.1)), (47, (vI r29.2))] ?_
     refine o_end (k28 _ ?_)
     refine s_so fun N31 k31 w31 => ?_
     refine o_r5 [(48, (vL Form.c a1)), (49, (vL Form.c a2)), (50, (vL Form.c a3)), (51, (vL Rule.c a4)), (52, (vL Rule.c a5))] ?_
     refine bnd h fun r32 g33 h => ?_
     refine o_o (one_call (p_f205 g33)) ?_
     refine o_h2 [(13, (.ptr 1 0))] [(some (.row 71 3 (List.map Rule.c []))), (some (.box 45 [(vL Rule.c r32.fL), (vB r32.fIs), (vI r32.fE)]))] ?_
     refine o_end (w31 _ ⟨(mkd .any 68 0 [(11, (vL Rule.c r29.1)), (12, (vI r29.2)), (13, (.ptr 1 0))]), [none, (some (.box 45 [(vL Rule.c r32.fL), (vB r32.fIs), (vI r32.fE)]))]⟩ (wkm [11, 12, 13] (wh_drop (whk wh_nil))) ?_)
     refine s_so fun N34 k34 w34 => ?_
     refine o_r3 [(54, (vL Rule.c r29.1)), (55, (.ptr 1 0)), (56, (vL Rule.c r32.fL))] ?_
     refine bnd h fun r35 g36 h => ?_
     refine o_o (one_call (p_f206 g36)) ?_
     refine o_r1 [(14, (vB r35))] ?_
     refine o_end (k34 _ ?_)
     refine J1 (r := r) (fun (x42 : Bool) => ⟨(mkd .any 68 0 [(10, (vB x42))]), []⟩) (f201_k37) ?_ ?_
     · intro x42 h
       rw [f201_k37.eq_1] at h
       exact c_ret (rets [] [(vB x42)] [(vB x42)] h)
     · intro N37 w37
       refine c_ops ?_
       refine bnd h fun r38 g39 h => ?_
       refine o_o (one_call (p_f15 g39)) ?_
       refine o_r1 [(59, (vB r38))] ?_
       refine i_o [58, 59] h (fun h => ?_) (fun h => ?_)
       · refine o_r3 [(60, (vB r35)), (61, (vB r35)), (62, (vB r35))] ?_
         refine i_o [14, 57, 60, 61, 62] h (fun h => ?_) (fun h => ?_)
         · refine o_r6 [(10, (vB (r29.2 == r32.fE))), (63, (vI r29.2)), (64, (.ptr 1 2)), (65, (vI r32.fE)), (66, (vB (r29.2 == r32.fE))), (67, (vB (r29.2 == r32.fE)))] ?_
           exact o_end (w37 _ _ (wkm [10] wh_nil) h)
         · refine o_r6 [(10, (vB false)), (63, (.val undef)), (64, (.val undef)), (65, (.val undef)), (66, (.val undef)), (67, (vB false))] ?_
           exact o_end (w37 _ _ (wkm [10] wh_nil) h)
       · refine o_r9 [(10, (vB false)), (60, (.val undef)), (61, (vB false)), (62, (vB false)), (63, (.val undef)), (64, (.val undef)), (65, (.val undef)), (66, (.val undef)), (67, (vB false))] ?_
         exact o_end (w37 _ _ (wkm [10] wh_nil) h)
 · intro N8 w8
   refine c_ops ?_
   refine o_r1 [(15, (vL Form.c a1))] ?_
   refine bnd h fun r9 g10 h => ?_
   refine o_o (one_call (p_f13 g10)) ?_
   refine o_r2 [(17, (vB (!r9))), (18, (vB (!r9)))] ?_
   refine i_o [17, 18] h (fun h => ?_) (fun h => ?_)
   · refine o_r16 [(19, (.val undef)), (20, (.val undef)), (21, (.val undef)), (22, (vB true)), (23, (vB true)), (24, (.val undef)), (25, (.val undef)), (26, (.val undef)), (27, (vB true)), (28, (vB true)), (29, (.val undef)), (30, (.val undef)), (31, (.val undef)), (32, (vB true)), (33, (vB true)), (34, (.val undef))] ?_
     refine o_r3 [(35, (.val undef)), (36, (.val undef)), (37, (vB true))] ?_
     exact o_end (w8 _ _ (wkm [0, 1, 2, 3, 4, 37] wh_nil) h)
   · refine o_r1 [(19, (vL Form.c a2))] ?_
     refine bnd h fun r12 g13 h => ?_
     refine o_g ?_
     refine o_o (one_call (p_f13 g13)) ?_
     refine o_r3 [(21, (vB (!r12))), (22, (vB (!r12))), (23, (vB (!r12)))] ?_
     refine i_o [21, 22, 23] h (fun h => ?_) (fun h => ?_)
     · refine o_r14 [(24, (.val undef)), (25, (.val undef)), (26, (.val undef)), (27, (vB true)), (28, (vB true)), (29, (.val undef)), (30, (.val undef)), (31, (.val undef)), (32, (vB true)), (33, (vB true)), (34, (.val undef)), (35, (.val undef)), (36, (.val undef)), (37, (vB true))] ?_
       exact o_end (w8 _ _ (wkm [0, 1, 2, 3, 4, 37] wh_nil) h)
     · refine o_r1 [(24, (vL Form.c a3))] ?_
       refine bnd h fun r15 g16 h => ?_
       refine o_g ?_
       refine o_o (one_call (p_f13 g16)) ?_
       refine o_r3 [(26, (vB (!r15))), (27, (vB (!r15))), (28, (vB (!r15)))] ?_
       refine s_tm (mkd (.val undef) 68 0 [(0, (vL Form.c a1)), (1, (vL Form.c a2)), (2, (vL Form.c a3)), (3, (vL Rule.c a4)), (4, (vL Rule.c a5)), (10, (vB false)), (15, (vL Form.c a1)), (16, (vB r9)), (17, (vB false)), (18, (vB false)), (19, (vL Form.c a2)), (20, (vB r12)), (21, (vB false)), (22, (vB false)), (23, (vB false)), (24, (vL Form.c a3)), (25, (vB r15)), (26, (vB (!r15))), (27, (vB (!r15))), (28, (vB (!r15)))]) ?_
       refine i_o [26, 27, 28] h (fun h => ?_) (fun h => ?_)
       · refine o_r9 [(29, (.val undef)), (30, (.val undef)), (31, (.val undef)), (32, (vB true)), (33, (vB true)), (34, (.val undef)), (35, (.val undef)), (36, (.val undef)), (37, (vB true))] ?_
         exact o_end (w8 _ _ (wkm [0, 1, 2, 3, 4, 37] wh_nil) h)
       · refine o_r1 [(29, (vL Rule.c a4))] ?_
         refine bnd h fun r18 g19 h => ?_
         refine o_g ?_
         refine o_o (one_call (p_f31 g19)) ?_
         refine o_r3 [(31, (vB (!r18))), (32, (vB (!r18))), (33, (vB (!r18)))] ?_
         refine i_o [31, 32, 33] h (fun h => ?_) (fun h => ?_)
         · refine o_r4 [(34, (.val undef)), (35, (.val undef)), (36, (.val undef)), (37, (vB true))] ?_
           exact o_end (w8 _ _ (wkm [0, 1, 2, 3, 4, 37] wh_nil) h)
         · refine o_r1 [(34, (vL Rule.c a5))] ?_
           refine bnd h fun r21 g22 h => ?_
           refine o_g ?_
           refine o_o (one_call (p_f31 g22)) ?_
           refine o_r2 [(36, (vB (!r21))), (37, (vB (!r21)))] ?_
           exact o_end (w8 _ _ (wkm [0, 1, 2, 3, 4, 37] wh_nil) h)
end Go.Proofs
end
section
namespace Go.Vm
theorem wr_id {x : Int} (h1 : -9223372036854775808 ≤ x) (h2 : x < 9223372036854775808) : wr .i64 x = x := by
  unfold wr IntKind.wrap
  simp [IntKind.bits, IntKind.signed]
  omega
theorem gi_nat {α : Type} (l : List α) (k : Nat) : gi l (k : Int) = l[k]? := rfl
section
variable {α σ ρ : Type}
def go0 (B : Int → α → Option ρ → Option ρ) (K : Option ρ) : List α → Nat → Option ρ
  | [], _ => K
  | y :: l, k => B k y (go0 B K l (k + 1))
theorem scan0 (l : List α) (K : Option ρ) (B : Int → α → Option ρ → Option ρ) (L : Nat → Int → Option ρ)
    (hL : ∀ m x, L (m + 1) x = bif decide (x < len l) then (gi l x).bind fun y => B x y (L m (wr .i64 (x + 1))) else K) (hl : l.length < 4611686018427387904) :
    ∀ (d k m : Nat), d + k = l.length → d < m → L m k = go0 B K (l.drop k) k
  | 0, k, m, hk, hm => by
    obtain ⟨m, rfl⟩ := Nat.exists_eq_succ_of_ne_zero (by omega : m ≠ 0)
    have : l.drop k = [] := List.drop_eq_nil_of_le (by omega)
    rw [hL, this]
    have hd : decide ((k : Int) < len l) = false := by simp [len]; omega
    rw [hd]; rfl
  | d + 1, k, m, hk, hm => by
    obtain ⟨m, rfl⟩ := Nat.exists_eq_succ_of_ne_zero (by omega : m ≠ 0)
    have hlt : k < l.length := by omega
    rw [hL]
    have hd : decide ((k : Int) < len l) = true := by simp [len]; omega
    rw [hd, gi_nat, List.getElem?_eq_getElem hlt, List.drop_eq_getElem_cons hlt]
    simp only [cond_true, Option.bind_some, go0]
    rw [wr_id (by omega) (by omega)]
    have := scan0 l K B L hL hl d (k + 1) m (by omega) (by omega)
    push_cast at this
    rw [this]
def ixOf (p : α → Bool) : List α → Nat → Int
  | [], _ => -1
  | y :: l, k => bif p y then (k : Int) else ixOf p l (k + 1)
theorem go0_ix (p : α → Bool) (f : Int → ρ) : ∀ (l : List α) (k : Nat), go0 (fun x y acc => bif p y then some (f x) else acc) (some (f (-1))) l k = some (f (ixOf p l k))
  | [], k => rfl
  | y :: l, k => by
    simp only [go0, ixOf]
    cases p y
    · exact go0_ix p f l (k + 1)
    · rfl
end
end Go.Vm
end
section
namespace Go.Proofs
open Go.Vm
def formIx (l : List Form) (s : ByteArray) : Int := ixOf (fun x => sEqF x.fName s) l 0
def colIx (l : List Col) (s : ByteArray) : Int := ixOf (fun x => sEqF x.fName s) l 0
theorem f55_eq {n : Nat} {l : List Form} {s : ByteArray} (hn : l.length < n) (hl : l.length < 4611686018427387904) : f55 n l s = some (formIx l s) := by
  unfold f55
  have := scan0 l f55_k4 (fun x y acc => bif sEqF y.fName s then some x else acc) (f55_l7 l s f55_k4) (fun m x => rfl) hl l.length 0 n (by omega) hn
  exact this.trans (go0_ix (fun x => sEqF x.fName s) id l 0)
theorem f52_eq {n : Nat} {l : List Form} {s : ByteArray} (hn : l.length < n) (hl : l.length < 4611686018427387904) : f52 n l s = some (formIx l s) := by
  have h : f125 n l s = some (formIx l s) := by
    unfold f125
    have := scan0 l f125_k4 (fun x y acc => bif sEqF y.fName s then some x else acc) (f125_l8 l n s f125_k4) (fun m x => rfl) hl l.length 0 n (by omega) hn
    exact this.trans (go0_ix (fun x => sEqF x.fName s) id l 0)
  unfold f52 f92
  rw [h]; rfl
theorem f57_eq {n : Nat} {f : Form} {s : ByteArray} (hn : f.fCols.length < n) (hl : f.fCols.length < 4611686018427387904) : f57 n f s = some (colIx f.fCols s) := by
  unfold f57
  have := scan0 f.fCols f57_k4 (fun x y acc => bif sEqF y.fName s then some x else acc) (f57_l7 f s f57_k4) (fun m x => rfl) hl f.fCols.length 0 n (by omega) hn
  exact this.trans (go0_ix (fun x => sEqF x.fName s) id f.fCols 0)
theorem f95_eq {n : Nat} {l : List Col} {s : ByteArray} (hn : l.length < n) (hl : l.length < 4611686018427387904) : f95 n l s = some (colIx l s) := by
  have h : f144 n l s = some (colIx l s) := by
    unfold f144
    have := scan0 l f144_k4 (fun x y acc => bif sEqF y.fName s then some x else acc) (f144_l8 l n s f144_k4) (fun m x => rfl) hl l.length 0 n (by omega) hn
    exact this.trans (go0_ix (fun x => sEqF x.fName s) id l 0)
  unfold f95 f127
  rw [h]; rfl
def inR (x lo hi : Int) : Bool := decide (lo ≤ x) && decide (x ≤ hi)
theorem f86_eq (n : Nat) (x lo hi : Int) : f86 n x lo hi = some (inR x lo hi) := by
  unfold f86 inR
  cases decide (lo ≤ x) <;> rfl
theorem f58_eq (n : Nat) (x lo hi : Int) : f58 n x lo hi = some (inR x lo hi) := by
  unfold f58 inR
  show (bif decide (lo ≤ x) then _ else _) = _
  cases decide (lo ≤ x) <;> rfl
end Go.Proofs
end
section
namespace Go.Proofs
open Go.Vm
def okB (c lo hi : Int) : Bool := (decide (lo ≤ c) && decide (c ≤ hi)) || ((decide (48 ≤ c) && decide (c ≤ 57)) || (c == 95))
theorem f123_eq (n : Nat) (r lo hi : Int) : f123 n r lo hi = some (!(okB r (wr .i32 lo) (wr .i32 hi))) := by
  unfold f123 okB
  show (bif decide (wr .i32 lo ≤ r) then (bif decide (r ≤ wr .i32 hi) then _ else (bif decide (48 ≤ r) then (bif decide (r ≤ 57) then _ else _) else _)) else (bif decide (48 ≤ r) then (bif decide (r ≤ 57) then _ else _) else _)) = _
  cases decide (wr .i32 lo ≤ r) <;> cases decide (r ≤ wr .i32 hi) <;> cases decide (48 ≤ r) <;> cases decide (r ≤ 57) <;> rfl
theorem lenS (s : ByteArray) : s.data.toList.length = s.size := Array.length_toList
def allB (s : ByteArray) (lo hi : Int) (pos : Nat) : Bool := (s.data.toList.drop pos).all fun c => okB c.toNat lo hi
theorem scanStr {s : ByteArray} {n : Nat} {lo hi : Int} (hhi : wr .i32 hi < 128) : ∀ (d pos m : Nat), d + pos = s.size → d < m → ∃ r, f143_l9 s n lo hi true (some (-1)) m pos = some r ∧ decide (r < 0) = allB s (wr .i32 lo) (wr .i32 hi) pos
  | 0, pos, m, hd, hm => by
    obtain ⟨m, rfl⟩ := Nat.exists_eq_succ_of_ne_zero (by omega : m ≠ 0)
    refine ⟨-1, ?_, ?_⟩
    · rw [f143_l9.eq_2]
      have : decide (pos < ByteArray.size s) = false := by simp; omega
      rw [this]; rfl
    · have : s.data.toList.drop pos = [] := List.drop_eq_nil_of_le (by rw [lenS]; omega)
      simp [allB, this]
  | d + 1, pos, m, hd, hm => by
    obtain ⟨m, rfl⟩ := Nat.exists_eq_succ_of_ne_zero (by omega : m ≠ 0)
    have hlt : pos < s.size := by omega
    have hlen := lenS s
    have hdrop : s.data.toList.drop pos = s[pos] :: s.data.toList.drop (pos + 1) := by
      rw [List.drop_eq_getElem_cons (by omega)]
      rfl
    rw [f143_l9.eq_2]
    have h1 : decide (pos < ByteArray.size s) = true := by simpa using hlt
    rw [h1]
    simp only [cond_true, f123_eq, Option.bind_some]
    by_cases ha : (s[pos]'hlt).toNat < 128
    · have hdec := decode_ascii s pos hlt ha
      have e1 : dec1 s pos = (s[pos]'hlt).toNat := by simp [dec1, hdec]
      have e2 : dec2 s pos = 1 := by simp [dec2, hdec]
      rw [e1, e2]
      cases hok : okB ((s[pos]'hlt).toNat : Int) (wr .i32 lo) (wr .i32 hi) with
      | true =>
        obtain ⟨r, hr1, hr2⟩ := scanStr (s := s) (n := n) (lo := lo) hhi d (pos + 1) m (by omega) (by omega)
        refine ⟨r, hr1, ?_⟩
        rw [hr2]
        unfold allB
        rw [hdrop, List.all_cons, hok, Bool.true_and]
      | false =>
        refine ⟨(pos : Int), rfl, ?_⟩
        unfold allB
        rw [hdrop, List.all_cons, hok, Bool.false_and]
        simp
    · have hdec := decode_high s pos hlt (by omega)
      have e1 : 128 ≤ dec1 s pos := by have := hdec.1; unfold dec1; omega
      have hok : okB (dec1 s pos) (wr .i32 lo) (wr .i32 hi) = false := by
        unfold okB
        have a1 : decide (dec1 s pos ≤ wr .i32 hi) = false := by simp; omega
        have a2 : decide (dec1 s pos ≤ 57) = false := by simp; omega
        have a3 : (dec1 s pos == 95) = false := by simp; omega
        rw [a1, a2, a3]; simp
      have hok2 : okB ((s[pos]'hlt).toNat : Int) (wr .i32 lo) (wr .i32 hi) = false := by
        unfold okB
        have a1 : decide (((s[pos]'hlt).toNat : Int) ≤ wr .i32 hi) = false := by simp; omega
        have a2 : decide (((s[pos]'hlt).toNat : Int) ≤ 57) = false := by simp; omega
        have a3 : (((s[pos]'hlt).toNat : Int) == 95) = false := by simp; omega
        rw [a1, a2, a3]; simp
      rw [hok]
      refine ⟨(pos : Int), rfl, ?_⟩
      unfold allB
      rw [hdrop, List.all_cons, hok2, Bool.false_and]
      simp
theorem f122_eq {s : ByteArray} {n : Nat} {lo hi : Int} (hhi : wr .i32 hi < 128) (hn : s.size < n) : ∃ r, f122 n s lo hi = some r ∧ decide (r < 0) = allB s (wr .i32 lo) (wr .i32 hi) 0 := by
  obtain ⟨r, h1, h2⟩ := scanStr (s := s) (n := n) (lo := lo) hhi s.size 0 n (by omega) hn
  refine ⟨r, ?_, h2⟩
  unfold f122 f143
  have : f143_l9 s n lo hi true f143_k6 n 0 = some r := h1
  rw [this]; rfl
end Go.Proofs
end
section
namespace Go.Proofs
open Go.Vm
def namedL (lo hi : Int) : List UInt8 → Bool
  | [] => false
  | c :: t => decide (((c :: t).length : Int) ≤ 20) && (decide (lo ≤ (c.toNat : Int)) && (decide ((c.toNat : Int) ≤ hi) && (c :: t).all fun c => okB c.toNat lo hi))
theorem si_zero (s : ByteArray) : si s 0 = (s.data.toList.head?).map fun c => (c.toNat : Int) := by
  show (s[0]?).map _ = _
  congr 1
  obtain ⟨⟨l⟩⟩ := s
  cases l <;> rfl
theorem f90_eq {n : Nat} {s : ByteArray} {lo hi : Int} (hn : s.size < n) (hlo : wr .i32 lo = lo) (hhi : wr .i32 hi = hi) (h7 : hi < 128) : f90 n s lo hi = some (namedL lo hi s.data.toList) := by
  obtain ⟨r, h1, h2⟩ := f122_eq (s := s) (n := n) (lo := lo) (hi := hi) (by rw [hhi]; exact h7) hn
  have hsz := lenS s
  unfold f90
  have e0 : sEqF s (ByteArray.mk #[]) = s.data.toList.isEmpty := by
    unfold sEqF
    cases s.data.toList <;> rfl
  rw [e0, si_zero]
  unfold allB at h2
  rw [hlo, hhi, List.drop_zero] at h2
  have eb : bsz s = (s.data.toList.length : Int) := by unfold bsz; rw [hsz]
  rw [eb]
  cases hl : s.data.toList with
  | nil => simp [namedL, f90_k6]
  | cons c t =>
    rw [hl] at h2
    simp only [List.isEmpty_cons, cond_false, List.head?_cons, Option.map_some, Option.bind_some, f90_k6, h1, cond_true]
    show _ = some (decide (((c :: t).length : Int) ≤ 20) && (decide (lo ≤ (c.toNat : Int)) && (decide ((c.toNat : Int) ≤ hi) && (c :: t).all fun c => okB c.toNat lo hi)))
    rw [← h2]
    by_cases a1 : ((c :: t).length : Int) ≤ 20
    · have b1 : decide (((c :: t).length : Int) > 20) = false := by simp at a1 ⊢; omega
      have b2 : decide (((c :: t).length : Int) ≤ 20) = true := by simpa using a1
      rw [b1, b2]
      by_cases a2 : lo ≤ (c.toNat : Int)
      · have b3 : decide ((c.toNat : Int) < lo) = false := by simp; omega
        rw [b3]
        by_cases a3 : (c.toNat : Int) ≤ hi
        · have b4 : decide ((c.toNat : Int) > hi) = false := by simp; omega
          rw [b4]; simp [a2, a3]
        · have b4 : decide ((c.toNat : Int) > hi) = true := by simp; omega
          rw [b4]; simp [a2, a3]
      · have b3 : decide ((c.toNat : Int) < lo) = true := by simp; omega
        rw [b3]; simp [a2]
    · have b1 : decide (((c :: t).length : Int) > 20) = true := by simp at a1 ⊢; omega
      have b2 : decide (((c :: t).length : Int) ≤ 20) = false := by simpa using a1
      rw [b1, b2]; rfl
end Go.Proofs
end
section
namespace Go.Proofs
open Go.Vm
theorem ixOf_ge {α : Type} (p : α → Bool) : ∀ (l : List α) (k : Nat), decide (ixOf p l k ≥ 0) = l.any p
  | [], k => rfl
  | y :: l, k => by
    unfold ixOf
    rw [List.any_cons]
    cases p y
    · simpa using ixOf_ge p l (k + 1)
    · simp
theorem ixOf_lt {α : Type} (p : α → Bool) (l : List α) (k : Nat) : decide (ixOf p l k < 0) = !l.any p := by
  rw [← ixOf_ge p l k]
  by_cases h : ixOf p l k ≥ 0
  · have : ¬ ixOf p l k < 0 := by omega
    simp [h, this]
  · have : ixOf p l k < 0 := by omega
    simp [h, this]
theorem f91_eq {n : Nat} {l : List ByteArray} {s : ByteArray} (hn : l.length < n) (hl : l.length < 4611686018427387904) : f91 n l s = some (l.any fun x => sEqF s x) := by
  have h : f124 n l s = some (ixOf (fun x => sEqF s x) l 0) := by
    unfold f124
    have := scan0 l f124_k4 (fun x y acc => bif sEqF s y then some x else acc) (f124_l8 l s f124_k4) (fun m x => rfl) hl l.length 0 n (by omega) hn
    exact this.trans (go0_ix (fun x => sEqF s x) id l 0)
  unfold f91
  rw [h]
  show some (decide (ixOf (fun x => sEqF s x) l 0 ≥ 0)) = _
  rw [ixOf_ge]
def classKw : List ByteArray := [(ByteArray.mk #[73, 78, 84, 69, 71, 69, 82]), (ByteArray.mk #[66, 79, 79, 76, 69, 65, 78]), (ByteArray.mk #[65, 78, 89]), (ByteArray.mk #[78, 79, 78, 69])]
def smallKw : List ByteArray := [(ByteArray.mk #[116, 114, 117, 101]), (ByteArray.mk #[102, 97, 108, 115, 101]), (ByteArray.mk #[118, 111, 105, 100]), (ByteArray.mk #[99, 117, 114, 114, 101, 110, 116]), (ByteArray.mk #[114, 101, 115, 117, 108, 116])]
def classB (s : ByteArray) : Bool := namedL 65 90 s.data.toList && !classKw.any fun x => sEqF s x
def smallB (s : ByteArray) : Bool := namedL 97 122 s.data.toList && !smallKw.any fun x => sEqF s x
theorem wr32 {x : Int} (h1 : -2147483648 ≤ x) (h2 : x < 2147483648) : wr .i32 x = x := by
  unfold wr IntKind.wrap
  simp [IntKind.bits, IntKind.signed]
  omega
theorem f51_eq {n : Nat} {s : ByteArray} (hn : s.size < n) (h4 : 10 < n) : f51 n s = some (classB s) := by
  unfold f51 classB
  rw [f90_eq hn (wr32 (by omega) (by omega)) (wr32 (by omega) (by omega)) (by omega)]
  simp only [Option.bind_some]
  cases namedL 65 90 s.data.toList with
  | false => rfl
  | true =>
    rw [f91_eq (by simp; omega) (by simp)]
    rfl
theorem f94_eq {n : Nat} {s : ByteArray} (hn : s.size < n) (h4 : 10 < n) : f94 n s = some (smallB s) := by
  unfold f94 smallB
  rw [f90_eq hn (wr32 (by omega) (by omega)) (wr32 (by omega) (by omega)) (by omega)]
  simp only [Option.bind_some]
  cases namedL 97 122 s.data.toList with
  | false => rfl
  | true =>
    rw [f91_eq (by simp; omega) (by simp)]
    rfl
end Go.Proofs
end
section
namespace Go.Proofs
open Go.Vm
def goN {ρ : Type} (B : Nat → Option ρ → Option ρ) (K : Option ρ) : Nat → Nat → Option ρ
  | 0, _ => K
  | d + 1, k => B k (goN B K d (k + 1))
theorem scanN {ρ : Type} (N : Nat) (K : Option ρ) (B : Nat → Option ρ → Option ρ) (L : Nat → Int → Option ρ) (hL : ∀ m (k : Nat), k < N → L (m + 1) k = B k (L m (wr .i64 (k + 1)))) (hK : ∀ m, L (m + 1) N = K) (hl : N < 4611686018427387904) :
    ∀ (d k m : Nat), d + k = N → d < m → L m k = goN B K d k
  | 0, k, m, hk, hm => by
    obtain ⟨m, rfl⟩ := Nat.exists_eq_succ_of_ne_zero (by omega : m ≠ 0)
    have : k = N := by omega
    subst this
    exact hK m
  | d + 1, k, m, hk, hm => by
    obtain ⟨m, rfl⟩ := Nat.exists_eq_succ_of_ne_zero (by omega : m ≠ 0)
    rw [hL m k (by omega), wr_id (by omega) (by omega)]
    have := scanN N K B L hL hK hl d (k + 1) m (by omega) (by omega)
    push_cast at this
    rw [this]; rfl
theorem si_get (s : ByteArray) (k : Nat) : si s (k : Int) = (s.data.toList[k]?).map fun c => (c.toNat : Int) := by
  show (s[k]?).map _ = _
  congr 1
  obtain ⟨⟨l⟩⟩ := s
  by_cases h : k < l.length
  · rw [List.getElem?_eq_getElem h]
    have h' : k < (ByteArray.mk ⟨l⟩).size := h
    rw [getElem?_pos (ByteArray.mk ⟨l⟩) k h']
    rfl
  · have h9 : l[k]? = none := List.getElem?_eq_none (by omega)
    show _ = l[k]?
    rw [h9]
    have h' : ¬ k < (ByteArray.mk ⟨l⟩).size := h
    rw [getElem?_neg (ByteArray.mk ⟨l⟩) k h']
theorem goN_all {ρ : Type} (l : List UInt8) (p : UInt8 → Bool) (K F : Option ρ) : ∀ (d k : Nat), d + k = l.length → goN (fun k acc => match l[k]? with | some c => bif p c then acc else F | none => none) K d k = bif (l.drop k).all p then K else F
  | 0, k, h => by
    have : l.drop k = [] := List.drop_eq_nil_of_le (by omega)
    rw [this]; rfl
  | d + 1, k, h => by
    have hlt : k < l.length := by omega
    rw [List.drop_eq_getElem_cons hlt, List.all_cons]
    show (match l[k]? with | some c => bif p c then goN _ K d (k + 1) else F | none => none) = _
    rw [List.getElem?_eq_getElem hlt]
    show (bif p l[k] then goN _ K d (k + 1) else F) = _
    rw [goN_all l p K F d (k + 1) (by omega)]
    cases p l[k] <;> rfl
theorem f56_l {s : ByteArray} {K : Option Bool} {n : Nat} (hn : s.size < n) (hl : s.size < 4611686018427387904) : f56_l18 s K n 0 = bif s.data.toList.all (fun c => okB c.toNat 97 122) then K else some false := by
  have hlen := lenS s
  have := scanN s.size K (fun k acc => match s.data.toList[k]? with | some c => bif okB c.toNat 97 122 then acc else some false | none => none) (f56_l18 s K) (fun m k hk => ?_) (fun m => ?_) hl s.size 0 n (by omega) hn
  · have h2 := goN_all s.data.toList (fun c => okB c.toNat 97 122) K (some false) s.size 0 (by omega)
    exact this.trans h2
  · rw [f56_l18.eq_2]
    have h1 : decide ((k : Int) < bsz s) = true := by simp [bsz]; omega
    rw [h1, si_get, List.getElem?_eq_getElem (by omega)]
    simp only [cond_true, Option.map_some, Option.bind_some]
    generalize ((s.data.toList[k]'(by omega)).toNat : Int) = c
    unfold okB f56_k61
    show (bif decide (97 ≤ c) then (bif decide (c ≤ 122) then _ else (bif decide (48 ≤ c) then (bif decide (c ≤ 57) then _ else _) else _)) else (bif decide (48 ≤ c) then (bif decide (c ≤ 57) then _ else _) else _)) = _
    cases decide (97 ≤ c) <;> cases decide (c ≤ 122) <;> cases decide (48 ≤ c) <;> cases decide (c ≤ 57) <;> cases (c == 95) <;> rfl
  · rw [f56_l18.eq_2]
    have h1 : decide ((s.size : Int) < bsz s) = false := by simp [bsz]
    rw [h1]; rfl
end Go.Proofs
end
section
namespace Go.Proofs
open Go.Vm
theorem f56_k15_eq (s : ByteArray) : f56_k15 s = some (!smallKw.any fun x => sEqF s x) := by
  unfold f56_k15 f56_k92 smallKw
  simp only [List.any_cons, List.any_nil]
  cases sEqF s (ByteArray.mk #[116, 114, 117, 101]) <;> cases sEqF s (ByteArray.mk #[102, 97, 108, 115, 101]) <;> cases sEqF s (ByteArray.mk #[118, 111, 105, 100]) <;> cases sEqF s (ByteArray.mk #[99, 117, 114, 114, 101, 110, 116]) <;> cases sEqF s (ByteArray.mk #[114, 101, 115, 117, 108, 116]) <;> rfl
theorem f56_eq {n : Nat} {s : ByteArray} (hn : s.size < n) (hl : s.size < 4611686018427387904) : f56 n s = some (smallB s) := by
  have hsz := lenS s
  have eb : bsz s = (s.data.toList.length : Int) := by unfold bsz; rw [hsz]
  unfold f56
  rw [si_zero, eb]
  simp only [f56_k4, f56_l hn hl, f56_k15_eq, cond_true, cond_false]
  unfold smallB
  cases hd : s.data.toList with
  | nil => rfl
  | cons c t =>
    have b0 : decide (((c :: t).length : Int) < 1) = false := by simp; omega
    rw [b0]
    simp only [cond_false, List.head?_cons, Option.map_some, Option.bind_some]
    show _ = some ((decide (((c :: t).length : Int) ≤ 20) && (decide (97 ≤ (c.toNat : Int)) && (decide ((c.toNat : Int) ≤ 122) && (c :: t).all fun c => okB c.toNat 97 122))) && _)
    generalize ((c :: t).all fun c => okB c.toNat 97 122) = A
    generalize (!smallKw.any fun x => sEqF s x) = W
    by_cases a1 : ((c :: t).length : Int) ≤ 20
    · have b1 : decide (((c :: t).length : Int) > 20) = false := by simp at a1 ⊢; omega
      have b2 : decide (((c :: t).length : Int) ≤ 20) = true := by simpa using a1
      rw [b1, b2]
      by_cases a2 : 97 ≤ (c.toNat : Int)
      · have b3 : decide ((c.toNat : Int) < 97) = false := by simp; omega
        have b5 : decide (97 ≤ (c.toNat : Int)) = true := by simpa using a2
        rw [b3, b5]
        by_cases a3 : (c.toNat : Int) ≤ 122
        · have b4 : decide ((c.toNat : Int) > 122) = false := by simp; omega
          have b6 : decide ((c.toNat : Int) ≤ 122) = true := by simpa using a3
          rw [b4, b6]; cases A <;> cases W <;> rfl
        · have b4 : decide ((c.toNat : Int) > 122) = true := by simp; omega
          have b6 : decide ((c.toNat : Int) ≤ 122) = false := by simpa using a3
          rw [b4, b6]; cases A <;> cases W <;> rfl
      · have b3 : decide ((c.toNat : Int) < 97) = true := by simp; omega
        have b5 : decide (97 ≤ (c.toNat : Int)) = false := by simpa using a2
        rw [b3, b5]; rfl
    · have b1 : decide (((c :: t).length : Int) > 20) = true := by simp at a1 ⊢; omega
      have b2 : decide (((c :: t).length : Int) ≤ 20) = false := by simpa using a1
      rw [b1, b2]; rfl
end Go.Proofs
end
section
namespace Go.Proofs
open Go.Vm
theorem go0_any {α : Type} (p : α → Bool) : ∀ (l : List α) (k : Nat), go0 (fun _ y acc => bif p y then some true else acc) (some false) l k = some (l.any p)
  | [], k => rfl
  | y :: l, k => by
    simp only [go0, List.any_cons]
    cases p y
    · exact go0_any p l (k + 1)
    · rfl
theorem f129_eq {n : Nat} {l : List ByteArray} {s : ByteArray} (hn : l.length < n) (hl : l.length < 4611686018427387904) : f129 n l s = some (l.any fun x => sEqF x s) := by
  unfold f129
  have := scan0 l f129_k4 (fun x y acc => bif sEqF y s then some true else acc) (f129_l7 l s f129_k4) (fun m x => rfl) hl l.length 0 n (by omega) hn
  exact this.trans (go0_any (fun x => sEqF x s) l 0)
theorem f148_eq (n : Nat) (c : Int) : f148 n c = some (decide (97 ≤ c) && decide (c ≤ 122)) := by
  unfold f148
  show (bif decide (97 ≤ c) then _ else _) = _
  cases decide (97 ≤ c) <;> rfl
theorem f149_eq (n : Nat) (c : Int) : f149 n c = some (decide (65 ≤ c) && decide (c ≤ 90)) := by
  unfold f149
  show (bif decide (65 ≤ c) then _ else _) = _
  cases decide (65 ≤ c) <;> rfl
theorem f132_eq (n : Nat) (c : Int) : f132 n c = some (decide (48 ≤ c) && decide (c ≤ 57)) := by
  unfold f132
  show (bif decide (48 ≤ c) then _ else _) = _
  cases decide (48 ≤ c) <;> rfl
def smallC (c : Int) : Bool := decide (97 ≤ c) && decide (c ≤ 122)
def capC (c : Int) : Bool := decide (65 ≤ c) && decide (c ≤ 90)
def digC (c : Int) : Bool := decide (48 ≤ c) && decide (c ≤ 57)
def partC (c : Int) : Bool := smallC c || (capC c || (digC c || (c == 95)))
theorem f146_eq (n : Nat) (c : Int) : f146 n c = some (partC c) := by
  unfold f146
  rw [f148_eq, f149_eq, f132_eq]
  show (bif smallC c then _ else (Option.bind (some (capC c)) _)) = some (smallC c || (capC c || (digC c || (c == 95))))
  cases smallC c
  · show (bif capC c then _ else (Option.bind (some (digC c)) _)) = _
    cases capC c
    · show (bif digC c then _ else _) = _
      cases digC c <;> rfl
    · rfl
  · rfl
theorem okB_cap (c : Int) : okB c 65 90 = (capC c || (digC c || (c == 95))) := rfl
theorem partC_ok (c : Int) (h : smallC c = false) : partC c = okB c 65 90 := by unfold partC; rw [h, okB_cap]; rfl
theorem okB_part (c : Int) (h : okB c 65 90 = true) : partC c = true ∧ smallC c = false := by
  rw [okB_cap] at h
  refine ⟨by unfold partC; rw [h, Bool.or_true], ?_⟩
  unfold smallC
  unfold capC digC at h
  simp only [Bool.or_eq_true, Bool.and_eq_true, decide_eq_true_eq, beq_iff_eq] at h
  simp only [Bool.and_eq_false_iff, decide_eq_false_iff_not]
  omega
end Go.Proofs
end
section
namespace Go.Proofs
open Go.Vm
theorem goN_run (l : List UInt8) (p : UInt8 → Bool) : ∀ (d k : Nat), d + k = l.length → ∃ r : Int, goN (fun k acc => match l[k]? with | some c => bif p c then acc else some (k : Int) | none => none) (some (l.length : Int)) d k = some r ∧ decide (r < (l.length : Int)) = !(l.drop k).all p
  | 0, k, h => by
    have h0 : l.drop k = [] := List.drop_eq_nil_of_le (by omega)
    exact ⟨(l.length : Int), rfl, by rw [h0]; simp⟩
  | d + 1, k, h => by
    have hlt : k < l.length := by omega
    rw [List.drop_eq_getElem_cons hlt, List.all_cons]
    show ∃ r : Int, (match l[k]? with | some c => bif p c then goN _ _ d (k + 1) else some (k : Int) | none => none) = some r ∧ _
    rw [List.getElem?_eq_getElem hlt]
    show ∃ r : Int, (bif p l[k] then goN _ _ d (k + 1) else some (k : Int)) = some r ∧ _
    cases p l[k] with
    | true =>
      obtain ⟨r, h1, h2⟩ := goN_run l p d (k + 1) (by omega)
      exact ⟨r, h1, by rw [h2, Bool.true_and]⟩
    | false => exact ⟨k, rfl, by simp; omega⟩
theorem f131_eq {n : Nat} {s : ByteArray} (hn : s.size < n) (hl : s.size < 4611686018427387904) : ∃ r, f131 n s 0 = some r ∧ decide (r < bsz s) = !s.data.toList.all fun c => partC c.toNat := by
  have hlen := lenS s
  obtain ⟨r, h1, h2⟩ := goN_run s.data.toList (fun c => partC c.toNat) s.size 0 (by omega)
  refine ⟨r, ?_, ?_⟩
  · unfold f131
    refine Eq.trans (scanN s.size (some (s.data.toList.length : Int)) (fun k acc => match s.data.toList[k]? with | some c => bif partC c.toNat then acc else some (k : Int) | none => none) (f131_l7 0 s n f131_k5) (fun m k hk => ?_) (fun m => ?_) hl s.size 0 n (by omega) hn) h1
    · rw [f131_l7.eq_2]
      have e0 : wr .i64 (0 + (k : Int)) = k := by rw [wr_id (by omega) (by omega)]; omega
      have h1 : decide ((k : Int) < bsz s) = true := by simp [bsz]; omega
      rw [e0, h1, si_get, List.getElem?_eq_getElem (by omega)]
      simp only [cond_true, Option.map_some, Option.bind_some, f146_eq, f131_k20, f131_k5]
    · rw [f131_l7.eq_2]
      have e0 : wr .i64 (0 + (s.size : Int)) = s.size := by rw [wr_id (by omega) (by omega)]; omega
      have h1 : decide ((s.size : Int) < bsz s) = false := by simp [bsz]
      rw [e0, h1]
      show some (s.size : Int) = _
      rw [hlen]
  · rw [List.drop_zero] at h2
    rw [← h2]
    unfold bsz
    rw [hlen]
end Go.Proofs
end
section
namespace Go.Proofs
open Go.Vm
theorem scanTot {σ ρ : Type} (N : Nat) (L : Nat → σ → Int → Option ρ) (hL : ∀ m (k : Nat) v, k < N → (∃ r, L (m + 1) v k = some r) ∨ ∃ v', L (m + 1) v k = L m v' ((k + 1 : Nat) : Int)) (hK : ∀ m v, ∃ r, L (m + 1) v N = some r) :
    ∀ (d k m : Nat) (v : σ), d + k = N → d < m → ∃ r, L m v k = some r
  | 0, k, m, v, hk, hm => by
    obtain ⟨m, rfl⟩ := Nat.exists_eq_succ_of_ne_zero (by omega : m ≠ 0)
    have : k = N := by omega
    subst this
    exact hK m v
  | d + 1, k, m, v, hk, hm => by
    obtain ⟨m, rfl⟩ := Nat.exists_eq_succ_of_ne_zero (by omega : m ≠ 0)
    rcases hL m k v (by omega) with h | ⟨v', h⟩
    · exact h
    · rw [h]; exact scanTot N L hL hK d (k + 1) m v' (by omega) (by omega)
theorem f133_tot {n : Nat} {s : ByteArray} (h0 : 0 < s.size) (hn : s.size < n) (hl : s.size < 4611686018427387904) : ∃ r, f133 n s = some r := by
  have hlen := lenS s
  have two : ∀ x : Int, ∃ r, f133_l44 s f133_k41 n x 0 = some r := fun x => by
    refine scanTot s.size (fun m (v : Int) k => f133_l44 s f133_k41 m v k) (fun m k v hk => ?_) (fun m v => ?_) s.size 0 n x (by omega) hn
    · show (∃ r, f133_l44 s f133_k41 (m + 1) v k = some r) ∨ ∃ v', f133_l44 s f133_k41 (m + 1) v k = f133_l44 s f133_k41 m v' ((k + 1 : Nat) : Int)
      rw [f133_l44.eq_2]
      have h1 : decide ((k : Int) < bsz s) = true := by simp [bsz]; omega
      rw [h1, si_get, List.getElem?_eq_getElem (by omega)]
      simp only [cond_true, Option.map_some, Option.bind_some]
      have e0 : wr .i64 ((k : Int) + 1) = ((k + 1 : Nat) : Int) := by rw [wr_id (by omega) (by omega)]; omega
      rw [e0]
      generalize wr .i64 (wr .i64 (wr .i64 (10 * v) + _) - 48) = q
      cases decide (q > 1099511627776)
      · exact .inr ⟨q, rfl⟩
      · exact .inl ⟨_, rfl⟩
    · show ∃ r, f133_l44 s f133_k41 (m + 1) v (s.size : Int) = some r
      rw [f133_l44.eq_2]
      have h1 : decide ((s.size : Int) < bsz s) = false := by simp [bsz]
      rw [h1]; exact ⟨_, rfl⟩
  have k3 : ∃ r, f133_k3 s n = some r := by
    unfold f133_k3
    have e := si_get s 0
    rw [List.getElem?_eq_getElem (by omega)] at e
    have e2 : si s 0 = some ((s.data.toList[0]'(by omega)).toNat : Int) := e
    rw [e2]
    simp only [Option.bind_some, f133_k33]
    obtain ⟨r, hr⟩ := two 0
    rw [hr]
    cases ((s.data.toList[0]'(by omega)).toNat : Int) == 48 <;> cases decide (bsz s > 1) <;> exact ⟨_, rfl⟩
  unfold f133
  obtain ⟨r3, h3⟩ := k3
  rw [h3]
  refine scanTot s.size (fun m (_ : Unit) k => f133_l6 s n (some r3) m k) (fun m k v hk => ?_) (fun m v => ?_) s.size 0 n () (by omega) hn
  · show (∃ r, f133_l6 s n (some r3) (m + 1) k = some r) ∨ ∃ v' : Unit, f133_l6 s n (some r3) (m + 1) k = f133_l6 s n (some r3) m ((k + 1 : Nat) : Int)
    rw [f133_l6.eq_2]
    have h1 : decide ((k : Int) < bsz s) = true := by simp [bsz]; omega
    rw [h1, si_get, List.getElem?_eq_getElem (by omega)]
    simp only [cond_true, Option.map_some, Option.bind_some, f132_eq]
    have e0 : wr .i64 ((k : Int) + 1) = ((k + 1 : Nat) : Int) := by rw [wr_id (by omega) (by omega)]; omega
    rw [e0]
    generalize ((s.data.toList[k]'(by omega)).toNat : Int) = c
    cases (decide (48 ≤ c) && decide (c ≤ 57))
    · exact .inl ⟨_, rfl⟩
    · exact .inr ⟨(), rfl⟩
  · show ∃ r, f133_l6 s n (some r3) (m + 1) (s.size : Int) = some r
    rw [f133_l6.eq_2]
    have h1 : decide ((s.size : Int) < bsz s) = false := by simp [bsz]
    rw [h1]; exact ⟨_, rfl⟩
end Go.Proofs
end
section
namespace Go.Proofs
open Go.Vm
theorem f134_l {s : ByteArray} {n : Nat} {K : Bool → Bool → Option KE} (hl : s.size < 4611686018427387904) : ∀ (d k m : Nat) (lo hi : Bool), d + k = s.size → d < m →
    f134_l26 s n K m lo hi k = K (lo || (s.data.toList.drop k).any fun c => smallC c.toNat) (hi || (s.data.toList.drop k).any fun c => capC c.toNat)
  | 0, k, m, lo, hi, hk, hm => by
    obtain ⟨m, rfl⟩ := Nat.exists_eq_succ_of_ne_zero (by omega : m ≠ 0)
    have hlen := lenS s
    have h0 : s.data.toList.drop k = [] := List.drop_eq_nil_of_le (by omega)
    have h1 : decide ((k : Int) < bsz s) = false := by simp [bsz]; omega
    rw [f134_l26.eq_2, h1, h0]
    simp
  | d + 1, k, m, lo, hi, hk, hm => by
    obtain ⟨m, rfl⟩ := Nat.exists_eq_succ_of_ne_zero (by omega : m ≠ 0)
    have hlen := lenS s
    have hlt : k < s.data.toList.length := by omega
    have h1 : decide ((k : Int) < bsz s) = true := by simp [bsz]; omega
    have e0 : wr .i64 ((k : Int) + 1) = ((k + 1 : Nat) : Int) := by rw [wr_id (by omega) (by omega)]; omega
    have ih := fun lo hi => f134_l (n := n) (K := K) hl d (k + 1) m lo hi (by omega) (by omega)
    have es : si s (k : Int) = some ((s.data.toList[k]).toNat : Int) := by rw [si_get, List.getElem?_eq_getElem hlt]; rfl
    rw [f134_l26.eq_2, h1, List.drop_eq_getElem_cons hlt, List.any_cons, List.any_cons]
    simp only [cond_true, es, Option.bind_some, f148_eq, f149_eq, f134_k49, f134_k47, e0, ih]
    show (bif lo then (bif hi then _ else _) else (bif hi then _ else _)) = _
    cases lo <;> cases hi <;> simp [smallC, capC]
end Go.Proofs
end
section
namespace Go.Proofs
open Go.Vm
def kwL : List ByteArray := (f147 0).getD []
def signL : List ByteArray := (f130 0).getD []
def trueL : List ByteArray := [(ByteArray.mk #[84, 114, 117, 101]), (ByteArray.mk #[70, 97, 108, 115, 101]), (ByteArray.mk #[86, 111, 105, 100]), (ByteArray.mk #[67, 117, 114, 114, 101, 110, 116]), (ByteArray.mk #[82, 101, 115, 117, 108, 116])]
def hasB (l : List ByteArray) (s : ByteArray) : Bool := l.any fun x => sEqF x s
def wordR (s : ByteArray) : KE :=
  bif hasB kwL s then KE.mk 3 0 else bif hasB trueL s then KE.mk 3 0 else bif hasB smallKw s then KE.mk 0 4 else
  bif (s.data.toList.any fun c => smallC c.toNat) && (s.data.toList.any fun c => capC c.toNat) then KE.mk 0 2 else bif decide (bsz s > 20) then KE.mk 0 3 else bif s.data.toList.any fun c => smallC c.toNat then KE.mk 1 0 else KE.mk 2 0
theorem f134_eq {n : Nat} {s : ByteArray} (hn : s.size < n) (h9 : 100 < n) (hl : s.size < 4611686018427387904) : f134 n s = some (wordR s) := by
  have hK : f129 n kwL s = some (hasB kwL s) := f129_eq (by have : kwL.length < 50 := by decide
                                                            omega) (by decide)
  have hT : f129 n trueL s = some (hasB trueL s) := f129_eq (by have : trueL.length < 50 := by decide
                                                                omega) (by decide)
  have hS : f129 n smallKw s = some (hasB smallKw s) := f129_eq (by have : smallKw.length < 50 := by decide
                                                                    omega) (by decide)
  have key : f134 n s = (f129 n kwL s).bind fun r7 => (bif r7 then f134_k4 n s true else (f129 n trueL s).bind fun r10 => f134_k4 n s r10) := rfl
  have k4 : ∀ x, f134_k4 n s x = (bif x then some (KE.mk 3 0) else (f129 n smallKw s).bind fun r17 => (bif r17 then some (KE.mk 0 4) else f134_l26 s n (f134_k23 s) n false false 0)) := fun x => rfl
  have hw := f134_l (s := s) (n := n) (K := f134_k23 s) hl s.size 0 n false false (by omega) hn
  have hw2 : f134_l26 s n (f134_k23 s) n false false 0 = _ := hw
  rw [key, hK, Option.bind_some, hT, Option.bind_some]
  simp only [k4, hS, Option.bind_some, hw2, List.drop_zero, Bool.false_or, f134_k23, f134_k66]
  unfold wordR
  cases hasB kwL s <;> cases hasB trueL s <;> cases hasB smallKw s <;> cases (s.data.toList.any fun c => smallC c.toNat) <;> cases (s.data.toList.any fun c => capC c.toNat) <;> cases decide (bsz s > 20) <;> rfl
end Go.Proofs
end
section
namespace Go.Proofs
open Go.Vm
def isClassKE (r : KE) : Bool := (r.fE == 0) && (r.fK == 2)
theorem sEqF_list {a b : ByteArray} (h : sEqF a b = true) : a.data.toList = b.data.toList := by
  unfold sEqF at h
  exact eq_of_beq h
theorem hasB_false {l : List ByteArray} {s : ByteArray} (hl : (l.all fun x => !namedL 65 90 x.data.toList) = true) (h : namedL 65 90 s.data.toList = true) : hasB l s = false := by
  unfold hasB
  rw [List.any_eq_false]
  intro x hx he
  have h1 := List.all_eq_true.1 hl x hx
  rw [sEqF_list he, h] at h1
  cases h1
theorem wordR_class {s : ByteArray} (hs : 0 < s.data.toList.length) : isClassKE (wordR s) = ((!hasB kwL s && !hasB trueL s && !hasB smallKw s) && (!(s.data.toList.any fun c => smallC c.toNat) && !decide (bsz s > 20))) := by
  unfold wordR
  cases hasB kwL s <;> cases hasB trueL s <;> cases hasB smallKw s <;> cases (s.data.toList.any fun c => smallC c.toNat) <;> cases (s.data.toList.any fun c => capC c.toNat) <;> cases decide (bsz s > 20) <;> rfl
theorem f96_class {n : Nat} {s : ByteArray} (hn : s.size < n) (h9 : 100 < n) (hl : s.size < 4611686018427387904) : ∃ r, f96 n s = some r ∧ isClassKE r = namedL 65 90 s.data.toList := by
  have hlen := lenS s
  have eb : bsz s = (s.data.toList.length : Int) := by unfold bsz; rw [hlen]
  have hSg : f129 n signL s = some (hasB signL s) := f129_eq (by have : signL.length < 50 := by decide
                                                                 omega) (by decide)
  have key : f96 n s = (f129 n signL s).bind fun r7 => (bif r7 then some (KE.mk 5 0) else (bif (bsz s == 0) then f96_k12 s n true else ((f131 n s 0).bind fun r14 => (bif decide (r14 < bsz s) then f96_k12 s n true else ((si s 0).bind fun c17 => f96_k12 s n (c17 == 95)))))) := rfl
  obtain ⟨rr, hr1, hr2⟩ := f131_eq hn hl
  rw [key, hSg, Option.bind_some, hr1]
  cases hd : s.data.toList with
  | nil =>
    have e0 : (bsz s == 0) = true := by rw [eb, hd]; rfl
    rw [e0]
    cases hasB signL s
    · exact ⟨_, rfl, rfl⟩
    · exact ⟨_, rfl, rfl⟩
  | cons c t =>
    have hpos : 0 < s.size := by rw [← hlen, hd]; simp
    have e0 : (bsz s == 0) = false := by rw [eb, hd]; simp; omega
    have es : si s 0 = some (c.toNat : Int) := by rw [si_zero, hd]; rfl
    rw [e0]
    simp only [cond_false, Option.bind_some, hr2, es, hd]
    obtain ⟨rn, hrn⟩ := f133_tot (n := n) hpos hn hl
    have hw := f134_eq hn h9 hl
    have kT : f96_k12 s n true = some (KE.mk 0 2) := rfl
    have kF : f96_k12 s n false = bif digC (c.toNat : Int) then (bif (rn.fE != 0) then some (KE.mk 0 rn.fE) else some (KE.mk 4 0)) else some (wordR s) := by
      unfold f96_k12
      rw [es, hrn, hw]
      simp only [cond_false, Option.bind_some, f132_eq]
      rfl
    cases hN : namedL 65 90 (c :: t) with
    | true =>
      have hN' : namedL 65 90 s.data.toList = true := by rw [hd]; exact hN
      have h1 := hasB_false (l := signL) (by decide) hN'
      have h2 := hasB_false (l := kwL) (by decide) hN'
      have h3 := hasB_false (l := trueL) (by decide) hN'
      have h4 := hasB_false (l := smallKw) (by decide) hN'
      unfold namedL at hN
      simp only [Bool.and_eq_true, decide_eq_true_eq] at hN
      obtain ⟨n1, n2, n3, n4⟩ := hN
      have hall : ((c :: t).all fun c => partC c.toNat) = true := List.all_eq_true.2 fun x hx => (okB_part _ (List.all_eq_true.1 n4 x hx)).1
      have hsm : ((c :: t).any fun c => smallC c.toNat) = false := List.any_eq_false.2 fun x hx h => by
        have := (okB_part _ (List.all_eq_true.1 n4 x hx)).2
        rw [this] at h; cases h
      have h95 : ((c.toNat : Int) == 95) = false := by simp; omega
      have hdg : digC (c.toNat : Int) = false := by unfold digC; simp; omega
      rw [h1, hall, h95, kF, hdg]
      refine ⟨wordR s, rfl, ?_⟩
      rw [wordR_class (by rw [hd]; simp), h2, h3, h4, hd, hsm, eb, hd]
      have : decide (((c :: t).length : Int) > 20) = false := by simp at n1 ⊢; omega
      rw [this]; rfl
    | false =>
      cases hsg : hasB signL s with
      | true => exact ⟨_, rfl, rfl⟩
      | false =>
        cases hall : ((c :: t).all fun c => partC c.toNat) with
        | false => exact ⟨_, rfl, rfl⟩
        | true =>
          cases h95 : ((c.toNat : Int) == 95) with
          | true => exact ⟨_, rfl, rfl⟩
          | false =>
            rw [kF]
            cases hdg : digC (c.toNat : Int) with
            | true => cases (rn.fE != 0) <;> exact ⟨_, rfl, by first | rfl | simp [isClassKE]⟩
            | false =>
              refine ⟨wordR s, rfl, ?_⟩
              cases hc : isClassKE (wordR s) with
              | false => rfl
              | true =>
                exfalso
                rw [wordR_class (by rw [hd]; simp), hd, eb, hd] at hc
                simp only [Bool.and_eq_true, Bool.not_eq_true', decide_eq_false_iff_not] at hc
                obtain ⟨_, hsm, h20⟩ := hc
                have hok : ((c :: t).all fun c => okB c.toNat 65 90) = true := List.all_eq_true.2 fun x hx => by
                  have p1 := List.all_eq_true.1 hall x hx
                  have p2 : smallC x.toNat = false := by
                    have := List.any_eq_false.1 hsm x hx
                    simpa using this
                  rw [← partC_ok _ p2]; exact p1
                have hc1 := List.all_eq_true.1 hok c (by simp)
                rw [okB_cap, hdg, h95] at hc1
                simp only [Bool.or_false] at hc1
                unfold capC at hc1
                simp only [Bool.and_eq_true, decide_eq_true_eq] at hc1
                have : namedL 65 90 (c :: t) = true := by
                  unfold namedL
                  simp only [Bool.and_eq_true, decide_eq_true_eq]
                  exact ⟨by omega, hc1.1, hc1.2, hok⟩
                rw [this] at hN; cases hN
end Go.Proofs
end
section
namespace Go.Proofs
open Go.Vm
theorem f54_eq {n : Nat} {s : ByteArray} (hn : s.size < n) (h9 : 100 < n) (hl : s.size < 4611686018427387904) : f54 n s = some (classB s) := by
  obtain ⟨r, h1, h2⟩ := f96_class hn h9 hl
  unfold f54 classB
  rw [h1, Option.bind_some, ← h2]
  unfold isClassKE f54_k6 classKw
  simp only [List.any_cons, List.any_nil]
  have comm : ∀ a b : ByteArray, sEqF a b = sEqF b a := fun a b => by unfold sEqF; exact Bool.beq_comm
  cases (r.fE == 0) <;> cases (r.fK == 2) <;> cases sEqF s (ByteArray.mk #[73, 78, 84, 69, 71, 69, 82]) <;> cases sEqF s (ByteArray.mk #[66, 79, 79, 76, 69, 65, 78]) <;> cases sEqF s (ByteArray.mk #[65, 78, 89]) <;> cases sEqF s (ByteArray.mk #[78, 79, 78, 69]) <;> rfl
end Go.Proofs
end
section
namespace Go.Proofs
open Go.Vm
def colE (pre : List Col) (c : Col) : Int :=
  bif !smallB c.fName then 4 else bif decide (colIx pre c.fName ≥ 0) then 6 else bif !(inR c.fKind 1 3) || (c.fKind != 3 && !(sEqF c.fClass (ByteArray.mk #[]))) then 1 else 0
def colsB (l : List Col) (k : Nat) (acc : Option Int) : Option Int := match l[k]? with
  | some c => bif colE (l.take k) c == 0 then acc else some (colE (l.take k) c)
  | none => none
theorem sli_take {α : Type} (l : List α) (k : Nat) (h : k ≤ l.length) : sli l 0 (k : Int) = some (l.take k) := by
  unfold sli
  have h1 : decide ((0 : Int) ≤ 0) = true := rfl
  have h2 : decide ((0 : Int) ≤ (k : Int)) = true := by simp
  have h3 : decide ((k : Int) ≤ (l.length : Int)) = true := by simpa using h
  rw [h1, h2, h3]
  simp
theorem f53_l {l : List Col} {K : Option Int} {n : Nat} (hs : ∀ c ∈ l, c.fName.size < n) (h9 : 100 < n) (hn : l.length < n) (hl : l.length < 4611686018427387904) : f53_l12 l n K n 0 = goN (colsB l) K l.length 0 := by
  refine scanN l.length K (colsB l) (f53_l12 l n K) (fun m k hk => ?_) (fun m => ?_) hl l.length 0 n (by omega) hn
  · rw [f53_l12.eq_2]
    have h1 : decide ((k : Int) < len l) = true := by simp [len]; omega
    rw [h1, gi_nat, List.getElem?_eq_getElem hk]
    simp only [cond_true, Option.bind_some]
    rw [f94_eq (hs _ (List.getElem_mem hk)) (by omega), sli_take l k (by omega)]
    simp only [Option.bind_some]
    rw [f95_eq (by rw [List.length_take]; omega) (by rw [List.length_take]; omega), f86_eq]
    simp only [Option.bind_some, f53_k67]
    unfold colsB
    rw [List.getElem?_eq_getElem hk]
    show _ = bif colE (l.take k) l[k] == 0 then _ else some (colE (l.take k) l[k])
    unfold colE
    cases smallB l[k].fName <;> cases decide (colIx (l.take k) l[k].fName ≥ 0) <;> cases inR l[k].fKind 1 3 <;> cases (l[k].fKind != 3) <;> cases sEqF l[k].fClass (ByteArray.mk #[]) <;> rfl
  · rw [f53_l12.eq_2]
    have h1 : decide ((l.length : Int) < len l) = false := by simp [len]
    rw [h1]; rfl
end Go.Proofs
end
section
namespace Go.Proofs
open Go.Vm
theorem ixOf_app {α : Type} (p : α → Bool) : ∀ (a b : List α) (j : Nat), ixOf p (a ++ b) j = bif a.any p then ixOf p a j else ixOf p b (j + a.length)
  | [], b, j => by simp
  | y :: a, b, j => by
    rw [List.cons_append, List.any_cons]
    unfold ixOf
    cases p y
    · rw [cond_false, ixOf_app p a b (j + 1), Bool.false_or, List.length_cons, cond_false]
      rw [show j + 1 + a.length = j + (a.length + 1) by omega]
      cases b <;> rfl
    · rfl
theorem ixOf_bound {α : Type} (p : α → Bool) : ∀ (a : List α) (j : Nat), a.any p = true → (j : Int) ≤ ixOf p a j ∧ ixOf p a j < (j : Int) + a.length
  | [], j, h => by simp at h
  | y :: a, j, h => by
    rw [List.any_cons] at h
    unfold ixOf
    cases hp : p y
    · rw [hp, Bool.false_or] at h
      have := ixOf_bound p a (j + 1) h
      rw [cond_false, List.length_cons]
      push_cast at this ⊢
      omega
    · rw [cond_true, List.length_cons]
      push_cast
      omega
theorem ahead {α : Type} (p : α → Bool) (l : List α) (k : Nat) (hk : k < l.length) (hp : p l[k] = true) : decide (ixOf p l 0 < (k : Int)) = decide (ixOf p (l.take k) 0 ≥ 0) := by
  rw [ixOf_ge]
  have h1 := ixOf_app p (l.take k) (l.drop k) 0
  rw [List.take_append_drop] at h1
  rw [h1]
  cases ha : (l.take k).any p
  · rw [cond_false, List.drop_eq_getElem_cons hk]
    have : ixOf p (l[k] :: l.drop (k + 1)) (0 + (l.take k).length) = ((0 + (l.take k).length : Nat) : Int) := by
      unfold ixOf; rw [hp]; rfl
    rw [this, List.length_take]
    simp; omega
  · have := ixOf_bound p (l.take k) 0 ha
    rw [cond_true]
    rw [List.length_take] at this
    simp; omega
theorem sEqF_refl (a : ByteArray) : sEqF a a = true := by unfold sEqF; simp
end Go.Proofs
end
section
namespace Go.Proofs
open Go.Vm
theorem f17_cols {L : List Form} {x : Int} {f : Form} {K : Option Int} {n : Nat} (hg : gi L x = some f) (hs : ∀ c ∈ f.fCols, c.fName.size < n) (hs2 : ∀ c ∈ f.fCols, c.fName.size < 4611686018427387904) (hn : f.fCols.length < n) (hl : f.fCols.length < 4611686018427387904) :
    f17_l153 L x n K n 0 = goN (colsB f.fCols) K f.fCols.length 0 := by
  refine scanN f.fCols.length K (colsB f.fCols) (f17_l153 L x n K) (fun m k hk => ?_) (fun m => ?_) hl f.fCols.length 0 n (by omega) hn
  · rw [f17_l153.eq_2, hg]
    have h1 : decide ((k : Int) < len f.fCols) = true := by simp [len]; omega
    simp only [Option.bind_some, h1, cond_true, gi_nat, List.getElem?_eq_getElem hk]
    rw [f56_eq (hs _ (List.getElem_mem hk)) (hs2 _ (List.getElem_mem hk)), f57_eq hn hl, f58_eq]
    simp only [Option.bind_some, f17_k220]
    unfold colsB
    rw [List.getElem?_eq_getElem hk]
    show _ = bif colE (f.fCols.take k) f.fCols[k] == 0 then _ else some (colE (f.fCols.take k) f.fCols[k])
    unfold colE colIx
    rw [ahead (fun y => sEqF y.fName f.fCols[k].fName) f.fCols k hk (sEqF_refl _)]
    cases smallB f.fCols[k].fName <;> cases decide (ixOf (fun y => sEqF y.fName f.fCols[k].fName) (f.fCols.take k) 0 ≥ 0) <;> cases inR f.fCols[k].fKind 1 3 <;> cases (f.fCols[k].fKind != 3) <;> cases sEqF f.fCols[k].fClass (ByteArray.mk #[]) <;> rfl
  · rw [f17_l153.eq_2, hg]
    have h1 : decide ((f.fCols.length : Int) < len f.fCols) = false := by simp [len]
    simp only [Option.bind_some, h1, cond_false]
end Go.Proofs
end
section
namespace Go.Proofs
open Go.Vm
theorem goN_cols (l : List Col) (K : Option Int) : ∀ (d k : Nat), d + k = l.length → ∃ e, goN (colsB l) (some 0) d k = some e ∧ goN (colsB l) K d k = bif e == 0 then K else some e
  | 0, k, h => ⟨0, rfl, rfl⟩
  | d + 1, k, h => by
    have hk : k < l.length := by omega
    obtain ⟨e, h1, h2⟩ := goN_cols l K d (k + 1) (by omega)
    have st : ∀ K', goN (colsB l) K' (d + 1) k = bif colE (l.take k) l[k] == 0 then goN (colsB l) K' d (k + 1) else some (colE (l.take k) l[k]) := fun K' => by
      show colsB l k _ = _
      unfold colsB
      rw [List.getElem?_eq_getElem hk]
    rw [st, st]
    cases hc : colE (l.take k) l[k] == 0
    · exact ⟨_, rfl, by rw [hc]; rfl⟩
    · exact ⟨e, h1, h2⟩
theorem f49_three (n : Nat) (a b c : Int) (h : 10 < n) : f49 n [a, b, c] = some (bif a != 0 then a else bif b != 0 then b else c) := by
  unfold f49
  have := scan0 [a, b, c] f49_k3 (fun x y acc => bif y != 0 then some y else acc) (f49_l7 [a, b, c] f49_k3) (fun m x => rfl) (by simp) 3 0 n (by simp) (by omega)
  refine Eq.trans this ?_
  simp only [List.drop_zero, go0, f49_k3]
  cases ha : (a != 0)
  · cases hb : (b != 0)
    · cases hc : (c != 0)
      · have : c = 0 := by simpa using hc
        subst this; rfl
      · rfl
    · rfl
  · rfl
theorem f50_eq (n : Nat) (x : Bool) (e : Int) : f50 n x e = some (bif x then 0 else e) := by unfold f50; cases x <;> rfl
end Go.Proofs
end
section
namespace Go.Proofs
open Go.Vm
def colsR (l : List Col) : Int := bif decide (len l > 30) then 3 else (goN (colsB l) (some 0) l.length 0).getD 0
def formE (pre : List Form) (f : Form) : Int := bif !classB f.fName then 4 else bif decide (formIx pre f.fName ≥ 0) then 6 else colsR f.fCols
def formsB (l : List Form) (k : Nat) (acc : Option Int) : Option Int := match l[k]? with
  | some f => bif formE (l.take k) f == 0 then acc else some (formE (l.take k) f)
  | none => none
def FormSz (n : Nat) (l : List Form) : Prop := l.length < n ∧ ∀ f ∈ l, f.fName.size < n ∧ f.fCols.length < n ∧ ∀ c ∈ f.fCols, c.fName.size < n
theorem f53_eq {l : List Col} {n : Nat} (hs : ∀ c ∈ l, c.fName.size < n) (h9 : 100 < n) (hn : l.length < n) (hl : l.length < 4611686018427387904) : f53 n l = some (colsR l) := by
  unfold f53 colsR
  rw [f53_l hs h9 hn hl]
  obtain ⟨e, h1, _⟩ := goN_cols l none l.length 0 (by omega)
  cases decide (len l > 30)
  · show goN (colsB l) (some 0) l.length 0 = some ((goN (colsB l) (some 0) l.length 0).getD 0)
    rw [h1]; rfl
  · rfl
theorem f16_l {l : List Form} {K : Option Int} {n : Nat} (hz : FormSz n l) (h9 : 100 < n) (hn : n < 4611686018427387904) : f16_l12 l n K n 0 = goN (formsB l) K l.length 0 := by
  refine scanN l.length K (formsB l) (f16_l12 l n K) (fun m k hk => ?_) (fun m => ?_) (by have := hz.1; omega) l.length 0 n (by omega) hz.1
  · obtain ⟨z1, z2, z3⟩ := hz.2 _ (List.getElem_mem hk)
    have hlen := hz.1
    rw [f16_l12.eq_2]
    have h1 : decide ((k : Int) < len l) = true := by simp [len]; omega
    rw [h1, gi_nat, List.getElem?_eq_getElem hk, sli_take l k (by omega)]
    simp only [cond_true, Option.bind_some]
    rw [f51_eq z1 (by omega), Option.bind_some, f50_eq, Option.bind_some, f52_eq (by rw [List.length_take]; omega) (by rw [List.length_take]; omega), Option.bind_some, f50_eq, Option.bind_some, f53_eq z3 h9 z2 (by omega), Option.bind_some, f49_three n _ _ _ (by omega), Option.bind_some]
    unfold formsB
    rw [List.getElem?_eq_getElem hk]
    show _ = bif formE (l.take k) l[k] == 0 then _ else some (formE (l.take k) l[k])
    unfold formE
    have hlt : decide (formIx (l.take k) l[k].fName < 0) = !decide (formIx (l.take k) l[k].fName ≥ 0) := by
      unfold formIx; rw [ixOf_lt, ixOf_ge]
    rw [hlt]
    cases classB l[k].fName
    · rfl
    · cases decide (formIx (l.take k) l[k].fName ≥ 0)
      · show (bif colsR l[k].fCols != 0 then some (colsR l[k].fCols) else _) = bif colsR l[k].fCols == 0 then _ else some (colsR l[k].fCols)
        unfold bne
        cases colsR l[k].fCols == 0 <;> rfl
      · rfl
  · rw [f16_l12.eq_2]
    have h1 : decide ((l.length : Int) < len l) = false := by simp [len]
    rw [h1]; rfl
end Go.Proofs
end
section
namespace Go.Proofs
open Go.Vm
theorem f17_l {l : List Form} {K : Option Int} {n : Nat} (hz : FormSz n l) (h9 : 100 < n) (hn : n < 4611686018427387904) : f17_l11 l n K n 0 = goN (formsB l) K l.length 0 := by
  refine scanN l.length K (formsB l) (f17_l11 l n K) (fun m k hk => ?_) (fun m => ?_) (by have := hz.1; omega) l.length 0 n (by omega) hz.1
  · obtain ⟨z1, z2, z3⟩ := hz.2 _ (List.getElem_mem hk)
    have hlen := hz.1
    have hg : gi l (k : Int) = some l[k] := by rw [gi_nat, List.getElem?_eq_getElem hk]
    rw [f17_l11.eq_2]
    have h1 : decide ((k : Int) < len l) = true := by simp [len]; omega
    rw [h1]
    simp only [cond_true, hg, Option.bind_some]
    rw [f54_eq z1 h9 (by omega), Option.bind_some, f55_eq hlen (by omega), Option.bind_some]
    rw [f17_cols (K := f17_k125 k (f17_l11 l n K m)) hg z3 (fun c hc => by have := z3 c hc; omega) z2 (by omega)]
    unfold formsB
    rw [List.getElem?_eq_getElem hk]
    show _ = bif formE (l.take k) l[k] == 0 then _ else some (formE (l.take k) l[k])
    unfold formE formIx
    rw [ahead (fun y => sEqF y.fName l[k].fName) l k hk (sEqF_refl _)]
    cases classB l[k].fName
    · rfl
    · cases decide (ixOf (fun y => sEqF y.fName l[k].fName) (l.take k) 0 ≥ 0)
      · unfold colsR
        obtain ⟨e, e1, e2⟩ := goN_cols l[k].fCols (f17_k125 k (f17_l11 l n K m)) l[k].fCols.length 0 (by omega)
        rw [e1, e2]
        cases decide (len l[k].fCols > 30)
        · show (bif e == 0 then _ else some e) = bif e == 0 then _ else some e
          cases e == 0 <;> rfl
        · rfl
      · rfl
  · rw [f17_l11.eq_2]
    have h1 : decide ((l.length : Int) < len l) = false := by simp [len]
    rw [h1]; rfl
end Go.Proofs
end
section
namespace Go.Proofs
open Go.Vm
def refB (L : List Form) (l : List Col) (k : Nat) (acc : Option Int) : Option Int := match l[k]? with
  | some c => bif (c.fKind == 3) && (!(sEqF c.fClass (ByteArray.mk #[65, 78, 89])) && decide (formIx L c.fClass < 0)) then some 5 else acc
  | none => none
def refsB (L : List Form) (k : Nat) (acc : Option Int) : Option Int := match L[k]? with
  | some f => goN (refB L f.fCols) acc f.fCols.length 0
  | none => none
theorem f16_in {L : List Form} {f : Form} {K : Option Int} {n : Nat} (hL : L.length < n) (hf : f.fCols.length < n) (hn : n < 4611686018427387904) : f16_l130 f n L K n 0 = goN (refB L f.fCols) K f.fCols.length 0 := by
  refine scanN f.fCols.length K (refB L f.fCols) (f16_l130 f n L K) (fun m k hk => ?_) (fun m => ?_) (by omega) f.fCols.length 0 n (by omega) hf
  · rw [f16_l130.eq_2]
    have h1 : decide ((k : Int) < len f.fCols) = true := by simp [len]; omega
    rw [h1, gi_nat, List.getElem?_eq_getElem hk]
    simp only [cond_true, Option.bind_some]
    rw [f52_eq hL (by omega)]
    simp only [Option.bind_some, f16_k157]
    unfold refB
    rw [List.getElem?_eq_getElem hk]
    show _ = bif (f.fCols[k].fKind == 3) && (!(sEqF f.fCols[k].fClass (ByteArray.mk #[65, 78, 89])) && decide (formIx L f.fCols[k].fClass < 0)) then _ else _
    cases (f.fCols[k].fKind == 3) <;> cases sEqF f.fCols[k].fClass (ByteArray.mk #[65, 78, 89]) <;> cases decide (formIx L f.fCols[k].fClass < 0) <;> rfl
  · rw [f16_l130.eq_2]
    have h1 : decide ((f.fCols.length : Int) < len f.fCols) = false := by simp [len]
    rw [h1]; rfl
theorem f17_in {L : List Form} {x : Int} {f : Form} {K : Option Int} {n : Nat} (hg : gi L x = some f) (hL : L.length < n) (hf : f.fCols.length < n) (hn : n < 4611686018427387904) : f17_l296 L x n K n 0 = goN (refB L f.fCols) K f.fCols.length 0 := by
  refine scanN f.fCols.length K (refB L f.fCols) (f17_l296 L x n K) (fun m k hk => ?_) (fun m => ?_) (by omega) f.fCols.length 0 n (by omega) hf
  · rw [f17_l296.eq_2, hg]
    have h1 : decide ((k : Int) < len f.fCols) = true := by simp [len]; omega
    simp only [Option.bind_some, h1, cond_true, gi_nat, List.getElem?_eq_getElem hk]
    rw [f55_eq hL (by omega)]
    simp only [Option.bind_some, f17_k333]
    unfold refB
    rw [List.getElem?_eq_getElem hk]
    show _ = bif (f.fCols[k].fKind == 3) && (!(sEqF f.fCols[k].fClass (ByteArray.mk #[65, 78, 89])) && decide (formIx L f.fCols[k].fClass < 0)) then _ else _
    cases (f.fCols[k].fKind == 3) <;> cases sEqF f.fCols[k].fClass (ByteArray.mk #[65, 78, 89]) <;> cases decide (formIx L f.fCols[k].fClass < 0) <;> rfl
  · rw [f17_l296.eq_2, hg]
    have h1 : decide ((f.fCols.length : Int) < len f.fCols) = false := by simp [len]
    simp only [Option.bind_some, h1, cond_false]
theorem f16_l2 {l : List Form} {K : Option Int} {n : Nat} (hz : FormSz n l) (hn : n < 4611686018427387904) : f16_l70 l n K n 0 = goN (refsB l) K l.length 0 := by
  have hlen := hz.1
  refine scanN l.length K (refsB l) (f16_l70 l n K) (fun m k hk => ?_) (fun m => ?_) (by omega) l.length 0 n (by omega) hz.1
  · rw [f16_l70.eq_2]
    have h1 : decide ((k : Int) < len l) = true := by simp [len]; omega
    rw [h1, gi_nat, List.getElem?_eq_getElem hk]
    simp only [cond_true, Option.bind_some]
    rw [f16_in hlen (hz.2 _ (List.getElem_mem hk)).2.1 hn]
    unfold refsB
    rw [List.getElem?_eq_getElem hk]
    rfl
  · rw [f16_l70.eq_2]
    have h1 : decide ((l.length : Int) < len l) = false := by simp [len]
    rw [h1]; rfl
theorem f17_l2 {l : List Form} {K : Option Int} {n : Nat} (hz : FormSz n l) (hn : n < 4611686018427387904) : f17_l232 l n K n 0 = goN (refsB l) K l.length 0 := by
  have hlen := hz.1
  refine scanN l.length K (refsB l) (f17_l232 l n K) (fun m k hk => ?_) (fun m => ?_) (by omega) l.length 0 n (by omega) hz.1
  · have hg : gi l (k : Int) = some l[k] := by rw [gi_nat, List.getElem?_eq_getElem hk]
    rw [f17_l232.eq_2]
    have h1 : decide ((k : Int) < len l) = true := by simp [len]; omega
    rw [h1]
    simp only [cond_true]
    rw [f17_in hg hlen (hz.2 _ (List.getElem_mem hk)).2.1 hn]
    unfold refsB
    rw [List.getElem?_eq_getElem hk]
    rfl
  · rw [f17_l232.eq_2]
    have h1 : decide ((l.length : Int) < len l) = false := by simp [len]
    rw [h1]; rfl
theorem f16_f17 {l : List Form} {n : Nat} (hz : FormSz n l) (h9 : 100 < n) (hn : n < 4611686018427387904) : f16 n l = f17 n l := by
  unfold f16 f17 f16_k8 f17_k8
  rw [f16_l hz h9 hn, f17_l hz h9 hn, f16_l2 hz hn, f17_l2 hz hn]
  rfl
end Go.Proofs
end
section
namespace Go.Proofs
open Go.Vm
end Go.Proofs
end
section
namespace Go.Proofs
open Go.Vm
theorem scanM {α ρ : Type} (l : List α) (K : Option ρ) (p : α → Bool) (e : Option ρ) (L : Nat → Int → Option ρ)
    (hL : ∀ m (k : Nat) (hk : k < l.length), L (m + 1) k = bif p l[k] then e else L m (wr .i64 (k + 1))) (hK : ∀ m, L (m + 1) l.length = K) {n : Nat} (hn : l.length < n) (hl : l.length < 4611686018427387904) : L n 0 = bif l.any p then e else K := by
  have h := scanN l.length K (fun k acc => match l[k]? with | some y => bif p y then e else acc | none => none) L (fun m k hk => by rw [hL m k hk, List.getElem?_eq_getElem hk]) hK hl l.length 0 n (by omega) hn
  refine h.trans ?_
  have key : ∀ (d k : Nat), d + k = l.length → goN (fun k acc => match l[k]? with | some y => bif p y then e else acc | none => none) K d k = bif (l.drop k).any p then e else K := by
    intro d
    induction d with
    | zero =>
      intro k hk
      have : l.drop k = [] := List.drop_eq_nil_of_le (by omega)
      rw [this]; rfl
    | succ d ih =>
      intro k hk
      have hlt : k < l.length := by omega
      rw [List.drop_eq_getElem_cons hlt, List.any_cons]
      show (match l[k]? with | some y => bif p y then e else goN _ K d (k + 1) | none => none) = _
      rw [List.getElem?_eq_getElem hlt]
      show (bif p l[k] then e else goN _ K d (k + 1)) = _
      rw [ih (k + 1) (by omega)]
      cases p l[k] <;> rfl
  exact key l.length 0 (by omega)
end Go.Proofs
end
section
namespace Go.Proofs
open Go.Vm
end Go.Proofs
end
section
namespace Go.Proofs
open Go.Vm
end Go.Proofs
end
section
namespace Go.Proofs
open Go.Vm
end Go.Proofs
end
section
namespace Go.Proofs
open Go.Vm
end Go.Proofs
end
section
namespace Go.Proofs
open Go.Vm
end Go.Proofs
end
section
namespace Go.Proofs
open Go.Vm
theorem goN_tot {ρ : Type} (B : Nat → Option ρ → Option ρ) (N : Nat) (hB : ∀ k acc, k < N → (∃ r, acc = some r) → ∃ r, B k acc = some r) : ∀ (d k : Nat) (K : Option ρ), d + k = N → (∃ r, K = some r) → ∃ r, goN B K d k = some r
  | 0, k, K, _, h => h
  | d + 1, k, K, hk, h => hB k _ (by omega) (goN_tot B N hB d (k + 1) K (by omega) h)
theorem refB_tot (L : List Form) (l : List Col) (K : Option Int) (h : ∃ r, K = some r) : ∃ r, goN (refB L l) K l.length 0 = some r := by
  refine goN_tot (refB L l) l.length (fun k acc hk ⟨r, hr⟩ => ?_) l.length 0 K (by omega) h
  unfold refB
  rw [List.getElem?_eq_getElem hk, hr]
  show ∃ r', (bif _ then some 5 else some r) = some r'
  generalize ((l[k].fKind == 3) && (!(sEqF l[k].fClass (ByteArray.mk #[65, 78, 89])) && decide (formIx L l[k].fClass < 0))) = q
  cases q <;> exact ⟨_, rfl⟩
theorem f16_tot {l : List Form} {n : Nat} (hz : FormSz n l) (h9 : 100 < n) (hn : n < 4611686018427387904) : ∃ e, f16 n l = some e := by
  unfold f16 f16_k8
  rw [f16_l hz h9 hn, f16_l2 hz hn]
  have h2 : ∃ r, goN (refsB l) f16_k66 l.length 0 = some r := by
    refine goN_tot (refsB l) l.length (fun k acc hk h => ?_) l.length 0 _ (by omega) ⟨0, rfl⟩
    unfold refsB
    rw [List.getElem?_eq_getElem hk]
    exact refB_tot l l[k].fCols acc h
  have h1 : ∃ r, goN (formsB l) (goN (refsB l) f16_k66 l.length 0) l.length 0 = some r := by
    refine goN_tot (formsB l) l.length (fun k acc hk ⟨r, hr⟩ => ?_) l.length 0 _ (by omega) h2
    unfold formsB
    rw [List.getElem?_eq_getElem hk, hr]
    show ∃ r', (bif formE (l.take k) l[k] == 0 then some r else some (formE (l.take k) l[k])) = some r'
    cases formE (l.take k) l[k] == 0 <;> exact ⟨_, rfl⟩
  obtain ⟨r, hr⟩ := h1
  rw [hr]
  cases decide (len l > 24) <;> exact ⟨_, rfl⟩
end Go.Proofs
end
section
namespace Go.Proofs
open Go.Vm
end Go.Proofs
end
section
set_option linter.unusedVariables false
namespace Go.Proofs
open Go.Vm
def ANY : ByteArray := ByteArray.mk #[65, 78, 89]
def noS : ByteArray := ByteArray.mk #[]
theorem goN_zero {B : Nat → Option Int → Option Int} (E : Nat → Int) (N : Nat) (hB : ∀ k acc, k < N → B k acc = bif E k == 0 then acc else some (E k)) :
    ∀ (d k : Nat) (K : Option Int), d + k = N → goN B K d k = some 0 → (∀ j, k ≤ j → j < N → E j = 0) ∧ K = some 0
  | 0, k, K, hk, h => ⟨fun j h1 h2 => by omega, h⟩
  | d + 1, k, K, hk, h => by
    have h1 : B k (goN B K d (k + 1)) = some 0 := h
    rw [hB k _ (by omega)] at h1
    cases he : (E k == 0) with
    | false =>
      rw [he] at h1
      simp only [cond_false, Option.some.injEq] at h1
      rw [h1] at he
      cases he
    | true =>
      rw [he] at h1
      obtain ⟨h2, h3⟩ := goN_zero E N hB d (k + 1) K (by omega) h1
      refine ⟨fun j hj hjN => ?_, h3⟩
      by_cases hjk : j = k
      · subst hjk; exact eq_of_beq he
      · exact h2 j (by omega) hjN
structure FormsOk (l : List Form) : Prop where
  len : l.length ≤ 24
  nm : ∀ f ∈ l, classB f.fName = true
  dup : ∀ (k : Nat) (hk : k < l.length), formIx (l.take k) l[k].fName < 0
  cl : ∀ f ∈ l, f.fCols.length ≤ 30
  ce : ∀ f ∈ l, ∀ (k : Nat) (hk : k < f.fCols.length), colE (f.fCols.take k) f.fCols[k] = 0
  rf : ∀ f ∈ l, ∀ c ∈ f.fCols, ((c.fKind == 3) && (!(sEqF c.fClass ANY) && decide (formIx l c.fClass < 0))) = false
theorem colsR_zero {l : List Col} (h : colsR l = 0) : l.length ≤ 30 ∧ ∀ (k : Nat) (hk : k < l.length), colE (l.take k) l[k] = 0 := by
  unfold colsR at h
  cases hd : decide (len l > 30) with
  | true => rw [hd] at h; cases h
  | false =>
    rw [hd] at h
    have hl : l.length ≤ 30 := by
      have := of_decide_eq_false hd
      unfold len at this
      omega
    refine ⟨hl, ?_⟩
    obtain ⟨e, h1, _⟩ := goN_cols l none l.length 0 (by omega)
    have h0 : (goN (colsB l) (some 0) l.length 0).getD 0 = 0 := h
    rw [h1] at h0
    simp only [Option.getD_some] at h0
    subst h0
    have hz := goN_zero (B := colsB l) (fun k => match l[k]? with | some c => colE (l.take k) c | none => 0) l.length (fun k acc hk => by
      unfold colsB
      rw [List.getElem?_eq_getElem hk]) l.length 0 (some 0) (by omega) h1
    intro k hk
    have := hz.1 k (Nat.zero_le _) hk
    simp only [List.getElem?_eq_getElem hk] at this
    exact this
theorem refB_zero {L : List Form} {l : List Col} {K : Option Int} (h : goN (refB L l) K l.length 0 = some 0) :
    (∀ c ∈ l, ((c.fKind == 3) && (!(sEqF c.fClass ANY) && decide (formIx L c.fClass < 0))) = false) ∧ K = some 0 := by
  have hz := goN_zero (B := refB L l) (fun k => match l[k]? with | some c => (bif (c.fKind == 3) && (!(sEqF c.fClass ANY) && decide (formIx L c.fClass < 0)) then 5 else 0) | none => 0) l.length (fun k acc hk => by
      unfold refB
      simp only [List.getElem?_eq_getElem hk]
      show (bif (l[k].fKind == 3) && (!(sEqF l[k].fClass ANY) && decide (formIx L l[k].fClass < 0)) then some 5 else acc) = _
      cases ((l[k].fKind == 3) && (!(sEqF l[k].fClass ANY) && decide (formIx L l[k].fClass < 0))) <;> rfl) l.length 0 K (by omega) h
  refine ⟨fun c hc => ?_, hz.2⟩
  obtain ⟨k, hk, rfl⟩ := List.getElem_of_mem hc
  have := hz.1 k (Nat.zero_le _) hk
  simp only [List.getElem?_eq_getElem hk] at this
  revert this
  cases ((l[k].fKind == 3) && (!(sEqF l[k].fClass ANY) && decide (formIx L l[k].fClass < 0))) <;> intro this
  · rfl
  · cases this
theorem refsB_zero {L : List Form} {K : Option Int} : ∀ (d k : Nat), d + k = L.length → goN (refsB L) K d k = some 0 →
    ∀ j, k ≤ j → (hj : j < L.length) → ∀ c ∈ L[j].fCols, ((c.fKind == 3) && (!(sEqF c.fClass ANY) && decide (formIx L c.fClass < 0))) = false
  | 0, k, hk, h => fun j h1 h2 => by omega
  | d + 1, k, hk, h => by
    have hlt : k < L.length := by omega
    have h1 : refsB L k (goN (refsB L) K d (k + 1)) = some 0 := h
    unfold refsB at h1
    rw [List.getElem?_eq_getElem hlt] at h1
    obtain ⟨h2, h3⟩ := refB_zero h1
    intro j hj hjN
    by_cases hjk : j = k
    · subst hjk; exact h2
    · exact refsB_zero d (k + 1) (by omega) h3 j (by omega) hjN
theorem formsOk_of {n : Nat} {l : List Form} (hz : FormSz n l) (h9 : 100 < n) (hn : n < 4611686018427387904) (h : f16 n l = some 0) : FormsOk l := by
  unfold f16 f16_k8 at h
  rw [f16_l hz h9 hn, f16_l2 hz hn] at h
  cases hd : decide (Go.Vm.len l > 24) with
  | true => rw [hd] at h; cases h
  | false =>
    rw [hd] at h
    simp only [cond_false] at h
    have hl : l.length ≤ 24 := by
      have := of_decide_eq_false hd
      unfold Go.Vm.len at this
      omega
    have hz1 := goN_zero (B := formsB l) (fun k => match l[k]? with | some f => formE (l.take k) f | none => 0) l.length (fun k acc hk => by
      unfold formsB
      simp only [List.getElem?_eq_getElem hk]) l.length 0 _ (by omega) h
    have hf : ∀ (k : Nat) (hk : k < l.length), formE (l.take k) l[k] = 0 := fun k hk => by
      have := hz1.1 k (Nat.zero_le _) hk
      simp only [List.getElem?_eq_getElem hk] at this
      exact this
    have hr := refsB_zero l.length 0 (by omega) hz1.2
    have parts : ∀ (k : Nat) (hk : k < l.length), classB l[k].fName = true ∧ formIx (l.take k) l[k].fName < 0 ∧ colsR l[k].fCols = 0 := fun k hk => by
      have := hf k hk
      unfold formE at this
      cases h1 : classB l[k].fName with
      | false => rw [h1] at this; cases this
      | true =>
        rw [h1] at this
        cases h2 : decide (formIx (l.take k) l[k].fName ≥ 0) with
        | true => rw [h2] at this; cases this
        | false =>
          rw [h2] at this
          have h3 := of_decide_eq_false h2
          exact ⟨rfl, by omega, this⟩
    refine ⟨hl, fun f hf' => ?_, fun k hk => (parts k hk).2.1, fun f hf' => ?_, fun f hf' => ?_, fun f hf' => ?_⟩
    · obtain ⟨k, hk, rfl⟩ := List.getElem_of_mem hf'; exact (parts k hk).1
    · obtain ⟨k, hk, rfl⟩ := List.getElem_of_mem hf'; exact (colsR_zero (parts k hk).2.2).1
    · obtain ⟨k, hk, rfl⟩ := List.getElem_of_mem hf'; exact (colsR_zero (parts k hk).2.2).2
    · obtain ⟨k, hk, rfl⟩ := List.getElem_of_mem hf'; exact hr k (Nat.zero_le _) hk
theorem colE_zero {pre : List Col} {c : Col} (h : colE pre c = 0) : smallB c.fName = true ∧ colIx pre c.fName < 0 ∧ inR c.fKind 1 3 = true ∧ ((c.fKind != 3) = true → sEqF c.fClass noS = true) := by
  unfold colE at h
  cases h1 : smallB c.fName with
  | false => rw [h1] at h; cases h
  | true =>
    rw [h1] at h
    cases h2 : decide (colIx pre c.fName ≥ 0) with
    | true => rw [h2] at h; cases h
    | false =>
      rw [h2] at h
      have h3 := of_decide_eq_false h2
      cases h4 : inR c.fKind 1 3 with
      | false => rw [h4] at h; cases h
      | true =>
        refine ⟨rfl, by omega, rfl, fun h5 => ?_⟩
        rw [h4, h5] at h
        cases h6 : sEqF c.fClass (ByteArray.mk #[]) with
        | false => rw [h6] at h; cases h
        | true => exact h6
theorem FormsOk.col {l : List Form} (h : FormsOk l) {f : Form} (hf : f ∈ l) {c : Col} (hc : c ∈ f.fCols) : smallB c.fName = true ∧ inR c.fKind 1 3 = true ∧ ((c.fKind != 3) = true → sEqF c.fClass noS = true) := by
  obtain ⟨k, hk, rfl⟩ := List.getElem_of_mem hc
  obtain ⟨h1, _, h3, h4⟩ := colE_zero (h.ce f hf k hk)
  exact ⟨h1, h3, h4⟩
theorem ix_find {α : Type} (p : α → Bool) : ∀ (l : List α) (k : Nat), (l.find? p = none ∧ l.any p = false ∧ ixOf p l k = -1) ∨ ∃ (j : Nat) (x : α), l.find? p = some x ∧ l.any p = true ∧ ixOf p l k = ((k + j : Nat) : Int) ∧ l[j]? = some x ∧ p x = true
  | [], k => .inl ⟨rfl, rfl, rfl⟩
  | y :: l, k => by
    cases hy : p y with
    | true => exact .inr ⟨0, y, by simp [hy], by simp [hy], by simp [ixOf, hy], rfl, hy⟩
    | false =>
      rcases ix_find p l (k + 1) with ⟨h1, h2, h3⟩ | ⟨j, x, h1, h2, h3, h4, h5⟩
      · exact .inl ⟨by simp [hy, h1], by simp [hy, h2], by simp [ixOf, hy, h3]⟩
      · exact .inr ⟨j + 1, x, by simp [hy, h1], by simp [hy, h2], by simp only [ixOf, hy, cond_false, h3]; congr 1; omega, by simpa using h4, h5⟩
theorem ix_neg {α : Type} (p : α → Bool) (l : List α) : decide (ixOf p l 0 < 0) = !l.any p := by
  rcases ix_find p l 0 with ⟨h1, h2, h3⟩ | ⟨j, x, h1, h2, h3, h4, h5⟩
  · rw [h2, h3]; rfl
  · rw [h2, h3]
    have : ¬ (((0 + j : Nat) : Int) < 0) := by omega
    exact decide_eq_false this
theorem ix_gi {α : Type} {p : α → Bool} {l : List α} (h : 0 ≤ ixOf p l 0) : ∃ x, l.find? p = some x ∧ gi l (ixOf p l 0) = some x ∧ x ∈ l ∧ p x = true := by
  rcases ix_find p l 0 with ⟨h1, h2, h3⟩ | ⟨j, x, h1, h2, h3, h4, h5⟩
  · rw [h3] at h; omega
  · refine ⟨x, h1, ?_, List.mem_of_getElem? h4, h5⟩
    rw [h3, Nat.zero_add, gi_nat, h4]
theorem sEqF_eq {a b : ByteArray} (h : sEqF a b = true) : a = b := by
  unfold sEqF at h
  have h1 : a.data.toList = b.data.toList := eq_of_beq h
  cases a; cases b
  exact congrArg ByteArray.mk (Array.toList_inj.1 h1)
theorem sEqF_comm (a b : ByteArray) : sEqF a b = sEqF b a := by unfold sEqF; exact Bool.beq_comm
end Go.Proofs
end
section
set_option linter.unusedVariables false
namespace Go.Proofs
open Go.Vm
theorem cs {α : Type} {c : Bool} {x y : α} : (bif c then some x else some y) = some (bif c then x else y) := by cases c <;> rfl
def ruleP (s : ByteArray) (r : Rule) : Bool := sEqF r.fClass s
def hasRule (l : List Rule) (s : ByteArray) : Bool := l.any (ruleP s)
def ruleAt (l : List Rule) (s : ByteArray) : Rule := (l.find? (ruleP s)).getD ⟨noS, noS, []⟩
section
variable {n : Nat} {l : List Rule} {s : ByteArray}
theorem f117_eq (hn : l.length < n) (hl : l.length < 4611686018427387904) : f117 n l s = some (ixOf (ruleP s) l 0) := by
  unfold f117
  have := scan0 l f117_k4 (fun x y acc => bif sEqF y.fClass s then some x else acc) (f117_l8 l n s f117_k4) (fun m x => rfl) hl l.length 0 n (by omega) hn
  exact this.trans (go0_ix (ruleP s) id l 0)
theorem f78_eq (hn : l.length < n) (hl : l.length < 4611686018427387904) : f78 n l s = some (ruleAt l s, hasRule l s) := by
  unfold f78 f81
  rw [f117_eq hn hl]
  simp only [Option.bind_some]
  rw [ix_neg]
  unfold ruleAt hasRule
  rcases ix_find (ruleP s) l 0 with ⟨h1, h2, h3⟩ | ⟨j, x, h1, h2, h3, h4, h5⟩
  · rw [h1, h2]; rfl
  · rw [h1, h2, h3, Nat.zero_add, gi_nat, h4]; rfl
end
def leadsB (l : List Rule) (a b : ByteArray) : Bool := bif sEqF b ANY then true else bif hasRule l a then sEqF (ruleAt l a).fTo b else false
def fitsB (l : List Rule) (g : Give) (a b : Col) : Bool :=
  bif g.fHow == 1 then (bif a.fKind == b.fKind then (bif a.fKind != 3 then true else leadsB l a.fClass b.fClass) else false) else
  bif g.fHow == 2 then (bif a.fKind == 2 then b.fKind == 1 else false) else
  bif g.fHow == 3 then (bif a.fKind == 1 then b.fKind == 2 else false) else
  bif g.fHow == 4 then (bif a.fKind == 1 then b.fKind == 1 else false) else
  bif g.fHow == 5 then (bif a.fKind == 3 then (bif b.fKind == 3 then leadsB l a.fClass b.fClass else false) else false) else
  bif g.fHow == 6 then (bif b.fKind == 1 then true else bif b.fKind == 2 then inR g.fN 0 1 else false) else b.fKind == 3
section
variable {n : Nat} {l : List Rule}
theorem f142_eq {a b : ByteArray} (hn : l.length < n) (hl : l.length < 4611686018427387904) : f142 n l a b = some (leadsB l a b) := by
  unfold f142 leadsB f142_k13
  rw [f78_eq hn hl]
  simp only [Option.bind_some, cs]
  rfl
theorem f141_eq {g : Give} {a b : Col} (hn : l.length < n) (hl : l.length < 4611686018427387904) : f141 n l g a b = some (fitsB l g a b) := by
  unfold f141 fitsB f141_k11 f141_k19 f141_k24 f141_k29 f141_k34 f141_k42
  rw [f142_eq hn hl, f86_eq]
  simp only [Option.bind_some, cs]
end
def noC : Col := ⟨noS, 0, noS⟩
def colAt (l : List Col) (s : ByteArray) : Col := (l.find? fun c => sEqF c.fName s).getD noC
def mostB (g : Give) : Int := bif g.fHow == 4 then 1099511627776 else bif g.fHow == 6 then 1099511627776 else 0
def restBad (g : Give) (to : Col) : Bool := bif !inR g.fN (-mostB g) (mostB g) then true else bif g.fHow == 6 then (bif to.fKind == 2 then !inR g.fN 0 1 else false) else false
def argBad (g : Give) (to : Col) : Bool := bif !inR g.fHow 1 7 then true else bif !inR g.fHow 1 5 then (bif !sEqF g.fFrom noS then true else restBad g to) else restBad g to
def srcOf (cols : List Col) (g : Give) : Col := bif inR g.fHow 1 5 then colAt cols g.fFrom else noC
def giveB (l : List Rule) (g : Give) (cols : List Col) (to : Col) : Int :=
  bif inR g.fHow 1 5 && decide (colIx cols g.fFrom < 0) then 4 else bif argBad g to then 1 else bif fitsB l g (srcOf cols g) to then 0 else 8
section
variable {n : Nat} {l : List Rule}
theorem colAt_gi {cols : List Col} {s : ByteArray} (h : ¬ colIx cols s < 0) : gi cols (colIx cols s) = some (colAt cols s) ∧ colAt cols s ∈ cols ∧ sEqF (colAt cols s).fName s = true := by
  unfold colIx at h ⊢
  obtain ⟨x, h1, h2, h3, h4⟩ := ix_gi (p := fun x : Col => sEqF x.fName s) (l := cols) (by omega)
  have e : colAt cols s = x := by unfold colAt; rw [h1]; rfl
  rw [e]
  exact ⟨h2, h3, h4⟩
theorem f116_eq {g : Give} {cols : List Col} {to : Col} (hn : l.length < n) (hc : cols.length < n) (hn2 : n < 4611686018427387904) : f116 n l g cols to = some (giveB l g cols to) := by
  have hl : l.length < 4611686018427387904 := by omega
  unfold f116
  rw [f95_eq hc (by omega), f86_eq]
  simp only [Option.bind_some]
  have k27 : ∀ (x15 : Bool) (b : Bool), (x15 = inR g.fHow 1 5) → (x15 = true → ¬ colIx cols g.fFrom < 0) → f116_k27 x15 cols (colIx cols g.fFrom) n l g to b = some (bif b then 1 else bif fitsB l g (srcOf cols g) to then 0 else 8) := fun x15 b hx hi => by
    unfold f116_k27
    cases b with
    | true => rfl
    | false =>
      simp only [cond_false]
      unfold srcOf
      rw [← hx]
      cases x15 with
      | true =>
        simp only [cond_true]
        rw [(colAt_gi (hi rfl)).1]
        simp only [Option.bind_some, f116_k52]
        rw [f141_eq hn hl]
        simp only [Option.bind_some, f50_eq]
      | false =>
        simp only [cond_false, f116_k52]
        rw [f141_eq hn hl]
        simp only [Option.bind_some, f50_eq]
        rfl
  have k20 : ∀ (x15 : Bool), (x15 = inR g.fHow 1 5) → (x15 = true → ¬ colIx cols g.fFrom < 0) → f116_k20 n g x15 to cols (colIx cols g.fFrom) l (mostB g) = some (bif argBad g to then 1 else bif fitsB l g (srcOf cols g) to then 0 else 8) := fun x15 hx hi => by
    have hw : wr .i64 (0 - mostB g) = -mostB g := by
      unfold mostB
      cases g.fHow == 4 <;> cases g.fHow == 6 <;> decide
    unfold f116_k20
    rw [hw]
    simp only [f86_eq, Option.bind_some, k27 x15 _ hx hi]
    unfold argBad restBad
    rw [← hx, show noS = ByteArray.mk #[] from rfl]
    cases inR g.fHow 1 7 <;> cases x15 <;> cases sEqF g.fFrom (ByteArray.mk #[]) <;> (try rfl) <;> cases inR g.fN (-mostB g) (mostB g) <;> cases g.fHow == 6 <;> cases to.fKind == 2 <;> rfl
  have k13 : ∀ (x15 : Bool), (x15 = inR g.fHow 1 5) → (x15 = true → ¬ colIx cols g.fFrom < 0) → f116_k13 g n to cols (colIx cols g.fFrom) l x15 false = some (bif argBad g to then 1 else bif fitsB l g (srcOf cols g) to then 0 else 8) := fun x15 hx hi => by
    rw [← k20 x15 hx hi]
    unfold f116_k13 f116_k21 mostB
    cases g.fHow == 4 <;> cases g.fHow == 6 <;> rfl
  unfold giveB
  cases ha : inR g.fHow 1 5 with
  | true =>
    simp only [cond_true, Bool.true_and]
    cases hi : decide (colIx cols g.fFrom < 0) with
    | true => rfl
    | false =>
      have := of_decide_eq_false hi
      exact k13 true ha.symm (fun _ => this)
  | false => exact k13 false ha.symm (fun h => by cases h)
end
end Go.Proofs
end
section
set_option linter.unusedVariables false
namespace Go.Proofs
open Go.Vm
def NoAny (l : List Rule) : Prop := ∀ r ∈ l, sEqF r.fClass ANY = false
structure ColOk (to : Col) : Prop where
  kd : inR to.fKind 1 3 = true
  cl : (to.fKind == 3) = true → sEqF to.fClass ANY = false → sEqF noS to.fClass = false
section
variable {n : Nat} {l : List Rule} {s : ByteArray}
theorem f212_eq (hn : l.length < n) (hl : l.length < 4611686018427387904) : f212 n l s = some (ixOf (ruleP s) l 0) := by
  unfold f212
  have := scan0 l f212_k4 (fun x y acc => bif sEqF y.fClass s then some x else acc) (f212_l7 l s f212_k4) (fun m x => rfl) hl l.length 0 n (by omega) hn
  exact this.trans (go0_ix (ruleP s) id l 0)
theorem f228_eq (hn : l.length < n) (hl : l.length < 4611686018427387904) : f228 n l s = some (ruleAt l s).fTo := by
  unfold f228
  rw [f212_eq hn hl]
  simp only [Option.bind_some]
  rw [ix_neg]
  unfold ruleAt
  rcases ix_find (ruleP s) l 0 with ⟨h1, h2, h3⟩ | ⟨j, x, h1, h2, h3, h4, h5⟩
  · rw [h1, h2]; rfl
  · rw [h1, h2, h3, Nat.zero_add, gi_nat, h4]; rfl
theorem hasRule_any {a : ByteArray} (hna : NoAny l) (h : sEqF a ANY = true) : hasRule l a = false := by
  have := sEqF_eq h
  subst this
  unfold hasRule
  rw [List.any_eq_false]
  intro r hr
  have := hna r hr
  unfold ruleP
  rw [this]; simp
theorem ruleAt_none (h : hasRule l s = false) : ruleAt l s = ⟨noS, noS, []⟩ := by
  unfold ruleAt hasRule at *
  rcases ix_find (ruleP s) l 0 with ⟨h1, h2, h3⟩ | ⟨j, x, h1, h2, h3, h4, h5⟩
  · rw [h1]; rfl
  · rw [h2] at h; cases h
theorem f227_eq {a b : Col} (hn : l.length < n) (hl : l.length < 4611686018427387904) (hna : NoAny l) (hb : sEqF b.fClass ANY = false → sEqF noS b.fClass = false) : f227 n l a b = some (leadsB l a.fClass b.fClass) := by
  unfold f227 leadsB f227_k5
  rw [f228_eq hn hl, show ByteArray.mk #[65, 78, 89] = ANY from rfl]
  simp only [Option.bind_some]
  cases h1 : sEqF b.fClass ANY with
  | true => rfl
  | false =>
    simp only [cond_false]
    cases h2 : sEqF a.fClass ANY with
    | true => rw [hasRule_any hna h2]; rfl
    | false =>
      cases h3 : hasRule l a.fClass with
      | true => rfl
      | false => rw [ruleAt_none h3]; show some (sEqF noS b.fClass) = _; rw [hb h1]; rfl
theorem f217_eq (n : Nat) (x : Int) : f217 n x = some (inR x 1 5) := by unfold f217; rw [f58_eq]; rfl
def numdB (g : Give) (to : Col) : Bool :=
  bif g.fHow == 4 then inR g.fN (-1099511627776) 1099511627776 else
  bif g.fHow == 6 then (bif to.fKind == 2 then (bif sEqF g.fFrom noS then inR g.fN 0 1 else false) else bif sEqF g.fFrom noS then inR g.fN (-1099511627776) 1099511627776 else false) else
  bif g.fHow == 7 then (bif sEqF g.fFrom noS then g.fN == 0 else false) else g.fN == 0
theorem f225_eq (n : Nat) (g : Give) (to : Col) : f225 n g to = some (numdB g to) := by
  unfold f225 numdB f225_k17 f225_k23 f225_k31
  simp only [f58_eq, Option.bind_some, cs]
  rfl
theorem inR0 (x : Int) : inR x 0 0 = (x == 0) := by
  unfold inR
  rw [Bool.eq_iff_iff]
  simp only [Bool.and_eq_true, decide_eq_true_eq, beq_iff_eq]
  omega
theorem argBad_eq (g : Give) (to : Col) : argBad g to = bif !inR g.fHow 1 7 then true else !numdB g to := by
  cases h7 : inR g.fHow 1 7 with
  | false => unfold argBad; rw [h7]; rfl
  | true =>
    have hr : 1 ≤ g.fHow ∧ g.fHow ≤ 7 := by unfold inR at h7; simpa using h7
    have sub : inR g.fN 0 1 = true → inR g.fN (-1099511627776) 1099511627776 = true := fun h => by
      unfold inR at h ⊢
      simp only [Bool.and_eq_true, decide_eq_true_eq] at h ⊢
      omega
    have cases7 : g.fHow = 1 ∨ g.fHow = 2 ∨ g.fHow = 3 ∨ g.fHow = 4 ∨ g.fHow = 5 ∨ g.fHow = 6 ∨ g.fHow = 7 := by omega
    unfold argBad restBad mostB numdB
    rw [h7]
    rcases cases7 with h | h | h | h | h | h | h <;> rw [h]
    · show (bif !inR g.fN 0 0 then true else false) = !(g.fN == 0)
      rw [inR0]; cases (g.fN == 0) <;> rfl
    · show (bif !inR g.fN 0 0 then true else false) = !(g.fN == 0)
      rw [inR0]; cases (g.fN == 0) <;> rfl
    · show (bif !inR g.fN 0 0 then true else false) = !(g.fN == 0)
      rw [inR0]; cases (g.fN == 0) <;> rfl
    · show (bif !inR g.fN (-1099511627776) 1099511627776 then true else false) = !inR g.fN (-1099511627776) 1099511627776
      cases inR g.fN (-1099511627776) 1099511627776 <;> rfl
    · show (bif !inR g.fN 0 0 then true else false) = !(g.fN == 0)
      rw [inR0]; cases (g.fN == 0) <;> rfl
    · show (bif !sEqF g.fFrom noS then true else bif !inR g.fN (-1099511627776) 1099511627776 then true else bif to.fKind == 2 then !inR g.fN 0 1 else false) = !(bif to.fKind == 2 then (bif sEqF g.fFrom noS then inR g.fN 0 1 else false) else bif sEqF g.fFrom noS then inR g.fN (-1099511627776) 1099511627776 else false)
      revert sub
      cases sEqF g.fFrom noS <;> cases inR g.fN (-1099511627776) 1099511627776 <;> cases to.fKind == 2 <;> cases inR g.fN 0 1 <;> intro sub <;> first | rfl | exact nomatch (sub rfl)
    · show (bif !sEqF g.fFrom noS then true else bif !inR g.fN 0 0 then true else false) = !(bif sEqF g.fFrom noS then g.fN == 0 else false)
      rw [inR0]
      cases sEqF g.fFrom noS <;> cases (g.fN == 0) <;> rfl
theorem f226_k7_eq {g : Give} {x to : Col} (hn : l.length < n) (hl : l.length < 4611686018427387904) (hna : NoAny l) (hto : ColOk to) (harg : argBad g to = false) :
    f226_k7 g n l to x.fName x.fKind x.fClass = some (fitsB l g x to) := by
  have h6 : (g.fHow == 6) = true → (to.fKind == 2) = true → inR g.fN 0 1 = true := fun h1 h2 => by
    unfold argBad restBad at harg
    rw [h1, h2] at harg
    have : g.fHow = 6 := eq_of_beq h1
    rw [this] at harg
    revert harg
    show (bif !sEqF g.fFrom noS then true else bif !inR g.fN (-mostB g) (mostB g) then true else !inR g.fN 0 1) = false → _
    cases sEqF g.fFrom noS <;> cases inR g.fN (-mostB g) (mostB g) <;> cases inR g.fN 0 1 <;> intro h <;> first | rfl | cases h
  have hk : to.fKind = 1 ∨ to.fKind = 2 ∨ to.fKind = 3 := by
    have := hto.kd
    unfold inR at this
    simp only [Bool.and_eq_true, decide_eq_true_eq] at this
    omega
  -- 'lead' is asked where it does not matter, too
  by_cases h3 : to.fKind = 3
  · have hb : sEqF to.fClass ANY = false → sEqF noS to.fClass = false := hto.cl (by rw [h3]; rfl)
    unfold f226_k7 fitsB f226_k27 f226_k33 f226_k38 f226_k43 f226_k51
    rw [f227_eq hn hl hna hb, h3]
    simp only [Option.bind_some, cs]
    cases hkx : (x.fKind == 3) with
    | true => have := eq_of_beq hkx; rw [this]; cases g.fHow == 1 <;> cases g.fHow == 2 <;> cases g.fHow == 3 <;> cases g.fHow == 4 <;> cases g.fHow == 5 <;> cases g.fHow == 6 <;> rfl
    | false => cases g.fHow == 1 <;> cases g.fHow == 2 <;> cases g.fHow == 3 <;> cases g.fHow == 4 <;> cases g.fHow == 5 <;> cases g.fHow == 6 <;> (try rfl) <;> cases x.fKind == 1 <;> cases x.fKind == 2 <;> rfl
  · have hne : (to.fKind == 3) = false := by simpa using h3
    have hne2 : (to.fKind != 3) = true := by simp only [bne, hne]; rfl
    have lead : ∃ b, f227 n l ⟨x.fName, x.fKind, x.fClass⟩ to = some b := by
      unfold f227 f227_k5
      rw [f228_eq hn hl]
      cases sEqF to.fClass (ByteArray.mk #[65, 78, 89]) <;> cases sEqF x.fClass (ByteArray.mk #[65, 78, 89]) <;> exact ⟨_, rfl⟩
    obtain ⟨b, hb⟩ := lead
    unfold f226_k7 fitsB f226_k27 f226_k33 f226_k38 f226_k43 f226_k51
    rw [hb, hne, hne2]
    simp only [Option.bind_some, cs, cond_true, cond_false]
    cases h1 : (g.fHow == 1) with
    | true =>
      simp only [cond_true]
      cases hkk : (x.fKind == to.fKind) with
      | true =>
        have := eq_of_beq hkk
        have hx : (x.fKind != 3) = true := by rw [this]; exact hne2
        rw [hx]; rfl
      | false => rfl
    | false =>
      simp only [cond_false]
      cases g.fHow == 2 <;> cases g.fHow == 3 <;> cases g.fHow == 4 <;> cases g.fHow == 5 <;> (try (cases x.fKind == 1 <;> cases x.fKind == 2 <;> cases x.fKind == 3 <;> rfl))
      cases hh : (g.fHow == 6) with
      | false => rfl
      | true =>
        have h6' := h6 hh
        rcases hk with hk | hk | hk
        · rw [hk]; rfl
        · rw [hk]; rw [hk] at h6'; show some true = some (inR g.fN 0 1); rw [h6' rfl]
        · exact absurd hk h3
theorem f219_eq {f : Form} {g : Give} {to : Col} (hn : l.length < n) (hc : f.fCols.length < n) (hn2 : n < 4611686018427387904) (hna : NoAny l) (hto : ColOk to) : f219 n l f g to = some (giveB l g f.fCols to) := by
  have hl : l.length < 4611686018427387904 := by omega
  have k7 : (inR g.fHow 1 5 = true → ¬ colIx f.fCols g.fFrom < 0) → f219_k7 n g to l f false = some (bif argBad g to then 1 else bif fitsB l g (srcOf f.fCols g) to then 0 else 8) := fun hi => by
    unfold f219_k7 f219_k20
    simp only [cond_false]
    rw [f225_eq, f58_eq]
    simp only [Option.bind_some]
    cases h7 : argBad g to with
    | true =>
      have := argBad_eq g to
      rw [h7] at this
      revert this
      cases inR g.fHow 1 7 <;> cases numdB g to <;> intro this <;> first | rfl | cases this
    | false =>
      have := argBad_eq g to
      rw [h7] at this
      have h8 : inR g.fHow 1 7 = true ∧ numdB g to = true := by
        revert this
        cases inR g.fHow 1 7 <;> cases numdB g to <;> intro this <;> first | exact ⟨rfl, rfl⟩ | cases this
      rw [h8.1, h8.2]
      simp only [Bool.not_true, cond_false]
      have h9 : f226 n l f g to = some (fitsB l g (srcOf f.fCols g) to) := by
        unfold f226
        rw [f217_eq]
        simp only [Option.bind_some]
        unfold srcOf
        cases ha : inR g.fHow 1 5 with
        | true =>
          simp only [cond_true]
          rw [f57_eq hc (by omega)]
          simp only [Option.bind_some]
          rw [(colAt_gi (hi ha)).1]
          simp only [Option.bind_some]
          exact f226_k7_eq hn hl hna hto h7
        | false =>
          simp only [cond_false]
          exact f226_k7_eq (x := noC) hn hl hna hto h7
      rw [h9]
      simp only [Option.bind_some]
      cases fitsB l g (srcOf f.fCols g) to <;> rfl
  unfold f219 giveB
  rw [f217_eq]
  simp only [Option.bind_some]
  cases ha : inR g.fHow 1 5 with
  | true =>
    simp only [cond_true, Bool.true_and]
    rw [f57_eq hc (by omega)]
    simp only [Option.bind_some]
    cases hi : decide (colIx f.fCols g.fFrom < 0) with
    | true => rfl
    | false =>
      have := of_decide_eq_false hi
      exact k7 (fun _ => this)
  | false => exact k7 (fun h => by rw [ha] at h; cases h)
end
end Go.Proofs
end
