/- Texts of this claim, one behind the other. -/
import Derived.Test.YtbdgamoicleieaaGreatPce
import Derived.Laws.RangeAny
import Derived.Laws.RangeString
set_option linter.unusedVariables false
set_option linter.unusedSimpArgs false
set_option linter.unnecessarySimpa false
section
set_option linter.unusedVariables false
set_option maxRecDepth 100000
set_option maxHeartbeats 4000000
namespace Go.Proofs
open Go.Vm
attribute [local irreducible] vOps vDraw vC vK retP retH PureSpec HSpec
def f60_k92 (x88 : Int) (c42k : Int → Option Int) : Option Int := (c42k (wr .i64 (x88 + 1)))
def f60_l96 (a1 : Graph) (x88 : Int) (n : Nat) (k92k : Option Int) : Nat → Int → Option Int
  | 0, _ => none
  | m96 + 1, x115 => ((gi a1.fNodes x88).bind fun x118 => (bif (decide (x115 < (len x118.fVals))) then ((gi a1.fNodes x88).bind fun x125 => ((gi x125.fVals x115).bind fun x127 => ((f99 n x127 (len a1.fNodes)).bind fun r129 => (bif (!r129) then some 2 else (f60_l96 a1 x88 n (k92k) m96 (wr .i64 (x115 + 1))))))) else (k92k)))
def f60_k171 (x159 : Int) (c137k : Int → Option Int) (x178 : Bool) : Option Int := (bif x178 then some 2 else (c137k (wr .i64 (x159 + 1))))
def f60_k134 : Option Int := some 0
def f60_l137 (a1 : Graph) (n : Nat) (k134k : Option Int) : Nat → Int → Option Int
  | 0, _ => none
  | m137 + 1, x159 => (bif (decide (x159 < (len a1.fRoots))) then ((gi a1.fRoots x159).bind fun x167 => ((f99 n x167 (len a1.fNodes)).bind fun r169 => (bif (!r169) then (f60_k171 x159 (f60_l137 a1 n (k134k) m137) true) else ((gi a1.fRoots x159).bind fun x173 => (bif (x173.fKind != 3) then ((gi a1.fRoots x159).bind fun x176 => (f60_k171 x159 (f60_l137 a1 n (k134k) m137) (x176.fKind != 4))) else (f60_k171 x159 (f60_l137 a1 n (k134k) m137) false)))))) else (k134k))
def f60_k39 (n : Nat) (a1 : Graph) : Option Int := (f60_l137 a1 n (f60_k134) n 0)
def f60_l42 (a1 : Graph) (n : Nat) (k39k : Option Int) : Nat → Int → Option Int
  | 0, _ => none
  | m42 + 1, x88 => (bif (decide (x88 < (len a1.fNodes))) then (f60_l96 a1 x88 n (f60_k92 x88 (f60_l42 a1 n (k39k) m42)) n 0) else (k39k))
def f60_k12 (n : Nat) (a1 : Graph) : Option Int := (f60_l42 a1 n (f60_k39 n a1) n 0)
def f60_l15 (a1 : Graph) (k12k : Option Int) : Nat → Int → Option Int
  | 0, _ => none
  | m15 + 1, x27 => (bif (decide (x27 < (len a1.fNodes))) then ((gi a1.fNodes x27).bind fun x34 => (bif (decide ((len x34.fVals) > 30)) then some 3 else (f60_l15 a1 (k12k) m15 (wr .i64 (x27 + 1))))) else (k12k))
def f60_k6 (n : Nat) (a1 : Graph) (x9 : Bool) : Option Int := (bif x9 then some 3 else (f60_l15 a1 (f60_k12 n a1) n 0))
def f60 (n : Nat) (a1 : Graph) : Option Int := (bif (decide ((len a1.fNodes) > 400)) then (f60_k6 n a1 true) else (f60_k6 n a1 (decide ((len a1.fRoots) > 60))))
def f60_r (r : Int) : AV := (vI r)
theorem p_f60 {n : Nat} {a1 : Graph} {r : Int} (h : f60 n a1 = some r) : PureSpec Tryz.prog 87 [(.agg [(vL Node.c a1.fNodes), (vL Val.c a1.fRoots)])] (f60_r r) := by
 rw [f60.eq_1] at h
 refine pure_of hmix ic87 ?_
 refine go_to (mkd (.val undef) 97 0 [(0, (.agg [(vL Node.c a1.fNodes), (vL Val.c a1.fRoots)]))]) ?_
 refine s_so fun N2 k2 w2 => ?_
 refine o_h2 [(1, (.ptr 0 0)), (2, (vI 0))] [(some (.box 27 [(vL Node.c a1.fNodes), (vL Val.c a1.fRoots)]))] ?_
 refine o_end (k2 _ ?_)
 refine s_so fun N3 k3 w3 => ?_
 refine o_r2 [(10, (.ptr 0 0)), (11, (vL Node.c a1.fNodes))] ?_
 refine o_o (one_len (f := Node.c) (l := a1.fNodes)) ?_
 refine o_r1 [(3, (vI (len a1.fNodes)))] ?_
 refine o_end (k3 _ ?_)
 refine s_seq fun N5 k5 w5 => ?_
 refine J1 (r := r) (fun (x9 : Bool) => ⟨(mkd .any 97 0 [(1, (.ptr 0 0)), (3, (vI (len a1.fNodes))), (20, (vB x9))]), [(some (.box 27 [(vL Node.c a1.fNodes), (vL Val.c a1.fRoots)]))]⟩) (f60_k6 n a1) ?_ ?_
 · intro x9 h
   rw [f60_k6.eq_1] at h
   refine i_c [20] h (fun h => ?_) (fun h => ?_)
   · refine s_so fun N11 k11 w11 => ?_
     refine o_r1 [(2, (vI 3))] ?_
     refine o_end (k11 _ ?_)
     exact c_ret (rets [] [(vI 3)] [(vI 3)] h)
   · refine c_skip (k5 _ ?_)
     refine J0 (r := r) ⟨(mkd .any 97 0 [(1, (.ptr 0 0)), (3, (vI (len a1.fNodes)))]), [(some (.box 27 [(vL Node.c a1.fNodes), (vL Val.c a1.fRoots)]))]⟩ (f60_k12 n a1) ?_ ?_
     · intro h
       rw [f60_k12.eq_1] at h
       refine J0 (r := r) ⟨(mkd .any 97 0 [(1, (.ptr 0 0)), (3, (vI (len a1.fNodes)))]), [(some (.box 27 [(vL Node.c a1.fNodes), (vL Val.c a1.fRoots)]))]⟩ (f60_k39 n a1) ?_ ?_
       · intro h
         rw [f60_k39.eq_1] at h
         refine J0 (r := r) ⟨(mkd .any 97 0 []), []⟩ (f60_k134) ?_ ?_
         · intro h
           rw [f60_k134.eq_1] at h
           refine s_so fun N181 k181 w181 => ?_
           refine o_r1 [(2, (vI 0))] ?_
           refine o_end (k181 _ ?_)
           exact c_ret (rets [] [(vI 0)] [(vI 0)] h)
         · intro N134 w134
           refine s_so fun N135 k135 w135 => ?_
           refine o_r1 [(8, (vI 0))] ?_
           refine o_end (k135 _ ?_)
           refine c_block fun E136 hE136 hO136 => ?_
           refine W1 (fun (x159 : Int) => ⟨(mkd .any 97 0 [(1, (.ptr 0 0)), (3, (vI (len a1.fNodes))), (8, (vI x159))]), [(some (.box 27 [(vL Node.c a1.fNodes), (vL Val.c a1.fRoots)]))]⟩) (f60_l137 a1 n (f60_k134)) h (wkm [1, 3, 8] (whk wh_nil)) (by intros; rw [f60_l137.eq_1]) ?_
           intro m137 x159 h N137 w137
           rw [f60_l137.eq_2] at h
           refine s_seq fun N160 k160 w160 => ?_
           refine s_so fun N161 k161 w161 => ?_
           refine o_r3 [(63, (vI x159)), (64, (.ptr 0 1)), (65, (vL Val.c a1.fRoots))] ?_
           refine o_o (one_len (f := Val.c) (l := a1.fRoots)) ?_
           refine o_r1 [(67, (vB (decide (x159 < (len a1.fRoots)))))] ?_
           refine o_end (k161 _ ?_)
           refine i_c [67] h (fun h => ?_) (fun h => ?_)
           · refine c_skip (k160 _ ?_)
             refine s_seq fun N164 k164 w164 => ?_
             refine c_block fun E165 hE165 hO165 => ?_
             refine s_so fun N166 k166 w166 => ?_
             refine o_r3 [(70, (.ptr 0 1)), (71, (vL Val.c a1.fRoots)), (72, (vI x159))] ?_
             refine bnd h fun x167 g168 h => ?_
             refine o_o (one_ia (f := Val.c) (ki := .i64) g168) ?_
             refine o_r2 [(74, (.agg [(vI x167.fKind), (vI x167.fN)])), (75, (vI (len a1.fNodes)))] ?_
             refine bnd h fun r169 g170 h => ?_
             refine o_o (one_call (p_f99 g170)) ?_
             refine o_r1 [(9, (vB r169))] ?_
             refine o_end (k166 _ ?_)
             refine J1 (r := r) (fun (x178 : Bool) => ⟨(mkd .any 97 0 [(1, (.ptr 0 0)), (3, (vI (len a1.fNodes))), (8, (vI x159)), (96, (vB x178))]), [(some (.box 27 [(vL Node.c a1.fNodes), (vL Val.c a1.fRoots)]))]⟩) (f60_k171 x159 (f60_l137 a1 n (f60_k134) m137)) ?_ ?_
             · intro x178 h
               rw [f60_k171.eq_1] at h
               refine i_c [96] h (fun h => ?_) (fun h => ?_)
               · refine s_so fun N180 k180 w180 => ?_
                 refine o_r1 [(2, (vI 2))] ?_
                 refine o_end (k180 _ ?_)
                 exact c_ret (rets [] [(vI 2)] [(vI 2)] h)
               · refine c_skip (k164 _ ?_)
                 refine c_ops ?_
                 refine o_r3 [(8, (vI (wr .i64 (x159 + 1)))), (68, (vI x159)), (69, (vI (wr .i64 (x159 + 1))))] ?_
                 exact o_end (w137 _ _ (wkm [1, 3, 8] (whk wh_nil)) h)
             · intro N171 w171
               refine c_ops ?_
               refine o_r3 [(77, (vB r169)), (78, (vB (!r169))), (79, (vB (!r169)))] ?_
               refine i_o [78, 79] h (fun h => ?_) (fun h => ?_)
               · refine o_r16 [(80, (.val undef)), (81, (.val undef)), (82, (.val undef)), (83, (.val undef)), (84, (.val undef)), (85, (.val undef)), (86, (.val undef)), (87, (.val undef)), (88, (.val undef)), (89, (.val undef)), (90, (.val undef)), (91, (.val undef)), (92, (.val undef)), (93, (.val undef)), (94, (.val undef)), (95, (.val undef))] ?_
                 refine s_tm (mkd .any 97 0 [(1, (.ptr 0 0)), (3, (vI (len a1.fNodes))), (8, (vI x159)), (9, (vB r169)), (63, (vI x159)), (64, (.ptr 0 1)), (65, (vL Val.c a1.fRoots)), (66, (vI (len a1.fRoots))), (67, (vB true)), (70, (.ptr 0 1)), (71, (vL Val.c a1.fRoots)), (72, (vI x159)), (73, (.iptr [(vI x167.fKind), (vI x167.fN)])), (74, (.agg [(vI x167.fKind), (vI x167.fN)])), (75, (vI (len a1.fNodes))), (76, (vB r169)), (77, (vB r169)), (78, (vB true)), (79, (vB true)), (80, (.val undef)), (81, (.val undef)), (82, (.val undef)), (83, (.val undef)), (84, (.val undef)), (85, (.val undef)), (86, (.val undef)), (87, (.val undef)), (88, (.val undef)), (89, (.val undef)), (90, (.val undef)), (91, (.val undef)), (92, (.val undef)), (93, (.val undef)), (94, (.val undef)), (95, (.val undef))]) ?_
                 refine o_r1 [(96, (vB true))] ?_
                 refine s_tm (mkd .any 97 0 [(1, (.ptr 0 0)), (3, (vI (len a1.fNodes))), (8, (vI x159)), (9, (vB r169)), (63, (vI x159)), (64, (.ptr 0 1)), (65, (vL Val.c a1.fRoots)), (66, (vI (len a1.fRoots))), (67, (vB true)), (70, (.ptr 0 1)), (71, (vL Val.c a1.fRoots)), (72, (vI x159)), (73, (.iptr [(vI x167.fKind), (vI x167.fN)])), (74, (.agg [(vI x167.fKind), (vI x167.fN)])), (75, (vI (len a1.fNodes))), (76, (vB r169)), (77, (vB r169)), (78, (vB true)), (79, (vB true)), (80, (.val undef)), (81, (.val undef)), (82, (.val undef)), (83, (.val undef)), (84, (.val undef)), (85, (.val undef)), (86, (.val undef)), (87, (.val undef)), (88, (.val undef)), (89, (.val undef)), (90, (.val undef)), (91, (.val undef)), (92, (.val undef)), (93, (.val undef)), (94, (.val undef)), (95, (.val undef)), (96, (vB true))]) ?_
                 exact o_end (w171 _ _ (wkm [1, 3, 8, 96] (whk wh_nil)) h)
               · refine o_r3 [(80, (.ptr 0 1)), (81, (vL Val.c a1.fRoots)), (82, (vI x159))] ?_
                 refine s_tm (mkd .any 97 0 [(1, (.ptr 0 0)), (3, (vI (len a1.fNodes))), (8, (vI x159)), (9, (vB r169)), (63, (vI x159)), (64, (.ptr 0 1)), (65, (vL Val.c a1.fRoots)), (66, (vI (len a1.fRoots))), (67, (vB true)), (70, (.ptr 0 1)), (71, (vL Val.c a1.fRoots)), (72, (vI x159)), (73, (.iptr [(vI x167.fKind), (vI x167.fN)])), (74, (.agg [(vI x167.fKind), (vI x167.fN)])), (75, (vI (len a1.fNodes))), (76, (vB r169)), (77, (vB r169)), (78, (vB false)), (79, (vB false)), (80, (.ptr 0 1)), (81, (vL Val.c a1.fRoots)), (82, (vI x159))]) ?_
                 refine bnd h fun x173 g174 h => ?_
                 refine o_g ?_
                 refine o_o (one_ia (f := Val.c) (ki := .i64) g174) ?_
                 refine o_r4 [(84, (.iptr [(vI x173.fKind), (vI x173.fN)])), (85, (vI x173.fKind)), (86, (vB (x173.fKind != 3))), (87, (vB (x173.fKind != 3)))] ?_
                 refine i_o [86, 87] h (fun h => ?_) (fun h => ?_)
                 · refine o_r3 [(88, (.ptr 0 1)), (89, (vL Val.c a1.fRoots)), (90, (vI x159))] ?_
                   refine bnd h fun x176 g177 h => ?_
                   refine o_g ?_
                   refine o_o (one_ia (f := Val.c) (ki := .i64) g177) ?_
                   refine o_r5 [(92, (.iptr [(vI x176.fKind), (vI x176.fN)])), (93, (vI x176.fKind)), (94, (vB (x176.fKind != 4))), (95, (vB (x176.fKind != 4))), (96, (vB (x176.fKind != 4)))] ?_
                   exact o_end (w171 _ _ (wkm [1, 3, 8, 96] (whk wh_nil)) h)
                 · refine o_r9 [(88, (.val undef)), (89, (.val undef)), (90, (.val undef)), (91, (.val undef)), (92, (.val undef)), (93, (.val undef)), (94, (.val undef)), (95, (vB false)), (96, (vB false))] ?_
                   exact o_end (w171 _ _ (wkm [1, 3, 8, 96] (whk wh_nil)) h)
           · refine c_exit (hE136 _ ?_)
             exact w134 _ (wkm [] wh_nil) h
       · intro N39 w39
         refine s_so fun N40 k40 w40 => ?_
         refine o_r1 [(5, (vI 0))] ?_
         refine o_end (k40 _ ?_)
         refine c_block fun E41 hE41 hO41 => ?_
         refine W1 (fun (x88 : Int) => ⟨(mkd .any 97 0 [(1, (.ptr 0 0)), (3, (vI (len a1.fNodes))), (5, (vI x88))]), [(some (.box 27 [(vL Node.c a1.fNodes), (vL Val.c a1.fRoots)]))]⟩) (f60_l42 a1 n (f60_k39 n a1)) h (wkm [1, 3, 5] (whk wh_nil)) (by intros; rw [f60_l42.eq_1]) ?_
         intro m42 x88 h N42 w42
         rw [f60_l42.eq_2] at h
         refine s_seq fun N89 k89 w89 => ?_
         refine s_so fun N90 k90 w90 => ?_
         refine o_r3 [(34, (vI x88)), (35, (vI (len a1.fNodes))), (36, (vB (decide (x88 < (len a1.fNodes)))))] ?_
         refine o_end (k90 _ ?_)
         refine i_c [36] h (fun h => ?_) (fun h => ?_)
         · refine c_skip (k89 _ ?_)
           refine J0 (r := r) ⟨(mkd .any 97 0 [(1, (.ptr 0 0)), (3, (vI (len a1.fNodes))), (5, (vI x88))]), [(some (.box 27 [(vL Node.c a1.fNodes), (vL Val.c a1.fRoots)]))]⟩ (f60_k92 x88 (f60_l42 a1 n (f60_k39 n a1) m42)) ?_ ?_
           · intro h
             rw [f60_k92.eq_1] at h
             refine c_ops ?_
             refine o_r3 [(5, (vI (wr .i64 (x88 + 1)))), (37, (vI x88)), (38, (vI (wr .i64 (x88 + 1))))] ?_
             exact o_end (w42 _ _ (wkm [1, 3, 5] (whk wh_nil)) h)
           · intro N92 w92
             refine c_block fun E93 hE93 hO93 => ?_
             refine s_so fun N94 k94 w94 => ?_
             refine o_r1 [(6, (vI 0))] ?_
             refine o_end (k94 _ ?_)
             refine c_block fun E95 hE95 hO95 => ?_
             refine W1 (fun (x115 : Int) => ⟨(mkd .any 97 0 [(1, (.ptr 0 0)), (3, (vI (len a1.fNodes))), (5, (vI x88)), (6, (vI x115))]), [(some (.box 27 [(vL Node.c a1.fNodes), (vL Val.c a1.fRoots)]))]⟩) (f60_l96 a1 x88 n (f60_k92 x88 (f60_l42 a1 n (f60_k39 n a1) m42))) h (wkm [1, 3, 5, 6] (whk wh_nil)) (by intros; rw [f60_l96.eq_1]) ?_
             intro m96 x115 h N96 w96
             rw [f60_l96.eq_2] at h
             refine s_seq fun N116 k116 w116 => ?_
             refine s_so fun N117 k117 w117 => ?_
             refine o_r4 [(39, (vI x115)), (40, (.ptr 0 0)), (41, (vL Node.c a1.fNodes)), (42, (vI x88))] ?_
             refine bnd h fun x118 g119 h => ?_
             refine o_o (one_ia (f := Node.c) (ki := .i64) g119) ?_
             refine o_r2 [(44, (.iptr [(vL Val.c x118.fVals)])), (45, (vL Val.c x118.fVals))] ?_
             refine o_o (one_len (f := Val.c) (l := x118.fVals)) ?_
             refine o_r1 [(47, (vB (decide (x115 < (len x118.fVals)))))] ?_
             refine o_end (k117 _ ?_)
             refine i_c [47] h (fun h => ?_) (fun h => ?_)
             · refine c_skip (k116 _ ?_)
               refine s_seq fun N122 k122 w122 => ?_
               refine c_block fun E123 hE123 hO123 => ?_
               refine s_so fun N124 k124 w124 => ?_
               refine o_r3 [(50, (.ptr 0 0)), (51, (vL Node.c a1.fNodes)), (52, (vI x88))] ?_
               refine bnd h fun x125 g126 h => ?_
               refine o_o (one_ia (f := Node.c) (ki := .i64) g126) ?_
               refine o_r3 [(54, (.iptr [(vL Val.c x125.fVals)])), (55, (vL Val.c x125.fVals)), (56, (vI x115))] ?_
               refine bnd h fun x127 g128 h => ?_
               refine o_o (one_ia (f := Val.c) (ki := .i64) g128) ?_
               refine o_r2 [(58, (.agg [(vI x127.fKind), (vI x127.fN)])), (59, (vI (len a1.fNodes)))] ?_
               refine bnd h fun r129 g130 h => ?_
               refine o_o (one_call (p_f99 g130)) ?_
               refine o_r1 [(7, (vB r129))] ?_
               refine s_tm (mkd .any 97 0 [(1, (.ptr 0 0)), (3, (vI (len a1.fNodes))), (5, (vI x88)), (6, (vI x115)), (7, (vB r129)), (39, (vI x115)), (40, (.ptr 0 0)), (41, (vL Node.c a1.fNodes)), (42, (vI x88)), (43, (.iptr [(vS x118.fClass), (vL Val.c x118.fVals)])), (44, (.iptr [(vL Val.c x118.fVals)])), (45, (vL Val.c x118.fVals)), (46, (vI (len x118.fVals))), (47, (vB true)), (50, (.ptr 0 0)), (51, (vL Node.c a1.fNodes)), (52, (vI x88)), (53, (.iptr [(vS x125.fClass), (vL Val.c x125.fVals)])), (54, (.iptr [(vL Val.c x125.fVals)])), (55, (vL Val.c x125.fVals)), (56, (vI x115)), (57, (.iptr [(vI x127.fKind), (vI x127.fN)])), (58, (.agg [(vI x127.fKind), (vI x127.fN)])), (59, (vI (len a1.fNodes))), (60, (vB r129))]) ?_
               refine o_end (w124 _ ⟨(mkd .any 97 0 [(1, (.ptr 0 0)), (3, (vI (len a1.fNodes))), (5, (vI x88)), (6, (vI x115)), (7, (vB r129))]), [(some (.box 27 [(vL Node.c a1.fNodes), (vL Val.c a1.fRoots)]))]⟩ (wkm [1, 3, 5, 6, 7] (whk wh_nil)) ?_)
               refine s_so fun N131 k131 w131 => ?_
               refine o_r2 [(61, (vB r129)), (62, (vB (!r129)))] ?_
               refine o_end (k131 _ ?_)
               refine i_c [62] h (fun h => ?_) (fun h => ?_)
               · refine s_so fun N133 k133 w133 => ?_
                 refine o_r1 [(2, (vI 2))] ?_
                 refine o_end (k133 _ ?_)
                 exact c_ret (rets [] [(vI 2)] [(vI 2)] h)
               · refine c_skip (k122 _ ?_)
                 refine c_ops ?_
                 refine o_r3 [(6, (vI (wr .i64 (x115 + 1)))), (48, (vI x115)), (49, (vI (wr .i64 (x115 + 1))))] ?_
                 exact o_end (w96 _ _ (wkm [1, 3, 5, 6] (whk wh_nil)) h)
             · refine c_exit (hE95 _ ?_)
               exact w92 _ (wkm [1, 3, 5] (whk wh_nil)) h
         · refine c_exit (hE41 _ ?_)
           exact w39 _ (wkm [1, 3] (whk wh_nil)) h
     · intro N12 w12
       refine s_so fun N13 k13 w13 => ?_
       refine o_r1 [(4, (vI 0))] ?_
       refine o_end (k13 _ ?_)
       refine c_block fun E14 hE14 hO14 => ?_
       refine W1 (fun (x27 : Int) => ⟨(mkd .any 97 0 [(1, (.ptr 0 0)), (3, (vI (len a1.fNodes))), (4, (vI x27))]), [(some (.box 27 [(vL Node.c a1.fNodes), (vL Val.c a1.fRoots)]))]⟩) (f60_l15 a1 (f60_k12 n a1)) h (wkm [1, 3, 4] (whk wh_nil)) (by intros; rw [f60_l15.eq_1]) ?_
       intro m15 x27 h N15 w15
       rw [f60_l15.eq_2] at h
       refine s_seq fun N28 k28 w28 => ?_
       refine s_so fun N29 k29 w29 => ?_
       refine o_r3 [(21, (vI x27)), (22, (vI (len a1.fNodes))), (23, (vB (decide (x27 < (len a1.fNodes)))))] ?_
       refine o_end (k29 _ ?_)
       refine i_c [23] h (fun h => ?_) (fun h => ?_)
       · refine c_skip (k28 _ ?_)
         refine s_seq fun N31 k31 w31 => ?_
         refine c_block fun E32 hE32 hO32 => ?_
         refine s_so fun N33 k33 w33 => ?_
         refine o_r3 [(26, (.ptr 0 0)), (27, (vL Node.c a1.fNodes)), (28, (vI x27))] ?_
         refine bnd h fun x34 g35 h => ?_
         refine o_o (one_ia (f := Node.c) (ki := .i64) g35) ?_
         refine o_r2 [(30, (.iptr [(vL Val.c x34.fVals)])), (31, (vL Val.c x34.fVals))] ?_
         refine o_o (one_len (f := Val.c) (l := x34.fVals)) ?_
         refine o_r1 [(33, (vB (decide ((len x34.fVals) > 30))))] ?_
         refine o_end (k33 _ ?_)
         refine i_c [33] h (fun h => ?_) (fun h => ?_)
         · refine s_so fun N38 k38 w38 => ?_
           refine o_r1 [(2, (vI 3))] ?_
           refine o_end (k38 _ ?_)
           exact c_ret (rets [] [(vI 3)] [(vI 3)] h)
         · refine c_skip (k31 _ ?_)
           refine c_ops ?_
           refine o_r3 [(4, (vI (wr .i64 (x27 + 1)))), (24, (vI x27)), (25, (vI (wr .i64 (x27 + 1))))] ?_
           exact o_end (w15 _ _ (wkm [1, 3, 4] (whk wh_nil)) h)
       · refine c_exit (hE14 _ ?_)
         exact w12 _ (wkm [1, 3] (whk wh_nil)) h
 · intro N6 w6
   refine c_ops ?_
   refine o_r3 [(13, (vI (len a1.fNodes))), (14, (vB (decide ((len a1.fNodes) > 400)))), (15, (vB (decide ((len a1.fNodes) > 400))))] ?_
   refine i_o [14, 15] h (fun h => ?_) (fun h => ?_)
   · refine o_r5 [(16, (.val undef)), (17, (.val undef)), (18, (.val undef)), (19, (.val undef)), (20, (vB true))] ?_
     exact o_end (w6 _ _ (wkm [1, 3, 20] (whk wh_nil)) h)
   · refine o_r2 [(16, (.ptr 0 1)), (17, (vL Val.c a1.fRoots))] ?_
     refine o_g ?_
     refine o_o (one_len (f := Val.c) (l := a1.fRoots)) ?_
     refine o_r2 [(19, (vB (decide ((len a1.fRoots) > 60)))), (20, (vB (decide ((len a1.fRoots) > 60))))] ?_
     exact o_end (w6 _ _ (wkm [1, 3, 20] (whk wh_nil)) h)
theorem ic88 : fnIC Tryz.prog H0 88 = some ([.tmp 6], 43, (.seq (.ops [zO 3 (.box 0 68 [] (.t 0)), zO 4 (.box 0 84 [] (.t 1)), zO 5 (.box 0 27 [(0, 73, 2, 0), (1, 84, 2, 0)] (.t 2)), zO 6 (.mov (.c (.bool false)))]) (.seq (.seq (.ops [zO 7 (.faddr (.t 3) 1), zO 8 (.ld (.t 7) 1 false)]) (.block 0 (.seq (.ops [zO 10 (.sc (.bin .eql 3) [(.t 8), (.c (.int .i64 1))]), zM 9 10]) (.cond (.t 9)
  (.seq (.ops [zO 11 (.faddr (.t 4) 0), zO 12 (.ld (.t 11) 1 false), zO 13 (.sc (.bin .eql 3) [(.t 12), (.c (.int .i64 1))]), zM 6 13]) .ret)
  (.seq (.ops [zO 15 (.sc (.bin .eql 3) [(.t 8), (.c (.int .i64 2))]), zM 14 15]) (.cond (.t 14)
  (.seq (.ops [zO 16 (.faddr (.t 4) 0), zO 17 (.ld (.t 16) 1 false), zO 18 (.sc (.bin .eql 3) [(.t 17), (.c (.int .i64 2))]), zM 6 18]) .ret)
  .skip)))))) (.seq (.seq (.ops [zO 19 (.faddr (.t 4) 0), zO 20 (.ld (.t 19) 1 false), zO 21 (.sc (.bin .eql 3) [(.t 20), (.c (.int .i64 3))])]) (.cond (.t 21)
  (.seq (.ops [zO 6 (.mov (.c (.bool true)))]) .ret)
  .skip)) (.seq (.draw [] [zQ (zO 22 (.faddr (.t 4) 0)), zQ (zO 23 (.ld (.t 22) 1 false)), zQ (zO 24 (.sc (.bin .eql 3) [(.t 23), (.c (.int .i64 4))])), zQ (zM 25 24), zQ (zG 26 25 true (.faddr (.t 3) 2)), zQ (zG 27 25 true (.ld (.t 26) 1 false)), zQ (zG 28 25 true (.sc (.bin .eql 9) [(.t 27), (.c (.string ⟨#[65, 78, 89]⟩))])), zQ (zN 29 25 true 28), zQ (zG 30 29 false (.faddr (.t 5) 0)), zQ (zG 31 29 false (.ld (.t 30) 1 false)), zQ (zG 32 29 false (.faddr (.t 4) 1)), zQ (zG 33 29 false (.ld (.t 32) 1 false)), zQ (zG 34 29 false (.sc .mx [(.c (.int .i64 0)), (.t 33)])), zQ (zG 35 29 false (.iaddr 2 (.t 31) (.t 34))), zQ (zG 36 29 false (.faddr (.t 35) 0)), zQ (zG 37 29 false (.ld (.t 36) 1 false)), zQ (zG 38 29 false (.faddr (.t 3) 2)), zQ (zG 39 29 false (.ld (.t 38) 1 false)), zQ (zG 40 29 false (.sc (.bin .eql 9) [(.t 37), (.t 39)])), zQ (zG 41 25 true (.pick (.t 29) (.c (.bool true)) (.t 40))), zQ (zO 42 (.pick (.t 25) (.t 41) (.c (.bool false)))), zQ (zM 6 42)]) .ret))))) := by kernel_rfl
def f61_k18 (x25 : Bool) : Option Bool := some x25
def f61 (n : Nat) (a1 : Col) (a2 : Val) (a3 : Graph) : Option Bool := (bif (a1.fKind == 1) then some (a2.fKind == 1) else (bif (a1.fKind == 2) then some (a2.fKind == 2) else (bif (a2.fKind == 3) then some true else (bif (a2.fKind == 4) then (bif (sEqF a1.fClass (ByteArray.mk #[65, 78, 89])) then (f61_k18 true) else ((gi a3.fNodes (mxI 0 a2.fN)).bind fun x22 => (f61_k18 (sEqF x22.fClass a1.fClass)))) else (f61_k18 false)))))
def f61_r (r : Bool) : AV := (vB r)
theorem p_f61 {n : Nat} {a1 : Col} {a2 : Val} {a3 : Graph} {r : Bool} (h : f61 n a1 a2 a3 = some r) : PureSpec Tryz.prog 88 [(.agg [(vS a1.fName), (vI a1.fKind), (vS a1.fClass)]), (.agg [(vI a2.fKind), (vI a2.fN)]), (.agg [(vL Node.c a3.fNodes), (vL Val.c a3.fRoots)])] (f61_r r) := by
 rw [f61.eq_1] at h
 refine pure_of hmix ic88 ?_
 refine go_to (mkd (.val undef) 43 0 [(0, (.agg [(vS a1.fName), (vI a1.fKind), (vS a1.fClass)])), (1, (.agg [(vI a2.fKind), (vI a2.fN)])), (2, (.agg [(vL Node.c a3.fNodes), (vL Val.c a3.fRoots)]))]) ?_
 refine s_so fun N4 k4 w4 => ?_
 refine o_h4 [(3, (.ptr 0 0)), (4, (.ptr 1 0)), (5, (.ptr 2 0)), (6, (vB false))] [(some (.box 68 [(vS a1.fName), (vI a1.fKind), (vS a1.fClass)])), (some (.box 84 [(vI a2.fKind), (vI a2.fN)])), (some (.box 27 [(vL Node.c a3.fNodes), (vL Val.c a3.fRoots)]))] ?_
 refine o_end (k4 _ ?_)
 refine s_seq fun N5 k5 w5 => ?_
 refine s_so fun N6 k6 w6 => ?_
 refine o_r2 [(7, (.ptr 0 1)), (8, (vI a1.fKind))] ?_
 refine o_end (k6 _ ?_)
 refine c_block fun E7 hE7 hO7 => ?_
 refine s_so fun N8 k8 w8 => ?_
 refine o_r2 [(9, (vB (a1.fKind == 1))), (10, (vB (a1.fKind == 1)))] ?_
 refine o_end (k8 _ ?_)
 refine i_c [9, 10] h (fun h => ?_) (fun h => ?_)
 · refine s_so fun N10 k10 w10 => ?_
   refine o_r4 [(6, (vB (a2.fKind == 1))), (11, (.ptr 1 0)), (12, (vI a2.fKind)), (13, (vB (a2.fKind == 1)))] ?_
   refine o_end (k10 _ ?_)
   exact c_ret (rets [] [(vB (a2.fKind == 1))] [(vB (a2.fKind == 1))] h)
 · refine s_so fun N11 k11 w11 => ?_
   refine o_r2 [(14, (vB (a1.fKind == 2))), (15, (vB (a1.fKind == 2)))] ?_
   refine o_end (k11 _ ?_)
   refine i_c [14, 15] h (fun h => ?_) (fun h => ?_)
   · refine s_so fun N13 k13 w13 => ?_
     refine o_r4 [(6, (vB (a2.fKind == 2))), (16, (.ptr 1 0)), (17, (vI a2.fKind)), (18, (vB (a2.fKind == 2)))] ?_
     refine o_end (k13 _ ?_)
     exact c_ret (rets [] [(vB (a2.fKind == 2))] [(vB (a2.fKind == 2))] h)
   · refine c_skip (k5 _ ?_)
     refine s_seq fun N14 k14 w14 => ?_
     refine s_so fun N15 k15 w15 => ?_
     refine o_r3 [(19, (.ptr 1 0)), (20, (vI a2.fKind)), (21, (vB (a2.fKind == 3)))] ?_
     refine o_end (k15 _ ?_)
     refine i_c [21] h (fun h => ?_) (fun h => ?_)
     · refine s_so fun N17 k17 w17 => ?_
       refine o_r1 [(6, (vB true))] ?_
       refine o_end (k17 _ ?_)
       exact c_ret (rets [] [(vB true)] [(vB true)] h)
     · refine c_skip (k14 _ ?_)
       refine J1 (r := r) (fun (x25 : Bool) => ⟨(mkd .any 43 0 [(6, (vB x25))]), []⟩) (f61_k18) ?_ ?_
       · intro x25 h
         rw [f61_k18.eq_1] at h
         exact c_ret (rets [] [(vB x25)] [(vB x25)] h)
       · intro N18 w18
         refine c_draw0 ?_
         refine d_r4 [(22, (.ptr 1 0)), (23, (vI a2.fKind)), (24, (vB (a2.fKind == 4))), (25, (vB (a2.fKind == 4)))] ?_
         refine i_d [24, 25] h (fun h => ?_) (fun h => ?_)
         · refine d_r2 [(26, (.ptr 0 2)), (27, (vS a1.fClass))] ?_
           refine d_g (one_sc (vs := [.string a1.fClass, .string (ByteArray.mk #[65, 78, 89])]) (str_eql a1.fClass (ByteArray.mk #[65, 78, 89]))) ?_
           refine d_r1 [(29, (vB (sEqF a1.fClass (ByteArray.mk #[65, 78, 89]))))] ?_
           refine t_tm (mkd (.val undef) 43 0 [(0, (.agg [(vS a1.fName), (vI a1.fKind), (vS a1.fClass)])), (1, (.agg [(vI a2.fKind), (vI a2.fN)])), (2, (.agg [(vL Node.c a3.fNodes), (vL Val.c a3.fRoots)])), (3, (.ptr 0 0)), (4, (.ptr 1 0)), (5, (.ptr 2 0)), (6, (vB false)), (7, (.ptr 0 1)), (8, (vI a1.fKind)), (9, (vB false)), (10, (vB false)), (14, (vB false)), (15, (vB false)), (19, (.ptr 1 0)), (20, (vI a2.fKind)), (21, (vB false)), (22, (.ptr 1 0)), (23, (vI a2.fKind)), (24, (vB true)), (25, (vB true)), (26, (.ptr 0 2)), (27, (vS a1.fClass)), (28, (vB (sEqF a1.fClass (ByteArray.mk #[65, 78, 89])))), (29, (vB (sEqF a1.fClass (ByteArray.mk #[65, 78, 89]))))]) ?_
           refine i_d [28, 29] h (fun h => ?_) (fun h => ?_)
           · refine d_r14 [(6, (vB true)), (30, (.val undef)), (31, (.val undef)), (32, (.val undef)), (33, (.val undef)), (34, (.val undef)), (35, (.val undef)), (36, (.val undef)), (37, (.val undef)), (38, (.val undef)), (39, (.val undef)), (40, (.val undef)), (41, (vB true)), (42, (vB true))] ?_
             exact d_end (w18 _ _ (wkm [6] wh_nil) h)
           · refine d_r5 [(30, (.ptr 2 0)), (31, (vL Node.c a3.fNodes)), (32, (.ptr 1 1)), (33, (vI a2.fN)), (34, (vI (mxI 0 a2.fN)))] ?_
             refine bnd h fun x22 g23 h => ?_
             refine d_g (one_ia (f := Node.c) (ki := .i64) g23) ?_
             refine d_r4 [(36, (.iptr [(vS x22.fClass), (vL Val.c x22.fVals)])), (37, (vS x22.fClass)), (38, (.ptr 0 2)), (39, (vS a1.fClass))] ?_
             refine d_g (one_sc (vs := [.string x22.fClass, .string a1.fClass]) (str_eql x22.fClass a1.fClass)) ?_
             refine d_r3 [(6, (vB (sEqF x22.fClass a1.fClass))), (41, (vB (sEqF x22.fClass a1.fClass))), (42, (vB (sEqF x22.fClass a1.fClass)))] ?_
             exact d_end (w18 _ _ (wkm [6] wh_nil) h)
         · refine d_r16 [(26, (.val undef)), (27, (.val undef)), (28, (.val undef)), (29, (.val undef)), (30, (.val undef)), (31, (.val undef)), (32, (.val undef)), (33, (.val undef)), (34, (.val undef)), (35, (.val undef)), (36, (.val undef)), (37, (.val undef)), (38, (.val undef)), (39, (.val undef)), (40, (.val undef)), (41, (.val undef))] ?_
           refine d_r2 [(42, (vB false))] ?_
           exact d_end (w18 _ _ (wkm [6] wh_nil) h)
theorem ic39 : fnIC Tryz.prog H0 39 = some ([.tmp 4], 91, (.seq (.ops [zO 3 (.box 0 27 [(0, 73, 2, 0), (1, 84, 2, 0)] (.t 1)), zO 4 (.mov (.c (.int .i64 0)))]) (.seq (.ops [zM 11 0, zO 12 (.call 47 [(.t 11)]), zM 5 12]) (.seq (.seq (.ops [zM 13 5, zO 14 (.sc (.bin .neq 34) [(.t 13), (.c (.int .i64 0))])]) (.cond (.t 14)
  (.seq (.ops [zM 15 5, zM 4 15]) .ret)
  .skip)) (.seq (.ops [zO 16 (.ld (.t 3) 2 true), zO 17 (.call 87 [(.t 16)]), zM 5 17]) (.seq (.seq (.ops [zM 18 5, zO 19 (.sc (.bin .neq 34) [(.t 18), (.c (.int .i64 0))])]) (.cond (.t 19)
  (.seq (.ops [zM 20 5, zM 4 20]) .ret)
  .skip)) (.seq (.seq (.ops [zO 6 (.mov (.c (.int .i64 0)))]) (.block 0 (.loop (.seq (.seq (.ops [zM 21 6, zO 22 (.faddr (.t 3) 0), zO 23 (.ld (.t 22) 1 false), zO 24 (.len false (.t 23)), zO 25 (.sc (.bin .lss 3) [(.t 21), (.t 24)])]) (.cond (.t 25)
  .skip
  (.exit 0))) (.seq (.block 1 (.seq (.ops [zM 28 0, zO 29 (.faddr (.t 3) 0), zO 30 (.ld (.t 29) 1 false), zM 31 6, zO 32 (.iaddr 2 (.t 30) (.t 31)), zO 33 (.faddr (.t 32) 0), zO 34 (.ld (.t 33) 1 false), zO 35 (.call 40 [(.t 28), (.t 34)]), zO 36 (.sc (.bin .lss 3) [(.t 35), (.c (.int .i64 0))])]) (.cond (.t 36)
  (.seq (.ops [zO 4 (.mov (.c (.int .i64 4)))]) .ret)
  .skip))) (.ops [zM 26 6, zO 27 (.sc (.bin .add 3) [(.t 26), (.c (.int .i64 1))]), zM 6 27])))))) (.seq (.seq (.ops [zO 7 (.mov (.c (.int .i64 0)))]) (.block 2 (.loop (.seq (.seq (.ops [zM 37 7, zO 38 (.faddr (.t 3) 0), zO 39 (.ld (.t 38) 1 false), zO 40 (.len false (.t 39)), zO 41 (.sc (.bin .lss 3) [(.t 37), (.t 40)])]) (.cond (.t 41)
  .skip
  (.exit 2))) (.seq (.block 3 (.seq (.ops [zM 44 0, zM 45 0, zO 46 (.faddr (.t 3) 0), zO 47 (.ld (.t 46) 1 false), zM 48 7, zO 49 (.iaddr 2 (.t 47) (.t 48)), zO 50 (.faddr (.t 49) 0), zO 51 (.ld (.t 50) 1 false), zO 52 (.call 40 [(.t 45), (.t 51)]), zO 53 (.iaddr 2 (.t 44) (.t 52)), zO 54 (.ld (.t 53) 2 true), zO 8 (.alloc 0 66 [(1, 68, 3, 0)] [(.string ⟨#[]⟩), (.slice none 0 0)]), zU (.st true 2 [(1, 68, 3, 0)] (.t 8) (.t 54))]) (.seq (.seq (.draw [] [zQ (zO 55 (.faddr (.t 8) 1)), zQ (zO 56 (.ld (.t 55) 1 false)), zQ (zO 57 (.len false (.t 56))), zQ (zO 58 (.faddr (.t 3) 0)), zQ (zO 59 (.ld (.t 58) 1 false)), zQ (zM 60 7), zQ (zO 61 (.iaddr 2 (.t 59) (.t 60))), zQ (zO 62 (.faddr (.t 61) 1)), zQ (zO 63 (.ld (.t 62) 1 false)), zQ (zO 64 (.len false (.t 63))), zQ (zO 65 (.sc (.bin .neq 3) [(.t 57), (.t 64)]))]) (.cond (.t 65)
  (.seq (.ops [zO 4 (.mov (.c (.int .i64 8)))]) .ret)
  .skip)) (.seq (.ops [zO 9 (.mov (.c (.int .i64 0)))]) (.block 4 (.loop (.seq (.seq (.ops [zM 66 9, zO 67 (.faddr (.t 8) 1), zO 68 (.ld (.t 67) 1 false), zO 69 (.len false (.t 68)), zO 70 (.sc (.bin .lss 3) [(.t 66), (.t 69)])]) (.cond (.t 70)
  .skip
  (.exit 4))) (.seq (.block 5 (.seq (.draw [] [zQ (zO 73 (.faddr (.t 8) 1)), zQ (zO 74 (.ld (.t 73) 1 false)), zQ (zM 75 9), zQ (zO 76 (.iaddr 3 (.t 74) (.t 75))), zQ (zO 77 (.ld (.t 76) 3 true)), zQ (zO 78 (.faddr (.t 3) 0)), zQ (zO 79 (.ld (.t 78) 1 false)), zQ (zM 80 7), zQ (zO 81 (.iaddr 2 (.t 79) (.t 80))), zQ (zO 82 (.faddr (.t 81) 1)), zQ (zO 83 (.ld (.t 82) 1 false)), zQ (zM 84 9), zQ (zO 85 (.iaddr 2 (.t 83) (.t 84))), zQ (zO 86 (.ld (.t 85) 2 true)), zQ (zO 87 (.ld (.t 3) 2 true)), zQ (zO 88 (.call 88 [(.t 77), (.t 86), (.t 87)])), zQ (zM 10 88)]) (.seq (.ops [zM 89 10, zO 90 (.sc (.un .not) [(.t 89)])]) (.cond (.t 90)
  (.seq (.ops [zO 4 (.mov (.c (.int .i64 8)))]) .ret)
  .skip)))) (.ops [zM 71 9, zO 72 (.sc (.bin .add 3) [(.t 71), (.c (.int .i64 1))]), zM 9 72]))))))))) (.ops [zM 42 7, zO 43 (.sc (.bin .add 3) [(.t 42), (.c (.int .i64 1))]), zM 7 43])))))) (.seq (.ops [zO 4 (.mov (.c (.int .i64 0)))]) .ret))))))))) := by kernel_rfl
def f19_k119 (x114 : Int) (c52k : Int → Option Int) : Option Int := (c52k (wr .i64 (x114 + 1)))
def f19_l138 (x126 : Form) (a2 : Graph) (x114 : Int) (n : Nat) (k119k : Option Int) : Nat → Int → Option Int
  | 0, _ => none
  | m138 + 1, x157 => (bif (decide (x157 < (len x126.fCols))) then ((gi x126.fCols x157).bind fun x165 => ((gi a2.fNodes x114).bind fun x167 => ((gi x167.fVals x157).bind fun x169 => ((f61 n x165 x169 a2).bind fun r171 => (bif (!r171) then some 8 else (f19_l138 x126 a2 x114 n (k119k) m138 (wr .i64 (x157 + 1)))))))) else (k119k))
def f19_k49 : Option Int := some 0
def f19_l52 (a2 : Graph) (n : Nat) (a1 : (List Form)) (k49k : Option Int) : Nat → Int → Option Int
  | 0, _ => none
  | m52 + 1, x114 => (bif (decide (x114 < (len a2.fNodes))) then ((gi a2.fNodes x114).bind fun x122 => ((f55 n a1 x122.fClass).bind fun r124 => ((gi a1 r124).bind fun x126 => ((gi a2.fNodes x114).bind fun x131 => (bif ((len x126.fCols) != (len x131.fVals)) then some 8 else (f19_l138 x126 a2 x114 n (f19_k119 x114 (f19_l52 a2 n a1 (k49k) m52)) n 0)))))) else (k49k))
def f19_k18 (n : Nat) (a2 : Graph) (a1 : (List Form)) : Option Int := (f19_l52 a2 n a1 (f19_k49) n 0)
def f19_l21 (a2 : Graph) (n : Nat) (a1 : (List Form)) (k18k : Option Int) : Nat → Int → Option Int
  | 0, _ => none
  | m21 + 1, x35 => (bif (decide (x35 < (len a2.fNodes))) then ((gi a2.fNodes x35).bind fun x43 => ((f55 n a1 x43.fClass).bind fun r45 => (bif (decide (r45 < 0)) then some 4 else (f19_l21 a2 n a1 (k18k) m21 (wr .i64 (x35 + 1)))))) else (k18k))
def f19 (n : Nat) (a1 : (List Form)) (a2 : Graph) : Option Int := ((f17 n a1).bind fun r5 => (bif (r5 != 0) then some r5 else ((f60 n a2).bind fun r12 => (bif (r12 != 0) then some r12 else (f19_l21 a2 n a1 (f19_k18 n a2 a1) n 0)))))
def f19_r (r : Int) : AV := (vI r)
theorem p_f19 {n : Nat} {a1 : (List Form)} {a2 : Graph} {r : Int} (h : f19 n a1 a2 = some r) : PureSpec Tryz.prog 39 [(vL Form.c a1), (.agg [(vL Node.c a2.fNodes), (vL Val.c a2.fRoots)])] (f19_r r) := by
 rw [f19.eq_1] at h
 refine pure_of hmix ic39 ?_
 refine go_to (mkd (.val undef) 91 0 [(0, (vL Form.c a1)), (1, (.agg [(vL Node.c a2.fNodes), (vL Val.c a2.fRoots)]))]) ?_
 refine s_so fun N3 k3 w3 => ?_
 refine o_h2 [(3, (.ptr 0 0)), (4, (vI 0))] [(some (.box 27 [(vL Node.c a2.fNodes), (vL Val.c a2.fRoots)]))] ?_
 refine o_end (k3 _ ?_)
 refine s_so fun N4 k4 w4 => ?_
 refine o_r1 [(11, (vL Form.c a1))] ?_
 refine bnd h fun r5 g6 h => ?_
 refine o_o (one_call (p_f17 g6)) ?_
 refine o_r1 [(5, (vI r5))] ?_
 refine o_end (k4 _ ?_)
 refine s_seq fun N7 k7 w7 => ?_
 refine s_so fun N8 k8 w8 => ?_
 refine o_r2 [(13, (vI r5)), (14, (vB (r5 != 0)))] ?_
 refine o_end (k8 _ ?_)
 refine i_c [14] h (fun h => ?_) (fun h => ?_)
 · refine s_so fun N10 k10 w10 => ?_
   refine o_r2 [(4, (vI r5)), (15, (vI r5))] ?_
   refine o_end (k10 _ ?_)
   exact c_ret (rets [] [(vI r5)] [(vI r5)] h)
 · refine c_skip (k7 _ ?_)
   refine s_so fun N11 k11 w11 => ?_
   refine o_r1 [(16, (.agg [(vL Node.c a2.fNodes), (vL Val.c a2.fRoots)]))] ?_
   refine bnd h fun r12 g13 h => ?_
   refine o_o (one_call (p_f60 g13)) ?_
   refine o_r1 [(5, (vI r12))] ?_
   refine o_end (k11 _ ?_)
   refine s_seq fun N14 k14 w14 => ?_
   refine s_so fun N15 k15 w15 => ?_
   refine o_r2 [(18, (vI r12)), (19, (vB (r12 != 0)))] ?_
   refine o_end (k15 _ ?_)
   refine i_c [19] h (fun h => ?_) (fun h => ?_)
   · refine s_so fun N17 k17 w17 => ?_
     refine o_r2 [(4, (vI r12)), (20, (vI r12))] ?_
     refine s_tm (mkd (.val undef) 91 0 [(0, (vL Form.c a1)), (1, (.agg [(vL Node.c a2.fNodes), (vL Val.c a2.fRoots)])), (3, (.ptr 0 0)), (4, (vI r12)), (5, (vI r12)), (11, (vL Form.c a1)), (12, (vI r5)), (13, (vI r5)), (14, (vB false)), (16, (.agg [(vL Node.c a2.fNodes), (vL Val.c a2.fRoots)])), (17, (vI r12)), (18, (vI r12)), (19, (vB true)), (20, (vI r12))]) ?_
     refine o_end (k17 _ ?_)
     exact c_ret (rets [] [(vI r12)] [(vI r12)] h)
   · refine c_skip (k14 _ ?_)
     refine J0 (r := r) ⟨(mkd .any 91 0 [(0, (vL Form.c a1)), (3, (.ptr 0 0))]), [(some (.box 27 [(vL Node.c a2.fNodes), (vL Val.c a2.fRoots)]))]⟩ (f19_k18 n a2 a1) ?_ ?_
     · intro h
       rw [f19_k18.eq_1] at h
       refine J0 (r := r) ⟨(mkd .any 91 0 []), []⟩ (f19_k49) ?_ ?_
       · intro h
         rw [f19_k49.eq_1] at h
         refine s_so fun N176 k176 w176 => ?_
         refine o_r1 [(4, (vI 0))] ?_
         refine o_end (k176 _ ?_)
         exact c_ret (rets [] [(vI 0)] [(vI 0)] h)
       · intro N49 w49
         refine s_so fun N50 k50 w50 => ?_
         refine o_r1 [(7, (vI 0))] ?_
         refine o_end (k50 _ ?_)
         refine c_block fun E51 hE51 hO51 => ?_
         refine W1 (fun (x114 : Int) => ⟨(mkd .any 91 0 [(0, (vL Form.c a1)), (3, (.ptr 0 0)), (7, (vI x114))]), [(some (.box 27 [(vL Node.c a2.fNodes), (vL Val.c a2.fRoots)]))]⟩) (f19_l52 a2 n a1 (f19_k49)) h (wkm [0, 3, 7] (whk wh_nil)) (by intros; rw [f19_l52.eq_1]) ?_
         intro m52 x114 h N52 w52
         rw [f19_l52.eq_2] at h
         refine s_seq fun N115 k115 w115 => ?_
         refine s_so fun N116 k116 w116 => ?_
         refine o_r3 [(37, (vI x114)), (38, (.ptr 0 0)), (39, (vL Node.c a2.fNodes))] ?_
         refine o_o (one_len (f := Node.c) (l := a2.fNodes)) ?_
         refine o_r1 [(41, (vB (decide (x114 < (len a2.fNodes)))))] ?_
         refine o_end (k116 _ ?_)
         refine i_c [41] h (fun h => ?_) (fun h => ?_)
         · refine c_skip (k115 _ ?_)
           refine J0 (r := r) ⟨(mkd .any 91 0 [(0, (vL Form.c a1)), (3, (.ptr 0 0)), (7, (vI x114))]), [(some (.box 27 [(vL Node.c a2.fNodes), (vL Val.c a2.fRoots)]))]⟩ (f19_k119 x114 (f19_l52 a2 n a1 (f19_k49) m52)) ?_ ?_
           · intro h
             rw [f19_k119.eq_1] at h
             refine c_ops ?_
             refine o_r3 [(7, (vI (wr .i64 (x114 + 1)))), (42, (vI x114)), (43, (vI (wr .i64 (x114 + 1))))] ?_
             exact o_end (w52 _ _ (wkm [0, 3, 7] (whk wh_nil)) h)
           · intro N119 w119
             refine c_block fun E120 hE120 hO120 => ?_
             refine s_so fun N121 k121 w121 => ?_
             refine o_r5 [(44, (vL Form.c a1)), (45, (vL Form.c a1)), (46, (.ptr 0 0)), (47, (vL Node.c a2.fNodes)), (48, (vI x114))] ?_
             refine bnd h fun x122 g123 h => ?_
             refine o_o (one_ia (f := Node.c) (ki := .i64) g123) ?_
             refine o_r2 [(50, (.iptr [(vS x122.fClass), (vL Val.c x122.fVals)])), (51, (vS x122.fClass))] ?_
             refine bnd h fun r124 g125 h => ?_
             refine o_o (one_call (p_f55 g125)) ?_
             refine bnd h fun x126 g127 h => ?_
             refine o_o (one_ia (f := Form.c) (ki := .i64) g127) ?_
             refine o_h3 [(8, (.ptr 2 0)), (54, (.agg [(vS x126.fName), (vL Col.c x126.fCols)]))] [(some (.box 27 [(vL Node.c a2.fNodes), (vL Val.c a2.fRoots)])), (some (.row 68 3 (List.map Col.c []))), (some (.box 66 [(vS x126.fName), (vL Col.c x126.fCols)]))] ?_
             refine o_end (w121 _ ⟨(mkd .any 91 0 [(0, (vL Form.c a1)), (3, (.ptr 0 0)), (7, (vI x114)), (8, (.ptr 2 0))]), [(some (.box 27 [(vL Node.c a2.fNodes), (vL Val.c a2.fRoots)])), none, (some (.box 66 [(vS x126.fName), (vL Col.c x126.fCols)]))]⟩ (wkm [0, 3, 7, 8] (whk (wh_drop (whk wh_nil)))) ?_)
             refine s_seq fun N128 k128 w128 => ?_
             refine s_seq fun N129 k129 w129 => ?_
             refine c_draw0 ?_
             refine d_r2 [(55, (.ptr 2 1)), (56, (vL Col.c x126.fCols))] ?_
             refine d_o (one_len (f := Col.c) (l := x126.fCols)) ?_
             refine d_r3 [(58, (.ptr 0 0)), (59, (vL Node.c a2.fNodes)), (60, (vI x114))] ?_
             refine bnd h fun x131 g132 h => ?_
             refine d_o (one_ia (f := Node.c) (ki := .i64) g132) ?_
             refine d_r2 [(62, (.iptr [(vL Val.c x131.fVals)])), (63, (vL Val.c x131.fVals))] ?_
             refine d_o (one_len (f := Val.c) (l := x131.fVals)) ?_
             refine d_r1 [(65, (vB ((len x126.fCols) != (len x131.fVals))))] ?_
             refine d_end (k129 _ ?_)
             refine i_c [65] h (fun h => ?_) (fun h => ?_)
             · refine s_so fun N135 k135 w135 => ?_
               refine o_r1 [(4, (vI 8))] ?_
               refine o_end (k135 _ ?_)
               exact c_ret (rets [] [(vI 8)] [(vI 8)] h)
             · refine c_skip (k128 _ ?_)
               refine s_so fun N136 k136 w136 => ?_
               refine o_r1 [(9, (vI 0))] ?_
               refine o_end (k136 _ ?_)
               refine c_block fun E137 hE137 hO137 => ?_
               refine W1 (fun (x157 : Int) => ⟨(mkd .any 91 0 [(0, (vL Form.c a1)), (3, (.ptr 0 0)), (7, (vI x114)), (8, (.ptr 2 0)), (9, (vI x157))]), [(some (.box 27 [(vL Node.c a2.fNodes), (vL Val.c a2.fRoots)])), none, (some (.box 66 [(vS x126.fName), (vL Col.c x126.fCols)]))]⟩) (f19_l138 x126 a2 x114 n (f19_k119 x114 (f19_l52 a2 n a1 (f19_k49) m52))) h (wkm [0, 3, 7, 8, 9] (whk (wh_none (whk wh_nil)))) (by intros; rw [f19_l138.eq_1]) ?_
               intro m138 x157 h N138 w138
               rw [f19_l138.eq_2] at h
               refine s_seq fun N158 k158 w158 => ?_
               refine s_so fun N159 k159 w159 => ?_
               refine o_r3 [(66, (vI x157)), (67, (.ptr 2 1)), (68, (vL Col.c x126.fCols))] ?_
               refine o_o (one_len (f := Col.c) (l := x126.fCols)) ?_
               refine o_r1 [(70, (vB (decide (x157 < (len x126.fCols)))))] ?_
               refine o_end (k159 _ ?_)
               refine i_c [70] h (fun h => ?_) (fun h => ?_)
               · refine c_skip (k158 _ ?_)
                 refine s_seq fun N162 k162 w162 => ?_
                 refine c_block fun E163 hE163 hO163 => ?_
                 refine s_seq fun N164 k164 w164 => ?_
                 refine c_draw0 ?_
                 refine d_r3 [(73, (.ptr 2 1)), (74, (vL Col.c x126.fCols)), (75, (vI x157))] ?_
                 refine bnd h fun x165 g166 h => ?_
                 refine d_o (one_ia (f := Col.c) (ki := .i64) g166) ?_
                 refine d_r4 [(77, (.agg [(vS x165.fName), (vI x165.fKind), (vS x165.fClass)])), (78, (.ptr 0 0)), (79, (vL Node.c a2.fNodes)), (80, (vI x114))] ?_
                 refine bnd h fun x167 g168 h => ?_
                 refine d_o (one_ia (f := Node.c) (ki := .i64) g168) ?_
                 refine d_r3 [(82, (.iptr [(vL Val.c x167.fVals)])), (83, (vL Val.c x167.fVals)), (84, (vI x157))] ?_
                 refine bnd h fun x169 g170 h => ?_
                 refine d_o (one_ia (f := Val.c) (ki := .i64) g170) ?_
                 refine d_r2 [(86, (.agg [(vI x169.fKind), (vI x169.fN)])), (87, (.agg [(vL Node.c a2.fNodes), (vL Val.c a2.fRoots)]))] ?_
                 refine bnd h fun r171 g172 h => ?_
                 refine d_o (one_call (p_f61 g172)) ?_
                 refine d_r1 [(10, (vB r171))] ?_
                 refine t_tm (mkd .any 91 0 [(0, (vL Form.c a1)), (3, (.ptr 0 0)), (7, (vI x114)), (8, (.ptr 2 0)), (9, (vI x157)), (10, (vB r171)), (66, (vI x157)), (67, (.ptr 2 1)), (68, (vL Col.c x126.fCols)), (69, (vI (len x126.fCols))), (70, (vB true)), (73, (.ptr 2 1)), (74, (vL Col.c x126.fCols)), (75, (vI x157)), (76, (.iptr [(vS x165.fName), (vI x165.fKind), (vS x165.fClass)])), (77, (.agg [(vS x165.fName), (vI x165.fKind), (vS x165.fClass)])), (78, (.ptr 0 0)), (79, (vL Node.c a2.fNodes)), (80, (vI x114)), (81, (.iptr [(vS x167.fClass), (vL Val.c x167.fVals)])), (82, (.iptr [(vL Val.c x167.fVals)])), (83, (vL Val.c x167.fVals)), (84, (vI x157)), (85, (.iptr [(vI x169.fKind), (vI x169.fN)])), (86, (.agg [(vI x169.fKind), (vI x169.fN)])), (87, (.agg [(vL Node.c a2.fNodes), (vL Val.c a2.fRoots)])), (88, (vB r171))]) ?_
                 refine d_end (w164 _ ⟨(mkd .any 91 0 [(0, (vL Form.c a1)), (3, (.ptr 0 0)), (7, (vI x114)), (8, (.ptr 2 0)), (9, (vI x157)), (10, (vB r171))]), [(some (.box 27 [(vL Node.c a2.fNodes), (vL Val.c a2.fRoots)])), none, (some (.box 66 [(vS x126.fName), (vL Col.c x126.fCols)]))]⟩ (wkm [0, 3, 7, 8, 9, 10] (whk (wh_none (whk wh_nil)))) ?_)
                 refine s_so fun N173 k173 w173 => ?_
                 refine o_r2 [(89, (vB r171)), (90, (vB (!r171)))] ?_
                 refine o_end (k173 _ ?_)
                 refine i_c [90] h (fun h => ?_) (fun h => ?_)
                 · refine s_so fun N175 k175 w175 => ?_
                   refine o_r1 [(4, (vI 8))] ?_
                   refine o_end (k175 _ ?_)
                   exact c_ret (rets [] [(vI 8)] [(vI 8)] h)
                 · refine c_skip (k162 _ ?_)
                   refine c_ops ?_
                   refine o_r3 [(9, (vI (wr .i64 (x157 + 1)))), (71, (vI x157)), (72, (vI (wr .i64 (x157 + 1))))] ?_
                   exact o_end (w138 _ _ (wkm [0, 3, 7, 8, 9] (whk (wh_none (whk wh_nil)))) h)
               · refine c_exit (hE137 _ ?_)
                 exact w119 _ (wkm [0, 3, 7] (whk wh_nil)) h
         · refine c_exit (hE51 _ ?_)
           exact w49 _ (wkm [] wh_nil) h
     · intro N18 w18
       refine s_so fun N19 k19 w19 => ?_
       refine o_r1 [(6, (vI 0))] ?_
       refine s_tm (mkd (.val undef) 91 0 [(0, (vL Form.c a1)), (1, (.agg [(vL Node.c a2.fNodes), (vL Val.c a2.fRoots)])), (3, (.ptr 0 0)), (4, (vI 0)), (5, (vI r12)), (6, (vI 0)), (11, (vL Form.c a1)), (12, (vI r5)), (13, (vI r5)), (14, (vB false)), (16, (.agg [(vL Node.c a2.fNodes), (vL Val.c a2.fRoots)])), (17, (vI r12)), (18, (vI r12)), (19, (vB false))]) ?_
       refine o_end (k19 _ ?_)
       refine c_block fun E20 hE20 hO20 => ?_
       refine W1 (fun (x35 : Int) => ⟨(mkd .any 91 0 [(0, (vL Form.c a1)), (3, (.ptr 0 0)), (6, (vI x35))]), [(some (.box 27 [(vL Node.c a2.fNodes), (vL Val.c a2.fRoots)]))]⟩) (f19_l21 a2 n a1 (f19_k18 n a2 a1)) h (wkm [0, 3, 6] (whk wh_nil)) (by intros; rw [f19_l21.eq_1]) ?_
       intro m21 x35 h N21 w21
       rw [f19_l21.eq_2] at h
       refine s_seq fun N36 k36 w36 => ?_
       refine s_so fun N37 k37 w37 => ?_
       refine o_r3 [(21, (vI x35)), (22, (.ptr 0 0)), (23, (vL Node.c a2.fNodes))] ?_
       refine o_o (one_len (f := Node.c) (l := a2.fNodes)) ?_
       refine o_r1 [(25, (vB (decide (x35 < (len a2.fNodes)))))] ?_
       refine o_end (k37 _ ?_)
       refine i_c [25] h (fun h => ?_) (fun h => ?_)
       · refine c_skip (k36 _ ?_)
         refine s_seq fun N40 k40 w40 => ?_
         refine c_block fun E41 hE41 hO41 => ?_
         refine s_so fun N42 k42 w42 => ?_
         refine o_r4 [(28, (vL Form.c a1)), (29, (.ptr 0 0)), (30, (vL Node.c a2.fNodes)), (31, (vI x35))] ?_
         refine bnd h fun x43 g44 h => ?_
         refine o_o (one_ia (f := Node.c) (ki := .i64) g44) ?_
         refine o_r2 [(33, (.iptr [(vS x43.fClass), (vL Val.c x43.fVals)])), (34, (vS x43.fClass))] ?_
         refine bnd h fun r45 g46 h => ?_
         refine o_o (one_call (p_f55 g46)) ?_
         refine o_r1 [(36, (vB (decide (r45 < 0))))] ?_
         refine o_end (k42 _ ?_)
         refine i_c [36] h (fun h => ?_) (fun h => ?_)
         · refine s_so fun N48 k48 w48 => ?_
           refine o_r1 [(4, (vI 4))] ?_
           refine o_end (w48 _ ⟨(mkd .any 91 0 [(4, (vI 4))]), []⟩ (wkm [4] wh_nil) ?_)
           exact c_ret (rets [] [(vI 4)] [(vI 4)] h)
         · refine c_skip (k40 _ ?_)
           refine c_ops ?_
           refine o_r3 [(6, (vI (wr .i64 (x35 + 1)))), (26, (vI x35)), (27, (vI (wr .i64 (x35 + 1))))] ?_
           exact o_end (w21 _ _ (wkm [0, 3, 6] (whk wh_nil)) h)
       · refine c_exit (hE20 _ ?_)
         exact w18 _ (wkm [0, 3] (whk wh_nil)) h
theorem ic42 : fnIC Tryz.prog H0 42 = some ([.cell 8 96], 74, (.seq (.ops [zO 4 (.box 0 66 [(1, 68, 3, 0)] (.t 0)), zO 5 (.box 0 73 [(1, 84, 2, 0)] (.t 1)), zO 6 (.box 0 82 [] (.t 2)), zO 7 (.box 0 68 [] (.t 3)), zO 8 (.alloc 0 96 [] [(.int .i64 0), (.int .i64 0), (.bool false)])]) (.seq (.ops [zO 10 (.bld [(.int .i64 0), (.int .i64 0)] []), zO 9 (.alloc 0 84 [] [(.int .i64 0), (.int .i64 0)]), zU (.st true 2 [] (.t 9) (.t 10))]) (.seq (.seq (.ops [zO 11 (.faddr (.t 6) 1), zO 12 (.ld (.t 11) 1 false), zO 13 (.call 51 [(.t 12)])]) (.cond (.t 13)
  (.draw [] [zQ (zO 14 (.faddr (.t 5) 1)), zQ (zO 15 (.ld (.t 14) 1 false)), zQ (zO 16 (.ld (.t 4) 2 true)), zQ (zO 17 (.faddr (.t 6) 0)), zQ (zO 18 (.ld (.t 17) 1 false)), zQ (zO 19 (.call 53 [(.t 16), (.t 18)])), zQ (zO 20 (.iaddr 2 (.t 15) (.t 19))), zQ (zO 21 (.ld (.t 20) 2 true)), ⟨zU (.st true 2 [] (.t 9) (.t 21)), true, 0, 1⟩])
  .skip)) (.seq (.seq (.ops [zO 22 (.faddr (.t 6) 1), zO 23 (.ld (.t 22) 1 false)]) (.block 0 (.seq (.ops [zO 25 (.sc (.bin .eql 3) [(.t 23), (.c (.int .i64 2))]), zM 24 25]) (.cond (.t 24)
  (.seq (.ops [zO 26 (.faddr (.t 9) 1), zO 27 (.ld (.t 26) 1 false), zO 28 (.bld [(.int .i64 0), (.int .i64 0)] [(0, 1, (.c (.int .i64 1))), (1, 1, (.t 27))]), zO 29 (.bld [(.int .i64 0), (.int .i64 0), (.bool false)] [(0, 2, (.t 28)), (2, 1, (.c (.bool true)))]), zU (.st true 3 [] (.t 8) (.t 29))]) .ret)
  (.seq (.ops [zO 31 (.sc (.bin .eql 3) [(.t 23), (.c (.int .i64 3))]), zM 30 31]) (.cond (.t 30)
  (.seq (.draw [] [zQ (zO 32 (.faddr (.t 9) 1)), zQ (zO 33 (.ld (.t 32) 1 false)), zQ (zO 34 (.bld [(.int .i64 0), (.int .i64 0)] [(0, 1, (.c (.int .i64 2))), (1, 1, (.t 33))])), zQ (zO 35 (.faddr (.t 9) 1)), zQ (zO 36 (.ld (.t 35) 1 false)), zQ (zO 37 (.call 68 [(.t 36), (.c (.int .i64 0)), (.c (.int .i64 1))])), zQ (zO 38 (.bld [(.int .i64 0), (.int .i64 0), (.bool false)] [(0, 2, (.t 34)), (2, 1, (.t 37))])), ⟨zU (.st true 3 [] (.t 8) (.t 38)), true, 0, 1⟩]) .ret)
  (.seq (.ops [zO 40 (.sc (.bin .eql 3) [(.t 23), (.c (.int .i64 4))]), zM 39 40]) (.cond (.t 39)
  (.seq (.ops [zO 41 (.ld (.t 9) 2 true), zO 42 (.faddr (.t 9) 1), zO 43 (.ld (.t 42) 1 false), zO 44 (.faddr (.t 6) 2), zO 45 (.ld (.t 44) 1 false), zO 46 (.sc (.bin .lss 3) [(.t 43), (.t 45)]), zO 47 (.bld [(.int .i64 0), (.int .i64 0), (.bool false)] [(0, 2, (.t 41)), (2, 1, (.t 46))]), zU (.st true 3 [] (.t 8) (.t 47))]) .ret)
  (.seq (.ops [zO 49 (.sc (.bin .eql 3) [(.t 23), (.c (.int .i64 5))]), zM 48 49]) (.cond (.t 48)
  (.seq (.ops [zO 50 (.ld (.t 9) 2 true), zO 51 (.faddr (.t 9) 0), zO 52 (.ld (.t 51) 1 false), zO 53 (.sc (.bin .eql 3) [(.t 52), (.c (.int .i64 4))]), zO 54 (.bld [(.int .i64 0), (.int .i64 0), (.bool false)] [(0, 2, (.t 50)), (2, 1, (.t 53))]), zU (.st true 3 [] (.t 8) (.t 54))]) .ret)
  (.seq (.ops [zO 56 (.sc (.bin .eql 3) [(.t 23), (.c (.int .i64 6))]), zM 55 56]) (.cond (.t 55)
  (.seq (.seq (.ops [zO 57 (.faddr (.t 7) 1), zO 58 (.ld (.t 57) 1 false), zO 59 (.sc (.bin .eql 3) [(.t 58), (.c (.int .i64 2))])]) (.cond (.t 59)
  (.seq (.ops [zO 60 (.faddr (.t 6) 2), zO 61 (.ld (.t 60) 1 false), zO 62 (.bld [(.int .i64 0), (.int .i64 0)] [(0, 1, (.c (.int .i64 2))), (1, 1, (.t 61))]), zO 63 (.bld [(.int .i64 0), (.int .i64 0), (.bool false)] [(0, 2, (.t 62)), (2, 1, (.c (.bool true)))]), zU (.st true 3 [] (.t 8) (.t 63))]) .ret)
  .skip)) (.seq (.ops [zO 64 (.faddr (.t 6) 2), zO 65 (.ld (.t 64) 1 false), zO 66 (.bld [(.int .i64 0), (.int .i64 0)] [(0, 1, (.c (.int .i64 1))), (1, 1, (.t 65))]), zO 67 (.bld [(.int .i64 0), (.int .i64 0), (.bool false)] [(0, 2, (.t 66)), (2, 1, (.c (.bool true)))]), zU (.st true 3 [] (.t 8) (.t 67))]) .ret))
  (.seq (.ops [zO 69 (.sc (.bin .eql 3) [(.t 23), (.c (.int .i64 7))]), zM 68 69]) (.cond (.t 68)
  (.seq (.ops [zO 70 (.bld [(.int .i64 0), (.int .i64 0)] [(0, 1, (.c (.int .i64 3)))]), zO 71 (.bld [(.int .i64 0), (.int .i64 0), (.bool false)] [(0, 2, (.t 70)), (2, 1, (.c (.bool true)))]), zU (.st true 3 [] (.t 8) (.t 71))]) .ret)
  .skip)))))))))))))) (.seq (.ops [zO 72 (.ld (.t 9) 2 true), zO 73 (.bld [(.int .i64 0), (.int .i64 0), (.bool false)] [(0, 2, (.t 72)), (2, 1, (.c (.bool true)))]), zU (.st true 3 [] (.t 8) (.t 73))]) .ret)))))) := by kernel_rfl
def f213_k7 (a3 : Give) (n : Nat) (a4 : Col) (x16 : Int) (x17 : Int) : Option VIs := (bif (a3.fHow == 2) then some (VIs.mk (Val.mk 1 x17) true) else (bif (a3.fHow == 3) then ((f58 n x17 0 1).bind fun r27 => some (VIs.mk (Val.mk 2 x17) r27)) else (bif (a3.fHow == 4) then some (VIs.mk (Val.mk x16 x17) (decide (x17 < a3.fN))) else (bif (a3.fHow == 5) then some (VIs.mk (Val.mk x16 x17) (x16 == 4)) else (bif (a3.fHow == 6) then (bif (a4.fKind == 2) then some (VIs.mk (Val.mk 2 a3.fN) true) else some (VIs.mk (Val.mk 1 a3.fN) true)) else (bif (a3.fHow == 7) then some (VIs.mk (Val.mk 3 0) true) else some (VIs.mk (Val.mk x16 x17) true)))))))
def f213 (n : Nat) (a1 : Form) (a2 : Node) (a3 : Give) (a4 : Col) : Option VIs := ((f217 n a3.fHow).bind fun r9 => (bif r9 then ((f57 n a1 a3.fFrom).bind fun r12 => ((gi a2.fVals r12).bind fun x14 => (f213_k7 a3 n a4 x14.fKind x14.fN))) else (f213_k7 a3 n a4 0 0)))
def f213_r (r : VIs) : AV := (.agg [(vI r.fV.fKind), (vI r.fV.fN), (vB r.fIs)])
theorem p_f213 {n : Nat} {a1 : Form} {a2 : Node} {a3 : Give} {a4 : Col} {r : VIs} (h : f213 n a1 a2 a3 a4 = some r) : PureSpec Tryz.prog 42 [(.agg [(vS a1.fName), (vL Col.c a1.fCols)]), (.agg [(vS a2.fClass), (vL Val.c a2.fVals)]), (.agg [(vS a3.fFrom), (vI a3.fHow), (vI a3.fN)]), (.agg [(vS a4.fName), (vI a4.fKind), (vS a4.fClass)])] (f213_r r) := by
 rw [f213.eq_1] at h
 refine pure_of hmix ic42 ?_
 refine go_to (mkd (.val undef) 74 0 [(0, (.agg [(vS a1.fName), (vL Col.c a1.fCols)])), (1, (.agg [(vS a2.fClass), (vL Val.c a2.fVals)])), (2, (.agg [(vS a3.fFrom), (vI a3.fHow), (vI a3.fN)])), (3, (.agg [(vS a4.fName), (vI a4.fKind), (vS a4.fClass)]))]) ?_
 refine s_so fun N5 k5 w5 => ?_
 refine o_h5 [(4, (.ptr 0 0)), (5, (.ptr 1 0)), (6, (.ptr 2 0)), (7, (.ptr 3 0)), (8, (.ptr 4 0))] [(some (.box 66 [(vS a1.fName), (vL Col.c a1.fCols)])), (some (.box 73 [(vS a2.fClass), (vL Val.c a2.fVals)])), (some (.box 82 [(vS a3.fFrom), (vI a3.fHow), (vI a3.fN)])), (some (.box 68 [(vS a4.fName), (vI a4.fKind), (vS a4.fClass)])), (some (.box 96 [(vI 0), (vI 0), (vB false)]))] ?_
 refine o_end (k5 _ ?_)
 refine s_so fun N6 k6 w6 => ?_
 refine o_h3 [(9, (.ptr 5 0)), (10, (.agg [(vI 0), (vI 0)]))] [(some (.box 66 [(vS a1.fName), (vL Col.c a1.fCols)])), (some (.box 73 [(vS a2.fClass), (vL Val.c a2.fVals)])), (some (.box 82 [(vS a3.fFrom), (vI a3.fHow), (vI a3.fN)])), (some (.box 68 [(vS a4.fName), (vI a4.fKind), (vS a4.fClass)])), (some (.box 96 [(vI 0), (vI 0), (vB false)])), (some (.box 84 [(vI 0), (vI 0)]))] ?_
 refine o_end (k6 _ ?_)
 refine J2 (r := r) (fun (x16 : Int) (x17 : Int) => ⟨(mkd .any 74 0 [(6, (.ptr 2 0)), (7, (.ptr 3 0)), (8, (.ptr 4 0)), (9, (.ptr 5 0))]), [none, none, (some (.box 82 [(vS a3.fFrom), (vI a3.fHow), (vI a3.fN)])), (some (.box 68 [(vS a4.fName), (vI a4.fKind), (vS a4.fClass)])), (some (.box 96 [(vI 0), (vI 0), (vB false)])), (some (.box 84 [(vI x16), (vI x17)]))]⟩) (f213_k7 a3 n a4) ?_ ?_
 · intro x16 x17 h
   rw [f213_k7.eq_1] at h
   refine s_seq fun N18 k18 w18 => ?_
   refine s_so fun N19 k19 w19 => ?_
   refine o_r2 [(22, (.ptr 2 1)), (23, (vI a3.fHow))] ?_
   refine o_end (k19 _ ?_)
   refine c_block fun E20 hE20 hO20 => ?_
   refine s_so fun N21 k21 w21 => ?_
   refine o_r2 [(24, (vB (a3.fHow == 2))), (25, (vB (a3.fHow == 2)))] ?_
   refine o_end (k21 _ ?_)
   refine i_c [24, 25] h (fun h => ?_) (fun h => ?_)
   · refine s_so fun N23 k23 w23 => ?_
     refine o_h5 [(26, (.ptr 5 1)), (27, (vI x17)), (28, (.agg [(vI 1), (vI x17)])), (29, (.agg [(vI 1), (vI x17), (vB true)]))] [none, none, (some (.box 82 [(vS a3.fFrom), (vI a3.fHow), (vI a3.fN)])), (some (.box 68 [(vS a4.fName), (vI a4.fKind), (vS a4.fClass)])), (some (.box 96 [(vI 1), (vI x17), (vB true)])), (some (.box 84 [(vI x16), (vI x17)]))] ?_
     refine o_end (k23 _ ?_)
     exact c_ret (rets [] [(.agg [(vI 1), (vI x17), (vB true)])] [(.agg [(vI 1), (vI x17), (vB true)])] h)
   · refine s_so fun N24 k24 w24 => ?_
     refine o_r2 [(30, (vB (a3.fHow == 3))), (31, (vB (a3.fHow == 3)))] ?_
     refine o_end (k24 _ ?_)
     refine i_c [30, 31] h (fun h => ?_) (fun h => ?_)
     · refine s_seq fun N26 k26 w26 => ?_
       refine c_draw0 ?_
       refine d_r5 [(32, (.ptr 5 1)), (33, (vI x17)), (34, (.agg [(vI 2), (vI x17)])), (35, (.ptr 5 1)), (36, (vI x17))] ?_
       refine bnd h fun r27 g28 h => ?_
       refine d_o (one_call (p_f58 g28)) ?_
       refine d_r1 [(38, (.agg [(vI 2), (vI x17), (vB r27)]))] ?_
       refine d_te (.val undef) [none, none, (some (.box 82 [(vS a3.fFrom), (vI a3.fHow), (vI a3.fN)])), (some (.box 68 [(vS a4.fName), (vI a4.fKind), (vS a4.fClass)])), (some (.box 96 [(vI 2), (vI x17), (vB r27)])), (some (.box 84 [(vI x16), (vI x17)]))] (ra_cat (ra_cat (ra_cat ra_nil (ra_s (ra_s (ra_s (ra_s (ra_s ra_nil)))))) (ra_s ra_nil)) (ra_s ra_nil)) ?_
       refine d_end (w26 _ ⟨(mkd .any 74 0 [(8, (.ptr 4 0))]), [none, none, none, none, (some (.box 96 [(vI 2), (vI x17), (vB r27)]))]⟩ (wkm [8] (wh_none (wh_none (wh_drop (wh_drop (whk wh_nil)))))) ?_)
       exact c_ret (rets [] [(.agg [(vI 2), (vI x17), (vB r27)])] [(.agg [(vI 2), (vI x17), (vB r27)])] h)
     · refine s_so fun N29 k29 w29 => ?_
       refine o_r2 [(39, (vB (a3.fHow == 4))), (40, (vB (a3.fHow == 4)))] ?_
       refine o_end (k29 _ ?_)
       refine i_c [39, 40] h (fun h => ?_) (fun h => ?_)
       · refine s_so fun N31 k31 w31 => ?_
         refine o_h8 [(41, (.agg [(vI x16), (vI x17)])), (42, (.ptr 5 1)), (43, (vI x17)), (44, (.ptr 2 2)), (45, (vI a3.fN)), (46, (vB (decide (x17 < a3.fN)))), (47, (.agg [(vI x16), (vI x17), (vB (decide (x17 < a3.fN)))]))] [none, none, (some (.box 82 [(vS a3.fFrom), (vI a3.fHow), (vI a3.fN)])), (some (.box 68 [(vS a4.fName), (vI a4.fKind), (vS a4.fClass)])), (some (.box 96 [(vI x16), (vI x17), (vB (decide (x17 < a3.fN)))])), (some (.box 84 [(vI x16), (vI x17)]))] ?_
         refine o_end (w31 _ ⟨(mkd .any 74 0 [(8, (.ptr 4 0))]), [none, none, none, none, (some (.box 96 [(vI x16), (vI x17), (vB (decide (x17 < a3.fN)))]))]⟩ (wkm [8] (wh_none (wh_none (wh_drop (wh_drop (whk wh_nil)))))) ?_)
         exact c_ret (rets [] [(.agg [(vI x16), (vI x17), (vB (decide (x17 < a3.fN)))])] [(.agg [(vI x16), (vI x17), (vB (decide (x17 < a3.fN)))])] h)
       · refine s_so fun N32 k32 w32 => ?_
         refine o_r2 [(48, (vB (a3.fHow == 5))), (49, (vB (a3.fHow == 5)))] ?_
         refine o_end (k32 _ ?_)
         refine i_c [48, 49] h (fun h => ?_) (fun h => ?_)
         · refine s_so fun N34 k34 w34 => ?_
           refine o_h6 [(50, (.agg [(vI x16), (vI x17)])), (51, (.ptr 5 0)), (52, (vI x16)), (53, (vB (x16 == 4))), (54, (.agg [(vI x16), (vI x17), (vB (x16 == 4))]))] [none, none, (some (.box 82 [(vS a3.fFrom), (vI a3.fHow), (vI a3.fN)])), (some (.box 68 [(vS a4.fName), (vI a4.fKind), (vS a4.fClass)])), (some (.box 96 [(vI x16), (vI x17), (vB (x16 == 4))])), (some (.box 84 [(vI x16), (vI x17)]))] ?_
           refine o_end (w34 _ ⟨(mkd .any 74 0 [(8, (.ptr 4 0))]), [none, none, none, none, (some (.box 96 [(vI x16), (vI x17), (vB (x16 == 4))]))]⟩ (wkm [8] (wh_none (wh_none (wh_drop (wh_drop (whk wh_nil)))))) ?_)
           exact c_ret (rets [] [(.agg [(vI x16), (vI x17), (vB (x16 == 4))])] [(.agg [(vI x16), (vI x17), (vB (x16 == 4))])] h)
         · refine s_so fun N35 k35 w35 => ?_
           refine o_r2 [(55, (vB (a3.fHow == 6))), (56, (vB (a3.fHow == 6)))] ?_
           refine o_end (k35 _ ?_)
           refine i_c [55, 56] h (fun h => ?_) (fun h => ?_)
           · refine s_seq fun N37 k37 w37 => ?_
             refine s_so fun N38 k38 w38 => ?_
             refine o_r3 [(57, (.ptr 3 1)), (58, (vI a4.fKind)), (59, (vB (a4.fKind == 2)))] ?_
             refine s_tm (mkd .any 74 0 [(6, (.ptr 2 0)), (7, (.ptr 3 0)), (8, (.ptr 4 0)), (9, (.ptr 5 0)), (22, (.ptr 2 1)), (23, (vI a3.fHow)), (24, (vB false)), (25, (vB false)), (30, (vB false)), (31, (vB false)), (39, (vB false)), (40, (vB false)), (48, (vB false)), (49, (vB false)), (55, (vB true)), (56, (vB true)), (57, (.ptr 3 1)), (58, (vI a4.fKind)), (59, (vB (a4.fKind == 2)))]) ?_
             refine o_end (w38 _ ⟨(mkd .any 74 0 [(6, (.ptr 2 0)), (8, (.ptr 4 0)), (59, (vB (a4.fKind == 2)))]), [none, none, (some (.box 82 [(vS a3.fFrom), (vI a3.fHow), (vI a3.fN)])), none, (some (.box 96 [(vI 0), (vI 0), (vB false)]))]⟩ (wkm [6, 8, 59] (wh_none (wh_none (whk (wh_drop (whk wh_nil)))))) ?_)
             refine i_c [59] h (fun h => ?_) (fun h => ?_)
             · refine s_so fun N40 k40 w40 => ?_
               refine o_h5 [(60, (.ptr 2 2)), (61, (vI a3.fN)), (62, (.agg [(vI 2), (vI a3.fN)])), (63, (.agg [(vI 2), (vI a3.fN), (vB true)]))] [none, none, (some (.box 82 [(vS a3.fFrom), (vI a3.fHow), (vI a3.fN)])), none, (some (.box 96 [(vI 2), (vI a3.fN), (vB true)]))] ?_
               refine o_end (k40 _ ?_)
               exact c_ret (rets [] [(.agg [(vI 2), (vI a3.fN), (vB true)])] [(.agg [(vI 2), (vI a3.fN), (vB true)])] h)
             · refine c_skip (k37 _ ?_)
               refine s_so fun N41 k41 w41 => ?_
               refine o_h5 [(64, (.ptr 2 2)), (65, (vI a3.fN)), (66, (.agg [(vI 1), (vI a3.fN)])), (67, (.agg [(vI 1), (vI a3.fN), (vB true)]))] [none, none, (some (.box 82 [(vS a3.fFrom), (vI a3.fHow), (vI a3.fN)])), none, (some (.box 96 [(vI 1), (vI a3.fN), (vB true)]))] ?_
               refine o_end (k41 _ ?_)
               exact c_ret (rets [] [(.agg [(vI 1), (vI a3.fN), (vB true)])] [(.agg [(vI 1), (vI a3.fN), (vB true)])] h)
           · refine s_so fun N42 k42 w42 => ?_
             refine o_r2 [(68, (vB (a3.fHow == 7))), (69, (vB (a3.fHow == 7)))] ?_
             refine s_tm (mkd .any 74 0 [(6, (.ptr 2 0)), (7, (.ptr 3 0)), (8, (.ptr 4 0)), (9, (.ptr 5 0)), (22, (.ptr 2 1)), (23, (vI a3.fHow)), (24, (vB false)), (25, (vB false)), (30, (vB false)), (31, (vB false)), (39, (vB false)), (40, (vB false)), (48, (vB false)), (49, (vB false)), (55, (vB false)), (56, (vB false)), (68, (vB (a3.fHow == 7))), (69, (vB (a3.fHow == 7)))]) ?_
             refine o_end (k42 _ ?_)
             refine i_c [68, 69] h (fun h => ?_) (fun h => ?_)
             · refine s_so fun N44 k44 w44 => ?_
               refine o_h3 [(70, (.agg [(vI 3), (vI 0)])), (71, (.agg [(vI 3), (vI 0), (vB true)]))] [none, none, (some (.box 82 [(vS a3.fFrom), (vI a3.fHow), (vI a3.fN)])), (some (.box 68 [(vS a4.fName), (vI a4.fKind), (vS a4.fClass)])), (some (.box 96 [(vI 3), (vI 0), (vB true)])), (some (.box 84 [(vI x16), (vI x17)]))] ?_
               refine o_end (w44 _ ⟨(mkd .any 74 0 [(8, (.ptr 4 0))]), [none, none, none, none, (some (.box 96 [(vI 3), (vI 0), (vB true)]))]⟩ (wkm [8] (wh_none (wh_none (wh_drop (wh_drop (whk wh_nil)))))) ?_)
               exact c_ret (rets [] [(.agg [(vI 3), (vI 0), (vB true)])] [(.agg [(vI 3), (vI 0), (vB true)])] h)
             · refine c_skip (w18 _ ⟨(mkd .any 74 0 [(8, (.ptr 4 0)), (9, (.ptr 5 0))]), [none, none, none, none, (some (.box 96 [(vI 0), (vI 0), (vB false)])), (some (.box 84 [(vI x16), (vI x17)]))]⟩ (wkm [8, 9] (wh_none (wh_none (wh_drop (wh_drop (whk (whk wh_nil))))))) ?_)
               refine s_so fun N45 k45 w45 => ?_
               refine o_h3 [(72, (.agg [(vI x16), (vI x17)])), (73, (.agg [(vI x16), (vI x17), (vB true)]))] [none, none, none, none, (some (.box 96 [(vI x16), (vI x17), (vB true)])), (some (.box 84 [(vI x16), (vI x17)]))] ?_
               refine o_end (k45 _ ?_)
               exact c_ret (rets [] [(.agg [(vI x16), (vI x17), (vB true)])] [(.agg [(vI x16), (vI x17), (vB true)])] h)
 · intro N7 w7
   refine s_so fun N8 k8 w8 => ?_
   refine o_r2 [(11, (.ptr 2 1)), (12, (vI a3.fHow))] ?_
   refine bnd h fun r9 g10 h => ?_
   refine o_o (one_call (p_f217 g10)) ?_
   refine o_end (k8 _ ?_)
   refine i_c [13] h (fun h => ?_) (fun h => ?_)
   · refine c_draw0 ?_
     refine d_r5 [(14, (.ptr 1 1)), (15, (vL Val.c a2.fVals)), (16, (.agg [(vS a1.fName), (vL Col.c a1.fCols)])), (17, (.ptr 2 0)), (18, (vS a3.fFrom))] ?_
     refine bnd h fun r12 g13 h => ?_
     refine d_o (one_call (p_f57 g13)) ?_
     refine bnd h fun x14 g15 h => ?_
     refine d_o (one_ia (f := Val.c) (ki := .i64) g15) ?_
     refine d_r1 [(21, (.agg [(vI x14.fKind), (vI x14.fN)]))] ?_
     refine d_te (.val undef) [(some (.box 66 [(vS a1.fName), (vL Col.c a1.fCols)])), (some (.box 73 [(vS a2.fClass), (vL Val.c a2.fVals)])), (some (.box 82 [(vS a3.fFrom), (vI a3.fHow), (vI a3.fN)])), (some (.box 68 [(vS a4.fName), (vI a4.fKind), (vS a4.fClass)])), (some (.box 96 [(vI 0), (vI 0), (vB false)])), (some (.box 84 [(vI x14.fKind), (vI x14.fN)]))] (ra_cat (ra_cat (ra_cat (ra_cat ra_nil (ra_s (ra_s (ra_s (ra_s (ra_s ra_nil)))))) (ra_s ra_nil)) (ra_s ra_nil)) (ra_s ra_nil)) ?_
     exact d_end (w7 _ _ _ (wkm [6, 7, 8, 9] (wh_drop (wh_drop (whk (whk (whk (whk wh_nil))))))) h)
   · exact c_skip (w7 _ _ _ (wkm [6, 7, 8, 9] (wh_drop (wh_drop (whk (whk (whk (whk wh_nil))))))) h)
theorem ic12 : fnIC Tryz.prog H12 12 = some ([.cell 8 38], 131, (.seq (.ops [zO 7 (.box 0 27 [(0, 73, 2, 0), (1, 84, 2, 0)] (.t 3)), zO 8 (.alloc 0 38 [(0, 73, 2, 0), (1, 84, 2, 0)] [(.slice none 0 0), (.slice none 0 0), (.int .i64 0), (.string ⟨#[]⟩), (.int .i64 0)])]) (.seq (.ops [zM 18 0, zM 19 1, zM 20 2, zO 21 (.call 22 [(.t 18), (.t 19), (.t 20)]), zM 9 21]) (.seq (.seq (.ops [zM 22 9, zO 23 (.sc (.bin .eql 34) [(.t 22), (.c (.int .i64 0))])]) (.cond (.t 23)
  (.ops [zM 24 0, zO 25 (.ld (.t 7) 2 true), zO 26 (.call 39 [(.t 24), (.t 25)]), zM 9 26])
  .skip)) (.seq (.seq (.ops [zM 27 9, zO 28 (.sc (.bin .neq 34) [(.t 27), (.c (.int .i64 0))])]) (.cond (.t 28)
  (.seq (.ops [zM 29 9, zO 30 (.bld [(.slice none 0 0), (.slice none 0 0), (.int .i64 0), (.string ⟨#[]⟩), (.int .i64 0)] [(4, 1, (.t 29))]), zU (.st true 5 [(0, 73, 2, 0), (1, 84, 2, 0)] (.t 8) (.t 30))]) .ret)
  .skip)) (.seq (.ops [zO 31 (.bld [(.slice none 0 0), (.slice none 0 0), (.int .i64 0), (.string ⟨#[]⟩), (.int .i64 0)] []), zO 10 (.alloc 0 38 [(0, 73, 2, 0), (1, 84, 2, 0)] [(.slice none 0 0), (.slice none 0 0), (.int .i64 0), (.string ⟨#[]⟩), (.int .i64 0)]), zU (.st true 5 [(0, 73, 2, 0), (1, 84, 2, 0)] (.t 10) (.t 31))]) (.seq (.seq (.ops [zO 11 (.mov (.c (.int .i64 0)))]) (.block 0 (.loop (.seq (.seq (.ops [zM 32 11, zO 33 (.faddr (.t 7) 0), zO 34 (.ld (.t 33) 1 false), zO 35 (.len false (.t 34)), zO 36 (.sc (.bin .lss 3) [(.t 32), (.t 35)])]) (.cond (.t 36)
  .skip
  (.exit 0))) (.seq (.block 1 (.seq (.ops [zM 39 0, zM 40 0, zO 41 (.faddr (.t 7) 0), zO 42 (.ld (.t 41) 1 false), zM 43 11, zO 44 (.iaddr 2 (.t 42) (.t 43)), zO 45 (.faddr (.t 44) 0), zO 46 (.ld (.t 45) 1 false), zO 47 (.call 40 [(.t 40), (.t 46)]), zO 48 (.iaddr 2 (.t 39) (.t 47)), zO 49 (.ld (.t 48) 2 true), zO 12 (.alloc 0 66 [(1, 68, 3, 0)] [(.string ⟨#[]⟩), (.slice none 0 0)]), zU (.st true 2 [(1, 68, 3, 0)] (.t 12) (.t 49))]) (.seq (.ops [zM 50 2, zM 51 2, zO 52 (.faddr (.t 7) 0), zO 53 (.ld (.t 52) 1 false), zM 54 11, zO 55 (.iaddr 2 (.t 53) (.t 54)), zO 56 (.faddr (.t 55) 0), zO 57 (.ld (.t 56) 1 false), zO 58 (.call 41 [(.t 51), (.t 57)]), zO 59 (.iaddr 3 (.t 50) (.t 58)), zO 60 (.ld (.t 59) 3 true), zO 13 (.alloc 0 71 [(2, 82, 3, 0)] [(.string ⟨#[]⟩), (.string ⟨#[]⟩), (.slice none 0 0)]), zU (.st true 3 [(2, 82, 3, 0)] (.t 13) (.t 60))]) (.seq (.ops [zM 61 1, zM 62 1, zO 63 (.faddr (.t 13) 1), zO 64 (.ld (.t 63) 1 false), zO 65 (.call 40 [(.t 62), (.t 64)]), zO 66 (.iaddr 2 (.t 61) (.t 65)), zO 67 (.ld (.t 66) 2 true), zO 14 (.alloc 0 66 [(1, 68, 3, 0)] [(.string ⟨#[]⟩), (.slice none 0 0)]), zU (.st true 2 [(1, 68, 3, 0)] (.t 14) (.t 67))]) (.seq (.ops [zO 68 (.faddr (.t 13) 1), zO 69 (.ld (.t 68) 1 false), zO 70 (.bld [(.string ⟨#[]⟩), (.slice none 0 0)] [(0, 1, (.t 69))]), zO 15 (.alloc 0 73 [(1, 84, 2, 0)] [(.string ⟨#[]⟩), (.slice none 0 0)]), zU (.st true 2 [(1, 84, 2, 0)] (.t 15) (.t 70))]) (.seq (.seq (.ops [zO 16 (.mov (.c (.int .i64 0)))]) (.block 2 (.loop (.seq (.seq (.ops [zM 71 16, zO 72 (.faddr (.t 14) 1), zO 73 (.ld (.t 72) 1 false), zO 74 (.len false (.t 73)), zO 75 (.sc (.bin .lss 3) [(.t 71), (.t 74)])]) (.cond (.t 75)
  .skip
  (.exit 2))) (.seq (.block 3 (.seq (.draw [] [⟨zO 78 (.ld (.t 12) 2 true), false, 0, 1⟩, ⟨zO 79 (.faddr (.t 7) 0), false, 0, 1⟩, ⟨zO 80 (.ld (.t 79) 1 false), false, 0, 1⟩, ⟨zM 81 11, false, 0, 1⟩, ⟨zO 82 (.iaddr 2 (.t 80) (.t 81)), false, 0, 1⟩, ⟨zO 83 (.ld (.t 82) 2 true), false, 0, 1⟩, ⟨zO 84 (.faddr (.t 13) 2), false, 0, 1⟩, ⟨zO 85 (.ld (.t 84) 1 false), false, 0, 1⟩, ⟨zM 86 16, false, 0, 1⟩, ⟨zO 87 (.iaddr 3 (.t 85) (.t 86)), false, 0, 1⟩, ⟨zO 88 (.ld (.t 87) 3 true), false, 0, 1⟩, ⟨zO 89 (.faddr (.t 14) 1), false, 0, 1⟩, ⟨zO 90 (.ld (.t 89) 1 false), false, 0, 1⟩, ⟨zM 91 16, false, 0, 1⟩, ⟨zO 92 (.iaddr 3 (.t 90) (.t 91)), false, 0, 1⟩, ⟨zO 93 (.ld (.t 92) 3 true), false, 0, 1⟩, ⟨zO 94 (.call 42 [(.t 78), (.t 83), (.t 88), (.t 93)]), false, 0, 1⟩, ⟨zO 17 (.alloc 0 96 [] [(.int .i64 0), (.int .i64 0), (.bool false)]), true, 0, 1⟩, ⟨zU (.st true 3 [] (.t 17) (.t 94)), true, 1, 2⟩]) (.seq (.seq (.ops [zO 95 (.faddr (.t 17) 2), zO 96 (.ld (.t 95) 1 false), zO 97 (.sc (.un .not) [(.t 96)])]) (.cond (.t 97)
  (.seq (.ops [zM 98 11, zO 99 (.faddr (.t 14) 1), zO 100 (.ld (.t 99) 1 false), zM 101 16, zO 102 (.iaddr 3 (.t 100) (.t 101)), zO 103 (.faddr (.t 102) 0), zO 104 (.ld (.t 103) 1 false), zO 105 (.bld [(.int .i64 0), (.string ⟨#[]⟩)] [(0, 1, (.t 98)), (1, 1, (.t 104))]), zO 106 (.bld [(.slice none 0 0), (.slice none 0 0), (.int .i64 0), (.string ⟨#[]⟩), (.int .i64 0)] [(2, 2, (.t 105)), (4, 1, (.c (.int .i64 10)))]), zU (.st true 5 [(0, 73, 2, 0), (1, 84, 2, 0)] (.t 8) (.t 106))]) .ret)
  .skip)) (.ops [zO 107 (.faddr (.t 15) 1), zO 108 (.ld (.t 107) 1 false), zO 109 (.faddr (.t 17) 0), zO 110 (.ld (.t 109) 2 true), zO 111 (.isl 2 [(.t 110)]), zO 112 (.app 0 84 2 16 (.t 108) (.t 111)), zO 113 (.faddr (.t 15) 1), zU (.st true 1 [(0, 84, 2, 0)] (.t 113) (.t 112))])))) (.ops [zM 76 16, zO 77 (.sc (.bin .add 3) [(.t 76), (.c (.int .i64 1))]), zM 16 77])))))) (.ops [zO 114 (.faddr (.t 10) 0), zO 115 (.faddr (.t 114) 0), zO 116 (.ld (.t 115) 1 false), zO 117 (.ld (.t 15) 2 true), zO 118 (.bsl 0 true 73 2 [(.t 117)]), zO 119 (.app 0 73 2 40 (.t 116) (.t 118)), zO 120 (.faddr (.t 10) 0), zO 121 (.faddr (.t 120) 0), zU (.st true 1 [(0, 73, 2, 0)] (.t 121) (.t 119))]))))))) (.ops [zM 37 11, zO 38 (.sc (.bin .add 3) [(.t 37), (.c (.int .i64 1))]), zM 11 38])))))) (.seq (.ops [zO 122 (.faddr (.t 10) 0), zO 123 (.faddr (.t 122) 1), zO 124 (.ld (.t 123) 1 false), zO 125 (.faddr (.t 7) 1), zO 126 (.ld (.t 125) 1 false), zO 127 (.app 0 84 2 16 (.t 124) (.t 126)), zO 128 (.faddr (.t 10) 0), zO 129 (.faddr (.t 128) 1), zU (.st true 1 [(0, 84, 2, 0)] (.t 129) (.t 127))]) (.seq (.ops [zO 130 (.ld (.t 10) 5 true), zU (.st true 5 [(0, 73, 2, 0), (1, 84, 2, 0)] (.t 8) (.t 130))]) .ret))))))))) := by kernel_rfl
def f204_k113 (x107 : Int) (c23k : Int → (List Node) → Option GRE) (x191 : (List Node)) : Option GRE := (c23k (wr .i64 (x107 + 1)) x191)
def f204_k135 (x108 : (List Node)) (x127 : Rule) (x107 : Int) (c23k : Int → (List Node) → Option GRE) (x187 : (List Val)) : Option GRE := ((app2 x108 [(Node.mk x127.fTo x187)]).bind fun l189 => (f204_k113 x107 (c23k) l189))
def f204_l138 (x132 : Form) (a4 : Graph) (x107 : Int) (x127 : Rule) (n : Nat) (x120 : Form) (k135k : (List Val) → Option GRE) : Nat → Int → (List Val) → Option GRE
  | 0, _, _ => none
  | m138 + 1, x162, x163 => (bif (decide (x162 < (len x132.fCols))) then ((gi a4.fNodes x107).bind fun x171 => ((gi x127.fGives x162).bind fun x173 => ((gi x132.fCols x162).bind fun x175 => ((f213 n x120 x171 x173 x175).bind fun r177 => (bif (!r177.fIs) then ((gi x132.fCols x162).bind fun x183 => some (GRE.mk (Graph.mk [] []) (Refusal.mk x107 x183.fName) 10)) else ((app2 x163 [(Val.mk r177.fV.fKind r177.fV.fN)]).bind fun l185 => (f204_l138 x132 a4 x107 x127 n x120 (k135k) m138 (wr .i64 (x162 + 1)) l185))))))) else (k135k x163))
def f204_k20 (a4 : Graph) (x192 : (List Node)) : Option GRE := ((app2 [] a4.fRoots).bind fun l194 => some (GRE.mk (Graph.mk x192 l194) (Refusal.mk 0 (ByteArray.mk #[])) 0))
def f204_l23 (a4 : Graph) (n : Nat) (a1 : (List Form)) (a3 : (List Rule)) (a2 : (List Form)) (k20k : (List Node) → Option GRE) : Nat → Int → (List Node) → Option GRE
  | 0, _, _ => none
  | m23 + 1, x107, x108 => (bif (decide (x107 < (len a4.fNodes))) then ((gi a4.fNodes x107).bind fun x116 => ((f55 n a1 x116.fClass).bind fun r118 => ((gi a1 r118).bind fun x120 => ((gi a4.fNodes x107).bind fun x123 => ((f212 n a3 x123.fClass).bind fun r125 => ((gi a3 r125).bind fun x127 => ((f55 n a2 x127.fTo).bind fun r130 => ((gi a2 r130).bind fun x132 => (f204_l138 x132 a4 x107 x127 n x120 (f204_k135 x108 x127 x107 (f204_l23 a4 n a1 a3 a2 (k20k) m23)) n 0 []))))))))) else (k20k x108))
def f204_k9 (n : Nat) (a4 : Graph) (a1 : (List Form)) (a3 : (List Rule)) (a2 : (List Form)) (x14 : Int) : Option GRE := (bif (x14 != 0) then some (GRE.mk (Graph.mk [] []) (Refusal.mk 0 (ByteArray.mk #[])) x14) else (f204_l23 a4 n a1 a3 a2 (f204_k20 a4) n 0 []))
def f204 (n : Nat) (a1 : (List Form)) (a2 : (List Form)) (a3 : (List Rule)) (a4 : Graph) : Option GRE := ((f210 n a1 a2 a3).bind fun r7 => (bif (r7 == 0) then ((f19 n a1 a4).bind fun r12 => (f204_k9 n a4 a1 a3 a2 r12)) else (f204_k9 n a4 a1 a3 a2 r7)))
def f204_r (r : GRE) : AV := (.agg [(vL Node.c r.fG.fNodes), (vL Val.c r.fG.fRoots), (vI r.fR.fNode), (vS r.fR.fCol), (vI r.fE)])
theorem p_f204 {n : Nat} {a1 : (List Form)} {a2 : (List Form)} {a3 : (List Rule)} {a4 : Graph} {r : GRE} (h : f204 n a1 a2 a3 a4 = some r) : PureSpec Tryz.prog 12 [(vL Form.c a1), (vL Form.c a2), (vL Rule.c a3), (.agg [(vL Node.c a4.fNodes), (vL Val.c a4.fRoots)])] (f204_r r) := by
 rw [f204.eq_1] at h
 refine pure_of hmix ic12 ?_
 refine go_to (mkd (.val undef) 131 0 [(0, (vL Form.c a1)), (1, (vL Form.c a2)), (2, (vL Rule.c a3)), (3, (.agg [(vL Node.c a4.fNodes), (vL Val.c a4.fRoots)]))]) ?_
 refine s_so fun N5 k5 w5 => ?_
 refine o_h2 [(7, (.ptr 0 0)), (8, (.ptr 3 0))] [(some (.box 27 [(vL Node.c a4.fNodes), (vL Val.c a4.fRoots)])), (some (.row 73 2 (List.map Node.c []))), (some (.row 84 2 (List.map Val.c []))), (some (.box 38 [(.own 1 0), (.own 2 0), (vI 0), (vS (ByteArray.mk #[])), (vI 0)]))] ?_
 refine o_end (k5 _ ?_)
 refine s_so fun N6 k6 w6 => ?_
 refine o_r3 [(18, (vL Form.c a1)), (19, (vL Form.c a2)), (20, (vL Rule.c a3))] ?_
 refine bnd h fun r7 g8 h => ?_
 refine o_o (one_call (p_f210 g8)) ?_
 refine o_r1 [(9, (vI r7))] ?_
 refine o_end (k6 _ ?_)
 refine J1 (r := r) (fun (x14 : Int) => ⟨(mkd .any 131 0 [(0, (vL Form.c a1)), (1, (vL Form.c a2)), (2, (vL Rule.c a3)), (7, (.ptr 0 0)), (8, (.ptr 3 0)), (9, (vI x14))]), [(some (.box 27 [(vL Node.c a4.fNodes), (vL Val.c a4.fRoots)])), (some (.row 73 2 (List.map Node.c []))), (some (.row 84 2 (List.map Val.c []))), (some (.box 38 [(.own 1 0), (.own 2 0), (vI 0), (vS (ByteArray.mk #[])), (vI 0)]))]⟩) (f204_k9 n a4 a1 a3 a2) ?_ ?_
 · intro x14 h
   rw [f204_k9.eq_1] at h
   refine s_seq fun N15 k15 w15 => ?_
   refine s_so fun N16 k16 w16 => ?_
   refine o_r2 [(27, (vI x14)), (28, (vB (x14 != 0)))] ?_
   refine o_end (k16 _ ?_)
   refine i_c [28] h (fun h => ?_) (fun h => ?_)
   · refine s_so fun N18 k18 w18 => ?_
     refine o_h3 [(29, (vI x14)), (30, (.agg [(.val (.slice none 0 0)), (.val (.slice none 0 0)), (vI 0), (vS (ByteArray.mk #[])), (vI x14)]))] [(some (.box 27 [(vL Node.c a4.fNodes), (vL Val.c a4.fRoots)])), (some (.row 73 2 (List.map Node.c []))), (some (.row 84 2 (List.map Val.c []))), (some (.box 38 [(.own 4 0), (.own 5 0), (vI 0), (vS (ByteArray.mk #[])), (vI x14)])), (some (.row 73 2 (List.map Node.c []))), (some (.row 84 2 (List.map Val.c [])))] ?_
     refine o_end (k18 _ ?_)
     exact c_ret (retsF [4, 5] [(.agg [(.own 4 0), (.own 5 0), (vI 0), (vS (ByteArray.mk #[])), (vI x14)])] [(.agg [(vL Node.c []), (vL Val.c []), (vI 0), (vS (ByteArray.mk #[])), (vI x14)])] ⟨(fz_agg ⟨(fz_own (g := Node.c) (l := []) (t := 73) (sz := 2) Node.p), (fz_own (g := Val.c) (l := []) (t := 84) (sz := 2) Val.p), fz_v, fz_v, fz_v, trivial⟩), trivial⟩ h)
   · refine c_skip (k15 _ ?_)
     refine s_so fun N19 k19 w19 => ?_
     refine o_h3 [(10, (.ptr 6 0)), (31, (.agg [(.val (.slice none 0 0)), (.val (.slice none 0 0)), (vI 0), (vS (ByteArray.mk #[])), (vI 0)]))] [(some (.box 27 [(vL Node.c a4.fNodes), (vL Val.c a4.fRoots)])), (some (.row 73 2 (List.map Node.c []))), (some (.row 84 2 (List.map Val.c []))), (some (.box 38 [(.own 1 0), (.own 2 0), (vI 0), (vS (ByteArray.mk #[])), (vI 0)])), (some (.row 73 2 (List.map Node.c []))), (some (.row 84 2 (List.map Val.c []))), (some (.box 38 [(.own 7 0), (.own 8 0), (vI 0), (vS (ByteArray.mk #[])), (vI 0)])), (some (.row 73 2 (List.map Node.c []))), (some (.row 84 2 (List.map Val.c [])))] ?_
     refine o_end (k19 _ ?_)
     refine J1 (r := r) (fun (x192 : (List Node)) => ⟨(mkd .any 131 0 [(7, (.ptr 0 0)), (8, (.ptr 3 0)), (10, (.ptr 6 0))]), [(some (.box 27 [(vL Node.c a4.fNodes), (vL Val.c a4.fRoots)])), (some (.row 73 2 (List.map Node.c []))), (some (.row 84 2 (List.map Val.c []))), (some (.box 38 [(.own 1 0), (.own 2 0), (vI 0), (vS (ByteArray.mk #[])), (vI 0)])), none, none, (some (.box 38 [(.own 7 (List.length x192)), (.own 8 0), (vI 0), (vS (ByteArray.mk #[])), (vI 0)])), (some (.row 73 2 (List.map Node.c x192))), (some (.row 84 2 (List.map Val.c [])))]⟩) (f204_k20 a4) ?_ ?_
     · intro x192 h
       rw [f204_k20.eq_1] at h
       refine s_so fun N193 k193 w193 => ?_
       refine o_r5 [(122, (.ptr 6 0)), (123, (.ptr 6 1)), (124, (.own 8 0)), (125, (.ptr 0 1)), (126, (vL Val.c a4.fRoots))] ?_
       refine bnd h fun l194 g195 h => ?_
       refine o_x [(some (.box 27 [(vL Node.c a4.fNodes), (vL Val.c a4.fRoots)])), (some (.row 73 2 (List.map Node.c []))), (some (.row 84 2 (List.map Val.c []))), (some (.box 38 [(.own 1 0), (.own 2 0), (vI 0), (vS (ByteArray.mk #[])), (vI 0)])), none, none, (some (.box 38 [(.own 7 (List.length x192)), (.own 8 0), (vI 0), (vS (ByteArray.mk #[])), (vI 0)])), (some (.row 73 2 (List.map Node.c x192))), (some (.row 84 2 (List.map Val.c l194)))] (one_app (f := Val.c) (o := 8) g195 (fun _ => ⟨rfl, rfl⟩)) ?_
       refine o_h3 [(128, (.ptr 6 0)), (129, (.ptr 6 1))] [(some (.box 27 [(vL Node.c a4.fNodes), (vL Val.c a4.fRoots)])), (some (.row 73 2 (List.map Node.c []))), (some (.row 84 2 (List.map Val.c []))), (some (.box 38 [(.own 1 0), (.own 2 0), (vI 0), (vS (ByteArray.mk #[])), (vI 0)])), none, none, (some (.box 38 [(.own 7 (List.length x192)), (.own 8 (List.length l194)), (vI 0), (vS (ByteArray.mk #[])), (vI 0)])), (some (.row 73 2 (List.map Node.c x192))), (some (.row 84 2 (List.map Val.c l194)))] ?_
       refine o_end (k193 _ ?_)
       refine s_so fun N196 k196 w196 => ?_
       refine o_h2 [(130, (.agg [(.own 7 (List.length x192)), (.own 8 (List.length l194)), (vI 0), (vS (ByteArray.mk #[])), (vI 0)]))] [(some (.box 27 [(vL Node.c a4.fNodes), (vL Val.c a4.fRoots)])), (some (.row 73 2 (List.map Node.c []))), (some (.row 84 2 (List.map Val.c []))), (some (.box 38 [(.own 7 (List.length x192)), (.own 8 (List.length l194)), (vI 0), (vS (ByteArray.mk #[])), (vI 0)])), none, none, (some (.box 38 [(.own 7 (List.length x192)), (.own 8 (List.length l194)), (vI 0), (vS (ByteArray.mk #[])), (vI 0)])), (some (.row 73 2 (List.map Node.c x192))), (some (.row 84 2 (List.map Val.c l194)))] ?_
       refine o_end (k196 _ ?_)
       exact c_ret (retsF [7, 8] [(.agg [(.own 7 (List.length x192)), (.own 8 (List.length l194)), (vI 0), (vS (ByteArray.mk #[])), (vI 0)])] [(.agg [(vL Node.c x192), (vL Val.c l194), (vI 0), (vS (ByteArray.mk #[])), (vI 0)])] ⟨(fz_agg ⟨(fz_own (g := Node.c) (l := x192) (t := 73) (sz := 2) Node.p), (fz_own (g := Val.c) (l := l194) (t := 84) (sz := 2) Val.p), fz_v, fz_v, fz_v, trivial⟩), trivial⟩ h)
     · intro N20 w20
       refine s_so fun N21 k21 w21 => ?_
       refine o_r1 [(11, (vI 0))] ?_
       refine o_end (k21 _ ?_)
       refine c_block fun E22 hE22 hO22 => ?_
       refine W2 (fun (x107 : Int) (x108 : (List Node)) => ⟨(mkd .any 131 0 [(0, (vL Form.c a1)), (1, (vL Form.c a2)), (2, (vL Rule.c a3)), (7, (.ptr 0 0)), (8, (.ptr 3 0)), (10, (.ptr 6 0)), (11, (vI x107))]), [(some (.box 27 [(vL Node.c a4.fNodes), (vL Val.c a4.fRoots)])), (some (.row 73 2 (List.map Node.c []))), (some (.row 84 2 (List.map Val.c []))), (some (.box 38 [(.own 1 0), (.own 2 0), (vI 0), (vS (ByteArray.mk #[])), (vI 0)])), none, none, (some (.box 38 [(.own 7 (List.length x108)), (.own 8 0), (vI 0), (vS (ByteArray.mk #[])), (vI 0)])), (some (.row 73 2 (List.map Node.c x108))), (some (.row 84 2 (List.map Val.c [])))]⟩) (f204_l23 a4 n a1 a3 a2 (f204_k20 a4)) h (wkm [0, 1, 2, 7, 8, 10, 11] (whk (wh_keep (row_below Node.p _ _ _ _) (wh_keep (row_below Val.p _ _ _ _) (whk (wh_drop (wh_drop (whk (wh_keep (row_below Node.p _ _ _ _) (wh_keep (row_below Val.p _ _ _ _) wh_nil)))))))))) (by intros; rw [f204_l23.eq_1]) ?_
       intro m23 x107 x108 h N23 w23
       rw [f204_l23.eq_2] at h
       refine s_seq fun N109 k109 w109 => ?_
       refine s_so fun N110 k110 w110 => ?_
       refine o_r3 [(32, (vI x107)), (33, (.ptr 0 0)), (34, (vL Node.c a4.fNodes))] ?_
       refine o_o (one_len (f := Node.c) (l := a4.fNodes)) ?_
       refine o_r1 [(36, (vB (decide (x107 < (len a4.fNodes)))))] ?_
       refine o_end (k110 _ ?_)
       refine i_c [36] h (fun h => ?_) (fun h => ?_)
       · refine c_skip (k109 _ ?_)
         refine J1 (r := r) (fun (x191 : (List Node)) => ⟨(mkd .any 131 0 [(0, (vL Form.c a1)), (1, (vL Form.c a2)), (2, (vL Rule.c a3)), (7, (.ptr 0 0)), (8, (.ptr 3 0)), (10, (.ptr 6 0)), (11, (vI x107))]), [(some (.box 27 [(vL Node.c a4.fNodes), (vL Val.c a4.fRoots)])), (some (.row 73 2 (List.map Node.c []))), (some (.row 84 2 (List.map Val.c []))), (some (.box 38 [(.own 1 0), (.own 2 0), (vI 0), (vS (ByteArray.mk #[])), (vI 0)])), none, none, (some (.box 38 [(.own 7 (List.length x191)), (.own 8 0), (vI 0), (vS (ByteArray.mk #[])), (vI 0)])), (some (.row 73 2 (List.map Node.c x191))), (some (.row 84 2 (List.map Val.c [])))]⟩) (f204_k113 x107 (f204_l23 a4 n a1 a3 a2 (f204_k20 a4) m23)) ?_ ?_
         · intro x191 h
           rw [f204_k113.eq_1] at h
           refine c_ops ?_
           refine o_r3 [(11, (vI (wr .i64 (x107 + 1)))), (37, (vI x107)), (38, (vI (wr .i64 (x107 + 1))))] ?_
           exact o_end (w23 _ _ _ (wkm [0, 1, 2, 7, 8, 10, 11] (whk (wh_keep (row_below Node.p _ _ _ _) (wh_keep (row_below Val.p _ _ _ _) (whk (wh_none (wh_none (whk (wh_keep (row_below Node.p _ _ _ _) (wh_keep (row_below Val.p _ _ _ _) wh_nil)))))))))) h)
         · intro N113 w113
           refine c_block fun E114 hE114 hO114 => ?_
           refine s_so fun N115 k115 w115 => ?_
           refine o_r5 [(39, (vL Form.c a1)), (40, (vL Form.c a1)), (41, (.ptr 0 0)), (42, (vL Node.c a4.fNodes)), (43, (vI x107))] ?_
           refine bnd h fun x116 g117 h => ?_
           refine o_o (one_ia (f := Node.c) (ki := .i64) g117) ?_
           refine o_r2 [(45, (.iptr [(vS x116.fClass), (vL Val.c x116.fVals)])), (46, (vS x116.fClass))] ?_
           refine bnd h fun r118 g119 h => ?_
           refine o_o (one_call (p_f55 g119)) ?_
           refine bnd h fun x120 g121 h => ?_
           refine o_o (one_ia (f := Form.c) (ki := .i64) g121) ?_
           refine o_h3 [(12, (.ptr 10 0)), (49, (.agg [(vS x120.fName), (vL Col.c x120.fCols)]))] [(some (.box 27 [(vL Node.c a4.fNodes), (vL Val.c a4.fRoots)])), (some (.row 73 2 (List.map Node.c []))), (some (.row 84 2 (List.map Val.c []))), (some (.box 38 [(.own 1 0), (.own 2 0), (vI 0), (vS (ByteArray.mk #[])), (vI 0)])), none, none, (some (.box 38 [(.own 7 (List.length x108)), (.own 8 0), (vI 0), (vS (ByteArray.mk #[])), (vI 0)])), (some (.row 73 2 (List.map Node.c x108))), (some (.row 84 2 (List.map Val.c []))), (some (.row 68 3 (List.map Col.c []))), (some (.box 66 [(vS x120.fName), (vL Col.c x120.fCols)]))] ?_
           refine o_end (w115 _ ⟨(mkd .any 131 0 [(0, (vL Form.c a1)), (1, (vL Form.c a2)), (2, (vL Rule.c a3)), (7, (.ptr 0 0)), (8, (.ptr 3 0)), (10, (.ptr 6 0)), (11, (vI x107)), (12, (.ptr 10 0))]), [(some (.box 27 [(vL Node.c a4.fNodes), (vL Val.c a4.fRoots)])), (some (.row 73 2 (List.map Node.c []))), (some (.row 84 2 (List.map Val.c []))), (some (.box 38 [(.own 1 0), (.own 2 0), (vI 0), (vS (ByteArray.mk #[])), (vI 0)])), none, none, (some (.box 38 [(.own 7 (List.length x108)), (.own 8 0), (vI 0), (vS (ByteArray.mk #[])), (vI 0)])), (some (.row 73 2 (List.map Node.c x108))), (some (.row 84 2 (List.map Val.c []))), none, (some (.box 66 [(vS x120.fName), (vL Col.c x120.fCols)]))]⟩ (wkm [0, 1, 2, 7, 8, 10, 11, 12] (whk (wh_keep (row_below Node.p _ _ _ _) (wh_keep (row_below Val.p _ _ _ _) (whk (wh_none (wh_none (whk (wh_keep (row_below Node.p _ _ _ _) (wh_keep (row_below Val.p _ _ _ _) (wh_drop (whk wh_nil)))))))))))) ?_)
           refine s_so fun N122 k122 w122 => ?_
           refine o_r5 [(50, (vL Rule.c a3)), (51, (vL Rule.c a3)), (52, (.ptr 0 0)), (53, (vL Node.c a4.fNodes)), (54, (vI x107))] ?_
           refine bnd h fun x123 g124 h => ?_
           refine o_o (one_ia (f := Node.c) (ki := .i64) g124) ?_
           refine o_r2 [(56, (.iptr [(vS x123.fClass), (vL Val.c x123.fVals)])), (57, (vS x123.fClass))] ?_
           refine bnd h fun r125 g126 h => ?_
           refine o_o (one_call (p_f212 g126)) ?_
           refine bnd h fun x127 g128 h => ?_
           refine o_o (one_ia (f := Rule.c) (ki := .i64) g128) ?_
           refine o_h3 [(13, (.ptr 12 0)), (60, (.agg [(vS x127.fClass), (vS x127.fTo), (vL Give.c x127.fGives)]))] [(some (.box 27 [(vL Node.c a4.fNodes), (vL Val.c a4.fRoots)])), (some (.row 73 2 (List.map Node.c []))), (some (.row 84 2 (List.map Val.c []))), (some (.box 38 [(.own 1 0), (.own 2 0), (vI 0), (vS (ByteArray.mk #[])), (vI 0)])), none, none, (some (.box 38 [(.own 7 (List.length x108)), (.own 8 0), (vI 0), (vS (ByteArray.mk #[])), (vI 0)])), (some (.row 73 2 (List.map Node.c x108))), (some (.row 84 2 (List.map Val.c []))), none, (some (.box 66 [(vS x120.fName), (vL Col.c x120.fCols)])), (some (.row 82 3 (List.map Give.c []))), (some (.box 71 [(vS x127.fClass), (vS x127.fTo), (vL Give.c x127.fGives)]))] ?_
           refine o_end (k122 _ ?_)
           refine s_so fun N129 k129 w129 => ?_
           refine o_r4 [(61, (vL Form.c a2)), (62, (vL Form.c a2)), (63, (.ptr 12 1)), (64, (vS x127.fTo))] ?_
           refine bnd h fun r130 g131 h => ?_
           refine o_o (one_call (p_f55 g131)) ?_
           refine bnd h fun x132 g133 h => ?_
           refine o_o (one_ia (f := Form.c) (ki := .i64) g133) ?_
           refine o_h3 [(14, (.ptr 14 0)), (67, (.agg [(vS x132.fName), (vL Col.c x132.fCols)]))] [(some (.box 27 [(vL Node.c a4.fNodes), (vL Val.c a4.fRoots)])), (some (.row 73 2 (List.map Node.c []))), (some (.row 84 2 (List.map Val.c []))), (some (.box 38 [(.own 1 0), (.own 2 0), (vI 0), (vS (ByteArray.mk #[])), (vI 0)])), none, none, (some (.box 38 [(.own 7 (List.length x108)), (.own 8 0), (vI 0), (vS (ByteArray.mk #[])), (vI 0)])), (some (.row 73 2 (List.map Node.c x108))), (some (.row 84 2 (List.map Val.c []))), none, (some (.box 66 [(vS x120.fName), (vL Col.c x120.fCols)])), (some (.row 82 3 (List.map Give.c []))), (some (.box 71 [(vS x127.fClass), (vS x127.fTo), (vL Give.c x127.fGives)])), (some (.row 68 3 (List.map Col.c []))), (some (.box 66 [(vS x132.fName), (vL Col.c x132.fCols)]))] ?_
           refine o_end (w129 _ ⟨(mkd .any 131 0 [(0, (vL Form.c a1)), (1, (vL Form.c a2)), (2, (vL Rule.c a3)), (7, (.ptr 0 0)), (8, (.ptr 3 0)), (10, (.ptr 6 0)), (11, (vI x107)), (12, (.ptr 10 0)), (13, (.ptr 12 0)), (14, (.ptr 14 0))]), [(some (.box 27 [(vL Node.c a4.fNodes), (vL Val.c a4.fRoots)])), (some (.row 73 2 (List.map Node.c []))), (some (.row 84 2 (List.map Val.c []))), (some (.box 38 [(.own 1 0), (.own 2 0), (vI 0), (vS (ByteArray.mk #[])), (vI 0)])), none, none, (some (.box 38 [(.own 7 (List.length x108)), (.own 8 0), (vI 0), (vS (ByteArray.mk #[])), (vI 0)])), (some (.row 73 2 (List.map Node.c x108))), (some (.row 84 2 (List.map Val.c []))), none, (some (.box 66 [(vS x120.fName), (vL Col.c x120.fCols)])), none, (some (.box 71 [(vS x127.fClass), (vS x127.fTo), (vL Give.c x127.fGives)])), none, (some (.box 66 [(vS x132.fName), (vL Col.c x132.fCols)]))]⟩ (wkm [0, 1, 2, 7, 8, 10, 11, 12, 13, 14] (whk (wh_keep (row_below Node.p _ _ _ _) (wh_keep (row_below Val.p _ _ _ _) (whk (wh_none (wh_none (whk (wh_keep (row_below Node.p _ _ _ _) (wh_keep (row_below Val.p _ _ _ _) (wh_none (whk (wh_drop (whk (wh_drop (whk wh_nil)))))))))))))))) ?_)
           refine s_so fun N134 k134 w134 => ?_
           refine o_h5 [(15, (.ptr 16 0)), (68, (.ptr 12 1)), (69, (vS x127.fTo)), (70, (.agg [(vS x127.fTo), (.val (.slice none 0 0))]))] [(some (.box 27 [(vL Node.c a4.fNodes), (vL Val.c a4.fRoots)])), (some (.row 73 2 (List.map Node.c []))), (some (.row 84 2 (List.map Val.c []))), (some (.box 38 [(.own 1 0), (.own 2 0), (vI 0), (vS (ByteArray.mk #[])), (vI 0)])), none, none, (some (.box 38 [(.own 7 (List.length x108)), (.own 8 0), (vI 0), (vS (ByteArray.mk #[])), (vI 0)])), (some (.row 73 2 (List.map Node.c x108))), (some (.row 84 2 (List.map Val.c []))), none, (some (.box 66 [(vS x120.fName), (vL Col.c x120.fCols)])), none, (some (.box 71 [(vS x127.fClass), (vS x127.fTo), (vL Give.c x127.fGives)])), none, (some (.box 66 [(vS x132.fName), (vL Col.c x132.fCols)])), (some (.row 84 2 (List.map Val.c []))), (some (.box 73 [(vS x127.fTo), (.own 17 0)])), (some (.row 84 2 (List.map Val.c [])))] ?_
           refine o_end (k134 _ ?_)
           refine J1 (r := r) (fun (x187 : (List Val)) => ⟨(mkd .any 131 0 [(0, (vL Form.c a1)), (1, (vL Form.c a2)), (2, (vL Rule.c a3)), (7, (.ptr 0 0)), (8, (.ptr 3 0)), (10, (.ptr 6 0)), (11, (vI x107)), (15, (.ptr 16 0))]), [(some (.box 27 [(vL Node.c a4.fNodes), (vL Val.c a4.fRoots)])), (some (.row 73 2 (List.map Node.c []))), (some (.row 84 2 (List.map Val.c []))), (some (.box 38 [(.own 1 0), (.own 2 0), (vI 0), (vS (ByteArray.mk #[])), (vI 0)])), none, none, (some (.box 38 [(.own 7 (List.length x108)), (.own 8 0), (vI 0), (vS (ByteArray.mk #[])), (vI 0)])), (some (.row 73 2 (List.map Node.c x108))), (some (.row 84 2 (List.map Val.c []))), none, none, none, none, none, none, none, (some (.box 73 [(vS x127.fTo), (.own 17 (List.length x187))])), (some (.row 84 2 (List.map Val.c x187)))]⟩) (f204_k135 x108 x127 x107 (f204_l23 a4 n a1 a3 a2 (f204_k20 a4) m23)) ?_ ?_
           · intro x187 h
             rw [f204_k135.eq_1] at h
             refine c_ops ?_
             refine o_r4 [(114, (.ptr 6 0)), (115, (.ptr 6 0)), (116, (.own 7 (List.length x108))), (117, (.agg [(vS x127.fTo), (.own 17 (List.length x187))]))] ?_
             refine o_x [(some (.box 27 [(vL Node.c a4.fNodes), (vL Val.c a4.fRoots)])), (some (.row 73 2 (List.map Node.c []))), (some (.row 84 2 (List.map Val.c []))), (some (.box 38 [(.own 1 0), (.own 2 0), (vI 0), (vS (ByteArray.mk #[])), (vI 0)])), none, none, (some (.box 38 [(.own 7 (List.length x108)), (.own 8 0), (vI 0), (vS (ByteArray.mk #[])), (vI 0)])), (some (.row 73 2 (List.map Node.c x108))), (some (.row 84 2 (List.map Val.c []))), none, none, none, none, none, none, none, (some (.box 73 [(vS x127.fTo), (.own 17 (List.length x187))])), none, (some (.row 73 2 (List.map Node.c [(Node.mk x127.fTo x187)])))] (one_bsl (f := Node.c) (ys := [(vS x127.fTo), (vL Val.c x187)]) [(Node.mk x127.fTo x187)] [[(vS x127.fTo), (.own 17 (List.length x187))]] [17] (rl_v (rl_own (g := Val.c) (l := x187) (t := 84) (sz := 2) Val.p rl_nil))) ?_
             refine bnd h fun l189 g190 h => ?_
             refine o_x [(some (.box 27 [(vL Node.c a4.fNodes), (vL Val.c a4.fRoots)])), (some (.row 73 2 (List.map Node.c []))), (some (.row 84 2 (List.map Val.c []))), (some (.box 38 [(.own 1 0), (.own 2 0), (vI 0), (vS (ByteArray.mk #[])), (vI 0)])), none, none, (some (.box 38 [(.own 7 (List.length x108)), (.own 8 0), (vI 0), (vS (ByteArray.mk #[])), (vI 0)])), (some (.row 73 2 (List.map Node.c l189))), (some (.row 84 2 (List.map Val.c []))), none, none, none, none, none, none, none, (some (.box 73 [(vS x127.fTo), (.own 17 (List.length x187))])), none, (some (.row 73 2 (List.map Node.c [(Node.mk x127.fTo x187)])))] (one_app (f := Node.c) (o := 7) g190 (fun _ => ⟨rfl, rfl⟩) (hy := asL_own (t := 73) (sz := 2) (by kernel_rfl))) ?_
             refine o_h3 [(120, (.ptr 6 0)), (121, (.ptr 6 0))] [(some (.box 27 [(vL Node.c a4.fNodes), (vL Val.c a4.fRoots)])), (some (.row 73 2 (List.map Node.c []))), (some (.row 84 2 (List.map Val.c []))), (some (.box 38 [(.own 1 0), (.own 2 0), (vI 0), (vS (ByteArray.mk #[])), (vI 0)])), none, none, (some (.box 38 [(.own 7 (List.length l189)), (.own 8 0), (vI 0), (vS (ByteArray.mk #[])), (vI 0)])), (some (.row 73 2 (List.map Node.c l189))), (some (.row 84 2 (List.map Val.c []))), none, none, none, none, none, none, none, (some (.box 73 [(vS x127.fTo), (.own 17 (List.length x187))])), none, (some (.row 73 2 (List.map Node.c [(Node.mk x127.fTo x187)])))] ?_
             exact o_end (w113 _ _ (wkm [0, 1, 2, 7, 8, 10, 11] (whk (wh_keep (row_below Node.p _ _ _ _) (wh_keep (row_below Val.p _ _ _ _) (whk (wh_none (wh_none (whk (wh_keep (row_below Node.p _ _ _ _) (wh_keep (row_below Val.p _ _ _ _) wh_nil)))))))))) h)
           · intro N135 w135
             refine s_so fun N136 k136 w136 => ?_
             refine o_r1 [(16, (vI 0))] ?_
             refine o_end (k136 _ ?_)
             refine c_block fun E137 hE137 hO137 => ?_
             refine W2 (fun (x162 : Int) (x163 : (List Val)) => ⟨(mkd .any 131 0 [(0, (vL Form.c a1)), (1, (vL Form.c a2)), (2, (vL Rule.c a3)), (7, (.ptr 0 0)), (8, (.ptr 3 0)), (10, (.ptr 6 0)), (11, (vI x107)), (12, (.ptr 10 0)), (13, (.ptr 12 0)), (14, (.ptr 14 0)), (15, (.ptr 16 0)), (16, (vI x162))]), [(some (.box 27 [(vL Node.c a4.fNodes), (vL Val.c a4.fRoots)])), (some (.row 73 2 (List.map Node.c []))), (some (.row 84 2 (List.map Val.c []))), (some (.box 38 [(.own 1 0), (.own 2 0), (vI 0), (vS (ByteArray.mk #[])), (vI 0)])), none, none, (some (.box 38 [(.own 7 (List.length x108)), (.own 8 0), (vI 0), (vS (ByteArray.mk #[])), (vI 0)])), (some (.row 73 2 (List.map Node.c x108))), (some (.row 84 2 (List.map Val.c []))), none, (some (.box 66 [(vS x120.fName), (vL Col.c x120.fCols)])), none, (some (.box 71 [(vS x127.fClass), (vS x127.fTo), (vL Give.c x127.fGives)])), none, (some (.box 66 [(vS x132.fName), (vL Col.c x132.fCols)])), none, (some (.box 73 [(vS x127.fTo), (.own 17 (List.length x163))])), (some (.row 84 2 (List.map Val.c x163)))]⟩) (f204_l138 x132 a4 x107 x127 n x120 (f204_k135 x108 x127 x107 (f204_l23 a4 n a1 a3 a2 (f204_k20 a4) m23))) h (wkm [0, 1, 2, 7, 8, 10, 11, 12, 13, 14, 15, 16] (whk (wh_keep (row_below Node.p _ _ _ _) (wh_keep (row_below Val.p _ _ _ _) (whk (wh_none (wh_none (whk (wh_keep (row_below Node.p _ _ _ _) (wh_keep (row_below Val.p _ _ _ _) (wh_none (whk (wh_none (whk (wh_none (whk (wh_drop (whk (wh_keep (row_below Val.p _ _ _ _) wh_nil))))))))))))))))))) (by intros; rw [f204_l138.eq_1]) ?_
             intro m138 x162 x163 h N138 w138
             rw [f204_l138.eq_2] at h
             refine s_seq fun N164 k164 w164 => ?_
             refine s_so fun N165 k165 w165 => ?_
             refine o_r3 [(71, (vI x162)), (72, (.ptr 14 1)), (73, (vL Col.c x132.fCols))] ?_
             refine o_o (one_len (f := Col.c) (l := x132.fCols)) ?_
             refine o_r1 [(75, (vB (decide (x162 < (len x132.fCols)))))] ?_
             refine o_end (k165 _ ?_)
             refine i_c [75] h (fun h => ?_) (fun h => ?_)
             · refine c_skip (k164 _ ?_)
               refine s_seq fun N168 k168 w168 => ?_
               refine c_block fun E169 hE169 hO169 => ?_
               refine s_seq fun N170 k170 w170 => ?_
               refine c_draw0 ?_
               refine d_r4 [(78, (.agg [(vS x120.fName), (vL Col.c x120.fCols)])), (79, (.ptr 0 0)), (80, (vL Node.c a4.fNodes)), (81, (vI x107))] ?_
               refine bnd h fun x171 g172 h => ?_
               refine d_o (one_ia (f := Node.c) (ki := .i64) g172) ?_
               refine d_r4 [(83, (.agg [(vS x171.fClass), (vL Val.c x171.fVals)])), (84, (.ptr 12 2)), (85, (vL Give.c x127.fGives)), (86, (vI x162))] ?_
               refine bnd h fun x173 g174 h => ?_
               refine d_o (one_ia (f := Give.c) (ki := .i64) g174) ?_
               refine d_r4 [(88, (.agg [(vS x173.fFrom), (vI x173.fHow), (vI x173.fN)])), (89, (.ptr 14 1)), (90, (vL Col.c x132.fCols)), (91, (vI x162))] ?_
               refine bnd h fun x175 g176 h => ?_
               refine d_o (one_ia (f := Col.c) (ki := .i64) g176) ?_
               refine d_r1 [(93, (.agg [(vS x175.fName), (vI x175.fKind), (vS x175.fClass)]))] ?_
               refine bnd h fun r177 g178 h => ?_
               refine d_o (one_call (p_f213 g178)) ?_
               refine d_te (.ptr 18 0) [(some (.box 27 [(vL Node.c a4.fNodes), (vL Val.c a4.fRoots)])), (some (.row 73 2 (List.map Node.c []))), (some (.row 84 2 (List.map Val.c []))), (some (.box 38 [(.own 1 0), (.own 2 0), (vI 0), (vS (ByteArray.mk #[])), (vI 0)])), none, none, (some (.box 38 [(.own 7 (List.length x108)), (.own 8 0), (vI 0), (vS (ByteArray.mk #[])), (vI 0)])), (some (.row 73 2 (List.map Node.c x108))), (some (.row 84 2 (List.map Val.c []))), none, (some (.box 66 [(vS x120.fName), (vL Col.c x120.fCols)])), none, (some (.box 71 [(vS x127.fClass), (vS x127.fTo), (vL Give.c x127.fGives)])), none, (some (.box 66 [(vS x132.fName), (vL Col.c x132.fCols)])), none, (some (.box 73 [(vS x127.fTo), (.own 17 (List.length x163))])), (some (.row 84 2 (List.map Val.c x163))), (some (.box 96 [(vI 0), (vI 0), (vB false)]))] (ra_cat (ra_cat (ra_cat (ra_cat (ra_cat (ra_cat (ra_cat (ra_cat ra_nil (ra_t (ra_t (ra_t (ra_t ra_nil))))) (ra_o (one_ia (f := Node.c) (ki := .i64) g172) ra_nil)) (ra_t (ra_t (ra_t (ra_t ra_nil))))) (ra_o (one_ia (f := Give.c) (ki := .i64) g174) ra_nil)) (ra_t (ra_t (ra_t (ra_t ra_nil))))) (ra_o (one_ia (f := Col.c) (ki := .i64) g176) ra_nil)) (ra_t ra_nil)) (ra_o (one_call (p_f213 g178)) ra_nil)) ?_
               refine d_te (.val undef) [(some (.box 27 [(vL Node.c a4.fNodes), (vL Val.c a4.fRoots)])), (some (.row 73 2 (List.map Node.c []))), (some (.row 84 2 (List.map Val.c []))), (some (.box 38 [(.own 1 0), (.own 2 0), (vI 0), (vS (ByteArray.mk #[])), (vI 0)])), none, none, (some (.box 38 [(.own 7 (List.length x108)), (.own 8 0), (vI 0), (vS (ByteArray.mk #[])), (vI 0)])), (some (.row 73 2 (List.map Node.c x108))), (some (.row 84 2 (List.map Val.c []))), none, (some (.box 66 [(vS x120.fName), (vL Col.c x120.fCols)])), none, (some (.box 71 [(vS x127.fClass), (vS x127.fTo), (vL Give.c x127.fGives)])), none, (some (.box 66 [(vS x132.fName), (vL Col.c x132.fCols)])), none, (some (.box 73 [(vS x127.fTo), (.own 17 (List.length x163))])), (some (.row 84 2 (List.map Val.c x163))), (some (.box 96 [(vI r177.fV.fKind), (vI r177.fV.fN), (vB r177.fIs)]))] (ra_cat (ra_cat (ra_cat (ra_cat (ra_cat (ra_cat (ra_cat (ra_cat ra_nil (ra_s (ra_s (ra_s (ra_s ra_nil))))) (ra_s ra_nil)) (ra_s (ra_s (ra_s (ra_s ra_nil))))) (ra_s ra_nil)) (ra_s (ra_s (ra_s (ra_s ra_nil))))) (ra_s ra_nil)) (ra_s ra_nil)) (ra_s ra_nil)) ?_
               refine d_end (w170 _ ⟨(mkd .any 131 0 [(0, (vL Form.c a1)), (1, (vL Form.c a2)), (2, (vL Rule.c a3)), (7, (.ptr 0 0)), (8, (.ptr 3 0)), (10, (.ptr 6 0)), (11, (vI x107)), (12, (.ptr 10 0)), (13, (.ptr 12 0)), (14, (.ptr 14 0)), (15, (.ptr 16 0)), (16, (vI x162)), (17, (.ptr 18 0))]), [(some (.box 27 [(vL Node.c a4.fNodes), (vL Val.c a4.fRoots)])), (some (.row 73 2 (List.map Node.c []))), (some (.row 84 2 (List.map Val.c []))), (some (.box 38 [(.own 1 0), (.own 2 0), (vI 0), (vS (ByteArray.mk #[])), (vI 0)])), none, none, (some (.box 38 [(.own 7 (List.length x108)), (.own 8 0), (vI 0), (vS (ByteArray.mk #[])), (vI 0)])), (some (.row 73 2 (List.map Node.c x108))), (some (.row 84 2 (List.map Val.c []))), none, (some (.box 66 [(vS x120.fName), (vL Col.c x120.fCols)])), none, (some (.box 71 [(vS x127.fClass), (vS x127.fTo), (vL Give.c x127.fGives)])), none, (some (.box 66 [(vS x132.fName), (vL Col.c x132.fCols)])), none, (some (.box 73 [(vS x127.fTo), (.own 17 (List.length x163))])), (some (.row 84 2 (List.map Val.c x163))), (some (.box 96 [(vI r177.fV.fKind), (vI r177.fV.fN), (vB r177.fIs)]))]⟩ (wkm [0, 1, 2, 7, 8, 10, 11, 12, 13, 14, 15, 16, 17] (whk (wh_keep (row_below Node.p _ _ _ _) (wh_keep (row_below Val.p _ _ _ _) (whk (wh_none (wh_none (whk (wh_keep (row_below Node.p _ _ _ _) (wh_keep (row_below Val.p _ _ _ _) (wh_none (whk (wh_none (whk (wh_none (whk (wh_none (whk (wh_keep (row_below Val.p _ _ _ _) (whk wh_nil)))))))))))))))))))) ?_)
               refine s_seq fun N179 k179 w179 => ?_
               refine s_so fun N180 k180 w180 => ?_
               refine o_r3 [(95, (.ptr 18 2)), (96, (vB r177.fIs)), (97, (vB (!r177.fIs)))] ?_
               refine o_end (k180 _ ?_)
               refine i_c [97] h (fun h => ?_) (fun h => ?_)
               · refine s_so fun N182 k182 w182 => ?_
                 refine o_r4 [(98, (vI x107)), (99, (.ptr 14 1)), (100, (vL Col.c x132.fCols)), (101, (vI x162))] ?_
                 refine bnd h fun x183 g184 h => ?_
                 refine o_o (one_ia (f := Col.c) (ki := .i64) g184) ?_
                 refine o_h5 [(103, (.iptr [(vS x183.fName), (vI x183.fKind), (vS x183.fClass)])), (104, (vS x183.fName)), (105, (.agg [(vI x107), (vS x183.fName)])), (106, (.agg [(.val (.slice none 0 0)), (.val (.slice none 0 0)), (vI x107), (vS x183.fName), (vI 10)]))] [(some (.box 27 [(vL Node.c a4.fNodes), (vL Val.c a4.fRoots)])), (some (.row 73 2 (List.map Node.c []))), (some (.row 84 2 (List.map Val.c []))), (some (.box 38 [(.own 19 0), (.own 20 0), (vI x107), (vS x183.fName), (vI 10)])), none, none, (some (.box 38 [(.own 7 (List.length x108)), (.own 8 0), (vI 0), (vS (ByteArray.mk #[])), (vI 0)])), (some (.row 73 2 (List.map Node.c x108))), (some (.row 84 2 (List.map Val.c []))), none, (some (.box 66 [(vS x120.fName), (vL Col.c x120.fCols)])), none, (some (.box 71 [(vS x127.fClass), (vS x127.fTo), (vL Give.c x127.fGives)])), none, (some (.box 66 [(vS x132.fName), (vL Col.c x132.fCols)])), none, (some (.box 73 [(vS x127.fTo), (.own 17 (List.length x163))])), (some (.row 84 2 (List.map Val.c x163))), (some (.box 96 [(vI r177.fV.fKind), (vI r177.fV.fN), (vB r177.fIs)])), (some (.row 73 2 (List.map Node.c []))), (some (.row 84 2 (List.map Val.c [])))] ?_
                 refine o_end (w182 _ ⟨(mkd .any 131 0 [(8, (.ptr 3 0))]), [none, none, none, (some (.box 38 [(.own 19 0), (.own 20 0), (vI x107), (vS x183.fName), (vI 10)])), none, none, none, none, none, none, none, none, none, none, none, none, none, none, none, (some (.row 73 2 (List.map Node.c []))), (some (.row 84 2 (List.map Val.c [])))]⟩ (wkm [8] (wh_drop (wh_drop (wh_drop (whk (wh_none (wh_none (wh_drop (wh_drop (wh_drop (wh_none (wh_drop (wh_none (wh_drop (wh_none (wh_drop (wh_none (wh_drop (wh_drop (wh_drop (wh_keep (row_below Node.p _ _ _ _) (wh_keep (row_below Val.p _ _ _ _) wh_nil)))))))))))))))))))))) ?_)
                 exact c_ret (retsF [19, 20] [(.agg [(.own 19 0), (.own 20 0), (vI x107), (vS x183.fName), (vI 10)])] [(.agg [(vL Node.c []), (vL Val.c []), (vI x107), (vS x183.fName), (vI 10)])] ⟨(fz_agg ⟨(fz_own (g := Node.c) (l := []) (t := 73) (sz := 2) Node.p), (fz_own (g := Val.c) (l := []) (t := 84) (sz := 2) Val.p), fz_v, fz_v, fz_v, trivial⟩), trivial⟩ h)
               · refine c_skip (k179 _ ?_)
                 refine c_ops ?_
                 refine o_r5 [(107, (.ptr 16 1)), (108, (.own 17 (List.length x163))), (109, (.ptr 18 0)), (110, (.agg [(vI r177.fV.fKind), (vI r177.fV.fN)])), (111, (vL Val.c [(Val.mk r177.fV.fKind r177.fV.fN)]))] ?_
                 refine bnd h fun l185 g186 h => ?_
                 refine o_x [(some (.box 27 [(vL Node.c a4.fNodes), (vL Val.c a4.fRoots)])), (some (.row 73 2 (List.map Node.c []))), (some (.row 84 2 (List.map Val.c []))), (some (.box 38 [(.own 1 0), (.own 2 0), (vI 0), (vS (ByteArray.mk #[])), (vI 0)])), none, none, (some (.box 38 [(.own 7 (List.length x108)), (.own 8 0), (vI 0), (vS (ByteArray.mk #[])), (vI 0)])), (some (.row 73 2 (List.map Node.c x108))), (some (.row 84 2 (List.map Val.c []))), none, (some (.box 66 [(vS x120.fName), (vL Col.c x120.fCols)])), none, (some (.box 71 [(vS x127.fClass), (vS x127.fTo), (vL Give.c x127.fGives)])), none, (some (.box 66 [(vS x132.fName), (vL Col.c x132.fCols)])), none, (some (.box 73 [(vS x127.fTo), (.own 17 (List.length x163))])), (some (.row 84 2 (List.map Val.c l185))), (some (.box 96 [(vI r177.fV.fKind), (vI r177.fV.fN), (vB r177.fIs)]))] (one_app (f := Val.c) (o := 17) g186 (fun _ => ⟨rfl, rfl⟩)) ?_
                 refine o_h2 [(113, (.ptr 16 1))] [(some (.box 27 [(vL Node.c a4.fNodes), (vL Val.c a4.fRoots)])), (some (.row 73 2 (List.map Node.c []))), (some (.row 84 2 (List.map Val.c []))), (some (.box 38 [(.own 1 0), (.own 2 0), (vI 0), (vS (ByteArray.mk #[])), (vI 0)])), none, none, (some (.box 38 [(.own 7 (List.length x108)), (.own 8 0), (vI 0), (vS (ByteArray.mk #[])), (vI 0)])), (some (.row 73 2 (List.map Node.c x108))), (some (.row 84 2 (List.map Val.c []))), none, (some (.box 66 [(vS x120.fName), (vL Col.c x120.fCols)])), none, (some (.box 71 [(vS x127.fClass), (vS x127.fTo), (vL Give.c x127.fGives)])), none, (some (.box 66 [(vS x132.fName), (vL Col.c x132.fCols)])), none, (some (.box 73 [(vS x127.fTo), (.own 17 (List.length l185))])), (some (.row 84 2 (List.map Val.c l185))), (some (.box 96 [(vI r177.fV.fKind), (vI r177.fV.fN), (vB r177.fIs)]))] ?_
                 refine o_end (k168 _ ?_)
                 refine c_ops ?_
                 refine o_r3 [(16, (vI (wr .i64 (x162 + 1)))), (76, (vI x162)), (77, (vI (wr .i64 (x162 + 1))))] ?_
                 exact o_end (w138 _ _ _ (wkm [0, 1, 2, 7, 8, 10, 11, 12, 13, 14, 15, 16] (whk (wh_keep (row_below Node.p _ _ _ _) (wh_keep (row_below Val.p _ _ _ _) (whk (wh_none (wh_none (whk (wh_keep (row_below Node.p _ _ _ _) (wh_keep (row_below Val.p _ _ _ _) (wh_none (whk (wh_none (whk (wh_none (whk (wh_none (whk (wh_keep (row_below Val.p _ _ _ _) wh_nil))))))))))))))))))) h)
             · refine c_exit (hE137 _ ?_)
               exact w135 _ _ (wkm [0, 1, 2, 7, 8, 10, 11, 15] (whk (wh_keep (row_below Node.p _ _ _ _) (wh_keep (row_below Val.p _ _ _ _) (whk (wh_none (wh_none (whk (wh_keep (row_below Node.p _ _ _ _) (wh_keep (row_below Val.p _ _ _ _) (wh_none (wh_drop (wh_none (wh_drop (wh_none (wh_drop (wh_none (whk (wh_keep (row_below Val.p _ _ _ _) wh_nil))))))))))))))))))) h
       · refine c_exit (hE22 _ ?_)
         exact w20 _ _ (wkm [7, 8, 10] (whk (wh_keep (row_below Node.p _ _ _ _) (wh_keep (row_below Val.p _ _ _ _) (whk (wh_none (wh_none (whk (wh_keep (row_below Node.p _ _ _ _) (wh_keep (row_below Val.p _ _ _ _) wh_nil)))))))))) h
 · intro N9 w9
   refine s_so fun N10 k10 w10 => ?_
   refine o_r2 [(22, (vI r7)), (23, (vB (r7 == 0)))] ?_
   refine o_end (k10 _ ?_)
   refine i_c [23] h (fun h => ?_) (fun h => ?_)
   · refine c_ops ?_
     refine o_r2 [(24, (vL Form.c a1)), (25, (.agg [(vL Node.c a4.fNodes), (vL Val.c a4.fRoots)]))] ?_
     refine bnd h fun r12 g13 h => ?_
     refine o_o (one_call (p_f19 g13)) ?_
     refine o_r1 [(9, (vI r12))] ?_
     exact o_end (w9 _ _ (wkm [0, 1, 2, 7, 8, 9] (whk (wh_keep (row_below Node.p _ _ _ _) (wh_keep (row_below Val.p _ _ _ _) (whk wh_nil))))) h)
   · exact c_skip (w9 _ _ (wkm [0, 1, 2, 7, 8, 9] (whk (wh_keep (row_below Node.p _ _ _ _) (wh_keep (row_below Val.p _ _ _ _) (whk wh_nil))))) h)
theorem ic43 : fnIC Tryz.prog H0 43 = some ([.tmp 4], 26, (.seq (.ops [zO 4 (.mov (.c (.bool false)))]) (.seq (.seq (.ops [zM 6 0, zO 7 (.len false (.t 6)), zM 8 1, zO 9 (.len false (.t 8)), zO 10 (.sc (.bin .neq 3) [(.t 7), (.t 9)])]) (.cond (.t 10)
  (.seq (.ops [zO 4 (.mov (.c (.bool false)))]) .ret)
  .skip)) (.seq (.seq (.ops [zO 5 (.mov (.c (.int .i64 0)))]) (.block 0 (.loop (.seq (.seq (.ops [zM 11 5, zM 12 0, zO 13 (.len false (.t 12)), zO 14 (.sc (.bin .lss 3) [(.t 11), (.t 13)])]) (.cond (.t 14)
  .skip
  (.exit 0))) (.seq (.block 1 (.seq (.draw [] [zQ (zM 17 0), zQ (zM 18 5), zQ (zO 19 (.iaddr 2 (.t 17) (.t 18))), zQ (zO 20 (.ld (.t 19) 2 true)), zQ (zM 21 1), zQ (zM 22 5), zQ (zO 23 (.iaddr 2 (.t 21) (.t 22))), zQ (zO 24 (.ld (.t 23) 2 true)), zQ (zO 25 (.sc (.bin .neq 84) [(.t 20), (.t 24)]))]) (.cond (.t 25)
  (.seq (.ops [zO 4 (.mov (.c (.bool false)))]) .ret)
  .skip))) (.ops [zM 15 5, zO 16 (.sc (.bin .add 3) [(.t 15), (.c (.int .i64 1))]), zM 5 16])))))) (.seq (.ops [zO 4 (.mov (.c (.bool true)))]) .ret))))) := by kernel_rfl
def f75_k10 : Option Bool := some true
def f75_l13 (a1 : (List Val)) (a2 : (List Val)) (k10k : Option Bool) : Nat → Int → Option Bool
  | 0, _ => none
  | m13 + 1, x28 => (bif (decide (x28 < (len a1))) then ((gi a1 x28).bind fun x36 => ((gi a2 x28).bind fun x38 => (bif (!(Val.eqB x36 x38)) then some false else (f75_l13 a1 a2 (k10k) m13 (wr .i64 (x28 + 1)))))) else (k10k))
def f75 (n : Nat) (a1 : (List Val)) (a2 : (List Val)) : Option Bool := (bif ((len a1) != (len a2)) then some false else (f75_l13 a1 a2 (f75_k10) n 0))
def f75_r (r : Bool) : AV := (vB r)
theorem p_f75 {n : Nat} {a1 : (List Val)} {a2 : (List Val)} {r : Bool} (h : f75 n a1 a2 = some r) : PureSpec Tryz.prog 43 [(vL Val.c a1), (vL Val.c a2)] (f75_r r) := by
 rw [f75.eq_1] at h
 refine pure_of hmix ic43 ?_
 refine go_to (mkd (.val undef) 26 0 [(0, (vL Val.c a1)), (1, (vL Val.c a2))]) ?_
 refine s_so fun N3 k3 w3 => ?_
 refine o_r1 [(4, (vB false))] ?_
 refine o_end (k3 _ ?_)
 refine s_seq fun N4 k4 w4 => ?_
 refine s_so fun N5 k5 w5 => ?_
 refine o_r1 [(6, (vL Val.c a1))] ?_
 refine o_o (one_len (f := Val.c) (l := a1)) ?_
 refine o_r1 [(8, (vL Val.c a2))] ?_
 refine o_o (one_len (f := Val.c) (l := a2)) ?_
 refine o_r1 [(10, (vB ((len a1) != (len a2))))] ?_
 refine o_end (k5 _ ?_)
 refine i_c [10] h (fun h => ?_) (fun h => ?_)
 · refine s_so fun N9 k9 w9 => ?_
   refine o_r1 [] ?_
   refine o_end (k9 _ ?_)
   exact c_ret (rets [] [(vB false)] [(vB false)] h)
 · refine c_skip (k4 _ ?_)
   refine J0 (r := r) ⟨(mkd .any 26 0 []), []⟩ (f75_k10) ?_ ?_
   · intro h
     rw [f75_k10.eq_1] at h
     refine s_so fun N43 k43 w43 => ?_
     refine o_r1 [(4, (vB true))] ?_
     refine o_end (k43 _ ?_)
     exact c_ret (rets [] [(vB true)] [(vB true)] h)
   · intro N10 w10
     refine s_so fun N11 k11 w11 => ?_
     refine o_r1 [(5, (vI 0))] ?_
     refine o_end (k11 _ ?_)
     refine c_block fun E12 hE12 hO12 => ?_
     refine W1 (fun (x28 : Int) => ⟨(mkd .any 26 0 [(0, (vL Val.c a1)), (1, (vL Val.c a2)), (5, (vI x28))]), []⟩) (f75_l13 a1 a2 (f75_k10)) h (wkm [0, 1, 5] wh_nil) (by intros; rw [f75_l13.eq_1]) ?_
     intro m13 x28 h N13 w13
     rw [f75_l13.eq_2] at h
     refine s_seq fun N29 k29 w29 => ?_
     refine s_so fun N30 k30 w30 => ?_
     refine o_r2 [(11, (vI x28)), (12, (vL Val.c a1))] ?_
     refine o_o (one_len (f := Val.c) (l := a1)) ?_
     refine o_r1 [(14, (vB (decide (x28 < (len a1)))))] ?_
     refine o_end (k30 _ ?_)
     refine i_c [14] h (fun h => ?_) (fun h => ?_)
     · refine c_skip (k29 _ ?_)
       refine s_seq fun N33 k33 w33 => ?_
       refine c_block fun E34 hE34 hO34 => ?_
       refine s_seq fun N35 k35 w35 => ?_
       refine c_draw0 ?_
       refine d_r2 [(17, (vL Val.c a1)), (18, (vI x28))] ?_
       refine bnd h fun x36 g37 h => ?_
       refine d_o (one_ia (f := Val.c) (ki := .i64) g37) ?_
       refine d_r3 [(20, (.agg [(vI x36.fKind), (vI x36.fN)])), (21, (vL Val.c a2)), (22, (vI x28))] ?_
       refine bnd h fun x38 g39 h => ?_
       refine d_o (one_ia (f := Val.c) (ki := .i64) g39) ?_
       refine d_r1 [(24, (.agg [(vI x38.fKind), (vI x38.fN)]))] ?_
       refine d_o (one_sc (vs := [.agg #[.int .i64 x36.fKind, .int .i64 x36.fN], .agg #[.int .i64 x38.fKind, .int .i64 x38.fN]]) (sc_nes (r := Val.eqB x36 x38))) ?_
       refine d_end (k35 _ ?_)
       refine i_c [25] h (fun h => ?_) (fun h => ?_)
       · refine s_so fun N42 k42 w42 => ?_
         refine o_r1 [(4, (vB false))] ?_
         refine s_tm (mkd .any 26 0 [(0, (vL Val.c a1)), (1, (vL Val.c a2)), (4, (vB false)), (5, (vI x28)), (11, (vI x28)), (12, (vL Val.c a1)), (13, (vI (len a1))), (14, (vB true)), (17, (vL Val.c a1)), (18, (vI x28)), (19, (.iptr [(vI x36.fKind), (vI x36.fN)])), (20, (.agg [(vI x36.fKind), (vI x36.fN)])), (21, (vL Val.c a2)), (22, (vI x28)), (23, (.iptr [(vI x38.fKind), (vI x38.fN)])), (24, (.agg [(vI x38.fKind), (vI x38.fN)])), (25, (vB true))]) ?_
         refine o_end (w42 _ ⟨(mkd .any 26 0 [(4, (vB false))]), []⟩ (wkm [4] wh_nil) ?_)
         exact c_ret (rets [] [(vB false)] [(vB false)] h)
       · refine c_skip (k33 _ ?_)
         refine c_ops ?_
         refine o_r3 [(5, (vI (wr .i64 (x28 + 1)))), (15, (vI x28)), (16, (vI (wr .i64 (x28 + 1))))] ?_
         refine s_tm (mkd .any 26 0 [(0, (vL Val.c a1)), (1, (vL Val.c a2)), (5, (vI (wr .i64 (x28 + 1)))), (11, (vI x28)), (12, (vL Val.c a1)), (13, (vI (len a1))), (14, (vB true)), (15, (vI x28)), (16, (vI (wr .i64 (x28 + 1)))), (17, (vL Val.c a1)), (18, (vI x28)), (19, (.iptr [(vI x36.fKind), (vI x36.fN)])), (20, (.agg [(vI x36.fKind), (vI x36.fN)])), (21, (vL Val.c a2)), (22, (vI x28)), (23, (.iptr [(vI x38.fKind), (vI x38.fN)])), (24, (.agg [(vI x38.fKind), (vI x38.fN)])), (25, (vB false))]) ?_
         exact o_end (w13 _ _ (wkm [0, 1, 5] wh_nil) h)
     · refine c_exit (hE12 _ ?_)
       exact w10 _ (wkm [] wh_nil) h
theorem ic13 : fnIC Tryz.prog H0 13 = some ([.tmp 4], 61, (.seq (.ops [zO 2 (.box 0 27 [(0, 73, 2, 0), (1, 84, 2, 0)] (.t 0)), zO 3 (.box 0 27 [(0, 73, 2, 0), (1, 84, 2, 0)] (.t 1)), zO 4 (.mov (.c (.bool false)))]) (.seq (.ops [zO 8 (.faddr (.t 2) 1), zO 9 (.ld (.t 8) 1 false), zO 10 (.faddr (.t 3) 1), zO 11 (.ld (.t 10) 1 false), zO 12 (.call 43 [(.t 9), (.t 11)]), zM 5 12]) (.seq (.seq (.ops [zM 13 5, zO 14 (.sc (.un .not) [(.t 13)]), zM 15 14, zG 16 15 false (.faddr (.t 2) 0), zG 17 15 false (.ld (.t 16) 1 false), zG 18 15 false (.len false (.t 17)), zG 19 15 false (.faddr (.t 3) 0), zG 20 15 false (.ld (.t 19) 1 false), zG 21 15 false (.len false (.t 20)), zG 22 15 false (.sc (.bin .neq 3) [(.t 18), (.t 21)]), zO 23 (.pick (.t 15) (.c (.bool true)) (.t 22))]) (.cond (.t 23)
  (.seq (.ops [zO 4 (.mov (.c (.bool false)))]) .ret)
  .skip)) (.seq (.seq (.ops [zO 6 (.mov (.c (.int .i64 0)))]) (.block 0 (.loop (.seq (.seq (.ops [zM 24 6, zO 25 (.faddr (.t 2) 0), zO 26 (.ld (.t 25) 1 false), zO 27 (.len false (.t 26)), zO 28 (.sc (.bin .lss 3) [(.t 24), (.t 27)])]) (.cond (.t 28)
  .skip
  (.exit 0))) (.seq (.block 1 (.seq (.draw [] [zQ (zO 31 (.faddr (.t 2) 0)), zQ (zO 32 (.ld (.t 31) 1 false)), zQ (zM 33 6), zQ (zO 34 (.iaddr 2 (.t 32) (.t 33))), zQ (zO 35 (.faddr (.t 34) 1)), zQ (zO 36 (.ld (.t 35) 1 false)), zQ (zO 37 (.faddr (.t 3) 0)), zQ (zO 38 (.ld (.t 37) 1 false)), zQ (zM 39 6), zQ (zO 40 (.iaddr 2 (.t 38) (.t 39))), zQ (zO 41 (.faddr (.t 40) 1)), zQ (zO 42 (.ld (.t 41) 1 false)), zQ (zO 43 (.call 43 [(.t 36), (.t 42)])), zQ (zM 7 43)]) (.seq (.draw [] [zQ (zM 44 7), zQ (zO 45 (.sc (.un .not) [(.t 44)])), zQ (zM 46 45), zQ (zG 47 46 false (.faddr (.t 2) 0)), zQ (zG 48 46 false (.ld (.t 47) 1 false)), zQ (zN 49 46 false 6), zQ (zG 50 46 false (.iaddr 2 (.t 48) (.t 49))), zQ (zG 51 46 false (.faddr (.t 50) 0)), zQ (zG 52 46 false (.ld (.t 51) 1 false)), zQ (zG 53 46 false (.faddr (.t 3) 0)), zQ (zG 54 46 false (.ld (.t 53) 1 false)), zQ (zN 55 46 false 6), zQ (zG 56 46 false (.iaddr 2 (.t 54) (.t 55))), zQ (zG 57 46 false (.faddr (.t 56) 0)), zQ (zG 58 46 false (.ld (.t 57) 1 false)), zQ (zG 59 46 false (.sc (.bin .neq 9) [(.t 52), (.t 58)])), zQ (zO 60 (.pick (.t 46) (.c (.bool true)) (.t 59)))]) (.cond (.t 60)
  (.seq (.ops [zO 4 (.mov (.c (.bool false)))]) .ret)
  .skip)))) (.ops [zM 29 6, zO 30 (.sc (.bin .add 3) [(.t 29), (.c (.int .i64 1))]), zM 6 30])))))) (.seq (.ops [zO 4 (.mov (.c (.bool true)))]) .ret)))))) := by kernel_rfl
def f27_k56 (x42 : Int) (c18k : Int → Option Bool) (x63 : Bool) : Option Bool := (bif x63 then some false else (c18k (wr .i64 (x42 + 1))))
def f27_k15 : Option Bool := some true
def f27_l18 (a1 : Graph) (a2 : Graph) (n : Nat) (k15k : Option Bool) : Nat → Int → Option Bool
  | 0, _ => none
  | m18 + 1, x42 => (bif (decide (x42 < (len a1.fNodes))) then ((gi a1.fNodes x42).bind fun x50 => ((gi a2.fNodes x42).bind fun x52 => ((f75 n x50.fVals x52.fVals).bind fun r54 => (bif (!r54) then (f27_k56 x42 (f27_l18 a1 a2 n (k15k) m18) true) else ((gi a1.fNodes x42).bind fun x58 => ((gi a2.fNodes x42).bind fun x60 => (f27_k56 x42 (f27_l18 a1 a2 n (k15k) m18) (!(sEqF x58.fClass x60.fClass))))))))) else (k15k))
def f27_k8 (n : Nat) (a1 : Graph) (a2 : Graph) (x12 : Bool) : Option Bool := (bif x12 then some false else (f27_l18 a1 a2 n (f27_k15) n 0))
def f27 (n : Nat) (a1 : Graph) (a2 : Graph) : Option Bool := ((f75 n a1.fRoots a2.fRoots).bind fun r5 => (bif (!r5) then (f27_k8 n a1 a2 true) else (f27_k8 n a1 a2 ((len a1.fNodes) != (len a2.fNodes)))))
def f27_r (r : Bool) : AV := (vB r)
theorem p_f27 {n : Nat} {a1 : Graph} {a2 : Graph} {r : Bool} (h : f27 n a1 a2 = some r) : PureSpec Tryz.prog 13 [(.agg [(vL Node.c a1.fNodes), (vL Val.c a1.fRoots)]), (.agg [(vL Node.c a2.fNodes), (vL Val.c a2.fRoots)])] (f27_r r) := by
 rw [f27.eq_1] at h
 refine pure_of hmix ic13 ?_
 refine go_to (mkd (.val undef) 61 0 [(0, (.agg [(vL Node.c a1.fNodes), (vL Val.c a1.fRoots)])), (1, (.agg [(vL Node.c a2.fNodes), (vL Val.c a2.fRoots)]))]) ?_
 refine s_so fun N3 k3 w3 => ?_
 refine o_h3 [(2, (.ptr 0 0)), (3, (.ptr 1 0)), (4, (vB false))] [(some (.box 27 [(vL Node.c a1.fNodes), (vL Val.c a1.fRoots)])), (some (.box 27 [(vL Node.c a2.fNodes), (vL Val.c a2.fRoots)]))] ?_
 refine o_end (k3 _ ?_)
 refine s_so fun N4 k4 w4 => ?_
 refine o_r4 [(8, (.ptr 0 1)), (9, (vL Val.c a1.fRoots)), (10, (.ptr 1 1)), (11, (vL Val.c a2.fRoots))] ?_
 refine bnd h fun r5 g6 h => ?_
 refine o_o (one_call (p_f75 g6)) ?_
 refine o_r1 [(5, (vB r5))] ?_
 refine o_end (k4 _ ?_)
 refine s_seq fun N7 k7 w7 => ?_
 refine J1 (r := r) (fun (x12 : Bool) => ⟨(mkd .any 61 0 [(2, (.ptr 0 0)), (3, (.ptr 1 0)), (23, (vB x12))]), [(some (.box 27 [(vL Node.c a1.fNodes), (vL Val.c a1.fRoots)])), (some (.box 27 [(vL Node.c a2.fNodes), (vL Val.c a2.fRoots)]))]⟩) (f27_k8 n a1 a2) ?_ ?_
 · intro x12 h
   rw [f27_k8.eq_1] at h
   refine i_c [23] h (fun h => ?_) (fun h => ?_)
   · refine s_so fun N14 k14 w14 => ?_
     refine o_r1 [(4, (vB false))] ?_
     refine o_end (k14 _ ?_)
     exact c_ret (rets [] [(vB false)] [(vB false)] h)
   · refine c_skip (k7 _ ?_)
     refine J0 (r := r) ⟨(mkd .any 61 0 []), []⟩ (f27_k15) ?_ ?_
     · intro h
       rw [f27_k15.eq_1] at h
       refine s_so fun N66 k66 w66 => ?_
       refine o_r1 [(4, (vB true))] ?_
       refine o_end (k66 _ ?_)
       exact c_ret (rets [] [(vB true)] [(vB true)] h)
     · intro N15 w15
       refine s_so fun N16 k16 w16 => ?_
       refine o_r1 [(6, (vI 0))] ?_
       refine o_end (k16 _ ?_)
       refine c_block fun E17 hE17 hO17 => ?_
       refine W1 (fun (x42 : Int) => ⟨(mkd .any 61 0 [(2, (.ptr 0 0)), (3, (.ptr 1 0)), (6, (vI x42))]), [(some (.box 27 [(vL Node.c a1.fNodes), (vL Val.c a1.fRoots)])), (some (.box 27 [(vL Node.c a2.fNodes), (vL Val.c a2.fRoots)]))]⟩) (f27_l18 a1 a2 n (f27_k15)) h (wkm [2, 3, 6] (whk (whk wh_nil))) (by intros; rw [f27_l18.eq_1]) ?_
       intro m18 x42 h N18 w18
       rw [f27_l18.eq_2] at h
       refine s_seq fun N43 k43 w43 => ?_
       refine s_so fun N44 k44 w44 => ?_
       refine o_r3 [(24, (vI x42)), (25, (.ptr 0 0)), (26, (vL Node.c a1.fNodes))] ?_
       refine o_o (one_len (f := Node.c) (l := a1.fNodes)) ?_
       refine o_r1 [(28, (vB (decide (x42 < (len a1.fNodes)))))] ?_
       refine o_end (k44 _ ?_)
       refine i_c [28] h (fun h => ?_) (fun h => ?_)
       · refine c_skip (k43 _ ?_)
         refine s_seq fun N47 k47 w47 => ?_
         refine c_block fun E48 hE48 hO48 => ?_
         refine s_seq fun N49 k49 w49 => ?_
         refine c_draw0 ?_
         refine d_r3 [(31, (.ptr 0 0)), (32, (vL Node.c a1.fNodes)), (33, (vI x42))] ?_
         refine bnd h fun x50 g51 h => ?_
         refine d_o (one_ia (f := Node.c) (ki := .i64) g51) ?_
         refine d_r5 [(35, (.iptr [(vL Val.c x50.fVals)])), (36, (vL Val.c x50.fVals)), (37, (.ptr 1 0)), (38, (vL Node.c a2.fNodes)), (39, (vI x42))] ?_
         refine bnd h fun x52 g53 h => ?_
         refine d_o (one_ia (f := Node.c) (ki := .i64) g53) ?_
         refine d_r2 [(41, (.iptr [(vL Val.c x52.fVals)])), (42, (vL Val.c x52.fVals))] ?_
         refine bnd h fun r54 g55 h => ?_
         refine d_o (one_call (p_f75 g55)) ?_
         refine d_r1 [(7, (vB r54))] ?_
         refine d_end (w49 _ ⟨(mkd .any 61 0 [(2, (.ptr 0 0)), (3, (.ptr 1 0)), (6, (vI x42)), (7, (vB r54))]), [(some (.box 27 [(vL Node.c a1.fNodes), (vL Val.c a1.fRoots)])), (some (.box 27 [(vL Node.c a2.fNodes), (vL Val.c a2.fRoots)]))]⟩ (wkm [2, 3, 6, 7] (whk (whk wh_nil))) ?_)
         refine J1 (r := r) (fun (x63 : Bool) => ⟨(mkd .any 61 0 [(2, (.ptr 0 0)), (3, (.ptr 1 0)), (6, (vI x42)), (60, (vB x63))]), [(some (.box 27 [(vL Node.c a1.fNodes), (vL Val.c a1.fRoots)])), (some (.box 27 [(vL Node.c a2.fNodes), (vL Val.c a2.fRoots)]))]⟩) (f27_k56 x42 (f27_l18 a1 a2 n (f27_k15) m18)) ?_ ?_
         · intro x63 h
           rw [f27_k56.eq_1] at h
           refine i_c [60] h (fun h => ?_) (fun h => ?_)
           · refine s_so fun N65 k65 w65 => ?_
             refine o_r1 [(4, (vB false))] ?_
             refine o_end (k65 _ ?_)
             exact c_ret (rets [] [(vB false)] [(vB false)] h)
           · refine c_skip (k47 _ ?_)
             refine c_ops ?_
             refine o_r3 [(6, (vI (wr .i64 (x42 + 1)))), (29, (vI x42)), (30, (vI (wr .i64 (x42 + 1))))] ?_
             exact o_end (w18 _ _ (wkm [2, 3, 6] (whk (whk wh_nil))) h)
         · intro N56 w56
           refine c_draw0 ?_
           refine d_r3 [(44, (vB r54)), (45, (vB (!r54))), (46, (vB (!r54)))] ?_
           refine i_d [45, 46] h (fun h => ?_) (fun h => ?_)
           · refine d_r14 [(47, (.val undef)), (48, (.val undef)), (49, (.val undef)), (50, (.val undef)), (51, (.val undef)), (52, (.val undef)), (53, (.val undef)), (54, (.val undef)), (55, (.val undef)), (56, (.val undef)), (57, (.val undef)), (58, (.val undef)), (59, (.val undef)), (60, (vB true))] ?_
             exact d_end (w56 _ _ (wkm [2, 3, 6, 60] (whk (whk wh_nil))) h)
           · refine d_r3 [(47, (.ptr 0 0)), (48, (vL Node.c a1.fNodes)), (49, (vI x42))] ?_
             refine bnd h fun x58 g59 h => ?_
             refine d_g (one_ia (f := Node.c) (ki := .i64) g59) ?_
             refine d_r5 [(51, (.iptr [(vS x58.fClass), (vL Val.c x58.fVals)])), (52, (vS x58.fClass)), (53, (.ptr 1 0)), (54, (vL Node.c a2.fNodes)), (55, (vI x42))] ?_
             refine bnd h fun x60 g61 h => ?_
             refine d_g (one_ia (f := Node.c) (ki := .i64) g61) ?_
             refine d_r2 [(57, (.iptr [(vS x60.fClass), (vL Val.c x60.fVals)])), (58, (vS x60.fClass))] ?_
             refine d_g (one_sc (vs := [.string x58.fClass, .string x60.fClass]) (str_neq x58.fClass x60.fClass)) ?_
             refine d_r1 [(60, (vB (!(sEqF x58.fClass x60.fClass))))] ?_
             exact d_end (w56 _ _ (wkm [2, 3, 6, 60] (whk (whk wh_nil))) h)
       · refine c_exit (hE17 _ ?_)
         exact w15 _ (wkm [] wh_nil) h
 · intro N8 w8
   refine c_ops ?_
   refine o_r3 [(13, (vB r5)), (14, (vB (!r5))), (15, (vB (!r5)))] ?_
   refine i_o [14, 15] h (fun h => ?_) (fun h => ?_)
   · refine o_r8 [(16, (.val undef)), (17, (.val undef)), (18, (.val undef)), (19, (.val undef)), (20, (.val undef)), (21, (.val undef)), (22, (.val undef)), (23, (vB true))] ?_
     exact o_end (w8 _ _ (wkm [2, 3, 23] (whk (whk wh_nil))) h)
   · refine o_r2 [(16, (.ptr 0 0)), (17, (vL Node.c a1.fNodes))] ?_
     refine o_g ?_
     refine o_o (one_len (f := Node.c) (l := a1.fNodes)) ?_
     refine o_r2 [(19, (.ptr 1 0)), (20, (vL Node.c a2.fNodes))] ?_
     refine o_g ?_
     refine o_o (one_len (f := Node.c) (l := a2.fNodes)) ?_
     refine o_r2 [(22, (vB ((len a1.fNodes) != (len a2.fNodes)))), (23, (vB ((len a1.fNodes) != (len a2.fNodes))))] ?_
     exact o_end (w8 _ _ (wkm [2, 3, 23] (whk (whk wh_nil))) h)
theorem ic3 : fnIC Tryz.prog H0 3 = some ([.tmp 8], 67, (.seq (.ops [zO 7 (.box 0 27 [(0, 73, 2, 0), (1, 84, 2, 0)] (.t 3)), zO 8 (.mov (.c (.bool false)))]) (.seq (.seq (.ops [zM 14 0, zO 15 (.call 7 [(.t 14)]), zO 16 (.sc (.un .not) [(.t 15)]), zM 17 16, zN 18 17 false 1, zG 19 17 false (.call 7 [(.t 18)]), zG 20 17 false (.sc (.un .not) [(.t 19)]), zO 21 (.pick (.t 17) (.c (.bool true)) (.t 20)), zM 22 21, zN 23 22 false 2, zG 24 22 false (.call 8 [(.t 23)]), zG 25 22 false (.sc (.un .not) [(.t 24)]), zO 26 (.pick (.t 22) (.c (.bool true)) (.t 25)), zM 27 26, zG 28 27 false (.ld (.t 7) 2 true), zG 29 27 false (.call 9 [(.t 28)]), zG 30 27 false (.sc (.un .not) [(.t 29)]), zO 31 (.pick (.t 27) (.c (.bool true)) (.t 30))]) (.cond (.t 31)
  (.seq (.ops [zO 32 (.call 10 []), zM 8 32]) .ret)
  .skip)) (.seq (.ops [zM 34 0, zM 35 1, zM 36 2, zO 37 (.ld (.t 7) 2 true), zO 38 (.call 11 [(.t 34), (.t 35), (.t 36), (.t 37)]), zM 33 38, zO 39 (.ext (.t 33) 0), zO 40 (.ext (.t 33) 1), zO 41 (.ext (.t 33) 2), zO 9 (.alloc 0 27 [(0, 73, 2, 0), (1, 84, 2, 0)] [(.slice none 0 0), (.slice none 0 0)]), zO 10 (.alloc 0 33 [] [(.int .i64 0), (.string ⟨#[]⟩)]), zU (.st true 2 [(0, 73, 2, 0), (1, 84, 2, 0)] (.t 9) (.t 39)), zU (.st true 2 [] (.t 10) (.t 40)), zM 11 41]) (.seq (.ops [zM 42 0, zM 43 1, zM 44 2, zO 45 (.ld (.t 7) 2 true), zO 46 (.call 12 [(.t 42), (.t 43), (.t 44), (.t 45)]), zO 12 (.alloc 0 38 [(0, 73, 2, 0), (1, 84, 2, 0)] [(.slice none 0 0), (.slice none 0 0), (.int .i64 0), (.string ⟨#[]⟩), (.int .i64 0)]), zU (.st true 5 [(0, 73, 2, 0), (1, 84, 2, 0)] (.t 12) (.t 46))]) (.seq (.ops [zO 47 (.ld (.t 9) 2 true), zO 48 (.faddr (.t 12) 0), zO 49 (.ld (.t 48) 2 true), zO 50 (.call 13 [(.t 47), (.t 49)]), zM 13 50]) (.seq (.ops [zO 51 (.call 10 []), zM 52 51, zN 53 52 true 13, zO 54 (.pick (.t 52) (.t 53) (.c (.bool false))), zM 55 54, zG 56 55 true (.ld (.t 10) 2 true), zG 57 55 true (.faddr (.t 12) 2), zG 58 55 true (.ld (.t 57) 2 true), zG 59 55 true (.sc (.bin .eql 33) [(.t 56), (.t 58)]), zO 60 (.pick (.t 55) (.t 59) (.c (.bool false))), zM 61 60, zN 62 61 true 11, zG 63 61 true (.faddr (.t 12) 4), zG 64 61 true (.ld (.t 63) 1 false), zG 65 61 true (.sc (.bin .eql 34) [(.t 62), (.t 64)]), zO 66 (.pick (.t 61) (.t 65) (.c (.bool false))), zM 8 66]) .ret))))))) := by kernel_rfl
def f200_k33 (x40 : Bool) : Option Bool := some x40
def f200_k7 (n : Nat) (a1 : (List Form)) (a2 : (List Form)) (a3 : (List Rule)) (a4 : Graph) (x19 : Bool) : Option Bool := (bif x19 then ((f15 40).bind fun r22 => some r22) else ((f32 n a1 a2 a3 a4).bind fun r25 => ((f204 n a1 a2 a3 a4).bind fun r28 => ((f27 n r25.1 (Graph.mk r28.fG.fNodes r28.fG.fRoots)).bind fun r31 => ((f15 40).bind fun r34 => (bif r34 then (bif r31 then (bif (Refusal.eqB r25.2.1 (Refusal.mk r28.fR.fNode r28.fR.fCol)) then (f200_k33 (r25.2.2 == r28.fE)) else (f200_k33 false)) else (f200_k33 false)) else (f200_k33 false)))))))
def f200 (n : Nat) (a1 : (List Form)) (a2 : (List Form)) (a3 : (List Rule)) (a4 : Graph) : Option Bool := ((f13 n a1).bind fun r8 => (bif (!r8) then (f200_k7 n a1 a2 a3 a4 true) else ((f13 n a2).bind fun r11 => (bif (!r11) then (f200_k7 n a1 a2 a3 a4 true) else ((f31 n a3).bind fun r14 => (bif (!r14) then (f200_k7 n a1 a2 a3 a4 true) else ((f14 n a4).bind fun r17 => (f200_k7 n a1 a2 a3 a4 (!r17)))))))))
def f200_r (r : Bool) : AV := (vB r)
theorem p_f200 {n : Nat} {a1 : (List Form)} {a2 : (List Form)} {a3 : (List Rule)} {a4 : Graph} {r : Bool} (h : f200 n a1 a2 a3 a4 = some r) : PureSpec Tryz.prog 3 [(vL Form.c a1), (vL Form.c a2), (vL Rule.c a3), (.agg [(vL Node.c a4.fNodes), (vL Val.c a4.fRoots)])] (f200_r r) := by
 rw [f200.eq_1] at h
 refine pure_of hmix ic3 ?_
 refine go_to (mkd (.val undef) 67 0 [(0, (vL Form.c a1)), (1, (vL Form.c a2)), (2, (vL Rule.c a3)), (3, (.agg [(vL Node.c a4.fNodes), (vL Val.c a4.fRoots)]))]) ?_
 refine s_so fun N5 k5 w5 => ?_
 refine o_h2 [(7, (.ptr 0 0)), (8, (vB false))] [(some (.box 27 [(vL Node.c a4.fNodes), (vL Val.c a4.fRoots)]))] ?_
 refine o_end (k5 _ ?_)
 refine s_seq fun N6 k6 w6 => ?_
 refine J1 (r := r) (fun (x19 : Bool) => ⟨(mkd .any 67 0 [(0, (vL Form.c a1)), (1, (vL Form.c a2)), (2, (vL Rule.c a3)), (7, (.ptr 0 0)), (31, (vB x19))]), [(some (.box 27 [(vL Node.c a4.fNodes), (vL Val.c a4.fRoots)]))]⟩) (f200_k7 n a1 a2 a3 a4) ?_ ?_
 · intro x19 h
   rw [f200_k7.eq_1] at h
   refine i_c [31] h (fun h => ?_) (fun h => ?_)
   · refine s_so fun N21 k21 w21 => ?_
     refine bnd h fun r22 g23 h => ?_
     refine o_o (one_call (p_f15 g23)) ?_
     refine o_r1 [(8, (vB r22))] ?_
     refine o_end (k21 _ ?_)
     exact c_ret (rets [] [(vB r22)] [(vB r22)] h)
   · refine c_skip (k6 _ ?_)
     refine s_so fun N24 k24 w24 => ?_
     refine o_r4 [(34, (vL Form.c a1)), (35, (vL Form.c a2)), (36, (vL Rule.c a3)), (37, (.agg [(vL Node.c a4.fNodes), (vL Val.c a4.fRoots)]))] ?_
     refine bnd h fun r25 g26 h => ?_
     refine o_o (one_call (p_f32 g26)) ?_
     refine o_h9 [(9, (.ptr 3 0)), (10, (.ptr 4 0)), (11, (vI r25.2.2)), (33, (.tup [(.agg [(vL Node.c r25.1.fNodes), (vL Val.c r25.1.fRoots)]), (.agg [(vI r25.2.1.fNode), (vS r25.2.1.fCol)]), (vI r25.2.2)])), (39, (.agg [(vL Node.c r25.1.fNodes), (vL Val.c r25.1.fRoots)])), (40, (.agg [(vI r25.2.1.fNode), (vS r25.2.1.fCol)])), (41, (vI r25.2.2))] [(some (.box 27 [(vL Node.c a4.fNodes), (vL Val.c a4.fRoots)])), (some (.row 73 2 (List.map Node.c []))), (some (.row 84 2 (List.map Val.c []))), (some (.box 27 [(vL Node.c r25.1.fNodes), (vL Val.c r25.1.fRoots)])), (some (.box 33 [(vI r25.2.1.fNode), (vS r25.2.1.fCol)]))] ?_
     refine o_end (k24 _ ?_)
     refine s_so fun N27 k27 w27 => ?_
     refine o_r4 [(42, (vL Form.c a1)), (43, (vL Form.c a2)), (44, (vL Rule.c a3)), (45, (.agg [(vL Node.c a4.fNodes), (vL Val.c a4.fRoots)]))] ?_
     refine bnd h fun r28 g29 h => ?_
     refine o_o (one_call (p_f204 g29)) ?_
     refine o_h2 [(12, (.ptr 7 0))] [(some (.box 27 [(vL Node.c a4.fNodes), (vL Val.c a4.fRoots)])), (some (.row 73 2 (List.map Node.c []))), (some (.row 84 2 (List.map Val.c []))), (some (.box 27 [(vL Node.c r25.1.fNodes), (vL Val.c r25.1.fRoots)])), (some (.box 33 [(vI r25.2.1.fNode), (vS r25.2.1.fCol)])), (some (.row 73 2 (List.map Node.c []))), (some (.row 84 2 (List.map Val.c []))), (some (.box 38 [(vL Node.c r28.fG.fNodes), (vL Val.c r28.fG.fRoots), (vI r28.fR.fNode), (vS r28.fR.fCol), (vI r28.fE)]))] ?_
     refine o_end (w27 _ ⟨(mkd .any 67 0 [(9, (.ptr 3 0)), (10, (.ptr 4 0)), (11, (vI r25.2.2)), (12, (.ptr 7 0))]), [none, none, none, (some (.box 27 [(vL Node.c r25.1.fNodes), (vL Val.c r25.1.fRoots)])), (some (.box 33 [(vI r25.2.1.fNode), (vS r25.2.1.fCol)])), none, none, (some (.box 38 [(vL Node.c r28.fG.fNodes), (vL Val.c r28.fG.fRoots), (vI r28.fR.fNode), (vS r28.fR.fCol), (vI r28.fE)]))]⟩ (wkm [9, 10, 11, 12] (wh_drop (wh_drop (wh_drop (whk (whk (wh_drop (wh_drop (whk wh_nil))))))))) ?_)
     refine s_so fun N30 k30 w30 => ?_
     refine o_r3 [(47, (.agg [(vL Node.c r25.1.fNodes), (vL Val.c r25.1.fRoots)])), (48, (.ptr 7 0)), (49, (.agg [(vL Node.c r28.fG.fNodes), (vL Val.c r28.fG.fRoots)]))] ?_
     refine bnd h fun r31 g32 h => ?_
     refine o_o (one_call (p_f27 g32)) ?_
     refine o_r1 [(13, (vB r31))] ?_
     refine o_end (k30 _ ?_)
     refine J1 (r := r) (fun (x40 : Bool) => ⟨(mkd .any 67 0 [(8, (vB x40))]), []⟩) (f200_k33) ?_ ?_
     · intro x40 h
       rw [f200_k33.eq_1] at h
       exact c_ret (rets [] [(vB x40)] [(vB x40)] h)
     · intro N33 w33
       refine c_ops ?_
       refine bnd h fun r34 g35 h => ?_
       refine o_o (one_call (p_f15 g35)) ?_
       refine o_r1 [(52, (vB r34))] ?_
       refine i_o [51, 52] h (fun h => ?_) (fun h => ?_)
       · refine o_r3 [(53, (vB r31)), (54, (vB r31)), (55, (vB r31))] ?_
         refine i_o [13, 50, 53, 54, 55] h (fun h => ?_) (fun h => ?_)
         · refine o_r3 [(56, (.agg [(vI r25.2.1.fNode), (vS r25.2.1.fCol)])), (57, (.ptr 7 2)), (58, (.agg [(vI r28.fR.fNode), (vS r28.fR.fCol)]))] ?_
           refine o_g ?_
           refine o_o (one_sc (vs := [.agg #[.int .i64 r25.2.1.fNode, .string r25.2.1.fCol], .agg #[.int .i64 r28.fR.fNode, .string r28.fR.fCol]]) (sc_eqs (r := Refusal.eqB r25.2.1 (Refusal.mk r28.fR.fNode r28.fR.fCol)))) ?_
           refine o_r2 [(60, (vB (Refusal.eqB r25.2.1 (Refusal.mk r28.fR.fNode r28.fR.fCol)))), (61, (vB (Refusal.eqB r25.2.1 (Refusal.mk r28.fR.fNode r28.fR.fCol))))] ?_
           refine i_o [59, 60, 61] h (fun h => ?_) (fun h => ?_)
           · refine o_r6 [(8, (vB (r25.2.2 == r28.fE))), (62, (vI r25.2.2)), (63, (.ptr 7 4)), (64, (vI r28.fE)), (65, (vB (r25.2.2 == r28.fE))), (66, (vB (r25.2.2 == r28.fE)))] ?_
             refine s_tm (mkd .any 67 0 [(8, (vB (r25.2.2 == r28.fE))), (9, (.ptr 3 0)), (10, (.ptr 4 0)), (11, (vI r25.2.2)), (12, (.ptr 7 0)), (13, (vB true)), (47, (.agg [(vL Node.c r25.1.fNodes), (vL Val.c r25.1.fRoots)])), (48, (.ptr 7 0)), (49, (.agg [(vL Node.c r28.fG.fNodes), (vL Val.c r28.fG.fRoots)])), (50, (vB true)), (51, (vB true)), (52, (vB true)), (53, (vB true)), (54, (vB true)), (55, (vB true)), (56, (.agg [(vI r25.2.1.fNode), (vS r25.2.1.fCol)])), (57, (.ptr 7 2)), (58, (.agg [(vI r28.fR.fNode), (vS r28.fR.fCol)])), (59, (vB true)), (60, (vB true)), (61, (vB true)), (62, (vI r25.2.2)), (63, (.ptr 7 4)), (64, (vI r28.fE)), (65, (vB (r25.2.2 == r28.fE))), (66, (vB (r25.2.2 == r28.fE)))]) ?_
             exact o_end (w33 _ _ (wkm [8] wh_nil) h)
           · refine o_r6 [(8, (vB false)), (62, (.val undef)), (63, (.val undef)), (64, (.val undef)), (65, (.val undef)), (66, (vB false))] ?_
             refine s_tm (mkd .any 67 0 [(8, (vB false)), (9, (.ptr 3 0)), (10, (.ptr 4 0)), (11, (vI r25.2.2)), (12, (.ptr 7 0)), (13, (vB true)), (47, (.agg [(vL Node.c r25.1.fNodes), (vL Val.c r25.1.fRoots)])), (48, (.ptr 7 0)), (49, (.agg [(vL Node.c r28.fG.fNodes), (vL Val.c r28.fG.fRoots)])), (50, (vB true)), (51, (vB true)), (52, (vB true)), (53, (vB true)), (54, (vB true)), (55, (vB true)), (56, (.agg [(vI r25.2.1.fNode), (vS r25.2.1.fCol)])), (57, (.ptr 7 2)), (58, (.agg [(vI r28.fR.fNode), (vS r28.fR.fCol)])), (59, (vB false)), (60, (vB false)), (61, (vB false)), (62, (.val undef)), (63, (.val undef)), (64, (.val undef)), (65, (.val undef)), (66, (vB false))]) ?_
             exact o_end (w33 _ _ (wkm [8] wh_nil) h)
         · refine o_r12 [(8, (vB false)), (56, (.val undef)), (57, (.val undef)), (58, (.val undef)), (59, (.val undef)), (60, (vB false)), (61, (vB false)), (62, (.val undef)), (63, (.val undef)), (64, (.val undef)), (65, (.val undef)), (66, (vB false))] ?_
           exact o_end (w33 _ _ (wkm [8] wh_nil) h)
       · refine o_r15 [(8, (vB false)), (53, (.val undef)), (54, (vB false)), (55, (vB false)), (56, (.val undef)), (57, (.val undef)), (58, (.val undef)), (59, (.val undef)), (60, (vB false)), (61, (vB false)), (62, (.val undef)), (63, (.val undef)), (64, (.val undef)), (65, (.val undef)), (66, (vB false))] ?_
         exact o_end (w33 _ _ (wkm [8] wh_nil) h)
 · intro N7 w7
   refine c_ops ?_
   refine o_r1 [(14, (vL Form.c a1))] ?_
   refine bnd h fun r8 g9 h => ?_
   refine o_o (one_call (p_f13 g9)) ?_
   refine o_r2 [(16, (vB (!r8))), (17, (vB (!r8)))] ?_
   refine i_o [16, 17] h (fun h => ?_) (fun h => ?_)
   · refine o_r14 [(18, (.val undef)), (19, (.val undef)), (20, (.val undef)), (21, (vB true)), (22, (vB true)), (23, (.val undef)), (24, (.val undef)), (25, (.val undef)), (26, (vB true)), (27, (vB true)), (28, (.val undef)), (29, (.val undef)), (30, (.val undef)), (31, (vB true))] ?_
     exact o_end (w7 _ _ (wkm [0, 1, 2, 7, 31] (whk wh_nil)) h)
   · refine o_r1 [(18, (vL Form.c a2))] ?_
     refine bnd h fun r11 g12 h => ?_
     refine o_g ?_
     refine o_o (one_call (p_f13 g12)) ?_
     refine o_r3 [(20, (vB (!r11))), (21, (vB (!r11))), (22, (vB (!r11)))] ?_
     refine i_o [20, 21, 22] h (fun h => ?_) (fun h => ?_)
     · refine o_r9 [(23, (.val undef)), (24, (.val undef)), (25, (.val undef)), (26, (vB true)), (27, (vB true)), (28, (.val undef)), (29, (.val undef)), (30, (.val undef)), (31, (vB true))] ?_
       exact o_end (w7 _ _ (wkm [0, 1, 2, 7, 31] (whk wh_nil)) h)
     · refine o_r1 [(23, (vL Rule.c a3))] ?_
       refine bnd h fun r14 g15 h => ?_
       refine o_g ?_
       refine o_o (one_call (p_f31 g15)) ?_
       refine o_r3 [(25, (vB (!r14))), (26, (vB (!r14))), (27, (vB (!r14)))] ?_
       refine s_tm (mkd (.val undef) 67 0 [(0, (vL Form.c a1)), (1, (vL Form.c a2)), (2, (vL Rule.c a3)), (3, (.agg [(vL Node.c a4.fNodes), (vL Val.c a4.fRoots)])), (7, (.ptr 0 0)), (8, (vB false)), (14, (vL Form.c a1)), (15, (vB r8)), (16, (vB false)), (17, (vB false)), (18, (vL Form.c a2)), (19, (vB r11)), (20, (vB false)), (21, (vB false)), (22, (vB false)), (23, (vL Rule.c a3)), (24, (vB r14)), (25, (vB (!r14))), (26, (vB (!r14))), (27, (vB (!r14)))]) ?_
       refine i_o [25, 26, 27] h (fun h => ?_) (fun h => ?_)
       · refine o_r4 [(28, (.val undef)), (29, (.val undef)), (30, (.val undef)), (31, (vB true))] ?_
         exact o_end (w7 _ _ (wkm [0, 1, 2, 7, 31] (whk wh_nil)) h)
       · refine o_r1 [(28, (.agg [(vL Node.c a4.fNodes), (vL Val.c a4.fRoots)]))] ?_
         refine bnd h fun r17 g18 h => ?_
         refine o_g ?_
         refine o_o (one_call (p_f14 g18)) ?_
         refine o_r2 [(30, (vB (!r17))), (31, (vB (!r17)))] ?_
         exact o_end (w7 _ _ (wkm [0, 1, 2, 7, 31] (whk wh_nil)) h)
end Go.Proofs
end
section
set_option linter.unusedVariables false
set_option maxRecDepth 100000
set_option maxHeartbeats 4000000
namespace Go.Proofs
open Go.Vm
attribute [local irreducible] vOps vDraw vC vK retP retH PureSpec HSpec
end Go.Proofs
end
section
namespace Go.Vm
theorem wr_id {x : Int} (h1 : -9223372036854775808 ≤ x) (h2 : x < 9223372036854775808) : wr .i64 x = x := by
  unfold wr IntKind.wrap
  simp [IntKind.bits, IntKind.signed]
  omega
theorem gi_nat {α : Type} (l : List α) (k : Nat) : gi l (k : Int) = l[k]? := rfl
section
variable {α σ ρ : Type}
def go0 (B : Int → α → Option ρ → Option ρ) (K : Option ρ) : List α → Nat → Option ρ
  | [], _ => K
  | y :: l, k => B k y (go0 B K l (k + 1))
theorem scan0 (l : List α) (K : Option ρ) (B : Int → α → Option ρ → Option ρ) (L : Nat → Int → Option ρ)
    (hL : ∀ m x, L (m + 1) x = bif decide (x < len l) then (gi l x).bind fun y => B x y (L m (wr .i64 (x + 1))) else K) (hl : l.length < 4611686018427387904) :
    ∀ (d k m : Nat), d + k = l.length → d < m → L m k = go0 B K (l.drop k) k
  | 0, k, m, hk, hm => by
    obtain ⟨m, rfl⟩ := Nat.exists_eq_succ_of_ne_zero (by omega : m ≠ 0)
    have : l.drop k = [] := List.drop_eq_nil_of_le (by omega)
    rw [hL, this]
    have hd : decide ((k : Int) < len l) = false := by simp [len]; omega
    rw [hd]; rfl
  | d + 1, k, m, hk, hm => by
    obtain ⟨m, rfl⟩ := Nat.exists_eq_succ_of_ne_zero (by omega : m ≠ 0)
    have hlt : k < l.length := by omega
    rw [hL]
    have hd : decide ((k : Int) < len l) = true := by simp [len]; omega
    rw [hd, gi_nat, List.getElem?_eq_getElem hlt, List.drop_eq_getElem_cons hlt]
    simp only [cond_true, Option.bind_some, go0]
    rw [wr_id (by omega) (by omega)]
    have := scan0 l K B L hL hl d (k + 1) m (by omega) (by omega)
    push_cast at this
    rw [this]
def ixOf (p : α → Bool) : List α → Nat → Int
  | [], _ => -1
  | y :: l, k => bif p y then (k : Int) else ixOf p l (k + 1)
theorem go0_ix (p : α → Bool) (f : Int → ρ) : ∀ (l : List α) (k : Nat), go0 (fun x y acc => bif p y then some (f x) else acc) (some (f (-1))) l k = some (f (ixOf p l k))
  | [], k => rfl
  | y :: l, k => by
    simp only [go0, ixOf]
    cases p y
    · exact go0_ix p f l (k + 1)
    · rfl
end
end Go.Vm
end
section
namespace Go.Proofs
open Go.Vm
def formIx (l : List Form) (s : ByteArray) : Int := ixOf (fun x => sEqF x.fName s) l 0
def colIx (l : List Col) (s : ByteArray) : Int := ixOf (fun x => sEqF x.fName s) l 0
theorem f55_eq {n : Nat} {l : List Form} {s : ByteArray} (hn : l.length < n) (hl : l.length < 4611686018427387904) : f55 n l s = some (formIx l s) := by
  unfold f55
  have := scan0 l f55_k4 (fun x y acc => bif sEqF y.fName s then some x else acc) (f55_l7 l s f55_k4) (fun m x => rfl) hl l.length 0 n (by omega) hn
  exact this.trans (go0_ix (fun x => sEqF x.fName s) id l 0)
theorem f52_eq {n : Nat} {l : List Form} {s : ByteArray} (hn : l.length < n) (hl : l.length < 4611686018427387904) : f52 n l s = some (formIx l s) := by
  have h : f125 n l s = some (formIx l s) := by
    unfold f125
    have := scan0 l f125_k4 (fun x y acc => bif sEqF y.fName s then some x else acc) (f125_l8 l n s f125_k4) (fun m x => rfl) hl l.length 0 n (by omega) hn
    exact this.trans (go0_ix (fun x => sEqF x.fName s) id l 0)
  unfold f52 f92
  rw [h]; rfl
theorem f57_eq {n : Nat} {f : Form} {s : ByteArray} (hn : f.fCols.length < n) (hl : f.fCols.length < 4611686018427387904) : f57 n f s = some (colIx f.fCols s) := by
  unfold f57
  have := scan0 f.fCols f57_k4 (fun x y acc => bif sEqF y.fName s then some x else acc) (f57_l7 f s f57_k4) (fun m x => rfl) hl f.fCols.length 0 n (by omega) hn
  exact this.trans (go0_ix (fun x => sEqF x.fName s) id f.fCols 0)
theorem f95_eq {n : Nat} {l : List Col} {s : ByteArray} (hn : l.length < n) (hl : l.length < 4611686018427387904) : f95 n l s = some (colIx l s) := by
  have h : f144 n l s = some (colIx l s) := by
    unfold f144
    have := scan0 l f144_k4 (fun x y acc => bif sEqF y.fName s then some x else acc) (f144_l8 l n s f144_k4) (fun m x => rfl) hl l.length 0 n (by omega) hn
    exact this.trans (go0_ix (fun x => sEqF x.fName s) id l 0)
  unfold f95 f127
  rw [h]; rfl
def inR (x lo hi : Int) : Bool := decide (lo ≤ x) && decide (x ≤ hi)
theorem f86_eq (n : Nat) (x lo hi : Int) : f86 n x lo hi = some (inR x lo hi) := by
  unfold f86 inR
  cases decide (lo ≤ x) <;> rfl
theorem f58_eq (n : Nat) (x lo hi : Int) : f58 n x lo hi = some (inR x lo hi) := by
  unfold f58 inR
  show (bif decide (lo ≤ x) then _ else _) = _
  cases decide (lo ≤ x) <;> rfl
theorem f111_eq (n : Nat) (v : Val) (m : Int) : f111 n v m = f99 n v m := by
  unfold f111 f99
  simp only [f86_eq, f58_eq]
end Go.Proofs
end
section
namespace Go.Proofs
open Go.Vm
def okB (c lo hi : Int) : Bool := (decide (lo ≤ c) && decide (c ≤ hi)) || ((decide (48 ≤ c) && decide (c ≤ 57)) || (c == 95))
theorem f123_eq (n : Nat) (r lo hi : Int) : f123 n r lo hi = some (!(okB r (wr .i32 lo) (wr .i32 hi))) := by
  unfold f123 okB
  show (bif decide (wr .i32 lo ≤ r) then (bif decide (r ≤ wr .i32 hi) then _ else (bif decide (48 ≤ r) then (bif decide (r ≤ 57) then _ else _) else _)) else (bif decide (48 ≤ r) then (bif decide (r ≤ 57) then _ else _) else _)) = _
  cases decide (wr .i32 lo ≤ r) <;> cases decide (r ≤ wr .i32 hi) <;> cases decide (48 ≤ r) <;> cases decide (r ≤ 57) <;> rfl
theorem lenS (s : ByteArray) : s.data.toList.length = s.size := Array.length_toList
def allB (s : ByteArray) (lo hi : Int) (pos : Nat) : Bool := (s.data.toList.drop pos).all fun c => okB c.toNat lo hi
theorem scanStr {s : ByteArray} {n : Nat} {lo hi : Int} (hhi : wr .i32 hi < 128) : ∀ (d pos m : Nat), d + pos = s.size → d < m → ∃ r, f143_l9 s n lo hi true (some (-1)) m pos = some r ∧ decide (r < 0) = allB s (wr .i32 lo) (wr .i32 hi) pos
  | 0, pos, m, hd, hm => by
    obtain ⟨m, rfl⟩ := Nat.exists_eq_succ_of_ne_zero (by omega : m ≠ 0)
    refine ⟨-1, ?_, ?_⟩
    · rw [f143_l9.eq_2]
      have : decide (pos < ByteArray.size s) = false := by simp; omega
      rw [this]; rfl
    · have : s.data.toList.drop pos = [] := List.drop_eq_nil_of_le (by rw [lenS]; omega)
      simp [allB, this]
  | d + 1, pos, m, hd, hm => by
    obtain ⟨m, rfl⟩ := Nat.exists_eq_succ_of_ne_zero (by omega : m ≠ 0)
    have hlt : pos < s.size := by omega
    have hlen := lenS s
    have hdrop : s.data.toList.drop pos = s[pos] :: s.data.toList.drop (pos + 1) := by
      rw [List.drop_eq_getElem_cons (by omega)]
      rfl
    rw [f143_l9.eq_2]
    have h1 : decide (pos < ByteArray.size s) = true := by simpa using hlt
    rw [h1]
    simp only [cond_true, f123_eq, Option.bind_some]
    by_cases ha : (s[pos]'hlt).toNat < 128
    · have hdec := decode_ascii s pos hlt ha
      have e1 : dec1 s pos = (s[pos]'hlt).toNat := by simp [dec1, hdec]
      have e2 : dec2 s pos = 1 := by simp [dec2, hdec]
      rw [e1, e2]
      cases hok : okB ((s[pos]'hlt).toNat : Int) (wr .i32 lo) (wr .i32 hi) with
      | true =>
        obtain ⟨r, hr1, hr2⟩ := scanStr (s := s) (n := n) (lo := lo) hhi d (pos + 1) m (by omega) (by omega)
        refine ⟨r, hr1, ?_⟩
        rw [hr2]
        unfold allB
        rw [hdrop, List.all_cons, hok, Bool.true_and]
      | false =>
        refine ⟨(pos : Int), rfl, ?_⟩
        unfold allB
        rw [hdrop, List.all_cons, hok, Bool.false_and]
        simp
    · have hdec := decode_high s pos hlt (by omega)
      have e1 : 128 ≤ dec1 s pos := by have := hdec.1; unfold dec1; omega
      have hok : okB (dec1 s pos) (wr .i32 lo) (wr .i32 hi) = false := by
        unfold okB
        have a1 : decide (dec1 s pos ≤ wr .i32 hi) = false := by simp; omega
        have a2 : decide (dec1 s pos ≤ 57) = false := by simp; omega
        have a3 : (dec1 s pos == 95) = false := by simp; omega
        rw [a1, a2, a3]; simp
      have hok2 : okB ((s[pos]'hlt).toNat : Int) (wr .i32 lo) (wr .i32 hi) = false := by
        unfold okB
        have a1 : decide (((s[pos]'hlt).toNat : Int) ≤ wr .i32 hi) = false := by simp; omega
        have a2 : decide (((s[pos]'hlt).toNat : Int) ≤ 57) = false := by simp; omega
        have a3 : (((s[pos]'hlt).toNat : Int) == 95) = false := by simp; omega
        rw [a1, a2, a3]; simp
      rw [hok]
      refine ⟨(pos : Int), rfl, ?_⟩
      unfold allB
      rw [hdrop, List.all_cons, hok2, Bool.false_and]
      simp
theorem f122_eq {s : ByteArray} {n : Nat} {lo hi : Int} (hhi : wr .i32 hi < 128) (hn : s.size < n) : ∃ r, f122 n s lo hi = some r ∧ decide (r < 0) = allB s (wr .i32 lo) (wr .i32 hi) 0 := by
  obtain ⟨r, h1, h2⟩ := scanStr (s := s) (n := n) (lo := lo) hhi s.size 0 n (by omega) hn
  refine ⟨r, ?_, h2⟩
  unfold f122 f143
  have : f143_l9 s n lo hi true f143_k6 n 0 = some r := h1
  rw [this]; rfl
end Go.Proofs
end
section
namespace Go.Proofs
open Go.Vm
def namedL (lo hi : Int) : List UInt8 → Bool
  | [] => false
  | c :: t => decide (((c :: t).length : Int) ≤ 20) && (decide (lo ≤ (c.toNat : Int)) && (decide ((c.toNat : Int) ≤ hi) && (c :: t).all fun c => okB c.toNat lo hi))
theorem si_zero (s : ByteArray) : si s 0 = (s.data.toList.head?).map fun c => (c.toNat : Int) := by
  show (s[0]?).map _ = _
  congr 1
  obtain ⟨⟨l⟩⟩ := s
  cases l <;> rfl
theorem f90_eq {n : Nat} {s : ByteArray} {lo hi : Int} (hn : s.size < n) (hlo : wr .i32 lo = lo) (hhi : wr .i32 hi = hi) (h7 : hi < 128) : f90 n s lo hi = some (namedL lo hi s.data.toList) := by
  obtain ⟨r, h1, h2⟩ := f122_eq (s := s) (n := n) (lo := lo) (hi := hi) (by rw [hhi]; exact h7) hn
  have hsz := lenS s
  unfold f90
  have e0 : sEqF s (ByteArray.mk #[]) = s.data.toList.isEmpty := by
    unfold sEqF
    cases s.data.toList <;> rfl
  rw [e0, si_zero]
  unfold allB at h2
  rw [hlo, hhi, List.drop_zero] at h2
  have eb : bsz s = (s.data.toList.length : Int) := by unfold bsz; rw [hsz]
  rw [eb]
  cases hl : s.data.toList with
  | nil => simp [namedL, f90_k6]
  | cons c t =>
    rw [hl] at h2
    simp only [List.isEmpty_cons, cond_false, List.head?_cons, Option.map_some, Option.bind_some, f90_k6, h1, cond_true]
    show _ = some (decide (((c :: t).length : Int) ≤ 20) && (decide (lo ≤ (c.toNat : Int)) && (decide ((c.toNat : Int) ≤ hi) && (c :: t).all fun c => okB c.toNat lo hi)))
    rw [← h2]
    by_cases a1 : ((c :: t).length : Int) ≤ 20
    · have b1 : decide (((c :: t).length : Int) > 20) = false := by simp at a1 ⊢; omega
      have b2 : decide (((c :: t).length : Int) ≤ 20) = true := by simpa using a1
      rw [b1, b2]
      by_cases a2 : lo ≤ (c.toNat : Int)
      · have b3 : decide ((c.toNat : Int) < lo) = false := by simp; omega
        rw [b3]
        by_cases a3 : (c.toNat : Int) ≤ hi
        · have b4 : decide ((c.toNat : Int) > hi) = false := by simp; omega
          rw [b4]; simp [a2, a3]
        · have b4 : decide ((c.toNat : Int) > hi) = true := by simp; omega
          rw [b4]; simp [a2, a3]
      · have b3 : decide ((c.toNat : Int) < lo) = true := by simp; omega
        rw [b3]; simp [a2]
    · have b1 : decide (((c :: t).length : Int) > 20) = true := by simp at a1 ⊢; omega
      have b2 : decide (((c :: t).length : Int) ≤ 20) = false := by simpa using a1
      rw [b1, b2]; rfl
end Go.Proofs
end
section
namespace Go.Proofs
open Go.Vm
theorem ixOf_ge {α : Type} (p : α → Bool) : ∀ (l : List α) (k : Nat), decide (ixOf p l k ≥ 0) = l.any p
  | [], k => rfl
  | y :: l, k => by
    unfold ixOf
    rw [List.any_cons]
    cases p y
    · simpa using ixOf_ge p l (k + 1)
    · simp
theorem ixOf_lt {α : Type} (p : α → Bool) (l : List α) (k : Nat) : decide (ixOf p l k < 0) = !l.any p := by
  rw [← ixOf_ge p l k]
  by_cases h : ixOf p l k ≥ 0
  · have : ¬ ixOf p l k < 0 := by omega
    simp [h, this]
  · have : ixOf p l k < 0 := by omega
    simp [h, this]
theorem f91_eq {n : Nat} {l : List ByteArray} {s : ByteArray} (hn : l.length < n) (hl : l.length < 4611686018427387904) : f91 n l s = some (l.any fun x => sEqF s x) := by
  have h : f124 n l s = some (ixOf (fun x => sEqF s x) l 0) := by
    unfold f124
    have := scan0 l f124_k4 (fun x y acc => bif sEqF s y then some x else acc) (f124_l8 l s f124_k4) (fun m x => rfl) hl l.length 0 n (by omega) hn
    exact this.trans (go0_ix (fun x => sEqF s x) id l 0)
  unfold f91
  rw [h]
  show some (decide (ixOf (fun x => sEqF s x) l 0 ≥ 0)) = _
  rw [ixOf_ge]
def classKw : List ByteArray := [(ByteArray.mk #[73, 78, 84, 69, 71, 69, 82]), (ByteArray.mk #[66, 79, 79, 76, 69, 65, 78]), (ByteArray.mk #[65, 78, 89]), (ByteArray.mk #[78, 79, 78, 69])]
def smallKw : List ByteArray := [(ByteArray.mk #[116, 114, 117, 101]), (ByteArray.mk #[102, 97, 108, 115, 101]), (ByteArray.mk #[118, 111, 105, 100]), (ByteArray.mk #[99, 117, 114, 114, 101, 110, 116]), (ByteArray.mk #[114, 101, 115, 117, 108, 116])]
def classB (s : ByteArray) : Bool := namedL 65 90 s.data.toList && !classKw.any fun x => sEqF s x
def smallB (s : ByteArray) : Bool := namedL 97 122 s.data.toList && !smallKw.any fun x => sEqF s x
theorem wr32 {x : Int} (h1 : -2147483648 ≤ x) (h2 : x < 2147483648) : wr .i32 x = x := by
  unfold wr IntKind.wrap
  simp [IntKind.bits, IntKind.signed]
  omega
theorem f51_eq {n : Nat} {s : ByteArray} (hn : s.size < n) (h4 : 10 < n) : f51 n s = some (classB s) := by
  unfold f51 classB
  rw [f90_eq hn (wr32 (by omega) (by omega)) (wr32 (by omega) (by omega)) (by omega)]
  simp only [Option.bind_some]
  cases namedL 65 90 s.data.toList with
  | false => rfl
  | true =>
    rw [f91_eq (by simp; omega) (by simp)]
    rfl
theorem f94_eq {n : Nat} {s : ByteArray} (hn : s.size < n) (h4 : 10 < n) : f94 n s = some (smallB s) := by
  unfold f94 smallB
  rw [f90_eq hn (wr32 (by omega) (by omega)) (wr32 (by omega) (by omega)) (by omega)]
  simp only [Option.bind_some]
  cases namedL 97 122 s.data.toList with
  | false => rfl
  | true =>
    rw [f91_eq (by simp; omega) (by simp)]
    rfl
end Go.Proofs
end
section
namespace Go.Proofs
open Go.Vm
def goN {ρ : Type} (B : Nat → Option ρ → Option ρ) (K : Option ρ) : Nat → Nat → Option ρ
  | 0, _ => K
  | d + 1, k => B k (goN B K d (k + 1))
theorem scanN {ρ : Type} (N : Nat) (K : Option ρ) (B : Nat → Option ρ → Option ρ) (L : Nat → Int → Option ρ) (hL : ∀ m (k : Nat), k < N → L (m + 1) k = B k (L m (wr .i64 (k + 1)))) (hK : ∀ m, L (m + 1) N = K) (hl : N < 4611686018427387904) :
    ∀ (d k m : Nat), d + k = N → d < m → L m k = goN B K d k
  | 0, k, m, hk, hm => by
    obtain ⟨m, rfl⟩ := Nat.exists_eq_succ_of_ne_zero (by omega : m ≠ 0)
    have : k = N := by omega
    subst this
    exact hK m
  | d + 1, k, m, hk, hm => by
    obtain ⟨m, rfl⟩ := Nat.exists_eq_succ_of_ne_zero (by omega : m ≠ 0)
    rw [hL m k (by omega), wr_id (by omega) (by omega)]
    have := scanN N K B L hL hK hl d (k + 1) m (by omega) (by omega)
    push_cast at this
    rw [this]; rfl
theorem si_get (s : ByteArray) (k : Nat) : si s (k : Int) = (s.data.toList[k]?).map fun c => (c.toNat : Int) := by
  show (s[k]?).map _ = _
  congr 1
  obtain ⟨⟨l⟩⟩ := s
  by_cases h : k < l.length
  · rw [List.getElem?_eq_getElem h]
    have h' : k < (ByteArray.mk ⟨l⟩).size := h
    rw [getElem?_pos (ByteArray.mk ⟨l⟩) k h']
    rfl
  · have h9 : l[k]? = none := List.getElem?_eq_none (by omega)
    show _ = l[k]?
    rw [h9]
    have h' : ¬ k < (ByteArray.mk ⟨l⟩).size := h
    rw [getElem?_neg (ByteArray.mk ⟨l⟩) k h']
theorem goN_all {ρ : Type} (l : List UInt8) (p : UInt8 → Bool) (K F : Option ρ) : ∀ (d k : Nat), d + k = l.length → goN (fun k acc => match l[k]? with | some c => bif p c then acc else F | none => none) K d k = bif (l.drop k).all p then K else F
  | 0, k, h => by
    have : l.drop k = [] := List.drop_eq_nil_of_le (by omega)
    rw [this]; rfl
  | d + 1, k, h => by
    have hlt : k < l.length := by omega
    rw [List.drop_eq_getElem_cons hlt, List.all_cons]
    show (match l[k]? with | some c => bif p c then goN _ K d (k + 1) else F | none => none) = _
    rw [List.getElem?_eq_getElem hlt]
    show (bif p l[k] then goN _ K d (k + 1) else F) = _
    rw [goN_all l p K F d (k + 1) (by omega)]
    cases p l[k] <;> rfl
theorem f56_l {s : ByteArray} {K : Option Bool} {n : Nat} (hn : s.size < n) (hl : s.size < 4611686018427387904) : f56_l18 s K n 0 = bif s.data.toList.all (fun c => okB c.toNat 97 122) then K else some false := by
  have hlen := lenS s
  have := scanN s.size K (fun k acc => match s.data.toList[k]? with | some c => bif okB c.toNat 97 122 then acc else some false | none => none) (f56_l18 s K) (fun m k hk => ?_) (fun m => ?_) hl s.size 0 n (by omega) hn
  · have h2 := goN_all s.data.toList (fun c => okB c.toNat 97 122) K (some false) s.size 0 (by omega)
    exact this.trans h2
  · rw [f56_l18.eq_2]
    have h1 : decide ((k : Int) < bsz s) = true := by simp [bsz]; omega
    rw [h1, si_get, List.getElem?_eq_getElem (by omega)]
    simp only [cond_true, Option.map_some, Option.bind_some]
    generalize ((s.data.toList[k]'(by omega)).toNat : Int) = c
    unfold okB f56_k61
    show (bif decide (97 ≤ c) then (bif decide (c ≤ 122) then _ else (bif decide (48 ≤ c) then (bif decide (c ≤ 57) then _ else _) else _)) else (bif decide (48 ≤ c) then (bif decide (c ≤ 57) then _ else _) else _)) = _
    cases decide (97 ≤ c) <;> cases decide (c ≤ 122) <;> cases decide (48 ≤ c) <;> cases decide (c ≤ 57) <;> cases (c == 95) <;> rfl
  · rw [f56_l18.eq_2]
    have h1 : decide ((s.size : Int) < bsz s) = false := by simp [bsz]
    rw [h1]; rfl
end Go.Proofs
end
section
namespace Go.Proofs
open Go.Vm
theorem f56_k15_eq (s : ByteArray) : f56_k15 s = some (!smallKw.any fun x => sEqF s x) := by
  unfold f56_k15 f56_k92 smallKw
  simp only [List.any_cons, List.any_nil]
  cases sEqF s (ByteArray.mk #[116, 114, 117, 101]) <;> cases sEqF s (ByteArray.mk #[102, 97, 108, 115, 101]) <;> cases sEqF s (ByteArray.mk #[118, 111, 105, 100]) <;> cases sEqF s (ByteArray.mk #[99, 117, 114, 114, 101, 110, 116]) <;> cases sEqF s (ByteArray.mk #[114, 101, 115, 117, 108, 116]) <;> rfl
theorem f56_eq {n : Nat} {s : ByteArray} (hn : s.size < n) (hl : s.size < 4611686018427387904) : f56 n s = some (smallB s) := by
  have hsz := lenS s
  have eb : bsz s = (s.data.toList.length : Int) := by unfold bsz; rw [hsz]
  unfold f56
  rw [si_zero, eb]
  simp only [f56_k4, f56_l hn hl, f56_k15_eq, cond_true, cond_false]
  unfold smallB
  cases hd : s.data.toList with
  | nil => rfl
  | cons c t =>
    have b0 : decide (((c :: t).length : Int) < 1) = false := by simp; omega
    rw [b0]
    simp only [cond_false, List.head?_cons, Option.map_some, Option.bind_some]
    show _ = some ((decide (((c :: t).length : Int) ≤ 20) && (decide (97 ≤ (c.toNat : Int)) && (decide ((c.toNat : Int) ≤ 122) && (c :: t).all fun c => okB c.toNat 97 122))) && _)
    generalize ((c :: t).all fun c => okB c.toNat 97 122) = A
    generalize (!smallKw.any fun x => sEqF s x) = W
    by_cases a1 : ((c :: t).length : Int) ≤ 20
    · have b1 : decide (((c :: t).length : Int) > 20) = false := by simp at a1 ⊢; omega
      have b2 : decide (((c :: t).length : Int) ≤ 20) = true := by simpa using a1
      rw [b1, b2]
      by_cases a2 : 97 ≤ (c.toNat : Int)
      · have b3 : decide ((c.toNat : Int) < 97) = false := by simp; omega
        have b5 : decide (97 ≤ (c.toNat : Int)) = true := by simpa using a2
        rw [b3, b5]
        by_cases a3 : (c.toNat : Int) ≤ 122
        · have b4 : decide ((c.toNat : Int) > 122) = false := by simp; omega
          have b6 : decide ((c.toNat : Int) ≤ 122) = true := by simpa using a3
          rw [b4, b6]; cases A <;> cases W <;> rfl
        · have b4 : decide ((c.toNat : Int) > 122) = true := by simp; omega
          have b6 : decide ((c.toNat : Int) ≤ 122) = false := by simpa using a3
          rw [b4, b6]; cases A <;> cases W <;> rfl
      · have b3 : decide ((c.toNat : Int) < 97) = true := by simp; omega
        have b5 : decide (97 ≤ (c.toNat : Int)) = false := by simpa using a2
        rw [b3, b5]; rfl
    · have b1 : decide (((c :: t).length : Int) > 20) = true := by simp at a1 ⊢; omega
      have b2 : decide (((c :: t).length : Int) ≤ 20) = false := by simpa using a1
      rw [b1, b2]; rfl
end Go.Proofs
end
section
namespace Go.Proofs
open Go.Vm
theorem go0_any {α : Type} (p : α → Bool) : ∀ (l : List α) (k : Nat), go0 (fun _ y acc => bif p y then some true else acc) (some false) l k = some (l.any p)
  | [], k => rfl
  | y :: l, k => by
    simp only [go0, List.any_cons]
    cases p y
    · exact go0_any p l (k + 1)
    · rfl
theorem f129_eq {n : Nat} {l : List ByteArray} {s : ByteArray} (hn : l.length < n) (hl : l.length < 4611686018427387904) : f129 n l s = some (l.any fun x => sEqF x s) := by
  unfold f129
  have := scan0 l f129_k4 (fun x y acc => bif sEqF y s then some true else acc) (f129_l7 l s f129_k4) (fun m x => rfl) hl l.length 0 n (by omega) hn
  exact this.trans (go0_any (fun x => sEqF x s) l 0)
theorem f148_eq (n : Nat) (c : Int) : f148 n c = some (decide (97 ≤ c) && decide (c ≤ 122)) := by
  unfold f148
  show (bif decide (97 ≤ c) then _ else _) = _
  cases decide (97 ≤ c) <;> rfl
theorem f149_eq (n : Nat) (c : Int) : f149 n c = some (decide (65 ≤ c) && decide (c ≤ 90)) := by
  unfold f149
  show (bif decide (65 ≤ c) then _ else _) = _
  cases decide (65 ≤ c) <;> rfl
theorem f132_eq (n : Nat) (c : Int) : f132 n c = some (decide (48 ≤ c) && decide (c ≤ 57)) := by
  unfold f132
  show (bif decide (48 ≤ c) then _ else _) = _
  cases decide (48 ≤ c) <;> rfl
def smallC (c : Int) : Bool := decide (97 ≤ c) && decide (c ≤ 122)
def capC (c : Int) : Bool := decide (65 ≤ c) && decide (c ≤ 90)
def digC (c : Int) : Bool := decide (48 ≤ c) && decide (c ≤ 57)
def partC (c : Int) : Bool := smallC c || (capC c || (digC c || (c == 95)))
theorem f146_eq (n : Nat) (c : Int) : f146 n c = some (partC c) := by
  unfold f146
  rw [f148_eq, f149_eq, f132_eq]
  show (bif smallC c then _ else (Option.bind (some (capC c)) _)) = some (smallC c || (capC c || (digC c || (c == 95))))
  cases smallC c
  · show (bif capC c then _ else (Option.bind (some (digC c)) _)) = _
    cases capC c
    · show (bif digC c then _ else _) = _
      cases digC c <;> rfl
    · rfl
  · rfl
theorem okB_cap (c : Int) : okB c 65 90 = (capC c || (digC c || (c == 95))) := rfl
theorem partC_ok (c : Int) (h : smallC c = false) : partC c = okB c 65 90 := by unfold partC; rw [h, okB_cap]; rfl
theorem okB_part (c : Int) (h : okB c 65 90 = true) : partC c = true ∧ smallC c = false := by
  rw [okB_cap] at h
  refine ⟨by unfold partC; rw [h, Bool.or_true], ?_⟩
  unfold smallC
  unfold capC digC at h
  simp only [Bool.or_eq_true, Bool.and_eq_true, decide_eq_true_eq, beq_iff_eq] at h
  simp only [Bool.and_eq_false_iff, decide_eq_false_iff_not]
  omega
end Go.Proofs
end
section
namespace Go.Proofs
open Go.Vm
theorem goN_run (l : List UInt8) (p : UInt8 → Bool) : ∀ (d k : Nat), d + k = l.length → ∃ r : Int, goN (fun k acc => match l[k]? with | some c => bif p c then acc else some (k : Int) | none => none) (some (l.length : Int)) d k = some r ∧ decide (r < (l.length : Int)) = !(l.drop k).all p
  | 0, k, h => by
    have h0 : l.drop k = [] := List.drop_eq_nil_of_le (by omega)
    exact ⟨(l.length : Int), rfl, by rw [h0]; simp⟩
  | d + 1, k, h => by
    have hlt : k < l.length := by omega
    rw [List.drop_eq_getElem_cons hlt, List.all_cons]
    show ∃ r : Int, (match l[k]? with | some c => bif p c then goN _ _ d (k + 1) else some (k : Int) | none => none) = some r ∧ _
    rw [List.getElem?_eq_getElem hlt]
    show ∃ r : Int, (bif p l[k] then goN _ _ d (k + 1) else some (k : Int)) = some r ∧ _
    cases p l[k] with
    | true =>
      obtain ⟨r, h1, h2⟩ := goN_run l p d (k + 1) (by omega)
      exact ⟨r, h1, by rw [h2, Bool.true_and]⟩
    | false => exact ⟨k, rfl, by simp; omega⟩
theorem f131_eq {n : Nat} {s : ByteArray} (hn : s.size < n) (hl : s.size < 4611686018427387904) : ∃ r, f131 n s 0 = some r ∧ decide (r < bsz s) = !s.data.toList.all fun c => partC c.toNat := by
  have hlen := lenS s
  obtain ⟨r, h1, h2⟩ := goN_run s.data.toList (fun c => partC c.toNat) s.size 0 (by omega)
  refine ⟨r, ?_, ?_⟩
  · unfold f131
    refine Eq.trans (scanN s.size (some (s.data.toList.length : Int)) (fun k acc => match s.data.toList[k]? with | some c => bif partC c.toNat then acc else some (k : Int) | none => none) (f131_l7 0 s n f131_k5) (fun m k hk => ?_) (fun m => ?_) hl s.size 0 n (by omega) hn) h1
    · rw [f131_l7.eq_2]
      have e0 : wr .i64 (0 + (k : Int)) = k := by rw [wr_id (by omega) (by omega)]; omega
      have h1 : decide ((k : Int) < bsz s) = true := by simp [bsz]; omega
      rw [e0, h1, si_get, List.getElem?_eq_getElem (by omega)]
      simp only [cond_true, Option.map_some, Option.bind_some, f146_eq, f131_k20, f131_k5]
    · rw [f131_l7.eq_2]
      have e0 : wr .i64 (0 + (s.size : Int)) = s.size := by rw [wr_id (by omega) (by omega)]; omega
      have h1 : decide ((s.size : Int) < bsz s) = false := by simp [bsz]
      rw [e0, h1]
      show some (s.size : Int) = _
      rw [hlen]
  · rw [List.drop_zero] at h2
    rw [← h2]
    unfold bsz
    rw [hlen]
end Go.Proofs
end
section
namespace Go.Proofs
open Go.Vm
theorem scanTot {σ ρ : Type} (N : Nat) (L : Nat → σ → Int → Option ρ) (hL : ∀ m (k : Nat) v, k < N → (∃ r, L (m + 1) v k = some r) ∨ ∃ v', L (m + 1) v k = L m v' ((k + 1 : Nat) : Int)) (hK : ∀ m v, ∃ r, L (m + 1) v N = some r) :
    ∀ (d k m : Nat) (v : σ), d + k = N → d < m → ∃ r, L m v k = some r
  | 0, k, m, v, hk, hm => by
    obtain ⟨m, rfl⟩ := Nat.exists_eq_succ_of_ne_zero (by omega : m ≠ 0)
    have : k = N := by omega
    subst this
    exact hK m v
  | d + 1, k, m, v, hk, hm => by
    obtain ⟨m, rfl⟩ := Nat.exists_eq_succ_of_ne_zero (by omega : m ≠ 0)
    rcases hL m k v (by omega) with h | ⟨v', h⟩
    · exact h
    · rw [h]; exact scanTot N L hL hK d (k + 1) m v' (by omega) (by omega)
theorem f133_tot {n : Nat} {s : ByteArray} (h0 : 0 < s.size) (hn : s.size < n) (hl : s.size < 4611686018427387904) : ∃ r, f133 n s = some r := by
  have hlen := lenS s
  have two : ∀ x : Int, ∃ r, f133_l44 s f133_k41 n x 0 = some r := fun x => by
    refine scanTot s.size (fun m (v : Int) k => f133_l44 s f133_k41 m v k) (fun m k v hk => ?_) (fun m v => ?_) s.size 0 n x (by omega) hn
    · show (∃ r, f133_l44 s f133_k41 (m + 1) v k = some r) ∨ ∃ v', f133_l44 s f133_k41 (m + 1) v k = f133_l44 s f133_k41 m v' ((k + 1 : Nat) : Int)
      rw [f133_l44.eq_2]
      have h1 : decide ((k : Int) < bsz s) = true := by simp [bsz]; omega
      rw [h1, si_get, List.getElem?_eq_getElem (by omega)]
      simp only [cond_true, Option.map_some, Option.bind_some]
      have e0 : wr .i64 ((k : Int) + 1) = ((k + 1 : Nat) : Int) := by rw [wr_id (by omega) (by omega)]; omega
      rw [e0]
      generalize wr .i64 (wr .i64 (wr .i64 (10 * v) + _) - 48) = q
      cases decide (q > 1099511627776)
      · exact .inr ⟨q, rfl⟩
      · exact .inl ⟨_, rfl⟩
    · show ∃ r, f133_l44 s f133_k41 (m + 1) v (s.size : Int) = some r
      rw [f133_l44.eq_2]
      have h1 : decide ((s.size : Int) < bsz s) = false := by simp [bsz]
      rw [h1]; exact ⟨_, rfl⟩
  have k3 : ∃ r, f133_k3 s n = some r := by
    unfold f133_k3
    have e := si_get s 0
    rw [List.getElem?_eq_getElem (by omega)] at e
    have e2 : si s 0 = some ((s.data.toList[0]'(by omega)).toNat : Int) := e
    rw [e2]
    simp only [Option.bind_some, f133_k33]
    obtain ⟨r, hr⟩ := two 0
    rw [hr]
    cases ((s.data.toList[0]'(by omega)).toNat : Int) == 48 <;> cases decide (bsz s > 1) <;> exact ⟨_, rfl⟩
  unfold f133
  obtain ⟨r3, h3⟩ := k3
  rw [h3]
  refine scanTot s.size (fun m (_ : Unit) k => f133_l6 s n (some r3) m k) (fun m k v hk => ?_) (fun m v => ?_) s.size 0 n () (by omega) hn
  · show (∃ r, f133_l6 s n (some r3) (m + 1) k = some r) ∨ ∃ v' : Unit, f133_l6 s n (some r3) (m + 1) k = f133_l6 s n (some r3) m ((k + 1 : Nat) : Int)
    rw [f133_l6.eq_2]
    have h1 : decide ((k : Int) < bsz s) = true := by simp [bsz]; omega
    rw [h1, si_get, List.getElem?_eq_getElem (by omega)]
    simp only [cond_true, Option.map_some, Option.bind_some, f132_eq]
    have e0 : wr .i64 ((k : Int) + 1) = ((k + 1 : Nat) : Int) := by rw [wr_id (by omega) (by omega)]; omega
    rw [e0]
    generalize ((s.data.toList[k]'(by omega)).toNat : Int) = c
    cases (decide (48 ≤ c) && decide (c ≤ 57))
    · exact .inl ⟨_, rfl⟩
    · exact .inr ⟨(), rfl⟩
  · show ∃ r, f133_l6 s n (some r3) (m + 1) (s.size : Int) = some r
    rw [f133_l6.eq_2]
    have h1 : decide ((s.size : Int) < bsz s) = false := by simp [bsz]
    rw [h1]; exact ⟨_, rfl⟩
end Go.Proofs
end
section
namespace Go.Proofs
open Go.Vm
theorem f134_l {s : ByteArray} {n : Nat} {K : Bool → Bool → Option KE} (hl : s.size < 4611686018427387904) : ∀ (d k m : Nat) (lo hi : Bool), d + k = s.size → d < m →
    f134_l26 s n K m lo hi k = K (lo || (s.data.toList.drop k).any fun c => smallC c.toNat) (hi || (s.data.toList.drop k).any fun c => capC c.toNat)
  | 0, k, m, lo, hi, hk, hm => by
    obtain ⟨m, rfl⟩ := Nat.exists_eq_succ_of_ne_zero (by omega : m ≠ 0)
    have hlen := lenS s
    have h0 : s.data.toList.drop k = [] := List.drop_eq_nil_of_le (by omega)
    have h1 : decide ((k : Int) < bsz s) = false := by simp [bsz]; omega
    rw [f134_l26.eq_2, h1, h0]
    simp
  | d + 1, k, m, lo, hi, hk, hm => by
    obtain ⟨m, rfl⟩ := Nat.exists_eq_succ_of_ne_zero (by omega : m ≠ 0)
    have hlen := lenS s
    have hlt : k < s.data.toList.length := by omega
    have h1 : decide ((k : Int) < bsz s) = true := by simp [bsz]; omega
    have e0 : wr .i64 ((k : Int) + 1) = ((k + 1 : Nat) : Int) := by rw [wr_id (by omega) (by omega)]; omega
    have ih := fun lo hi => f134_l (n := n) (K := K) hl d (k + 1) m lo hi (by omega) (by omega)
    have es : si s (k : Int) = some ((s.data.toList[k]).toNat : Int) := by rw [si_get, List.getElem?_eq_getElem hlt]; rfl
    rw [f134_l26.eq_2, h1, List.drop_eq_getElem_cons hlt, List.any_cons, List.any_cons]
    simp only [cond_true, es, Option.bind_some, f148_eq, f149_eq, f134_k49, f134_k47, e0, ih]
    show (bif lo then (bif hi then _ else _) else (bif hi then _ else _)) = _
    cases lo <;> cases hi <;> simp [smallC, capC]
end Go.Proofs
end
section
namespace Go.Proofs
open Go.Vm
def kwL : List ByteArray := (f147 0).getD []
def signL : List ByteArray := (f130 0).getD []
def trueL : List ByteArray := [(ByteArray.mk #[84, 114, 117, 101]), (ByteArray.mk #[70, 97, 108, 115, 101]), (ByteArray.mk #[86, 111, 105, 100]), (ByteArray.mk #[67, 117, 114, 114, 101, 110, 116]), (ByteArray.mk #[82, 101, 115, 117, 108, 116])]
def hasB (l : List ByteArray) (s : ByteArray) : Bool := l.any fun x => sEqF x s
def wordR (s : ByteArray) : KE :=
  bif hasB kwL s then KE.mk 3 0 else bif hasB trueL s then KE.mk 3 0 else bif hasB smallKw s then KE.mk 0 4 else
  bif (s.data.toList.any fun c => smallC c.toNat) && (s.data.toList.any fun c => capC c.toNat) then KE.mk 0 2 else bif decide (bsz s > 20) then KE.mk 0 3 else bif s.data.toList.any fun c => smallC c.toNat then KE.mk 1 0 else KE.mk 2 0
theorem f134_eq {n : Nat} {s : ByteArray} (hn : s.size < n) (h9 : 100 < n) (hl : s.size < 4611686018427387904) : f134 n s = some (wordR s) := by
  have hK : f129 n kwL s = some (hasB kwL s) := f129_eq (by have : kwL.length < 50 := by decide
                                                            omega) (by decide)
  have hT : f129 n trueL s = some (hasB trueL s) := f129_eq (by have : trueL.length < 50 := by decide
                                                                omega) (by decide)
  have hS : f129 n smallKw s = some (hasB smallKw s) := f129_eq (by have : smallKw.length < 50 := by decide
                                                                    omega) (by decide)
  have key : f134 n s = (f129 n kwL s).bind fun r7 => (bif r7 then f134_k4 n s true else (f129 n trueL s).bind fun r10 => f134_k4 n s r10) := rfl
  have k4 : ∀ x, f134_k4 n s x = (bif x then some (KE.mk 3 0) else (f129 n smallKw s).bind fun r17 => (bif r17 then some (KE.mk 0 4) else f134_l26 s n (f134_k23 s) n false false 0)) := fun x => rfl
  have hw := f134_l (s := s) (n := n) (K := f134_k23 s) hl s.size 0 n false false (by omega) hn
  have hw2 : f134_l26 s n (f134_k23 s) n false false 0 = _ := hw
  rw [key, hK, Option.bind_some, hT, Option.bind_some]
  simp only [k4, hS, Option.bind_some, hw2, List.drop_zero, Bool.false_or, f134_k23, f134_k66]
  unfold wordR
  cases hasB kwL s <;> cases hasB trueL s <;> cases hasB smallKw s <;> cases (s.data.toList.any fun c => smallC c.toNat) <;> cases (s.data.toList.any fun c => capC c.toNat) <;> cases decide (bsz s > 20) <;> rfl
end Go.Proofs
end
section
namespace Go.Proofs
open Go.Vm
def isClassKE (r : KE) : Bool := (r.fE == 0) && (r.fK == 2)
theorem sEqF_list {a b : ByteArray} (h : sEqF a b = true) : a.data.toList = b.data.toList := by
  unfold sEqF at h
  exact eq_of_beq h
theorem hasB_false {l : List ByteArray} {s : ByteArray} (hl : (l.all fun x => !namedL 65 90 x.data.toList) = true) (h : namedL 65 90 s.data.toList = true) : hasB l s = false := by
  unfold hasB
  rw [List.any_eq_false]
  intro x hx he
  have h1 := List.all_eq_true.1 hl x hx
  rw [sEqF_list he, h] at h1
  cases h1
theorem wordR_class {s : ByteArray} (hs : 0 < s.data.toList.length) : isClassKE (wordR s) = ((!hasB kwL s && !hasB trueL s && !hasB smallKw s) && (!(s.data.toList.any fun c => smallC c.toNat) && !decide (bsz s > 20))) := by
  unfold wordR
  cases hasB kwL s <;> cases hasB trueL s <;> cases hasB smallKw s <;> cases (s.data.toList.any fun c => smallC c.toNat) <;> cases (s.data.toList.any fun c => capC c.toNat) <;> cases decide (bsz s > 20) <;> rfl
theorem f96_class {n : Nat} {s : ByteArray} (hn : s.size < n) (h9 : 100 < n) (hl : s.size < 4611686018427387904) : ∃ r, f96 n s = some r ∧ isClassKE r = namedL 65 90 s.data.toList := by
  have hlen := lenS s
  have eb : bsz s = (s.data.toList.length : Int) := by unfold bsz; rw [hlen]
  have hSg : f129 n signL s = some (hasB signL s) := f129_eq (by have : signL.length < 50 := by decide
                                                                 omega) (by decide)
  have key : f96 n s = (f129 n signL s).bind fun r7 => (bif r7 then some (KE.mk 5 0) else (bif (bsz s == 0) then f96_k12 s n true else ((f131 n s 0).bind fun r14 => (bif decide (r14 < bsz s) then f96_k12 s n true else ((si s 0).bind fun c17 => f96_k12 s n (c17 == 95)))))) := rfl
  obtain ⟨rr, hr1, hr2⟩ := f131_eq hn hl
  rw [key, hSg, Option.bind_some, hr1]
  cases hd : s.data.toList with
  | nil =>
    have e0 : (bsz s == 0) = true := by rw [eb, hd]; rfl
    rw [e0]
    cases hasB signL s
    · exact ⟨_, rfl, rfl⟩
    · exact ⟨_, rfl, rfl⟩
  | cons c t =>
    have hpos : 0 < s.size := by rw [← hlen, hd]; simp
    have e0 : (bsz s == 0) = false := by rw [eb, hd]; simp; omega
    have es : si s 0 = some (c.toNat : Int) := by rw [si_zero, hd]; rfl
    rw [e0]
    simp only [cond_false, Option.bind_some, hr2, es, hd]
    obtain ⟨rn, hrn⟩ := f133_tot (n := n) hpos hn hl
    have hw := f134_eq hn h9 hl
    have kT : f96_k12 s n true = some (KE.mk 0 2) := rfl
    have kF : f96_k12 s n false = bif digC (c.toNat : Int) then (bif (rn.fE != 0) then some (KE.mk 0 rn.fE) else some (KE.mk 4 0)) else some (wordR s) := by
      unfold f96_k12
      rw [es, hrn, hw]
      simp only [cond_false, Option.bind_some, f132_eq]
      rfl
    cases hN : namedL 65 90 (c :: t) with
    | true =>
      have hN' : namedL 65 90 s.data.toList = true := by rw [hd]; exact hN
      have h1 := hasB_false (l := signL) (by decide) hN'
      have h2 := hasB_false (l := kwL) (by decide) hN'
      have h3 := hasB_false (l := trueL) (by decide) hN'
      have h4 := hasB_false (l := smallKw) (by decide) hN'
      unfold namedL at hN
      simp only [Bool.and_eq_true, decide_eq_true_eq] at hN
      obtain ⟨n1, n2, n3, n4⟩ := hN
      have hall : ((c :: t).all fun c => partC c.toNat) = true := List.all_eq_true.2 fun x hx => (okB_part _ (List.all_eq_true.1 n4 x hx)).1
      have hsm : ((c :: t).any fun c => smallC c.toNat) = false := List.any_eq_false.2 fun x hx h => by
        have := (okB_part _ (List.all_eq_true.1 n4 x hx)).2
        rw [this] at h; cases h
      have h95 : ((c.toNat : Int) == 95) = false := by simp; omega
      have hdg : digC (c.toNat : Int) = false := by unfold digC; simp; omega
      rw [h1, hall, h95, kF, hdg]
      refine ⟨wordR s, rfl, ?_⟩
      rw [wordR_class (by rw [hd]; simp), h2, h3, h4, hd, hsm, eb, hd]
      have : decide (((c :: t).length : Int) > 20) = false := by simp at n1 ⊢; omega
      rw [this]; rfl
    | false =>
      cases hsg : hasB signL s with
      | true => exact ⟨_, rfl, rfl⟩
      | false =>
        cases hall : ((c :: t).all fun c => partC c.toNat) with
        | false => exact ⟨_, rfl, rfl⟩
        | true =>
          cases h95 : ((c.toNat : Int) == 95) with
          | true => exact ⟨_, rfl, rfl⟩
          | false =>
            rw [kF]
            cases hdg : digC (c.toNat : Int) with
            | true => cases (rn.fE != 0) <;> exact ⟨_, rfl, by first | rfl | simp [isClassKE]⟩
            | false =>
              refine ⟨wordR s, rfl, ?_⟩
              cases hc : isClassKE (wordR s) with
              | false => rfl
              | true =>
                exfalso
                rw [wordR_class (by rw [hd]; simp), hd, eb, hd] at hc
                simp only [Bool.and_eq_true, Bool.not_eq_true', decide_eq_false_iff_not] at hc
                obtain ⟨_, hsm, h20⟩ := hc
                have hok : ((c :: t).all fun c => okB c.toNat 65 90) = true := List.all_eq_true.2 fun x hx => by
                  have p1 := List.all_eq_true.1 hall x hx
                  have p2 : smallC x.toNat = false := by
                    have := List.any_eq_false.1 hsm x hx
                    simpa using this
                  rw [← partC_ok _ p2]; exact p1
                have hc1 := List.all_eq_true.1 hok c (by simp)
                rw [okB_cap, hdg, h95] at hc1
                simp only [Bool.or_false] at hc1
                unfold capC at hc1
                simp only [Bool.and_eq_true, decide_eq_true_eq] at hc1
                have : namedL 65 90 (c :: t) = true := by
                  unfold namedL
                  simp only [Bool.and_eq_true, decide_eq_true_eq]
                  exact ⟨by omega, hc1.1, hc1.2, hok⟩
                rw [this] at hN; cases hN
end Go.Proofs
end
section
namespace Go.Proofs
open Go.Vm
theorem f54_eq {n : Nat} {s : ByteArray} (hn : s.size < n) (h9 : 100 < n) (hl : s.size < 4611686018427387904) : f54 n s = some (classB s) := by
  obtain ⟨r, h1, h2⟩ := f96_class hn h9 hl
  unfold f54 classB
  rw [h1, Option.bind_some, ← h2]
  unfold isClassKE f54_k6 classKw
  simp only [List.any_cons, List.any_nil]
  have comm : ∀ a b : ByteArray, sEqF a b = sEqF b a := fun a b => by unfold sEqF; exact Bool.beq_comm
  cases (r.fE == 0) <;> cases (r.fK == 2) <;> cases sEqF s (ByteArray.mk #[73, 78, 84, 69, 71, 69, 82]) <;> cases sEqF s (ByteArray.mk #[66, 79, 79, 76, 69, 65, 78]) <;> cases sEqF s (ByteArray.mk #[65, 78, 89]) <;> cases sEqF s (ByteArray.mk #[78, 79, 78, 69]) <;> rfl
end Go.Proofs
end
section
namespace Go.Proofs
open Go.Vm
def colE (pre : List Col) (c : Col) : Int :=
  bif !smallB c.fName then 4 else bif decide (colIx pre c.fName ≥ 0) then 6 else bif !(inR c.fKind 1 3) || (c.fKind != 3 && !(sEqF c.fClass (ByteArray.mk #[]))) then 1 else 0
def colsB (l : List Col) (k : Nat) (acc : Option Int) : Option Int := match l[k]? with
  | some c => bif colE (l.take k) c == 0 then acc else some (colE (l.take k) c)
  | none => none
theorem sli_take {α : Type} (l : List α) (k : Nat) (h : k ≤ l.length) : sli l 0 (k : Int) = some (l.take k) := by
  unfold sli
  have h1 : decide ((0 : Int) ≤ 0) = true := rfl
  have h2 : decide ((0 : Int) ≤ (k : Int)) = true := by simp
  have h3 : decide ((k : Int) ≤ (l.length : Int)) = true := by simpa using h
  rw [h1, h2, h3]
  simp
theorem f53_l {l : List Col} {K : Option Int} {n : Nat} (hs : ∀ c ∈ l, c.fName.size < n) (h9 : 100 < n) (hn : l.length < n) (hl : l.length < 4611686018427387904) : f53_l12 l n K n 0 = goN (colsB l) K l.length 0 := by
  refine scanN l.length K (colsB l) (f53_l12 l n K) (fun m k hk => ?_) (fun m => ?_) hl l.length 0 n (by omega) hn
  · rw [f53_l12.eq_2]
    have h1 : decide ((k : Int) < len l) = true := by simp [len]; omega
    rw [h1, gi_nat, List.getElem?_eq_getElem hk]
    simp only [cond_true, Option.bind_some]
    rw [f94_eq (hs _ (List.getElem_mem hk)) (by omega), sli_take l k (by omega)]
    simp only [Option.bind_some]
    rw [f95_eq (by rw [List.length_take]; omega) (by rw [List.length_take]; omega), f86_eq]
    simp only [Option.bind_some, f53_k67]
    unfold colsB
    rw [List.getElem?_eq_getElem hk]
    show _ = bif colE (l.take k) l[k] == 0 then _ else some (colE (l.take k) l[k])
    unfold colE
    cases smallB l[k].fName <;> cases decide (colIx (l.take k) l[k].fName ≥ 0) <;> cases inR l[k].fKind 1 3 <;> cases (l[k].fKind != 3) <;> cases sEqF l[k].fClass (ByteArray.mk #[]) <;> rfl
  · rw [f53_l12.eq_2]
    have h1 : decide ((l.length : Int) < len l) = false := by simp [len]
    rw [h1]; rfl
end Go.Proofs
end
section
namespace Go.Proofs
open Go.Vm
theorem ixOf_app {α : Type} (p : α → Bool) : ∀ (a b : List α) (j : Nat), ixOf p (a ++ b) j = bif a.any p then ixOf p a j else ixOf p b (j + a.length)
  | [], b, j => by simp
  | y :: a, b, j => by
    rw [List.cons_append, List.any_cons]
    unfold ixOf
    cases p y
    · rw [cond_false, ixOf_app p a b (j + 1), Bool.false_or, List.length_cons, cond_false]
      rw [show j + 1 + a.length = j + (a.length + 1) by omega]
      cases b <;> rfl
    · rfl
theorem ixOf_bound {α : Type} (p : α → Bool) : ∀ (a : List α) (j : Nat), a.any p = true → (j : Int) ≤ ixOf p a j ∧ ixOf p a j < (j : Int) + a.length
  | [], j, h => by simp at h
  | y :: a, j, h => by
    rw [List.any_cons] at h
    unfold ixOf
    cases hp : p y
    · rw [hp, Bool.false_or] at h
      have := ixOf_bound p a (j + 1) h
      rw [cond_false, List.length_cons]
      push_cast at this ⊢
      omega
    · rw [cond_true, List.length_cons]
      push_cast
      omega
theorem ahead {α : Type} (p : α → Bool) (l : List α) (k : Nat) (hk : k < l.length) (hp : p l[k] = true) : decide (ixOf p l 0 < (k : Int)) = decide (ixOf p (l.take k) 0 ≥ 0) := by
  rw [ixOf_ge]
  have h1 := ixOf_app p (l.take k) (l.drop k) 0
  rw [List.take_append_drop] at h1
  rw [h1]
  cases ha : (l.take k).any p
  · rw [cond_false, List.drop_eq_getElem_cons hk]
    have : ixOf p (l[k] :: l.drop (k + 1)) (0 + (l.take k).length) = ((0 + (l.take k).length : Nat) : Int) := by
      unfold ixOf; rw [hp]; rfl
    rw [this, List.length_take]
    simp; omega
  · have := ixOf_bound p (l.take k) 0 ha
    rw [cond_true]
    rw [List.length_take] at this
    simp; omega
theorem sEqF_refl (a : ByteArray) : sEqF a a = true := by unfold sEqF; simp
end Go.Proofs
end
section
namespace Go.Proofs
open Go.Vm
theorem f17_cols {L : List Form} {x : Int} {f : Form} {K : Option Int} {n : Nat} (hg : gi L x = some f) (hs : ∀ c ∈ f.fCols, c.fName.size < n) (hs2 : ∀ c ∈ f.fCols, c.fName.size < 4611686018427387904) (hn : f.fCols.length < n) (hl : f.fCols.length < 4611686018427387904) :
    f17_l153 L x n K n 0 = goN (colsB f.fCols) K f.fCols.length 0 := by
  refine scanN f.fCols.length K (colsB f.fCols) (f17_l153 L x n K) (fun m k hk => ?_) (fun m => ?_) hl f.fCols.length 0 n (by omega) hn
  · rw [f17_l153.eq_2, hg]
    have h1 : decide ((k : Int) < len f.fCols) = true := by simp [len]; omega
    simp only [Option.bind_some, h1, cond_true, gi_nat, List.getElem?_eq_getElem hk]
    rw [f56_eq (hs _ (List.getElem_mem hk)) (hs2 _ (List.getElem_mem hk)), f57_eq hn hl, f58_eq]
    simp only [Option.bind_some, f17_k220]
    unfold colsB
    rw [List.getElem?_eq_getElem hk]
    show _ = bif colE (f.fCols.take k) f.fCols[k] == 0 then _ else some (colE (f.fCols.take k) f.fCols[k])
    unfold colE colIx
    rw [ahead (fun y => sEqF y.fName f.fCols[k].fName) f.fCols k hk (sEqF_refl _)]
    cases smallB f.fCols[k].fName <;> cases decide (ixOf (fun y => sEqF y.fName f.fCols[k].fName) (f.fCols.take k) 0 ≥ 0) <;> cases inR f.fCols[k].fKind 1 3 <;> cases (f.fCols[k].fKind != 3) <;> cases sEqF f.fCols[k].fClass (ByteArray.mk #[]) <;> rfl
  · rw [f17_l153.eq_2, hg]
    have h1 : decide ((f.fCols.length : Int) < len f.fCols) = false := by simp [len]
    simp only [Option.bind_some, h1, cond_false]
end Go.Proofs
end
section
namespace Go.Proofs
open Go.Vm
theorem goN_cols (l : List Col) (K : Option Int) : ∀ (d k : Nat), d + k = l.length → ∃ e, goN (colsB l) (some 0) d k = some e ∧ goN (colsB l) K d k = bif e == 0 then K else some e
  | 0, k, h => ⟨0, rfl, rfl⟩
  | d + 1, k, h => by
    have hk : k < l.length := by omega
    obtain ⟨e, h1, h2⟩ := goN_cols l K d (k + 1) (by omega)
    have st : ∀ K', goN (colsB l) K' (d + 1) k = bif colE (l.take k) l[k] == 0 then goN (colsB l) K' d (k + 1) else some (colE (l.take k) l[k]) := fun K' => by
      show colsB l k _ = _
      unfold colsB
      rw [List.getElem?_eq_getElem hk]
    rw [st, st]
    cases hc : colE (l.take k) l[k] == 0
    · exact ⟨_, rfl, by rw [hc]; rfl⟩
    · exact ⟨e, h1, h2⟩
theorem f49_three (n : Nat) (a b c : Int) (h : 10 < n) : f49 n [a, b, c] = some (bif a != 0 then a else bif b != 0 then b else c) := by
  unfold f49
  have := scan0 [a, b, c] f49_k3 (fun x y acc => bif y != 0 then some y else acc) (f49_l7 [a, b, c] f49_k3) (fun m x => rfl) (by simp) 3 0 n (by simp) (by omega)
  refine Eq.trans this ?_
  simp only [List.drop_zero, go0, f49_k3]
  cases ha : (a != 0)
  · cases hb : (b != 0)
    · cases hc : (c != 0)
      · have : c = 0 := by simpa using hc
        subst this; rfl
      · rfl
    · rfl
  · rfl
theorem f50_eq (n : Nat) (x : Bool) (e : Int) : f50 n x e = some (bif x then 0 else e) := by unfold f50; cases x <;> rfl
end Go.Proofs
end
section
namespace Go.Proofs
open Go.Vm
def colsR (l : List Col) : Int := bif decide (len l > 30) then 3 else (goN (colsB l) (some 0) l.length 0).getD 0
def formE (pre : List Form) (f : Form) : Int := bif !classB f.fName then 4 else bif decide (formIx pre f.fName ≥ 0) then 6 else colsR f.fCols
def formsB (l : List Form) (k : Nat) (acc : Option Int) : Option Int := match l[k]? with
  | some f => bif formE (l.take k) f == 0 then acc else some (formE (l.take k) f)
  | none => none
def FormSz (n : Nat) (l : List Form) : Prop := l.length < n ∧ ∀ f ∈ l, f.fName.size < n ∧ f.fCols.length < n ∧ ∀ c ∈ f.fCols, c.fName.size < n
theorem f53_eq {l : List Col} {n : Nat} (hs : ∀ c ∈ l, c.fName.size < n) (h9 : 100 < n) (hn : l.length < n) (hl : l.length < 4611686018427387904) : f53 n l = some (colsR l) := by
  unfold f53 colsR
  rw [f53_l hs h9 hn hl]
  obtain ⟨e, h1, _⟩ := goN_cols l none l.length 0 (by omega)
  cases decide (len l > 30)
  · show goN (colsB l) (some 0) l.length 0 = some ((goN (colsB l) (some 0) l.length 0).getD 0)
    rw [h1]; rfl
  · rfl
theorem f16_l {l : List Form} {K : Option Int} {n : Nat} (hz : FormSz n l) (h9 : 100 < n) (hn : n < 4611686018427387904) : f16_l12 l n K n 0 = goN (formsB l) K l.length 0 := by
  refine scanN l.length K (formsB l) (f16_l12 l n K) (fun m k hk => ?_) (fun m => ?_) (by have := hz.1; omega) l.length 0 n (by omega) hz.1
  · obtain ⟨z1, z2, z3⟩ := hz.2 _ (List.getElem_mem hk)
    have hlen := hz.1
    rw [f16_l12.eq_2]
    have h1 : decide ((k : Int) < len l) = true := by simp [len]; omega
    rw [h1, gi_nat, List.getElem?_eq_getElem hk, sli_take l k (by omega)]
    simp only [cond_true, Option.bind_some]
    rw [f51_eq z1 (by omega), Option.bind_some, f50_eq, Option.bind_some, f52_eq (by rw [List.length_take]; omega) (by rw [List.length_take]; omega), Option.bind_some, f50_eq, Option.bind_some, f53_eq z3 h9 z2 (by omega), Option.bind_some, f49_three n _ _ _ (by omega), Option.bind_some]
    unfold formsB
    rw [List.getElem?_eq_getElem hk]
    show _ = bif formE (l.take k) l[k] == 0 then _ else some (formE (l.take k) l[k])
    unfold formE
    have hlt : decide (formIx (l.take k) l[k].fName < 0) = !decide (formIx (l.take k) l[k].fName ≥ 0) := by
      unfold formIx; rw [ixOf_lt, ixOf_ge]
    rw [hlt]
    cases classB l[k].fName
    · rfl
    · cases decide (formIx (l.take k) l[k].fName ≥ 0)
      · show (bif colsR l[k].fCols != 0 then some (colsR l[k].fCols) else _) = bif colsR l[k].fCols == 0 then _ else some (colsR l[k].fCols)
        unfold bne
        cases colsR l[k].fCols == 0 <;> rfl
      · rfl
  · rw [f16_l12.eq_2]
    have h1 : decide ((l.length : Int) < len l) = false := by simp [len]
    rw [h1]; rfl
end Go.Proofs
end
section
namespace Go.Proofs
open Go.Vm
theorem f17_l {l : List Form} {K : Option Int} {n : Nat} (hz : FormSz n l) (h9 : 100 < n) (hn : n < 4611686018427387904) : f17_l11 l n K n 0 = goN (formsB l) K l.length 0 := by
  refine scanN l.length K (formsB l) (f17_l11 l n K) (fun m k hk => ?_) (fun m => ?_) (by have := hz.1; omega) l.length 0 n (by omega) hz.1
  · obtain ⟨z1, z2, z3⟩ := hz.2 _ (List.getElem_mem hk)
    have hlen := hz.1
    have hg : gi l (k : Int) = some l[k] := by rw [gi_nat, List.getElem?_eq_getElem hk]
    rw [f17_l11.eq_2]
    have h1 : decide ((k : Int) < len l) = true := by simp [len]; omega
    rw [h1]
    simp only [cond_true, hg, Option.bind_some]
    rw [f54_eq z1 h9 (by omega), Option.bind_some, f55_eq hlen (by omega), Option.bind_some]
    rw [f17_cols (K := f17_k125 k (f17_l11 l n K m)) hg z3 (fun c hc => by have := z3 c hc; omega) z2 (by omega)]
    unfold formsB
    rw [List.getElem?_eq_getElem hk]
    show _ = bif formE (l.take k) l[k] == 0 then _ else some (formE (l.take k) l[k])
    unfold formE formIx
    rw [ahead (fun y => sEqF y.fName l[k].fName) l k hk (sEqF_refl _)]
    cases classB l[k].fName
    · rfl
    · cases decide (ixOf (fun y => sEqF y.fName l[k].fName) (l.take k) 0 ≥ 0)
      · unfold colsR
        obtain ⟨e, e1, e2⟩ := goN_cols l[k].fCols (f17_k125 k (f17_l11 l n K m)) l[k].fCols.length 0 (by omega)
        rw [e1, e2]
        cases decide (len l[k].fCols > 30)
        · show (bif e == 0 then _ else some e) = bif e == 0 then _ else some e
          cases e == 0 <;> rfl
        · rfl
      · rfl
  · rw [f17_l11.eq_2]
    have h1 : decide ((l.length : Int) < len l) = false := by simp [len]
    rw [h1]; rfl
end Go.Proofs
end
section
namespace Go.Proofs
open Go.Vm
def refB (L : List Form) (l : List Col) (k : Nat) (acc : Option Int) : Option Int := match l[k]? with
  | some c => bif (c.fKind == 3) && (!(sEqF c.fClass (ByteArray.mk #[65, 78, 89])) && decide (formIx L c.fClass < 0)) then some 5 else acc
  | none => none
def refsB (L : List Form) (k : Nat) (acc : Option Int) : Option Int := match L[k]? with
  | some f => goN (refB L f.fCols) acc f.fCols.length 0
  | none => none
theorem f16_in {L : List Form} {f : Form} {K : Option Int} {n : Nat} (hL : L.length < n) (hf : f.fCols.length < n) (hn : n < 4611686018427387904) : f16_l130 f n L K n 0 = goN (refB L f.fCols) K f.fCols.length 0 := by
  refine scanN f.fCols.length K (refB L f.fCols) (f16_l130 f n L K) (fun m k hk => ?_) (fun m => ?_) (by omega) f.fCols.length 0 n (by omega) hf
  · rw [f16_l130.eq_2]
    have h1 : decide ((k : Int) < len f.fCols) = true := by simp [len]; omega
    rw [h1, gi_nat, List.getElem?_eq_getElem hk]
    simp only [cond_true, Option.bind_some]
    rw [f52_eq hL (by omega)]
    simp only [Option.bind_some, f16_k157]
    unfold refB
    rw [List.getElem?_eq_getElem hk]
    show _ = bif (f.fCols[k].fKind == 3) && (!(sEqF f.fCols[k].fClass (ByteArray.mk #[65, 78, 89])) && decide (formIx L f.fCols[k].fClass < 0)) then _ else _
    cases (f.fCols[k].fKind == 3) <;> cases sEqF f.fCols[k].fClass (ByteArray.mk #[65, 78, 89]) <;> cases decide (formIx L f.fCols[k].fClass < 0) <;> rfl
  · rw [f16_l130.eq_2]
    have h1 : decide ((f.fCols.length : Int) < len f.fCols) = false := by simp [len]
    rw [h1]; rfl
theorem f17_in {L : List Form} {x : Int} {f : Form} {K : Option Int} {n : Nat} (hg : gi L x = some f) (hL : L.length < n) (hf : f.fCols.length < n) (hn : n < 4611686018427387904) : f17_l296 L x n K n 0 = goN (refB L f.fCols) K f.fCols.length 0 := by
  refine scanN f.fCols.length K (refB L f.fCols) (f17_l296 L x n K) (fun m k hk => ?_) (fun m => ?_) (by omega) f.fCols.length 0 n (by omega) hf
  · rw [f17_l296.eq_2, hg]
    have h1 : decide ((k : Int) < len f.fCols) = true := by simp [len]; omega
    simp only [Option.bind_some, h1, cond_true, gi_nat, List.getElem?_eq_getElem hk]
    rw [f55_eq hL (by omega)]
    simp only [Option.bind_some, f17_k333]
    unfold refB
    rw [List.getElem?_eq_getElem hk]
    show _ = bif (f.fCols[k].fKind == 3) && (!(sEqF f.fCols[k].fClass (ByteArray.mk #[65, 78, 89])) && decide (formIx L f.fCols[k].fClass < 0)) then _ else _
    cases (f.fCols[k].fKind == 3) <;> cases sEqF f.fCols[k].fClass (ByteArray.mk #[65, 78, 89]) <;> cases decide (formIx L f.fCols[k].fClass < 0) <;> rfl
  · rw [f17_l296.eq_2, hg]
    have h1 : decide ((f.fCols.length : Int) < len f.fCols) = false := by simp [len]
    simp only [Option.bind_some, h1, cond_false]
theorem f16_l2 {l : List Form} {K : Option Int} {n : Nat} (hz : FormSz n l) (hn : n < 4611686018427387904) : f16_l70 l n K n 0 = goN (refsB l) K l.length 0 := by
  have hlen := hz.1
  refine scanN l.length K (refsB l) (f16_l70 l n K) (fun m k hk => ?_) (fun m => ?_) (by omega) l.length 0 n (by omega) hz.1
  · rw [f16_l70.eq_2]
    have h1 : decide ((k : Int) < len l) = true := by simp [len]; omega
    rw [h1, gi_nat, List.getElem?_eq_getElem hk]
    simp only [cond_true, Option.bind_some]
    rw [f16_in hlen (hz.2 _ (List.getElem_mem hk)).2.1 hn]
    unfold refsB
    rw [List.getElem?_eq_getElem hk]
    rfl
  · rw [f16_l70.eq_2]
    have h1 : decide ((l.length : Int) < len l) = false := by simp [len]
    rw [h1]; rfl
theorem f17_l2 {l : List Form} {K : Option Int} {n : Nat} (hz : FormSz n l) (hn : n < 4611686018427387904) : f17_l232 l n K n 0 = goN (refsB l) K l.length 0 := by
  have hlen := hz.1
  refine scanN l.length K (refsB l) (f17_l232 l n K) (fun m k hk => ?_) (fun m => ?_) (by omega) l.length 0 n (by omega) hz.1
  · have hg : gi l (k : Int) = some l[k] := by rw [gi_nat, List.getElem?_eq_getElem hk]
    rw [f17_l232.eq_2]
    have h1 : decide ((k : Int) < len l) = true := by simp [len]; omega
    rw [h1]
    simp only [cond_true]
    rw [f17_in hg hlen (hz.2 _ (List.getElem_mem hk)).2.1 hn]
    unfold refsB
    rw [List.getElem?_eq_getElem hk]
    rfl
  · rw [f17_l232.eq_2]
    have h1 : decide ((l.length : Int) < len l) = false := by simp [len]
    rw [h1]; rfl
theorem f16_f17 {l : List Form} {n : Nat} (hz : FormSz n l) (h9 : 100 < n) (hn : n < 4611686018427387904) : f16 n l = f17 n l := by
  unfold f16 f17 f16_k8 f17_k8
  rw [f16_l hz h9 hn, f17_l hz h9 hn, f16_l2 hz hn, f17_l2 hz hn]
  rfl
end Go.Proofs
end
section
namespace Go.Proofs
open Go.Vm
def valB (v : Val) (m : Int) : Bool := bif v.fKind == 1 then inR v.fN (-1099511627776) 1099511627776 else bif v.fKind == 2 then inR v.fN 0 1 else bif v.fKind == 3 then v.fN == 0 else bif v.fKind == 4 then inR v.fN 0 (wr .i64 (m - 1)) else false
theorem f111_val (n : Nat) (v : Val) (m : Int) : f111 n v m = some (valB v m) := by
  unfold f111 valB
  simp only [f86_eq, Option.bind_some]
  cases (v.fKind == 1) <;> cases (v.fKind == 2) <;> cases (v.fKind == 3) <;> cases (v.fKind == 4) <;> rfl
theorem f99_val (n : Nat) (v : Val) (m : Int) : f99 n v m = some (valB v m) := by rw [← f111_eq]; exact f111_val n v m
def refersB (v : Val) : Bool := (v.fKind == 3) || (v.fKind == 4)
theorem f112_eq {n : Nat} {l : List Val} {a : List Node} {b : List Val} (hn : l.length < n) (hl : l.length < 4611686018427387904) : f112 n l a b = some (l.any fun v => !valB v (len a)) := by
  have f110_eq : ∀ v, f110 n v a b = some (!valB v (len a)) := fun v => by unfold f110; rw [f111_val]; rfl
  have h : f140 n l a b = some (ixOf (fun v => !valB v (len a)) l 0) := by
    unfold f140
    have := scan0 l f140_k5 (fun x y acc => bif !valB y (len a) then some x else acc) (f140_l9 l n a b f140_k5) (fun m x => by rw [f140_l9.eq_2]; simp only [f110_eq, Option.bind_some]) hl l.length 0 n (by omega) hn
    exact this.trans (go0_ix (fun v => !valB v (len a)) id l 0)
  unfold f112
  rw [h, Option.bind_some, ixOf_ge]
theorem f112_b_eq {n : Nat} {l : List Val} {a : List Node} {b : List Val} (hn : l.length < n) (hl : l.length < 4611686018427387904) : f112_b n l a b = some (l.any fun v => !valB v (len a) || !refersB v) := by
  have f113_eq : ∀ v, f113 n v a b = some (!valB v (len a) || !refersB v) := fun v => by
    unfold f113 f110 f114 refersB
    rw [f111_val]
    simp only [Option.bind_some]
    cases valB v (len a) <;> cases (v.fKind == 3) <;> cases (v.fKind == 4) <;> rfl
  have h : f140_b n l a b = some (ixOf (fun v => !valB v (len a) || !refersB v) l 0) := by
    unfold f140_b
    have := scan0 l f140_b_k5 (fun x y acc => bif !valB y (len a) || !refersB y then some x else acc) (f140_b_l9 l n a b f140_b_k5) (fun m x => by rw [f140_b_l9.eq_2]; simp only [f113_eq, Option.bind_some]) hl l.length 0 n (by omega) hn
    exact this.trans (go0_ix (fun v => !valB v (len a) || !refersB v) id l 0)
  unfold f112_b
  rw [h, Option.bind_some, ixOf_ge]
end Go.Proofs
end
section
namespace Go.Proofs
open Go.Vm
def GraphSz (n : Nat) (g : Graph) : Prop := g.fNodes.length < n ∧ g.fRoots.length < n ∧ ∀ x ∈ g.fNodes, x.fVals.length < n
def formedR (g : Graph) : Int :=
  bif decide (len g.fNodes > 400) || decide (len g.fRoots > 60) then 3 else bif g.fNodes.any fun x => decide (len x.fVals > 30) then 3 else
  bif g.fNodes.any fun x => x.fVals.any fun v => !valB v (len g.fNodes) then 2 else bif g.fRoots.any fun v => !valB v (len g.fNodes) || !refersB v then 2 else 0
theorem scanM {α ρ : Type} (l : List α) (K : Option ρ) (p : α → Bool) (e : Option ρ) (L : Nat → Int → Option ρ)
    (hL : ∀ m (k : Nat) (hk : k < l.length), L (m + 1) k = bif p l[k] then e else L m (wr .i64 (k + 1))) (hK : ∀ m, L (m + 1) l.length = K) {n : Nat} (hn : l.length < n) (hl : l.length < 4611686018427387904) : L n 0 = bif l.any p then e else K := by
  have h := scanN l.length K (fun k acc => match l[k]? with | some y => bif p y then e else acc | none => none) L (fun m k hk => by rw [hL m k hk, List.getElem?_eq_getElem hk]) hK hl l.length 0 n (by omega) hn
  refine h.trans ?_
  have key : ∀ (d k : Nat), d + k = l.length → goN (fun k acc => match l[k]? with | some y => bif p y then e else acc | none => none) K d k = bif (l.drop k).any p then e else K := by
    intro d
    induction d with
    | zero =>
      intro k hk
      have : l.drop k = [] := List.drop_eq_nil_of_le (by omega)
      rw [this]; rfl
    | succ d ih =>
      intro k hk
      have hlt : k < l.length := by omega
      rw [List.drop_eq_getElem_cons hlt, List.any_cons]
      show (match l[k]? with | some y => bif p y then e else goN _ K d (k + 1) | none => none) = _
      rw [List.getElem?_eq_getElem hlt]
      show (bif p l[k] then e else goN _ K d (k + 1)) = _
      rw [ih (k + 1) (by omega)]
      cases p l[k] <;> rfl
  exact key l.length 0 (by omega)
theorem f74_eq {g : Graph} {n : Nat} (hz : GraphSz n g) (hn : n < 4611686018427387904) : f74 n g = some (formedR g) := by
  obtain ⟨z1, z2, z3⟩ := hz
  have l1 : ∀ K, f74_l15 g K n 0 = bif g.fNodes.any fun x => decide (len x.fVals > 30) then some 3 else K := fun K => by
    refine scanM g.fNodes K (fun x => decide (len x.fVals > 30)) (some 3) (f74_l15 g K) (fun m k hk => ?_) (fun m => ?_) z1 (by omega)
    · rw [f74_l15.eq_2]
      have h1 : decide ((k : Int) < len g.fNodes) = true := by simp [len]; omega
      rw [h1, gi_nat, List.getElem?_eq_getElem hk]; rfl
    · rw [f74_l15.eq_2]
      have h1 : decide ((g.fNodes.length : Int) < len g.fNodes) = false := by simp [len]
      rw [h1]; rfl
  have l2 : ∀ K, f74_l46 g n K n 0 = bif g.fNodes.any fun x => x.fVals.any fun v => !valB v (len g.fNodes) then some 2 else K := fun K => by
    refine scanM g.fNodes K (fun x => x.fVals.any fun v => !valB v (len g.fNodes)) (some 2) (f74_l46 g n K) (fun m k hk => ?_) (fun m => ?_) z1 (by omega)
    · rw [f74_l46.eq_2]
      have h1 : decide ((k : Int) < len g.fNodes) = true := by simp [len]; omega
      have h2 := z3 _ (List.getElem_mem hk)
      rw [h1, gi_nat, List.getElem?_eq_getElem hk]
      simp only [cond_true, Option.bind_some]
      rw [f112_eq h2 (by omega)]; rfl
    · rw [f74_l46.eq_2]
      have h1 : decide ((g.fNodes.length : Int) < len g.fNodes) = false := by simp [len]
      rw [h1]; rfl
  unfold f74 f74_k4 f74_k11 f74_k42
  rw [f112_b_eq z2 (by omega)]
  simp only [l1, l2, Option.bind_some, f50_eq]
  unfold formedR
  cases decide (len g.fNodes > 400) <;> cases decide (len g.fRoots > 60) <;> cases (g.fNodes.any fun x => decide (len x.fVals > 30)) <;> cases (g.fNodes.any fun x => x.fVals.any fun v => !valB v (len g.fNodes)) <;> cases (g.fRoots.any fun v => !valB v (len g.fNodes) || !refersB v) <;> rfl
end Go.Proofs
end
section
namespace Go.Proofs
open Go.Vm
theorem f60_eq {g : Graph} {n : Nat} (hz : GraphSz n g) (hn : n < 4611686018427387904) : f60 n g = some (formedR g) := by
  obtain ⟨z1, z2, z3⟩ := hz
  have l1 : ∀ K, f60_l15 g K n 0 = bif g.fNodes.any fun x => decide (len x.fVals > 30) then some 3 else K := fun K => by
    refine scanM g.fNodes K (fun x => decide (len x.fVals > 30)) (some 3) (f60_l15 g K) (fun m k hk => ?_) (fun m => ?_) z1 (by omega)
    · rw [f60_l15.eq_2]
      have h1 : decide ((k : Int) < len g.fNodes) = true := by simp [len]; omega
      rw [h1, gi_nat, List.getElem?_eq_getElem hk]; rfl
    · rw [f60_l15.eq_2]
      have h1 : decide ((g.fNodes.length : Int) < len g.fNodes) = false := by simp [len]
      rw [h1]; rfl
  have li : ∀ K (k : Nat) (hk : k < g.fNodes.length), f60_l96 g k n K n 0 = bif g.fNodes[k].fVals.any fun v => !valB v (len g.fNodes) then some 2 else K := fun K k hk => by
    have hg : gi g.fNodes (k : Int) = some g.fNodes[k] := by rw [gi_nat, List.getElem?_eq_getElem hk]
    have h2 := z3 _ (List.getElem_mem hk)
    refine scanM g.fNodes[k].fVals K (fun v => !valB v (len g.fNodes)) (some 2) (f60_l96 g k n K) (fun m j hj => ?_) (fun m => ?_) h2 (by omega)
    · rw [f60_l96.eq_2, hg]
      have h1 : decide ((j : Int) < len g.fNodes[k].fVals) = true := by simp [len]; omega
      simp only [Option.bind_some, h1, cond_true, gi_nat, List.getElem?_eq_getElem hj, f99_val]
    · rw [f60_l96.eq_2, hg]
      have h1 : decide ((g.fNodes[k].fVals.length : Int) < len g.fNodes[k].fVals) = false := by simp [len]
      simp only [Option.bind_some, h1, cond_false]
  have l2 : ∀ K, f60_l42 g n K n 0 = bif g.fNodes.any fun x => x.fVals.any fun v => !valB v (len g.fNodes) then some 2 else K := fun K => by
    refine scanM g.fNodes K (fun x => x.fVals.any fun v => !valB v (len g.fNodes)) (some 2) (f60_l42 g n K) (fun m k hk => ?_) (fun m => ?_) z1 (by omega)
    · rw [f60_l42.eq_2]
      have h1 : decide ((k : Int) < len g.fNodes) = true := by simp [len]; omega
      rw [h1, cond_true, li _ k hk]; rfl
    · rw [f60_l42.eq_2]
      have h1 : decide ((g.fNodes.length : Int) < len g.fNodes) = false := by simp [len]
      rw [h1]; rfl
  have l3 : ∀ K, f60_l137 g n K n 0 = bif g.fRoots.any fun v => !valB v (len g.fNodes) || !refersB v then some 2 else K := fun K => by
    refine scanM g.fRoots K (fun v => !valB v (len g.fNodes) || !refersB v) (some 2) (f60_l137 g n K) (fun m k hk => ?_) (fun m => ?_) z2 (by omega)
    · rw [f60_l137.eq_2]
      have h1 : decide ((k : Int) < len g.fRoots) = true := by simp [len]; omega
      rw [h1, gi_nat, List.getElem?_eq_getElem hk]
      simp only [cond_true, Option.bind_some, f99_val, f60_k171]
      unfold refersB bne
      cases valB g.fRoots[k] (len g.fNodes) <;> cases (g.fRoots[k].fKind == 3) <;> cases (g.fRoots[k].fKind == 4) <;> rfl
    · rw [f60_l137.eq_2]
      have h1 : decide ((g.fRoots.length : Int) < len g.fRoots) = false := by simp [len]
      rw [h1]; rfl
  unfold f60 f60_k6 f60_k12 f60_k39
  simp only [l1, l2, l3, f60_k134]
  unfold formedR
  cases decide (len g.fNodes > 400) <;> cases decide (len g.fRoots > 60) <;> cases (g.fNodes.any fun x => decide (len x.fVals > 30)) <;> cases (g.fNodes.any fun x => x.fVals.any fun v => !valB v (len g.fNodes)) <;> cases (g.fRoots.any fun v => !valB v (len g.fNodes) || !refersB v) <;> rfl
end Go.Proofs
end
section
namespace Go.Proofs
open Go.Vm
theorem f97_eq {n : Nat} {l : List Node} {F : List Form} (hn : l.length < n) (hF : F.length < n) (hN : n < 4611686018427387904) : f97 n l F = some (l.any fun x => decide (formIx F x.fClass < 0)) := by
  have f98_eq : ∀ x, f98 n x F = some (decide (formIx F x.fClass < 0)) := fun x => by unfold f98; rw [f52_eq hF (by omega)]; rfl
  have h : f135 n l F = some (ixOf (fun x => decide (formIx F x.fClass < 0)) l 0) := by
    unfold f135
    have := scan0 l f135_k4 (fun x y acc => bif decide (formIx F y.fClass < 0) then some x else acc) (f135_l8 l n F f135_k4) (fun m x => by rw [f135_l8.eq_2]; simp only [f98_eq, Option.bind_some]) (by omega) l.length 0 n (by omega) hn
    exact this.trans (go0_ix (fun x => decide (formIx F x.fClass < 0)) id l 0)
  unfold f97
  rw [h, Option.bind_some, ixOf_ge]
end Go.Proofs
end
section
namespace Go.Proofs
open Go.Vm
def suitsB (g : Graph) (c : Col) (v : Val) : Bool :=
  bif c.fKind == 1 then v.fKind == 1 else bif c.fKind == 2 then v.fKind == 2 else bif v.fKind == 3 then true else
  (v.fKind == 4) && (sEqF c.fClass (ByteArray.mk #[65, 78, 89]) || sEqF (((gi g.fNodes v.fN).map fun x => x.fClass).getD (ByteArray.mk #[])) c.fClass)
theorem gi_of_val {g : Graph} {v : Val} (hv : valB v (len g.fNodes) = true) (h4 : (v.fKind == 4) = true) (hn : g.fNodes.length < 4611686018427387904) : 0 ≤ v.fN ∧ ∃ x, gi g.fNodes v.fN = some x := by
  have hk : v.fKind = 4 := by simpa using h4
  unfold valB inR at hv
  rw [hk] at hv
  have hv' : (decide (0 ≤ v.fN) && decide (v.fN ≤ wr .i64 (len g.fNodes - 1))) = true := hv
  rw [wr_id (by unfold len; omega) (by unfold len; omega)] at hv'
  simp only [Bool.and_eq_true, decide_eq_true_eq] at hv'
  unfold len at hv'
  refine ⟨hv'.1, ?_⟩
  obtain ⟨m, hm⟩ := Int.eq_ofNat_of_zero_le hv'.1
  rw [hm, gi_nat, List.getElem?_eq_getElem (by omega)]
  exact ⟨_, rfl⟩
theorem f107_eq {g : Graph} {n : Nat} {c : Col} {v : Val} (hv : valB v (len g.fNodes) = true) (hn : g.fNodes.length < 4611686018427387904) : f107 n g c v = some (suitsB g c v) := by
  unfold f107 suitsB f107_k14
  cases h4 : (v.fKind == 4)
  · cases (c.fKind == 1) <;> cases (c.fKind == 2) <;> cases (v.fKind == 3) <;> rfl
  · obtain ⟨_, x, hx⟩ := gi_of_val hv h4 hn
    rw [hx]
    cases (c.fKind == 1) <;> cases (c.fKind == 2) <;> cases (v.fKind == 3) <;> cases sEqF c.fClass (ByteArray.mk #[65, 78, 89]) <;> rfl
theorem f61_eq {g : Graph} {n : Nat} {c : Col} {v : Val} (hv : valB v (len g.fNodes) = true) (hn : g.fNodes.length < 4611686018427387904) : f61 n c v g = some (suitsB g c v) := by
  unfold f61 suitsB f61_k18
  cases h4 : (v.fKind == 4)
  · cases (c.fKind == 1) <;> cases (c.fKind == 2) <;> cases (v.fKind == 3) <;> rfl
  · obtain ⟨h0, x, hx⟩ := gi_of_val hv h4 hn
    have hm : mxI 0 v.fN = v.fN := by unfold mxI; split <;> omega
    rw [hm, hx]
    cases (c.fKind == 1) <;> cases (c.fKind == 2) <;> cases (v.fKind == 3) <;> cases sEqF c.fClass (ByteArray.mk #[65, 78, 89]) <;> rfl
end Go.Proofs
end
section
namespace Go.Proofs
open Go.Vm
theorem gi_ix {L : List Form} {s : ByteArray} (h : decide (formIx L s < 0) = false) : ∃ f, gi L (formIx L s) = some f ∧ f ∈ L := by
  unfold formIx at h ⊢
  rw [ixOf_lt] at h
  have ha : L.any (fun x => sEqF x.fName s) = true := by simpa using h
  have := ixOf_bound (fun x => sEqF x.fName s) L 0 ha
  obtain ⟨m, hm⟩ := Int.eq_ofNat_of_zero_le (by have := this.1; simpa using this : 0 ≤ ixOf (fun x => sEqF x.fName s) L 0)
  rw [hm] at this ⊢
  rw [gi_nat, List.getElem?_eq_getElem (by have := this.2; simp at this; omega)]
  exact ⟨_, rfl, List.getElem_mem _⟩
def nodeB (L : List Form) (g : Graph) (x : Node) : Bool := match gi L (formIx L x.fClass) with
  | some f => (len x.fVals == len f.fCols) && (f.fCols.zip x.fVals).all fun p => suitsB g p.1 p.2
  | none => false
theorem f71_eq {L : List Form} {g : Graph} {n : Nat} (hz : FormSz n L) (hg : GraphSz n g) (hn : n < 4611686018427387904) (hv : ∀ x ∈ g.fNodes, ∀ v ∈ x.fVals, valB v (len g.fNodes) = true) (hc : ∀ x ∈ g.fNodes, decide (formIx L x.fClass < 0) = false) : f71 n L g = some (g.fNodes.all (nodeB L g)) := by
  obtain ⟨z1, z2, z3⟩ := hg
  have hL := hz.1
  have inner : ∀ (f : Form) (x : Node) (K : Option Bool), f ∈ L → x ∈ g.fNodes → (len x.fVals == len f.fCols) = true → f71_l86 f x n g K n 0 = bif (f.fCols.zip x.fVals).any (fun p => !suitsB g p.1 p.2) then some false else K := fun f x K hf hx hlen => by
    have he : x.fVals.length = f.fCols.length := by
      have h0 : (x.fVals.length : Int) = (f.fCols.length : Int) := eq_of_beq hlen
      omega
    have hzl : (f.fCols.zip x.fVals).length = f.fCols.length := by simp [he]
    have hfn := (hz.2 f hf).2.1
    refine scanM (f.fCols.zip x.fVals) K (fun p => !suitsB g p.1 p.2) (some false) (f71_l86 f x n g K) (fun m k hk => ?_) (fun m => ?_) (by omega) (by omega)
    · rw [f71_l86.eq_2]
      have h1 : decide ((k : Int) < len f.fCols) = true := by simp [len]; omega
      have hk1 : k < f.fCols.length := by omega
      have hk2 : k < x.fVals.length := by omega
      rw [h1, gi_nat, List.getElem?_eq_getElem hk1, gi_nat, List.getElem?_eq_getElem hk2]
      simp only [cond_true, Option.bind_some]
      rw [f107_eq (hv x hx _ (List.getElem_mem hk2)) (by omega)]
      simp only [Option.bind_some, List.getElem_zip]
    · rw [hzl, f71_l86.eq_2]
      have h1 : decide ((f.fCols.length : Int) < len f.fCols) = false := by simp [len]
      rw [h1]; rfl
  have outer : f71_l8 g n L f71_k4 n 0 = bif g.fNodes.any (fun x => !nodeB L g x) then some false else some true := by
    refine scanM g.fNodes (some true) (fun x => !nodeB L g x) (some false) (f71_l8 g n L f71_k4) (fun m k hk => ?_) (fun m => ?_) z1 (by omega)
    · rw [f71_l8.eq_2]
      have h1 : decide ((k : Int) < len g.fNodes) = true := by simp [len]; omega
      have hx := List.getElem_mem hk
      obtain ⟨f, hf1, hf2⟩ := gi_ix (hc _ hx)
      rw [h1, gi_nat, List.getElem?_eq_getElem hk]
      simp only [cond_true, Option.bind_some]
      rw [f52_eq hL (by omega), Option.bind_some, hf1, Option.bind_some]
      unfold nodeB
      rw [hf1]
      show _ = bif !((len g.fNodes[k].fVals == len f.fCols) && (f.fCols.zip g.fNodes[k].fVals).all fun p => suitsB g p.1 p.2) then _ else _
      unfold bne
      cases hlen : (len g.fNodes[k].fVals == len f.fCols)
      · rfl
      · rw [inner f _ _ hf2 hx hlen]
        have : ((f.fCols.zip g.fNodes[k].fVals).any fun p => !suitsB g p.1 p.2) = !((f.fCols.zip g.fNodes[k].fVals).all fun p => suitsB g p.1 p.2) := by rw [← List.not_all_eq_any_not]
        rw [this]; rfl
    · rw [f71_l8.eq_2]
      have h1 : decide ((g.fNodes.length : Int) < len g.fNodes) = false := by simp [len]
      rw [h1]; rfl
  unfold f71
  rw [outer]
  have : (g.fNodes.any fun x => !nodeB L g x) = !(g.fNodes.all (nodeB L g)) := by rw [← List.not_all_eq_any_not]
  rw [this]
  cases g.fNodes.all (nodeB L g) <;> rfl
end Go.Proofs
end
section
namespace Go.Proofs
open Go.Vm
theorem f19_a {L : List Form} {g : Graph} {K : Option Int} {n : Nat} (hL : L.length < n) (hg : GraphSz n g) (hn : n < 4611686018427387904) : f19_l21 g n L K n 0 = bif g.fNodes.any (fun x => decide (formIx L x.fClass < 0)) then some 4 else K := by
  obtain ⟨z1, _, _⟩ := hg
  refine scanM g.fNodes K (fun x => decide (formIx L x.fClass < 0)) (some 4) (f19_l21 g n L K) (fun m k hk => ?_) (fun m => ?_) z1 (by omega)
  · rw [f19_l21.eq_2]
    have h1 : decide ((k : Int) < len g.fNodes) = true := by simp [len]; omega
    rw [h1, gi_nat, List.getElem?_eq_getElem hk]
    simp only [cond_true, Option.bind_some]
    rw [f55_eq hL (by omega), Option.bind_some]
  · rw [f19_l21.eq_2]
    have h1 : decide ((g.fNodes.length : Int) < len g.fNodes) = false := by simp [len]
    rw [h1]; rfl
theorem f19_b {L : List Form} {g : Graph} {K : Option Int} {n : Nat} (hz : FormSz n L) (hg : GraphSz n g) (hn : n < 4611686018427387904) (hv : ∀ x ∈ g.fNodes, ∀ v ∈ x.fVals, valB v (len g.fNodes) = true) (hc : ∀ x ∈ g.fNodes, decide (formIx L x.fClass < 0) = false) : f19_l52 g n L K n 0 = bif g.fNodes.all (nodeB L g) then K else some 8 := by
  obtain ⟨z1, z2, z3⟩ := hg
  have hL := hz.1
  have inner : ∀ (f : Form) (i : Nat) (hi : i < g.fNodes.length) (K : Option Int), f ∈ L → (len f.fCols == len g.fNodes[i].fVals) = true → f19_l138 f g i n K n 0 = bif (f.fCols.zip g.fNodes[i].fVals).any (fun p => !suitsB g p.1 p.2) then some 8 else K := fun f i hi K hf hlen => by
    have he : f.fCols.length = g.fNodes[i].fVals.length := by
      have h0 : (f.fCols.length : Int) = (g.fNodes[i].fVals.length : Int) := eq_of_beq hlen
      omega
    have hzl : (f.fCols.zip g.fNodes[i].fVals).length = f.fCols.length := by simp [he]
    have hfn := (hz.2 f hf).2.1
    have hgi : gi g.fNodes (i : Int) = some g.fNodes[i] := by rw [gi_nat, List.getElem?_eq_getElem hi]
    refine scanM (f.fCols.zip g.fNodes[i].fVals) K (fun p => !suitsB g p.1 p.2) (some 8) (f19_l138 f g i n K) (fun m k hk => ?_) (fun m => ?_) (by omega) (by omega)
    · rw [f19_l138.eq_2]
      have h1 : decide ((k : Int) < len f.fCols) = true := by simp [len]; omega
      have hk1 : k < f.fCols.length := by omega
      have hk2 : k < g.fNodes[i].fVals.length := by omega
      rw [h1, gi_nat, List.getElem?_eq_getElem hk1, hgi]
      simp only [cond_true, Option.bind_some]
      rw [gi_nat, List.getElem?_eq_getElem hk2, Option.bind_some, f61_eq (hv _ (List.getElem_mem hi) _ (List.getElem_mem hk2)) (by omega)]
      simp only [Option.bind_some, List.getElem_zip]
    · rw [hzl, f19_l138.eq_2]
      have h1 : decide ((f.fCols.length : Int) < len f.fCols) = false := by simp [len]
      rw [h1]; rfl
  have outer : f19_l52 g n L K n 0 = bif g.fNodes.any (fun x => !nodeB L g x) then some 8 else K := by
    refine scanM g.fNodes K (fun x => !nodeB L g x) (some 8) (f19_l52 g n L K) (fun m k hk => ?_) (fun m => ?_) z1 (by omega)
    · rw [f19_l52.eq_2]
      have h1 : decide ((k : Int) < len g.fNodes) = true := by simp [len]; omega
      have hx := List.getElem_mem hk
      obtain ⟨f, hf1, hf2⟩ := gi_ix (hc _ hx)
      have hgi : gi g.fNodes (k : Int) = some g.fNodes[k] := by rw [gi_nat, List.getElem?_eq_getElem hk]
      rw [h1, hgi]
      simp only [cond_true, Option.bind_some]
      rw [f55_eq hL (by omega), Option.bind_some, hf1, Option.bind_some]
      unfold nodeB
      rw [hf1]
      show _ = bif !((len g.fNodes[k].fVals == len f.fCols) && (f.fCols.zip g.fNodes[k].fVals).all fun p => suitsB g p.1 p.2) then _ else _
      have hcomm : (len g.fNodes[k].fVals == len f.fCols) = (len f.fCols == len g.fNodes[k].fVals) := Bool.beq_comm
      rw [hcomm]
      unfold bne
      cases hlen : (len f.fCols == len g.fNodes[k].fVals)
      · rfl
      · rw [inner f k hk _ hf2 hlen]
        have : ((f.fCols.zip g.fNodes[k].fVals).any fun p => !suitsB g p.1 p.2) = !((f.fCols.zip g.fNodes[k].fVals).all fun p => suitsB g p.1 p.2) := by rw [← List.not_all_eq_any_not]
        rw [this]; rfl
    · rw [f19_l52.eq_2]
      have h1 : decide ((g.fNodes.length : Int) < len g.fNodes) = false := by simp [len]
      rw [h1]; rfl
  rw [outer]
  have : (g.fNodes.any fun x => !nodeB L g x) = !(g.fNodes.all (nodeB L g)) := by rw [← List.not_all_eq_any_not]
  rw [this]
  cases g.fNodes.all (nodeB L g) <;> rfl
end Go.Proofs
end
section
namespace Go.Proofs
open Go.Vm
theorem goN_tot {ρ : Type} (B : Nat → Option ρ → Option ρ) (N : Nat) (hB : ∀ k acc, k < N → (∃ r, acc = some r) → ∃ r, B k acc = some r) : ∀ (d k : Nat) (K : Option ρ), d + k = N → (∃ r, K = some r) → ∃ r, goN B K d k = some r
  | 0, k, K, _, h => h
  | d + 1, k, K, hk, h => hB k _ (by omega) (goN_tot B N hB d (k + 1) K (by omega) h)
theorem refB_tot (L : List Form) (l : List Col) (K : Option Int) (h : ∃ r, K = some r) : ∃ r, goN (refB L l) K l.length 0 = some r := by
  refine goN_tot (refB L l) l.length (fun k acc hk ⟨r, hr⟩ => ?_) l.length 0 K (by omega) h
  unfold refB
  rw [List.getElem?_eq_getElem hk, hr]
  show ∃ r', (bif _ then some 5 else some r) = some r'
  generalize ((l[k].fKind == 3) && (!(sEqF l[k].fClass (ByteArray.mk #[65, 78, 89])) && decide (formIx L l[k].fClass < 0))) = q
  cases q <;> exact ⟨_, rfl⟩
theorem f16_tot {l : List Form} {n : Nat} (hz : FormSz n l) (h9 : 100 < n) (hn : n < 4611686018427387904) : ∃ e, f16 n l = some e := by
  unfold f16 f16_k8
  rw [f16_l hz h9 hn, f16_l2 hz hn]
  have h2 : ∃ r, goN (refsB l) f16_k66 l.length 0 = some r := by
    refine goN_tot (refsB l) l.length (fun k acc hk h => ?_) l.length 0 _ (by omega) ⟨0, rfl⟩
    unfold refsB
    rw [List.getElem?_eq_getElem hk]
    exact refB_tot l l[k].fCols acc h
  have h1 : ∃ r, goN (formsB l) (goN (refsB l) f16_k66 l.length 0) l.length 0 = some r := by
    refine goN_tot (formsB l) l.length (fun k acc hk ⟨r, hr⟩ => ?_) l.length 0 _ (by omega) h2
    unfold formsB
    rw [List.getElem?_eq_getElem hk, hr]
    show ∃ r', (bif formE (l.take k) l[k] == 0 then some r else some (formE (l.take k) l[k])) = some r'
    cases formE (l.take k) l[k] == 0 <;> exact ⟨_, rfl⟩
  obtain ⟨r, hr⟩ := h1
  rw [hr]
  cases decide (len l > 24) <;> exact ⟨_, rfl⟩
end Go.Proofs
end
section
namespace Go.Proofs
open Go.Vm
theorem formed_vals {g : Graph} (h : (formedR g != 0) = false) : ∀ x ∈ g.fNodes, ∀ v ∈ x.fVals, valB v (len g.fNodes) = true := by
  intro x hx v hv
  unfold formedR at h
  have h2 : (g.fNodes.any fun x => x.fVals.any fun v => !valB v (len g.fNodes)) = false := by
    revert h
    cases (decide (len g.fNodes > 400) || decide (len g.fRoots > 60)) <;> cases (g.fNodes.any fun x => decide (len x.fVals > 30)) <;> cases (g.fNodes.any fun x => x.fVals.any fun v => !valB v (len g.fNodes)) <;> intro h <;> first | rfl | exact nomatch h
  have h3 := List.any_eq_false.1 h2 x hx
  have h4 : (x.fVals.any fun v => !valB v (len g.fNodes)) = false := by simpa using h3
  have h5 := List.any_eq_false.1 h4 v hv
  simpa using h5
theorem f59_f19 {L : List Form} {g : Graph} {n : Nat} {e : Int} (he : f16 n L = some e) (hz : FormSz n L) (hg : GraphSz n g) (h9 : 100 < n) (hn : n < 4611686018427387904) : ∃ d, f59 n L g = some d ∧ f19 n L g = some (bif e != 0 then e else d) := by
  have hL := hz.1
  unfold f19
  rw [← f16_f17 hz h9 hn, he]
  simp only [Option.bind_some, f59, f74_eq hg hn, f60_eq hg hn]
  have key : ∀ d : Int, (bif (e != 0) then some e else some d) = some (bif e != 0 then e else d) := fun d => by cases (e != 0) <;> rfl
  cases hf : (formedR g != 0)
  · simp only [cond_false]
    rw [f97_eq hg.1 hL hn, f19_a hL hg hn]
    simp only [Option.bind_some]
    cases hc : (g.fNodes.any fun x => decide (formIx L x.fClass < 0))
    · have hc' : ∀ x ∈ g.fNodes, decide (formIx L x.fClass < 0) = false := fun x hx => by
        have := List.any_eq_false.1 hc x hx
        simpa using this
      have hv := formed_vals hf
      simp only [cond_false, f19_k18]
      rw [f71_eq hz hg hn hv hc', f19_b hz hg hn hv hc']
      simp only [Option.bind_some, f50_eq, f19_k49]
      cases g.fNodes.all (nodeB L g) <;> exact ⟨_, rfl, key _⟩
    · exact ⟨_, rfl, key _⟩
  · exact ⟨_, rfl, key _⟩
end Go.Proofs
end
section
set_option linter.unusedVariables false
namespace Go.Proofs
open Go.Vm
def ANY : ByteArray := ByteArray.mk #[65, 78, 89]
def noS : ByteArray := ByteArray.mk #[]
theorem goN_zero {B : Nat → Option Int → Option Int} (E : Nat → Int) (N : Nat) (hB : ∀ k acc, k < N → B k acc = bif E k == 0 then acc else some (E k)) :
    ∀ (d k : Nat) (K : Option Int), d + k = N → goN B K d k = some 0 → (∀ j, k ≤ j → j < N → E j = 0) ∧ K = some 0
  | 0, k, K, hk, h => ⟨fun j h1 h2 => by omega, h⟩
  | d + 1, k, K, hk, h => by
    have h1 : B k (goN B K d (k + 1)) = some 0 := h
    rw [hB k _ (by omega)] at h1
    cases he : (E k == 0) with
    | false =>
      rw [he] at h1
      simp only [cond_false, Option.some.injEq] at h1
      rw [h1] at he
      cases he
    | true =>
      rw [he] at h1
      obtain ⟨h2, h3⟩ := goN_zero E N hB d (k + 1) K (by omega) h1
      refine ⟨fun j hj hjN => ?_, h3⟩
      by_cases hjk : j = k
      · subst hjk; exact eq_of_beq he
      · exact h2 j (by omega) hjN
structure FormsOk (l : List Form) : Prop where
  len : l.length ≤ 24
  nm : ∀ f ∈ l, classB f.fName = true
  dup : ∀ (k : Nat) (hk : k < l.length), formIx (l.take k) l[k].fName < 0
  cl : ∀ f ∈ l, f.fCols.length ≤ 30
  ce : ∀ f ∈ l, ∀ (k : Nat) (hk : k < f.fCols.length), colE (f.fCols.take k) f.fCols[k] = 0
  rf : ∀ f ∈ l, ∀ c ∈ f.fCols, ((c.fKind == 3) && (!(sEqF c.fClass ANY) && decide (formIx l c.fClass < 0))) = false
theorem colsR_zero {l : List Col} (h : colsR l = 0) : l.length ≤ 30 ∧ ∀ (k : Nat) (hk : k < l.length), colE (l.take k) l[k] = 0 := by
  unfold colsR at h
  cases hd : decide (len l > 30) with
  | true => rw [hd] at h; cases h
  | false =>
    rw [hd] at h
    have hl : l.length ≤ 30 := by
      have := of_decide_eq_false hd
      unfold len at this
      omega
    refine ⟨hl, ?_⟩
    obtain ⟨e, h1, _⟩ := goN_cols l none l.length 0 (by omega)
    have h0 : (goN (colsB l) (some 0) l.length 0).getD 0 = 0 := h
    rw [h1] at h0
    simp only [Option.getD_some] at h0
    subst h0
    have hz := goN_zero (B := colsB l) (fun k => match l[k]? with | some c => colE (l.take k) c | none => 0) l.length (fun k acc hk => by
      unfold colsB
      rw [List.getElem?_eq_getElem hk]) l.length 0 (some 0) (by omega) h1
    intro k hk
    have := hz.1 k (Nat.zero_le _) hk
    simp only [List.getElem?_eq_getElem hk] at this
    exact this
theorem refB_zero {L : List Form} {l : List Col} {K : Option Int} (h : goN (refB L l) K l.length 0 = some 0) :
    (∀ c ∈ l, ((c.fKind == 3) && (!(sEqF c.fClass ANY) && decide (formIx L c.fClass < 0))) = false) ∧ K = some 0 := by
  have hz := goN_zero (B := refB L l) (fun k => match l[k]? with | some c => (bif (c.fKind == 3) && (!(sEqF c.fClass ANY) && decide (formIx L c.fClass < 0)) then 5 else 0) | none => 0) l.length (fun k acc hk => by
      unfold refB
      simp only [List.getElem?_eq_getElem hk]
      show (bif (l[k].fKind == 3) && (!(sEqF l[k].fClass ANY) && decide (formIx L l[k].fClass < 0)) then some 5 else acc) = _
      cases ((l[k].fKind == 3) && (!(sEqF l[k].fClass ANY) && decide (formIx L l[k].fClass < 0))) <;> rfl) l.length 0 K (by omega) h
  refine ⟨fun c hc => ?_, hz.2⟩
  obtain ⟨k, hk, rfl⟩ := List.getElem_of_mem hc
  have := hz.1 k (Nat.zero_le _) hk
  simp only [List.getElem?_eq_getElem hk] at this
  revert this
  cases ((l[k].fKind == 3) && (!(sEqF l[k].fClass ANY) && decide (formIx L l[k].fClass < 0))) <;> intro this
  · rfl
  · cases this
theorem refsB_zero {L : List Form} {K : Option Int} : ∀ (d k : Nat), d + k = L.length → goN (refsB L) K d k = some 0 →
    ∀ j, k ≤ j → (hj : j < L.length) → ∀ c ∈ L[j].fCols, ((c.fKind == 3) && (!(sEqF c.fClass ANY) && decide (formIx L c.fClass < 0))) = false
  | 0, k, hk, h => fun j h1 h2 => by omega
  | d + 1, k, hk, h => by
    have hlt : k < L.length := by omega
    have h1 : refsB L k (goN (refsB L) K d (k + 1)) = some 0 := h
    unfold refsB at h1
    rw [List.getElem?_eq_getElem hlt] at h1
    obtain ⟨h2, h3⟩ := refB_zero h1
    intro j hj hjN
    by_cases hjk : j = k
    · subst hjk; exact h2
    · exact refsB_zero d (k + 1) (by omega) h3 j (by omega) hjN
theorem formsOk_of {n : Nat} {l : List Form} (hz : FormSz n l) (h9 : 100 < n) (hn : n < 4611686018427387904) (h : f16 n l = some 0) : FormsOk l := by
  unfold f16 f16_k8 at h
  rw [f16_l hz h9 hn, f16_l2 hz hn] at h
  cases hd : decide (Go.Vm.len l > 24) with
  | true => rw [hd] at h; cases h
  | false =>
    rw [hd] at h
    simp only [cond_false] at h
    have hl : l.length ≤ 24 := by
      have := of_decide_eq_false hd
      unfold Go.Vm.len at this
      omega
    have hz1 := goN_zero (B := formsB l) (fun k => match l[k]? with | some f => formE (l.take k) f | none => 0) l.length (fun k acc hk => by
      unfold formsB
      simp only [List.getElem?_eq_getElem hk]) l.length 0 _ (by omega) h
    have hf : ∀ (k : Nat) (hk : k < l.length), formE (l.take k) l[k] = 0 := fun k hk => by
      have := hz1.1 k (Nat.zero_le _) hk
      simp only [List.getElem?_eq_getElem hk] at this
      exact this
    have hr := refsB_zero l.length 0 (by omega) hz1.2
    have parts : ∀ (k : Nat) (hk : k < l.length), classB l[k].fName = true ∧ formIx (l.take k) l[k].fName < 0 ∧ colsR l[k].fCols = 0 := fun k hk => by
      have := hf k hk
      unfold formE at this
      cases h1 : classB l[k].fName with
      | false => rw [h1] at this; cases this
      | true =>
        rw [h1] at this
        cases h2 : decide (formIx (l.take k) l[k].fName ≥ 0) with
        | true => rw [h2] at this; cases this
        | false =>
          rw [h2] at this
          have h3 := of_decide_eq_false h2
          exact ⟨rfl, by omega, this⟩
    refine ⟨hl, fun f hf' => ?_, fun k hk => (parts k hk).2.1, fun f hf' => ?_, fun f hf' => ?_, fun f hf' => ?_⟩
    · obtain ⟨k, hk, rfl⟩ := List.getElem_of_mem hf'; exact (parts k hk).1
    · obtain ⟨k, hk, rfl⟩ := List.getElem_of_mem hf'; exact (colsR_zero (parts k hk).2.2).1
    · obtain ⟨k, hk, rfl⟩ := List.getElem_of_mem hf'; exact (colsR_zero (parts k hk).2.2).2
    · obtain ⟨k, hk, rfl⟩ := List.getElem_of_mem hf'; exact hr k (Nat.zero_le _) hk
theorem colE_zero {pre : List Col} {c : Col} (h : colE pre c = 0) : smallB c.fName = true ∧ colIx pre c.fName < 0 ∧ inR c.fKind 1 3 = true ∧ ((c.fKind != 3) = true → sEqF c.fClass noS = true) := by
  unfold colE at h
  cases h1 : smallB c.fName with
  | false => rw [h1] at h; cases h
  | true =>
    rw [h1] at h
    cases h2 : decide (colIx pre c.fName ≥ 0) with
    | true => rw [h2] at h; cases h
    | false =>
      rw [h2] at h
      have h3 := of_decide_eq_false h2
      cases h4 : inR c.fKind 1 3 with
      | false => rw [h4] at h; cases h
      | true =>
        refine ⟨rfl, by omega, rfl, fun h5 => ?_⟩
        rw [h4, h5] at h
        cases h6 : sEqF c.fClass (ByteArray.mk #[]) with
        | false => rw [h6] at h; cases h
        | true => exact h6
theorem FormsOk.col {l : List Form} (h : FormsOk l) {f : Form} (hf : f ∈ l) {c : Col} (hc : c ∈ f.fCols) : smallB c.fName = true ∧ inR c.fKind 1 3 = true ∧ ((c.fKind != 3) = true → sEqF c.fClass noS = true) := by
  obtain ⟨k, hk, rfl⟩ := List.getElem_of_mem hc
  obtain ⟨h1, _, h3, h4⟩ := colE_zero (h.ce f hf k hk)
  exact ⟨h1, h3, h4⟩
theorem ix_find {α : Type} (p : α → Bool) : ∀ (l : List α) (k : Nat), (l.find? p = none ∧ l.any p = false ∧ ixOf p l k = -1) ∨ ∃ (j : Nat) (x : α), l.find? p = some x ∧ l.any p = true ∧ ixOf p l k = ((k + j : Nat) : Int) ∧ l[j]? = some x ∧ p x = true
  | [], k => .inl ⟨rfl, rfl, rfl⟩
  | y :: l, k => by
    cases hy : p y with
    | true => exact .inr ⟨0, y, by simp [hy], by simp [hy], by simp [ixOf, hy], rfl, hy⟩
    | false =>
      rcases ix_find p l (k + 1) with ⟨h1, h2, h3⟩ | ⟨j, x, h1, h2, h3, h4, h5⟩
      · exact .inl ⟨by simp [hy, h1], by simp [hy, h2], by simp [ixOf, hy, h3]⟩
      · exact .inr ⟨j + 1, x, by simp [hy, h1], by simp [hy, h2], by simp only [ixOf, hy, cond_false, h3]; congr 1; omega, by simpa using h4, h5⟩
theorem ix_neg {α : Type} (p : α → Bool) (l : List α) : decide (ixOf p l 0 < 0) = !l.any p := by
  rcases ix_find p l 0 with ⟨h1, h2, h3⟩ | ⟨j, x, h1, h2, h3, h4, h5⟩
  · rw [h2, h3]; rfl
  · rw [h2, h3]
    have : ¬ (((0 + j : Nat) : Int) < 0) := by omega
    exact decide_eq_false this
theorem ix_gi {α : Type} {p : α → Bool} {l : List α} (h : 0 ≤ ixOf p l 0) : ∃ x, l.find? p = some x ∧ gi l (ixOf p l 0) = some x ∧ x ∈ l ∧ p x = true := by
  rcases ix_find p l 0 with ⟨h1, h2, h3⟩ | ⟨j, x, h1, h2, h3, h4, h5⟩
  · rw [h3] at h; omega
  · refine ⟨x, h1, ?_, List.mem_of_getElem? h4, h5⟩
    rw [h3, Nat.zero_add, gi_nat, h4]
theorem sEqF_eq {a b : ByteArray} (h : sEqF a b = true) : a = b := by
  unfold sEqF at h
  have h1 : a.data.toList = b.data.toList := eq_of_beq h
  cases a; cases b
  exact congrArg ByteArray.mk (Array.toList_inj.1 h1)
end Go.Proofs
end
section
set_option linter.unusedVariables false
namespace Go.Proofs
open Go.Vm
theorem cs {α : Type} {c : Bool} {x y : α} : (bif c then some x else some y) = some (bif c then x else y) := by cases c <;> rfl
def ruleP (s : ByteArray) (r : Rule) : Bool := sEqF r.fClass s
def hasRule (l : List Rule) (s : ByteArray) : Bool := l.any (ruleP s)
def ruleAt (l : List Rule) (s : ByteArray) : Rule := (l.find? (ruleP s)).getD ⟨noS, noS, []⟩
section
variable {n : Nat} {l : List Rule} {s : ByteArray}
theorem f117_eq (hn : l.length < n) (hl : l.length < 4611686018427387904) : f117 n l s = some (ixOf (ruleP s) l 0) := by
  unfold f117
  have := scan0 l f117_k4 (fun x y acc => bif sEqF y.fClass s then some x else acc) (f117_l8 l n s f117_k4) (fun m x => rfl) hl l.length 0 n (by omega) hn
  exact this.trans (go0_ix (ruleP s) id l 0)
theorem f78_eq (hn : l.length < n) (hl : l.length < 4611686018427387904) : f78 n l s = some (ruleAt l s, hasRule l s) := by
  unfold f78 f81
  rw [f117_eq hn hl]
  simp only [Option.bind_some]
  rw [ix_neg]
  unfold ruleAt hasRule
  rcases ix_find (ruleP s) l 0 with ⟨h1, h2, h3⟩ | ⟨j, x, h1, h2, h3, h4, h5⟩
  · rw [h1, h2]; rfl
  · rw [h1, h2, h3, Nat.zero_add, gi_nat, h4]; rfl
end
def leadsB (l : List Rule) (a b : ByteArray) : Bool := bif sEqF b ANY then true else bif hasRule l a then sEqF (ruleAt l a).fTo b else false
def fitsB (l : List Rule) (g : Give) (a b : Col) : Bool :=
  bif g.fHow == 1 then (bif a.fKind == b.fKind then (bif a.fKind != 3 then true else leadsB l a.fClass b.fClass) else false) else
  bif g.fHow == 2 then (bif a.fKind == 2 then b.fKind == 1 else false) else
  bif g.fHow == 3 then (bif a.fKind == 1 then b.fKind == 2 else false) else
  bif g.fHow == 4 then (bif a.fKind == 1 then b.fKind == 1 else false) else
  bif g.fHow == 5 then (bif a.fKind == 3 then (bif b.fKind == 3 then leadsB l a.fClass b.fClass else false) else false) else
  bif g.fHow == 6 then (bif b.fKind == 1 then true else bif b.fKind == 2 then inR g.fN 0 1 else false) else b.fKind == 3
section
variable {n : Nat} {l : List Rule}
theorem f142_eq {a b : ByteArray} (hn : l.length < n) (hl : l.length < 4611686018427387904) : f142 n l a b = some (leadsB l a b) := by
  unfold f142 leadsB f142_k13
  rw [f78_eq hn hl]
  simp only [Option.bind_some, cs]
  rfl
theorem f141_eq {g : Give} {a b : Col} (hn : l.length < n) (hl : l.length < 4611686018427387904) : f141 n l g a b = some (fitsB l g a b) := by
  unfold f141 fitsB f141_k11 f141_k19 f141_k24 f141_k29 f141_k34 f141_k42
  rw [f142_eq hn hl, f86_eq]
  simp only [Option.bind_some, cs]
end
def noC : Col := ⟨noS, 0, noS⟩
def colAt (l : List Col) (s : ByteArray) : Col := (l.find? fun c => sEqF c.fName s).getD noC
def mostB (g : Give) : Int := bif g.fHow == 4 then 1099511627776 else bif g.fHow == 6 then 1099511627776 else 0
def restBad (g : Give) (to : Col) : Bool := bif !inR g.fN (-mostB g) (mostB g) then true else bif g.fHow == 6 then (bif to.fKind == 2 then !inR g.fN 0 1 else false) else false
def argBad (g : Give) (to : Col) : Bool := bif !inR g.fHow 1 7 then true else bif !inR g.fHow 1 5 then (bif !sEqF g.fFrom noS then true else restBad g to) else restBad g to
def srcOf (cols : List Col) (g : Give) : Col := bif inR g.fHow 1 5 then colAt cols g.fFrom else noC
def giveB (l : List Rule) (g : Give) (cols : List Col) (to : Col) : Int :=
  bif inR g.fHow 1 5 && decide (colIx cols g.fFrom < 0) then 4 else bif argBad g to then 1 else bif fitsB l g (srcOf cols g) to then 0 else 8
section
variable {n : Nat} {l : List Rule}
theorem colAt_gi {cols : List Col} {s : ByteArray} (h : ¬ colIx cols s < 0) : gi cols (colIx cols s) = some (colAt cols s) ∧ colAt cols s ∈ cols ∧ sEqF (colAt cols s).fName s = true := by
  unfold colIx at h ⊢
  obtain ⟨x, h1, h2, h3, h4⟩ := ix_gi (p := fun x : Col => sEqF x.fName s) (l := cols) (by omega)
  have e : colAt cols s = x := by unfold colAt; rw [h1]; rfl
  rw [e]
  exact ⟨h2, h3, h4⟩
theorem f116_eq {g : Give} {cols : List Col} {to : Col} (hn : l.length < n) (hc : cols.length < n) (hn2 : n < 4611686018427387904) : f116 n l g cols to = some (giveB l g cols to) := by
  have hl : l.length < 4611686018427387904 := by omega
  unfold f116
  rw [f95_eq hc (by omega), f86_eq]
  simp only [Option.bind_some]
  have k27 : ∀ (x15 : Bool) (b : Bool), (x15 = inR g.fHow 1 5) → (x15 = true → ¬ colIx cols g.fFrom < 0) → f116_k27 x15 cols (colIx cols g.fFrom) n l g to b = some (bif b then 1 else bif fitsB l g (srcOf cols g) to then 0 else 8) := fun x15 b hx hi => by
    unfold f116_k27
    cases b with
    | true => rfl
    | false =>
      simp only [cond_false]
      unfold srcOf
      rw [← hx]
      cases x15 with
      | true =>
        simp only [cond_true]
        rw [(colAt_gi (hi rfl)).1]
        simp only [Option.bind_some, f116_k52]
        rw [f141_eq hn hl]
        simp only [Option.bind_some, f50_eq]
      | false =>
        simp only [cond_false, f116_k52]
        rw [f141_eq hn hl]
        simp only [Option.bind_some, f50_eq]
        rfl
  have k20 : ∀ (x15 : Bool), (x15 = inR g.fHow 1 5) → (x15 = true → ¬ colIx cols g.fFrom < 0) → f116_k20 n g x15 to cols (colIx cols g.fFrom) l (mostB g) = some (bif argBad g to then 1 else bif fitsB l g (srcOf cols g) to then 0 else 8) := fun x15 hx hi => by
    have hw : wr .i64 (0 - mostB g) = -mostB g := by
      unfold mostB
      cases g.fHow == 4 <;> cases g.fHow == 6 <;> decide
    unfold f116_k20
    rw [hw]
    simp only [f86_eq, Option.bind_some, k27 x15 _ hx hi]
    unfold argBad restBad
    rw [← hx, show noS = ByteArray.mk #[] from rfl]
    cases inR g.fHow 1 7 <;> cases x15 <;> cases sEqF g.fFrom (ByteArray.mk #[]) <;> (try rfl) <;> cases inR g.fN (-mostB g) (mostB g) <;> cases g.fHow == 6 <;> cases to.fKind == 2 <;> rfl
  have k13 : ∀ (x15 : Bool), (x15 = inR g.fHow 1 5) → (x15 = true → ¬ colIx cols g.fFrom < 0) → f116_k13 g n to cols (colIx cols g.fFrom) l x15 false = some (bif argBad g to then 1 else bif fitsB l g (srcOf cols g) to then 0 else 8) := fun x15 hx hi => by
    rw [← k20 x15 hx hi]
    unfold f116_k13 f116_k21 mostB
    cases g.fHow == 4 <;> cases g.fHow == 6 <;> rfl
  unfold giveB
  cases ha : inR g.fHow 1 5 with
  | true =>
    simp only [cond_true, Bool.true_and]
    cases hi : decide (colIx cols g.fFrom < 0) with
    | true => rfl
    | false =>
      have := of_decide_eq_false hi
      exact k13 true ha.symm (fun _ => this)
  | false => exact k13 false ha.symm (fun h => by cases h)
end
end Go.Proofs
end
section
set_option linter.unusedVariables false
namespace Go.Proofs
open Go.Vm
def NoAny (l : List Rule) : Prop := ∀ r ∈ l, sEqF r.fClass ANY = false
structure ColOk (to : Col) : Prop where
  kd : inR to.fKind 1 3 = true
  cl : (to.fKind == 3) = true → sEqF to.fClass ANY = false → sEqF noS to.fClass = false
section
variable {n : Nat} {l : List Rule} {s : ByteArray}
theorem f212_eq (hn : l.length < n) (hl : l.length < 4611686018427387904) : f212 n l s = some (ixOf (ruleP s) l 0) := by
  unfold f212
  have := scan0 l f212_k4 (fun x y acc => bif sEqF y.fClass s then some x else acc) (f212_l7 l s f212_k4) (fun m x => rfl) hl l.length 0 n (by omega) hn
  exact this.trans (go0_ix (ruleP s) id l 0)
theorem f228_eq (hn : l.length < n) (hl : l.length < 4611686018427387904) : f228 n l s = some (ruleAt l s).fTo := by
  unfold f228
  rw [f212_eq hn hl]
  simp only [Option.bind_some]
  rw [ix_neg]
  unfold ruleAt
  rcases ix_find (ruleP s) l 0 with ⟨h1, h2, h3⟩ | ⟨j, x, h1, h2, h3, h4, h5⟩
  · rw [h1, h2]; rfl
  · rw [h1, h2, h3, Nat.zero_add, gi_nat, h4]; rfl
theorem hasRule_any {a : ByteArray} (hna : NoAny l) (h : sEqF a ANY = true) : hasRule l a = false := by
  have := sEqF_eq h
  subst this
  unfold hasRule
  rw [List.any_eq_false]
  intro r hr
  have := hna r hr
  unfold ruleP
  rw [this]; simp
theorem ruleAt_none (h : hasRule l s = false) : ruleAt l s = ⟨noS, noS, []⟩ := by
  unfold ruleAt hasRule at *
  rcases ix_find (ruleP s) l 0 with ⟨h1, h2, h3⟩ | ⟨j, x, h1, h2, h3, h4, h5⟩
  · rw [h1]; rfl
  · rw [h2] at h; cases h
theorem f227_eq {a b : Col} (hn : l.length < n) (hl : l.length < 4611686018427387904) (hna : NoAny l) (hb : sEqF b.fClass ANY = false → sEqF noS b.fClass = false) : f227 n l a b = some (leadsB l a.fClass b.fClass) := by
  unfold f227 leadsB f227_k5
  rw [f228_eq hn hl, show ByteArray.mk #[65, 78, 89] = ANY from rfl]
  simp only [Option.bind_some]
  cases h1 : sEqF b.fClass ANY with
  | true => rfl
  | false =>
    simp only [cond_false]
    cases h2 : sEqF a.fClass ANY with
    | true => rw [hasRule_any hna h2]; rfl
    | false =>
      cases h3 : hasRule l a.fClass with
      | true => rfl
      | false => rw [ruleAt_none h3]; show some (sEqF noS b.fClass) = _; rw [hb h1]; rfl
theorem f217_eq (n : Nat) (x : Int) : f217 n x = some (inR x 1 5) := by unfold f217; rw [f58_eq]; rfl
def numdB (g : Give) (to : Col) : Bool :=
  bif g.fHow == 4 then inR g.fN (-1099511627776) 1099511627776 else
  bif g.fHow == 6 then (bif to.fKind == 2 then (bif sEqF g.fFrom noS then inR g.fN 0 1 else false) else bif sEqF g.fFrom noS then inR g.fN (-1099511627776) 1099511627776 else false) else
  bif g.fHow == 7 then (bif sEqF g.fFrom noS then g.fN == 0 else false) else g.fN == 0
theorem f225_eq (n : Nat) (g : Give) (to : Col) : f225 n g to = some (numdB g to) := by
  unfold f225 numdB f225_k17 f225_k23 f225_k31
  simp only [f58_eq, Option.bind_some, cs]
  rfl
theorem inR0 (x : Int) : inR x 0 0 = (x == 0) := by
  unfold inR
  rw [Bool.eq_iff_iff]
  simp only [Bool.and_eq_true, decide_eq_true_eq, beq_iff_eq]
  omega
theorem argBad_eq (g : Give) (to : Col) : argBad g to = bif !inR g.fHow 1 7 then true else !numdB g to := by
  cases h7 : inR g.fHow 1 7 with
  | false => unfold argBad; rw [h7]; rfl
  | true =>
    have hr : 1 ≤ g.fHow ∧ g.fHow ≤ 7 := by unfold inR at h7; simpa using h7
    have sub : inR g.fN 0 1 = true → inR g.fN (-1099511627776) 1099511627776 = true := fun h => by
      unfold inR at h ⊢
      simp only [Bool.and_eq_true, decide_eq_true_eq] at h ⊢
      omega
    have cases7 : g.fHow = 1 ∨ g.fHow = 2 ∨ g.fHow = 3 ∨ g.fHow = 4 ∨ g.fHow = 5 ∨ g.fHow = 6 ∨ g.fHow = 7 := by omega
    unfold argBad restBad mostB numdB
    rw [h7]
    rcases cases7 with h | h | h | h | h | h | h <;> rw [h]
    · show (bif !inR g.fN 0 0 then true else false) = !(g.fN == 0)
      rw [inR0]; cases (g.fN == 0) <;> rfl
    · show (bif !inR g.fN 0 0 then true else false) = !(g.fN == 0)
      rw [inR0]; cases (g.fN == 0) <;> rfl
    · show (bif !inR g.fN 0 0 then true else false) = !(g.fN == 0)
      rw [inR0]; cases (g.fN == 0) <;> rfl
    · show (bif !inR g.fN (-1099511627776) 1099511627776 then true else false) = !inR g.fN (-1099511627776) 1099511627776
      cases inR g.fN (-1099511627776) 1099511627776 <;> rfl
    · show (bif !inR g.fN 0 0 then true else false) = !(g.fN == 0)
      rw [inR0]; cases (g.fN == 0) <;> rfl
    · show (bif !sEqF g.fFrom noS then true else bif !inR g.fN (-1099511627776) 1099511627776 then true else bif to.fKind == 2 then !inR g.fN 0 1 else false) = !(bif to.fKind == 2 then (bif sEqF g.fFrom noS then inR g.fN 0 1 else false) else bif sEqF g.fFrom noS then inR g.fN (-1099511627776) 1099511627776 else false)
      revert sub
      cases sEqF g.fFrom noS <;> cases inR g.fN (-1099511627776) 1099511627776 <;> cases to.fKind == 2 <;> cases inR g.fN 0 1 <;> intro sub <;> first | rfl | exact nomatch (sub rfl)
    · show (bif !sEqF g.fFrom noS then true else bif !inR g.fN 0 0 then true else false) = !(bif sEqF g.fFrom noS then g.fN == 0 else false)
      rw [inR0]
      cases sEqF g.fFrom noS <;> cases (g.fN == 0) <;> rfl
theorem f226_k7_eq {g : Give} {x to : Col} (hn : l.length < n) (hl : l.length < 4611686018427387904) (hna : NoAny l) (hto : ColOk to) (harg : argBad g to = false) :
    f226_k7 g n l to x.fName x.fKind x.fClass = some (fitsB l g x to) := by
  have h6 : (g.fHow == 6) = true → (to.fKind == 2) = true → inR g.fN 0 1 = true := fun h1 h2 => by
    unfold argBad restBad at harg
    rw [h1, h2] at harg
    have : g.fHow = 6 := eq_of_beq h1
    rw [this] at harg
    revert harg
    show (bif !sEqF g.fFrom noS then true else bif !inR g.fN (-mostB g) (mostB g) then true else !inR g.fN 0 1) = false → _
    cases sEqF g.fFrom noS <;> cases inR g.fN (-mostB g) (mostB g) <;> cases inR g.fN 0 1 <;> intro h <;> first | rfl | cases h
  have hk : to.fKind = 1 ∨ to.fKind = 2 ∨ to.fKind = 3 := by
    have := hto.kd
    unfold inR at this
    simp only [Bool.and_eq_true, decide_eq_true_eq] at this
    omega
  -- 'lead' is asked where it does not matter, too
  by_cases h3 : to.fKind = 3
  · have hb : sEqF to.fClass ANY = false → sEqF noS to.fClass = false := hto.cl (by rw [h3]; rfl)
    unfold f226_k7 fitsB f226_k27 f226_k33 f226_k38 f226_k43 f226_k51
    rw [f227_eq hn hl hna hb, h3]
    simp only [Option.bind_some, cs]
    cases hkx : (x.fKind == 3) with
    | true => have := eq_of_beq hkx; rw [this]; cases g.fHow == 1 <;> cases g.fHow == 2 <;> cases g.fHow == 3 <;> cases g.fHow == 4 <;> cases g.fHow == 5 <;> cases g.fHow == 6 <;> rfl
    | false => cases g.fHow == 1 <;> cases g.fHow == 2 <;> cases g.fHow == 3 <;> cases g.fHow == 4 <;> cases g.fHow == 5 <;> cases g.fHow == 6 <;> (try rfl) <;> cases x.fKind == 1 <;> cases x.fKind == 2 <;> rfl
  · have hne : (to.fKind == 3) = false := by simpa using h3
    have hne2 : (to.fKind != 3) = true := by simp only [bne, hne]; rfl
    have lead : ∃ b, f227 n l ⟨x.fName, x.fKind, x.fClass⟩ to = some b := by
      unfold f227 f227_k5
      rw [f228_eq hn hl]
      cases sEqF to.fClass (ByteArray.mk #[65, 78, 89]) <;> cases sEqF x.fClass (ByteArray.mk #[65, 78, 89]) <;> exact ⟨_, rfl⟩
    obtain ⟨b, hb⟩ := lead
    unfold f226_k7 fitsB f226_k27 f226_k33 f226_k38 f226_k43 f226_k51
    rw [hb, hne, hne2]
    simp only [Option.bind_some, cs, cond_true, cond_false]
    cases h1 : (g.fHow == 1) with
    | true =>
      simp only [cond_true]
      cases hkk : (x.fKind == to.fKind) with
      | true =>
        have := eq_of_beq hkk
        have hx : (x.fKind != 3) = true := by rw [this]; exact hne2
        rw [hx]; rfl
      | false => rfl
    | false =>
      simp only [cond_false]
      cases g.fHow == 2 <;> cases g.fHow == 3 <;> cases g.fHow == 4 <;> cases g.fHow == 5 <;> (try (cases x.fKind == 1 <;> cases x.fKind == 2 <;> cases x.fKind == 3 <;> rfl))
      cases hh : (g.fHow == 6) with
      | false => rfl
      | true =>
        have h6' := h6 hh
        rcases hk with hk | hk | hk
        · rw [hk]; rfl
        · rw [hk]; rw [hk] at h6'; show some true = some (inR g.fN 0 1); rw [h6' rfl]
        · exact absurd hk h3
theorem f219_eq {f : Form} {g : Give} {to : Col} (hn : l.length < n) (hc : f.fCols.length < n) (hn2 : n < 4611686018427387904) (hna : NoAny l) (hto : ColOk to) : f219 n l f g to = some (giveB l g f.fCols to) := by
  have hl : l.length < 4611686018427387904 := by omega
  have k7 : (inR g.fHow 1 5 = true → ¬ colIx f.fCols g.fFrom < 0) → f219_k7 n g to l f false = some (bif argBad g to then 1 else bif fitsB l g (srcOf f.fCols g) to then 0 else 8) := fun hi => by
    unfold f219_k7 f219_k20
    simp only [cond_false]
    rw [f225_eq, f58_eq]
    simp only [Option.bind_some]
    cases h7 : argBad g to with
    | true =>
      have := argBad_eq g to
      rw [h7] at this
      revert this
      cases inR g.fHow 1 7 <;> cases numdB g to <;> intro this <;> first | rfl | cases this
    | false =>
      have := argBad_eq g to
      rw [h7] at this
      have h8 : inR g.fHow 1 7 = true ∧ numdB g to = true := by
        revert this
        cases inR g.fHow 1 7 <;> cases numdB g to <;> intro this <;> first | exact ⟨rfl, rfl⟩ | cases this
      rw [h8.1, h8.2]
      simp only [Bool.not_true, cond_false]
      have h9 : f226 n l f g to = some (fitsB l g (srcOf f.fCols g) to) := by
        unfold f226
        rw [f217_eq]
        simp only [Option.bind_some]
        unfold srcOf
        cases ha : inR g.fHow 1 5 with
        | true =>
          simp only [cond_true]
          rw [f57_eq hc (by omega)]
          simp only [Option.bind_some]
          rw [(colAt_gi (hi ha)).1]
          simp only [Option.bind_some]
          exact f226_k7_eq hn hl hna hto h7
        | false =>
          simp only [cond_false]
          exact f226_k7_eq (x := noC) hn hl hna hto h7
      rw [h9]
      simp only [Option.bind_some]
      cases fitsB l g (srcOf f.fCols g) to <;> rfl
  unfold f219 giveB
  rw [f217_eq]
  simp only [Option.bind_some]
  cases ha : inR g.fHow 1 5 with
  | true =>
    simp only [cond_true, Bool.true_and]
    rw [f57_eq hc (by omega)]
    simp only [Option.bind_some]
    cases hi : decide (colIx f.fCols g.fFrom < 0) with
    | true => rfl
    | false =>
      have := of_decide_eq_false hi
      exact k7 (fun _ => this)
  | false => exact k7 (fun h => by rw [ha] at h; cases h)
end
end Go.Proofs
end
section
set_option linter.unusedVariables false
namespace Go.Proofs
open Go.Vm
def fst0 (E : Nat → Int) : Nat → Nat → Int
  | 0, _ => 0
  | d + 1, k => bif E k == 0 then fst0 E d (k + 1) else E k
theorem fst0_zero {E : Nat → Int} : ∀ (d k : Nat), fst0 E d k = 0 → ∀ j, k ≤ j → j < k + d → E j = 0
  | 0, k, h => fun j h1 h2 => by omega
  | d + 1, k, h => by
    unfold fst0 at h
    cases he : E k == 0 with
    | false =>
      rw [he] at h
      have : E k = 0 := h
      rw [this] at he; cases he
    | true =>
      rw [he] at h
      intro j h1 h2
      by_cases hj : j = k
      · subst hj; exact eq_of_beq he
      · exact fst0_zero d (k + 1) h j (by omega) (by omega)
theorem goN_fst {E : Nat → Int} (K : Option Int) : ∀ (d k : Nat), goN (fun k acc => bif E k == 0 then acc else some (E k)) K d k = bif fst0 E d k == 0 then K else some (fst0 E d k)
  | 0, k => rfl
  | d + 1, k => by
    show (bif E k == 0 then goN _ K d (k + 1) else some (E k)) = _
    rw [goN_fst K d (k + 1), show fst0 E (d + 1) k = bif E k == 0 then fst0 E d (k + 1) else E k from rfl]
    cases he : E k == 0 with
    | true => rfl
    | false => simp only [cond_false, he]
theorem scanF (N : Nat) (K : Option Int) (E : Nat → Int) (L : Nat → Int → Option Int) (hL : ∀ m (k : Nat), k < N → L (m + 1) k = bif E k == 0 then L m (wr .i64 (k + 1)) else some (E k)) (hK : ∀ m, L (m + 1) N = K) (hl : N < 4611686018427387904) {n : Nat} (hn : N < n) :
    L n 0 = bif fst0 E N 0 == 0 then K else some (fst0 E N 0) :=
  (scanN N K (fun k acc => bif E k == 0 then acc else some (E k)) L hL hK hl N 0 n (by omega) hn).trans (goN_fst K N 0)
def formAt (l : List Form) (s : ByteArray) : Form := (l.find? fun x => sEqF x.fName s).getD ⟨noS, []⟩
def E1 (A B : List Form) (L : List Rule) (k : Nat) : Int := match L[k]? with
  | none => 0
  | some r => bif decide (formIx A r.fClass < 0) then 4 else bif decide (formIx B r.fTo < 0) then 4 else bif hasRule (L.take k) r.fClass then 6 else 0
def E2 (A : List Form) (L : List Rule) (k : Nat) : Int := match A[k]? with
  | none => 0
  | some f => bif hasRule L f.fName then 0 else 5
def E4 (L : List Rule) (r : Rule) (f t : Form) (k : Nat) : Int := match r.fGives[k]?, t.fCols[k]? with
  | some g, some c => giveB L g f.fCols c
  | _, _ => 0
def E3 (A B : List Form) (L : List Rule) (k : Nat) : Int := match L[k]? with
  | none => 0
  | some r => bif r.fGives.length == (formAt B r.fTo).fCols.length then fst0 (E4 L r (formAt A r.fClass) (formAt B r.fTo)) r.fGives.length 0 else 2
def rulesE (A B : List Form) (L : List Rule) : Int :=
  bif decide (len L > 24) then 3 else bif fst0 (E1 A B L) L.length 0 == 0 then (bif fst0 (E2 A L) A.length 0 == 0 then fst0 (E3 A B L) L.length 0 else fst0 (E2 A L) A.length 0) else fst0 (E1 A B L) L.length 0
theorem formAt_gi {l : List Form} {s : ByteArray} (h : ¬ formIx l s < 0) : gi l (formIx l s) = some (formAt l s) ∧ formAt l s ∈ l ∧ sEqF (formAt l s).fName s = true := by
  unfold formIx at h ⊢
  obtain ⟨x, h1, h2, h3, h4⟩ := ix_gi (p := fun x : Form => sEqF x.fName s) (l := l) (by omega)
  have e : formAt l s = x := by unfold formAt; rw [h1]; rfl
  rw [e]
  exact ⟨h2, h3, h4⟩
theorem E1_zero {A B : List Form} {L : List Rule} (h : fst0 (E1 A B L) L.length 0 = 0) {k : Nat} (hk : k < L.length) :
    ¬ formIx A L[k].fClass < 0 ∧ ¬ formIx B L[k].fTo < 0 ∧ hasRule (L.take k) L[k].fClass = false := by
  have := fst0_zero L.length 0 h k (Nat.zero_le _) (by omega)
  unfold E1 at this
  rw [List.getElem?_eq_getElem hk] at this
  have e3 : ∀ a b c : Bool, (bif a then (4 : Int) else bif b then 4 else bif c then 6 else 0) = 0 → a = false ∧ b = false ∧ c = false := by decide
  obtain ⟨h1, h2, h3⟩ := e3 _ _ _ this
  exact ⟨of_decide_eq_false h1, of_decide_eq_false h2, h3⟩
theorem lt_len {α : Type} (l : List α) (k : Nat) (hk : k < l.length) : decide ((k : Int) < len l) = true := by simp [len]; omega
theorem ge_len {α : Type} (l : List α) : decide ((l.length : Int) < len l) = false := by simp [len]
theorem bne_len {α β : Type} (a : List α) (b : List β) : (len a != len b) = !(a.length == b.length) := by
  show (!(((a.length : Nat) : Int) == ((b.length : Nat) : Int))) = _
  congr 1
  rw [Bool.eq_iff_iff]
  simp only [beq_iff_eq]
  omega
structure RuleSz (n : Nat) (A B : List Form) (L : List Rule) : Prop where
  a : A.length < n
  b : B.length < n
  r : L.length < n
  ac : ∀ f ∈ A, f.fCols.length < n
  bc : ∀ f ∈ B, f.fCols.length < n
section
variable {n : Nat} {A B : List Form} {L : List Rule}
theorem f80_eq (hz : RuleSz n A B L) (hn : n < 4611686018427387904) : f80 n A B L = some (rulesE A B L) := by
  have hA := hz.a; have hB := hz.b; have hL := hz.r
  unfold f80 rulesE
  cases hd : decide (len L > 24) with
  | true => rfl
  | false =>
  simp only [cond_false]
  have l1 := scanF L.length (f80_k10 n A L B) (E1 A B L) (f80_l14 L n A B (f80_k10 n A L B)) (fun m k hk => by
      rw [f80_l14.eq_2, lt_len L k hk, gi_nat]
      unfold E1 f80_k51
      simp only [List.getElem?_eq_getElem hk, Option.bind_some, cond_true]
      rw [f52_eq hA (by omega), f52_eq hB (by omega), sli_take L k (by omega)]
      simp only [Option.bind_some]
      rw [f78_eq (by rw [List.length_take]; omega) (by rw [List.length_take]; omega)]
      simp only [Option.bind_some]
      cases decide (formIx A L[k].fClass < 0) <;> cases decide (formIx B L[k].fTo < 0) <;> cases hasRule (L.take k) L[k].fClass <;> rfl)
    (fun m => by rw [f80_l14.eq_2, ge_len]; rfl) (by omega) (n := n) hL
  rw [l1]
  cases h1 : fst0 (E1 A B L) L.length 0 == 0 with
  | false => rfl
  | true =>
  simp only [cond_true]
  have z1 := eq_of_beq h1
  have l2 := scanF A.length (f80_k68 n L A B) (E2 A L) (f80_l72 A n L (f80_k68 n L A B)) (fun m k hk => by
      rw [f80_l72.eq_2, lt_len A k hk, gi_nat]
      unfold E2
      simp only [List.getElem?_eq_getElem hk, Option.bind_some, cond_true]
      rw [f78_eq hL (by omega)]
      simp only [Option.bind_some]
      cases hasRule L A[k].fName <;> rfl)
    (fun m => by rw [f80_l72.eq_2, ge_len]; rfl) (by omega) (n := n) hA
  unfold f80_k10
  rw [l2]
  cases h2 : fst0 (E2 A L) A.length 0 == 0 with
  | false => rfl
  | true =>
  simp only [cond_true]
  have l3 := scanF L.length f80_k102 (E3 A B L) (f80_l106 L n A B f80_k102) (fun m k hk => by
      obtain ⟨i1, i2, _⟩ := E1_zero z1 hk
      obtain ⟨a1, a2, _⟩ := formAt_gi i1
      obtain ⟨b1, b2, _⟩ := formAt_gi i2
      rw [f80_l106.eq_2, lt_len L k hk, gi_nat]
      unfold E3
      simp only [List.getElem?_eq_getElem hk, Option.bind_some, cond_true]
      rw [f52_eq hA (by omega), f52_eq hB (by omega)]
      simp only [Option.bind_some]
      rw [a1, b1]
      simp only [Option.bind_some]
      rw [bne_len]
      generalize formAt A L[k].fClass = f at *
      generalize formAt B L[k].fTo = t at *
      cases hl : L[k].fGives.length == t.fCols.length with
      | false => rfl
      | true =>
      have hl' := eq_of_beq hl
      have hac := hz.ac f a2
      have hbc := hz.bc t b2
      simp only [Bool.not_true, cond_false, cond_true]
      generalize hG : f80_l106 L n A B f80_k102 m (wr .i64 ((k : Int) + 1)) = G
      have l4 := scanF L[k].fGives.length (f80_k171 k (f80_l106 L n A B f80_k102 m)) (E4 L L[k] f t) (f80_l194 L[k] t n L f (f80_k171 k (f80_l106 L n A B f80_k102 m))) (fun m' j hj => by
          rw [f80_l194.eq_2, lt_len _ j hj, gi_nat, gi_nat]
          unfold E4
          simp only [List.getElem?_eq_getElem hj, List.getElem?_eq_getElem (show j < t.fCols.length by omega), Option.bind_some, cond_true]
          rw [f116_eq hL hac hn]
          simp only [Option.bind_some, bne]
          cases giveB L L[k].fGives[j] f.fCols t.fCols[j] == 0 <;> rfl)
        (fun m' => by rw [f80_l194.eq_2, ge_len]; rfl) (by omega) (n := n) (by omega)
      rw [l4]
      unfold f80_k171
      rw [hG])
    (fun m => by rw [f80_l106.eq_2, ge_len]; rfl) (by omega) (n := n) hL
  unfold f80_k68
  rw [l3]
  unfold f80_k102
  cases h3 : fst0 (E3 A B L) L.length 0 == 0 with
  | false => rfl
  | true => rw [eq_of_beq h3]; rfl
end
end Go.Proofs
end
section
set_option linter.unusedVariables false
namespace Go.Proofs
open Go.Vm
theorem classB_ANY : classB ANY = false := by decide
theorem classB_noS : classB noS = false := by decide
theorem FormsOk.name {l : List Form} (h : FormsOk l) {s : ByteArray} (hi : ¬ formIx l s < 0) : classB s = true := by
  obtain ⟨_, h2, h3⟩ := formAt_gi hi
  rw [← sEqF_eq h3]
  exact h.nm _ h2
theorem FormsOk.colOk {l : List Form} (h : FormsOk l) {f : Form} (hf : f ∈ l) {c : Col} (hc : c ∈ f.fCols) : ColOk c := by
  obtain ⟨_, h2, _⟩ := h.col hf hc
  refine ⟨h2, fun h3 h4 => ?_⟩
  have := h.rf f hf c hc
  rw [h3, h4] at this
  cases h5 : decide (formIx l c.fClass < 0) with
  | true => rw [h5] at this; cases this
  | false =>
    have h6 := h.name (of_decide_eq_false h5)
    cases h7 : sEqF noS c.fClass with
    | false => rfl
    | true =>
      rw [← sEqF_eq h7, classB_noS] at h6
      cases h6
section
variable {n : Nat} {A B : List Form} {L : List Rule}
theorem noAny_of (hA : FormsOk A) (h : fst0 (E1 A B L) L.length 0 = 0) : NoAny L := fun r hr => by
  obtain ⟨k, hk, rfl⟩ := List.getElem_of_mem hr
  obtain ⟨h1, _, _⟩ := E1_zero h hk
  have h2 := hA.name h1
  cases h3 : sEqF L[k].fClass ANY with
  | false => rfl
  | true =>
    rw [sEqF_eq h3, classB_ANY] at h2
    cases h2
theorem f214_eq (hz : RuleSz n A B L) (hoA : FormsOk A) (hoB : FormsOk B) (hn : n < 4611686018427387904) : f214 n A B L = some (rulesE A B L) := by
  have hA := hz.a; have hB := hz.b; have hL := hz.r
  unfold f214 rulesE
  cases hd : decide (len L > 24) with
  | true => rfl
  | false =>
  simp only [cond_false]
  have l1 := scanF L.length (f214_k10 n A L B) (E1 A B L) (f214_l13 L n A B (f214_k10 n A L B)) (fun m k hk => by
      rw [f214_l13.eq_2, lt_len L k hk, gi_nat]
      unfold E1 f214_k49
      simp only [List.getElem?_eq_getElem hk, Option.bind_some, cond_true, gi_nat]
      rw [f55_eq hA (by omega), f55_eq hB (by omega), f212_eq hL (by omega)]
      simp only [Option.bind_some]
      rw [ahead (ruleP L[k].fClass) L k hk (sEqF_refl _), ixOf_ge]
      unfold hasRule
      cases decide (formIx A L[k].fClass < 0) <;> cases decide (formIx B L[k].fTo < 0) <;> cases (L.take k).any (ruleP L[k].fClass) <;> rfl)
    (fun m => by rw [f214_l13.eq_2, ge_len]; rfl) (by omega) (n := n) hL
  rw [l1]
  cases h1 : fst0 (E1 A B L) L.length 0 == 0 with
  | false => rfl
  | true =>
  simp only [cond_true]
  have z1 := eq_of_beq h1
  have hna := noAny_of hoA z1
  have l2 := scanF A.length (f214_k69 n L A B) (E2 A L) (f214_l72 A n L (f214_k69 n L A B)) (fun m k hk => by
      rw [f214_l72.eq_2, lt_len A k hk, gi_nat]
      unfold E2
      simp only [List.getElem?_eq_getElem hk, Option.bind_some, cond_true]
      rw [f212_eq hL (by omega)]
      simp only [Option.bind_some]
      rw [ix_neg]
      unfold hasRule
      cases L.any (ruleP A[k].fName) <;> rfl)
    (fun m => by rw [f214_l72.eq_2, ge_len]; rfl) (by omega) (n := n) hA
  unfold f214_k10
  rw [l2]
  cases h2 : fst0 (E2 A L) A.length 0 == 0 with
  | false => rfl
  | true =>
  simp only [cond_true]
  have l3 := scanF L.length f214_k100 (E3 A B L) (f214_l103 L n A B f214_k100) (fun m k hk => by
      obtain ⟨i1, i2, _⟩ := E1_zero z1 hk
      obtain ⟨a1, a2, _⟩ := formAt_gi i1
      obtain ⟨b1, b2, _⟩ := formAt_gi i2
      rw [f214_l103.eq_2, lt_len L k hk, gi_nat]
      unfold E3
      simp only [List.getElem?_eq_getElem hk, Option.bind_some, cond_true]
      rw [f55_eq hA (by omega), f55_eq hB (by omega)]
      simp only [Option.bind_some]
      rw [a1, b1]
      simp only [Option.bind_some]
      rw [bne_len]
      generalize formAt A L[k].fClass = f at *
      generalize formAt B L[k].fTo = t at *
      cases hl : L[k].fGives.length == t.fCols.length with
      | false => rfl
      | true =>
      have hl' := eq_of_beq hl
      have hac := hz.ac f a2
      have hbc := hz.bc t b2
      simp only [Bool.not_true, cond_false, cond_true]
      generalize hG : f214_l103 L n A B f214_k100 m (wr .i64 ((k : Int) + 1)) = G
      have l4 := scanF t.fCols.length (f214_k177 k (f214_l103 L n A B f214_k100 m)) (E4 L L[k] f t) (f214_l203 t L k n f (f214_k177 k (f214_l103 L n A B f214_k100 m))) (fun m' j hj => by
          rw [f214_l203.eq_2, lt_len _ j hj, gi_nat, gi_nat]
          unfold E4
          simp only [List.getElem?_eq_getElem hj, List.getElem?_eq_getElem hk, List.getElem?_eq_getElem (show j < L[k].fGives.length by omega), Option.bind_some, cond_true, gi_nat]
          rw [f219_eq hL hac hn hna (hoB.colOk b2 (List.getElem_mem hj))]
          simp only [Option.bind_some, bne]
          cases giveB L L[k].fGives[j] f.fCols t.fCols[j] == 0 <;> rfl)
        (fun m' => by rw [f214_l203.eq_2, ge_len]; rfl) (by omega) (n := n) (by omega)
      rw [l4, hl']
      unfold f214_k177
      rw [hG])
    (fun m => by rw [f214_l103.eq_2, ge_len]; rfl) (by omega) (n := n) hL
  unfold f214_k69
  rw [l3]
  unfold f214_k100
  cases h3 : fst0 (E3 A B L) L.length 0 == 0 with
  | false => rfl
  | true => rw [eq_of_beq h3]; rfl
end
end Go.Proofs
end
section
set_option linter.unusedVariables false
namespace Go.Proofs
open Go.Vm
theorem f49_two {n : Nat} (h : 100 < n) (a b : Int) : f49 n [a, b] = some (bif a != 0 then a else b) := by
  obtain ⟨m, rfl⟩ : ∃ m, n = m + 3 := ⟨n - 3, by omega⟩
  show (bif a != 0 then some a else bif b != 0 then some b else f49_k3) = _
  unfold f49_k3
  cases ha : a != 0 with
  | true => rfl
  | false =>
    cases hb : b != 0 with
    | true => rfl
    | false =>
      have : b = 0 := by simpa using hb
      rw [this]; rfl
theorem f49_one {n : Nat} (h : 100 < n) (a : Int) : f49 n [a] = some a := by
  obtain ⟨m, rfl⟩ : ∃ m, n = m + 3 := ⟨n - 3, by omega⟩
  show (bif a != 0 then some a else f49_k3) = _
  unfold f49_k3
  cases ha : a != 0 with
  | true => rfl
  | false =>
    have : a = 0 := by simpa using ha
    rw [this]; rfl
theorem ruleSz {n : Nat} {A B : List Form} {L : List Rule} (hA : FormSz n A) (hB : FormSz n B) (hL : L.length < n) : RuleSz n A B L :=
  ⟨hA.1, hB.1, hL, fun f hf => (hA.2 f hf).2.1, fun f hf => (hB.2 f hf).2.1⟩
theorem f33_f210 {n : Nat} {A B : List Form} {L : List Rule} (hA : FormSz n A) (hB : FormSz n B) (hL : L.length < n) (h9 : 100 < n) (hn : n < 4611686018427387904) :
    ∃ e, f33 n A B L = some e ∧ f210 n A B L = some e ∧ (e = 0 → f16 n A = some 0 ∧ f16 n B = some 0 ∧ rulesE A B L = 0) := by
  obtain ⟨a, ha⟩ := f16_tot hA h9 hn
  obtain ⟨b, hb⟩ := f16_tot hB h9 hn
  have hz := ruleSz hA hB hL
  unfold f33 f210 f210_k8
  rw [← f16_f17 hA h9 hn, ← f16_f17 hB h9 hn, ha, hb]
  simp only [Option.bind_some]
  rw [f49_two h9, f80_eq hz hn]
  simp only [Option.bind_some]
  cases h1 : a != 0 with
  | true =>
    have h1' : (a == 0) = false := by simpa [bne] using h1
    rw [h1']
    simp only [cond_true, cond_false, h1]
    exact ⟨a, rfl, rfl, fun h => by rw [h] at h1; cases h1⟩
  | false =>
    have h1' : a = 0 := by simpa using h1
    subst h1'
    cases h2 : b != 0 with
    | true =>
      simp only [cond_false, cond_true, h2, show ((0 : Int) == 0) = true from rfl]
      exact ⟨b, rfl, rfl, fun h => by rw [h] at h2; cases h2⟩
    | false =>
      have h2' : b = 0 := by simpa using h2
      subst h2'
      rw [f214_eq hz (formsOk_of hA h9 hn ha) (formsOk_of hB h9 hn hb) hn]
      exact ⟨rulesE A B L, rfl, rfl, fun h => ⟨rfl, rfl, h⟩⟩
end Go.Proofs
end
section
set_option linter.unusedVariables false
namespace Go.Proofs
open Go.Vm
theorem f59_zero {L : List Form} {g : Graph} {n : Nat} (h : f59 n L g = some 0) (hz : FormSz n L) (hg : GraphSz n g) (hn : n < 4611686018427387904) :
    ∀ x ∈ g.fNodes, ¬ formIx L x.fClass < 0 ∧ x.fVals.length = (formAt L x.fClass).fCols.length := by
  have hL := hz.1
  unfold f59 at h
  rw [f74_eq hg hn] at h
  simp only [Option.bind_some] at h
  cases hf : (formedR g != 0) with
  | true =>
    rw [hf] at h
    have : formedR g = 0 := Option.some.inj h
    rw [this] at hf; cases hf
  | false =>
    rw [hf] at h
    simp only [cond_false] at h
    rw [f97_eq hg.1 hL hn] at h
    simp only [Option.bind_some] at h
    cases hc : (g.fNodes.any fun x => decide (formIx L x.fClass < 0)) with
    | true => rw [hc] at h; cases h
    | false =>
      have hc' : ∀ x ∈ g.fNodes, decide (formIx L x.fClass < 0) = false := fun x hx => by
        have := List.any_eq_false.1 hc x hx
        simpa using this
      rw [hc] at h
      simp only [cond_false] at h
      rw [f71_eq hz hg hn (formed_vals hf) hc'] at h
      simp only [Option.bind_some, f50_eq] at h
      cases ha : g.fNodes.all (nodeB L g) with
      | false => rw [ha] at h; cases h
      | true =>
        intro x hx
        have h1 := of_decide_eq_false (hc' x hx)
        refine ⟨h1, ?_⟩
        have h2 := List.all_eq_true.1 ha x hx
        unfold nodeB at h2
        rw [(formAt_gi h1).1] at h2
        have h3 := (Bool.and_eq_true _ _ ▸ h2 : _ ∧ _).1
        have h4 : (x.fVals.length : Int) = ((formAt L x.fClass).fCols.length : Int) := eq_of_beq h3
        omega
section
variable {α τ ρ : Type}
def fin (mk : Nat → α ⊕ τ) : Nat → Nat → List α → List α ⊕ τ
  | 0, k, s => .inl s
  | d + 1, k, s => match mk k with
    | .inl x => fin mk d (k + 1) (s ++ [x])
    | .inr t => .inr t
theorem fin_len {mk : Nat → α ⊕ τ} : ∀ (d k : Nat) (s r : List α), fin mk d k s = .inl r → r.length = s.length + d
  | 0, k, s, r, h => by cases h; rfl
  | d + 1, k, s, r, h => by
    have h1 : (match mk k with | .inl x => fin mk d (k + 1) (s ++ [x]) | .inr t => .inr t) = Sum.inl r := h
    cases hm : mk k with
    | inl x =>
      rw [hm] at h1
      have := fin_len d (k + 1) (s ++ [x]) r h1
      rw [this, List.length_append]; simp; omega
    | inr t => rw [hm] at h1; cases h1
theorem fin_mem {mk : Nat → α ⊕ τ} {P : α → Prop} (hP : ∀ k x, mk k = .inl x → P x) : ∀ (d k : Nat) (s r : List α), fin mk d k s = .inl r → (∀ x ∈ s, P x) → ∀ x ∈ r, P x
  | 0, k, s, r, h, hs => by cases h; exact hs
  | d + 1, k, s, r, h, hs => by
    have h1 : (match mk k with | .inl x => fin mk d (k + 1) (s ++ [x]) | .inr t => .inr t) = Sum.inl r := h
    cases hm : mk k with
    | inl x =>
      rw [hm] at h1
      refine fin_mem hP d (k + 1) (s ++ [x]) r h1 (fun y hy => ?_)
      rcases List.mem_append.1 hy with h2 | h2
      · exact hs y h2
      · rw [List.mem_singleton.1 h2]; exact hP k x hm
    | inr t => rw [hm] at h1; cases h1
theorem scanE1 (N : Nat) (mk : Nat → α ⊕ τ) (K : List α → Option ρ) (G : τ → Option ρ) (L : Nat → Int → List α → Option ρ)
    (hL : ∀ m (k : Nat) s, k < N → s.length = k → L (m + 1) k s = (mk k).elim (fun x => L m (wr .i64 (k + 1)) (s ++ [x])) G)
    (hK : ∀ m s, s.length = N → L (m + 1) N s = K s) (hl : N < 4611686018427387904) :
    ∀ (d k m : Nat) (s : List α), d + k = N → d < m → s.length = k → L m k s = (fin mk d k s).elim K G
  | 0, k, m, s, hk, hm, hs => by
    obtain ⟨m, rfl⟩ := Nat.exists_eq_succ_of_ne_zero (by omega : m ≠ 0)
    have : k = N := by omega
    subst this
    exact hK m s hs
  | d + 1, k, m, s, hk, hm, hs => by
    obtain ⟨m, rfl⟩ := Nat.exists_eq_succ_of_ne_zero (by omega : m ≠ 0)
    rw [hL m k s (by omega) hs, wr_id (by omega) (by omega)]
    show _ = Sum.elim K G (match mk k with | .inl x => fin mk d (k + 1) (s ++ [x]) | .inr t => .inr t)
    cases hm' : mk k with
    | inl x =>
      have := scanE1 N mk K G L hL hK hl d (k + 1) m (s ++ [x]) (by omega) (by omega) (by simp [hs])
      push_cast at this
      exact this
    | inr t => rfl
theorem scanE (N : Nat) (mk : Nat → α ⊕ τ) (K : List α → Option ρ) (G : τ → Option ρ) (L : Nat → Int → List α → Option ρ)
    (hL : ∀ m (k : Nat) s, k < N → s.length = k → L (m + 1) k s = (mk k).elim (fun x => L m (wr .i64 (k + 1)) (s ++ [x])) G)
    (hK : ∀ m s, s.length = N → L (m + 1) N s = K s) (hl : N < 4611686018427387904) {n : Nat} (hn : N < n) :
    L n 0 [] = (fin mk N 0 []).elim K G := scanE1 N mk K G L hL hK hl N 0 n [] (by omega) hn rfl
end
def noV : Val := ⟨0, 0⟩
def madeB (g : Give) (cols : List Col) (vals : List Val) (c : Col) : Val × Bool :=
  bif g.fHow == 6 then (bif c.fKind == 2 then (⟨2, g.fN⟩, true) else (⟨1, g.fN⟩, true)) else bif g.fHow == 7 then (⟨3, 0⟩, true) else
  let x := (gi vals (colIx cols g.fFrom)).getD noV
  bif g.fHow == 2 then (⟨1, x.fN⟩, true) else bif g.fHow == 3 then (⟨2, x.fN⟩, inR x.fN 0 1) else bif g.fHow == 4 then (x, decide (x.fN < g.fN)) else
  bif g.fHow == 5 then (x, x.fKind == 4) else (x, true)
theorem giveB_src {L : List Rule} {g : Give} {cols : List Col} {to : Col} (h : giveB L g cols to = 0) : inR g.fHow 1 7 = true ∧ (inR g.fHow 1 5 = true → ¬ colIx cols g.fFrom < 0) := by
  unfold giveB at h
  have h3 : ∀ a b c : Bool, (bif a then (4 : Int) else bif b then 1 else bif c then 0 else 8) = 0 → a = false ∧ b = false := by decide
  obtain ⟨h4, h5⟩ := h3 _ _ _ h
  refine ⟨?_, fun h6 => ?_⟩
  · rw [argBad_eq] at h5
    revert h5
    cases inR g.fHow 1 7 <;> intro h5 <;> first | rfl | cases h5
  · rw [h6] at h4
    exact of_decide_eq_false h4
section
variable {n : Nat} {L : List Rule} {g : Give} {f : Form} {x : Node} {c : Col}
theorem src_gi (hl : x.fVals.length = f.fCols.length) (h : ¬ colIx f.fCols g.fFrom < 0) : ∃ v, gi x.fVals (colIx f.fCols g.fFrom) = some v := by
  unfold colIx at h ⊢
  rcases ix_find (fun x : Col => sEqF x.fName g.fFrom) f.fCols 0 with ⟨h1, h2, h3⟩ | ⟨j, y, h1, h2, h3, h4, h5⟩
  · rw [h3] at h; omega
  · rw [h3, Nat.zero_add, gi_nat]
    have hj := (List.getElem?_eq_some_iff.1 h4).1
    exact ⟨_, List.getElem?_eq_getElem (by omega)⟩
theorem f79_eq (hg : giveB L g f.fCols c = 0) (hl : x.fVals.length = f.fCols.length) (hc : f.fCols.length < n) (hn : n < 4611686018427387904) : f79 n g f.fCols x.fVals c = some (madeB g f.fCols x.fVals c) := by
  obtain ⟨h7, h5⟩ := giveB_src hg
  unfold f79 madeB
  cases h6 : g.fHow == 6 with
  | true => cases c.fKind == 2 <;> rfl
  | false =>
  cases h8 : g.fHow == 7 with
  | true => rfl
  | false =>
  have hi : inR g.fHow 1 5 = true := by
    unfold inR at h7 ⊢
    have a := of_decide_eq_true (Bool.and_eq_true _ _ ▸ h7 : _ ∧ _).1
    have b := of_decide_eq_true (Bool.and_eq_true _ _ ▸ h7 : _ ∧ _).2
    have c1 : g.fHow ≠ 6 := by simpa using h6
    have c2 : g.fHow ≠ 7 := by simpa using h8
    simp only [Bool.and_eq_true, decide_eq_true_eq]
    omega
  obtain ⟨v, hv⟩ := src_gi hl (h5 hi)
  simp only [cond_false]
  rw [f95_eq hc (by omega)]
  simp only [Option.bind_some]
  rw [hv]
  simp only [Option.bind_some, Option.getD_some, f86_eq, cs]
theorem f213_eq (hg : giveB L g f.fCols c = 0) (hl : x.fVals.length = f.fCols.length) (hc : f.fCols.length < n) (hn : n < 4611686018427387904) :
    f213 n f x g c = some ⟨(madeB g f.fCols x.fVals c).1, (madeB g f.fCols x.fVals c).2⟩ := by
  obtain ⟨h7, h5⟩ := giveB_src hg
  have cases7 : g.fHow = 1 ∨ g.fHow = 2 ∨ g.fHow = 3 ∨ g.fHow = 4 ∨ g.fHow = 5 ∨ g.fHow = 6 ∨ g.fHow = 7 := by
    unfold inR at h7
    have a := of_decide_eq_true (Bool.and_eq_true _ _ ▸ h7 : _ ∧ _).1
    have b := of_decide_eq_true (Bool.and_eq_true _ _ ▸ h7 : _ ∧ _).2
    omega
  unfold f213
  rw [f217_eq]
  simp only [Option.bind_some]
  have lo : inR g.fHow 1 5 = true → ∃ v, gi x.fVals (colIx f.fCols g.fFrom) = some v := fun h => src_gi hl (h5 h)
  unfold madeB f213_k7
  rcases cases7 with h | h | h | h | h | h | h <;> rw [h] at lo ⊢ <;> (try obtain ⟨v, hv⟩ := lo rfl) <;>
    (try (rw [show inR _ 1 5 = true from rfl, cond_true, f57_eq hc (by omega)]; simp only [Option.bind_some]; rw [hv]; simp only [Option.bind_some, Option.getD_some, f58_eq]; rfl))
  · show (bif c.fKind == 2 then _ else _) = _
    cases c.fKind == 2 <;> rfl
  · rfl
end
end Go.Proofs
end
section
set_option linter.unusedVariables false
namespace Go.Proofs
open Go.Vm
structure RuleOk (A B : List Form) (L : List Rule) (c : ByteArray) : Prop where
  at_ : gi L (ixOf (ruleP c) L 0) = some (ruleAt L c)
  to : ¬ formIx B (ruleAt L c).fTo < 0
  ln : (ruleAt L c).fGives.length = (formAt B (ruleAt L c).fTo).fCols.length
  gv : ∀ (j : Nat) (h1 : j < (ruleAt L c).fGives.length) (h2 : j < (formAt B (ruleAt L c).fTo).fCols.length), giveB L (ruleAt L c).fGives[j] (formAt A c).fCols (formAt B (ruleAt L c).fTo).fCols[j] = 0
theorem rulesE_zero {A B : List Form} {L : List Rule} (h : rulesE A B L = 0) : fst0 (E1 A B L) L.length 0 = 0 ∧ fst0 (E2 A L) A.length 0 = 0 ∧ fst0 (E3 A B L) L.length 0 = 0 := by
  unfold rulesE at h
  cases hd : decide (len L > 24) with
  | true => rw [hd] at h; cases h
  | false =>
    rw [hd] at h
    cases h1 : fst0 (E1 A B L) L.length 0 == 0 with
    | false => rw [h1] at h; have h' : fst0 (E1 A B L) L.length 0 = 0 := h; rw [h'] at h1; cases h1
    | true =>
      rw [h1] at h
      cases h2 : fst0 (E2 A L) A.length 0 == 0 with
      | false => rw [h2] at h; have h' : fst0 (E2 A L) A.length 0 = 0 := h; rw [h'] at h2; cases h2
      | true =>
        rw [h2] at h
        exact ⟨eq_of_beq h1, eq_of_beq h2, h⟩
theorem ruleOk_of {A B : List Form} {L : List Rule} (h : rulesE A B L = 0) {c : ByteArray} (hc : ¬ formIx A c < 0) : RuleOk A B L c := by
  obtain ⟨z1, z2, z3⟩ := rulesE_zero h
  obtain ⟨_, m1, m2⟩ := formAt_gi hc
  have hr : hasRule L c = true := by
    obtain ⟨i, hi, he⟩ := List.getElem_of_mem m1
    have := fst0_zero A.length 0 z2 i (Nat.zero_le _) (by omega)
    unfold E2 at this
    rw [List.getElem?_eq_getElem hi] at this
    have this : (bif hasRule L A[i].fName then (0 : Int) else 5) = 0 := this
    rw [he, sEqF_eq m2] at this
    revert this
    cases hasRule L c <;> intro h <;> first | rfl | cases h
  rcases ix_find (ruleP c) L 0 with ⟨h1, h2, h3⟩ | ⟨j, r, h1, h2, h3, h4, h5⟩
  · unfold hasRule at hr; rw [h2] at hr; cases hr
  · have e : ruleAt L c = r := by unfold ruleAt; rw [h1]; rfl
    obtain ⟨hj, hj'⟩ := List.getElem?_eq_some_iff.1 h4
    obtain ⟨i1, i2, _⟩ := E1_zero z1 hj
    have e3 := fst0_zero L.length 0 z3 j (Nat.zero_le _) (by omega)
    unfold E3 at e3
    rw [h4] at e3
    rw [hj'] at i1 i2
    have hcl : r.fClass = c := sEqF_eq h5
    have e3 : (bif r.fGives.length == (formAt B r.fTo).fCols.length then fst0 (E4 L r (formAt A r.fClass) (formAt B r.fTo)) r.fGives.length 0 else 2) = 0 := e3
    rw [hcl] at e3
    cases hl : r.fGives.length == (formAt B r.fTo).fCols.length with
    | false => rw [hl] at e3; cases e3
    | true =>
      rw [hl] at e3
      have hl' := eq_of_beq hl
      refine ⟨?_, ?_, ?_, ?_⟩
      · rw [e, h3, Nat.zero_add, gi_nat, h4]
      · rw [e]; exact i2
      · rw [e]; exact hl'
      · rw [e]
        intro j h1 h2
        have := fst0_zero r.fGives.length 0 e3 j (Nat.zero_le _) (by omega)
        unfold E4 at this
        rw [List.getElem?_eq_getElem h1, List.getElem?_eq_getElem h2] at this
        exact this
def valMk (A B : List Form) (L : List Rule) (x : Node) (j : Nat) : Val ⊕ ByteArray := match (formAt B (ruleAt L x.fClass).fTo).fCols[j]?, (ruleAt L x.fClass).fGives[j]? with
  | some c, some g => bif (madeB g (formAt A x.fClass).fCols x.fVals c).2 then .inl (madeB g (formAt A x.fClass).fCols x.fVals c).1 else .inr c.fName
  | _, _ => .inr noS
def rowMk (A B : List Form) (L : List Rule) (x : Node) : List Val ⊕ ByteArray := fin (valMk A B L x) (formAt B (ruleAt L x.fClass).fTo).fCols.length 0 []
def nodeMk (A B : List Form) (L : List Rule) (g : Graph) (k : Nat) : Node ⊕ Refusal := match g.fNodes[k]? with
  | some x => (rowMk A B L x).elim (fun v => .inl ⟨(ruleAt L x.fClass).fTo, v⟩) (fun s => .inr ⟨k, s⟩)
  | none => .inr ⟨0, noS⟩
def noG : Graph := ⟨[], []⟩
def convR (A B : List Form) (L : List Rule) (g : Graph) : Graph × Refusal × Int :=
  (fin (nodeMk A B L g) g.fNodes.length 0 []).elim (fun ns => (⟨ns, g.fRoots⟩, ⟨0, noS⟩, 0)) (fun r => (noG, r, 10))
section
variable {n : Nat} {A B : List Form} {L : List Rule} {g : Graph}
theorem f32_l (hz : RuleSz n A B L) (hg : GraphSz n g) (hn : n < 1000000000) (hr : rulesE A B L = 0) (hc : ∀ x ∈ g.fNodes, ¬ formIx A x.fClass < 0 ∧ x.fVals.length = (formAt A x.fClass).fCols.length) (K : List Node → Option (Graph × Refusal × Int)) :
    f32_l29 g n L A B K n 0 [] = (fin (nodeMk A B L g) g.fNodes.length 0 []).elim K (fun r => some (noG, r, 10)) := by
  have hA := hz.a; have hB := hz.b; have hL := hz.r; have hN := hg.1
  refine scanE g.fNodes.length (nodeMk A B L g) K (fun r => some (noG, r, 10)) (f32_l29 g n L A B K) (fun m k s hk hs => ?_) (fun m s hs => by rw [f32_l29.eq_2, ge_len]; rfl) (by omega) hN
  rw [f32_l29.eq_2, lt_len _ k hk, gi_nat]
  unfold nodeMk
  simp only [List.getElem?_eq_getElem hk, Option.bind_some, cond_true]
  obtain ⟨c1, c2⟩ := hc g.fNodes[k] (List.getElem_mem hk)
  generalize g.fNodes[k] = x at *
  have ro := ruleOk_of hr c1
  obtain ⟨a1, a2, _⟩ := formAt_gi c1
  obtain ⟨b1, b2, _⟩ := formAt_gi ro.to
  rw [f78_eq hL (by omega), f52_eq hA (by omega)]
  simp only [Option.bind_some]
  rw [a1, f52_eq hB (by omega)]
  simp only [Option.bind_some]
  rw [b1]
  simp only [Option.bind_some]
  have hac := hz.ac _ a2
  have hbc := hz.bc _ b2
  have l4 := scanE (formAt B (ruleAt L x.fClass).fTo).fCols.length (valMk A B L x) (f32_k120 s (ruleAt L x.fClass, hasRule L x.fClass) k (f32_l29 g n L A B K m)) (fun nm => some (noG, ⟨k, nm⟩, 10))
    (f32_l128 (formAt B (ruleAt L x.fClass).fTo) (ruleAt L x.fClass, hasRule L x.fClass) n (formAt A x.fClass) x k (f32_k120 s (ruleAt L x.fClass, hasRule L x.fClass) k (f32_l29 g n L A B K m))) (fun m' j v hj hv => by
      have hj2 : j < (ruleAt L x.fClass).fGives.length := by rw [ro.ln]; exact hj
      rw [f32_l128.eq_2, lt_len _ j hj, gi_nat, gi_nat]
      unfold valMk
      simp only [List.getElem?_eq_getElem hj, List.getElem?_eq_getElem hj2, Option.bind_some, cond_true]
      rw [f79_eq (ro.gv j hj2 hj) c2 hac (by omega)]
      simp only [Option.bind_some]
      cases (madeB (ruleAt L x.fClass).fGives[j] (formAt A x.fClass).fCols x.fVals (formAt B (ruleAt L x.fClass).fTo).fCols[j]).2 with
      | false => rfl
      | true =>
        simp only [Bool.not_true, cond_false, cond_true]
        rw [app2_eq (by simp; omega)]
        rfl)
    (fun m' v hv => by rw [f32_l128.eq_2, ge_len]; rfl) (by omega) (n := n) hbc
  rw [l4]
  unfold rowMk
  cases fin (valMk A B L x) (formAt B (ruleAt L x.fClass).fTo).fCols.length 0 [] with
  | inl v =>
    show f32_k120 s (ruleAt L x.fClass, hasRule L x.fClass) k (f32_l29 g n L A B K m) v = _
    unfold f32_k120 f32_k106
    rw [app2_eq (by simp; omega)]
    rfl
  | inr nm => rfl
theorem f204_l (hz : RuleSz n A B L) (hg : GraphSz n g) (hn : n < 1000000000) (hr : rulesE A B L = 0) (hc : ∀ x ∈ g.fNodes, ¬ formIx A x.fClass < 0 ∧ x.fVals.length = (formAt A x.fClass).fCols.length) (K : List Node → Option GRE) :
    f204_l23 g n A L B K n 0 [] = (fin (nodeMk A B L g) g.fNodes.length 0 []).elim K (fun r => some ⟨noG, r, 10⟩) := by
  have hA := hz.a; have hB := hz.b; have hL := hz.r; have hN := hg.1
  refine scanE g.fNodes.length (nodeMk A B L g) K (fun r => some ⟨noG, r, 10⟩) (f204_l23 g n A L B K) (fun m k s hk hs => ?_) (fun m s hs => by rw [f204_l23.eq_2, ge_len]; rfl) (by omega) hN
  rw [f204_l23.eq_2, lt_len _ k hk, gi_nat]
  have hx : g.fNodes[k]? = some g.fNodes[k] := List.getElem?_eq_getElem hk
  unfold nodeMk
  rw [hx]
  simp only [Option.bind_some, cond_true]
  obtain ⟨c1, c2⟩ := hc g.fNodes[k] (List.getElem_mem hk)
  generalize g.fNodes[k] = x at *
  have ro := ruleOk_of hr c1
  obtain ⟨a1, a2, _⟩ := formAt_gi c1
  obtain ⟨b1, b2, _⟩ := formAt_gi ro.to
  rw [f55_eq hA (by omega), f212_eq hL (by omega)]
  simp only [Option.bind_some]
  rw [a1, ro.at_]
  simp only [Option.bind_some]
  rw [f55_eq hB (by omega)]
  simp only [Option.bind_some]
  rw [b1]
  simp only [Option.bind_some]
  have hac := hz.ac _ a2
  have hbc := hz.bc _ b2
  have l4 := scanE (formAt B (ruleAt L x.fClass).fTo).fCols.length (valMk A B L x) (f204_k135 s (ruleAt L x.fClass) k (f204_l23 g n A L B K m)) (fun nm => some ⟨noG, ⟨k, nm⟩, 10⟩)
    (f204_l138 (formAt B (ruleAt L x.fClass).fTo) g k (ruleAt L x.fClass) n (formAt A x.fClass) (f204_k135 s (ruleAt L x.fClass) k (f204_l23 g n A L B K m))) (fun m' j v hj hv => by
      have hj2 : j < (ruleAt L x.fClass).fGives.length := by rw [ro.ln]; exact hj
      rw [f204_l138.eq_2, lt_len _ j hj, gi_nat, gi_nat, gi_nat, hx]
      unfold valMk
      simp only [List.getElem?_eq_getElem hj, List.getElem?_eq_getElem hj2, Option.bind_some, cond_true]
      rw [f213_eq (ro.gv j hj2 hj) c2 hac (by omega)]
      simp only [Option.bind_some]
      cases (madeB (ruleAt L x.fClass).fGives[j] (formAt A x.fClass).fCols x.fVals (formAt B (ruleAt L x.fClass).fTo).fCols[j]).2 with
      | false => rfl
      | true =>
        simp only [Bool.not_true, cond_false, cond_true]
        rw [app2_eq (by simp; omega)]
        rfl)
    (fun m' v hv => by rw [f204_l138.eq_2, ge_len]; rfl) (by omega) (n := n) hbc
  rw [l4]
  unfold rowMk
  cases fin (valMk A B L x) (formAt B (ruleAt L x.fClass).fTo).fCols.length 0 [] with
  | inl v =>
    show f204_k135 s (ruleAt L x.fClass) k (f204_l23 g n A L B K m) v = _
    unfold f204_k135 f204_k113
    rw [app2_eq (by simp; omega)]
    rfl
  | inr nm => rfl
theorem rowMk_len {x : Node} {v : List Val} (hz : RuleSz n A B L) (hr : rulesE A B L = 0) (hc : ¬ formIx A x.fClass < 0) (h : rowMk A B L x = .inl v) : v.length < n := by
  unfold rowMk at h
  rw [fin_len _ _ _ _ h]
  have := hz.bc _ (formAt_gi (ruleOk_of hr hc).to).2.1
  simpa using this
theorem convR_sz (hz : RuleSz n A B L) (hg : GraphSz n g) (hr : rulesE A B L = 0) (hc : ∀ x ∈ g.fNodes, ¬ formIx A x.fClass < 0) : GraphSz n (convR A B L g).1 := by
  have h0 : GraphSz n noG := ⟨by have := hg.1; show 0 < n; omega, by have := hg.1; show 0 < n; omega, fun x hx => nomatch hx⟩
  unfold convR
  cases h : fin (nodeMk A B L g) g.fNodes.length 0 [] with
  | inr r => exact h0
  | inl ns =>
    refine ⟨?_, hg.2.1, ?_⟩
    · show ns.length < n
      rw [fin_len _ _ _ _ h]
      have := hg.1
      simpa using this
    · refine fin_mem (P := fun x : Node => x.fVals.length < n) (fun k y hy => ?_) _ _ _ _ h (fun x hx => nomatch hx)
      unfold nodeMk at hy
      cases hx : g.fNodes[k]? with
      | none => rw [hx] at hy; cases hy
      | some x =>
        rw [hx] at hy
        have hy : (rowMk A B L x).elim (fun v => (Sum.inl ⟨(ruleAt L x.fClass).fTo, v⟩ : Node ⊕ Refusal)) (fun s => .inr ⟨k, s⟩) = .inl y := hy
        cases hv : rowMk A B L x with
        | inr s => rw [hv] at hy; cases hy
        | inl v =>
          rw [hv] at hy
          cases hy
          exact rowMk_len hz hr (hc x (List.mem_of_getElem? hx)) hv
theorem f32_f204 (hA : FormSz n A) (hB : FormSz n B) (hL : L.length < n) (hg : GraphSz n g) (h9 : 100 < n) (hn : n < 1000000000) :
    ∃ r : Graph × Refusal × Int, f32 n A B L g = some r ∧ f204 n A B L g = some ⟨r.1, r.2.1, r.2.2⟩ ∧ GraphSz n r.1 := by
  have hz := ruleSz hA hB hL
  have h0 : GraphSz n noG := ⟨by show 0 < n; omega, by show 0 < n; omega, fun x hx => nomatch hx⟩
  obtain ⟨e, e1, e2, e3⟩ := f33_f210 hA hB hL h9 (by omega)
  unfold f32 f204
  rw [e1, e2]
  simp only [Option.bind_some]
  rw [f49_one h9]
  simp only [Option.bind_some]
  cases he : e != 0 with
  | true =>
    have he' : (e == 0) = false := by simpa [bne] using he
    rw [he']
    refine ⟨(noG, ⟨0, noS⟩, e), rfl, ?_, h0⟩
    unfold f204_k9
    rw [he]; rfl
  | false =>
    have he' : e = 0 := by simpa using he
    subst he'
    obtain ⟨p1, p2, p3⟩ := e3 rfl
    obtain ⟨d, d1, d2⟩ := f59_f19 p1 hA hg h9 (by omega)
    rw [d1, d2]
    simp only [Option.bind_some, cond_false, cond_true, show ((0 : Int) == 0) = true from rfl, show ((0 : Int) != 0) = false from rfl]
    unfold f204_k9
    cases hd : d != 0 with
    | true => exact ⟨(noG, ⟨0, noS⟩, d), rfl, rfl, h0⟩
    | false =>
      have hd' : d = 0 := by simpa using hd
      subst hd'
      have hc := f59_zero d1 hA hg (by omega)
      simp only [cond_false]
      rw [app2_eq (by have := hg.2.1; simp; omega)]
      simp only [Option.bind_some]
      rw [f32_l hz hg hn p3 hc, f204_l hz hg hn p3 hc]
      refine ⟨convR A B L g, ?_, ?_, convR_sz hz hg p3 fun x hx => (hc x hx).1⟩
      · unfold convR f32_k25
        cases fin (nodeMk A B L g) g.fNodes.length 0 [] <;> rfl
      · unfold convR f204_k20
        rw [app2_eq (by have := hg.2.1; simp; omega)]
        cases fin (nodeMk A B L g) g.fNodes.length 0 [] <;> rfl
end
end Go.Proofs
end
